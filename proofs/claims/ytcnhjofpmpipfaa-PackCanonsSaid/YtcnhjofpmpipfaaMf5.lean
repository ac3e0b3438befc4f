/- Texts: Qc2, Qc2p, Qc1p, Qcan, Qcanp, Lw6, Qsp2, Lw1, Lw2, Qsp3, Lw4, Lw7, Lw8, Lw9, Lw10, Lw11, Lw12, Lw13, Lw14, Qeq, Qeqp, Qeqf, Qeqfp, Qsm, Qe1, Qsmp, Qsm2, Qsm2p, Lw15, Lw16, Lw17, Lw18, Lw21, Lw22, Jcm, Rsc, Lsp, Rsj, Lg9, Rgr, Rgj, Rg9, Qe2, Qe3, Rn1, Rg8, Rc1, Rc2, Rn2, Rj1, Lg1, Qg3, Qp4, Lp1. -/
import Derived.Test.YtcnhjofpmpipfaaMf4
import Derived.Lib.AppendZerosOnto
/- Made by program: plain forms of functions. -/
section
set_option linter.unusedVariables false
set_option maxRecDepth 100000
noncomputable section
namespace Go.Proofs.Ytcnhjofpmpipfaa
open Go Go.Sx Go.RowKit Go.Jx
def nm_p_canon_2 : Nat → Option Nm := fun k => cond (Nat.beq k 3) (some ⟨[1, 4, 9, 10, 11], [(4, cVal)], [], [], [], 0, 0, false⟩) (cond (Nat.beq k 999999) (some ⟨[], [], [], [], [], 0, 0, false⟩) none)
def st_p_canon_2 : Nat → Bool := fun k => cond (Nat.beq k 3) true (false)
def hd_p_canon_2 : Nat → Bool := fun k => cond (Nat.beq k 3) true (false)
abbrev Rt_p_canon_2 : Type := ((List DVal) × Unit) × ((List (Int × Int)) × Unit) × Unit
def sml_p_canon_2 : List (Nat × Sm) := [(74, sp_slices_CloneO_Val)]
def hxl_p_canon_2 : List (Nat × Hx) := []
def cl_p_canon_2 (R : Type) (lf : Nat) : ClK R := icallK Try.prog ttT.get ftT.get (fun _ _ => none) (smL sml_p_canon_2) (hxL hxl_p_canon_2) lf 20 R
abbrev id_p_canon_2 : Nat := 102
def enc_p_canon_2_3 (x1 : (List DVal)) (x2 : (List (Int × Int))) (p : Int × (List DVal)) : NRes := (NRes.mk (PT.node none (PT.node (some (IV.ptr 0 0)) (PT.node none PT.leaf (PT.node (some (IV.int Go.IntKind.i64 p.1)) PT.leaf PT.leaf)) (PT.node none (PT.node (some (IV.arr 1)) PT.leaf PT.leaf) PT.leaf)) (PT.node none (PT.node (some (IV.arr 1)) PT.leaf PT.leaf) (PT.node none (PT.node (some (IV.int Go.IntKind.i64 (Int.ofNat (List.length x1)))) PT.leaf PT.leaf) PT.leaf))) (IS.mk (PT.node (some (IObj.row (List.cons (IV.map 2) []))) (PT.node (some (IObj.arr cVal p.2)) PT.leaf PT.leaf) (PT.node (some (IObj.tmap (TC.int Go.IntKind.i64) (TC.int Go.IntKind.i64) x2)) PT.leaf PT.leaf)) 3) [] 0)
def R_p_canon_2_in (lf : Nat) (x1 : (List DVal)) (x2 : (List (Int × Int))) (L3 : (Int × (List DVal)) → Option Rt_p_canon_2) : Option Rt_p_canon_2 := (L3 ((Int.ofNat 0), x1))
def R_p_canon_2_3 (lf : Nat) (x1 : (List DVal)) (x2 : (List (Int × Int))) (L3 : (Int × (List DVal)) → Option Rt_p_canon_2) (p : Int × (List DVal)) : Option Rt_p_canon_2 := (cond (iltI p.1 (Int.ofNat (List.length x1))) (match (jget p.2 p.1) with | .none  => none | .some v0 => (match (GetElem?.getElem? p.2 (Int.toNat p.1)) with | .none  => none | .some v1 => (cond (ieqI v1.1 (Int.ofNat 4)) (match (jget p.2 p.1) with | .none  => none | .some v2 => (match (GetElem?.getElem? p.2 (Int.toNat p.1)) with | .none  => none | .some v3 => (L3 ((Go.IntKind.wrap Go.IntKind.i64 (Int.add p.1 (Int.ofNat 1))), (List.set p.2 (Int.toNat p.1) (v3.1, (match (@mfind (TC.int Go.IntKind.i64) (TC.int Go.IntKind.i64) v1.2 x2) with | .none  => (Int.ofNat 0) | .some v33 => v33))))))) (L3 ((Go.IntKind.wrap Go.IntKind.i64 (Int.add p.1 (Int.ofNat 1))), p.2))))) (some ((p.2, ()), ((x2, ()), ()))))
theorem in_p_canon_2 (g : ElP [.dat (.list cVal), .ref (.box [.map (.int .i64) (.int .i64)])] → Option Rt_p_canon_2) (J : Nat → List Nat → NRes → Option Rt_p_canon_2) (lf : Nat) (x1 : (List DVal)) (x2 : (List (Int × Int))) : icodeTB Try.prog ttT.get nm_p_canon_2 (mP [.dat (.list cVal), .ref (.box [.map (.int .i64) (.int .i64)])]) fi102.nt (cl_p_canon_2 _ lf) lf st_p_canon_2 J fi102.body [] (argGo (argsP [.dat (.list cVal), .ref (.box [.map (.int .i64) (.int .i64)])] idN 0 (x1, (x2, ()), ())) 0 .leaf) (Sc [.dat (.list cVal), .ref (.box [.map (.int .i64) (.int .i64)])] (x1, (x2, ()), ())) [] (lastQ ttT.get fi102 ⟨[.dat (.list cVal), .ref (.box [.map (.int .i64) (.int .i64)])], [(true, cVal)], g⟩) = R_p_canon_2_in lf x1 x2 (fun q => J 3 [lf] (enc_p_canon_2_3 x1 x2 q)) := by kernel_rfl
theorem st_p_canon_2_3 (g : ElP [.dat (.list cVal), .ref (.box [.map (.int .i64) (.int .i64)])] → Option Rt_p_canon_2) (J : Nat → List Nat → NRes → Option Rt_p_canon_2) (lf : Nat) (x1 : (List DVal)) (x2 : (List (Int × Int))) (m1 : Nat) (p : Int × (List DVal)) : icodeFTB Try.prog ttT.get nm_p_canon_2 (mP [.dat (.list cVal), .ref (.box [.map (.int .i64) (.int .i64)])]) fi102.nt (cl_p_canon_2 _ lf) lf st_p_canon_2 J 3 fi102.body [] [m1] (enc_p_canon_2_3 x1 x2 p) (lastQ ttT.get fi102 ⟨[.dat (.list cVal), .ref (.box [.map (.int .i64) (.int .i64)])], [(true, cVal)], g⟩) = R_p_canon_2_3 lf x1 x2 (fun q => J 3 [m1] (enc_p_canon_2_3 x1 x2 q)) p := by kernel_rfl
theorem nd_p_canon_2 : (regs fi102.body).Nodup := by decide +kernel
theorem ok_p_canon_2 : okC nm_p_canon_2 st_p_canon_2 hd_p_canon_2 fi102.body none = true := by kernel_rfl
def A_p_canon_2 (g : ElP [.dat (.list cVal), .ref (.box [.map (.int .i64) (.int .i64)])] → Option Rt_p_canon_2) (lf : Nat) : Nat → List Nat → NRes → Option Rt_p_canon_2 := atQ Try.prog ttT.get nm_p_canon_2 fi102 ⟨[.dat (.list cVal), .ref (.box [.map (.int .i64) (.int .i64)])], [(true, cVal)], g⟩ (cl_p_canon_2 _ lf) lf hd_p_canon_2
def G_p_canon_2_3 (lf : Nat) (x1 : (List DVal)) (x2 : (List (Int × Int))) : Nat → (Int × (List DVal)) → Option Rt_p_canon_2 := rounds fun K p => R_p_canon_2_3 lf x1 x2 K p
theorem at_p_canon_2_3 (g : ElP [.dat (.list cVal), .ref (.box [.map (.int .i64) (.int .i64)])] → Option Rt_p_canon_2) (lf : Nat) (x1 : (List DVal)) (x2 : (List (Int × Int))) : ∀ (n : Nat) (p : Int × (List DVal)), A_p_canon_2 g lf 3 [n] (enc_p_canon_2_3 x1 x2 p) = G_p_canon_2_3 lf x1 x2 n p
  | 0, p => atQ_zero 3 [0] rfl _
  | n + 1, p => by
    have ih := at_p_canon_2_3 g lf x1 x2 n
    refine (atQ_eq rfl (icallK_eq 20 _) nd_p_canon_2 ok_p_canon_2 3 [n + 1] [n] rfl _).trans ((st_p_canon_2_3 g (A_p_canon_2 g lf) lf x1 x2 n p).trans ?_)
    rw [(show (fun q => A_p_canon_2 g lf 3 [n] (enc_p_canon_2_3 x1 x2 q)) = (fun q => G_p_canon_2_3 lf x1 x2 n q) from funext ih)]
    rfl
def F_p_canon_2 (lf : Nat) (x1 : (List DVal)) (x2 : (List (Int × Int))) : Option Rt_p_canon_2 := R_p_canon_2_in lf x1 x2 (fun q => G_p_canon_2_3 lf x1 x2 lf q)
theorem run_p_canon_2 (g : ElP [.dat (.list cVal), .ref (.box [.map (.int .i64) (.int .i64)])] → Option Rt_p_canon_2) (lf : Nat) (x1 : (List DVal)) (x2 : (List (Int × Int))) : icodeTB Try.prog ttT.get nm_p_canon_2 (mP [.dat (.list cVal), .ref (.box [.map (.int .i64) (.int .i64)])]) fi102.nt (cl_p_canon_2 _ lf) lf st_p_canon_2 (A_p_canon_2 g lf) fi102.body [] (argGo (argsP [.dat (.list cVal), .ref (.box [.map (.int .i64) (.int .i64)])] idN 0 (x1, (x2, ()), ())) 0 .leaf) (Sc [.dat (.list cVal), .ref (.box [.map (.int .i64) (.int .i64)])] (x1, (x2, ()), ())) [] (lastQ ttT.get fi102 ⟨[.dat (.list cVal), .ref (.box [.map (.int .i64) (.int .i64)])], [(true, cVal)], g⟩) = F_p_canon_2 lf x1 x2 := by
    refine (in_p_canon_2 g (A_p_canon_2 g lf) lf x1 x2).trans ?_
    rw [(show (fun q => A_p_canon_2 g lf 3 [lf] (enc_p_canon_2_3 x1 x2 q)) = (fun q => G_p_canon_2_3 lf x1 x2 lf q) from funext fun q => at_p_canon_2_3 g lf x1 x2 lf q)]
    rfl
theorem hxs_p_canon_2 : HxsOK Try.prog hxl_p_canon_2 := trivial
theorem mk_p_canon_2 {g : ElP [.dat (.list cVal), .ref (.box [.map (.int .i64) (.int .i64)])] → Option Rt_p_canon_2} (hsm : SmOK Try.prog sml_p_canon_2) (hg : ∀ (x : ElP [.dat (.list cVal), .ref (.box [.map (.int .i64) (.int .i64)])]) (y : Rt_p_canon_2), WfP [.dat (.list cVal), .ref (.box [.map (.int .i64) (.int .i64)])] x → g x = some y → ∃ lf, F_p_canon_2 lf x.1 x.2.1.1 = some y) : ConR Try.prog 102 ⟨[.dat (.list cVal), .ref (.box [.map (.int .i64) (.int .i64)])], [(true, cVal)], g⟩ :=
  conTR (nmf := nm_p_canon_2) (sml := sml_p_canon_2) (hxl := hxl_p_canon_2) (st := st_p_canon_2) (hd := hd_p_canon_2) 20 mixed ttOK ftOK hsm hxs_p_canon_2 cal102 (by kernel_rfl) (fun x => by kernel_rfl) nd_p_canon_2 ok_p_canon_2 fun x y z hx hy => by
    obtain ⟨lf, h⟩ := hg x (y, z) hx hy
    exact ⟨lf, (run_p_canon_2 g lf x.1 x.2.1.1).trans h⟩
end Go.Proofs.Ytcnhjofpmpipfaa

end
end

/- The contract of canon's second closure. -/
section
set_option linter.unusedVariables false
namespace Go.Proofs.Ytcnhjofpmpipfaa
open Go Go.Sx Go.RowKit Go.Jx
def S.numAt (es : List (Int × Int)) (k : Int) : Option Int := @mfind (.int .i64) (.int .i64) k es
def S.movedV (es : List (Int × Int)) (v : DVal) : DVal := if (v : Int × Int).1 = 4 then ((v : Int × Int).1, (S.numAt es (v : Int × Int).2).getD 0) else v
def S.movedL (es : List (Int × Int)) (l : List DVal) : List DVal := l.map (S.movedV es)
def sp_p_canon_2 : SmR := ⟨[.dat (.list cVal), .ref (.box [.map (.int .i64) (.int .i64)])], [(true, cVal)], fun x => some ((S.movedL x.2.1.1 x.1, ()), ((x.2.1.1, ()), ()))⟩
theorem run_canon_2 (l : List DVal) (es : List (Int × Int)) (hl : l.length < LF) : F_p_canon_2 LF l es = some ((S.movedL es l, ()), ((es, ()), ())) := by
  simp only [F_p_canon_2, R_p_canon_2_in]
  refine range0 (α := DVal) (σ := List DVal) (R := Rt_p_canon_2) l (fun i s => (i, s)) (fun i s => s = (l.take i).map (S.movedV es) ++ l.drop i) (fun _ _ _ => some ((S.movedL es l, ()), ((es, ()), ()))) hl (fun K s hs => ?_) (fun K i v rest s hs r hk => ?_) l rfl
  · simp only [R_p_canon_2_3, ilt_self, cond_false]
    rw [hs, List.take_length, List.drop_length, List.append_nil]; rfl
  · have hlen : ((l.take i).map (S.movedV es)).length = i := by rw [List.length_map, List.length_take]; have := r.lt; omega
    have hs2 : s = (l.take i).map (S.movedV es) ++ v :: rest := by rw [hs, r.drop]
    have hg : s[i]? = some v := by rw [hs2, List.getElem?_append_right (by omega), hlen, Nat.sub_self]; rfl
    have hj : jget s (Int.ofNat i) = some v := by rw [jget_nat]; exact hg
    have hset : ∀ v', v' = S.movedV es v → (s.set i v') = (l.take (i + 1)).map (S.movedV es) ++ l.drop (i + 1) := fun v' hv => by
      rw [hs2, List.set_append_right _ _ (by omega), hlen, Nat.sub_self, r.tail, r.take, List.map_append, List.set_cons_zero, hv]
      simp
    have hsame : S.movedV es v = v → s = (l.take (i + 1)).map (S.movedV es) ++ l.drop (i + 1) := fun hv => by
      rw [hs2, r.tail, r.take, List.map_append]
      simp [hv]
    have e2 : Int.toNat (Int.ofNat i) = i := rfl
    simp only [R_p_canon_2_3, r.ilt, cond_true, hj, e2, hg, r.next]
    by_cases h4 : (v : Int × Int).1 = 4
    · have h5 : ieqI (v : Int × Int).1 (Int.ofNat 4) = true := by rw [ieqI_eq]; exact decide_eq_true h4
      simp only [h5, cond_true]
      refine hk _ (hset _ ?_)
      unfold S.movedV
      rw [if_pos h4]
      congr 1
      show _ = (S.numAt es (v : Int × Int).2).getD 0
      unfold S.numAt
      cases @mfind (.int .i64) (.int .i64) (v : Int × Int).2 es <;> rfl
    · have h5 : ieqI (v : Int × Int).1 (Int.ofNat 4) = false := by rw [ieqI_eq]; exact decide_eq_false h4
      simp only [h5, cond_false]
      exact hk _ (hsame (by unfold S.movedV; rw [if_neg h4]))
theorem con_p_canon_2 : ConR Try.prog id_p_canon_2 sp_p_canon_2 := mk_p_canon_2 ⟨con_slices_CloneO_Val, trivial⟩ fun x y hx h => ⟨LF, by
  obtain ⟨l, ⟨es, _⟩, _⟩ := x
  have hl : List.length (α := DVal) l < LF := wf_len hx.1
  exact (run_canon_2 l es hl).trans h⟩
end Go.Proofs.Ytcnhjofpmpipfaa
end

/- The contract of canon's first closure. -/
section
set_option linter.unusedVariables false
namespace Go.Proofs.Ytcnhjofpmpipfaa
open Go Go.Sx Go.RowKit Go.Jx
def S.numSet (es : List (Int × Int)) (k v : Int) : List (Int × Int) := @mset (.int .i64) (.int .i64) k v es
def S.meetN : List Int → List (Int × Int) → List Int → Option (List (Int × Int) × List Int)
  | [], es, o => some (es, o)
  | n :: l, es, o => cond (S.numAt es n).isSome (S.meetN l es o) (cond (Nat.ble ((o.length + 1) * 8) 140737488355328) (S.meetN l (S.numSet es n (Int.ofNat o.length)) (o ++ [n])) none)
def sp_p_canon_1 : SmR := ⟨[.dat (.list cVal), .ref (.box [.map (.int .i64) (.int .i64)]), .ref (.box [.arr (.int .i64)])], [], fun x => match S.meetN (S.refsL x.1) x.2.1.1 x.2.2.1.1 with
  | none => none
  | some q => some ((), ((q.1, ()), ((q.2, ()), ())))⟩
theorem fold_meet : ∀ (l : List Int) (es : List (Int × Int)) (o : List Int),
    foldN (D := ((List (Int × Int)) × Unit) × ((List Int) × Unit) × Unit) (fun v0 v1 => (cond (Bool.not (match (@mfind (TC.int Go.IntKind.i64) (TC.int Go.IntKind.i64) v1 v0.1.1) with | .none  => Bool.false | .some v2 => Bool.true)) (cond (Nat.ble (Nat.mul (Nat.add (List.length v0.2.1.1) 1) 8) 140737488355328) (some (((@mset (TC.int Go.IntKind.i64) (TC.int Go.IntKind.i64) v1 (Int.ofNat (List.length v0.2.1.1)) v0.1.1), ()), (((List.append v0.2.1.1 (List.cons v1 [])), ()), ()))) none) (some ((v0.1.1, ()), ((v0.2.1.1, ()), ()))))) l ((es, ()), ((o, ()), ()))
      = match S.meetN l es o with
        | none => none
        | some q => some ((q.1, ()), ((q.2, ()), ()))
  | [], es, o => rfl
  | n :: l, es, o => by
    have ih := fold_meet l
    simp only [foldN, S.meetN, S.numAt]
    cases hf : @mfind (TC.int Go.IntKind.i64) (TC.int Go.IntKind.i64) n es with
    | some v =>
      simp only [hf, Bool.not_true, cond_false, Option.isSome_some, cond_true]
      exact ih es o
    | none =>
      simp only [hf, Bool.not_false, cond_true, Option.isSome_none, cond_false]
      cases hb : Nat.ble ((o.length + 1) * 8) 140737488355328 with
      | false =>
        have hb2 : Nat.ble (Nat.mul (Nat.add o.length 1) 8) 140737488355328 = false := hb
        simp only [hb2, cond_false]
        all_goals rfl
      | true =>
        have hb2 : Nat.ble (Nat.mul (Nat.add o.length 1) 8) 140737488355328 = true := hb
        simp only [hb2, cond_true]
        exact ih _ _
theorem con_p_canon_1 : ConR Try.prog id_p_canon_1 sp_p_canon_1 := mk_p_canon_1 trivial fun x y hx h => ⟨0, by
  obtain ⟨l, ⟨es, _⟩, ⟨o, _⟩, _⟩ := x
  have h : (match S.meetN (S.refsL l) es o with
    | none => none
    | some q => some ((), ((q.1, ()), ((q.2, ()), ())))) = some y := h
  simp only [F_p_canon_1, R_p_canon_1_in]
  have e := fold_meet (S.refsL l) es o
  cases hm : S.meetN (S.refsL l) es o with
  | none => rw [hm] at h; cases h
  | some q =>
    rw [hm] at h e
    refine Eq.trans ?_ h
    exact congrArg (fun a : Option (((List (Int × Int)) × Unit) × ((List Int) × Unit) × Unit) => (match a with | .none => none | .some v3 => some ((), ((v3.1.1, ()), ((v3.2.1.1, ()), ()))) : Option Rt_p_canon_1)) e⟩
end Go.Proofs.Ytcnhjofpmpipfaa
end

/- Made by program: plain forms of functions. -/
section
set_option linter.unusedVariables false
set_option maxRecDepth 100000
noncomputable section
namespace Go.Proofs.Ytcnhjofpmpipfaa
open Go Go.Sx Go.RowKit Go.Jx
def nm_p_canon : Nat → Option Nm := fun k => cond (Nat.beq k 7) (some ⟨[1, 2, 4, 5, 6, 7], [], [(5, 0, (.int .i64))], [], [(4, 0, (.int .i64), (.int .i64))], 0, 0, false⟩) (cond (Nat.beq k 12) (some ⟨[1, 2, 4, 8, 9, 45, 46, 47], [(45, (.int .i64))], [(9, 0, cNode), (9, 1, cVal)], [], [(4, 0, (.int .i64), (.int .i64))], 0, 0, false⟩) (cond (Nat.beq k 18) (some ⟨[2, 4, 9, 12, 74, 75], [(12, (.int .i64))], [(9, 0, cNode), (9, 1, cVal)], [], [(4, 0, (.int .i64), (.int .i64))], 0, 0, false⟩) (none)))
def st_p_canon : Nat → Bool := fun k => cond (Nat.beq k 7) true (cond (Nat.beq k 12) true (cond (Nat.beq k 18) true (false)))
def hd_p_canon : Nat → Bool := fun k => cond (Nat.beq k 7) true (cond (Nat.beq k 12) true (cond (Nat.beq k 18) true (false)))
abbrev Rt_p_canon : Type := DGraph × (List Int) × Unit
def sml_p_canon : List (Nat × Sm) := []
def hxl_p_canon : List (Nat × Hx) := [(100, hxR sp_p_canon_1), (102, hxR sp_p_canon_2)]
def cl_p_canon (R : Type) (lf : Nat) : ClK R := icallK Try.prog ttT.get ftT.get (nm1 62 nm_p_canon) (smL sml_p_canon) (hxL hxl_p_canon) lf 20 R
abbrev id_p_canon : Nat := 62
def enc_p_canon_7 (x1 : DGraph) (p : (List (Int × Int)) × (List Int) × Int) : NRes := (NRes.mk (PT.node none (PT.node (some (IV.ptr 0 0)) (PT.node none (PT.node (some (IV.int Go.IntKind.i64 p.2.2)) PT.leaf PT.leaf) PT.leaf) (PT.node (some (IV.ptr 3 0)) PT.leaf PT.leaf)) (PT.node (some (IV.ptr 1 0)) (PT.node (some (IV.ptr 2 0)) PT.leaf PT.leaf) (PT.node (some (IV.fn 100 (List.cons (IV.ptr 2 0) (List.cons (IV.ptr 3 0) [])))) PT.leaf PT.leaf))) (IS.mk (PT.node (some (IObj.row (List.cons (IV.lst cNode x1.1) (List.cons (IV.lst cVal x1.2) [])))) (PT.node (some (IObj.row (List.cons IV.nilsl (List.cons IV.nilsl [])))) (PT.node (some (IObj.row (List.cons (IV.arr 5) []))) PT.leaf PT.leaf) (PT.node (some (IObj.arr (TC.int Go.IntKind.i64) p.2.1)) PT.leaf PT.leaf)) (PT.node (some (IObj.row (List.cons (IV.map 4) []))) (PT.node (some (IObj.tmap (TC.int Go.IntKind.i64) (TC.int Go.IntKind.i64) p.1)) PT.leaf PT.leaf) PT.leaf)) 6) [] 0)
def enc_p_canon_12 (x1 : DGraph) (p : (List (Int × Int)) × (List Int) × Int × (List DNode)) : NRes := (NRes.mk (PT.node none (PT.node (some (IV.ptr 0 0)) (PT.node none (PT.node none (PT.node none PT.leaf (PT.node (some (IV.int Go.IntKind.i64 p.2.2.1)) PT.leaf PT.leaf)) PT.leaf) PT.leaf) (PT.node none (PT.node (some (IV.ptr 3 0)) PT.leaf PT.leaf) (PT.node none PT.leaf (PT.node none (PT.node (some (IV.arr 4)) PT.leaf PT.leaf) PT.leaf)))) (PT.node (some (IV.ptr 1 0)) (PT.node (some (IV.ptr 2 0)) (PT.node (some (IV.fn 102 (List.cons (IV.ptr 2 0) []))) PT.leaf PT.leaf) PT.leaf) (PT.node none PT.leaf (PT.node none PT.leaf (PT.node none (PT.node (some (IV.int Go.IntKind.i64 (Int.ofNat (List.length p.2.1)))) PT.leaf PT.leaf) PT.leaf))))) (IS.mk (PT.node (some (IObj.row (List.cons (IV.lst cNode x1.1) (List.cons (IV.lst cVal x1.2) [])))) (PT.node (some (IObj.row (List.cons IV.nilsl (List.cons IV.nilsl [])))) (PT.node (some (IObj.row (List.cons (IV.arr 6) (List.cons (IV.arr 7) [])))) (PT.node (some (IObj.arr cVal (Go.Proofs.Ytcnhjofpmpipfaa.S.movedL p.1 x1.2))) PT.leaf PT.leaf) PT.leaf) (PT.node (some (IObj.tmap (TC.int Go.IntKind.i64) (TC.int Go.IntKind.i64) p.1)) PT.leaf PT.leaf)) (PT.node (some (IObj.row (List.cons (IV.map 5) []))) (PT.node (some (IObj.arr (TC.int Go.IntKind.i64) p.2.1)) PT.leaf PT.leaf) (PT.node (some (IObj.arr cNode p.2.2.2)) PT.leaf PT.leaf))) 8) [] 0)
def enc_p_canon_18 (x1 : DGraph) (p : (List (Int × Int)) × (List DNode) × Int × (List Int)) : NRes := (NRes.mk (PT.node none (PT.node none (PT.node none PT.leaf (PT.node none PT.leaf (PT.node none (PT.node none (PT.node (some (IV.int Go.IntKind.i64 p.2.2.1)) PT.leaf PT.leaf) PT.leaf) PT.leaf))) (PT.node none (PT.node (some (IV.ptr 2 0)) PT.leaf PT.leaf) PT.leaf)) (PT.node (some (IV.ptr 0 0)) (PT.node (some (IV.ptr 1 0)) PT.leaf (PT.node (some (IV.arr 3)) PT.leaf PT.leaf)) (PT.node none (PT.node none PT.leaf (PT.node none (PT.node none (PT.node (some (IV.int Go.IntKind.i64 (Int.ofNat (List.length x1.1)))) PT.leaf PT.leaf) PT.leaf) PT.leaf)) PT.leaf))) (IS.mk (PT.node (some (IObj.row (List.cons IV.nilsl (List.cons IV.nilsl [])))) (PT.node (some (IObj.row (List.cons (IV.map 4) []))) (PT.node (some (IObj.arr (TC.int Go.IntKind.i64) p.2.2.2)) PT.leaf PT.leaf) (PT.node (some (IObj.arr cNode p.2.1)) PT.leaf PT.leaf)) (PT.node (some (IObj.row (List.cons (IV.arr 5) (List.cons (IV.arr 6) [])))) (PT.node (some (IObj.tmap (TC.int Go.IntKind.i64) (TC.int Go.IntKind.i64) p.1)) PT.leaf PT.leaf) (PT.node (some (IObj.arr cVal (Go.Proofs.Ytcnhjofpmpipfaa.S.movedL p.1 x1.2))) PT.leaf PT.leaf))) 7) [] 0)
def R_p_canon_in (lf : Nat) (x1 : DGraph) (L7 : ((List (Int × Int)) × (List Int) × Int) → Option Rt_p_canon) : Option Rt_p_canon := (match (match (Go.Proofs.Ytcnhjofpmpipfaa.S.meetN (Go.Proofs.Ytcnhjofpmpipfaa.S.refsL x1.2) [] []) with | .none  => none | .some v0 => (some ((), ((v0.1, ()), ((v0.2, ()), ()))))) with | .none  => none | .some v1 => (L7 (v1.2.1.1, v1.2.2.1.1, (Int.ofNat 0))))
def R_p_canon_7 (lf : Nat) (x1 : DGraph) (L12 : ((List (Int × Int)) × (List Int) × Int × (List DNode)) → Option Rt_p_canon) (L7 : ((List (Int × Int)) × (List Int) × Int) → Option Rt_p_canon) (p : (List (Int × Int)) × (List Int) × Int) : Option Rt_p_canon := (cond (ieqI p.2.2 (Int.ofNat (List.length p.2.1))) (L12 (p.1, p.2.1, (Int.ofNat 0), [])) (match (jget p.2.1 p.2.2) with | .none  => none | .some v2 => (match (GetElem?.getElem? p.2.1 (Int.toNat p.2.2)) with | .none  => none | .some v3 => (match (jget x1.1 v3) with | .none  => none | .some v4 => (match (match (Go.Proofs.Ytcnhjofpmpipfaa.S.meetN (Go.Proofs.Ytcnhjofpmpipfaa.S.refsL v4.2) p.1 p.2.1) with | .none  => none | .some v5 => (some ((), ((v5.1, ()), ((v5.2, ()), ()))))) with | .none  => none | .some v6 => (L7 (v6.2.1.1, v6.2.2.1.1, (Go.IntKind.wrap Go.IntKind.i64 (Int.add p.2.2 (Int.ofNat 1))))))))))
def R_p_canon_12 (lf : Nat) (x1 : DGraph) (L12 : ((List (Int × Int)) × (List Int) × Int × (List DNode)) → Option Rt_p_canon) (L18 : ((List (Int × Int)) × (List DNode) × Int × (List Int)) → Option Rt_p_canon) (p : (List (Int × Int)) × (List Int) × Int × (List DNode)) : Option Rt_p_canon := (cond (iltI p.2.2.1 (Int.ofNat (List.length p.2.1))) (match (jget p.2.1 p.2.2.1) with | .none  => none | .some v0 => (match (GetElem?.getElem? p.2.1 (Int.toNat p.2.2.1)) with | .none  => none | .some v1 => (match (jget x1.1 v1) with | .none  => none | .some v2 => (match (jget x1.1 v1) with | .none  => none | .some v3 => (cond (Nat.ble (Nat.mul (Nat.add (List.length p.2.2.2) 1) 40) 140737488355328) (L12 (p.1, p.2.1, (Go.IntKind.wrap Go.IntKind.i64 (Int.add p.2.2.1 (Int.ofNat 1))), (List.append p.2.2.2 (List.cons (v2.1, (Go.Proofs.Ytcnhjofpmpipfaa.S.movedL p.1 v3.2)) [])))) none))))) (L18 (p.1, p.2.2.2, (Int.ofNat 0), [])))
def R_p_canon_18 (lf : Nat) (x1 : DGraph) (L18 : ((List (Int × Int)) × (List DNode) × Int × (List Int)) → Option Rt_p_canon) (p : (List (Int × Int)) × (List DNode) × Int × (List Int)) : Option Rt_p_canon := (cond (iltI p.2.2.1 (Int.ofNat (List.length x1.1))) (cond (Bool.not (match (@mfind (TC.int Go.IntKind.i64) (TC.int Go.IntKind.i64) p.2.2.1 p.1) with | .none  => Bool.false | .some v0 => Bool.true)) (cond (Nat.ble (Nat.mul (Nat.add (List.length p.2.2.2) 1) 8) 140737488355328) (L18 (p.1, p.2.1, (Go.IntKind.wrap Go.IntKind.i64 (Int.add p.2.2.1 (Int.ofNat 1))), (List.append p.2.2.2 (List.cons (Int.negSucc 0) [])))) none) (cond (Nat.ble (Nat.mul (Nat.add (List.length p.2.2.2) 1) 8) 140737488355328) (L18 (p.1, p.2.1, (Go.IntKind.wrap Go.IntKind.i64 (Int.add p.2.2.1 (Int.ofNat 1))), (List.append p.2.2.2 (List.cons (match (@mfind (TC.int Go.IntKind.i64) (TC.int Go.IntKind.i64) p.2.2.1 p.1) with | .none  => (Int.ofNat 0) | .some v29 => v29) [])))) none)) (some ((p.2.1, (Go.Proofs.Ytcnhjofpmpipfaa.S.movedL p.1 x1.2)), (p.2.2.2, ()))))
theorem in_p_canon (g : ElA [cGraph] → Option Rt_p_canon) (J : Nat → List Nat → NRes → Option Rt_p_canon) (lf : Nat) (x1 : DGraph) : icodeT Try.prog ttT.get nm_p_canon fi62.nt (cl_p_canon _ lf) lf st_p_canon J fi62.body [] (argGo (argV [cGraph] (x1, ())) 0 .leaf) S0 [] (lastK ttT.get fi62 ⟨[cGraph], [(false, cGraph), (false, (.list (.int .i64)))], g⟩) = R_p_canon_in lf x1 (fun q => J 7 [lf] (enc_p_canon_7 x1 q)) := by kernel_rfl
theorem st_p_canon_7 (g : ElA [cGraph] → Option Rt_p_canon) (J : Nat → List Nat → NRes → Option Rt_p_canon) (lf : Nat) (x1 : DGraph) (m1 : Nat) (p : (List (Int × Int)) × (List Int) × Int) : icodeFT Try.prog ttT.get nm_p_canon fi62.nt (cl_p_canon _ lf) lf st_p_canon J 7 fi62.body [] [m1] (enc_p_canon_7 x1 p) (lastK ttT.get fi62 ⟨[cGraph], [(false, cGraph), (false, (.list (.int .i64)))], g⟩) = R_p_canon_7 lf x1 (fun q => J 12 [lf] (enc_p_canon_12 x1 q)) (fun q => J 7 [m1] (enc_p_canon_7 x1 q)) p := by kernel_rfl
theorem st_p_canon_12 (g : ElA [cGraph] → Option Rt_p_canon) (J : Nat → List Nat → NRes → Option Rt_p_canon) (lf : Nat) (x1 : DGraph) (m1 : Nat) (p : (List (Int × Int)) × (List Int) × Int × (List DNode)) : icodeFT Try.prog ttT.get nm_p_canon fi62.nt (cl_p_canon _ lf) lf st_p_canon J 12 fi62.body [] [m1] (enc_p_canon_12 x1 p) (lastK ttT.get fi62 ⟨[cGraph], [(false, cGraph), (false, (.list (.int .i64)))], g⟩) = R_p_canon_12 lf x1 (fun q => J 12 [m1] (enc_p_canon_12 x1 q)) (fun q => J 18 [lf] (enc_p_canon_18 x1 q)) p := by kernel_rfl
theorem st_p_canon_18 (g : ElA [cGraph] → Option Rt_p_canon) (J : Nat → List Nat → NRes → Option Rt_p_canon) (lf : Nat) (x1 : DGraph) (m1 : Nat) (p : (List (Int × Int)) × (List DNode) × Int × (List Int)) : icodeFT Try.prog ttT.get nm_p_canon fi62.nt (cl_p_canon _ lf) lf st_p_canon J 18 fi62.body [] [m1] (enc_p_canon_18 x1 p) (lastK ttT.get fi62 ⟨[cGraph], [(false, cGraph), (false, (.list (.int .i64)))], g⟩) = R_p_canon_18 lf x1 (fun q => J 18 [m1] (enc_p_canon_18 x1 q)) p := by kernel_rfl
theorem nd_p_canon : (regs fi62.body).Nodup := by decide +kernel
theorem ok_p_canon : okC nm_p_canon st_p_canon hd_p_canon fi62.body none = true := by kernel_rfl
def A_p_canon (g : ElA [cGraph] → Option Rt_p_canon) (lf : Nat) : Nat → List Nat → NRes → Option Rt_p_canon := atN Try.prog ttT.get nm_p_canon fi62 ⟨[cGraph], [(false, cGraph), (false, (.list (.int .i64)))], g⟩ (cl_p_canon _ lf) lf hd_p_canon
def G_p_canon_18 (lf : Nat) (x1 : DGraph) : Nat → ((List (Int × Int)) × (List DNode) × Int × (List Int)) → Option Rt_p_canon := rounds fun K p => R_p_canon_18 lf x1 K p
theorem at_p_canon_18 (g : ElA [cGraph] → Option Rt_p_canon) (lf : Nat) (x1 : DGraph) : ∀ (n : Nat) (p : (List (Int × Int)) × (List DNode) × Int × (List Int)), A_p_canon g lf 18 [n] (enc_p_canon_18 x1 p) = G_p_canon_18 lf x1 n p
  | 0, p => atN_zero 18 [0] rfl _
  | n + 1, p => by
    have ih := at_p_canon_18 g lf x1 n
    refine (atN_eq (icallK_eq 20 _) nd_p_canon ok_p_canon 18 [n + 1] [n] rfl _).trans ((st_p_canon_18 g (A_p_canon g lf) lf x1 n p).trans ?_)
    rw [(show (fun q => A_p_canon g lf 18 [n] (enc_p_canon_18 x1 q)) = (fun q => G_p_canon_18 lf x1 n q) from funext ih)]
    rfl
def G_p_canon_12 (lf : Nat) (x1 : DGraph) : Nat → ((List (Int × Int)) × (List Int) × Int × (List DNode)) → Option Rt_p_canon := rounds fun K p => R_p_canon_12 lf x1 K (fun q => G_p_canon_18 lf x1 lf q) p
theorem at_p_canon_12 (g : ElA [cGraph] → Option Rt_p_canon) (lf : Nat) (x1 : DGraph) : ∀ (n : Nat) (p : (List (Int × Int)) × (List Int) × Int × (List DNode)), A_p_canon g lf 12 [n] (enc_p_canon_12 x1 p) = G_p_canon_12 lf x1 n p
  | 0, p => atN_zero 12 [0] rfl _
  | n + 1, p => by
    have ih := at_p_canon_12 g lf x1 n
    refine (atN_eq (icallK_eq 20 _) nd_p_canon ok_p_canon 12 [n + 1] [n] rfl _).trans ((st_p_canon_12 g (A_p_canon g lf) lf x1 n p).trans ?_)
    rw [(show (fun q => A_p_canon g lf 18 [lf] (enc_p_canon_18 x1 q)) = (fun q => G_p_canon_18 lf x1 lf q) from funext fun q => at_p_canon_18 g lf x1 lf q), (show (fun q => A_p_canon g lf 12 [n] (enc_p_canon_12 x1 q)) = (fun q => G_p_canon_12 lf x1 n q) from funext ih)]
    rfl
def G_p_canon_7 (lf : Nat) (x1 : DGraph) : Nat → ((List (Int × Int)) × (List Int) × Int) → Option Rt_p_canon := rounds fun K p => R_p_canon_7 lf x1 (fun q => G_p_canon_12 lf x1 lf q) K p
theorem at_p_canon_7 (g : ElA [cGraph] → Option Rt_p_canon) (lf : Nat) (x1 : DGraph) : ∀ (n : Nat) (p : (List (Int × Int)) × (List Int) × Int), A_p_canon g lf 7 [n] (enc_p_canon_7 x1 p) = G_p_canon_7 lf x1 n p
  | 0, p => atN_zero 7 [0] rfl _
  | n + 1, p => by
    have ih := at_p_canon_7 g lf x1 n
    refine (atN_eq (icallK_eq 20 _) nd_p_canon ok_p_canon 7 [n + 1] [n] rfl _).trans ((st_p_canon_7 g (A_p_canon g lf) lf x1 n p).trans ?_)
    rw [(show (fun q => A_p_canon g lf 12 [lf] (enc_p_canon_12 x1 q)) = (fun q => G_p_canon_12 lf x1 lf q) from funext fun q => at_p_canon_12 g lf x1 lf q), (show (fun q => A_p_canon g lf 7 [n] (enc_p_canon_7 x1 q)) = (fun q => G_p_canon_7 lf x1 n q) from funext ih)]
    rfl
def F_p_canon (lf : Nat) (x1 : DGraph) : Option Rt_p_canon := R_p_canon_in lf x1 (fun q => G_p_canon_7 lf x1 lf q)
theorem run_p_canon (g : ElA [cGraph] → Option Rt_p_canon) (lf : Nat) (x1 : DGraph) : icodeT Try.prog ttT.get nm_p_canon fi62.nt (cl_p_canon _ lf) lf st_p_canon (A_p_canon g lf) fi62.body [] (argGo (argV [cGraph] (x1, ())) 0 .leaf) S0 [] (lastK ttT.get fi62 ⟨[cGraph], [(false, cGraph), (false, (.list (.int .i64)))], g⟩) = F_p_canon lf x1 := by
    refine (in_p_canon g (A_p_canon g lf) lf x1).trans ?_
    rw [(show (fun q => A_p_canon g lf 7 [lf] (enc_p_canon_7 x1 q)) = (fun q => G_p_canon_7 lf x1 lf q) from funext fun q => at_p_canon_7 g lf x1 lf q)]
    rfl
theorem hxs_p_canon (hr_p_canon_1 : ConR Try.prog 100 sp_p_canon_1) (hr_p_canon_2 : ConR Try.prog 102 sp_p_canon_2) : HxsOK Try.prog hxl_p_canon := ⟨hxR_ok hr_p_canon_1, ⟨hxR_ok hr_p_canon_2, trivial⟩⟩
theorem mk_p_canon {g : ElA [cGraph] → Option Rt_p_canon} (hsm : SmOK Try.prog sml_p_canon) (hr_p_canon_1 : ConR Try.prog 100 sp_p_canon_1) (hr_p_canon_2 : ConR Try.prog 102 sp_p_canon_2) (hg : ∀ (x : ElA [cGraph]) (y : Rt_p_canon), WfA [cGraph] x → g x = some y → ∃ lf, F_p_canon lf x.1 = some y) : Con Try.prog 62 ⟨[cGraph], [(false, cGraph), (false, (.list (.int .i64)))], g⟩ :=
  conT (nmf := nm_p_canon) (sml := sml_p_canon) (hxl := hxl_p_canon) (st := st_p_canon) (hd := hd_p_canon) 20 mixed ttOK ftOK hsm (hxs_p_canon hr_p_canon_1 hr_p_canon_2) cal62 rfl rfl (by kernel_rfl) (fun x => by kernel_rfl) nd_p_canon ok_p_canon fun x y hx hy => by
    obtain ⟨lf, h⟩ := hg x y hx hy
    exact ⟨lf, (run_p_canon g lf x.1).trans h⟩
end Go.Proofs.Ytcnhjofpmpipfaa

end
end

/- The contract of pack.canon: its plain form. -/
section
set_option linter.unusedVariables false
namespace Go.Proofs.Ytcnhjofpmpipfaa
open Go Go.Sx Go.RowKit Go.Jx
noncomputable def S.canonO (g : DGraph) : Option (DGraph × List Int × Unit) := F_p_canon LF g
noncomputable def sp_p_canon : Sm := ⟨[cGraph], [(false, cGraph), (false, .list (.int .i64))], fun x => S.canonO x.1⟩
theorem con_p_canon : Con Try.prog id_p_canon sp_p_canon := mk_p_canon trivial con_p_canon_1 con_p_canon_2 fun x y hx h => ⟨LF, h⟩
end Go.Proofs.Ytcnhjofpmpipfaa
end

/- The table of numbers that canon makes. -/
section
set_option linter.unusedVariables false
namespace Go.Proofs.Ytcnhjofpmpipfaa
open Go Go.Sx Go.RowKit Go.Jx
def S.tabF : Nat → List Int → List (Int × Int)
  | _, [] => []
  | i, n :: l => (n, Int.ofNat i) :: S.tabF (i + 1) l
def S.tab (o : List Int) : List (Int × Int) := S.tabF 0 o
def S.meetL : List Int → List Int → List Int
  | o, [] => o
  | o, n :: l => if n ∈ o then S.meetL o l else S.meetL (o ++ [n]) l
theorem keqI_eq2 (a b : Int) : keqI a b = decide (a = b) := rfl
theorem numAt_cons (e : Int × Int) (es : List (Int × Int)) (k : Int) : S.numAt (e :: es) k = if k = e.1 then some e.2 else S.numAt es k := by
  show (cond (keqI k e.1) (some e.2) (S.numAt es k)) = _
  rw [keqI_eq2]
  by_cases h : k = e.1
  · rw [if_pos h, decide_eq_true h]; rfl
  · rw [if_neg h, decide_eq_false h]; rfl
theorem numSet_cons (e : Int × Int) (es : List (Int × Int)) (k v : Int) : S.numSet (e :: es) k v = if k = e.1 then (k, v) :: es else e :: S.numSet es k v := by
  show (cond (keqI k e.1) ((k, v) :: es) (e :: S.numSet es k v)) = _
  rw [keqI_eq2]
  by_cases h : k = e.1
  · rw [if_pos h, decide_eq_true h]; rfl
  · rw [if_neg h, decide_eq_false h]; rfl
theorem numAt_tabF : ∀ (o : List Int) (i : Nat) (k : Int), S.numAt (S.tabF i o) k = if k ∈ o then some (Int.ofNat (i + o.idxOf k)) else none
  | [], i, k => by simp [S.tabF]; rfl
  | n :: l, i, k => by
    simp only [S.tabF, numAt_cons]
    by_cases h : k = n
    · subst h; simp
    · rw [if_neg h, numAt_tabF l (i + 1) k]
      have h' : (n == k) = false := by simpa using fun e => h e.symm
      by_cases hm : k ∈ l
      · rw [if_pos hm, if_pos (List.mem_cons_of_mem _ hm), List.idxOf_cons, h', cond_false, Nat.add_assoc, Nat.add_comm 1]
      · rw [if_neg hm, if_neg (by simp [h, hm])]
theorem numAt_tab (o : List Int) (k : Int) : S.numAt (S.tab o) k = if k ∈ o then some (Int.ofNat (o.idxOf k)) else none := by
  unfold S.tab; rw [numAt_tabF, Nat.zero_add]
theorem numSet_tabF : ∀ (o : List Int) (i : Nat) (k : Int), k ∉ o → S.numSet (S.tabF i o) k (Int.ofNat (i + o.length)) = S.tabF i (o ++ [k])
  | [], i, k, _ => rfl
  | n :: l, i, k, h => by
    simp only [List.mem_cons, not_or] at h
    simp only [S.tabF, numSet_cons, List.cons_append, if_neg h.1]
    congr 1
    have := numSet_tabF l (i + 1) k h.2
    rw [show i + 1 + l.length = i + (n :: l).length by simp; omega] at this
    exact this
theorem numSet_tab (o : List Int) (k : Int) (h : k ∉ o) : S.numSet (S.tab o) k (Int.ofNat o.length) = S.tab (o ++ [k]) := by
  have := numSet_tabF o 0 k h
  rwa [Nat.zero_add] at this
theorem meetN_tab : ∀ (l o : List Int), (o.length + l.length) * 8 ≤ 140737488355328 → S.meetN l (S.tab o) o = some (S.tab (S.meetL o l), S.meetL o l)
  | [], o, h => rfl
  | n :: l, o, h => by
    simp only [List.length_cons] at h
    simp only [S.meetN, S.meetL, numAt_tab]
    by_cases hm : n ∈ o
    · rw [if_pos hm, if_pos hm]
      exact meetN_tab l o (by omega)
    · rw [if_neg hm, if_neg hm]
      simp only [Option.isSome_none, cond_false]
      rw [Nat.ble_eq_true_of_le (show (o.length + 1) * 8 ≤ 140737488355328 by omega), cond_true, numSet_tab o n hm]
      exact meetN_tab l (o ++ [n]) (by simp only [List.length_append, List.length_cons, List.length_nil]; omega)
theorem meetL_mem : ∀ (l o : List Int) (k : Int), k ∈ S.meetL o l ↔ k ∈ o ∨ k ∈ l
  | [], o, k => by simp [S.meetL]
  | n :: l, o, k => by
    simp only [S.meetL]
    by_cases hm : n ∈ o
    · rw [if_pos hm, meetL_mem l o k]
      constructor
      · rintro (h | h)
        · exact .inl h
        · exact .inr (List.mem_cons_of_mem _ h)
      · rintro (h | h)
        · exact .inl h
        · rcases List.mem_cons.1 h with rfl | h
          · exact .inl hm
          · exact .inr h
    · rw [if_neg hm, meetL_mem l (o ++ [n]) k]
      simp only [List.mem_append, List.mem_cons, List.not_mem_nil, or_false]
      constructor
      · rintro ((h | h) | h)
        · exact .inl h
        · exact .inr (.inl h)
        · exact .inr (.inr h)
      · rintro (h | h | h)
        · exact .inl (.inl h)
        · exact .inl (.inr h)
        · exact .inr h
theorem meetL_nodup : ∀ (l o : List Int), o.Nodup → (S.meetL o l).Nodup
  | [], o, h => h
  | n :: l, o, h => by
    simp only [S.meetL]
    by_cases hm : n ∈ o
    · rw [if_pos hm]; exact meetL_nodup l o h
    · rw [if_neg hm]
      refine meetL_nodup l _ (List.nodup_append.2 ⟨h, by simp, fun a ha b hb => ?_⟩)
      rw [List.mem_singleton.1 hb]
      exact fun e => hm (e ▸ ha)
theorem meetL_pre : ∀ (l o : List Int), ∃ t, S.meetL o l = o ++ t
  | [], o => ⟨[], (List.append_nil _).symm⟩
  | n :: l, o => by
    simp only [S.meetL]
    by_cases hm : n ∈ o
    · rw [if_pos hm]; exact meetL_pre l o
    · rw [if_neg hm]
      obtain ⟨t, ht⟩ := meetL_pre l (o ++ [n])
      exact ⟨n :: t, by rw [ht]; simp⟩
theorem meetL_len (l o : List Int) : o.length ≤ (S.meetL o l).length := by
  obtain ⟨t, ht⟩ := meetL_pre l o
  rw [ht]; simp
end Go.Proofs.Ytcnhjofpmpipfaa
end

/- What pack's chaining and undoing of rules compute: plain functions over data. -/
section
set_option linter.unusedVariables false
noncomputable section
namespace Go.Proofs.Ytcnhjofpmpipfaa
open Go Go.Sx Go.RowKit Go.Jx
namespace S
open Go.Jx.S
def both (a b : DGive) : DGive × Bool :=
  if b.2.1 = 1 then (a, true)
  else if a.2.1 = 1 then ((a.1, b.2.1, b.2.2), true)
  else if a.2.1 = 2 ∧ b.2.1 = 3 then ((a.1, 1, 0), true)
  else if a.2.1 = 2 ∧ b.2.1 = 4 then (a, decide (2 ≤ b.2.2))
  else if a.2.1 = 4 ∧ b.2.1 = 4 then ((a.1, a.2.1, imin a.2.2 b.2.2), true)
  else if a.2.1 = 5 ∧ b.2.1 = 5 then (a, true)
  else if a.2.1 = 6 ∧ b.2.1 = 2 then (a, true)
  else if a.2.1 = 6 ∧ b.2.1 = 3 then (a, within a.2.2 0 1)
  else if a.2.1 = 6 ∧ b.2.1 = 4 then (a, decide (a.2.2 < b.2.2))
  else (zGive, false)
def hasFrom (l : List DGive) (n : ByteArray) : Bool := l.any fun g => keqS g.1 n
def asksG (g : DGive) : Bool := decide (g.2.1 = 3) || (decide (g.2.1 = 4) || decide (g.2.1 = 5))
def chGo (a : DRule) (mid : List DCol) : List DGive → List DGive → Option (List DGive)
  | [], acc => some acc
  | g :: gs, acc =>
    if g.2.1 = 6 ∨ g.2.1 = 7 then chGo a mid gs (acc ++ [g])
    else if (both (at_ zGive a.2.2 (col mid g.1)) g).2 = true then chGo a mid gs (acc ++ [(both (at_ zGive a.2.2 (col mid g.1)) g).1])
    else none
def chAsk (l : List DGive) : List DGive → List DCol → Bool
  | g :: gs, c :: cs => cond (asksG g && !hasFrom l c.1) false (chAsk l gs cs)
  | _, _ => true
def chained (a b : DRule) (mid : List DCol) : DRule × Bool := match chGo a mid b.2.2 [] with
  | none => (zRule, false)
  | some gs => if chAsk b.2.2 a.2.2 mid = true then ((a.1, b.2.1, gs), true) else (zRule, false)
def chainGo (mid : List DForm) (a b : List DRule) : List DForm → List DRule → List DRule × Int
  | [], acc => (acc, 0)
  | f :: fs, acc =>
    let x := (ruleOf a f.1).1
    let c := chained x (ruleOf b x.2.1).1 (colsOf mid x.2.1)
    if c.2 = true then chainGo mid a b fs (acc ++ [c.1]) else ([], 5)
def chain (l1 l2 l3 : List DForm) (a b : List DRule) : List DRule × Int :=
  if ¬ first [checkForms l1, checkForms l2, checkForms l3] = 0 then ([], first [checkForms l1, checkForms l2, checkForms l3])
  else if ¬ first [checkRules0 l1 l2 a, checkRules0 l2 l3 b] = 0 then ([], first [checkRules0 l1 l2 a, checkRules0 l2 l3 b])
  else chainGo l2 a b l1 []
end S
end Go.Proofs.Ytcnhjofpmpipfaa

end
end

/- What right classes and right rules are; plain laws about them. -/
section
set_option linter.unusedVariables false
set_option maxRecDepth 100000
namespace Go.Proofs.Ytcnhjofpmpipfaa
open Go Go.Sx Go.RowKit Go.Jx
structure ColsOK (cs : List DCol) : Prop where
  len : cs.length ≤ 30
  small : ∀ c ∈ cs, S.small c.1 = true
  one : ∀ k (h : k < cs.length), S.col (cs.take k) cs[k].1 < 0
  kind : ∀ c ∈ cs, 1 ≤ c.2.1 ∧ c.2.1 ≤ 3
  bare : ∀ c ∈ cs, ¬ c.2.1 = 3 → c.2.2 = S.lit []
structure FormsOK (l : List DForm) : Prop where
  len : l.length ≤ 24
  cls : ∀ f ∈ l, S.class_ f.1 = true
  one : ∀ k (h : k < l.length), S.form (l.take k) l[k].1 < 0
  cols : ∀ f ∈ l, ColsOK f.2
  ref : ∀ f ∈ l, ∀ c ∈ f.2, c.2.1 = 3 → c.2.2 = S.ANY ∨ 0 ≤ S.form l c.2.2
end Go.Proofs.Ytcnhjofpmpipfaa
end

/- Converting graphs, object by object; what is converted is right again. -/
section
set_option linter.unusedVariables false
set_option maxRecDepth 100000
namespace Go.Proofs.Ytcnhjofpmpipfaa
open Go Go.Sx Go.RowKit Go.Jx
/-! ### Values -/
theorem value_iff {many : Nat} (h : many ≤ 400) (v : DVal) : S.value v (Int.ofNat many) = true ↔ (v.1 = 1 ∧ -1099511627776 ≤ v.2 ∧ v.2 ≤ 1099511627776) ∨ (v.1 = 2 ∧ 0 ≤ v.2 ∧ v.2 ≤ 1) ∨ (v.1 = 3 ∧ v.2 = 0) ∨ (v.1 = 4 ∧ 0 ≤ v.2 ∧ v.2 < many) := by
  have hw : IntKind.i64.wrap (Int.sub (Int.ofNat many) (Int.ofNat 1)) = (many : Int) - 1 := by
    have : Int.sub (Int.ofNat many) (Int.ofNat 1) = (many : Int) - 1 := rfl
    rw [this]
    exact wrap64_in (by omega)
  unfold S.value
  rw [hw]
  simp only [S.within]
  by_cases h1 : v.1 = 1
  · simp [h1]
  by_cases h2 : v.1 = 2
  · simp [h2]
  by_cases h3 : v.1 = 3
  · simp [h3]
  by_cases h4 : v.1 = 4
  · simp [h4]; omega
  simp [h1, h2, h3, h4]
theorem formed_of {g : DGraph} (h1 : g.1.length ≤ 400) (h2 : g.2.length ≤ 60) (h3 : ∀ n ∈ g.1, n.2.length ≤ 30) (h4 : ∀ n ∈ g.1, ∀ v ∈ n.2, S.value v (Int.ofNat g.1.length) = true) (h5 : ∀ v ∈ g.2, S.value v (Int.ofNat g.1.length) = true ∧ S.refers v = true) : S.formed g = 0 := by
  unfold S.formed
  rw [if_neg (by omega), if_neg, if_neg, if_neg]
  · simp only [List.any_eq_true, not_exists, not_and, Bool.or_eq_true, Bool.not_eq_true', not_or, Bool.not_eq_false]
    exact fun v hv => h5 v hv
  · simp only [List.any_eq_true, not_exists, not_and, Bool.not_eq_true', Bool.not_eq_false]
    exact fun n hn v hv => h4 n hn v hv
  · simp only [List.any_eq_true, not_exists, not_and, decide_eq_true_eq]
    exact fun n hn => by have := h3 n hn; omega
end Go.Proofs.Ytcnhjofpmpipfaa
end

/- What pack's undoing of rules computes: plain functions over data. -/
section
set_option linter.unusedVariables false
noncomputable section
namespace Go.Proofs.Ytcnhjofpmpipfaa
open Go Go.Sx Go.RowKit Go.Jx
namespace S
open Go.Jx.S
def bkGo (l : List DRule) (was now : List DCol) : List DGive → Nat → List DGive → Option (List DGive)
  | [], _, acc => some acc
  | g :: gs, i, acc =>
    if ¬ g.2.1 = 1 then none
    else if ¬ (at_ zGive acc (col was g.1)).2.1 = 0 then none
    else if keeps l (at_ zCol was (col was g.1)) (at_ zCol now i) = false then none
    else bkGo l was now gs (i + 1) (acc.set (col was g.1).toNat ((at_ zCol now i).1, 1, 0))
def back (l : List DRule) (r : DRule) (was now : List DCol) : DRule × Bool :=
  if ¬ was.length = now.length then (zRule, false)
  else match bkGo l was now r.2.2 0 (rep was.length zGive) with
    | none => (zRule, false)
    | some gs => ((r.2.1, r.1, gs), true)
end S
end Go.Proofs.Ytcnhjofpmpipfaa

end
end

/- Rules that undo rules. -/
section
set_option linter.unusedVariables false
set_option maxRecDepth 100000
namespace Go.Proofs.Ytcnhjofpmpipfaa
open Go Go.Sx Go.RowKit Go.Jx
theorem nodup_le {α : Type} [DecidableEq α] : ∀ (N M : List α), N.Nodup → (∀ x ∈ N, x ∈ M) → N.length ≤ M.length
  | [], M, _, _ => Nat.zero_le _
  | x :: N, M, hN, hs => by
    rw [List.nodup_cons] at hN
    have hx := hs x List.mem_cons_self
    have ih := nodup_le N (M.erase x) hN.2 fun y hy => (List.mem_erase_of_ne (fun e : y = x => hN.1 (by rw [← e]; exact hy))).2 (hs y (List.mem_cons_of_mem _ hy))
    rw [List.length_erase_of_mem hx] at ih
    have : 0 < M.length := List.length_pos_of_mem hx
    simp only [List.length_cons]
    omega
structure Und (A B : List DForm) (l : List DRule) (r q : DRule) : Prop where
  cls : q.1 = r.2.1
  to : q.2.1 = r.1
  n1 : r.2.2.length = (S.colsOf A r.1).length
  n2 : r.2.2.length = (S.colsOf B r.2.1).length
  n3 : q.2.2.length = r.2.2.length
  how : ∀ i (h : i < r.2.2.length), r.2.2[i].2.1 = 1
  fwd : ∀ i (h : i < r.2.2.length), ∃ (k : Nat) (h1 : k < (S.colsOf A r.1).length) (h2 : k < q.2.2.length) (h3 : i < (S.colsOf B r.2.1).length), S.col (S.colsOf A r.1) r.2.2[i].1 = k ∧ q.2.2[k] = ((S.colsOf B r.2.1)[i].1, 1, 0) ∧ S.keeps l (S.colsOf A r.1)[k] (S.colsOf B r.2.1)[i] = true
  bwd : ∀ k (h : k < (S.colsOf A r.1).length), ∃ (i : Nat) (h1 : i < r.2.2.length), S.col (S.colsOf A r.1) r.2.2[i].1 = k
structure BackOK (A B : List DForm) (l b : List DRule) : Prop where
  fa : FormsOK A
  fb : FormsOK B
  ca : S.checkForms A = 0
  cb : S.checkForms B = 0
  ra : RulesOK A B l
  len : b.length = l.length
  lenB : b.length = B.length
  cls : ∀ k (h : k < B.length) (h' : k < b.length), b[k].1 = B[k].1
  und : ∀ q ∈ b, ∃ r ∈ l, Und A B l r q
  inj : ∀ r ∈ l, ∀ r' ∈ l, r.2.1 = r'.2.1 → r = r'
section
variable {A B : List DForm} {l b : List DRule}
end
end Go.Proofs.Ytcnhjofpmpipfaa
end

/- The walk of canon. -/
section
set_option linter.unusedVariables false
namespace Go.Proofs.Ytcnhjofpmpipfaa
open Go Go.Sx Go.RowKit Go.Jx
structure GF (g : DGraph) : Prop where
  nodes : List.length (α := DNode) (g : List DNode × List DVal).1 ≤ 400
  roots : List.length (α := DVal) (g : List DNode × List DVal).2 ≤ 60
  vals : ∀ n ∈ (g : List DNode × List DVal).1, List.length (α := DVal) (n : ByteArray × List DVal).2 ≤ 30
  ref : ∀ n ∈ (g : List DNode × List DVal).1, ∀ k ∈ S.refsL (n : ByteArray × List DVal).2, 0 ≤ k ∧ k < Int.ofNat (List.length (α := DNode) (g : List DNode × List DVal).1)
  rref : ∀ k ∈ S.refsL (g : List DNode × List DVal).2, 0 ≤ k ∧ k < Int.ofNat (List.length (α := DNode) (g : List DNode × List DVal).1)
theorem refsL_len : ∀ l : List (Int × Int), (S.refsL l).length ≤ l.length
  | [] => Nat.le_refl _
  | v :: l => by
    have := refsL_len l
    simp only [S.refsL]
    split <;> simp <;> omega
structure OrdOK (nd : List DNode) (o : List Int) : Prop where
  nodup : o.Nodup
  lt : ∀ k ∈ o, 0 ≤ k ∧ k < Int.ofNat nd.length
theorem OrdOK.len {nd : List DNode} {o : List Int} (h : OrdOK nd o) : o.length ≤ nd.length := by
  have := nodup_le o ((List.range nd.length).map Int.ofNat) h.nodup fun k hk => by
    obtain ⟨h1, h2⟩ := h.lt k hk
    refine List.mem_map.2 ⟨k.toNat, List.mem_range.2 ?_, ?_⟩
    · have : (k.toNat : Int) = k := Int.toNat_of_nonneg h1
      have h2 : k < (nd.length : Int) := h2
      omega
    · exact Int.toNat_of_nonneg h1
  simpa using this
theorem OrdOK.meet {nd : List DNode} {o l : List Int} (h : OrdOK nd o) (hl : ∀ k ∈ l, 0 ≤ k ∧ k < Int.ofNat nd.length) : OrdOK nd (S.meetL o l) :=
  ⟨meetL_nodup l o h.nodup, fun k hk => by
    rcases (meetL_mem l o k).1 hk with h1 | h1
    · exact h.lt k h1
    · exact hl k h1⟩
def S.walk (nd : List DNode) : Nat → List Int → Nat → List Int
  | 0, o, _ => o
  | f + 1, o, i => match o[i]? with
    | none => o
    | some k => match jget nd k with
      | none => o
      | some v => S.walk nd f (S.meetL o (S.refsL (v : ByteArray × List DVal).2)) (i + 1)
theorem walk_loop {g : DGraph} (hg : GF g) (L12 : ((List (Int × Int)) × (List Int) × Int × (List DNode)) → Option Rt_p_canon) : ∀ (f n i : Nat) (o : List Int), OrdOK (g : List DNode × List DVal).1 o → i ≤ o.length →
    List.length (α := DNode) (g : List DNode × List DVal).1 - i < f → List.length (α := DNode) (g : List DNode × List DVal).1 - i < n →
    rounds (fun K p => R_p_canon_7 LF g L12 K p) n (S.tab o, o, Int.ofNat i) = L12 (S.tab (S.walk (g : List DNode × List DVal).1 f o i), S.walk (g : List DNode × List DVal).1 f o i, Int.ofNat 0, []) ∧ OrdOK (g : List DNode × List DVal).1 (S.walk (g : List DNode × List DVal).1 f o i)
  | 0, n, i, o, ho, hi, hf, hn => by omega
  | f + 1, 0, i, o, ho, hi, hf, hn => by omega
  | f + 1, n + 1, i, o, ho, hi, hf, hn => by
    have hlen := ho.len
    show R_p_canon_7 LF g L12 (rounds (fun K p => R_p_canon_7 LF g L12 K p) n) (S.tab o, o, Int.ofNat i) = _ ∧ _
    by_cases he : i = o.length
    · have h1 : ieqI (Int.ofNat i) (Int.ofNat (List.length o)) = true := by rw [ieqI_eq, he]; exact decide_eq_true rfl
      have h2 : o[i]? = none := List.getElem?_eq_none (by omega)
      simp only [R_p_canon_7, h1, cond_true, S.walk, h2]
      exact ⟨trivial, ho⟩
    · have hlt : i < o.length := by omega
      have h1 : ieqI (Int.ofNat i) (Int.ofNat (List.length o)) = false := by rw [ieqI_eq]; exact decide_eq_false (fun e => he (Int.ofNat.inj e))
      have h2 : o[i]? = some o[i] := List.getElem?_eq_getElem hlt
      have h3 : jget o (Int.ofNat i) = some o[i] := by rw [jget_nat]; exact h2
      obtain ⟨k1, k2⟩ := ho.lt o[i] (List.getElem_mem hlt)
      obtain ⟨v, v1, v2, v3⟩ := jget_of (l := (g : List DNode × List DVal).1) k1 k2
      have e1 : Int.toNat (Int.ofNat i) = i := rfl
      have hr := hg.ref v v3
      have hv := hg.vals v v3
      have hn4 := hg.nodes
      have hm := meetN_tab (S.refsL (v : ByteArray × List DVal).2) o (by
        have := refsL_len (v : ByteArray × List DVal).2
        have hv : List.length (α := Int × Int) (v : ByteArray × List DVal).2 ≤ 30 := hv
        omega)
      have hw : IntKind.i64.wrap (Int.add (Int.ofNat i) (Int.ofNat 1)) = Int.ofNat (i + 1) := wrap_succ (by unfold LF; omega)
      have hnext := walk_loop hg L12 f n (i + 1) (S.meetL o (S.refsL (v : ByteArray × List DVal).2)) (ho.meet hr) (by have := meetL_len (S.refsL (v : ByteArray × List DVal).2) o; omega) (by omega) (by omega)
      simp only [R_p_canon_7, h1, cond_false, h3, e1, h2, v1, hm, hw, S.walk]
      exact hnext
end Go.Proofs.Ytcnhjofpmpipfaa
end

/- What canon makes of a formed graph. -/
section
set_option linter.unusedVariables false
namespace Go.Proofs.Ytcnhjofpmpipfaa
open Go Go.Sx Go.RowKit Go.Jx
def S.nodeAt (nd : List DNode) (k : Int) : DNode := (jget nd k).getD ((ByteArray.empty, []) : ByteArray × List DVal)
def S.newNode (nd : List DNode) (es : List (Int × Int)) (k : Int) : DNode := (((S.nodeAt nd k : ByteArray × List DVal).1, S.movedL es (S.nodeAt nd k : ByteArray × List DVal).2) : ByteArray × List DVal)
def S.numOr (es : List (Int × Int)) (k : Int) : Int := (S.numAt es k).getD (-1)
theorem canon_loop2 (g : DGraph) (es : List (Int × Int)) (o : List Int) (L18 : ((List (Int × Int)) × (List DNode) × Int × (List Int)) → Option Rt_p_canon) (hl : o.length * 40 ≤ 140737488355328)
    (ho : ∀ k ∈ o, 0 ≤ k ∧ k < Int.ofNat (List.length (α := DNode) (g : List DNode × List DVal).1)) :
    rounds (fun K p => R_p_canon_12 LF g K L18 p) LF (es, o, Int.ofNat 0, []) = L18 (es, o.map (S.newNode (g : List DNode × List DVal).1 es), Int.ofNat 0, []) := by
  refine (range0 (R := Rt_p_canon) (σ := List DNode) o (fun k s => (es, o, k, s)) (fun k s => s.length = k) (fun rest k s => L18 (es, s ++ rest.map (S.newNode (g : List DNode × List DVal).1 es), Int.ofNat 0, [])) (by unfold LF; omega) (fun K s hI => ?_) (fun K i v rest s hI r hk => ?_) [] rfl).trans ?_
  · simp only [R_p_canon_12, ilt_self, cond_false, List.map_nil, List.append_nil]
  · obtain ⟨k1, k2⟩ := ho v r.mem
    obtain ⟨n, n1, n2, n3⟩ := jget_of (l := (g : List DNode × List DVal).1) k1 k2
    have e1 : Int.toNat (Int.ofNat i) = i := rfl
    have hlt := r.lt
    have hb : Nat.ble (Nat.mul (Nat.add s.length 1) 40) 140737488355328 = true := Nat.ble_eq_true_of_le (by show (s.length + 1) * 40 ≤ _; rw [hI]; omega)
    simp only [R_p_canon_12, r.ilt, cond_true, r.get, e1, r.get?, n1, hb, r.next]
    have hnew : S.newNode (g : List DNode × List DVal).1 es v = (((n : ByteArray × List DVal).1, S.movedL es (n : ByteArray × List DVal).2) : ByteArray × List DVal) := by
      unfold S.newNode S.nodeAt; rw [n1]; rfl
    have := hk (s ++ [S.newNode (g : List DNode × List DVal).1 es v]) (by rw [List.length_append, hI]; rfl)
    rw [hnew] at this
    refine Eq.trans this ?_
    rw [List.map_cons, hnew]
    congr 2
    simp
  · rfl
theorem canon_loop3 (g : DGraph) (es : List (Int × Int)) (acc : List DNode) (hl : List.length (α := DNode) (g : List DNode × List DVal).1 ≤ 400) :
    rounds (fun K p => R_p_canon_18 LF g K p) LF (es, acc, Int.ofNat 0, []) = some (((acc, S.movedL es (g : List DNode × List DVal).2) : List DNode × List DVal), (((List.range (List.length (α := DNode) (g : List DNode × List DVal).1)).map fun k => S.numOr es (Int.ofNat k)), ())) := by
  have hlf : List.length (α := DNode) (g : List DNode × List DVal).1 < LF := by unfold LF; omega
  refine (range0 (R := Rt_p_canon) (σ := List Int) (α := DNode) (g : List DNode × List DVal).1 (fun k s => (es, acc, k, s)) (fun k s => s = (List.range k).map fun j => S.numOr es (Int.ofNat j))
    (fun _ _ _ => some (((acc, S.movedL es (g : List DNode × List DVal).2) : List DNode × List DVal), (((List.range (List.length (α := DNode) (g : List DNode × List DVal).1)).map fun k => S.numOr es (Int.ofNat k)), ()))) hlf (fun K s hI => ?_) (fun K i v rest s hI r hk => ?_) [] rfl)
  · simp only [R_p_canon_18, ilt_self, cond_false]
    rw [hI]
  · have hlt := r.lt
    have hb : Nat.ble (Nat.mul (Nat.add s.length 1) 8) 140737488355328 = true := Nat.ble_eq_true_of_le (by show (s.length + 1) * 8 ≤ _; rw [hI]; simp; omega)
    have hs : ∀ q, q = S.numOr es (Int.ofNat i) → s.append [q] = (List.range (i + 1)).map fun j => S.numOr es (Int.ofNat j) := fun q hq => by
      rw [hI, List.range_succ, List.map_append, hq]; rfl
    have hn : S.numAt es (Int.ofNat i) = @mfind (TC.int .i64) (TC.int .i64) (Int.ofNat i) es := rfl
    simp only [R_p_canon_18, r.ilt, cond_true, hb, r.next]
    cases hm : @mfind (TC.int .i64) (TC.int .i64) (Int.ofNat i) es with
    | none =>
      simp only [Bool.not_false, cond_true]
      exact hk _ (hs _ (by unfold S.numOr; rw [hn, hm]; rfl))
    | some q =>
      simp only [Bool.not_true, cond_false]
      exact hk _ (hs _ (by unfold S.numOr; rw [hn, hm]; rfl))
def S.ord (g : DGraph) : List Int := S.walk (g : List DNode × List DVal).1 (List.length (α := DNode) (g : List DNode × List DVal).1 + 1) (S.meetL [] (S.refsL (g : List DNode × List DVal).2)) 0
def S.canonG (g : DGraph) : DGraph := (((S.ord g).map (S.newNode (g : List DNode × List DVal).1 (S.tab (S.ord g))), S.movedL (S.tab (S.ord g)) (g : List DNode × List DVal).2) : List DNode × List DVal)
def S.numsG (g : DGraph) : List Int := (List.range (List.length (α := DNode) (g : List DNode × List DVal).1)).map fun k => S.numOr (S.tab (S.ord g)) (Int.ofNat k)
theorem canon_ok {g : DGraph} (hg : GF g) : S.canonO g = some (S.canonG g, S.numsG g, ()) ∧ OrdOK (g : List DNode × List DVal).1 (S.ord g) := by
  have h60 : (S.refsL (g : List DNode × List DVal).2).length ≤ 60 := Nat.le_trans (refsL_len _) hg.roots
  have hm := meetN_tab (S.refsL (g : List DNode × List DVal).2) [] (by simp; omega)
  have ho0 : OrdOK (g : List DNode × List DVal).1 (S.meetL [] (S.refsL (g : List DNode × List DVal).2)) := OrdOK.meet ⟨List.nodup_nil, fun k hk => by cases hk⟩ hg.rref
  obtain ⟨w1, w2⟩ := walk_loop hg (fun q => G_p_canon_12 LF g LF q) (List.length (α := DNode) (g : List DNode × List DVal).1 + 1) LF 0 _ ho0 (Nat.zero_le _) (by omega) (by have := hg.nodes; unfold LF; omega)
  refine ⟨?_, w2⟩
  have hol := w2.len
  have hn4 := hg.nodes
  have hl40 : (S.ord g).length * 40 ≤ 140737488355328 := by
    have : (S.ord g).length ≤ List.length (α := DNode) (g : List DNode × List DVal).1 := hol
    omega
  have e2 := canon_loop2 g (S.tab (S.ord g)) (S.ord g) (fun q => G_p_canon_18 LF g LF q) hl40 w2.lt
  have e3 := canon_loop3 g (S.tab (S.ord g)) ((S.ord g).map (S.newNode (g : List DNode × List DVal).1 (S.tab (S.ord g)))) hg.nodes
  have hm : S.meetN (S.refsL (g : List DNode × List DVal).2) [] [] = some (S.tab (S.meetL [] (S.refsL (g : List DNode × List DVal).2)), S.meetL [] (S.refsL (g : List DNode × List DVal).2)) := hm
  simp only [S.canonO, F_p_canon, R_p_canon_in, hm]
  exact w1.trans (e2.trans e3)
end Go.Proofs.Ytcnhjofpmpipfaa
end

/- Canon does not depend on the numbers of objects. -/
section
set_option linter.unusedVariables false
namespace Go.Proofs.Ytcnhjofpmpipfaa
open Go Go.Sx Go.RowKit Go.Jx
end Go.Proofs.Ytcnhjofpmpipfaa
end

/- Canon of a renumbered graph. -/
section
set_option linter.unusedVariables false
namespace Go.Proofs.Ytcnhjofpmpipfaa
open Go Go.Sx Go.RowKit Go.Jx
end Go.Proofs.Ytcnhjofpmpipfaa
end

/- Where all objects are reached, the canonical form is the graph with other numbers. -/
section
set_option linter.unusedVariables false
namespace Go.Proofs.Ytcnhjofpmpipfaa
open Go Go.Sx Go.RowKit Go.Jx
end Go.Proofs.Ytcnhjofpmpipfaa
end

/- Formed graphs. -/
section
set_option linter.unusedVariables false
namespace Go.Proofs.Ytcnhjofpmpipfaa
open Go Go.Sx Go.RowKit Go.Jx
theorem refs_val {many : Nat} (h : many ≤ 400) : ∀ (l : List (Int × Int)), (∀ v ∈ l, S.value v (Int.ofNat many) = true) → ∀ k ∈ S.refsL l, 0 ≤ k ∧ k < Int.ofNat many
  | [], _, k, hk => by cases hk
  | v :: l, hv, k, hk => by
    have ih := refs_val h l fun w hw => hv w (List.mem_cons_of_mem _ hw)
    simp only [S.refsL] at hk
    split at hk
    · rename_i h4
      rcases List.mem_cons.1 hk with h1 | h1
      · subst h1
        rcases (value_iff h v).1 (hv v List.mem_cons_self) with ⟨e, _⟩ | ⟨e, _⟩ | ⟨e, _⟩ | ⟨e, a, b⟩
        · have e : v.1 = 1 := e
          omega
        · have e : v.1 = 2 := e
          omega
        · have e : v.1 = 3 := e
          omega
        · exact ⟨a, b⟩
      · exact ih k h1
    · exact ih k hk
theorem gf_of {g : DGraph} (h : S.formed g = 0) : GF g := by
  obtain ⟨f1, f2, f3, f4, f5⟩ := formed_zero h
  exact ⟨f1, f2, f3, fun n hn => refs_val f1 _ (f4 n hn), refs_val f1 _ fun v hv => (f5 v hv).1⟩
end Go.Proofs.Ytcnhjofpmpipfaa
end

/- Values that are made of renumbered ones. -/
section
set_option linter.unusedVariables false
namespace Go.Proofs.Ytcnhjofpmpipfaa
open Go Go.Sx Go.RowKit Go.Jx
end Go.Proofs.Ytcnhjofpmpipfaa
end

/- Converted graphs that differ by numbers. -/
section
set_option linter.unusedVariables false
namespace Go.Proofs.Ytcnhjofpmpipfaa
open Go Go.Sx Go.RowKit Go.Jx
theorem jget_some {α : Type} {l : List α} {k : Int} {v : α} (h : jget l k = some v) : 0 ≤ k ∧ ∃ hi : k.toNat < l.length, l[k.toNat] = v := by
  unfold jget at h
  split at h
  · rename_i h0
    obtain ⟨hi, e⟩ := List.getElem?_eq_some_iff.1 h
    exact ⟨h0, hi, e⟩
  · cases h
end Go.Proofs.Ytcnhjofpmpipfaa
end

/- Made by program: plain forms of functions. -/
section
set_option linter.unusedVariables false
set_option maxRecDepth 100000
noncomputable section
namespace Go.Proofs.Ytcnhjofpmpipfaa
open Go Go.Sx Go.RowKit Go.Jx
def nm_slices_Equal_Val : Nat → Option Nm := fun k => cond (Nat.beq k 4) (some ⟨[0, 1, 12, 13], [], [], [], [], 0, 0, false⟩) (none)
def st_slices_Equal_Val : Nat → Bool := fun k => cond (Nat.beq k 4) true (false)
def hd_slices_Equal_Val : Nat → Bool := fun k => cond (Nat.beq k 4) true (false)
abbrev Rt_slices_Equal_Val : Type := Bool × Unit
def sml_slices_Equal_Val : List (Nat × Sm) := []
def hxl_slices_Equal_Val : List (Nat × Hx) := []
def cl_slices_Equal_Val (R : Type) (lf : Nat) : ClK R := icallK Try.prog ttT.get ftT.get (nm1 30 nm_slices_Equal_Val) (smL sml_slices_Equal_Val) (hxL hxl_slices_Equal_Val) lf 20 R
abbrev id_slices_Equal_Val : Nat := 30
def enc_slices_Equal_Val_4 (x1 : (List DVal)) (x2 : (List DVal)) (p : Int) : NRes := (NRes.mk (PT.node (some (IV.lst cVal x1)) (PT.node (some (IV.lst cVal x2)) PT.leaf (PT.node none PT.leaf (PT.node (some (IV.int Go.IntKind.i64 p)) PT.leaf PT.leaf))) (PT.node none (PT.node none PT.leaf (PT.node (some (IV.int Go.IntKind.i64 (Int.ofNat (List.length x1)))) PT.leaf PT.leaf)) PT.leaf)) (IS.mk PT.leaf 0) [] 0)
def R_slices_Equal_Val_in (lf : Nat) (x1 : (List DVal)) (x2 : (List DVal)) (L4 : Int → Option Rt_slices_Equal_Val) : Option Rt_slices_Equal_Val := (cond (Bool.not (ieqI (Int.ofNat (List.length x1)) (Int.ofNat (List.length x2)))) (some (Bool.false, ())) (L4 (Int.ofNat 0)))
def R_slices_Equal_Val_4 (lf : Nat) (x1 : (List DVal)) (x2 : (List DVal)) (L4 : Int → Option Rt_slices_Equal_Val) (p : Int) : Option Rt_slices_Equal_Val := (cond (iltI p (Int.ofNat (List.length x1))) (match (jget x1 p) with | .none  => none | .some v0 => (match (jget x2 p) with | .none  => none | .some v1 => (cond (Bool.not (Bool.and (keqI v0.1 v1.1) (Bool.and (keqI v0.2 v1.2) Bool.true))) (some (Bool.false, ())) (L4 (Go.IntKind.wrap Go.IntKind.i64 (Int.add p (Int.ofNat 1))))))) (some (Bool.true, ())))
theorem in_slices_Equal_Val (g : ElA [(.list cVal), (.list cVal)] → Option Rt_slices_Equal_Val) (J : Nat → List Nat → NRes → Option Rt_slices_Equal_Val) (lf : Nat) (x1 : (List DVal)) (x2 : (List DVal)) : icodeT Try.prog ttT.get nm_slices_Equal_Val fi30.nt (cl_slices_Equal_Val _ lf) lf st_slices_Equal_Val J fi30.body [] (argGo (argV [(.list cVal), (.list cVal)] (x1, x2, ())) 0 .leaf) S0 [] (lastK ttT.get fi30 ⟨[(.list cVal), (.list cVal)], [(false, .bool)], g⟩) = R_slices_Equal_Val_in lf x1 x2 (fun q => J 4 [lf] (enc_slices_Equal_Val_4 x1 x2 q)) := by kernel_rfl
theorem st_slices_Equal_Val_4 (g : ElA [(.list cVal), (.list cVal)] → Option Rt_slices_Equal_Val) (J : Nat → List Nat → NRes → Option Rt_slices_Equal_Val) (lf : Nat) (x1 : (List DVal)) (x2 : (List DVal)) (m1 : Nat) (p : Int) : icodeFT Try.prog ttT.get nm_slices_Equal_Val fi30.nt (cl_slices_Equal_Val _ lf) lf st_slices_Equal_Val J 4 fi30.body [] [m1] (enc_slices_Equal_Val_4 x1 x2 p) (lastK ttT.get fi30 ⟨[(.list cVal), (.list cVal)], [(false, .bool)], g⟩) = R_slices_Equal_Val_4 lf x1 x2 (fun q => J 4 [m1] (enc_slices_Equal_Val_4 x1 x2 q)) p := by kernel_rfl
theorem nd_slices_Equal_Val : (regs fi30.body).Nodup := by decide +kernel
theorem ok_slices_Equal_Val : okC nm_slices_Equal_Val st_slices_Equal_Val hd_slices_Equal_Val fi30.body none = true := by kernel_rfl
def A_slices_Equal_Val (g : ElA [(.list cVal), (.list cVal)] → Option Rt_slices_Equal_Val) (lf : Nat) : Nat → List Nat → NRes → Option Rt_slices_Equal_Val := atN Try.prog ttT.get nm_slices_Equal_Val fi30 ⟨[(.list cVal), (.list cVal)], [(false, .bool)], g⟩ (cl_slices_Equal_Val _ lf) lf hd_slices_Equal_Val
def G_slices_Equal_Val_4 (lf : Nat) (x1 : (List DVal)) (x2 : (List DVal)) : Nat → (Int) → Option Rt_slices_Equal_Val := rounds fun K p => R_slices_Equal_Val_4 lf x1 x2 K p
theorem at_slices_Equal_Val_4 (g : ElA [(.list cVal), (.list cVal)] → Option Rt_slices_Equal_Val) (lf : Nat) (x1 : (List DVal)) (x2 : (List DVal)) : ∀ (n : Nat) (p : Int), A_slices_Equal_Val g lf 4 [n] (enc_slices_Equal_Val_4 x1 x2 p) = G_slices_Equal_Val_4 lf x1 x2 n p
  | 0, p => atN_zero 4 [0] rfl _
  | n + 1, p => by
    have ih := at_slices_Equal_Val_4 g lf x1 x2 n
    refine (atN_eq (icallK_eq 20 _) nd_slices_Equal_Val ok_slices_Equal_Val 4 [n + 1] [n] rfl _).trans ((st_slices_Equal_Val_4 g (A_slices_Equal_Val g lf) lf x1 x2 n p).trans ?_)
    rw [(show (fun q => A_slices_Equal_Val g lf 4 [n] (enc_slices_Equal_Val_4 x1 x2 q)) = (fun q => G_slices_Equal_Val_4 lf x1 x2 n q) from funext ih)]
    rfl
def F_slices_Equal_Val (lf : Nat) (x1 : (List DVal)) (x2 : (List DVal)) : Option Rt_slices_Equal_Val := R_slices_Equal_Val_in lf x1 x2 (fun q => G_slices_Equal_Val_4 lf x1 x2 lf q)
theorem run_slices_Equal_Val (g : ElA [(.list cVal), (.list cVal)] → Option Rt_slices_Equal_Val) (lf : Nat) (x1 : (List DVal)) (x2 : (List DVal)) : icodeT Try.prog ttT.get nm_slices_Equal_Val fi30.nt (cl_slices_Equal_Val _ lf) lf st_slices_Equal_Val (A_slices_Equal_Val g lf) fi30.body [] (argGo (argV [(.list cVal), (.list cVal)] (x1, x2, ())) 0 .leaf) S0 [] (lastK ttT.get fi30 ⟨[(.list cVal), (.list cVal)], [(false, .bool)], g⟩) = F_slices_Equal_Val lf x1 x2 := by
    refine (in_slices_Equal_Val g (A_slices_Equal_Val g lf) lf x1 x2).trans ?_
    rw [(show (fun q => A_slices_Equal_Val g lf 4 [lf] (enc_slices_Equal_Val_4 x1 x2 q)) = (fun q => G_slices_Equal_Val_4 lf x1 x2 lf q) from funext fun q => at_slices_Equal_Val_4 g lf x1 x2 lf q)]
    rfl
theorem hxs_slices_Equal_Val : HxsOK Try.prog hxl_slices_Equal_Val := trivial
theorem mk_slices_Equal_Val {g : ElA [(.list cVal), (.list cVal)] → Option Rt_slices_Equal_Val} (hsm : SmOK Try.prog sml_slices_Equal_Val) (hg : ∀ (x : ElA [(.list cVal), (.list cVal)]) (y : Rt_slices_Equal_Val), WfA [(.list cVal), (.list cVal)] x → g x = some y → ∃ lf, F_slices_Equal_Val lf x.1 x.2.1 = some y) : Con Try.prog 30 ⟨[(.list cVal), (.list cVal)], [(false, .bool)], g⟩ :=
  conT (nmf := nm_slices_Equal_Val) (sml := sml_slices_Equal_Val) (hxl := hxl_slices_Equal_Val) (st := st_slices_Equal_Val) (hd := hd_slices_Equal_Val) 20 mixed ttOK ftOK hsm hxs_slices_Equal_Val cal30 rfl rfl (by kernel_rfl) (fun x => by kernel_rfl) nd_slices_Equal_Val ok_slices_Equal_Val fun x y hx hy => by
    obtain ⟨lf, h⟩ := hg x y hx hy
    exact ⟨lf, (run_slices_Equal_Val g lf x.1 x.2.1).trans h⟩
end Go.Proofs.Ytcnhjofpmpipfaa

end
end

/- Equal lists of values. -/
section
set_option linter.unusedVariables false
namespace Go.Proofs.Ytcnhjofpmpipfaa
open Go Go.Sx Go.RowKit Go.Jx
def S.eqVal (a b : DVal) : Bool := keqI (a : Int × Int).1 (b : Int × Int).1 && (keqI (a : Int × Int).2 (b : Int × Int).2 && true)
def S.eqVals : List DVal → List DVal → Bool
  | [], [] => true
  | a :: x, b :: y => S.eqVal a b && S.eqVals x y
  | _, _ => false
theorem eqVals_len : ∀ {a b : List DVal}, S.eqVals a b = true → a.length = b.length
  | [], [], _ => rfl
  | [], _ :: _, h => by cases h
  | _ :: _, [], h => by cases h
  | a :: x, b :: y, h => by
    simp only [S.eqVals, Bool.and_eq_true] at h
    simp [eqVals_len h.2]
def sp_slices_Equal_Val : Sm := ⟨[.list cVal, .list cVal], [(false, .bool)], fun x => some (S.eqVals x.1 x.2.1, ())⟩
theorem run_Equal_Val (a b : List DVal) (ha : a.length < LF) : F_slices_Equal_Val LF a b = some (S.eqVals a b, ()) := by
  simp only [F_slices_Equal_Val, R_slices_Equal_Val_in]
  by_cases hl : a.length = b.length
  · have h1 : ieqI (Int.ofNat (List.length a)) (Int.ofNat (List.length b)) = true := by rw [ieqI_eq]; exact decide_eq_true (by rw [hl])
    simp only [h1, Bool.not_true, cond_false]
    refine (range1 (R := Rt_slices_Equal_Val) a (fun rest i => some (S.eqVals rest (b.drop i), ())) ha (fun K => ?_) (fun K i v rest r hk => ?_)).trans ?_
    · simp only [R_slices_Equal_Val_4, ilt_self, cond_false]
      rw [hl, List.drop_length]; rfl
    · have hi : i < b.length := by rw [← hl]; exact r.lt
      have hj : jget b (Int.ofNat i) = some b[i] := by rw [jget_nat]; exact List.getElem?_eq_getElem hi
      have hd : b.drop i = b[i] :: b.drop (i + 1) := List.drop_eq_getElem_cons hi
      simp only [R_slices_Equal_Val_4, r.ilt, cond_true, r.get, hj, r.next]
      rw [hd]
      show (cond (Bool.not (S.eqVal v b[i])) (some (false, ())) (K (Int.ofNat (i + 1)))) = some (S.eqVal v b[i] && S.eqVals rest (b.drop (i + 1)), ())
      cases S.eqVal v b[i] with
      | false => rfl
      | true => exact hk
    · rw [List.drop_zero]
  · have h1 : ieqI (Int.ofNat (List.length a)) (Int.ofNat (List.length b)) = false := by rw [ieqI_eq]; exact decide_eq_false (fun e => hl (Int.ofNat.inj e))
    simp only [h1, Bool.not_false, cond_true]
    have : S.eqVals a b = false := by
      cases he : S.eqVals a b with
      | false => rfl
      | true => exact absurd (eqVals_len he) hl
    rw [this]
theorem con_slices_Equal_Val : Con Try.prog id_slices_Equal_Val sp_slices_Equal_Val := mk_slices_Equal_Val trivial fun x y hx h => ⟨LF, by
  obtain ⟨a, b, _⟩ := x
  exact (run_Equal_Val a b (wf_len hx.1)).trans h⟩
end Go.Proofs.Ytcnhjofpmpipfaa
end

/- Made by program: plain forms of functions. -/
section
set_option linter.unusedVariables false
set_option maxRecDepth 100000
noncomputable section
namespace Go.Proofs.Ytcnhjofpmpipfaa
open Go Go.Sx Go.RowKit Go.Jx
def nm_slices_EqualFunc_Node : Nat → Option Nm := fun k => cond (Nat.beq k 4) (some ⟨[1, 2, 15, 16, 17], [], [], [], [], 0, 0, false⟩) (cond (Nat.beq k 999999) (some ⟨[], [], [], [], [], 0, 0, false⟩) none)
def st_slices_EqualFunc_Node : Nat → Bool := fun k => cond (Nat.beq k 4) true (false)
def hd_slices_EqualFunc_Node : Nat → Bool := fun k => cond (Nat.beq k 4) true (false)
abbrev Rt_slices_EqualFunc_Node : Type := (Bool × Unit) × Unit
def sml_slices_EqualFunc_Node : List (Nat × Sm) := [(30, sp_slices_Equal_Val)]
def hxl_slices_EqualFunc_Node : List (Nat × Hx) := []
def cl_slices_EqualFunc_Node (R : Type) (lf : Nat) : ClK R := icallK Try.prog ttT.get ftT.get (fun _ _ => none) (smL sml_slices_EqualFunc_Node) (hxL hxl_slices_EqualFunc_Node) lf 20 R
abbrev id_slices_EqualFunc_Node : Nat := 110
def enc_slices_EqualFunc_Node_4 (x1 : (List DNode)) (x2 : (List DNode)) (p : Int) : NRes := (NRes.mk (PT.node none (PT.node (some (IV.lst cNode x2)) (PT.node none (PT.node none (PT.node (some (IV.lst cNode x1)) PT.leaf PT.leaf) PT.leaf) PT.leaf) (PT.node none (PT.node none (PT.node (some (IV.int Go.IntKind.i64 p)) PT.leaf PT.leaf) PT.leaf) PT.leaf)) (PT.node (some (IV.fn 111 [])) (PT.node none (PT.node none (PT.node (some (IV.int Go.IntKind.i64 (Int.ofNat (List.length x1)))) PT.leaf PT.leaf) PT.leaf) PT.leaf) PT.leaf)) (IS.mk PT.leaf 0) [] 0)
def R_slices_EqualFunc_Node_in (lf : Nat) (x1 : (List DNode)) (x2 : (List DNode)) (L4 : Int → Option Rt_slices_EqualFunc_Node) : Option Rt_slices_EqualFunc_Node := (cond (Bool.not (ieqI (Int.ofNat (List.length x1)) (Int.ofNat (List.length x2)))) (some ((Bool.false, ()), ())) (L4 (Int.ofNat 0)))
def R_slices_EqualFunc_Node_4 (lf : Nat) (x1 : (List DNode)) (x2 : (List DNode)) (L4 : Int → Option Rt_slices_EqualFunc_Node) (p : Int) : Option Rt_slices_EqualFunc_Node := (cond (iltI p (Int.ofNat (List.length x1))) (match (jget x1 p) with | .none  => none | .some v0 => (match (jget x2 p) with | .none  => none | .some v1 => (cond (keqS v0.1 v1.1) (cond (Bool.not (Go.Proofs.Ytcnhjofpmpipfaa.S.eqVals v0.2 v1.2)) (some ((Bool.false, ()), ())) (L4 (Go.IntKind.wrap Go.IntKind.i64 (Int.add p (Int.ofNat 1))))) (some ((Bool.false, ()), ()))))) (some ((Bool.true, ()), ())))
theorem in_slices_EqualFunc_Node (g : ElP [.dat (.list cNode), .dat (.list cNode), .fn 111] → Option Rt_slices_EqualFunc_Node) (J : Nat → List Nat → NRes → Option Rt_slices_EqualFunc_Node) (lf : Nat) (x1 : (List DNode)) (x2 : (List DNode)) : icodeTB Try.prog ttT.get nm_slices_EqualFunc_Node (mP [.dat (.list cNode), .dat (.list cNode), .fn 111]) fi110.nt (cl_slices_EqualFunc_Node _ lf) lf st_slices_EqualFunc_Node J fi110.body [] (argGo (argsP [.dat (.list cNode), .dat (.list cNode), .fn 111] idN 0 (x1, x2, ())) 0 .leaf) (Sc [.dat (.list cNode), .dat (.list cNode), .fn 111] (x1, x2, ())) [] (lastQ ttT.get fi110 ⟨[.dat (.list cNode), .dat (.list cNode), .fn 111], [(false, .bool)], g⟩) = R_slices_EqualFunc_Node_in lf x1 x2 (fun q => J 4 [lf] (enc_slices_EqualFunc_Node_4 x1 x2 q)) := by kernel_rfl
theorem st_slices_EqualFunc_Node_4 (g : ElP [.dat (.list cNode), .dat (.list cNode), .fn 111] → Option Rt_slices_EqualFunc_Node) (J : Nat → List Nat → NRes → Option Rt_slices_EqualFunc_Node) (lf : Nat) (x1 : (List DNode)) (x2 : (List DNode)) (m1 : Nat) (p : Int) : icodeFTB Try.prog ttT.get nm_slices_EqualFunc_Node (mP [.dat (.list cNode), .dat (.list cNode), .fn 111]) fi110.nt (cl_slices_EqualFunc_Node _ lf) lf st_slices_EqualFunc_Node J 4 fi110.body [] [m1] (enc_slices_EqualFunc_Node_4 x1 x2 p) (lastQ ttT.get fi110 ⟨[.dat (.list cNode), .dat (.list cNode), .fn 111], [(false, .bool)], g⟩) = R_slices_EqualFunc_Node_4 lf x1 x2 (fun q => J 4 [m1] (enc_slices_EqualFunc_Node_4 x1 x2 q)) p := by kernel_rfl
theorem nd_slices_EqualFunc_Node : (regs fi110.body).Nodup := by decide +kernel
theorem ok_slices_EqualFunc_Node : okC nm_slices_EqualFunc_Node st_slices_EqualFunc_Node hd_slices_EqualFunc_Node fi110.body none = true := by kernel_rfl
def A_slices_EqualFunc_Node (g : ElP [.dat (.list cNode), .dat (.list cNode), .fn 111] → Option Rt_slices_EqualFunc_Node) (lf : Nat) : Nat → List Nat → NRes → Option Rt_slices_EqualFunc_Node := atQ Try.prog ttT.get nm_slices_EqualFunc_Node fi110 ⟨[.dat (.list cNode), .dat (.list cNode), .fn 111], [(false, .bool)], g⟩ (cl_slices_EqualFunc_Node _ lf) lf hd_slices_EqualFunc_Node
def G_slices_EqualFunc_Node_4 (lf : Nat) (x1 : (List DNode)) (x2 : (List DNode)) : Nat → (Int) → Option Rt_slices_EqualFunc_Node := rounds fun K p => R_slices_EqualFunc_Node_4 lf x1 x2 K p
theorem at_slices_EqualFunc_Node_4 (g : ElP [.dat (.list cNode), .dat (.list cNode), .fn 111] → Option Rt_slices_EqualFunc_Node) (lf : Nat) (x1 : (List DNode)) (x2 : (List DNode)) : ∀ (n : Nat) (p : Int), A_slices_EqualFunc_Node g lf 4 [n] (enc_slices_EqualFunc_Node_4 x1 x2 p) = G_slices_EqualFunc_Node_4 lf x1 x2 n p
  | 0, p => atQ_zero 4 [0] rfl _
  | n + 1, p => by
    have ih := at_slices_EqualFunc_Node_4 g lf x1 x2 n
    refine (atQ_eq rfl (icallK_eq 20 _) nd_slices_EqualFunc_Node ok_slices_EqualFunc_Node 4 [n + 1] [n] rfl _).trans ((st_slices_EqualFunc_Node_4 g (A_slices_EqualFunc_Node g lf) lf x1 x2 n p).trans ?_)
    rw [(show (fun q => A_slices_EqualFunc_Node g lf 4 [n] (enc_slices_EqualFunc_Node_4 x1 x2 q)) = (fun q => G_slices_EqualFunc_Node_4 lf x1 x2 n q) from funext ih)]
    rfl
def F_slices_EqualFunc_Node (lf : Nat) (x1 : (List DNode)) (x2 : (List DNode)) : Option Rt_slices_EqualFunc_Node := R_slices_EqualFunc_Node_in lf x1 x2 (fun q => G_slices_EqualFunc_Node_4 lf x1 x2 lf q)
theorem run_slices_EqualFunc_Node (g : ElP [.dat (.list cNode), .dat (.list cNode), .fn 111] → Option Rt_slices_EqualFunc_Node) (lf : Nat) (x1 : (List DNode)) (x2 : (List DNode)) : icodeTB Try.prog ttT.get nm_slices_EqualFunc_Node (mP [.dat (.list cNode), .dat (.list cNode), .fn 111]) fi110.nt (cl_slices_EqualFunc_Node _ lf) lf st_slices_EqualFunc_Node (A_slices_EqualFunc_Node g lf) fi110.body [] (argGo (argsP [.dat (.list cNode), .dat (.list cNode), .fn 111] idN 0 (x1, x2, ())) 0 .leaf) (Sc [.dat (.list cNode), .dat (.list cNode), .fn 111] (x1, x2, ())) [] (lastQ ttT.get fi110 ⟨[.dat (.list cNode), .dat (.list cNode), .fn 111], [(false, .bool)], g⟩) = F_slices_EqualFunc_Node lf x1 x2 := by
    refine (in_slices_EqualFunc_Node g (A_slices_EqualFunc_Node g lf) lf x1 x2).trans ?_
    rw [(show (fun q => A_slices_EqualFunc_Node g lf 4 [lf] (enc_slices_EqualFunc_Node_4 x1 x2 q)) = (fun q => G_slices_EqualFunc_Node_4 lf x1 x2 lf q) from funext fun q => at_slices_EqualFunc_Node_4 g lf x1 x2 lf q)]
    rfl
theorem hxs_slices_EqualFunc_Node : HxsOK Try.prog hxl_slices_EqualFunc_Node := trivial
theorem mk_slices_EqualFunc_Node {g : ElP [.dat (.list cNode), .dat (.list cNode), .fn 111] → Option Rt_slices_EqualFunc_Node} (hsm : SmOK Try.prog sml_slices_EqualFunc_Node) (hg : ∀ (x : ElP [.dat (.list cNode), .dat (.list cNode), .fn 111]) (y : Rt_slices_EqualFunc_Node), WfP [.dat (.list cNode), .dat (.list cNode), .fn 111] x → g x = some y → ∃ lf, F_slices_EqualFunc_Node lf x.1 x.2.1 = some y) : ConR Try.prog 110 ⟨[.dat (.list cNode), .dat (.list cNode), .fn 111], [(false, .bool)], g⟩ :=
  conTR (nmf := nm_slices_EqualFunc_Node) (sml := sml_slices_EqualFunc_Node) (hxl := hxl_slices_EqualFunc_Node) (st := st_slices_EqualFunc_Node) (hd := hd_slices_EqualFunc_Node) 20 mixed ttOK ftOK hsm hxs_slices_EqualFunc_Node cal110 (by kernel_rfl) (fun x => by kernel_rfl) nd_slices_EqualFunc_Node ok_slices_EqualFunc_Node fun x y z hx hy => by
    obtain ⟨lf, h⟩ := hg x (y, z) hx hy
    exact ⟨lf, (run_slices_EqualFunc_Node g lf x.1 x.2.1).trans h⟩
end Go.Proofs.Ytcnhjofpmpipfaa

end
end

/- Equal lists of objects. -/
section
set_option linter.unusedVariables false
namespace Go.Proofs.Ytcnhjofpmpipfaa
open Go Go.Sx Go.RowKit Go.Jx
def S.eqNode (a b : DNode) : Bool := keqS (a : ByteArray × List DVal).1 (b : ByteArray × List DVal).1 && S.eqVals (a : ByteArray × List DVal).2 (b : ByteArray × List DVal).2
def S.eqNodes : List DNode → List DNode → Bool
  | [], [] => true
  | a :: x, b :: y => S.eqNode a b && S.eqNodes x y
  | _, _ => false
theorem eqNodes_len : ∀ {a b : List DNode}, S.eqNodes a b = true → a.length = b.length
  | [], [], _ => rfl
  | [], _ :: _, h => by cases h
  | _ :: _, [], h => by cases h
  | a :: x, b :: y, h => by
    simp only [S.eqNodes, Bool.and_eq_true] at h
    simp [eqNodes_len h.2]
def sp_slices_EqualFunc_Node : SmR := ⟨[.dat (.list cNode), .dat (.list cNode), .fn 111], [(false, .bool)], fun x => some ((S.eqNodes x.1 x.2.1, ()), ())⟩
theorem run_EqualFunc_Node (a b : List DNode) (ha : a.length < LF) : F_slices_EqualFunc_Node LF a b = some ((S.eqNodes a b, ()), ()) := by
  simp only [F_slices_EqualFunc_Node, R_slices_EqualFunc_Node_in]
  by_cases hl : a.length = b.length
  · have h1 : ieqI (Int.ofNat (List.length a)) (Int.ofNat (List.length b)) = true := by rw [ieqI_eq]; exact decide_eq_true (by rw [hl])
    simp only [h1, Bool.not_true, cond_false]
    refine (range1 (R := Rt_slices_EqualFunc_Node) a (fun rest i => some ((S.eqNodes rest (b.drop i), ()), ())) ha (fun K => ?_) (fun K i v rest r hk => ?_)).trans ?_
    · simp only [R_slices_EqualFunc_Node_4, ilt_self, cond_false]
      rw [hl, List.drop_length]; rfl
    · have hi : i < b.length := by rw [← hl]; exact r.lt
      have hj : jget b (Int.ofNat i) = some b[i] := by rw [jget_nat]; exact List.getElem?_eq_getElem hi
      have hd : b.drop i = b[i] :: b.drop (i + 1) := List.drop_eq_getElem_cons hi
      simp only [R_slices_EqualFunc_Node_4, r.ilt, cond_true, r.get, hj, r.next]
      rw [hd]
      show _ = some ((S.eqNode v b[i] && S.eqNodes rest (b.drop (i + 1)), ()), ())
      unfold S.eqNode
      cases keqS (v : ByteArray × List DVal).1 (b[i] : ByteArray × List DVal).1 with
      | false => rfl
      | true =>
        show (cond (Bool.not (S.eqVals (v : ByteArray × List DVal).2 (b[i] : ByteArray × List DVal).2)) (some ((false, ()), ())) (K (Int.ofNat (i + 1)))) = some (((true && S.eqVals (v : ByteArray × List DVal).2 (b[i] : ByteArray × List DVal).2) && S.eqNodes rest (b.drop (i + 1)), ()), ())
        cases S.eqVals (v : ByteArray × List DVal).2 (b[i] : ByteArray × List DVal).2 with
        | false => rfl
        | true => exact hk
    · rw [List.drop_zero]
  · have h1 : ieqI (Int.ofNat (List.length a)) (Int.ofNat (List.length b)) = false := by rw [ieqI_eq]; exact decide_eq_false (fun e => hl (Int.ofNat.inj e))
    simp only [h1, Bool.not_false, cond_true]
    have : S.eqNodes a b = false := by
      cases he : S.eqNodes a b with
      | false => rfl
      | true => exact absurd (eqNodes_len he) hl
    rw [this]
theorem con_slices_EqualFunc_Node : ConR Try.prog id_slices_EqualFunc_Node sp_slices_EqualFunc_Node := mk_slices_EqualFunc_Node ⟨con_slices_Equal_Val, trivial⟩ fun x y hx h => ⟨LF, by
  obtain ⟨a, b, _⟩ := x
  exact (run_EqualFunc_Node a b (wf_len hx.1)).trans h⟩
end Go.Proofs.Ytcnhjofpmpipfaa
end

/- Made by program: plain forms of functions. -/
section
set_option linter.unusedVariables false
set_option maxRecDepth 100000
noncomputable section
namespace Go.Proofs.Ytcnhjofpmpipfaa
open Go Go.Sx Go.RowKit Go.Jx
def nm_p_equal : Nat → Option Nm := fun k => none
def st_p_equal : Nat → Bool := fun k => false
def hd_p_equal : Nat → Bool := fun k => false
abbrev Rt_p_equal : Type := Bool × Unit
def sml_p_equal : List (Nat × Sm) := [(30, sp_slices_Equal_Val)]
def hxl_p_equal : List (Nat × Hx) := [(110, hxR sp_slices_EqualFunc_Node)]
def cl_p_equal (R : Type) (lf : Nat) : ClK R := icallK Try.prog ttT.get ftT.get (nm1 72 nm_p_equal) (smL sml_p_equal) (hxL hxl_p_equal) lf 20 R
abbrev id_p_equal : Nat := 72
def R_p_equal_in (lf : Nat) (x1 : DGraph) (x2 : DGraph) : Option Rt_p_equal := (cond (Go.Proofs.Ytcnhjofpmpipfaa.S.eqVals x1.2 x2.2) (some ((Go.Proofs.Ytcnhjofpmpipfaa.S.eqNodes x1.1 x2.1), ())) (some (Bool.false, ())))
theorem in_p_equal (g : ElA [cGraph, cGraph] → Option Rt_p_equal) (J : Nat → List Nat → NRes → Option Rt_p_equal) (lf : Nat) (x1 : DGraph) (x2 : DGraph) : icodeT Try.prog ttT.get nm_p_equal fi72.nt (cl_p_equal _ lf) lf st_p_equal J fi72.body [] (argGo (argV [cGraph, cGraph] (x1, x2, ())) 0 .leaf) S0 [] (lastK ttT.get fi72 ⟨[cGraph, cGraph], [(false, .bool)], g⟩) = R_p_equal_in lf x1 x2 := by kernel_rfl
theorem nd_p_equal : (regs fi72.body).Nodup := by decide +kernel
theorem ok_p_equal : okC nm_p_equal st_p_equal hd_p_equal fi72.body none = true := by kernel_rfl
def A_p_equal (g : ElA [cGraph, cGraph] → Option Rt_p_equal) (lf : Nat) : Nat → List Nat → NRes → Option Rt_p_equal := atN Try.prog ttT.get nm_p_equal fi72 ⟨[cGraph, cGraph], [(false, .bool)], g⟩ (cl_p_equal _ lf) lf hd_p_equal
def F_p_equal (lf : Nat) (x1 : DGraph) (x2 : DGraph) : Option Rt_p_equal := R_p_equal_in lf x1 x2
theorem run_p_equal (g : ElA [cGraph, cGraph] → Option Rt_p_equal) (lf : Nat) (x1 : DGraph) (x2 : DGraph) : icodeT Try.prog ttT.get nm_p_equal fi72.nt (cl_p_equal _ lf) lf st_p_equal (A_p_equal g lf) fi72.body [] (argGo (argV [cGraph, cGraph] (x1, x2, ())) 0 .leaf) S0 [] (lastK ttT.get fi72 ⟨[cGraph, cGraph], [(false, .bool)], g⟩) = F_p_equal lf x1 x2 := by
    refine (in_p_equal g (A_p_equal g lf) lf x1 x2).trans ?_
    rfl
theorem hxs_p_equal (hr_slices_EqualFunc_Node : ConR Try.prog 110 sp_slices_EqualFunc_Node) : HxsOK Try.prog hxl_p_equal := ⟨hxR_ok hr_slices_EqualFunc_Node, trivial⟩
theorem mk_p_equal {g : ElA [cGraph, cGraph] → Option Rt_p_equal} (hsm : SmOK Try.prog sml_p_equal) (hr_slices_EqualFunc_Node : ConR Try.prog 110 sp_slices_EqualFunc_Node) (hg : ∀ (x : ElA [cGraph, cGraph]) (y : Rt_p_equal), WfA [cGraph, cGraph] x → g x = some y → ∃ lf, F_p_equal lf x.1 x.2.1 = some y) : Con Try.prog 72 ⟨[cGraph, cGraph], [(false, .bool)], g⟩ :=
  conT (nmf := nm_p_equal) (sml := sml_p_equal) (hxl := hxl_p_equal) (st := st_p_equal) (hd := hd_p_equal) 20 mixed ttOK ftOK hsm (hxs_p_equal hr_slices_EqualFunc_Node) cal72 rfl rfl (by kernel_rfl) (fun x => by kernel_rfl) nd_p_equal ok_p_equal fun x y hx hy => by
    obtain ⟨lf, h⟩ := hg x y hx hy
    exact ⟨lf, (run_p_equal g lf x.1 x.2.1).trans h⟩
end Go.Proofs.Ytcnhjofpmpipfaa

end
end

/- Made by program: plain forms of functions. -/
section
set_option linter.unusedVariables false
set_option maxRecDepth 100000
noncomputable section
namespace Go.Proofs.Ytcnhjofpmpipfaa
open Go Go.Sx Go.RowKit Go.Jx
def nm_p_Canon : Nat → Option Nm := fun k => none
def st_p_Canon : Nat → Bool := fun k => false
def hd_p_Canon : Nat → Bool := fun k => false
abbrev Rt_p_Canon : Type := DGraph × (List Int) × Int × Unit
def sml_p_Canon : List (Nat × Sm) := [(70, sp_p_formed), (62, sp_p_canon)]
def hxl_p_Canon : List (Nat × Hx) := []
def cl_p_Canon (R : Type) (lf : Nat) : ClK R := icallK Try.prog ttT.get ftT.get (nm1 22 nm_p_Canon) (smL sml_p_Canon) (hxL hxl_p_Canon) lf 20 R
abbrev id_p_Canon : Nat := 22
def R_p_Canon_in (lf : Nat) (x1 : DGraph) : Option Rt_p_Canon := (cond (Bool.not (ieqI (Go.Proofs.Ytcnhjofpmpipfaa.S.formed (x1.1, x1.2)) (Int.ofNat 0))) (some (([], []), ([], ((Go.Proofs.Ytcnhjofpmpipfaa.S.formed (x1.1, x1.2)), ())))) (match (Go.Proofs.Ytcnhjofpmpipfaa.S.canonO (x1.1, x1.2)) with | .none  => none | .some v0 => (some ((v0.1.1, v0.1.2), (v0.2.1, ((Int.ofNat 0), ()))))))
theorem in_p_Canon (g : ElA [cGraph] → Option Rt_p_Canon) (J : Nat → List Nat → NRes → Option Rt_p_Canon) (lf : Nat) (x1 : DGraph) : icodeT Try.prog ttT.get nm_p_Canon fi22.nt (cl_p_Canon _ lf) lf st_p_Canon J fi22.body [] (argGo (argV [cGraph] (x1, ())) 0 .leaf) S0 [] (lastK ttT.get fi22 ⟨[cGraph], [(false, cGraph), (false, (.list (.int .i64))), (false, (.int .i64))], g⟩) = R_p_Canon_in lf x1 := by kernel_rfl
theorem nd_p_Canon : (regs fi22.body).Nodup := by decide +kernel
theorem ok_p_Canon : okC nm_p_Canon st_p_Canon hd_p_Canon fi22.body none = true := by kernel_rfl
def A_p_Canon (g : ElA [cGraph] → Option Rt_p_Canon) (lf : Nat) : Nat → List Nat → NRes → Option Rt_p_Canon := atN Try.prog ttT.get nm_p_Canon fi22 ⟨[cGraph], [(false, cGraph), (false, (.list (.int .i64))), (false, (.int .i64))], g⟩ (cl_p_Canon _ lf) lf hd_p_Canon
def F_p_Canon (lf : Nat) (x1 : DGraph) : Option Rt_p_Canon := R_p_Canon_in lf x1
theorem run_p_Canon (g : ElA [cGraph] → Option Rt_p_Canon) (lf : Nat) (x1 : DGraph) : icodeT Try.prog ttT.get nm_p_Canon fi22.nt (cl_p_Canon _ lf) lf st_p_Canon (A_p_Canon g lf) fi22.body [] (argGo (argV [cGraph] (x1, ())) 0 .leaf) S0 [] (lastK ttT.get fi22 ⟨[cGraph], [(false, cGraph), (false, (.list (.int .i64))), (false, (.int .i64))], g⟩) = F_p_Canon lf x1 := by
    refine (in_p_Canon g (A_p_Canon g lf) lf x1).trans ?_
    rfl
theorem hxs_p_Canon : HxsOK Try.prog hxl_p_Canon := trivial
theorem mk_p_Canon {g : ElA [cGraph] → Option Rt_p_Canon} (hsm : SmOK Try.prog sml_p_Canon) (hg : ∀ (x : ElA [cGraph]) (y : Rt_p_Canon), WfA [cGraph] x → g x = some y → ∃ lf, F_p_Canon lf x.1 = some y) : Con Try.prog 22 ⟨[cGraph], [(false, cGraph), (false, (.list (.int .i64))), (false, (.int .i64))], g⟩ :=
  conT (nmf := nm_p_Canon) (sml := sml_p_Canon) (hxl := hxl_p_Canon) (st := st_p_Canon) (hd := hd_p_Canon) 20 mixed ttOK ftOK hsm hxs_p_Canon cal22 rfl rfl (by kernel_rfl) (fun x => by kernel_rfl) nd_p_Canon ok_p_Canon fun x y hx hy => by
    obtain ⟨lf, h⟩ := hg x y hx hy
    exact ⟨lf, (run_p_Canon g lf x.1).trans h⟩
def nm_p_Part : Nat → Option Nm := fun k => none
def st_p_Part : Nat → Bool := fun k => false
def hd_p_Part : Nat → Bool := fun k => false
abbrev Rt_p_Part : Type := DGraph × Int × Unit
def sml_p_Part : List (Nat × Sm) := [(70, sp_p_formed), (62, sp_p_canon), (83, sp_p_within)]
def hxl_p_Part : List (Nat × Hx) := []
def cl_p_Part (R : Type) (lf : Nat) : ClK R := icallK Try.prog ttT.get ftT.get (nm1 33 nm_p_Part) (smL sml_p_Part) (hxL hxl_p_Part) lf 20 R
abbrev id_p_Part : Nat := 33
def R_p_Part_in (lf : Nat) (x1 : DGraph) (x2 : Int) : Option Rt_p_Part := (cond (Bool.not (ieqI (Go.Proofs.Ytcnhjofpmpipfaa.S.formed (x1.1, x1.2)) (Int.ofNat 0))) (some (([], []), ((Go.Proofs.Ytcnhjofpmpipfaa.S.formed (x1.1, x1.2)), ()))) (cond (Bool.not (Go.Proofs.Ytcnhjofpmpipfaa.S.within x2 (Int.ofNat 0) (Go.IntKind.wrap Go.IntKind.i64 (Int.sub (Int.ofNat (List.length x1.2)) (Int.ofNat 1))))) (some (([], []), ((Int.ofNat 1), ()))) (cond (lchk x2 (Go.IntKind.wrap Go.IntKind.i64 (Int.add x2 (Int.ofNat 1))) (Int.ofNat (List.length x1.2)) (Int.ofNat (List.length x1.2))) (match (Go.Proofs.Ytcnhjofpmpipfaa.S.canonO (x1.1, (lsub x1.2 x2 (Go.IntKind.wrap Go.IntKind.i64 (Int.add x2 (Int.ofNat 1)))))) with | .none  => none | .some v0 => (some ((v0.1.1, v0.1.2), ((Int.ofNat 0), ())))) none)))
theorem in_p_Part (g : ElA [cGraph, (.int .i64)] → Option Rt_p_Part) (J : Nat → List Nat → NRes → Option Rt_p_Part) (lf : Nat) (x1 : DGraph) (x2 : Int) : icodeT Try.prog ttT.get nm_p_Part fi33.nt (cl_p_Part _ lf) lf st_p_Part J fi33.body [] (argGo (argV [cGraph, (.int .i64)] (x1, x2, ())) 0 .leaf) S0 [] (lastK ttT.get fi33 ⟨[cGraph, (.int .i64)], [(false, cGraph), (false, (.int .i64))], g⟩) = R_p_Part_in lf x1 x2 := by kernel_rfl
theorem nd_p_Part : (regs fi33.body).Nodup := by decide +kernel
theorem ok_p_Part : okC nm_p_Part st_p_Part hd_p_Part fi33.body none = true := by kernel_rfl
def A_p_Part (g : ElA [cGraph, (.int .i64)] → Option Rt_p_Part) (lf : Nat) : Nat → List Nat → NRes → Option Rt_p_Part := atN Try.prog ttT.get nm_p_Part fi33 ⟨[cGraph, (.int .i64)], [(false, cGraph), (false, (.int .i64))], g⟩ (cl_p_Part _ lf) lf hd_p_Part
def F_p_Part (lf : Nat) (x1 : DGraph) (x2 : Int) : Option Rt_p_Part := R_p_Part_in lf x1 x2
theorem run_p_Part (g : ElA [cGraph, (.int .i64)] → Option Rt_p_Part) (lf : Nat) (x1 : DGraph) (x2 : Int) : icodeT Try.prog ttT.get nm_p_Part fi33.nt (cl_p_Part _ lf) lf st_p_Part (A_p_Part g lf) fi33.body [] (argGo (argV [cGraph, (.int .i64)] (x1, x2, ())) 0 .leaf) S0 [] (lastK ttT.get fi33 ⟨[cGraph, (.int .i64)], [(false, cGraph), (false, (.int .i64))], g⟩) = F_p_Part lf x1 x2 := by
    refine (in_p_Part g (A_p_Part g lf) lf x1 x2).trans ?_
    rfl
theorem hxs_p_Part : HxsOK Try.prog hxl_p_Part := trivial
theorem mk_p_Part {g : ElA [cGraph, (.int .i64)] → Option Rt_p_Part} (hsm : SmOK Try.prog sml_p_Part) (hg : ∀ (x : ElA [cGraph, (.int .i64)]) (y : Rt_p_Part), WfA [cGraph, (.int .i64)] x → g x = some y → ∃ lf, F_p_Part lf x.1 x.2.1 = some y) : Con Try.prog 33 ⟨[cGraph, (.int .i64)], [(false, cGraph), (false, (.int .i64))], g⟩ :=
  conT (nmf := nm_p_Part) (sml := sml_p_Part) (hxl := hxl_p_Part) (st := st_p_Part) (hd := hd_p_Part) 20 mixed ttOK ftOK hsm hxs_p_Part cal33 rfl rfl (by kernel_rfl) (fun x => by kernel_rfl) nd_p_Part ok_p_Part fun x y hx hy => by
    obtain ⟨lf, h⟩ := hg x y hx hy
    exact ⟨lf, (run_p_Part g lf x.1 x.2.1).trans h⟩
end Go.Proofs.Ytcnhjofpmpipfaa

end
end

/- The contracts of equal, Canon, Part. -/
section
set_option linter.unusedVariables false
namespace Go.Proofs.Ytcnhjofpmpipfaa
open Go Go.Sx Go.RowKit Go.Jx
def S.eqGraph (a b : DGraph) : Bool := S.eqVals (a : List DNode × List DVal).2 (b : List DNode × List DVal).2 && S.eqNodes (a : List DNode × List DVal).1 (b : List DNode × List DVal).1
def sp_p_equal : Sm := ⟨[cGraph, cGraph], [(false, .bool)], fun x => some (S.eqGraph x.1 x.2.1, ())⟩
theorem con_p_equal : Con Try.prog id_p_equal sp_p_equal := mk_p_equal ⟨con_slices_Equal_Val, trivial⟩ con_slices_EqualFunc_Node fun x y hx h => ⟨0, by
  obtain ⟨a, b, _⟩ := x
  refine Eq.trans ?_ h
  show (cond (S.eqVals (a : List DNode × List DVal).2 (b : List DNode × List DVal).2) (some ((S.eqNodes (a : List DNode × List DVal).1 (b : List DNode × List DVal).1), ())) (some (Bool.false, ())) : Option Rt_p_equal) = some (S.eqGraph a b, ())
  unfold S.eqGraph
  cases S.eqVals (a : List DNode × List DVal).2 (b : List DNode × List DVal).2 <;> rfl⟩
end Go.Proofs.Ytcnhjofpmpipfaa
end

/- Made by program: plain forms of functions. -/
section
set_option linter.unusedVariables false
set_option maxRecDepth 100000
noncomputable section
namespace Go.Proofs.Ytcnhjofpmpipfaa
open Go Go.Sx Go.RowKit Go.Jx
def nm_p_Same : Nat → Option Nm := fun k => none
def st_p_Same : Nat → Bool := fun k => false
def hd_p_Same : Nat → Bool := fun k => false
abbrev Rt_p_Same : Type := Bool × Int × Unit
def sml_p_Same : List (Nat × Sm) := [(70, sp_p_formed), (49, sp_p_first), (62, sp_p_canon), (72, sp_p_equal)]
def hxl_p_Same : List (Nat × Hx) := []
def cl_p_Same (R : Type) (lf : Nat) : ClK R := icallK Try.prog ttT.get ftT.get (nm1 25 nm_p_Same) (smL sml_p_Same) (hxL hxl_p_Same) lf 20 R
abbrev id_p_Same : Nat := 25
def R_p_Same_in (lf : Nat) (x1 : DGraph) (x2 : DGraph) : Option Rt_p_Same := (cond (Bool.not (ieqI (Go.Proofs.Ytcnhjofpmpipfaa.S.first (List.cons (Go.Proofs.Ytcnhjofpmpipfaa.S.formed (x1.1, x1.2)) (List.cons (Go.Proofs.Ytcnhjofpmpipfaa.S.formed (x2.1, x2.2)) []))) (Int.ofNat 0))) (some (Bool.false, ((Go.Proofs.Ytcnhjofpmpipfaa.S.first (List.cons (Go.Proofs.Ytcnhjofpmpipfaa.S.formed (x1.1, x1.2)) (List.cons (Go.Proofs.Ytcnhjofpmpipfaa.S.formed (x2.1, x2.2)) []))), ()))) (match (Go.Proofs.Ytcnhjofpmpipfaa.S.canonO (x1.1, x1.2)) with | .none  => none | .some v0 => (match (Go.Proofs.Ytcnhjofpmpipfaa.S.canonO (x2.1, x2.2)) with | .none  => none | .some v1 => (some ((Go.Proofs.Ytcnhjofpmpipfaa.S.eqGraph (v0.1.1, v0.1.2) (v1.1.1, v1.1.2)), ((Int.ofNat 0), ()))))))
theorem in_p_Same (g : ElA [cGraph, cGraph] → Option Rt_p_Same) (J : Nat → List Nat → NRes → Option Rt_p_Same) (lf : Nat) (x1 : DGraph) (x2 : DGraph) : icodeT Try.prog ttT.get nm_p_Same fi25.nt (cl_p_Same _ lf) lf st_p_Same J fi25.body [] (argGo (argV [cGraph, cGraph] (x1, x2, ())) 0 .leaf) S0 [] (lastK ttT.get fi25 ⟨[cGraph, cGraph], [(false, .bool), (false, (.int .i64))], g⟩) = R_p_Same_in lf x1 x2 := by kernel_rfl
theorem nd_p_Same : (regs fi25.body).Nodup := by decide +kernel
theorem ok_p_Same : okC nm_p_Same st_p_Same hd_p_Same fi25.body none = true := by kernel_rfl
def A_p_Same (g : ElA [cGraph, cGraph] → Option Rt_p_Same) (lf : Nat) : Nat → List Nat → NRes → Option Rt_p_Same := atN Try.prog ttT.get nm_p_Same fi25 ⟨[cGraph, cGraph], [(false, .bool), (false, (.int .i64))], g⟩ (cl_p_Same _ lf) lf hd_p_Same
def F_p_Same (lf : Nat) (x1 : DGraph) (x2 : DGraph) : Option Rt_p_Same := R_p_Same_in lf x1 x2
theorem run_p_Same (g : ElA [cGraph, cGraph] → Option Rt_p_Same) (lf : Nat) (x1 : DGraph) (x2 : DGraph) : icodeT Try.prog ttT.get nm_p_Same fi25.nt (cl_p_Same _ lf) lf st_p_Same (A_p_Same g lf) fi25.body [] (argGo (argV [cGraph, cGraph] (x1, x2, ())) 0 .leaf) S0 [] (lastK ttT.get fi25 ⟨[cGraph, cGraph], [(false, .bool), (false, (.int .i64))], g⟩) = F_p_Same lf x1 x2 := by
    refine (in_p_Same g (A_p_Same g lf) lf x1 x2).trans ?_
    rfl
theorem hxs_p_Same : HxsOK Try.prog hxl_p_Same := trivial
theorem mk_p_Same {g : ElA [cGraph, cGraph] → Option Rt_p_Same} (hsm : SmOK Try.prog sml_p_Same) (hg : ∀ (x : ElA [cGraph, cGraph]) (y : Rt_p_Same), WfA [cGraph, cGraph] x → g x = some y → ∃ lf, F_p_Same lf x.1 x.2.1 = some y) : Con Try.prog 25 ⟨[cGraph, cGraph], [(false, .bool), (false, (.int .i64))], g⟩ :=
  conT (nmf := nm_p_Same) (sml := sml_p_Same) (hxl := hxl_p_Same) (st := st_p_Same) (hd := hd_p_Same) 20 mixed ttOK ftOK hsm hxs_p_Same cal25 rfl rfl (by kernel_rfl) (fun x => by kernel_rfl) nd_p_Same ok_p_Same fun x y hx hy => by
    obtain ⟨lf, h⟩ := hg x y hx hy
    exact ⟨lf, (run_p_Same g lf x.1 x.2.1).trans h⟩
end Go.Proofs.Ytcnhjofpmpipfaa

end
end

/- The contract of Same. -/
section
set_option linter.unusedVariables false
namespace Go.Proofs.Ytcnhjofpmpipfaa
open Go Go.Sx Go.RowKit Go.Jx
end Go.Proofs.Ytcnhjofpmpipfaa
end

/- Equal graphs are equal. -/
section
set_option linter.unusedVariables false
namespace Go.Proofs.Ytcnhjofpmpipfaa
open Go Go.Sx Go.RowKit Go.Jx
theorem eqVals_self : ∀ l : List DVal, S.eqVals l l = true
  | [] => rfl
  | v :: l => by
    simp only [S.eqVals, eqVals_self l, Bool.and_true]
    unfold S.eqVal
    rw [keqI_eq2, keqI_eq2]; simp
theorem eqNodes_self : ∀ l : List DNode, S.eqNodes l l = true
  | [] => rfl
  | v :: l => by
    simp only [S.eqNodes, eqNodes_self l, Bool.and_true]
    unfold S.eqNode
    rw [eqVals_self, Bool.and_true]
    show decide (_ = _) = true
    exact decide_eq_true rfl
theorem eqGraph_self (g : DGraph) : S.eqGraph g g = true := by
  unfold S.eqGraph
  rw [eqVals_self, eqNodes_self]; rfl
end Go.Proofs.Ytcnhjofpmpipfaa
end

/- Ways that look at a number have no reference as their source. -/
section
set_option linter.unusedVariables false
namespace Go.Proofs.Ytcnhjofpmpipfaa
open Go Go.Sx Go.RowKit Go.Jx
end Go.Proofs.Ytcnhjofpmpipfaa
end

/- A renumbered graph is right where the graph is. -/
section
set_option linter.unusedVariables false
namespace Go.Proofs.Ytcnhjofpmpipfaa
open Go Go.Sx Go.RowKit Go.Jx
end Go.Proofs.Ytcnhjofpmpipfaa
end

/- The canonical form of a formed graph is formed. -/
section
set_option linter.unusedVariables false
namespace Go.Proofs.Ytcnhjofpmpipfaa
open Go Go.Sx Go.RowKit Go.Jx
end Go.Proofs.Ytcnhjofpmpipfaa
end

/- A graph within another one has the same canonical form; canon of canon is canon. -/
section
set_option linter.unusedVariables false
namespace Go.Proofs.Ytcnhjofpmpipfaa
open Go Go.Sx Go.RowKit Go.Jx
def Closed (nd : List DNode) (o : List Int) : Prop := ∀ a ∈ o, ∀ k ∈ S.refsL (S.nodeAt nd a : ByteArray × List DVal).2, k ∈ o
theorem walk_closed {y : List DNode × List DVal} (hg : GF y) : ∀ (f : Nat) (o : List Int) (i : Nat), OrdOK y.1 o → i ≤ o.length → y.1.length - i < f → (∀ j (h : j < o.length), j < i → ∀ k ∈ S.refsL (S.nodeAt y.1 o[j] : ByteArray × List DVal).2, k ∈ o) →
    OrdOK y.1 (S.walk y.1 f o i) ∧ Closed y.1 (S.walk y.1 f o i) ∧ ∀ k ∈ o, k ∈ S.walk y.1 f o i
  | 0, _, _, _, _, h, _ => by omega
  | f + 1, o, i, ho, hi, h1, hc => by
    simp only [S.walk]
    cases hk : o[i]? with
    | none =>
      have hie : o.length ≤ i := List.getElem?_eq_none_iff.1 hk
      refine ⟨ho, fun a ha k hk2 => ?_, fun k hk => hk⟩
      obtain ⟨j, hj, rfl⟩ := List.mem_iff_getElem.1 ha
      exact hc j hj (Nat.lt_of_lt_of_le hj hie) k hk2
    | some k =>
      obtain ⟨hi, hik⟩ := List.getElem?_eq_some_iff.1 hk
      have hlen := ho.len
      obtain ⟨k1, k2⟩ := ho.lt k (List.mem_of_getElem? hk)
      obtain ⟨v, v1, v2, v3⟩ := jget_of (l := y.1) k1 k2
      simp only [v1]
      have hnv : S.nodeAt y.1 k = v := by unfold S.nodeAt; rw [v1]; rfl
      obtain ⟨t, ht⟩ := meetL_pre (S.refsL (v : ByteArray × List DVal).2) o
      have hl2 := meetL_len (S.refsL (v : ByteArray × List DVal).2) o
      obtain ⟨r1, r2, r3⟩ := walk_closed hg f (S.meetL o (S.refsL (v : ByteArray × List DVal).2)) (i + 1) (ho.meet (hg.ref v v3)) (by omega) (by omega) fun j hj hji k' hk' => by
        have hjo : j < o.length := by omega
        have e : (S.meetL o (S.refsL (v : ByteArray × List DVal).2))[j] = o[j] := by
          simp only [ht]
          exact List.getElem_append_left hjo
        rw [e] at hk'
        refine (meetL_mem _ _ _).2 ?_
        by_cases hje : j < i
        · exact .inl (hc j hjo hje k' hk')
        · have : j = i := by omega
          subst this
          rw [hik, hnv] at hk'
          exact .inr hk'
      exact ⟨r1, r2, fun a ha => r3 a ((meetL_mem _ _ _).2 (.inl ha))⟩
theorem ord_closed {y : List DNode × List DVal} (hg : GF y) : OrdOK y.1 (S.ord y) ∧ Closed y.1 (S.ord y) ∧ ∀ k ∈ S.refsL y.2, k ∈ S.ord y := by
  have ho : OrdOK y.1 (S.meetL [] (S.refsL y.2)) := ⟨meetL_nodup _ _ List.nodup_nil, fun a ha => by
    rcases (meetL_mem _ _ a).1 ha with h1 | h1
    · cases h1
    · exact hg.rref a h1⟩
  obtain ⟨r1, r2, r3⟩ := walk_closed hg (y.1.length + 1) (S.meetL [] (S.refsL y.2)) 0 ho (Nat.zero_le _) (by omega) (fun j h h' => by omega)
  exact ⟨r1, r2, fun k hk => r3 k ((meetL_mem _ _ _).2 (.inr hk))⟩
end Go.Proofs.Ytcnhjofpmpipfaa
end

/- The canonical form of a formed graph is formed, and is its own canonical form. -/
section
set_option linter.unusedVariables false
namespace Go.Proofs.Ytcnhjofpmpipfaa
open Go Go.Sx Go.RowKit Go.Jx
theorem refsL_mem {l : List (Int × Int)} {v : Int × Int} (hv : v ∈ l) (h4 : v.1 = 4) : v.2 ∈ S.refsL l := by
  induction l with
  | nil => cases hv
  | cons w l ih =>
    simp only [S.refsL]
    rcases List.mem_cons.1 hv with rfl | hv
    · rw [if_pos h4]; exact List.mem_cons_self
    · split
      · exact List.mem_cons_of_mem _ (ih hv)
      · exact ih hv
end Go.Proofs.Ytcnhjofpmpipfaa
end

/- Contracts out of runs that begin with own slices under new numbers: so they may grow in loops. -/
section
set_option linter.unusedVariables false
namespace Go.Jx
open Go Go.Sx Go.RowKit
universe u

section
variable {P : Program} {tt : Nat → Option TI} {ft : Nat → Option FI}
end
end Go.Jx
end

/- What canon, number, Sum, Encode compute: one form for both sides. -/
section
set_option linter.unusedVariables false
noncomputable section
namespace Go.Proofs.Ytcnhjofpmpipfaa
open Go Go.Sx Go.RowKit Go.Jx
abbrev DR22Graphed : Type := DGraph × List Int × Int
abbrev DR22Truth : Type := Bool × Int
namespace S
def numU : Nat → Int → List Int
  | 0, u => [u]
  | f + 1, u => if u < 128 then [u] else (128 + u % 128) :: numU f (u / 128)
def num (n : Int) : List Int := numU 10 (if n < 0 then -2 * n - 1 else 2 * n)
def code (v : Int × Int) : Int := if v.1 = 3 then 0 else if v.1 = 4 then IntKind.i64.wrap (v.2 + 1) else v.2
def codes (l : List (Int × Int)) : List Int := l.flatMap fun v => num (code v)
def encN (l : List DForm) (n : ByteArray × List (Int × Int)) : List Int := num (S.form l n.1) ++ codes n.2
def enc (l : List DForm) (g : List DNode × List DVal) : List Int := num (Int.ofNat g.1.length) ++ (g.1.flatMap (encN l) ++ (num (Int.ofNat g.2.length) ++ codes g.2))
end S
def sp_r_canon : Sm := ⟨[cGraph], [(false, cR22Graphed)], fun x => cond (ieqI (S.formed x.1) (Int.ofNat 0)) (some ((S.canonG x.1, S.numsG x.1, Int.ofNat 0), ())) none⟩
end Go.Proofs.Ytcnhjofpmpipfaa

end
end

/- What the law's bounds and the comparisons compute. -/
section
set_option linter.unusedVariables false
noncomputable section
namespace Go.Proofs.Ytcnhjofpmpipfaa
open Go Go.Sx Go.RowKit Go.Jx
namespace S
def sameVals (a b : List DVal) : Bool := decide (a = b)
def sameGraphs (a b : DGraph) : Bool := decide (a = b)
end S
def sp_r_SameVals : Sm := ⟨[.list cVal, .list cVal], [(false, .bool)], fun x => some (S.sameVals x.1 x.2.1, ())⟩
def sp_r_SameGraphs : Sm := ⟨[cGraph, cGraph], [(false, .bool)], fun x => some (S.sameGraphs x.1 x.2.1, ())⟩
namespace S
def few (g : DGraph) : Bool :=
  g.1.all (fun n => decide ((n.2.length ≤ 8 ∨ 30 < n.2.length) ∧ n.2.length ≤ 40)) && decide ((g.1.length ≤ 30 ∨ 400 < g.1.length ∧ g.1.length ≤ 410) ∧ (g.2.length ≤ 10 ∨ 60 < g.2.length ∧ g.2.length ≤ 70))
end S
def sp_l_few : Sm := ⟨[cGraph], [(false, .bool)], fun x => some (S.few x.1, ())⟩
def sp_l_sanity : Sm := ⟨[], [(false, .bool)], fun _ => some (true, ())⟩
end Go.Proofs.Ytcnhjofpmpipfaa

end
end

/- What Join and Part compute: one form for both sides. -/
section
set_option linter.unusedVariables false
noncomputable section
namespace Go.Proofs.Ytcnhjofpmpipfaa
open Go Go.Sx Go.RowKit Go.Jx
namespace S
def byV (many : Int) (v : Int × Int) : Int × Int := if v.1 = 4 then (v.1, IntKind.i64.wrap (Int.add v.2 many)) else v
def byL (l : List (Int × Int)) (many : Int) : List (Int × Int) := l.map (byV many)
def byN (many : Int) (n : ByteArray × List (Int × Int)) : ByteArray × List (Int × Int) := (n.1, byL n.2 many)
def joinG (a b : List (ByteArray × List (Int × Int)) × List (Int × Int)) : List (ByteArray × List (Int × Int)) × List (Int × Int) := (a.1 ++ b.1.map (byN (Int.ofNat a.1.length)), a.2 ++ byL b.2 (Int.ofNat a.1.length))
def growOK (n : Int) : Bool := decide (0 ≤ n) && decide (n ≤ 1000000)
def zG : DGraph := (([], []) : List DNode × List DVal)
def joinB (a b : DGraph) : DGraph × Int :=
  if ¬ S.formed a = 0 then (zG, S.formed a) else if ¬ S.formed b = 0 then (zG, S.formed b)
  else if 400 < List.length (α := DNode) a.1 + List.length (α := DNode) b.1 ∨ 60 < List.length (α := DVal) a.2 + List.length (α := DVal) b.2 then (zG, 3) else (joinG a b, 0)
def partB (g : DGraph) (k : Int) : DGraph × Int :=
  if ¬ S.formed g = 0 then (zG, S.formed g) else match jget (α := DVal) g.2 k with
    | none => (zG, 1)
    | some v => (S.canonG ((g.1, [v]) : List DNode × List DVal), 0)
def canonB (g : DGraph) : DGraph × List Int × Int := if S.formed g = 0 then (S.canonG g, S.numsG g, 0) else (zG, [], S.formed g)
def sameB (a b : DGraph) : Bool × Int := if ¬ S.formed a = 0 then (false, S.formed a) else if ¬ S.formed b = 0 then (false, S.formed b) else (S.sameGraphs (S.canonG a) (S.canonG b), 0)
end S
def sp_p_Join_1 : Sm := ⟨[.list cVal, .int .i64], [(false, .list cVal)], fun x => some (S.byL x.1 x.2.1, ())⟩
def sp_slices_Concat_Val : Sm := ⟨[.list (.list cVal)], [(false, .list cVal)], fun x => cond (Nat.ble (List.length (List.flatten (α := DVal) x.1)) 1000000) (some (List.flatten (α := DVal) x.1, ())) none⟩
def sp_p_Join : Sm := ⟨[cGraph, cGraph], [(false, cGraph), (false, .int .i64)], fun x => some ((S.joinB x.1 x.2.1).1, (S.joinB x.1 x.2.1).2, ())⟩
def sp_r_Join : Sm := ⟨[cGraph, cGraph], [(false, cR22Graphed)], fun x => some (((S.joinB x.1 x.2.1).1, [], (S.joinB x.1 x.2.1).2), ())⟩
def sp_p_PartB : Sm := ⟨[cGraph, .int .i64], [(false, cGraph), (false, .int .i64)], fun x => some ((S.partB x.1 x.2.1).1, (S.partB x.1 x.2.1).2, ())⟩
def sp_r_Part : Sm := ⟨[cGraph, .int .i64], [(false, cR22Graphed)], fun x => some (((S.partB x.1 x.2.1).1, [], (S.partB x.1 x.2.1).2), ())⟩
def sp_p_CanonB : Sm := ⟨[cGraph], [(false, cGraph), (false, .list (.int .i64)), (false, .int .i64)], fun x => some ((S.canonB x.1).1, (S.canonB x.1).2.1, (S.canonB x.1).2.2, ())⟩
def sp_r_Canon : Sm := ⟨[cGraph], [(false, cR22Graphed)], fun x => some (((S.canonB x.1).1, (S.canonB x.1).2.1, (S.canonB x.1).2.2), ())⟩
def sp_p_SameB : Sm := ⟨[cGraph, cGraph], [(false, .bool), (false, .int .i64)], fun x => some ((S.sameB x.1 x.2.1).1, (S.sameB x.1 x.2.1).2, ())⟩
def sp_r_Same : Sm := ⟨[cGraph, cGraph], [(false, cR22Truth)], fun x => some (((S.sameB x.1 x.2.1).1, (S.sameB x.1 x.2.1).2), ())⟩
end Go.Proofs.Ytcnhjofpmpipfaa

end
end

/- Made by program: plain forms of functions. -/
section
set_option linter.unusedVariables false
set_option maxRecDepth 100000
noncomputable section
namespace Go.Proofs.Ytcnhjofpmpipfaa
open Go Go.Sx Go.RowKit Go.Jx
def S.sameI (a b : List Int) : Bool := decide (a = b)
def sp_l_sameInts : Sm := ⟨[.list (.int .i64), .list (.int .i64)], [(false, .bool)], fun x => some (S.sameI x.1 x.2.1, ())⟩
def nm_l_sameInts : Nat → Option Nm := fun k => cond (Nat.beq k 4) (some ⟨[0, 1, 5], [], [], [], [], 0, 0, false⟩) (none)
def st_l_sameInts : Nat → Bool := fun k => cond (Nat.beq k 4) true (false)
def hd_l_sameInts : Nat → Bool := fun k => cond (Nat.beq k 4) true (false)
abbrev Rt_l_sameInts : Type := Bool × Unit
def sml_l_sameInts : List (Nat × Sm) := []
def hxl_l_sameInts : List (Nat × Hx) := []
def cl_l_sameInts (R : Type) (lf : Nat) : ClK R := icallK Try.prog ttT.get ftT.get (nm1 39 nm_l_sameInts) (smL sml_l_sameInts) (hxL hxl_l_sameInts) lf 20 R
abbrev id_l_sameInts : Nat := 39
def enc_l_sameInts_4 (x1 : (List Int)) (x2 : (List Int)) (p : Int) : NRes := (NRes.mk (PT.node (some (IV.lst (TC.int Go.IntKind.i64) x1)) (PT.node (some (IV.lst (TC.int Go.IntKind.i64) x2)) PT.leaf (PT.node (some (IV.int Go.IntKind.i64 p)) PT.leaf PT.leaf)) PT.leaf) (IS.mk PT.leaf 0) [] 0)
def R_l_sameInts_in (lf : Nat) (x1 : (List Int)) (x2 : (List Int)) (L4 : Int → Option Rt_l_sameInts) : Option Rt_l_sameInts := (cond (Bool.not (ieqI (Int.ofNat (List.length x1)) (Int.ofNat (List.length x2)))) (some (Bool.false, ())) (L4 (Int.ofNat 0)))
def R_l_sameInts_4 (lf : Nat) (x1 : (List Int)) (x2 : (List Int)) (L4 : Int → Option Rt_l_sameInts) (p : Int) : Option Rt_l_sameInts := (cond (iltI p (Int.ofNat (List.length x1))) (match (jget x1 p) with | .none  => none | .some v0 => (match (jget x2 p) with | .none  => none | .some v1 => (cond (Bool.not (ieqI v0 v1)) (some (Bool.false, ())) (L4 (Go.IntKind.wrap Go.IntKind.i64 (Int.add p (Int.ofNat 1))))))) (some (Bool.true, ())))
theorem in_l_sameInts (g : ElA [(.list (.int .i64)), (.list (.int .i64))] → Option Rt_l_sameInts) (J : Nat → List Nat → NRes → Option Rt_l_sameInts) (lf : Nat) (x1 : (List Int)) (x2 : (List Int)) : icodeT Try.prog ttT.get nm_l_sameInts fi39.nt (cl_l_sameInts _ lf) lf st_l_sameInts J fi39.body [] (argGo (argV [(.list (.int .i64)), (.list (.int .i64))] (x1, x2, ())) 0 .leaf) S0 [] (lastK ttT.get fi39 ⟨[(.list (.int .i64)), (.list (.int .i64))], [(false, .bool)], g⟩) = R_l_sameInts_in lf x1 x2 (fun q => J 4 [lf] (enc_l_sameInts_4 x1 x2 q)) := by kernel_rfl
theorem st_l_sameInts_4 (g : ElA [(.list (.int .i64)), (.list (.int .i64))] → Option Rt_l_sameInts) (J : Nat → List Nat → NRes → Option Rt_l_sameInts) (lf : Nat) (x1 : (List Int)) (x2 : (List Int)) (m1 : Nat) (p : Int) : icodeFT Try.prog ttT.get nm_l_sameInts fi39.nt (cl_l_sameInts _ lf) lf st_l_sameInts J 4 fi39.body [] [m1] (enc_l_sameInts_4 x1 x2 p) (lastK ttT.get fi39 ⟨[(.list (.int .i64)), (.list (.int .i64))], [(false, .bool)], g⟩) = R_l_sameInts_4 lf x1 x2 (fun q => J 4 [m1] (enc_l_sameInts_4 x1 x2 q)) p := by kernel_rfl
theorem nd_l_sameInts : (regs fi39.body).Nodup := by decide +kernel
theorem ok_l_sameInts : okC nm_l_sameInts st_l_sameInts hd_l_sameInts fi39.body none = true := by kernel_rfl
def A_l_sameInts (g : ElA [(.list (.int .i64)), (.list (.int .i64))] → Option Rt_l_sameInts) (lf : Nat) : Nat → List Nat → NRes → Option Rt_l_sameInts := atN Try.prog ttT.get nm_l_sameInts fi39 ⟨[(.list (.int .i64)), (.list (.int .i64))], [(false, .bool)], g⟩ (cl_l_sameInts _ lf) lf hd_l_sameInts
def G_l_sameInts_4 (lf : Nat) (x1 : (List Int)) (x2 : (List Int)) : Nat → (Int) → Option Rt_l_sameInts := rounds fun K p => R_l_sameInts_4 lf x1 x2 K p
theorem at_l_sameInts_4 (g : ElA [(.list (.int .i64)), (.list (.int .i64))] → Option Rt_l_sameInts) (lf : Nat) (x1 : (List Int)) (x2 : (List Int)) : ∀ (n : Nat) (p : Int), A_l_sameInts g lf 4 [n] (enc_l_sameInts_4 x1 x2 p) = G_l_sameInts_4 lf x1 x2 n p
  | 0, p => atN_zero 4 [0] rfl _
  | n + 1, p => by
    have ih := at_l_sameInts_4 g lf x1 x2 n
    refine (atN_eq (icallK_eq 20 _) nd_l_sameInts ok_l_sameInts 4 [n + 1] [n] rfl _).trans ((st_l_sameInts_4 g (A_l_sameInts g lf) lf x1 x2 n p).trans ?_)
    rw [(show (fun q => A_l_sameInts g lf 4 [n] (enc_l_sameInts_4 x1 x2 q)) = (fun q => G_l_sameInts_4 lf x1 x2 n q) from funext ih)]
    rfl
def F_l_sameInts (lf : Nat) (x1 : (List Int)) (x2 : (List Int)) : Option Rt_l_sameInts := R_l_sameInts_in lf x1 x2 (fun q => G_l_sameInts_4 lf x1 x2 lf q)
theorem run_l_sameInts (g : ElA [(.list (.int .i64)), (.list (.int .i64))] → Option Rt_l_sameInts) (lf : Nat) (x1 : (List Int)) (x2 : (List Int)) : icodeT Try.prog ttT.get nm_l_sameInts fi39.nt (cl_l_sameInts _ lf) lf st_l_sameInts (A_l_sameInts g lf) fi39.body [] (argGo (argV [(.list (.int .i64)), (.list (.int .i64))] (x1, x2, ())) 0 .leaf) S0 [] (lastK ttT.get fi39 ⟨[(.list (.int .i64)), (.list (.int .i64))], [(false, .bool)], g⟩) = F_l_sameInts lf x1 x2 := by
    refine (in_l_sameInts g (A_l_sameInts g lf) lf x1 x2).trans ?_
    rw [(show (fun q => A_l_sameInts g lf 4 [lf] (enc_l_sameInts_4 x1 x2 q)) = (fun q => G_l_sameInts_4 lf x1 x2 lf q) from funext fun q => at_l_sameInts_4 g lf x1 x2 lf q)]
    rfl
theorem hxs_l_sameInts : HxsOK Try.prog hxl_l_sameInts := trivial
theorem mk_l_sameInts {g : ElA [(.list (.int .i64)), (.list (.int .i64))] → Option Rt_l_sameInts} (hsm : SmOK Try.prog sml_l_sameInts) (hg : ∀ (x : ElA [(.list (.int .i64)), (.list (.int .i64))]) (y : Rt_l_sameInts), WfA [(.list (.int .i64)), (.list (.int .i64))] x → g x = some y → ∃ lf, F_l_sameInts lf x.1 x.2.1 = some y) : Con Try.prog 39 ⟨[(.list (.int .i64)), (.list (.int .i64))], [(false, .bool)], g⟩ :=
  conT (nmf := nm_l_sameInts) (sml := sml_l_sameInts) (hxl := hxl_l_sameInts) (st := st_l_sameInts) (hd := hd_l_sameInts) 20 mixed ttOK ftOK hsm hxs_l_sameInts cal39 rfl rfl (by kernel_rfl) (fun x => by kernel_rfl) nd_l_sameInts ok_l_sameInts fun x y hx hy => by
    obtain ⟨lf, h⟩ := hg x y hx hy
    exact ⟨lf, (run_l_sameInts g lf x.1 x.2.1).trans h⟩
def nm_l_PackCanons : Nat → Option Nm := fun k => none
def st_l_PackCanons : Nat → Bool := fun k => false
def hd_l_PackCanons : Nat → Bool := fun k => false
abbrev Rt_l_PackCanons : Type := Bool × Unit
def sml_l_PackCanons : List (Nat × Sm) := [(14, sp_l_few), (15, sp_l_sanity), (22, sp_p_CanonB), (35, sp_r_Canon), (25, sp_p_SameB), (36, sp_r_Same), (32, sp_p_Join), (37, sp_r_Join), (33, sp_p_PartB), (38, sp_r_Part), (26, sp_r_SameGraphs), (39, sp_l_sameInts)]
def hxl_l_PackCanons : List (Nat × Hx) := []
def cl_l_PackCanons (R : Type) (lf : Nat) : ClK R := icallK Try.prog ttT.get ftT.get (nm1 10 nm_l_PackCanons) (smL sml_l_PackCanons) (hxL hxl_l_PackCanons) lf 20 R
abbrev id_l_PackCanons : Nat := 10
def R_l_PackCanons_in (lf : Nat) (x1 : DGraph) (x2 : DGraph) (x3 : Int) : Option Rt_l_PackCanons := (cond (Bool.not (Go.Proofs.Ytcnhjofpmpipfaa.S.few (x1.1, x1.2))) (some (Bool.true, ())) (cond (Bool.not (Go.Proofs.Ytcnhjofpmpipfaa.S.few (x2.1, x2.2))) (some (Bool.true, ())) (cond (Go.Proofs.Ytcnhjofpmpipfaa.S.sameGraphs ((Go.Proofs.Ytcnhjofpmpipfaa.S.canonB (x1.1, x1.2)).1.1, (Go.Proofs.Ytcnhjofpmpipfaa.S.canonB (x1.1, x1.2)).1.2) ((Go.Proofs.Ytcnhjofpmpipfaa.S.canonB (x1.1, x1.2)).1.1, (Go.Proofs.Ytcnhjofpmpipfaa.S.canonB (x1.1, x1.2)).1.2)) (cond (Go.Proofs.Ytcnhjofpmpipfaa.S.sameI (Go.Proofs.Ytcnhjofpmpipfaa.S.canonB (x1.1, x1.2)).2.1 (Go.Proofs.Ytcnhjofpmpipfaa.S.canonB (x1.1, x1.2)).2.1) (cond (Go.Proofs.Ytcnhjofpmpipfaa.S.sameGraphs ((Go.Proofs.Ytcnhjofpmpipfaa.S.joinB (x1.1, x1.2) (x2.1, x2.2)).1.1, (Go.Proofs.Ytcnhjofpmpipfaa.S.joinB (x1.1, x1.2) (x2.1, x2.2)).1.2) ((Go.Proofs.Ytcnhjofpmpipfaa.S.joinB (x1.1, x1.2) (x2.1, x2.2)).1.1, (Go.Proofs.Ytcnhjofpmpipfaa.S.joinB (x1.1, x1.2) (x2.1, x2.2)).1.2)) (cond (Go.Proofs.Ytcnhjofpmpipfaa.S.sameGraphs ((Go.Proofs.Ytcnhjofpmpipfaa.S.partB (x1.1, x1.2) x3).1.1, (Go.Proofs.Ytcnhjofpmpipfaa.S.partB (x1.1, x1.2) x3).1.2) ((Go.Proofs.Ytcnhjofpmpipfaa.S.partB (x1.1, x1.2) x3).1.1, (Go.Proofs.Ytcnhjofpmpipfaa.S.partB (x1.1, x1.2) x3).1.2)) (cond (ieqI (Go.Proofs.Ytcnhjofpmpipfaa.S.canonB (x1.1, x1.2)).2.2 (Go.Proofs.Ytcnhjofpmpipfaa.S.canonB (x1.1, x1.2)).2.2) (cond (Decidable.decide (Eq (Go.Proofs.Ytcnhjofpmpipfaa.S.sameB (x1.1, x1.2) (x2.1, x2.2)).1 (Go.Proofs.Ytcnhjofpmpipfaa.S.sameB (x1.1, x1.2) (x2.1, x2.2)).1)) (cond (ieqI (Go.Proofs.Ytcnhjofpmpipfaa.S.sameB (x1.1, x1.2) (x2.1, x2.2)).2 (Go.Proofs.Ytcnhjofpmpipfaa.S.sameB (x1.1, x1.2) (x2.1, x2.2)).2) (cond (ieqI (Go.Proofs.Ytcnhjofpmpipfaa.S.joinB (x1.1, x1.2) (x2.1, x2.2)).2 (Go.Proofs.Ytcnhjofpmpipfaa.S.joinB (x1.1, x1.2) (x2.1, x2.2)).2) (some ((ieqI (Go.Proofs.Ytcnhjofpmpipfaa.S.partB (x1.1, x1.2) x3).2 (Go.Proofs.Ytcnhjofpmpipfaa.S.partB (x1.1, x1.2) x3).2), ())) (some (Bool.false, ()))) (some (Bool.false, ()))) (some (Bool.false, ()))) (some (Bool.false, ()))) (some (Bool.false, ()))) (some (Bool.false, ()))) (some (Bool.false, ()))) (some (Bool.false, ())))))
theorem in_l_PackCanons (g : ElA [cGraph, cGraph, (.int .i64)] → Option Rt_l_PackCanons) (J : Nat → List Nat → NRes → Option Rt_l_PackCanons) (lf : Nat) (x1 : DGraph) (x2 : DGraph) (x3 : Int) : icodeT Try.prog ttT.get nm_l_PackCanons fi10.nt (cl_l_PackCanons _ lf) lf st_l_PackCanons J fi10.body [] (argGo (argV [cGraph, cGraph, (.int .i64)] (x1, x2, x3, ())) 0 .leaf) S0 [] (lastK ttT.get fi10 ⟨[cGraph, cGraph, (.int .i64)], [(false, .bool)], g⟩) = R_l_PackCanons_in lf x1 x2 x3 := by kernel_rfl
theorem nd_l_PackCanons : (regs fi10.body).Nodup := by decide +kernel
theorem ok_l_PackCanons : okC nm_l_PackCanons st_l_PackCanons hd_l_PackCanons fi10.body none = true := by kernel_rfl
def A_l_PackCanons (g : ElA [cGraph, cGraph, (.int .i64)] → Option Rt_l_PackCanons) (lf : Nat) : Nat → List Nat → NRes → Option Rt_l_PackCanons := atN Try.prog ttT.get nm_l_PackCanons fi10 ⟨[cGraph, cGraph, (.int .i64)], [(false, .bool)], g⟩ (cl_l_PackCanons _ lf) lf hd_l_PackCanons
def F_l_PackCanons (lf : Nat) (x1 : DGraph) (x2 : DGraph) (x3 : Int) : Option Rt_l_PackCanons := R_l_PackCanons_in lf x1 x2 x3
theorem run_l_PackCanons (g : ElA [cGraph, cGraph, (.int .i64)] → Option Rt_l_PackCanons) (lf : Nat) (x1 : DGraph) (x2 : DGraph) (x3 : Int) : icodeT Try.prog ttT.get nm_l_PackCanons fi10.nt (cl_l_PackCanons _ lf) lf st_l_PackCanons (A_l_PackCanons g lf) fi10.body [] (argGo (argV [cGraph, cGraph, (.int .i64)] (x1, x2, x3, ())) 0 .leaf) S0 [] (lastK ttT.get fi10 ⟨[cGraph, cGraph, (.int .i64)], [(false, .bool)], g⟩) = F_l_PackCanons lf x1 x2 x3 := by
    refine (in_l_PackCanons g (A_l_PackCanons g lf) lf x1 x2 x3).trans ?_
    rfl
theorem hxs_l_PackCanons : HxsOK Try.prog hxl_l_PackCanons := trivial
theorem mk_l_PackCanons {g : ElA [cGraph, cGraph, (.int .i64)] → Option Rt_l_PackCanons} (hsm : SmOK Try.prog sml_l_PackCanons) (hg : ∀ (x : ElA [cGraph, cGraph, (.int .i64)]) (y : Rt_l_PackCanons), WfA [cGraph, cGraph, (.int .i64)] x → g x = some y → ∃ lf, F_l_PackCanons lf x.1 x.2.1 x.2.2.1 = some y) : Con Try.prog 10 ⟨[cGraph, cGraph, (.int .i64)], [(false, .bool)], g⟩ :=
  conT (nmf := nm_l_PackCanons) (sml := sml_l_PackCanons) (hxl := hxl_l_PackCanons) (st := st_l_PackCanons) (hd := hd_l_PackCanons) 20 mixed ttOK ftOK hsm hxs_l_PackCanons cal10 rfl rfl (by kernel_rfl) (fun x => by kernel_rfl) nd_l_PackCanons ok_l_PackCanons fun x y hx hy => by
    obtain ⟨lf, h⟩ := hg x y hx hy
    exact ⟨lf, (run_l_PackCanons g lf x.1 x.2.1 x.2.2.1).trans h⟩
end Go.Proofs.Ytcnhjofpmpipfaa

end
end

/- The calls of slices.Grow on nil. -/
section
set_option linter.unusedVariables false
set_option maxRecDepth 100000
namespace Go.Sx
open Go
section
variable {P : Program} {ops : Array Oper} {Q : Exit → Act → World → Prop} {n : Nat} {σ : Nat → Value} {w : World} {rest : List Oper} {d : Nat} {ty : TypeId} {pos : String} {aft : Array Edge} {g : Option (Nat × Bool)}
theorem op_cap {T E : TypeId} {size bytes : Nat} {zero : Value} {x : Operand} {a : Option Addr} {l c : Nat} (hT : Ty P T (.slice E) size bytes zero) (hg : wantF ops σ n g = true) (hx : okO n x = true) (ex : ev σ x = .slice a l c)
    (k : wpList P ops Q rest (Fr n (upd σ d (.int .i64 c))) w) : wpList P ops Q (⟨some d, .call ⟨.builtin .cap, #[x], #[T]⟩, ty, pos, aft, g⟩ :: rest) (Fr n σ) w :=
  op_val hg (by
    have h1 : (#[x].map (Fr n σ).eval) = #[Value.slice a l c] := by simp [eval_Fr hx, ex]
    simp only [execOp, resolve, h1, invoke, builtin, Builtin.cap_, Sem.run_bind, Sem.run_pure, Result.andThen_ok, List.getElem?_toArray, List.getElem?_cons_zero, run_underlying hT.und, goInt]) k
theorem run_slice0 {T E : TypeId} {size bytes s b2 : Nat} {zero z2 : Value} {D : TypeDesc} {a : Option Addr} {l c : Nat} (hT : Ty P T (.slice E) size bytes zero) (hE : Ty P E D s b2 z2) (ha : ∀ b, a = some b → b.spot = none) :
    (Instr.sliceAt T (.slice a l c) none (some (.int .i64 0)) none).run P w = .ok (.slice a 0 c) w := by
  have e : (Instr.sliceBounds true l c none (some (.int .i64 0)) none).run P w = .ok (0, 0, c) w := by
    simp [Instr.sliceBounds, Instr.sliceBound, asIntOf, Sem.run_bind, Sem.run_pure, Result.andThen_ok]
  simp only [Instr.sliceAt, Sem.run_bind, run_underlying hT.und, Result.andThen_ok, Instr.slice, e, run_sizeOf hE, Sem.run_pure]
  cases a with
  | none => simp
  | some b =>
    have hb := ha b rfl
    obtain ⟨b1, b2, b3⟩ := b
    simp only at hb
    subst hb
    by_cases hc : c = 0
    · simp [hc]
    · simp [hc, Addr.add]
theorem op_slice0 {T E : TypeId} {size bytes s b2 : Nat} {zero z2 : Value} {D : TypeDesc} {x y : Operand} {a : Option Addr} {l c : Nat} (hT : Ty P T (.slice E) size bytes zero) (hE : Ty P E D s b2 z2) (ha : ∀ b, a = some b → b.spot = none) (hg : wantF ops σ n g = true) (hx : (okO n x && okO n y) = true) (ex : ev σ x = .slice a l c) (ey : ev σ y = .int .i64 0)
    (k : wpList P ops Q rest (Fr n (upd σ d (.slice a 0 c))) w) : wpList P ops Q (⟨some d, .slice T x none (some y) none, ty, pos, aft, g⟩ :: rest) (Fr n σ) w :=
  op_val hg (by
    simp only [Bool.and_eq_true] at hx
    simp only [execOp, Option.map_none, Option.map_some, eval_Fr hx.1, eval_Fr hx.2, ex, ey, run_slice0 hT hE ha, Sem.run_bind, Sem.run_pure, Result.andThen_ok]) k
theorem op_appendZ {T N : TypeId} {x y : Operand} {u v r : Value} {w' : World} (hr : ∀ ty, (Builtin.append_ #[T, N] ty #[u, v]).run P w = .ok r w') (hg : wantF ops σ n g = true) (hx : (okO n x && okO n y) = true) (ex : ev σ x = u) (ey : ev σ y = v)
    (k : wpList P ops Q rest (Fr n (upd σ d r)) w') : wpList P ops Q (⟨some d, .call ⟨.builtin .append, #[x, y], #[T, N]⟩, ty, pos, aft, g⟩ :: rest) (Fr n σ) w :=
  op_val hg (by
    simp only [Bool.and_eq_true] at hx
    have h1 : (#[x, y].map (Fr n σ).eval) = #[u, v] := by simp [eval_Fr hx.1, eval_Fr hx.2, ex, ey]
    simp only [execOp, resolve, h1, invoke, builtin, hr, Sem.run_bind, Sem.run_pure, Result.andThen_ok]) k
end
end Go.Sx
namespace Go.Proofs.Ytcnhjofpmpipfaa
open Go Go.Sx Go.RowKit Go.Jx
theorem zsz (k G : Nat) (h : k ≤ G) : G * 2 ≤ (Builtin.zeroCells (Value.agg #[.int .i64 0, .int .i64 0]).cells k ++ Builtin.zeroCells (Value.agg #[.int .i64 0, .int .i64 0]).cells (G - k)).size := by
  have e : ∀ m, (Builtin.zeroCells (Value.agg #[.int .i64 0, .int .i64 0]).cells m).size = m * 2 := fun m => by
    simp [Builtin.zeroCells, Value.cells]
  rw [Array.size_append, e, e]; omega
theorem grow_walk {w : World} {n : Int} (h0 : 0 ≤ n) (h1 : n ≤ 1000000) : Calls Try.prog 117 #[.slice none 0 0, .int .i64 n] w
    (Ret fun v w' => (v = .slice none 0 0 ∧ w' = w) ∨ ∃ (nc : Nat) (cells : Array Value), v = .slice (some ⟨w.heap.size, 0, none⟩) 0 nc ∧ w' = w.drew.alloc (.cells cells 51) ∧ nc * 2 ≤ cells.size ∧ nc < 9223372036854775808) := by
  refine enter (l := [.slice none 0 0, .int .i64 n]) Try.func117 rfl Try.ntmps117 rfl ?_
  refine c_seq fun KhK1 hK1 => ?_
  refine c_reg ?_
  refine op_assign (v := .slice none 0 0) rfl rfl rfl ?_
  refine wpList_nil ?_
  refine hK1 _ _ ?_
  refine c_seq fun KhK2 hK2 => ?_
  refine c_seq fun KhK3 hK3 => ?_
  refine c_reg ?_
  refine op_move (v := .int .i64 n) rfl rfl rfl ?_
  refine op_lss (a := n) (b := 0) rfl rfl rfl rfl ?_
  refine wpList_nil ?_
  refine hK3 _ _ ?_
  refine c_if rfl rfl (fun hb4 => absurd hb4 (by omega)) (fun hb4 => ?_)
  refine wp_skip ?_
  refine hK2 _ _ ?_
  refine c_seq fun KhK4 hK4 => ?_
  refine c_seq fun KhK5 hK5 => ?_
  refine c_reg ?_
  refine op_move (v := .int .i64 n) rfl rfl rfl ?_
  refine op_move (v := .slice none 0 0) rfl rfl rfl ?_
  refine op_cap (a := none) (l := 0) (c := 0) ty24 rfl rfl rfl ?_
  refine op_move (v := .slice none 0 0) rfl rfl rfl ?_
  refine op_len (a := none) (l := 0) (c := 0) ty24 rfl rfl rfl ?_
  refine op_sub (a := 0) (b := 0) rfl rfl rfl rfl (by omega) ?_
  refine op_sub (a := n) (b := 0 - 0) rfl rfl rfl rfl (by omega) ?_
  refine op_assign (v := .int .i64 (n - (0 - 0))) rfl rfl rfl ?_
  refine wpList_nil ?_
  refine hK5 _ _ ?_
  refine c_seq fun KhK6 hK6 => ?_
  refine c_reg ?_
  refine op_move (v := .int .i64 (n - (0 - 0))) rfl rfl rfl ?_
  refine op_gtr (a := n - (0 - 0)) (b := 0) rfl rfl rfl rfl ?_
  refine wpList_nil ?_
  refine hK6 _ _ ?_
  refine c_if rfl rfl (fun hb7 => ?_) (fun hb7 => ?_)
  · refine c_reg ?_
    have hn : ∃ k : Nat, n - (0 - 0) = (k : Int) ∧ 0 < k ∧ k ≤ 1000000 := ⟨n.toNat, by omega, by omega, by omega⟩
    obtain ⟨k, e, k0, k1⟩ := hn
    rw [e] at *
    have hi : ∃ i, Try.prog.info? 51 = some i ∧ i.size = 2 ∧ i.bytes = 16 ∧ i.zero = some (.agg #[.int .i64 0, .int .i64 0]) := ty51.inf
    obtain ⟨i, i1, i2, i3, i4⟩ := hi
    have hrun : ∀ ty, (Builtin.append_ #[24, 3] ty #[.slice none 0 0, .int .i64 k]).run Try.prog w = _ := fun ty =>
      Go.Lib.run_append_nil_zeros (P := Try.prog) w 24 3 ty 51 i _ .i64 .i64 ty24.und ty3.und i1 i4 k k0 (by rw [i2]; omega) (by omega) (by rw [i3]; omega)
    refine op_move (v := .slice none 0 0) rfl rfl rfl ?_
    refine op_move (v := .slice none 0 0) rfl rfl rfl ?_
    refine op_cap (a := none) (l := 0) (c := 0) ty24 rfl rfl rfl ?_
    refine op_slice0 (a := none) (l := 0) (c := 0) ty24 ty51 (fun _ h => by cases h) rfl rfl rfl rfl ?_
    refine op_move (v := .int .i64 k) rfl rfl rfl ?_
    refine op_appendZ hrun rfl rfl rfl rfl ?_
    refine op_move (v := .slice none 0 0) rfl rfl rfl ?_
    refine op_len (a := none) (l := 0) (c := 0) ty24 rfl rfl rfl ?_
    refine op_slice0 (a := some ⟨w.heap.size, 0, none⟩) (l := k) (c := grownCap w k 0 51) ty24 ty51 (fun _ h => by cases h; rfl) rfl rfl rfl rfl ?_
    refine op_assign (v := .slice (some ⟨w.heap.size, 0, none⟩) 0 (grownCap w k 0 51)) rfl rfl rfl ?_
    refine wpList_nil ?_
    refine hK4 _ _ ?_
    refine c_seq fun KhK8 hK8 => ?_
    refine c_reg ?_
    refine op_move (v := .slice (some ⟨w.heap.size, 0, none⟩) 0 (grownCap w k 0 51)) rfl rfl rfl ?_
    refine op_assign (v := .slice (some ⟨w.heap.size, 0, none⟩) 0 (grownCap w k 0 51)) rfl rfl rfl ?_
    refine wpList_nil ?_
    refine hK8 _ _ ?_
    refine wp_ret ?_
    exact ret1 Try.results117 rfl (.inr ⟨_, _, rfl, rfl, zsz k (grownCap w k 0 51) (grownCap_ge w _ _ _), by
      have := grownCap_le_maxLen w k 0 51 (by unfold maxLen; omega)
      unfold maxLen at this; omega⟩)
  · refine wp_skip ?_
    refine hK4 _ _ ?_
    refine c_seq fun KhK8 hK8 => ?_
    refine c_reg ?_
    refine op_move (v := .slice none 0 0) rfl rfl rfl ?_
    refine op_assign (v := .slice none 0 0) rfl rfl rfl ?_
    refine wpList_nil ?_
    refine hK8 _ _ ?_
    refine wp_ret ?_
    exact ret1 Try.results117 rfl (.inl ⟨rfl, rfl⟩)
def growF (vs : List IV) (Z : IS) : Option Res := match vs with
  | [.nilsl, .int .i64 n] => cond (S.growOK n) (some ⟨.arr Z.next, Z.new (.arr cVal []), 0, 2 ^ Z.next⟩) none
  | _ => none
def growK (R : Type) (vs : List IV) (Z : IS) (kk : Res → Option R) : Option R := match vs with
  | [.nilsl, .int .i64 n] => cond (S.growOK n) (kk ⟨.arr Z.next, Z.new (.arr cVal []), 0, 2 ^ Z.next⟩) none
  | _ => none
theorem growK_eq (R : Type) (vs : List IV) (Z : IS) (kk : Res → Option R) : growK R vs Z kk = ob (growF vs Z) kk := by
  unfold growK growF
  split
  · rename_i n
    cases S.growOK n <;> rfl
  · rfl
def growHx : Hx := ⟨fun _ vs Z => growF vs Z, fun _ R vs Z kk => growK R vs Z kk, fun _ _ _ R vs Z kk => growK_eq R vs Z kk⟩
theorem growF_inv {vs : List IV} {Z : IS} {r : Res} (h : growF vs Z = some r) : ∃ n, vs = [.nilsl, .int .i64 n] ∧ S.growOK n = true ∧ r = ⟨.arr Z.next, Z.new (.arr cVal []), 0, 2 ^ Z.next⟩ := by
  unfold growF at h
  split at h
  · rename_i n
    cases hb : S.growOK n with
    | false => rw [hb] at h; cases h
    | true => rw [hb, cond_true] at h; cases h; exact ⟨n, rfl, hb, rfl⟩
  · cases h
theorem growHx_ok : HxOK Try.prog 117 growHx.f := ⟨fun cl _ _ _ vs Z r h T E us p hrd hwr hv => by
    obtain ⟨n, rfl, hk, rfl⟩ := growF_inv h
    obtain ⟨u1, us, rfl, a1, a2⟩ := hv.inv
    obtain ⟨u2, us, rfl, a3, a4⟩ := a2.inv
    have e : us = [] := by have := a4.1; simpa using this.symm
    subst e
    cases a1
    cases a3
    unfold S.growOK at hk
    simp only [Bool.and_eq_true, decide_eq_true_eq] at hk
    refine ⟨cal117, (callsIn_wide.2 (grow_walk (w := E.w) hk.1 hk.2)).mono fun e w' hR => ?_⟩
    cases e with
    | returned v =>
      rcases hR with ⟨rfl, rfl⟩ | ⟨nc, cells, rfl, rfl, g1, g2⟩
      · obtain ⟨b1, b2⟩ := Post.ghost (S := Z) (hd := .slice none 0 0) (o := .arr cVal []) p rfl ⟨none, 0, up_self _ _ _, Nat.le_refl _, by omega, by simp, .inl ⟨up_self _ _ _, rfl⟩⟩
        exact ⟨_, E.gho Z.next (.slice none 0 0), rfl, rfl, .arr (Or.inr rfl : E.A Z.next ∨ Z.next = Z.next) (up_self _ _ _), b1, b2⟩
      · have hh : (E.w.drew.alloc (.cells cells 51)).heap = E.w.heap.push (.cells cells.toList.toArray 51) := by rw [Array.toArray_toList]; rfl
        have hz : nc * csz cVal ≤ cells.toList.length := by rw [Array.length_toList]; exact g1
        obtain ⟨E1, e1, e2, e3, e4⟩ := new_arr (S := Z) (c := cVal) (l := []) (cells := cells.toList) (t := 51) (nc := nc) (w' := E.w.drew.alloc (.cells cells 51)) p hh rfl rfl rfl (Nat.zero_le _) g2 (Nat.le_trans (Nat.le_of_eq (Nat.zero_mul _)) (Nat.zero_le _)) hz (arel_nil _ _ _)
        exact ⟨_, E1, rfl, e1, e2, e3, e4⟩
    | panicked c => exact hR.elim
    | outgrown => exact hR.elim,
  fun cl _ vs Z r h => by
    obtain ⟨n, rfl, hk, rfl⟩ := growF_inv h
    exact FrO.new _ rfl,
  fun cl _ vs Z r h hw _ => by
    obtain ⟨n, rfl, hk, rfl⟩ := growF_inv h
    have := Nat.one_le_two_pow (n := Z.next)
    have hw : 2 ^ Z.next = 0 := hw
    omega⟩
theorem ixO117 : HxOK Try.prog 117 growHx.f := growHx_ok
end Go.Proofs.Ytcnhjofpmpipfaa
end

/- Made by program: plain forms of functions. -/
section
set_option linter.unusedVariables false
set_option maxRecDepth 100000
noncomputable section
namespace Go.Proofs.Ytcnhjofpmpipfaa
open Go Go.Sx Go.RowKit Go.Jx
def nm_p_Join_1 : Nat → Option Nm := fun k => cond (Nat.beq k 3) (some ⟨[1, 5, 10, 11], [(5, cVal)], [], [], [], 0, 0, false⟩) (none)
def st_p_Join_1 : Nat → Bool := fun k => cond (Nat.beq k 3) true (false)
def hd_p_Join_1 : Nat → Bool := fun k => cond (Nat.beq k 3) true (false)
abbrev Rt_p_Join_1 : Type := (List DVal) × Unit
def sml_p_Join_1 : List (Nat × Sm) := [(74, sp_slices_CloneO_Val)]
def hxl_p_Join_1 : List (Nat × Hx) := []
def cl_p_Join_1 (R : Type) (lf : Nat) : ClK R := icallK Try.prog ttT.get ftT.get (nm1 81 nm_p_Join_1) (smL sml_p_Join_1) (hxL hxl_p_Join_1) lf 20 R
abbrev id_p_Join_1 : Nat := 81
def enc_p_Join_1_3 (x1 : (List DVal)) (x2 : Int) (p : Int × (List DVal)) : NRes := (NRes.mk (PT.node none (PT.node (some (IV.int Go.IntKind.i64 x2)) (PT.node none PT.leaf (PT.node (some (IV.int Go.IntKind.i64 p.1)) PT.leaf PT.leaf)) (PT.node (some (IV.arr 0)) PT.leaf PT.leaf)) (PT.node none PT.leaf (PT.node none (PT.node (some (IV.int Go.IntKind.i64 (Int.ofNat (List.length x1)))) PT.leaf PT.leaf) PT.leaf))) (IS.mk (PT.node (some (IObj.arr cVal p.2)) PT.leaf PT.leaf) 1) [] 0)
def R_p_Join_1_in (lf : Nat) (x1 : (List DVal)) (x2 : Int) (L3 : (Int × (List DVal)) → Option Rt_p_Join_1) : Option Rt_p_Join_1 := (L3 ((Int.ofNat 0), x1))
def R_p_Join_1_3 (lf : Nat) (x1 : (List DVal)) (x2 : Int) (L3 : (Int × (List DVal)) → Option Rt_p_Join_1) (p : Int × (List DVal)) : Option Rt_p_Join_1 := (cond (iltI p.1 (Int.ofNat (List.length x1))) (match (jget p.2 p.1) with | .none  => none | .some v0 => (match (GetElem?.getElem? p.2 (Int.toNat p.1)) with | .none  => none | .some v1 => (cond (ieqI v1.1 (Int.ofNat 4)) (match (jget p.2 p.1) with | .none  => none | .some v2 => (match (GetElem?.getElem? p.2 (Int.toNat p.1)) with | .none  => none | .some v3 => (match (jget p.2 p.1) with | .none  => none | .some v4 => (match (GetElem?.getElem? p.2 (Int.toNat p.1)) with | .none  => none | .some v5 => (L3 ((Go.IntKind.wrap Go.IntKind.i64 (Int.add p.1 (Int.ofNat 1))), (List.set p.2 (Int.toNat p.1) (v5.1, (Go.IntKind.wrap Go.IntKind.i64 (Int.add v3.2 x2)))))))))) (L3 ((Go.IntKind.wrap Go.IntKind.i64 (Int.add p.1 (Int.ofNat 1))), p.2))))) (some (p.2, ())))
theorem in_p_Join_1 (g : ElA [(.list cVal), (.int .i64)] → Option Rt_p_Join_1) (J : Nat → List Nat → NRes → Option Rt_p_Join_1) (lf : Nat) (x1 : (List DVal)) (x2 : Int) : icodeT Try.prog ttT.get nm_p_Join_1 fi81.nt (cl_p_Join_1 _ lf) lf st_p_Join_1 J fi81.body [] (argGo (argV [(.list cVal), (.int .i64)] (x1, x2, ())) 0 .leaf) S0 [] (lastK ttT.get fi81 ⟨[(.list cVal), (.int .i64)], [(false, (.list cVal))], g⟩) = R_p_Join_1_in lf x1 x2 (fun q => J 3 [lf] (enc_p_Join_1_3 x1 x2 q)) := by kernel_rfl
theorem st_p_Join_1_3 (g : ElA [(.list cVal), (.int .i64)] → Option Rt_p_Join_1) (J : Nat → List Nat → NRes → Option Rt_p_Join_1) (lf : Nat) (x1 : (List DVal)) (x2 : Int) (m1 : Nat) (p : Int × (List DVal)) : icodeFT Try.prog ttT.get nm_p_Join_1 fi81.nt (cl_p_Join_1 _ lf) lf st_p_Join_1 J 3 fi81.body [] [m1] (enc_p_Join_1_3 x1 x2 p) (lastK ttT.get fi81 ⟨[(.list cVal), (.int .i64)], [(false, (.list cVal))], g⟩) = R_p_Join_1_3 lf x1 x2 (fun q => J 3 [m1] (enc_p_Join_1_3 x1 x2 q)) p := by kernel_rfl
theorem nd_p_Join_1 : (regs fi81.body).Nodup := by decide +kernel
theorem ok_p_Join_1 : okC nm_p_Join_1 st_p_Join_1 hd_p_Join_1 fi81.body none = true := by kernel_rfl
def A_p_Join_1 (g : ElA [(.list cVal), (.int .i64)] → Option Rt_p_Join_1) (lf : Nat) : Nat → List Nat → NRes → Option Rt_p_Join_1 := atN Try.prog ttT.get nm_p_Join_1 fi81 ⟨[(.list cVal), (.int .i64)], [(false, (.list cVal))], g⟩ (cl_p_Join_1 _ lf) lf hd_p_Join_1
def G_p_Join_1_3 (lf : Nat) (x1 : (List DVal)) (x2 : Int) : Nat → (Int × (List DVal)) → Option Rt_p_Join_1 := rounds fun K p => R_p_Join_1_3 lf x1 x2 K p
theorem at_p_Join_1_3 (g : ElA [(.list cVal), (.int .i64)] → Option Rt_p_Join_1) (lf : Nat) (x1 : (List DVal)) (x2 : Int) : ∀ (n : Nat) (p : Int × (List DVal)), A_p_Join_1 g lf 3 [n] (enc_p_Join_1_3 x1 x2 p) = G_p_Join_1_3 lf x1 x2 n p
  | 0, p => atN_zero 3 [0] rfl _
  | n + 1, p => by
    have ih := at_p_Join_1_3 g lf x1 x2 n
    refine (atN_eq (icallK_eq 20 _) nd_p_Join_1 ok_p_Join_1 3 [n + 1] [n] rfl _).trans ((st_p_Join_1_3 g (A_p_Join_1 g lf) lf x1 x2 n p).trans ?_)
    rw [(show (fun q => A_p_Join_1 g lf 3 [n] (enc_p_Join_1_3 x1 x2 q)) = (fun q => G_p_Join_1_3 lf x1 x2 n q) from funext ih)]
    rfl
def F_p_Join_1 (lf : Nat) (x1 : (List DVal)) (x2 : Int) : Option Rt_p_Join_1 := R_p_Join_1_in lf x1 x2 (fun q => G_p_Join_1_3 lf x1 x2 lf q)
theorem run_p_Join_1 (g : ElA [(.list cVal), (.int .i64)] → Option Rt_p_Join_1) (lf : Nat) (x1 : (List DVal)) (x2 : Int) : icodeT Try.prog ttT.get nm_p_Join_1 fi81.nt (cl_p_Join_1 _ lf) lf st_p_Join_1 (A_p_Join_1 g lf) fi81.body [] (argGo (argV [(.list cVal), (.int .i64)] (x1, x2, ())) 0 .leaf) S0 [] (lastK ttT.get fi81 ⟨[(.list cVal), (.int .i64)], [(false, (.list cVal))], g⟩) = F_p_Join_1 lf x1 x2 := by
    refine (in_p_Join_1 g (A_p_Join_1 g lf) lf x1 x2).trans ?_
    rw [(show (fun q => A_p_Join_1 g lf 3 [lf] (enc_p_Join_1_3 x1 x2 q)) = (fun q => G_p_Join_1_3 lf x1 x2 lf q) from funext fun q => at_p_Join_1_3 g lf x1 x2 lf q)]
    rfl
theorem hxs_p_Join_1 : HxsOK Try.prog hxl_p_Join_1 := trivial
theorem mk_p_Join_1 {g : ElA [(.list cVal), (.int .i64)] → Option Rt_p_Join_1} (hsm : SmOK Try.prog sml_p_Join_1) (hg : ∀ (x : ElA [(.list cVal), (.int .i64)]) (y : Rt_p_Join_1), WfA [(.list cVal), (.int .i64)] x → g x = some y → ∃ lf, F_p_Join_1 lf x.1 x.2.1 = some y) : Con Try.prog 81 ⟨[(.list cVal), (.int .i64)], [(false, (.list cVal))], g⟩ :=
  conT (nmf := nm_p_Join_1) (sml := sml_p_Join_1) (hxl := hxl_p_Join_1) (st := st_p_Join_1) (hd := hd_p_Join_1) 20 mixed ttOK ftOK hsm hxs_p_Join_1 cal81 rfl rfl (by kernel_rfl) (fun x => by kernel_rfl) nd_p_Join_1 ok_p_Join_1 fun x y hx hy => by
    obtain ⟨lf, h⟩ := hg x y hx hy
    exact ⟨lf, (run_p_Join_1 g lf x.1 x.2.1).trans h⟩
def nm_slices_Concat_Val : Nat → Option Nm := fun k => cond (Nat.beq k 3) (some ⟨[0, 3, 9, 10, 11], [], [], [], [], 0, 0, false⟩) (cond (Nat.beq k 11) (some ⟨[6, 25, 26, 27], [(6, cVal)], [], [], [], 0, 0, false⟩) (none))
def st_slices_Concat_Val : Nat → Bool := fun k => cond (Nat.beq k 3) true (cond (Nat.beq k 11) true (false))
def hd_slices_Concat_Val : Nat → Bool := fun k => cond (Nat.beq k 3) true (cond (Nat.beq k 11) true (false))
abbrev Rt_slices_Concat_Val : Type := (List DVal) × Unit
def sml_slices_Concat_Val : List (Nat × Sm) := []
def hxl_slices_Concat_Val : List (Nat × Hx) := [(117, growHx)]
def cl_slices_Concat_Val (R : Type) (lf : Nat) : ClK R := icallK Try.prog ttT.get ftT.get (nm1 82 nm_slices_Concat_Val) (smL sml_slices_Concat_Val) (hxL hxl_slices_Concat_Val) lf 20 R
abbrev id_slices_Concat_Val : Nat := 82
def enc_slices_Concat_Val_3 (x1 : (List (List DVal))) (p : Int × Int) : NRes := (NRes.mk (PT.node (some (IV.lst (TC.list cVal) x1)) (PT.node none (PT.node (some (IV.int Go.IntKind.i64 p.1)) PT.leaf (PT.node (some (IV.int Go.IntKind.i64 p.2)) PT.leaf PT.leaf)) (PT.node none (PT.node (some (IV.lst (TC.list cVal) x1)) PT.leaf PT.leaf) PT.leaf)) (PT.node none PT.leaf (PT.node none (PT.node (some (IV.int Go.IntKind.i64 (Int.ofNat (List.length x1)))) PT.leaf PT.leaf) PT.leaf))) (IS.mk PT.leaf 0) [] 0)
def enc_slices_Concat_Val_11 (x1 : (List (List DVal))) (p : Int × (List DVal)) : NRes := (NRes.mk (PT.node none (PT.node none (PT.node none PT.leaf (PT.node none PT.leaf (PT.node (some (IV.int Go.IntKind.i64 p.1)) PT.leaf PT.leaf))) (PT.node none (PT.node none PT.leaf (PT.node (some (IV.lst (TC.list cVal) x1)) PT.leaf PT.leaf)) PT.leaf)) (PT.node none PT.leaf (PT.node (some (IV.arr 0)) (PT.node none PT.leaf (PT.node (some (IV.int Go.IntKind.i64 (Int.ofNat (List.length x1)))) PT.leaf PT.leaf)) PT.leaf))) (IS.mk (PT.node (some (IObj.arr cVal p.2)) PT.leaf PT.leaf) 1) [] 0)
def R_slices_Concat_Val_in (lf : Nat) (x1 : (List (List DVal))) (L3 : (Int × Int) → Option Rt_slices_Concat_Val) : Option Rt_slices_Concat_Val := (L3 ((Int.ofNat 0), (Int.ofNat 0)))
def R_slices_Concat_Val_3 (lf : Nat) (x1 : (List (List DVal))) (L3 : (Int × Int) → Option Rt_slices_Concat_Val) (L11 : (Int × (List DVal)) → Option Rt_slices_Concat_Val) (p : Int × Int) : Option Rt_slices_Concat_Val := (cond (iltI p.2 (Int.ofNat (List.length x1))) (match (jget x1 p.2) with | .none  => none | .some v0 => (cond (iltI (Go.IntKind.wrap Go.IntKind.i64 (Int.add p.1 (Int.ofNat (List.length v0)))) (Int.ofNat 0)) none (L3 ((Go.IntKind.wrap Go.IntKind.i64 (Int.add p.1 (Int.ofNat (List.length v0)))), (Go.IntKind.wrap Go.IntKind.i64 (Int.add p.2 (Int.ofNat 1))))))) (cond (Go.Proofs.Ytcnhjofpmpipfaa.S.growOK p.1) (L11 ((Int.ofNat 0), [])) none))
def R_slices_Concat_Val_11 (lf : Nat) (x1 : (List (List DVal))) (L11 : (Int × (List DVal)) → Option Rt_slices_Concat_Val) (p : Int × (List DVal)) : Option Rt_slices_Concat_Val := (cond (iltI p.1 (Int.ofNat (List.length x1))) (match (jget x1 p.1) with | .none  => none | .some v0 => (cond (Nat.ble (Nat.mul (Nat.add (List.length p.2) (List.length v0)) 16) 140737488355328) (L11 ((Go.IntKind.wrap Go.IntKind.i64 (Int.add p.1 (Int.ofNat 1))), (List.append p.2 v0))) none)) (some (p.2, ())))
theorem in_slices_Concat_Val (g : ElA [(.list (.list cVal))] → Option Rt_slices_Concat_Val) (J : Nat → List Nat → NRes → Option Rt_slices_Concat_Val) (lf : Nat) (x1 : (List (List DVal))) : icodeT Try.prog ttT.get nm_slices_Concat_Val fi82.nt (cl_slices_Concat_Val _ lf) lf st_slices_Concat_Val J fi82.body [] (argGo (argV [(.list (.list cVal))] (x1, ())) 0 .leaf) S0 [] (lastK ttT.get fi82 ⟨[(.list (.list cVal))], [(false, (.list cVal))], g⟩) = R_slices_Concat_Val_in lf x1 (fun q => J 3 [lf] (enc_slices_Concat_Val_3 x1 q)) := by kernel_rfl
theorem st_slices_Concat_Val_3 (g : ElA [(.list (.list cVal))] → Option Rt_slices_Concat_Val) (J : Nat → List Nat → NRes → Option Rt_slices_Concat_Val) (lf : Nat) (x1 : (List (List DVal))) (m1 : Nat) (p : Int × Int) : icodeFT Try.prog ttT.get nm_slices_Concat_Val fi82.nt (cl_slices_Concat_Val _ lf) lf st_slices_Concat_Val J 3 fi82.body [] [m1] (enc_slices_Concat_Val_3 x1 p) (lastK ttT.get fi82 ⟨[(.list (.list cVal))], [(false, (.list cVal))], g⟩) = R_slices_Concat_Val_3 lf x1 (fun q => J 3 [m1] (enc_slices_Concat_Val_3 x1 q)) (fun q => J 11 [lf] (enc_slices_Concat_Val_11 x1 q)) p := by kernel_rfl
theorem st_slices_Concat_Val_11 (g : ElA [(.list (.list cVal))] → Option Rt_slices_Concat_Val) (J : Nat → List Nat → NRes → Option Rt_slices_Concat_Val) (lf : Nat) (x1 : (List (List DVal))) (m1 : Nat) (p : Int × (List DVal)) : icodeFT Try.prog ttT.get nm_slices_Concat_Val fi82.nt (cl_slices_Concat_Val _ lf) lf st_slices_Concat_Val J 11 fi82.body [] [m1] (enc_slices_Concat_Val_11 x1 p) (lastK ttT.get fi82 ⟨[(.list (.list cVal))], [(false, (.list cVal))], g⟩) = R_slices_Concat_Val_11 lf x1 (fun q => J 11 [m1] (enc_slices_Concat_Val_11 x1 q)) p := by kernel_rfl
theorem nd_slices_Concat_Val : (regs fi82.body).Nodup := by decide +kernel
theorem ok_slices_Concat_Val : okC nm_slices_Concat_Val st_slices_Concat_Val hd_slices_Concat_Val fi82.body none = true := by kernel_rfl
def A_slices_Concat_Val (g : ElA [(.list (.list cVal))] → Option Rt_slices_Concat_Val) (lf : Nat) : Nat → List Nat → NRes → Option Rt_slices_Concat_Val := atN Try.prog ttT.get nm_slices_Concat_Val fi82 ⟨[(.list (.list cVal))], [(false, (.list cVal))], g⟩ (cl_slices_Concat_Val _ lf) lf hd_slices_Concat_Val
def G_slices_Concat_Val_11 (lf : Nat) (x1 : (List (List DVal))) : Nat → (Int × (List DVal)) → Option Rt_slices_Concat_Val := rounds fun K p => R_slices_Concat_Val_11 lf x1 K p
theorem at_slices_Concat_Val_11 (g : ElA [(.list (.list cVal))] → Option Rt_slices_Concat_Val) (lf : Nat) (x1 : (List (List DVal))) : ∀ (n : Nat) (p : Int × (List DVal)), A_slices_Concat_Val g lf 11 [n] (enc_slices_Concat_Val_11 x1 p) = G_slices_Concat_Val_11 lf x1 n p
  | 0, p => atN_zero 11 [0] rfl _
  | n + 1, p => by
    have ih := at_slices_Concat_Val_11 g lf x1 n
    refine (atN_eq (icallK_eq 20 _) nd_slices_Concat_Val ok_slices_Concat_Val 11 [n + 1] [n] rfl _).trans ((st_slices_Concat_Val_11 g (A_slices_Concat_Val g lf) lf x1 n p).trans ?_)
    rw [(show (fun q => A_slices_Concat_Val g lf 11 [n] (enc_slices_Concat_Val_11 x1 q)) = (fun q => G_slices_Concat_Val_11 lf x1 n q) from funext ih)]
    rfl
def G_slices_Concat_Val_3 (lf : Nat) (x1 : (List (List DVal))) : Nat → (Int × Int) → Option Rt_slices_Concat_Val := rounds fun K p => R_slices_Concat_Val_3 lf x1 K (fun q => G_slices_Concat_Val_11 lf x1 lf q) p
theorem at_slices_Concat_Val_3 (g : ElA [(.list (.list cVal))] → Option Rt_slices_Concat_Val) (lf : Nat) (x1 : (List (List DVal))) : ∀ (n : Nat) (p : Int × Int), A_slices_Concat_Val g lf 3 [n] (enc_slices_Concat_Val_3 x1 p) = G_slices_Concat_Val_3 lf x1 n p
  | 0, p => atN_zero 3 [0] rfl _
  | n + 1, p => by
    have ih := at_slices_Concat_Val_3 g lf x1 n
    refine (atN_eq (icallK_eq 20 _) nd_slices_Concat_Val ok_slices_Concat_Val 3 [n + 1] [n] rfl _).trans ((st_slices_Concat_Val_3 g (A_slices_Concat_Val g lf) lf x1 n p).trans ?_)
    rw [(show (fun q => A_slices_Concat_Val g lf 11 [lf] (enc_slices_Concat_Val_11 x1 q)) = (fun q => G_slices_Concat_Val_11 lf x1 lf q) from funext fun q => at_slices_Concat_Val_11 g lf x1 lf q), (show (fun q => A_slices_Concat_Val g lf 3 [n] (enc_slices_Concat_Val_3 x1 q)) = (fun q => G_slices_Concat_Val_3 lf x1 n q) from funext ih)]
    rfl
def F_slices_Concat_Val (lf : Nat) (x1 : (List (List DVal))) : Option Rt_slices_Concat_Val := R_slices_Concat_Val_in lf x1 (fun q => G_slices_Concat_Val_3 lf x1 lf q)
theorem run_slices_Concat_Val (g : ElA [(.list (.list cVal))] → Option Rt_slices_Concat_Val) (lf : Nat) (x1 : (List (List DVal))) : icodeT Try.prog ttT.get nm_slices_Concat_Val fi82.nt (cl_slices_Concat_Val _ lf) lf st_slices_Concat_Val (A_slices_Concat_Val g lf) fi82.body [] (argGo (argV [(.list (.list cVal))] (x1, ())) 0 .leaf) S0 [] (lastK ttT.get fi82 ⟨[(.list (.list cVal))], [(false, (.list cVal))], g⟩) = F_slices_Concat_Val lf x1 := by
    refine (in_slices_Concat_Val g (A_slices_Concat_Val g lf) lf x1).trans ?_
    rw [(show (fun q => A_slices_Concat_Val g lf 3 [lf] (enc_slices_Concat_Val_3 x1 q)) = (fun q => G_slices_Concat_Val_3 lf x1 lf q) from funext fun q => at_slices_Concat_Val_3 g lf x1 lf q)]
    rfl
theorem hxs_slices_Concat_Val : HxsOK Try.prog hxl_slices_Concat_Val := ⟨ixO117, trivial⟩
theorem mk_slices_Concat_Val {g : ElA [(.list (.list cVal))] → Option Rt_slices_Concat_Val} (hsm : SmOK Try.prog sml_slices_Concat_Val) (hg : ∀ (x : ElA [(.list (.list cVal))]) (y : Rt_slices_Concat_Val), WfA [(.list (.list cVal))] x → g x = some y → ∃ lf, F_slices_Concat_Val lf x.1 = some y) : Con Try.prog 82 ⟨[(.list (.list cVal))], [(false, (.list cVal))], g⟩ :=
  conT (nmf := nm_slices_Concat_Val) (sml := sml_slices_Concat_Val) (hxl := hxl_slices_Concat_Val) (st := st_slices_Concat_Val) (hd := hd_slices_Concat_Val) 20 mixed ttOK ftOK hsm hxs_slices_Concat_Val cal82 rfl rfl (by kernel_rfl) (fun x => by kernel_rfl) nd_slices_Concat_Val ok_slices_Concat_Val fun x y hx hy => by
    obtain ⟨lf, h⟩ := hg x y hx hy
    exact ⟨lf, (run_slices_Concat_Val g lf x.1).trans h⟩
def nm_p_Join : Nat → Option Nm := fun k => cond (Nat.beq k 9) (some ⟨[2, 3, 4, 7, 8, 55, 56, 57], [], [(8, 0, cNode)], [], [], 0, 0, false⟩) (cond (Nat.beq k 14) (some ⟨[2, 4, 7, 8, 75, 76, 77], [], [(8, 0, cNode)], [], [], 0, 0, false⟩) (none))
def st_p_Join : Nat → Bool := fun k => cond (Nat.beq k 9) true (cond (Nat.beq k 14) true (false))
def hd_p_Join : Nat → Bool := fun k => cond (Nat.beq k 9) true (cond (Nat.beq k 14) true (false))
abbrev Rt_p_Join : Type := DGraph × Int × Unit
def sml_p_Join : List (Nat × Sm) := [(70, sp_p_formed), (49, sp_p_first), (81, sp_p_Join_1), (82, sp_slices_Concat_Val)]
def hxl_p_Join : List (Nat × Hx) := []
def cl_p_Join (R : Type) (lf : Nat) : ClK R := icallK Try.prog ttT.get ftT.get (nm1 32 nm_p_Join) (smL sml_p_Join) (hxL hxl_p_Join) lf 20 R
abbrev id_p_Join : Nat := 32
def enc_p_Join_9 (x1 : DGraph) (x2 : DGraph) (p : (List DVal) × Int × (List DNode)) : NRes := (NRes.mk (PT.node none (PT.node none (PT.node (some (IV.ptr 1 0)) (PT.node (some (IV.fn 81 [])) PT.leaf (PT.node none PT.leaf (PT.node (some (IV.lst cNode x1.1)) PT.leaf PT.leaf))) PT.leaf) (PT.node none (PT.node none PT.leaf (PT.node none PT.leaf (PT.node (some (IV.int Go.IntKind.i64 p.2.1)) PT.leaf PT.leaf))) PT.leaf)) (PT.node (some (IV.ptr 0 0)) (PT.node (some (IV.ptr 2 0)) (PT.node (some (IV.ptr 3 0)) PT.leaf (PT.node none PT.leaf (PT.node (some (IV.int Go.IntKind.i64 (Int.ofNat (List.length x1.1)))) PT.leaf PT.leaf))) PT.leaf) PT.leaf)) (IS.mk (PT.node (some (IObj.row (List.cons (IV.lst cNode x1.1) (List.cons (IV.lst cVal x1.2) [])))) (PT.node (some (IObj.row (List.cons (IV.lst cNode x2.1) (List.cons (IV.lst cVal x2.2) [])))) (PT.node (some (IObj.row (List.cons (IV.arr 4) (List.cons (IV.lst cVal p.1) [])))) PT.leaf PT.leaf) PT.leaf) (PT.node (some (IObj.row (List.cons IV.nilsl (List.cons IV.nilsl [])))) (PT.node (some (IObj.arr cNode p.2.2)) PT.leaf PT.leaf) PT.leaf)) 5) [] 0)
def enc_p_Join_14 (x1 : DGraph) (x2 : DGraph) (p : (List DVal) × (List DNode) × Int) : NRes := (NRes.mk (PT.node none (PT.node none (PT.node none (PT.node (some (IV.fn 81 [])) PT.leaf PT.leaf) (PT.node none PT.leaf (PT.node none (PT.node none (PT.node (some (IV.lst cNode x2.1)) PT.leaf PT.leaf) PT.leaf) PT.leaf))) (PT.node none PT.leaf (PT.node none PT.leaf (PT.node none (PT.node none (PT.node (some (IV.int Go.IntKind.i64 p.2.2)) PT.leaf PT.leaf) PT.leaf) PT.leaf)))) (PT.node (some (IV.ptr 0 0)) (PT.node (some (IV.ptr 1 0)) (PT.node (some (IV.ptr 2 0)) PT.leaf PT.leaf) (PT.node none PT.leaf (PT.node none (PT.node none (PT.node (some (IV.int Go.IntKind.i64 (Int.ofNat (List.length x2.1)))) PT.leaf PT.leaf) PT.leaf) PT.leaf))) PT.leaf)) (IS.mk (PT.node (some (IObj.row (List.cons (IV.lst cNode x1.1) (List.cons (IV.lst cVal x1.2) [])))) (PT.node (some (IObj.row (List.cons IV.nilsl (List.cons IV.nilsl [])))) (PT.node (some (IObj.arr cNode p.2.1)) PT.leaf PT.leaf) PT.leaf) (PT.node (some (IObj.row (List.cons (IV.arr 3) (List.cons (IV.lst cVal p.1) [])))) PT.leaf PT.leaf)) 4) [] 0)
def R_p_Join_in (lf : Nat) (x1 : DGraph) (x2 : DGraph) (L9 : ((List DVal) × Int × (List DNode)) → Option Rt_p_Join) : Option Rt_p_Join := (cond (Bool.not (ieqI (Go.Proofs.Ytcnhjofpmpipfaa.S.first (List.cons (Go.Proofs.Ytcnhjofpmpipfaa.S.formed (x1.1, x1.2)) (List.cons (Go.Proofs.Ytcnhjofpmpipfaa.S.formed (x2.1, x2.2)) []))) (Int.ofNat 0))) (some (([], []), ((Go.Proofs.Ytcnhjofpmpipfaa.S.first (List.cons (Go.Proofs.Ytcnhjofpmpipfaa.S.formed (x1.1, x1.2)) (List.cons (Go.Proofs.Ytcnhjofpmpipfaa.S.formed (x2.1, x2.2)) []))), ()))) (cond (iltI (Int.ofNat 400) (Go.IntKind.wrap Go.IntKind.i64 (Int.ofNat (Nat.add (List.length x1.1) (List.length x2.1))))) (some (([], []), ((Int.ofNat 3), ()))) (cond (iltI (Int.ofNat 60) (Go.IntKind.wrap Go.IntKind.i64 (Int.ofNat (Nat.add (List.length x1.2) (List.length x2.2))))) (some (([], []), ((Int.ofNat 3), ()))) (match (cond (Nat.ble (List.length (List.append x1.2 (List.append (Go.Proofs.Ytcnhjofpmpipfaa.S.byL x2.2 (Int.ofNat (List.length x1.1))) []))) 1000000) (some ((List.append x1.2 (List.append (Go.Proofs.Ytcnhjofpmpipfaa.S.byL x2.2 (Int.ofNat (List.length x1.1))) [])), ())) none) with | .none  => none | .some v0 => (L9 (v0.1, (Int.ofNat 0), []))))))
def R_p_Join_9 (lf : Nat) (x1 : DGraph) (x2 : DGraph) (L9 : ((List DVal) × Int × (List DNode)) → Option Rt_p_Join) (L14 : ((List DVal) × (List DNode) × Int) → Option Rt_p_Join) (p : (List DVal) × Int × (List DNode)) : Option Rt_p_Join := (cond (iltI p.2.1 (Int.ofNat (List.length x1.1))) (match (jget x1.1 p.2.1) with | .none  => none | .some v0 => (cond (Nat.ble (Nat.mul (Nat.add (List.length p.2.2) 1) 40) 140737488355328) (L9 (p.1, (Go.IntKind.wrap Go.IntKind.i64 (Int.add p.2.1 (Int.ofNat 1))), (List.append p.2.2 (List.cons (v0.1, (Go.Proofs.Ytcnhjofpmpipfaa.S.byL v0.2 (Int.ofNat 0))) [])))) none)) (L14 (p.1, p.2.2, (Int.ofNat 0))))
def R_p_Join_14 (lf : Nat) (x1 : DGraph) (x2 : DGraph) (L14 : ((List DVal) × (List DNode) × Int) → Option Rt_p_Join) (p : (List DVal) × (List DNode) × Int) : Option Rt_p_Join := (cond (iltI p.2.2 (Int.ofNat (List.length x2.1))) (match (jget x2.1 p.2.2) with | .none  => none | .some v0 => (cond (Nat.ble (Nat.mul (Nat.add (List.length p.2.1) 1) 40) 140737488355328) (L14 (p.1, (List.append p.2.1 (List.cons (v0.1, (Go.Proofs.Ytcnhjofpmpipfaa.S.byL v0.2 (Int.ofNat (List.length x1.1)))) [])), (Go.IntKind.wrap Go.IntKind.i64 (Int.add p.2.2 (Int.ofNat 1))))) none)) (some ((p.2.1, p.1), ((Int.ofNat 0), ()))))
theorem in_p_Join (g : ElA [cGraph, cGraph] → Option Rt_p_Join) (J : Nat → List Nat → NRes → Option Rt_p_Join) (lf : Nat) (x1 : DGraph) (x2 : DGraph) : icodeT Try.prog ttT.get nm_p_Join fi32.nt (cl_p_Join _ lf) lf st_p_Join J fi32.body [] (argGo (argV [cGraph, cGraph] (x1, x2, ())) 0 .leaf) S0 [] (lastK ttT.get fi32 ⟨[cGraph, cGraph], [(false, cGraph), (false, (.int .i64))], g⟩) = R_p_Join_in lf x1 x2 (fun q => J 9 [lf] (enc_p_Join_9 x1 x2 q)) := by kernel_rfl
theorem st_p_Join_9 (g : ElA [cGraph, cGraph] → Option Rt_p_Join) (J : Nat → List Nat → NRes → Option Rt_p_Join) (lf : Nat) (x1 : DGraph) (x2 : DGraph) (m1 : Nat) (p : (List DVal) × Int × (List DNode)) : icodeFT Try.prog ttT.get nm_p_Join fi32.nt (cl_p_Join _ lf) lf st_p_Join J 9 fi32.body [] [m1] (enc_p_Join_9 x1 x2 p) (lastK ttT.get fi32 ⟨[cGraph, cGraph], [(false, cGraph), (false, (.int .i64))], g⟩) = R_p_Join_9 lf x1 x2 (fun q => J 9 [m1] (enc_p_Join_9 x1 x2 q)) (fun q => J 14 [lf] (enc_p_Join_14 x1 x2 q)) p := by kernel_rfl
theorem st_p_Join_14 (g : ElA [cGraph, cGraph] → Option Rt_p_Join) (J : Nat → List Nat → NRes → Option Rt_p_Join) (lf : Nat) (x1 : DGraph) (x2 : DGraph) (m1 : Nat) (p : (List DVal) × (List DNode) × Int) : icodeFT Try.prog ttT.get nm_p_Join fi32.nt (cl_p_Join _ lf) lf st_p_Join J 14 fi32.body [] [m1] (enc_p_Join_14 x1 x2 p) (lastK ttT.get fi32 ⟨[cGraph, cGraph], [(false, cGraph), (false, (.int .i64))], g⟩) = R_p_Join_14 lf x1 x2 (fun q => J 14 [m1] (enc_p_Join_14 x1 x2 q)) p := by kernel_rfl
theorem nd_p_Join : (regs fi32.body).Nodup := by decide +kernel
theorem ok_p_Join : okC nm_p_Join st_p_Join hd_p_Join fi32.body none = true := by kernel_rfl
def A_p_Join (g : ElA [cGraph, cGraph] → Option Rt_p_Join) (lf : Nat) : Nat → List Nat → NRes → Option Rt_p_Join := atN Try.prog ttT.get nm_p_Join fi32 ⟨[cGraph, cGraph], [(false, cGraph), (false, (.int .i64))], g⟩ (cl_p_Join _ lf) lf hd_p_Join
def G_p_Join_14 (lf : Nat) (x1 : DGraph) (x2 : DGraph) : Nat → ((List DVal) × (List DNode) × Int) → Option Rt_p_Join := rounds fun K p => R_p_Join_14 lf x1 x2 K p
theorem at_p_Join_14 (g : ElA [cGraph, cGraph] → Option Rt_p_Join) (lf : Nat) (x1 : DGraph) (x2 : DGraph) : ∀ (n : Nat) (p : (List DVal) × (List DNode) × Int), A_p_Join g lf 14 [n] (enc_p_Join_14 x1 x2 p) = G_p_Join_14 lf x1 x2 n p
  | 0, p => atN_zero 14 [0] rfl _
  | n + 1, p => by
    have ih := at_p_Join_14 g lf x1 x2 n
    refine (atN_eq (icallK_eq 20 _) nd_p_Join ok_p_Join 14 [n + 1] [n] rfl _).trans ((st_p_Join_14 g (A_p_Join g lf) lf x1 x2 n p).trans ?_)
    rw [(show (fun q => A_p_Join g lf 14 [n] (enc_p_Join_14 x1 x2 q)) = (fun q => G_p_Join_14 lf x1 x2 n q) from funext ih)]
    rfl
def G_p_Join_9 (lf : Nat) (x1 : DGraph) (x2 : DGraph) : Nat → ((List DVal) × Int × (List DNode)) → Option Rt_p_Join := rounds fun K p => R_p_Join_9 lf x1 x2 K (fun q => G_p_Join_14 lf x1 x2 lf q) p
theorem at_p_Join_9 (g : ElA [cGraph, cGraph] → Option Rt_p_Join) (lf : Nat) (x1 : DGraph) (x2 : DGraph) : ∀ (n : Nat) (p : (List DVal) × Int × (List DNode)), A_p_Join g lf 9 [n] (enc_p_Join_9 x1 x2 p) = G_p_Join_9 lf x1 x2 n p
  | 0, p => atN_zero 9 [0] rfl _
  | n + 1, p => by
    have ih := at_p_Join_9 g lf x1 x2 n
    refine (atN_eq (icallK_eq 20 _) nd_p_Join ok_p_Join 9 [n + 1] [n] rfl _).trans ((st_p_Join_9 g (A_p_Join g lf) lf x1 x2 n p).trans ?_)
    rw [(show (fun q => A_p_Join g lf 14 [lf] (enc_p_Join_14 x1 x2 q)) = (fun q => G_p_Join_14 lf x1 x2 lf q) from funext fun q => at_p_Join_14 g lf x1 x2 lf q), (show (fun q => A_p_Join g lf 9 [n] (enc_p_Join_9 x1 x2 q)) = (fun q => G_p_Join_9 lf x1 x2 n q) from funext ih)]
    rfl
def F_p_Join (lf : Nat) (x1 : DGraph) (x2 : DGraph) : Option Rt_p_Join := R_p_Join_in lf x1 x2 (fun q => G_p_Join_9 lf x1 x2 lf q)
theorem run_p_Join (g : ElA [cGraph, cGraph] → Option Rt_p_Join) (lf : Nat) (x1 : DGraph) (x2 : DGraph) : icodeT Try.prog ttT.get nm_p_Join fi32.nt (cl_p_Join _ lf) lf st_p_Join (A_p_Join g lf) fi32.body [] (argGo (argV [cGraph, cGraph] (x1, x2, ())) 0 .leaf) S0 [] (lastK ttT.get fi32 ⟨[cGraph, cGraph], [(false, cGraph), (false, (.int .i64))], g⟩) = F_p_Join lf x1 x2 := by
    refine (in_p_Join g (A_p_Join g lf) lf x1 x2).trans ?_
    rw [(show (fun q => A_p_Join g lf 9 [lf] (enc_p_Join_9 x1 x2 q)) = (fun q => G_p_Join_9 lf x1 x2 lf q) from funext fun q => at_p_Join_9 g lf x1 x2 lf q)]
    rfl
theorem hxs_p_Join : HxsOK Try.prog hxl_p_Join := trivial
theorem mk_p_Join {g : ElA [cGraph, cGraph] → Option Rt_p_Join} (hsm : SmOK Try.prog sml_p_Join) (hg : ∀ (x : ElA [cGraph, cGraph]) (y : Rt_p_Join), WfA [cGraph, cGraph] x → g x = some y → ∃ lf, F_p_Join lf x.1 x.2.1 = some y) : Con Try.prog 32 ⟨[cGraph, cGraph], [(false, cGraph), (false, (.int .i64))], g⟩ :=
  conT (nmf := nm_p_Join) (sml := sml_p_Join) (hxl := hxl_p_Join) (st := st_p_Join) (hd := hd_p_Join) 20 mixed ttOK ftOK hsm hxs_p_Join cal32 rfl rfl (by kernel_rfl) (fun x => by kernel_rfl) nd_p_Join ok_p_Join fun x y hx hy => by
    obtain ⟨lf, h⟩ := hg x y hx hy
    exact ⟨lf, (run_p_Join g lf x.1 x.2.1).trans h⟩
def nm_r_Join : Nat → Option Nm := fun k => cond (Nat.beq k 11) (some ⟨[3, 4, 6, 7, 8], [], [(6, 0, cNode), (6, 1, cVal)], [], [], 0, 0, false⟩) (cond (Nat.beq k 15) (some ⟨[3, 4, 6, 7, 8, 9, 10], [], [(6, 0, cNode), (6, 1, cVal), (9, 1, cVal)], [], [], 0, 0, false⟩) (cond (Nat.beq k 20) (some ⟨[3, 4, 6, 7, 11], [], [(6, 0, cNode), (6, 1, cVal)], [], [], 0, 0, false⟩) (none)))
def st_r_Join : Nat → Bool := fun k => cond (Nat.beq k 11) true (cond (Nat.beq k 15) true (cond (Nat.beq k 20) true (false)))
def hd_r_Join : Nat → Bool := fun k => cond (Nat.beq k 11) true (cond (Nat.beq k 15) true (cond (Nat.beq k 20) true (false)))
abbrev Rt_r_Join : Type := DR22Graphed × Unit
def sml_r_Join : List (Nat × Sm) := [(60, sp_r_Formed)]
def hxl_r_Join : List (Nat × Hx) := []
def cl_r_Join (R : Type) (lf : Nat) : ClK R := icallK Try.prog ttT.get ftT.get (nm1 37 nm_r_Join) (smL sml_r_Join) (hxL hxl_r_Join) lf 20 R
abbrev id_r_Join : Nat := 37
def enc_r_Join_11 (x1 : DGraph) (x2 : DGraph) (p : Int × (List DNode)) : NRes := (NRes.mk (PT.node none (PT.node none (PT.node (some (IV.ptr 0 0)) (PT.node (some (IV.int Go.IntKind.i64 (Int.ofNat (List.length x1.1)))) PT.leaf PT.leaf) PT.leaf) PT.leaf) (PT.node none (PT.node (some (IV.ptr 1 0)) (PT.node (some (IV.int Go.IntKind.i64 p.1)) PT.leaf PT.leaf) PT.leaf) (PT.node (some (IV.ptr 2 0)) PT.leaf PT.leaf))) (IS.mk (PT.node (some (IObj.row (List.cons (IV.lst cNode x2.1) (List.cons (IV.lst cVal x2.2) [])))) (PT.node (some (IObj.row (List.cons IV.nilsl (List.cons IV.nilsl (List.cons IV.nilsl (List.cons (IV.int Go.IntKind.i64 (Int.ofNat 0)) [])))))) (PT.node (some (IObj.arr cNode p.2)) PT.leaf PT.leaf) PT.leaf) (PT.node (some (IObj.row (List.cons (IV.arr 3) (List.cons (IV.arr 4) (List.cons IV.nilsl (List.cons (IV.int Go.IntKind.i64 (Int.ofNat 0)) [])))))) (PT.node (some (IObj.arr cVal x1.2)) PT.leaf PT.leaf) PT.leaf)) 5) [] 0)
def enc_r_Join_15 (x1 : DGraph) (x2 : DGraph) (p : ByteArray × Int × (List DVal) × Int × (List DNode)) : NRes := (NRes.mk (PT.node none (PT.node none (PT.node (some (IV.ptr 0 0)) (PT.node (some (IV.int Go.IntKind.i64 (Int.ofNat (List.length x1.1)))) PT.leaf PT.leaf) PT.leaf) (PT.node none (PT.node (some (IV.ptr 3 0)) PT.leaf PT.leaf) PT.leaf)) (PT.node none (PT.node (some (IV.ptr 1 0)) (PT.node (some (IV.int Go.IntKind.i64 p.2.2.2.1)) PT.leaf PT.leaf) PT.leaf) (PT.node (some (IV.ptr 2 0)) (PT.node (some (IV.int Go.IntKind.i64 p.2.1)) PT.leaf PT.leaf) PT.leaf))) (IS.mk (PT.node (some (IObj.row (List.cons (IV.lst cNode x2.1) (List.cons (IV.lst cVal x2.2) [])))) (PT.node (some (IObj.row (List.cons IV.nilsl (List.cons IV.nilsl (List.cons IV.nilsl (List.cons (IV.int Go.IntKind.i64 (Int.ofNat 0)) [])))))) (PT.node (some (IObj.row (List.cons (IV.str p.1) (List.cons (IV.arr 6) [])))) PT.leaf PT.leaf) (PT.node (some (IObj.arr cVal x1.2)) PT.leaf PT.leaf)) (PT.node (some (IObj.row (List.cons (IV.arr 4) (List.cons (IV.arr 5) (List.cons IV.nilsl (List.cons (IV.int Go.IntKind.i64 (Int.ofNat 0)) [])))))) (PT.node (some (IObj.arr cNode p.2.2.2.2)) PT.leaf PT.leaf) (PT.node (some (IObj.arr cVal p.2.2.1)) PT.leaf PT.leaf))) 7) [] 0)
def enc_r_Join_20 (x1 : DGraph) (x2 : DGraph) (p : (List DNode) × Int × (List DVal)) : NRes := (NRes.mk (PT.node none (PT.node none (PT.node (some (IV.ptr 0 0)) (PT.node (some (IV.int Go.IntKind.i64 (Int.ofNat (List.length x1.1)))) PT.leaf PT.leaf) (PT.node (some (IV.int Go.IntKind.i64 p.2.1)) PT.leaf PT.leaf)) PT.leaf) (PT.node none (PT.node (some (IV.ptr 1 0)) PT.leaf PT.leaf) (PT.node (some (IV.ptr 2 0)) PT.leaf PT.leaf))) (IS.mk (PT.node (some (IObj.row (List.cons (IV.lst cNode x2.1) (List.cons (IV.lst cVal x2.2) [])))) (PT.node (some (IObj.row (List.cons IV.nilsl (List.cons IV.nilsl (List.cons IV.nilsl (List.cons (IV.int Go.IntKind.i64 (Int.ofNat 0)) [])))))) (PT.node (some (IObj.arr cNode p.1)) PT.leaf PT.leaf) PT.leaf) (PT.node (some (IObj.row (List.cons (IV.arr 3) (List.cons (IV.arr 4) (List.cons IV.nilsl (List.cons (IV.int Go.IntKind.i64 (Int.ofNat 0)) [])))))) (PT.node (some (IObj.arr cVal p.2.2)) PT.leaf PT.leaf) PT.leaf)) 5) [] 0)
def R_r_Join_in (lf : Nat) (x1 : DGraph) (x2 : DGraph) (L11 : (Int × (List DNode)) → Option Rt_r_Join) : Option Rt_r_Join := (cond (ieqI (Go.Proofs.Ytcnhjofpmpipfaa.S.formed (x1.1, x1.2)) (Int.ofNat 0)) (cond (Bool.not (ieqI (Go.Proofs.Ytcnhjofpmpipfaa.S.formed (x2.1, x2.2)) (Int.ofNat 0))) (some ((([], []), ([], (Go.Proofs.Ytcnhjofpmpipfaa.S.formed (x2.1, x2.2)))), ())) (cond (iltI (Int.ofNat 400) (Go.IntKind.wrap Go.IntKind.i64 (Int.ofNat (Nat.add (List.length x1.1) (List.length x2.1))))) (some ((([], []), ([], (Int.ofNat 3))), ())) (cond (iltI (Int.ofNat 60) (Go.IntKind.wrap Go.IntKind.i64 (Int.ofNat (Nat.add (List.length x1.2) (List.length x2.2))))) (some ((([], []), ([], (Int.ofNat 3))), ())) (cond (Nat.ble (Nat.mul (Nat.add 0 (List.length x1.1)) 40) 140737488355328) (cond (Nat.ble (Nat.mul (Nat.add 0 (List.length x1.2)) 16) 140737488355328) (L11 ((Int.ofNat 0), x1.1)) none) none)))) (cond (Bool.not (ieqI (Go.Proofs.Ytcnhjofpmpipfaa.S.formed (x1.1, x1.2)) (Int.ofNat 0))) (some ((([], []), ([], (Go.Proofs.Ytcnhjofpmpipfaa.S.formed (x1.1, x1.2)))), ())) (cond (iltI (Int.ofNat 400) (Go.IntKind.wrap Go.IntKind.i64 (Int.ofNat (Nat.add (List.length x1.1) (List.length x2.1))))) (some ((([], []), ([], (Int.ofNat 3))), ())) (cond (iltI (Int.ofNat 60) (Go.IntKind.wrap Go.IntKind.i64 (Int.ofNat (Nat.add (List.length x1.2) (List.length x2.2))))) (some ((([], []), ([], (Int.ofNat 3))), ())) (cond (Nat.ble (Nat.mul (Nat.add 0 (List.length x1.1)) 40) 140737488355328) (cond (Nat.ble (Nat.mul (Nat.add 0 (List.length x1.2)) 16) 140737488355328) (L11 ((Int.ofNat 0), x1.1)) none) none)))))
def R_r_Join_11 (lf : Nat) (x1 : DGraph) (x2 : DGraph) (L15 : (ByteArray × Int × (List DVal) × Int × (List DNode)) → Option Rt_r_Join) (L20 : ((List DNode) × Int × (List DVal)) → Option Rt_r_Join) (p : Int × (List DNode)) : Option Rt_r_Join := (cond (iltI p.1 (Int.ofNat (List.length x2.1))) (match (jget x2.1 p.1) with | .none  => none | .some v0 => (L15 (v0.1, (Int.ofNat 0), [], p.1, p.2))) (L20 (p.2, (Int.ofNat 0), x1.2)))
def R_r_Join_15 (lf : Nat) (x1 : DGraph) (x2 : DGraph) (L15 : (ByteArray × Int × (List DVal) × Int × (List DNode)) → Option Rt_r_Join) (L11 : (Int × (List DNode)) → Option Rt_r_Join) (p : ByteArray × Int × (List DVal) × Int × (List DNode)) : Option Rt_r_Join := (match (jget x2.1 p.2.2.2.1) with | .none  => none | .some v0 => (cond (iltI p.2.1 (Int.ofNat (List.length v0.2))) (match (jget x2.1 p.2.2.2.1) with | .none  => none | .some v1 => (match (jget v1.2 p.2.1) with | .none  => none | .some v2 => (cond (ieqI v2.1 (Int.ofNat 4)) (cond (Nat.ble (Nat.mul (Nat.add (List.length p.2.2.1) 1) 16) 140737488355328) (L15 (p.1, (Go.IntKind.wrap Go.IntKind.i64 (Int.add p.2.1 (Int.ofNat 1))), (List.append p.2.2.1 (List.cons (v2.1, (Go.IntKind.wrap Go.IntKind.i64 (Int.add v2.2 (Int.ofNat (List.length x1.1))))) [])), p.2.2.2.1, p.2.2.2.2)) none) (cond (Nat.ble (Nat.mul (Nat.add (List.length p.2.2.1) 1) 16) 140737488355328) (L15 (p.1, (Go.IntKind.wrap Go.IntKind.i64 (Int.add p.2.1 (Int.ofNat 1))), (List.append p.2.2.1 (List.cons (v2.1, v2.2) [])), p.2.2.2.1, p.2.2.2.2)) none)))) (cond (Nat.ble (Nat.mul (Nat.add (List.length p.2.2.2.2) 1) 40) 140737488355328) (L11 ((Go.IntKind.wrap Go.IntKind.i64 (Int.add p.2.2.2.1 (Int.ofNat 1))), (List.append p.2.2.2.2 (List.cons (p.1, p.2.2.1) [])))) none)))
def R_r_Join_20 (lf : Nat) (x1 : DGraph) (x2 : DGraph) (L20 : ((List DNode) × Int × (List DVal)) → Option Rt_r_Join) (p : (List DNode) × Int × (List DVal)) : Option Rt_r_Join := (cond (iltI p.2.1 (Int.ofNat (List.length x2.2))) (match (jget x2.2 p.2.1) with | .none  => none | .some v0 => (cond (ieqI v0.1 (Int.ofNat 4)) (cond (Nat.ble (Nat.mul (Nat.add (List.length p.2.2) 1) 16) 140737488355328) (L20 (p.1, (Go.IntKind.wrap Go.IntKind.i64 (Int.add p.2.1 (Int.ofNat 1))), (List.append p.2.2 (List.cons (v0.1, (Go.IntKind.wrap Go.IntKind.i64 (Int.add v0.2 (Int.ofNat (List.length x1.1))))) [])))) none) (cond (Nat.ble (Nat.mul (Nat.add (List.length p.2.2) 1) 16) 140737488355328) (L20 (p.1, (Go.IntKind.wrap Go.IntKind.i64 (Int.add p.2.1 (Int.ofNat 1))), (List.append p.2.2 (List.cons (v0.1, v0.2) [])))) none))) (some (((p.1, p.2.2), ([], (Int.ofNat 0))), ())))
theorem in_r_Join (g : ElA [cGraph, cGraph] → Option Rt_r_Join) (J : Nat → List Nat → NRes → Option Rt_r_Join) (lf : Nat) (x1 : DGraph) (x2 : DGraph) : icodeT Try.prog ttT.get nm_r_Join fi37.nt (cl_r_Join _ lf) lf st_r_Join J fi37.body [] (argGo (argV [cGraph, cGraph] (x1, x2, ())) 0 .leaf) S0 [] (lastK ttT.get fi37 ⟨[cGraph, cGraph], [(false, cR22Graphed)], g⟩) = R_r_Join_in lf x1 x2 (fun q => J 11 [lf] (enc_r_Join_11 x1 x2 q)) := by kernel_rfl
theorem st_r_Join_11 (g : ElA [cGraph, cGraph] → Option Rt_r_Join) (J : Nat → List Nat → NRes → Option Rt_r_Join) (lf : Nat) (x1 : DGraph) (x2 : DGraph) (m1 : Nat) (p : Int × (List DNode)) : icodeFT Try.prog ttT.get nm_r_Join fi37.nt (cl_r_Join _ lf) lf st_r_Join J 11 fi37.body [] [m1] (enc_r_Join_11 x1 x2 p) (lastK ttT.get fi37 ⟨[cGraph, cGraph], [(false, cR22Graphed)], g⟩) = R_r_Join_11 lf x1 x2 (fun q => J 15 [m1, lf] (enc_r_Join_15 x1 x2 q)) (fun q => J 20 [lf] (enc_r_Join_20 x1 x2 q)) p := by kernel_rfl
theorem st_r_Join_15 (g : ElA [cGraph, cGraph] → Option Rt_r_Join) (J : Nat → List Nat → NRes → Option Rt_r_Join) (lf : Nat) (x1 : DGraph) (x2 : DGraph) (m1 : Nat) (m2 : Nat) (p : ByteArray × Int × (List DVal) × Int × (List DNode)) : icodeFT Try.prog ttT.get nm_r_Join fi37.nt (cl_r_Join _ lf) lf st_r_Join J 15 fi37.body [] [m1, m2] (enc_r_Join_15 x1 x2 p) (lastK ttT.get fi37 ⟨[cGraph, cGraph], [(false, cR22Graphed)], g⟩) = R_r_Join_15 lf x1 x2 (fun q => J 15 [m1, m2] (enc_r_Join_15 x1 x2 q)) (fun q => J 11 [m1] (enc_r_Join_11 x1 x2 q)) p := by kernel_rfl
theorem st_r_Join_20 (g : ElA [cGraph, cGraph] → Option Rt_r_Join) (J : Nat → List Nat → NRes → Option Rt_r_Join) (lf : Nat) (x1 : DGraph) (x2 : DGraph) (m1 : Nat) (p : (List DNode) × Int × (List DVal)) : icodeFT Try.prog ttT.get nm_r_Join fi37.nt (cl_r_Join _ lf) lf st_r_Join J 20 fi37.body [] [m1] (enc_r_Join_20 x1 x2 p) (lastK ttT.get fi37 ⟨[cGraph, cGraph], [(false, cR22Graphed)], g⟩) = R_r_Join_20 lf x1 x2 (fun q => J 20 [m1] (enc_r_Join_20 x1 x2 q)) p := by kernel_rfl
theorem nd_r_Join : (regs fi37.body).Nodup := by decide +kernel
theorem ok_r_Join : okC nm_r_Join st_r_Join hd_r_Join fi37.body none = true := by kernel_rfl
def A_r_Join (g : ElA [cGraph, cGraph] → Option Rt_r_Join) (lf : Nat) : Nat → List Nat → NRes → Option Rt_r_Join := atN Try.prog ttT.get nm_r_Join fi37 ⟨[cGraph, cGraph], [(false, cR22Graphed)], g⟩ (cl_r_Join _ lf) lf hd_r_Join
def G_r_Join_15 (lf : Nat) (x1 : DGraph) (x2 : DGraph) (K11 : (Int × (List DNode)) → Option Rt_r_Join) : Nat → (ByteArray × Int × (List DVal) × Int × (List DNode)) → Option Rt_r_Join := rounds fun K p => R_r_Join_15 lf x1 x2 K K11 p
theorem at_r_Join_15 (g : ElA [cGraph, cGraph] → Option Rt_r_Join) (lf : Nat) (x1 : DGraph) (x2 : DGraph) (m1 : Nat) : ∀ (n : Nat) (p : ByteArray × Int × (List DVal) × Int × (List DNode)), A_r_Join g lf 15 [m1, n] (enc_r_Join_15 x1 x2 p) = G_r_Join_15 lf x1 x2 (fun q => A_r_Join g lf 11 [m1] (enc_r_Join_11 x1 x2 q)) n p
  | 0, p => atN_zero 15 [m1, 0] rfl _
  | n + 1, p => by
    have ih := at_r_Join_15 g lf x1 x2 m1 n
    refine (atN_eq (icallK_eq 20 _) nd_r_Join ok_r_Join 15 [m1, n + 1] [m1, n] rfl _).trans ((st_r_Join_15 g (A_r_Join g lf) lf x1 x2 m1 n p).trans ?_)
    rw [(show (fun q => A_r_Join g lf 15 [m1, n] (enc_r_Join_15 x1 x2 q)) = (fun q => G_r_Join_15 lf x1 x2 (fun q => A_r_Join g lf 11 [m1] (enc_r_Join_11 x1 x2 q)) n q) from funext ih)]
    rfl
def G_r_Join_20 (lf : Nat) (x1 : DGraph) (x2 : DGraph) : Nat → ((List DNode) × Int × (List DVal)) → Option Rt_r_Join := rounds fun K p => R_r_Join_20 lf x1 x2 K p
theorem at_r_Join_20 (g : ElA [cGraph, cGraph] → Option Rt_r_Join) (lf : Nat) (x1 : DGraph) (x2 : DGraph) : ∀ (n : Nat) (p : (List DNode) × Int × (List DVal)), A_r_Join g lf 20 [n] (enc_r_Join_20 x1 x2 p) = G_r_Join_20 lf x1 x2 n p
  | 0, p => atN_zero 20 [0] rfl _
  | n + 1, p => by
    have ih := at_r_Join_20 g lf x1 x2 n
    refine (atN_eq (icallK_eq 20 _) nd_r_Join ok_r_Join 20 [n + 1] [n] rfl _).trans ((st_r_Join_20 g (A_r_Join g lf) lf x1 x2 n p).trans ?_)
    rw [(show (fun q => A_r_Join g lf 20 [n] (enc_r_Join_20 x1 x2 q)) = (fun q => G_r_Join_20 lf x1 x2 n q) from funext ih)]
    rfl
def G_r_Join_11 (lf : Nat) (x1 : DGraph) (x2 : DGraph) : Nat → (Int × (List DNode)) → Option Rt_r_Join := rounds fun K p => R_r_Join_11 lf x1 x2 (fun q => G_r_Join_15 lf x1 x2 K lf q) (fun q => G_r_Join_20 lf x1 x2 lf q) p
theorem at_r_Join_11 (g : ElA [cGraph, cGraph] → Option Rt_r_Join) (lf : Nat) (x1 : DGraph) (x2 : DGraph) : ∀ (n : Nat) (p : Int × (List DNode)), A_r_Join g lf 11 [n] (enc_r_Join_11 x1 x2 p) = G_r_Join_11 lf x1 x2 n p
  | 0, p => atN_zero 11 [0] rfl _
  | n + 1, p => by
    have ih := at_r_Join_11 g lf x1 x2 n
    refine (atN_eq (icallK_eq 20 _) nd_r_Join ok_r_Join 11 [n + 1] [n] rfl _).trans ((st_r_Join_11 g (A_r_Join g lf) lf x1 x2 n p).trans ?_)
    rw [(show (fun q => A_r_Join g lf 15 [n, lf] (enc_r_Join_15 x1 x2 q)) = (fun q => G_r_Join_15 lf x1 x2 (fun q => A_r_Join g lf 11 [n] (enc_r_Join_11 x1 x2 q)) lf q) from funext fun q => at_r_Join_15 g lf x1 x2 n lf q), (show (fun q => A_r_Join g lf 20 [lf] (enc_r_Join_20 x1 x2 q)) = (fun q => G_r_Join_20 lf x1 x2 lf q) from funext fun q => at_r_Join_20 g lf x1 x2 lf q), (show (fun q => A_r_Join g lf 11 [n] (enc_r_Join_11 x1 x2 q)) = (fun q => G_r_Join_11 lf x1 x2 n q) from funext ih)]
    rfl
def F_r_Join (lf : Nat) (x1 : DGraph) (x2 : DGraph) : Option Rt_r_Join := R_r_Join_in lf x1 x2 (fun q => G_r_Join_11 lf x1 x2 lf q)
theorem run_r_Join (g : ElA [cGraph, cGraph] → Option Rt_r_Join) (lf : Nat) (x1 : DGraph) (x2 : DGraph) : icodeT Try.prog ttT.get nm_r_Join fi37.nt (cl_r_Join _ lf) lf st_r_Join (A_r_Join g lf) fi37.body [] (argGo (argV [cGraph, cGraph] (x1, x2, ())) 0 .leaf) S0 [] (lastK ttT.get fi37 ⟨[cGraph, cGraph], [(false, cR22Graphed)], g⟩) = F_r_Join lf x1 x2 := by
    refine (in_r_Join g (A_r_Join g lf) lf x1 x2).trans ?_
    rw [(show (fun q => A_r_Join g lf 11 [lf] (enc_r_Join_11 x1 x2 q)) = (fun q => G_r_Join_11 lf x1 x2 lf q) from funext fun q => at_r_Join_11 g lf x1 x2 lf q)]
    rfl
theorem hxs_r_Join : HxsOK Try.prog hxl_r_Join := trivial
theorem mk_r_Join {g : ElA [cGraph, cGraph] → Option Rt_r_Join} (hsm : SmOK Try.prog sml_r_Join) (hg : ∀ (x : ElA [cGraph, cGraph]) (y : Rt_r_Join), WfA [cGraph, cGraph] x → g x = some y → ∃ lf, F_r_Join lf x.1 x.2.1 = some y) : Con Try.prog 37 ⟨[cGraph, cGraph], [(false, cR22Graphed)], g⟩ :=
  conT (nmf := nm_r_Join) (sml := sml_r_Join) (hxl := hxl_r_Join) (st := st_r_Join) (hd := hd_r_Join) 20 mixed ttOK ftOK hsm hxs_r_Join cal37 rfl rfl (by kernel_rfl) (fun x => by kernel_rfl) nd_r_Join ok_r_Join fun x y hx hy => by
    obtain ⟨lf, h⟩ := hg x y hx hy
    exact ⟨lf, (run_r_Join g lf x.1 x.2.1).trans h⟩
def nm_r_Part : Nat → Option Nm := fun k => none
def st_r_Part : Nat → Bool := fun k => false
def hd_r_Part : Nat → Bool := fun k => false
abbrev Rt_r_Part : Type := DR22Graphed × Unit
def sml_r_Part : List (Nat × Sm) := [(60, sp_r_Formed), (67, sp_r_canon)]
def hxl_r_Part : List (Nat × Hx) := []
def cl_r_Part (R : Type) (lf : Nat) : ClK R := icallK Try.prog ttT.get ftT.get (nm1 38 nm_r_Part) (smL sml_r_Part) (hxL hxl_r_Part) lf 20 R
abbrev id_r_Part : Nat := 38
def R_r_Part_in (lf : Nat) (x1 : DGraph) (x2 : Int) : Option Rt_r_Part := (cond (Bool.not (ieqI (Go.Proofs.Ytcnhjofpmpipfaa.S.formed (x1.1, x1.2)) (Int.ofNat 0))) (some ((([], []), ([], (Go.Proofs.Ytcnhjofpmpipfaa.S.formed (x1.1, x1.2)))), ())) (cond (Bool.not (iltI x2 (Int.ofNat 0))) (cond (Bool.not (Bool.not (iltI (Go.IntKind.wrap Go.IntKind.i64 (Int.sub (Int.ofNat (List.length x1.2)) (Int.ofNat 1))) x2))) (some ((([], []), ([], (Int.ofNat 1))), ())) (match (jget x1.2 x2) with | .none  => none | .some v0 => (match (cond (ieqI (Go.Proofs.Ytcnhjofpmpipfaa.S.formed (x1.1, (List.cons (v0.1, v0.2) []))) (Int.ofNat 0)) (some (((Go.Proofs.Ytcnhjofpmpipfaa.S.canonG (x1.1, (List.cons (v0.1, v0.2) []))), ((Go.Proofs.Ytcnhjofpmpipfaa.S.numsG (x1.1, (List.cons (v0.1, v0.2) []))), (Int.ofNat 0))), ())) none) with | .none  => none | .some v1 => (some (((v1.1.1.1, v1.1.1.2), ([], (Int.ofNat 0))), ()))))) (some ((([], []), ([], (Int.ofNat 1))), ()))))
theorem in_r_Part (g : ElA [cGraph, (.int .i64)] → Option Rt_r_Part) (J : Nat → List Nat → NRes → Option Rt_r_Part) (lf : Nat) (x1 : DGraph) (x2 : Int) : icodeT Try.prog ttT.get nm_r_Part fi38.nt (cl_r_Part _ lf) lf st_r_Part J fi38.body [] (argGo (argV [cGraph, (.int .i64)] (x1, x2, ())) 0 .leaf) S0 [] (lastK ttT.get fi38 ⟨[cGraph, (.int .i64)], [(false, cR22Graphed)], g⟩) = R_r_Part_in lf x1 x2 := by kernel_rfl
theorem nd_r_Part : (regs fi38.body).Nodup := by decide +kernel
theorem ok_r_Part : okC nm_r_Part st_r_Part hd_r_Part fi38.body none = true := by kernel_rfl
def A_r_Part (g : ElA [cGraph, (.int .i64)] → Option Rt_r_Part) (lf : Nat) : Nat → List Nat → NRes → Option Rt_r_Part := atN Try.prog ttT.get nm_r_Part fi38 ⟨[cGraph, (.int .i64)], [(false, cR22Graphed)], g⟩ (cl_r_Part _ lf) lf hd_r_Part
def F_r_Part (lf : Nat) (x1 : DGraph) (x2 : Int) : Option Rt_r_Part := R_r_Part_in lf x1 x2
theorem run_r_Part (g : ElA [cGraph, (.int .i64)] → Option Rt_r_Part) (lf : Nat) (x1 : DGraph) (x2 : Int) : icodeT Try.prog ttT.get nm_r_Part fi38.nt (cl_r_Part _ lf) lf st_r_Part (A_r_Part g lf) fi38.body [] (argGo (argV [cGraph, (.int .i64)] (x1, x2, ())) 0 .leaf) S0 [] (lastK ttT.get fi38 ⟨[cGraph, (.int .i64)], [(false, cR22Graphed)], g⟩) = F_r_Part lf x1 x2 := by
    refine (in_r_Part g (A_r_Part g lf) lf x1 x2).trans ?_
    rfl
theorem hxs_r_Part : HxsOK Try.prog hxl_r_Part := trivial
theorem mk_r_Part {g : ElA [cGraph, (.int .i64)] → Option Rt_r_Part} (hsm : SmOK Try.prog sml_r_Part) (hg : ∀ (x : ElA [cGraph, (.int .i64)]) (y : Rt_r_Part), WfA [cGraph, (.int .i64)] x → g x = some y → ∃ lf, F_r_Part lf x.1 x.2.1 = some y) : Con Try.prog 38 ⟨[cGraph, (.int .i64)], [(false, cR22Graphed)], g⟩ :=
  conT (nmf := nm_r_Part) (sml := sml_r_Part) (hxl := hxl_r_Part) (st := st_r_Part) (hd := hd_r_Part) 20 mixed ttOK ftOK hsm hxs_r_Part cal38 rfl rfl (by kernel_rfl) (fun x => by kernel_rfl) nd_r_Part ok_r_Part fun x y hx hy => by
    obtain ⟨lf, h⟩ := hg x y hx hy
    exact ⟨lf, (run_r_Part g lf x.1 x.2.1).trans h⟩
def nm_r_Canon : Nat → Option Nm := fun k => none
def st_r_Canon : Nat → Bool := fun k => false
def hd_r_Canon : Nat → Bool := fun k => false
abbrev Rt_r_Canon : Type := DR22Graphed × Unit
def sml_r_Canon : List (Nat × Sm) := [(60, sp_r_Formed), (67, sp_r_canon)]
def hxl_r_Canon : List (Nat × Hx) := []
def cl_r_Canon (R : Type) (lf : Nat) : ClK R := icallK Try.prog ttT.get ftT.get (nm1 35 nm_r_Canon) (smL sml_r_Canon) (hxL hxl_r_Canon) lf 20 R
abbrev id_r_Canon : Nat := 35
def R_r_Canon_in (lf : Nat) (x1 : DGraph) : Option Rt_r_Canon := (cond (Bool.not (ieqI (Go.Proofs.Ytcnhjofpmpipfaa.S.formed (x1.1, x1.2)) (Int.ofNat 0))) (some ((([], []), ([], (Go.Proofs.Ytcnhjofpmpipfaa.S.formed (x1.1, x1.2)))), ())) (match (cond (ieqI (Go.Proofs.Ytcnhjofpmpipfaa.S.formed (x1.1, x1.2)) (Int.ofNat 0)) (some (((Go.Proofs.Ytcnhjofpmpipfaa.S.canonG (x1.1, x1.2)), ((Go.Proofs.Ytcnhjofpmpipfaa.S.numsG (x1.1, x1.2)), (Int.ofNat 0))), ())) none) with | .none  => none | .some v0 => (some (((v0.1.1.1, v0.1.1.2), (v0.1.2.1, v0.1.2.2)), ()))))
theorem in_r_Canon (g : ElA [cGraph] → Option Rt_r_Canon) (J : Nat → List Nat → NRes → Option Rt_r_Canon) (lf : Nat) (x1 : DGraph) : icodeT Try.prog ttT.get nm_r_Canon fi35.nt (cl_r_Canon _ lf) lf st_r_Canon J fi35.body [] (argGo (argV [cGraph] (x1, ())) 0 .leaf) S0 [] (lastK ttT.get fi35 ⟨[cGraph], [(false, cR22Graphed)], g⟩) = R_r_Canon_in lf x1 := by kernel_rfl
theorem nd_r_Canon : (regs fi35.body).Nodup := by decide +kernel
theorem ok_r_Canon : okC nm_r_Canon st_r_Canon hd_r_Canon fi35.body none = true := by kernel_rfl
def A_r_Canon (g : ElA [cGraph] → Option Rt_r_Canon) (lf : Nat) : Nat → List Nat → NRes → Option Rt_r_Canon := atN Try.prog ttT.get nm_r_Canon fi35 ⟨[cGraph], [(false, cR22Graphed)], g⟩ (cl_r_Canon _ lf) lf hd_r_Canon
def F_r_Canon (lf : Nat) (x1 : DGraph) : Option Rt_r_Canon := R_r_Canon_in lf x1
theorem run_r_Canon (g : ElA [cGraph] → Option Rt_r_Canon) (lf : Nat) (x1 : DGraph) : icodeT Try.prog ttT.get nm_r_Canon fi35.nt (cl_r_Canon _ lf) lf st_r_Canon (A_r_Canon g lf) fi35.body [] (argGo (argV [cGraph] (x1, ())) 0 .leaf) S0 [] (lastK ttT.get fi35 ⟨[cGraph], [(false, cR22Graphed)], g⟩) = F_r_Canon lf x1 := by
    refine (in_r_Canon g (A_r_Canon g lf) lf x1).trans ?_
    rfl
theorem hxs_r_Canon : HxsOK Try.prog hxl_r_Canon := trivial
theorem mk_r_Canon {g : ElA [cGraph] → Option Rt_r_Canon} (hsm : SmOK Try.prog sml_r_Canon) (hg : ∀ (x : ElA [cGraph]) (y : Rt_r_Canon), WfA [cGraph] x → g x = some y → ∃ lf, F_r_Canon lf x.1 = some y) : Con Try.prog 35 ⟨[cGraph], [(false, cR22Graphed)], g⟩ :=
  conT (nmf := nm_r_Canon) (sml := sml_r_Canon) (hxl := hxl_r_Canon) (st := st_r_Canon) (hd := hd_r_Canon) 20 mixed ttOK ftOK hsm hxs_r_Canon cal35 rfl rfl (by kernel_rfl) (fun x => by kernel_rfl) nd_r_Canon ok_r_Canon fun x y hx hy => by
    obtain ⟨lf, h⟩ := hg x y hx hy
    exact ⟨lf, (run_r_Canon g lf x.1).trans h⟩
def nm_r_Same : Nat → Option Nm := fun k => none
def st_r_Same : Nat → Bool := fun k => false
def hd_r_Same : Nat → Bool := fun k => false
abbrev Rt_r_Same : Type := DR22Truth × Unit
def sml_r_Same : List (Nat × Sm) := [(60, sp_r_Formed), (67, sp_r_canon), (26, sp_r_SameGraphs)]
def hxl_r_Same : List (Nat × Hx) := []
def cl_r_Same (R : Type) (lf : Nat) : ClK R := icallK Try.prog ttT.get ftT.get (nm1 36 nm_r_Same) (smL sml_r_Same) (hxL hxl_r_Same) lf 20 R
abbrev id_r_Same : Nat := 36
def R_r_Same_in (lf : Nat) (x1 : DGraph) (x2 : DGraph) : Option Rt_r_Same := (cond (ieqI (Go.Proofs.Ytcnhjofpmpipfaa.S.formed (x1.1, x1.2)) (Int.ofNat 0)) (cond (Bool.not (ieqI (Go.Proofs.Ytcnhjofpmpipfaa.S.formed (x2.1, x2.2)) (Int.ofNat 0))) (some ((Bool.false, (Go.Proofs.Ytcnhjofpmpipfaa.S.formed (x2.1, x2.2))), ())) (match (cond (ieqI (Go.Proofs.Ytcnhjofpmpipfaa.S.formed (x1.1, x1.2)) (Int.ofNat 0)) (some (((Go.Proofs.Ytcnhjofpmpipfaa.S.canonG (x1.1, x1.2)), ((Go.Proofs.Ytcnhjofpmpipfaa.S.numsG (x1.1, x1.2)), (Int.ofNat 0))), ())) none) with | .none  => none | .some v0 => (match (cond (ieqI (Go.Proofs.Ytcnhjofpmpipfaa.S.formed (x2.1, x2.2)) (Int.ofNat 0)) (some (((Go.Proofs.Ytcnhjofpmpipfaa.S.canonG (x2.1, x2.2)), ((Go.Proofs.Ytcnhjofpmpipfaa.S.numsG (x2.1, x2.2)), (Int.ofNat 0))), ())) none) with | .none  => none | .some v1 => (some (((Go.Proofs.Ytcnhjofpmpipfaa.S.sameGraphs (v0.1.1.1, v0.1.1.2) (v1.1.1.1, v1.1.1.2)), (Int.ofNat 0)), ()))))) (cond (Bool.not (ieqI (Go.Proofs.Ytcnhjofpmpipfaa.S.formed (x1.1, x1.2)) (Int.ofNat 0))) (some ((Bool.false, (Go.Proofs.Ytcnhjofpmpipfaa.S.formed (x1.1, x1.2))), ())) (match (cond (ieqI (Go.Proofs.Ytcnhjofpmpipfaa.S.formed (x1.1, x1.2)) (Int.ofNat 0)) (some (((Go.Proofs.Ytcnhjofpmpipfaa.S.canonG (x1.1, x1.2)), ((Go.Proofs.Ytcnhjofpmpipfaa.S.numsG (x1.1, x1.2)), (Int.ofNat 0))), ())) none) with | .none  => none | .some v2 => (match (cond (ieqI (Go.Proofs.Ytcnhjofpmpipfaa.S.formed (x2.1, x2.2)) (Int.ofNat 0)) (some (((Go.Proofs.Ytcnhjofpmpipfaa.S.canonG (x2.1, x2.2)), ((Go.Proofs.Ytcnhjofpmpipfaa.S.numsG (x2.1, x2.2)), (Int.ofNat 0))), ())) none) with | .none  => none | .some v3 => (some (((Go.Proofs.Ytcnhjofpmpipfaa.S.sameGraphs (v2.1.1.1, v2.1.1.2) (v3.1.1.1, v3.1.1.2)), (Int.ofNat 0)), ()))))))
theorem in_r_Same (g : ElA [cGraph, cGraph] → Option Rt_r_Same) (J : Nat → List Nat → NRes → Option Rt_r_Same) (lf : Nat) (x1 : DGraph) (x2 : DGraph) : icodeT Try.prog ttT.get nm_r_Same fi36.nt (cl_r_Same _ lf) lf st_r_Same J fi36.body [] (argGo (argV [cGraph, cGraph] (x1, x2, ())) 0 .leaf) S0 [] (lastK ttT.get fi36 ⟨[cGraph, cGraph], [(false, cR22Truth)], g⟩) = R_r_Same_in lf x1 x2 := by kernel_rfl
theorem nd_r_Same : (regs fi36.body).Nodup := by decide +kernel
theorem ok_r_Same : okC nm_r_Same st_r_Same hd_r_Same fi36.body none = true := by kernel_rfl
def A_r_Same (g : ElA [cGraph, cGraph] → Option Rt_r_Same) (lf : Nat) : Nat → List Nat → NRes → Option Rt_r_Same := atN Try.prog ttT.get nm_r_Same fi36 ⟨[cGraph, cGraph], [(false, cR22Truth)], g⟩ (cl_r_Same _ lf) lf hd_r_Same
def F_r_Same (lf : Nat) (x1 : DGraph) (x2 : DGraph) : Option Rt_r_Same := R_r_Same_in lf x1 x2
theorem run_r_Same (g : ElA [cGraph, cGraph] → Option Rt_r_Same) (lf : Nat) (x1 : DGraph) (x2 : DGraph) : icodeT Try.prog ttT.get nm_r_Same fi36.nt (cl_r_Same _ lf) lf st_r_Same (A_r_Same g lf) fi36.body [] (argGo (argV [cGraph, cGraph] (x1, x2, ())) 0 .leaf) S0 [] (lastK ttT.get fi36 ⟨[cGraph, cGraph], [(false, cR22Truth)], g⟩) = F_r_Same lf x1 x2 := by
    refine (in_r_Same g (A_r_Same g lf) lf x1 x2).trans ?_
    rfl
theorem hxs_r_Same : HxsOK Try.prog hxl_r_Same := trivial
theorem mk_r_Same {g : ElA [cGraph, cGraph] → Option Rt_r_Same} (hsm : SmOK Try.prog sml_r_Same) (hg : ∀ (x : ElA [cGraph, cGraph]) (y : Rt_r_Same), WfA [cGraph, cGraph] x → g x = some y → ∃ lf, F_r_Same lf x.1 x.2.1 = some y) : Con Try.prog 36 ⟨[cGraph, cGraph], [(false, cR22Truth)], g⟩ :=
  conT (nmf := nm_r_Same) (sml := sml_r_Same) (hxl := hxl_r_Same) (st := st_r_Same) (hd := hd_r_Same) 20 mixed ttOK ftOK hsm hxs_r_Same cal36 rfl rfl (by kernel_rfl) (fun x => by kernel_rfl) nd_r_Same ok_r_Same fun x y hx hy => by
    obtain ⟨lf, h⟩ := hg x y hx hy
    exact ⟨lf, (run_r_Same g lf x.1 x.2.1).trans h⟩
end Go.Proofs.Ytcnhjofpmpipfaa

end
end

/- Made by program: plain forms of functions. -/
section
set_option linter.unusedVariables false
set_option maxRecDepth 100000
noncomputable section
namespace Go.Proofs.Ytcnhjofpmpipfaa
open Go Go.Sx Go.RowKit Go.Jx
end Go.Proofs.Ytcnhjofpmpipfaa

end
end

/- Made by program: plain forms of functions. -/
section
set_option linter.unusedVariables false
set_option maxRecDepth 100000
noncomputable section
namespace Go.Proofs.Ytcnhjofpmpipfaa
open Go Go.Sx Go.RowKit Go.Jx
end Go.Proofs.Ytcnhjofpmpipfaa

end
end

/- Made by program: plain forms of functions. -/
section
set_option linter.unusedVariables false
set_option maxRecDepth 100000
noncomputable section
namespace Go.Proofs.Ytcnhjofpmpipfaa
open Go Go.Sx Go.RowKit Go.Jx
end Go.Proofs.Ytcnhjofpmpipfaa

end
end

/- Contracts of number, sum, code: both sides. -/
section
set_option linter.unusedVariables false
namespace Go.Proofs.Ytcnhjofpmpipfaa
open Go Go.Sx Go.RowKit Go.Jx
theorem w64 {n : Int} (h1 : -4611686018427387904 ≤ n) (h2 : n ≤ 4611686018427387904) : IntKind.i64.wrap n = n := (wrap_iff _ _).2 ⟨by show (-9223372036854775808 : Int) ≤ n; omega, by show n ≤ (9223372036854775807 : Int); omega⟩
end Go.Proofs.Ytcnhjofpmpipfaa
end

/- Made by program: plain forms of functions. -/
section
set_option linter.unusedVariables false
set_option maxRecDepth 100000
noncomputable section
namespace Go.Proofs.Ytcnhjofpmpipfaa
open Go Go.Sx Go.RowKit Go.Jx
def nm_r_canon : Nat → Option Nm := fun k => cond (Nat.beq k 3) (some ⟨[1, 2, 3, 4], [(3, (.int .i64))], [], [], [], 0, 0, false⟩) (cond (Nat.beq k 8) (some ⟨[1, 2, 3, 5, 6], [(3, (.int .i64)), (5, (.int .i64))], [], [], [], 0, 0, false⟩) (cond (Nat.beq k 12) (some ⟨[1, 2, 3, 5, 7], [(3, (.int .i64)), (5, (.int .i64))], [], [], [], 0, 0, false⟩) (cond (Nat.beq k 16) (some ⟨[1, 2, 3, 5, 7, 8, 9], [(3, (.int .i64)), (5, (.int .i64))], [], [], [], 0, 0, false⟩) (cond (Nat.beq k 21) (some ⟨[1, 2, 3, 5, 10, 11], [(3, (.int .i64)), (5, (.int .i64))], [(10, 0, cNode)], [], [], 0, 0, false⟩) (cond (Nat.beq k 26) (some ⟨[1, 2, 3, 5, 10, 11, 12, 13, 14], [(3, (.int .i64)), (5, (.int .i64))], [(10, 0, cNode), (13, 1, cVal)], [], [], 0, 0, false⟩) (cond (Nat.beq k 31) (some ⟨[1, 2, 3, 10, 15], [(3, (.int .i64))], [(10, 0, cNode), (10, 1, cVal)], [], [], 0, 0, false⟩) (none)))))))
def st_r_canon : Nat → Bool := fun k => cond (Nat.beq k 3) true (cond (Nat.beq k 8) true (cond (Nat.beq k 12) true (cond (Nat.beq k 16) true (cond (Nat.beq k 21) true (cond (Nat.beq k 26) true (cond (Nat.beq k 31) true (false)))))))
def hd_r_canon : Nat → Bool := fun k => cond (Nat.beq k 3) true (cond (Nat.beq k 8) true (cond (Nat.beq k 12) true (cond (Nat.beq k 16) true (cond (Nat.beq k 21) true (cond (Nat.beq k 26) true (cond (Nat.beq k 31) true (false)))))))
abbrev Rt_r_canon : Type := DR22Graphed × Unit
def sml_r_canon : List (Nat × Sm) := []
def hxl_r_canon : List (Nat × Hx) := []
def cl_r_canon (R : Type) (lf : Nat) : ClK R := icallK Try.prog ttT.get ftT.get (nm1 67 nm_r_canon) (smL sml_r_canon) (hxL hxl_r_canon) lf 20 R
abbrev id_r_canon : Nat := 67
def enc_r_canon_3 (x1 : DGraph) (p : Int × (List Int)) : NRes := (NRes.mk (PT.node none (PT.node (some (IV.ptr 0 0)) (PT.node (some (IV.arr 2)) PT.leaf PT.leaf) PT.leaf) (PT.node (some (IV.ptr 1 0)) (PT.node (some (IV.int Go.IntKind.i64 p.1)) PT.leaf PT.leaf) PT.leaf)) (IS.mk (PT.node (some (IObj.row (List.cons (IV.lst cNode x1.1) (List.cons (IV.lst cVal x1.2) [])))) (PT.node (some (IObj.row (List.cons IV.nilsl (List.cons IV.nilsl (List.cons IV.nilsl (List.cons (IV.int Go.IntKind.i64 (Int.ofNat 0)) [])))))) PT.leaf PT.leaf) (PT.node (some (IObj.arr (TC.int Go.IntKind.i64) p.2)) PT.leaf PT.leaf)) 3) [] 0)
def enc_r_canon_8 (x1 : DGraph) (p : (List Int) × Int × (List Int)) : NRes := (NRes.mk (PT.node none (PT.node (some (IV.ptr 0 0)) (PT.node (some (IV.arr 2)) PT.leaf PT.leaf) (PT.node (some (IV.arr 3)) PT.leaf PT.leaf)) (PT.node (some (IV.ptr 1 0)) PT.leaf (PT.node (some (IV.int Go.IntKind.i64 p.2.1)) PT.leaf PT.leaf))) (IS.mk (PT.node (some (IObj.row (List.cons (IV.lst cNode x1.1) (List.cons (IV.lst cVal x1.2) [])))) (PT.node (some (IObj.row (List.cons IV.nilsl (List.cons IV.nilsl (List.cons IV.nilsl (List.cons (IV.int Go.IntKind.i64 (Int.ofNat 0)) [])))))) (PT.node (some (IObj.arr (TC.int Go.IntKind.i64) p.2.2)) PT.leaf PT.leaf) PT.leaf) (PT.node (some (IObj.arr (TC.int Go.IntKind.i64) p.1)) PT.leaf PT.leaf)) 4) [] 0)
def enc_r_canon_12 (x1 : DGraph) (p : (List Int) × (List Int) × Int) : NRes := (NRes.mk (PT.node none (PT.node (some (IV.ptr 0 0)) (PT.node (some (IV.arr 2)) (PT.node (some (IV.int Go.IntKind.i64 p.2.2)) PT.leaf PT.leaf) PT.leaf) (PT.node (some (IV.arr 3)) PT.leaf PT.leaf)) (PT.node (some (IV.ptr 1 0)) PT.leaf PT.leaf)) (IS.mk (PT.node (some (IObj.row (List.cons (IV.lst cNode x1.1) (List.cons (IV.lst cVal x1.2) [])))) (PT.node (some (IObj.row (List.cons IV.nilsl (List.cons IV.nilsl (List.cons IV.nilsl (List.cons (IV.int Go.IntKind.i64 (Int.ofNat 0)) [])))))) (PT.node (some (IObj.arr (TC.int Go.IntKind.i64) p.2.1)) PT.leaf PT.leaf) PT.leaf) (PT.node (some (IObj.arr (TC.int Go.IntKind.i64) p.1)) PT.leaf PT.leaf)) 4) [] 0)
def enc_r_canon_16 (x1 : DGraph) (p : (List Int) × (List Int) × (List DVal) × ByteArray × Int × Int) : NRes := (NRes.mk (PT.node none (PT.node (some (IV.ptr 0 0)) (PT.node (some (IV.arr 2)) (PT.node (some (IV.int Go.IntKind.i64 p.2.2.2.2.2)) PT.leaf PT.leaf) PT.leaf) (PT.node (some (IV.arr 3)) (PT.node (some (IV.int Go.IntKind.i64 p.2.2.2.2.1)) PT.leaf PT.leaf) PT.leaf)) (PT.node (some (IV.ptr 1 0)) (PT.node none (PT.node (some (IV.ptr 4 0)) PT.leaf PT.leaf) PT.leaf) PT.leaf)) (IS.mk (PT.node (some (IObj.row (List.cons (IV.lst cNode x1.1) (List.cons (IV.lst cVal x1.2) [])))) (PT.node (some (IObj.row (List.cons IV.nilsl (List.cons IV.nilsl (List.cons IV.nilsl (List.cons (IV.int Go.IntKind.i64 (Int.ofNat 0)) [])))))) (PT.node (some (IObj.arr (TC.int Go.IntKind.i64) p.2.1)) PT.leaf PT.leaf) PT.leaf) (PT.node (some (IObj.arr (TC.int Go.IntKind.i64) p.1)) (PT.node (some (IObj.row (List.cons (IV.str p.2.2.2.1) (List.cons (IV.lst cVal p.2.2.1) [])))) PT.leaf PT.leaf) PT.leaf)) 5) [] 0)
def enc_r_canon_21 (x1 : DGraph) (p : (List Int) × (List Int) × Int × (List DNode)) : NRes := (NRes.mk (PT.node none (PT.node (some (IV.ptr 0 0)) (PT.node (some (IV.arr 2)) PT.leaf (PT.node (some (IV.int Go.IntKind.i64 p.2.2.1)) PT.leaf PT.leaf)) (PT.node (some (IV.arr 3)) PT.leaf PT.leaf)) (PT.node (some (IV.ptr 1 0)) PT.leaf (PT.node none (PT.node (some (IV.ptr 4 0)) PT.leaf PT.leaf) PT.leaf))) (IS.mk (PT.node (some (IObj.row (List.cons (IV.lst cNode x1.1) (List.cons (IV.lst cVal x1.2) [])))) (PT.node (some (IObj.row (List.cons IV.nilsl (List.cons IV.nilsl (List.cons IV.nilsl (List.cons (IV.int Go.IntKind.i64 (Int.ofNat 0)) [])))))) (PT.node (some (IObj.arr (TC.int Go.IntKind.i64) p.2.1)) PT.leaf PT.leaf) (PT.node (some (IObj.arr cNode p.2.2.2)) PT.leaf PT.leaf)) (PT.node (some (IObj.arr (TC.int Go.IntKind.i64) p.1)) (PT.node (some (IObj.row (List.cons (IV.arr 5) (List.cons IV.nilsl (List.cons (IV.arr 2) (List.cons (IV.int Go.IntKind.i64 (Int.ofNat 0)) [])))))) PT.leaf PT.leaf) PT.leaf)) 6) [] 0)
def enc_r_canon_26 (x1 : DGraph) (p : (List Int) × (List Int) × ByteArray × (List DVal) × Int × (List DVal) × Int × (List DNode)) : NRes := (NRes.mk (PT.node none (PT.node (some (IV.ptr 0 0)) (PT.node (some (IV.arr 2)) PT.leaf (PT.node (some (IV.int Go.IntKind.i64 p.2.2.2.2.2.2.1)) PT.leaf PT.leaf)) (PT.node (some (IV.arr 3)) PT.leaf (PT.node (some (IV.ptr 6 0)) PT.leaf PT.leaf))) (PT.node (some (IV.ptr 1 0)) (PT.node none PT.leaf (PT.node (some (IV.ptr 5 0)) PT.leaf PT.leaf)) (PT.node none (PT.node (some (IV.ptr 4 0)) PT.leaf PT.leaf) (PT.node (some (IV.int Go.IntKind.i64 p.2.2.2.2.1)) PT.leaf PT.leaf)))) (IS.mk (PT.node (some (IObj.row (List.cons (IV.lst cNode x1.1) (List.cons (IV.lst cVal x1.2) [])))) (PT.node (some (IObj.row (List.cons IV.nilsl (List.cons IV.nilsl (List.cons IV.nilsl (List.cons (IV.int Go.IntKind.i64 (Int.ofNat 0)) [])))))) (PT.node (some (IObj.arr (TC.int Go.IntKind.i64) p.2.1)) (PT.node (some (IObj.arr cNode p.2.2.2.2.2.2.2)) PT.leaf PT.leaf) PT.leaf) (PT.node (some (IObj.row (List.cons (IV.str p.2.2.1) (List.cons (IV.lst cVal p.2.2.2.1) [])))) PT.leaf PT.leaf)) (PT.node (some (IObj.arr (TC.int Go.IntKind.i64) p.1)) (PT.node (some (IObj.row (List.cons (IV.arr 7) (List.cons IV.nilsl (List.cons (IV.arr 2) (List.cons (IV.int Go.IntKind.i64 (Int.ofNat 0)) [])))))) (PT.node (some (IObj.arr cVal p.2.2.2.2.2.1)) PT.leaf PT.leaf) PT.leaf) (PT.node (some (IObj.row (List.cons (IV.str p.2.2.1) (List.cons (IV.arr 8) [])))) PT.leaf PT.leaf))) 9) [] 0)
def enc_r_canon_31 (x1 : DGraph) (p : (List Int) × (List DNode) × Int × (List DVal)) : NRes := (NRes.mk (PT.node none (PT.node (some (IV.ptr 0 0)) (PT.node (some (IV.arr 2)) (PT.node none (PT.node (some (IV.int Go.IntKind.i64 p.2.2.1)) PT.leaf PT.leaf) PT.leaf) PT.leaf) PT.leaf) (PT.node (some (IV.ptr 1 0)) PT.leaf (PT.node none (PT.node (some (IV.ptr 3 0)) PT.leaf PT.leaf) PT.leaf))) (IS.mk (PT.node (some (IObj.row (List.cons (IV.lst cNode x1.1) (List.cons (IV.lst cVal x1.2) [])))) (PT.node (some (IObj.row (List.cons IV.nilsl (List.cons IV.nilsl (List.cons IV.nilsl (List.cons (IV.int Go.IntKind.i64 (Int.ofNat 0)) [])))))) (PT.node (some (IObj.row (List.cons (IV.arr 4) (List.cons (IV.arr 5) (List.cons (IV.arr 2) (List.cons (IV.int Go.IntKind.i64 (Int.ofNat 0)) [])))))) PT.leaf PT.leaf) (PT.node (some (IObj.arr cVal p.2.2.2)) PT.leaf PT.leaf)) (PT.node (some (IObj.arr (TC.int Go.IntKind.i64) p.1)) (PT.node (some (IObj.arr cNode p.2.1)) PT.leaf PT.leaf) PT.leaf)) 6) [] 0)
def R_r_canon_in (lf : Nat) (x1 : DGraph) (L3 : (Int × (List Int)) → Option Rt_r_canon) : Option Rt_r_canon := (cond (iltI (Int.ofNat (List.length x1.1)) (Int.ofNat 0)) none (cond (Nat.ble (Nat.mul (Int.toNat (Int.ofNat (List.length x1.1))) 8) 140737488355328) (L3 ((Int.ofNat 0), (S.rep (Int.ofNat (List.length x1.1)) (Int.ofNat 0)))) none))
def R_r_canon_3 (lf : Nat) (x1 : DGraph) (L3 : (Int × (List Int)) → Option Rt_r_canon) (L8 : ((List Int) × Int × (List Int)) → Option Rt_r_canon) (p : Int × (List Int)) : Option Rt_r_canon := (cond (iltI p.1 (Int.ofNat (List.length p.2))) (match (jget p.2 p.1) with | .none  => none | .some v0 => (match (GetElem?.getElem? p.2 (Int.toNat p.1)) with | .none  => none | .some v1 => (L3 ((Go.IntKind.wrap Go.IntKind.i64 (Int.add p.1 (Int.ofNat 1))), (List.set p.2 (Int.toNat p.1) (Int.negSucc 0)))))) (L8 (p.2, (Int.ofNat 0), [])))
def R_r_canon_8 (lf : Nat) (x1 : DGraph) (L8 : ((List Int) × Int × (List Int)) → Option Rt_r_canon) (L12 : ((List Int) × (List Int) × Int) → Option Rt_r_canon) (p : (List Int) × Int × (List Int)) : Option Rt_r_canon := (cond (iltI p.2.1 (Int.ofNat (List.length x1.2))) (match (jget x1.2 p.2.1) with | .none  => none | .some v0 => (cond (Bool.not (ieqI v0.1 (Int.ofNat 4))) (L8 (p.1, (Go.IntKind.wrap Go.IntKind.i64 (Int.add p.2.1 (Int.ofNat 1))), p.2.2)) (match (jget p.1 v0.2) with | .none  => none | .some v24 => (match (GetElem?.getElem? p.1 (Int.toNat v0.2)) with | .none  => none | .some v25 => (cond (Bool.not (iltI v25 (Int.ofNat 0))) (L8 (p.1, (Go.IntKind.wrap Go.IntKind.i64 (Int.add p.2.1 (Int.ofNat 1))), p.2.2)) (match (jget p.1 v0.2) with | .none  => none | .some v26 => (match (GetElem?.getElem? p.1 (Int.toNat v0.2)) with | .none  => none | .some v27 => (cond (Nat.ble (Nat.mul (Nat.add (List.length p.2.2) 1) 8) 140737488355328) (L8 ((List.set p.1 (Int.toNat v0.2) (Int.ofNat (List.length p.2.2))), (Go.IntKind.wrap Go.IntKind.i64 (Int.add p.2.1 (Int.ofNat 1))), (List.append p.2.2 (List.cons v0.2 [])))) none)))))))) (L12 (p.1, p.2.2, (Int.ofNat 0))))
def R_r_canon_12 (lf : Nat) (x1 : DGraph) (L16 : ((List Int) × (List Int) × (List DVal) × ByteArray × Int × Int) → Option Rt_r_canon) (L21 : ((List Int) × (List Int) × Int × (List DNode)) → Option Rt_r_canon) (p : (List Int) × (List Int) × Int) : Option Rt_r_canon := (cond (iltI p.2.2 (Int.ofNat (List.length p.2.1))) (match (jget p.2.1 p.2.2) with | .none  => none | .some v0 => (match (GetElem?.getElem? p.2.1 (Int.toNat p.2.2)) with | .none  => none | .some v1 => (match (jget x1.1 v1) with | .none  => none | .some v2 => (L16 (p.1, p.2.1, v2.2, v2.1, (Int.ofNat 0), p.2.2))))) (L21 (p.1, p.2.1, (Int.ofNat 0), [])))
def R_r_canon_16 (lf : Nat) (x1 : DGraph) (L16 : ((List Int) × (List Int) × (List DVal) × ByteArray × Int × Int) → Option Rt_r_canon) (L12 : ((List Int) × (List Int) × Int) → Option Rt_r_canon) (p : (List Int) × (List Int) × (List DVal) × ByteArray × Int × Int) : Option Rt_r_canon := (cond (iltI p.2.2.2.2.1 (Int.ofNat (List.length p.2.2.1))) (match (jget p.2.2.1 p.2.2.2.2.1) with | .none  => none | .some v0 => (cond (Bool.not (ieqI v0.1 (Int.ofNat 4))) (L16 (p.1, p.2.1, p.2.2.1, p.2.2.2.1, (Go.IntKind.wrap Go.IntKind.i64 (Int.add p.2.2.2.2.1 (Int.ofNat 1))), p.2.2.2.2.2)) (match (jget p.1 v0.2) with | .none  => none | .some v24 => (match (GetElem?.getElem? p.1 (Int.toNat v0.2)) with | .none  => none | .some v25 => (cond (Bool.not (iltI v25 (Int.ofNat 0))) (L16 (p.1, p.2.1, p.2.2.1, p.2.2.2.1, (Go.IntKind.wrap Go.IntKind.i64 (Int.add p.2.2.2.2.1 (Int.ofNat 1))), p.2.2.2.2.2)) (match (jget p.1 v0.2) with | .none  => none | .some v26 => (match (GetElem?.getElem? p.1 (Int.toNat v0.2)) with | .none  => none | .some v27 => (cond (Nat.ble (Nat.mul (Nat.add (List.length p.2.1) 1) 8) 140737488355328) (L16 ((List.set p.1 (Int.toNat v0.2) (Int.ofNat (List.length p.2.1))), (List.append p.2.1 (List.cons v0.2 [])), p.2.2.1, p.2.2.2.1, (Go.IntKind.wrap Go.IntKind.i64 (Int.add p.2.2.2.2.1 (Int.ofNat 1))), p.2.2.2.2.2)) none)))))))) (L12 (p.1, p.2.1, (Go.IntKind.wrap Go.IntKind.i64 (Int.add p.2.2.2.2.2 (Int.ofNat 1))))))
def R_r_canon_21 (lf : Nat) (x1 : DGraph) (L26 : ((List Int) × (List Int) × ByteArray × (List DVal) × Int × (List DVal) × Int × (List DNode)) → Option Rt_r_canon) (L31 : ((List Int) × (List DNode) × Int × (List DVal)) → Option Rt_r_canon) (p : (List Int) × (List Int) × Int × (List DNode)) : Option Rt_r_canon := (cond (iltI p.2.2.1 (Int.ofNat (List.length p.2.1))) (match (jget p.2.1 p.2.2.1) with | .none  => none | .some v0 => (match (GetElem?.getElem? p.2.1 (Int.toNat p.2.2.1)) with | .none  => none | .some v1 => (match (jget x1.1 v1) with | .none  => none | .some v2 => (L26 (p.1, p.2.1, v2.1, v2.2, (Int.ofNat 0), [], p.2.2.1, p.2.2.2))))) (L31 (p.1, p.2.2.2, (Int.ofNat 0), [])))
def R_r_canon_26 (lf : Nat) (x1 : DGraph) (L26 : ((List Int) × (List Int) × ByteArray × (List DVal) × Int × (List DVal) × Int × (List DNode)) → Option Rt_r_canon) (L21 : ((List Int) × (List Int) × Int × (List DNode)) → Option Rt_r_canon) (p : (List Int) × (List Int) × ByteArray × (List DVal) × Int × (List DVal) × Int × (List DNode)) : Option Rt_r_canon := (cond (iltI p.2.2.2.2.1 (Int.ofNat (List.length p.2.2.2.1))) (match (jget p.2.2.2.1 p.2.2.2.2.1) with | .none  => none | .some v0 => (cond (ieqI v0.1 (Int.ofNat 4)) (match (jget p.1 v0.2) with | .none  => none | .some v1 => (match (GetElem?.getElem? p.1 (Int.toNat v0.2)) with | .none  => none | .some v2 => (cond (Nat.ble (Nat.mul (Nat.add (List.length p.2.2.2.2.2.1) 1) 16) 140737488355328) (L26 (p.1, p.2.1, p.2.2.1, p.2.2.2.1, (Go.IntKind.wrap Go.IntKind.i64 (Int.add p.2.2.2.2.1 (Int.ofNat 1))), (List.append p.2.2.2.2.2.1 (List.cons (v0.1, v2) [])), p.2.2.2.2.2.2.1, p.2.2.2.2.2.2.2)) none))) (cond (Nat.ble (Nat.mul (Nat.add (List.length p.2.2.2.2.2.1) 1) 16) 140737488355328) (L26 (p.1, p.2.1, p.2.2.1, p.2.2.2.1, (Go.IntKind.wrap Go.IntKind.i64 (Int.add p.2.2.2.2.1 (Int.ofNat 1))), (List.append p.2.2.2.2.2.1 (List.cons (v0.1, v0.2) [])), p.2.2.2.2.2.2.1, p.2.2.2.2.2.2.2)) none))) (cond (Nat.ble (Nat.mul (Nat.add (List.length p.2.2.2.2.2.2.2) 1) 40) 140737488355328) (L21 (p.1, p.2.1, (Go.IntKind.wrap Go.IntKind.i64 (Int.add p.2.2.2.2.2.2.1 (Int.ofNat 1))), (List.append p.2.2.2.2.2.2.2 (List.cons (p.2.2.1, p.2.2.2.2.2.1) [])))) none))
def R_r_canon_31 (lf : Nat) (x1 : DGraph) (L31 : ((List Int) × (List DNode) × Int × (List DVal)) → Option Rt_r_canon) (p : (List Int) × (List DNode) × Int × (List DVal)) : Option Rt_r_canon := (cond (iltI p.2.2.1 (Int.ofNat (List.length x1.2))) (match (jget x1.2 p.2.2.1) with | .none  => none | .some v0 => (cond (ieqI v0.1 (Int.ofNat 4)) (match (jget p.1 v0.2) with | .none  => none | .some v1 => (match (GetElem?.getElem? p.1 (Int.toNat v0.2)) with | .none  => none | .some v2 => (cond (Nat.ble (Nat.mul (Nat.add (List.length p.2.2.2) 1) 16) 140737488355328) (L31 (p.1, p.2.1, (Go.IntKind.wrap Go.IntKind.i64 (Int.add p.2.2.1 (Int.ofNat 1))), (List.append p.2.2.2 (List.cons (v0.1, v2) [])))) none))) (cond (Nat.ble (Nat.mul (Nat.add (List.length p.2.2.2) 1) 16) 140737488355328) (L31 (p.1, p.2.1, (Go.IntKind.wrap Go.IntKind.i64 (Int.add p.2.2.1 (Int.ofNat 1))), (List.append p.2.2.2 (List.cons (v0.1, v0.2) [])))) none))) (some (((p.2.1, p.2.2.2), (p.1, (Int.ofNat 0))), ())))
theorem in_r_canon (g : ElA [cGraph] → Option Rt_r_canon) (J : Nat → List Nat → NRes → Option Rt_r_canon) (lf : Nat) (x1 : DGraph) : icodeT Try.prog ttT.get nm_r_canon fi67.nt (cl_r_canon _ lf) lf st_r_canon J fi67.body [] (argGo (argV [cGraph] (x1, ())) 0 .leaf) S0 [] (lastK ttT.get fi67 ⟨[cGraph], [(false, cR22Graphed)], g⟩) = R_r_canon_in lf x1 (fun q => J 3 [lf] (enc_r_canon_3 x1 q)) := by kernel_rfl
theorem st_r_canon_3 (g : ElA [cGraph] → Option Rt_r_canon) (J : Nat → List Nat → NRes → Option Rt_r_canon) (lf : Nat) (x1 : DGraph) (m1 : Nat) (p : Int × (List Int)) : icodeFT Try.prog ttT.get nm_r_canon fi67.nt (cl_r_canon _ lf) lf st_r_canon J 3 fi67.body [] [m1] (enc_r_canon_3 x1 p) (lastK ttT.get fi67 ⟨[cGraph], [(false, cR22Graphed)], g⟩) = R_r_canon_3 lf x1 (fun q => J 3 [m1] (enc_r_canon_3 x1 q)) (fun q => J 8 [lf] (enc_r_canon_8 x1 q)) p := by kernel_rfl
theorem st_r_canon_8 (g : ElA [cGraph] → Option Rt_r_canon) (J : Nat → List Nat → NRes → Option Rt_r_canon) (lf : Nat) (x1 : DGraph) (m1 : Nat) (p : (List Int) × Int × (List Int)) : icodeFT Try.prog ttT.get nm_r_canon fi67.nt (cl_r_canon _ lf) lf st_r_canon J 8 fi67.body [] [m1] (enc_r_canon_8 x1 p) (lastK ttT.get fi67 ⟨[cGraph], [(false, cR22Graphed)], g⟩) = R_r_canon_8 lf x1 (fun q => J 8 [m1] (enc_r_canon_8 x1 q)) (fun q => J 12 [lf] (enc_r_canon_12 x1 q)) p := by kernel_rfl
theorem st_r_canon_12 (g : ElA [cGraph] → Option Rt_r_canon) (J : Nat → List Nat → NRes → Option Rt_r_canon) (lf : Nat) (x1 : DGraph) (m1 : Nat) (p : (List Int) × (List Int) × Int) : icodeFT Try.prog ttT.get nm_r_canon fi67.nt (cl_r_canon _ lf) lf st_r_canon J 12 fi67.body [] [m1] (enc_r_canon_12 x1 p) (lastK ttT.get fi67 ⟨[cGraph], [(false, cR22Graphed)], g⟩) = R_r_canon_12 lf x1 (fun q => J 16 [m1, lf] (enc_r_canon_16 x1 q)) (fun q => J 21 [lf] (enc_r_canon_21 x1 q)) p := by kernel_rfl
theorem st_r_canon_16 (g : ElA [cGraph] → Option Rt_r_canon) (J : Nat → List Nat → NRes → Option Rt_r_canon) (lf : Nat) (x1 : DGraph) (m1 : Nat) (m2 : Nat) (p : (List Int) × (List Int) × (List DVal) × ByteArray × Int × Int) : icodeFT Try.prog ttT.get nm_r_canon fi67.nt (cl_r_canon _ lf) lf st_r_canon J 16 fi67.body [] [m1, m2] (enc_r_canon_16 x1 p) (lastK ttT.get fi67 ⟨[cGraph], [(false, cR22Graphed)], g⟩) = R_r_canon_16 lf x1 (fun q => J 16 [m1, m2] (enc_r_canon_16 x1 q)) (fun q => J 12 [m1] (enc_r_canon_12 x1 q)) p := by kernel_rfl
theorem st_r_canon_21 (g : ElA [cGraph] → Option Rt_r_canon) (J : Nat → List Nat → NRes → Option Rt_r_canon) (lf : Nat) (x1 : DGraph) (m1 : Nat) (p : (List Int) × (List Int) × Int × (List DNode)) : icodeFT Try.prog ttT.get nm_r_canon fi67.nt (cl_r_canon _ lf) lf st_r_canon J 21 fi67.body [] [m1] (enc_r_canon_21 x1 p) (lastK ttT.get fi67 ⟨[cGraph], [(false, cR22Graphed)], g⟩) = R_r_canon_21 lf x1 (fun q => J 26 [m1, lf] (enc_r_canon_26 x1 q)) (fun q => J 31 [lf] (enc_r_canon_31 x1 q)) p := by kernel_rfl
theorem st_r_canon_26 (g : ElA [cGraph] → Option Rt_r_canon) (J : Nat → List Nat → NRes → Option Rt_r_canon) (lf : Nat) (x1 : DGraph) (m1 : Nat) (m2 : Nat) (p : (List Int) × (List Int) × ByteArray × (List DVal) × Int × (List DVal) × Int × (List DNode)) : icodeFT Try.prog ttT.get nm_r_canon fi67.nt (cl_r_canon _ lf) lf st_r_canon J 26 fi67.body [] [m1, m2] (enc_r_canon_26 x1 p) (lastK ttT.get fi67 ⟨[cGraph], [(false, cR22Graphed)], g⟩) = R_r_canon_26 lf x1 (fun q => J 26 [m1, m2] (enc_r_canon_26 x1 q)) (fun q => J 21 [m1] (enc_r_canon_21 x1 q)) p := by kernel_rfl
theorem st_r_canon_31 (g : ElA [cGraph] → Option Rt_r_canon) (J : Nat → List Nat → NRes → Option Rt_r_canon) (lf : Nat) (x1 : DGraph) (m1 : Nat) (p : (List Int) × (List DNode) × Int × (List DVal)) : icodeFT Try.prog ttT.get nm_r_canon fi67.nt (cl_r_canon _ lf) lf st_r_canon J 31 fi67.body [] [m1] (enc_r_canon_31 x1 p) (lastK ttT.get fi67 ⟨[cGraph], [(false, cR22Graphed)], g⟩) = R_r_canon_31 lf x1 (fun q => J 31 [m1] (enc_r_canon_31 x1 q)) p := by kernel_rfl
theorem nd_r_canon : (regs fi67.body).Nodup := by decide +kernel
theorem ok_r_canon : okC nm_r_canon st_r_canon hd_r_canon fi67.body none = true := by kernel_rfl
def A_r_canon (g : ElA [cGraph] → Option Rt_r_canon) (lf : Nat) : Nat → List Nat → NRes → Option Rt_r_canon := atN Try.prog ttT.get nm_r_canon fi67 ⟨[cGraph], [(false, cR22Graphed)], g⟩ (cl_r_canon _ lf) lf hd_r_canon
def G_r_canon_16 (lf : Nat) (x1 : DGraph) (K12 : ((List Int) × (List Int) × Int) → Option Rt_r_canon) : Nat → ((List Int) × (List Int) × (List DVal) × ByteArray × Int × Int) → Option Rt_r_canon := rounds fun K p => R_r_canon_16 lf x1 K K12 p
theorem at_r_canon_16 (g : ElA [cGraph] → Option Rt_r_canon) (lf : Nat) (x1 : DGraph) (m1 : Nat) : ∀ (n : Nat) (p : (List Int) × (List Int) × (List DVal) × ByteArray × Int × Int), A_r_canon g lf 16 [m1, n] (enc_r_canon_16 x1 p) = G_r_canon_16 lf x1 (fun q => A_r_canon g lf 12 [m1] (enc_r_canon_12 x1 q)) n p
  | 0, p => atN_zero 16 [m1, 0] rfl _
  | n + 1, p => by
    have ih := at_r_canon_16 g lf x1 m1 n
    refine (atN_eq (icallK_eq 20 _) nd_r_canon ok_r_canon 16 [m1, n + 1] [m1, n] rfl _).trans ((st_r_canon_16 g (A_r_canon g lf) lf x1 m1 n p).trans ?_)
    rw [(show (fun q => A_r_canon g lf 16 [m1, n] (enc_r_canon_16 x1 q)) = (fun q => G_r_canon_16 lf x1 (fun q => A_r_canon g lf 12 [m1] (enc_r_canon_12 x1 q)) n q) from funext ih)]
    rfl
def G_r_canon_26 (lf : Nat) (x1 : DGraph) (K21 : ((List Int) × (List Int) × Int × (List DNode)) → Option Rt_r_canon) : Nat → ((List Int) × (List Int) × ByteArray × (List DVal) × Int × (List DVal) × Int × (List DNode)) → Option Rt_r_canon := rounds fun K p => R_r_canon_26 lf x1 K K21 p
theorem at_r_canon_26 (g : ElA [cGraph] → Option Rt_r_canon) (lf : Nat) (x1 : DGraph) (m1 : Nat) : ∀ (n : Nat) (p : (List Int) × (List Int) × ByteArray × (List DVal) × Int × (List DVal) × Int × (List DNode)), A_r_canon g lf 26 [m1, n] (enc_r_canon_26 x1 p) = G_r_canon_26 lf x1 (fun q => A_r_canon g lf 21 [m1] (enc_r_canon_21 x1 q)) n p
  | 0, p => atN_zero 26 [m1, 0] rfl _
  | n + 1, p => by
    have ih := at_r_canon_26 g lf x1 m1 n
    refine (atN_eq (icallK_eq 20 _) nd_r_canon ok_r_canon 26 [m1, n + 1] [m1, n] rfl _).trans ((st_r_canon_26 g (A_r_canon g lf) lf x1 m1 n p).trans ?_)
    rw [(show (fun q => A_r_canon g lf 26 [m1, n] (enc_r_canon_26 x1 q)) = (fun q => G_r_canon_26 lf x1 (fun q => A_r_canon g lf 21 [m1] (enc_r_canon_21 x1 q)) n q) from funext ih)]
    rfl
def G_r_canon_31 (lf : Nat) (x1 : DGraph) : Nat → ((List Int) × (List DNode) × Int × (List DVal)) → Option Rt_r_canon := rounds fun K p => R_r_canon_31 lf x1 K p
theorem at_r_canon_31 (g : ElA [cGraph] → Option Rt_r_canon) (lf : Nat) (x1 : DGraph) : ∀ (n : Nat) (p : (List Int) × (List DNode) × Int × (List DVal)), A_r_canon g lf 31 [n] (enc_r_canon_31 x1 p) = G_r_canon_31 lf x1 n p
  | 0, p => atN_zero 31 [0] rfl _
  | n + 1, p => by
    have ih := at_r_canon_31 g lf x1 n
    refine (atN_eq (icallK_eq 20 _) nd_r_canon ok_r_canon 31 [n + 1] [n] rfl _).trans ((st_r_canon_31 g (A_r_canon g lf) lf x1 n p).trans ?_)
    rw [(show (fun q => A_r_canon g lf 31 [n] (enc_r_canon_31 x1 q)) = (fun q => G_r_canon_31 lf x1 n q) from funext ih)]
    rfl
def G_r_canon_21 (lf : Nat) (x1 : DGraph) : Nat → ((List Int) × (List Int) × Int × (List DNode)) → Option Rt_r_canon := rounds fun K p => R_r_canon_21 lf x1 (fun q => G_r_canon_26 lf x1 K lf q) (fun q => G_r_canon_31 lf x1 lf q) p
theorem at_r_canon_21 (g : ElA [cGraph] → Option Rt_r_canon) (lf : Nat) (x1 : DGraph) : ∀ (n : Nat) (p : (List Int) × (List Int) × Int × (List DNode)), A_r_canon g lf 21 [n] (enc_r_canon_21 x1 p) = G_r_canon_21 lf x1 n p
  | 0, p => atN_zero 21 [0] rfl _
  | n + 1, p => by
    have ih := at_r_canon_21 g lf x1 n
    refine (atN_eq (icallK_eq 20 _) nd_r_canon ok_r_canon 21 [n + 1] [n] rfl _).trans ((st_r_canon_21 g (A_r_canon g lf) lf x1 n p).trans ?_)
    rw [(show (fun q => A_r_canon g lf 26 [n, lf] (enc_r_canon_26 x1 q)) = (fun q => G_r_canon_26 lf x1 (fun q => A_r_canon g lf 21 [n] (enc_r_canon_21 x1 q)) lf q) from funext fun q => at_r_canon_26 g lf x1 n lf q), (show (fun q => A_r_canon g lf 31 [lf] (enc_r_canon_31 x1 q)) = (fun q => G_r_canon_31 lf x1 lf q) from funext fun q => at_r_canon_31 g lf x1 lf q), (show (fun q => A_r_canon g lf 21 [n] (enc_r_canon_21 x1 q)) = (fun q => G_r_canon_21 lf x1 n q) from funext ih)]
    rfl
def G_r_canon_12 (lf : Nat) (x1 : DGraph) : Nat → ((List Int) × (List Int) × Int) → Option Rt_r_canon := rounds fun K p => R_r_canon_12 lf x1 (fun q => G_r_canon_16 lf x1 K lf q) (fun q => G_r_canon_21 lf x1 lf q) p
theorem at_r_canon_12 (g : ElA [cGraph] → Option Rt_r_canon) (lf : Nat) (x1 : DGraph) : ∀ (n : Nat) (p : (List Int) × (List Int) × Int), A_r_canon g lf 12 [n] (enc_r_canon_12 x1 p) = G_r_canon_12 lf x1 n p
  | 0, p => atN_zero 12 [0] rfl _
  | n + 1, p => by
    have ih := at_r_canon_12 g lf x1 n
    refine (atN_eq (icallK_eq 20 _) nd_r_canon ok_r_canon 12 [n + 1] [n] rfl _).trans ((st_r_canon_12 g (A_r_canon g lf) lf x1 n p).trans ?_)
    rw [(show (fun q => A_r_canon g lf 16 [n, lf] (enc_r_canon_16 x1 q)) = (fun q => G_r_canon_16 lf x1 (fun q => A_r_canon g lf 12 [n] (enc_r_canon_12 x1 q)) lf q) from funext fun q => at_r_canon_16 g lf x1 n lf q), (show (fun q => A_r_canon g lf 21 [lf] (enc_r_canon_21 x1 q)) = (fun q => G_r_canon_21 lf x1 lf q) from funext fun q => at_r_canon_21 g lf x1 lf q), (show (fun q => A_r_canon g lf 12 [n] (enc_r_canon_12 x1 q)) = (fun q => G_r_canon_12 lf x1 n q) from funext ih)]
    rfl
def G_r_canon_8 (lf : Nat) (x1 : DGraph) : Nat → ((List Int) × Int × (List Int)) → Option Rt_r_canon := rounds fun K p => R_r_canon_8 lf x1 K (fun q => G_r_canon_12 lf x1 lf q) p
theorem at_r_canon_8 (g : ElA [cGraph] → Option Rt_r_canon) (lf : Nat) (x1 : DGraph) : ∀ (n : Nat) (p : (List Int) × Int × (List Int)), A_r_canon g lf 8 [n] (enc_r_canon_8 x1 p) = G_r_canon_8 lf x1 n p
  | 0, p => atN_zero 8 [0] rfl _
  | n + 1, p => by
    have ih := at_r_canon_8 g lf x1 n
    refine (atN_eq (icallK_eq 20 _) nd_r_canon ok_r_canon 8 [n + 1] [n] rfl _).trans ((st_r_canon_8 g (A_r_canon g lf) lf x1 n p).trans ?_)
    rw [(show (fun q => A_r_canon g lf 12 [lf] (enc_r_canon_12 x1 q)) = (fun q => G_r_canon_12 lf x1 lf q) from funext fun q => at_r_canon_12 g lf x1 lf q), (show (fun q => A_r_canon g lf 8 [n] (enc_r_canon_8 x1 q)) = (fun q => G_r_canon_8 lf x1 n q) from funext ih)]
    rfl
def G_r_canon_3 (lf : Nat) (x1 : DGraph) : Nat → (Int × (List Int)) → Option Rt_r_canon := rounds fun K p => R_r_canon_3 lf x1 K (fun q => G_r_canon_8 lf x1 lf q) p
theorem at_r_canon_3 (g : ElA [cGraph] → Option Rt_r_canon) (lf : Nat) (x1 : DGraph) : ∀ (n : Nat) (p : Int × (List Int)), A_r_canon g lf 3 [n] (enc_r_canon_3 x1 p) = G_r_canon_3 lf x1 n p
  | 0, p => atN_zero 3 [0] rfl _
  | n + 1, p => by
    have ih := at_r_canon_3 g lf x1 n
    refine (atN_eq (icallK_eq 20 _) nd_r_canon ok_r_canon 3 [n + 1] [n] rfl _).trans ((st_r_canon_3 g (A_r_canon g lf) lf x1 n p).trans ?_)
    rw [(show (fun q => A_r_canon g lf 8 [lf] (enc_r_canon_8 x1 q)) = (fun q => G_r_canon_8 lf x1 lf q) from funext fun q => at_r_canon_8 g lf x1 lf q), (show (fun q => A_r_canon g lf 3 [n] (enc_r_canon_3 x1 q)) = (fun q => G_r_canon_3 lf x1 n q) from funext ih)]
    rfl
def F_r_canon (lf : Nat) (x1 : DGraph) : Option Rt_r_canon := R_r_canon_in lf x1 (fun q => G_r_canon_3 lf x1 lf q)
theorem run_r_canon (g : ElA [cGraph] → Option Rt_r_canon) (lf : Nat) (x1 : DGraph) : icodeT Try.prog ttT.get nm_r_canon fi67.nt (cl_r_canon _ lf) lf st_r_canon (A_r_canon g lf) fi67.body [] (argGo (argV [cGraph] (x1, ())) 0 .leaf) S0 [] (lastK ttT.get fi67 ⟨[cGraph], [(false, cR22Graphed)], g⟩) = F_r_canon lf x1 := by
    refine (in_r_canon g (A_r_canon g lf) lf x1).trans ?_
    rw [(show (fun q => A_r_canon g lf 3 [lf] (enc_r_canon_3 x1 q)) = (fun q => G_r_canon_3 lf x1 lf q) from funext fun q => at_r_canon_3 g lf x1 lf q)]
    rfl
theorem hxs_r_canon : HxsOK Try.prog hxl_r_canon := trivial
theorem mk_r_canon {g : ElA [cGraph] → Option Rt_r_canon} (hsm : SmOK Try.prog sml_r_canon) (hg : ∀ (x : ElA [cGraph]) (y : Rt_r_canon), WfA [cGraph] x → g x = some y → ∃ lf, F_r_canon lf x.1 = some y) : Con Try.prog 67 ⟨[cGraph], [(false, cR22Graphed)], g⟩ :=
  conT (nmf := nm_r_canon) (sml := sml_r_canon) (hxl := hxl_r_canon) (st := st_r_canon) (hd := hd_r_canon) 20 mixed ttOK ftOK hsm hxs_r_canon cal67 rfl rfl (by kernel_rfl) (fun x => by kernel_rfl) nd_r_canon ok_r_canon fun x y hx hy => by
    obtain ⟨lf, h⟩ := hg x y hx hy
    exact ⟨lf, (run_r_canon g lf x.1).trans h⟩
end Go.Proofs.Ytcnhjofpmpipfaa

end
end

/- What the reference's canon computes: the package's canonical form. -/
section
set_option linter.unusedVariables false
namespace Go.Proofs.Ytcnhjofpmpipfaa
open Go Go.Sx Go.RowKit Go.Jx
def S.atL (n : Nat) (o : List Int) : List Int := (List.range n).map fun k => S.numOr (S.tab o) (Int.ofNat k)
theorem atL_len (n : Nat) (o : List Int) : (S.atL n o).length = n := by simp [S.atL]
theorem numOr_tab (o : List Int) (k : Int) : S.numOr (S.tab o) k = if k ∈ o then Int.ofNat (o.idxOf k) else -1 := by
  unfold S.numOr; rw [numAt_tab]; split <;> rfl
theorem atL_get? {n : Nat} {o : List Int} {k : Int} (h1 : 0 ≤ k) (h2 : k < Int.ofNat n) : (S.atL n o)[k.toNat]? = some (S.numOr (S.tab o) k) := by
  have hk : k.toNat < n := by have : (n : Int) = Int.ofNat n := rfl; omega
  have e : Int.ofNat k.toNat = k := Int.toNat_of_nonneg h1
  unfold S.atL
  rw [List.getElem?_map, List.getElem?_range hk]
  simp only [Option.map_some, e]
theorem atL_jget {n : Nat} {o : List Int} {k : Int} (h1 : 0 ≤ k) (h2 : k < Int.ofNat n) : jget (S.atL n o) k = some (S.numOr (S.tab o) k) := by
  obtain ⟨x, e1, e2, _⟩ := jget_of (l := S.atL n o) h1 (by rw [atL_len]; exact h2)
  rw [e1, ← e2, atL_get? h1 h2]
theorem atL_neg {o : List Int} {k : Int} : iltI (S.numOr (S.tab o) k) (Int.ofNat 0) = decide (k ∉ o) := by
  rw [iltI_eq, numOr_tab]
  by_cases h : k ∈ o
  · rw [if_pos h]
    have : ¬ (Int.ofNat (o.idxOf k) < Int.ofNat 0) := by
      have : (0 : Int) ≤ Int.ofNat (o.idxOf k) := Int.natCast_nonneg _
      show ¬ (_ < (0 : Int)); omega
    rw [decide_eq_false this, decide_eq_false (Decidable.not_not.2 h)]
  · rw [if_neg h]
    rw [decide_eq_true h]; rfl
theorem atL_set {n : Nat} {o : List Int} {k : Int} (h1 : 0 ≤ k) (h2 : k < Int.ofNat n) (hk : k ∉ o) : (S.atL n o).set k.toNat (Int.ofNat o.length) = S.atL n (o ++ [k]) := by
  have hkn : k.toNat < n := by have : (n : Int) = Int.ofNat n := rfl; omega
  have e : Int.ofNat k.toNat = k := Int.toNat_of_nonneg h1
  refine List.ext_getElem? fun j => ?_
  rw [List.getElem?_set]
  by_cases hj : k.toNat = j
  · subst hj
    rw [if_pos rfl, if_pos (by rw [atL_len]; exact hkn)]
    rw [atL_get? h1 h2, numOr_tab, if_pos (by simp), List.idxOf_append, if_neg hk]
    simp
  · rw [if_neg hj]
    by_cases hjn : j < n
    · have g1 : (0 : Int) ≤ Int.ofNat j := Int.natCast_nonneg _
      have g2 : Int.ofNat j < Int.ofNat n := by show (j : Int) < (n : Int); omega
      have a1 := atL_get? (o := o) g1 g2
      have a2 := atL_get? (o := o ++ [k]) g1 g2
      have e2 : (Int.ofNat j).toNat = j := rfl
      rw [e2] at a1 a2
      rw [a1, a2, numOr_tab, numOr_tab]
      have hne : Int.ofNat j ≠ k := fun h => hj (by rw [← h]; rfl)
      by_cases hm : Int.ofNat j ∈ o
      · rw [if_pos hm, if_pos (List.mem_append_left _ hm), List.idxOf_append, if_pos hm]
      · rw [if_neg hm, if_neg (fun h => by
          rcases List.mem_append.1 h with h | h
          · exact hm h
          · exact hne (List.mem_singleton.1 h))]
    · rw [List.getElem?_eq_none (by rw [atL_len]; omega), List.getElem?_eq_none (by rw [atL_len]; omega)]
theorem atL_nil (n : Nat) : S.atL n [] = List.replicate n (-1) := by
  refine List.ext_getElem? fun j => ?_
  by_cases hj : j < n
  · have a1 := atL_get? (n := n) (o := []) (k := Int.ofNat j) (Int.natCast_nonneg _) (by show (j : Int) < (n : Int); omega)
    have e2 : (Int.ofNat j).toNat = j := rfl
    rw [e2] at a1
    rw [a1, List.getElem?_replicate_of_lt hj, numOr_tab, if_neg (by simp)]
  · rw [List.getElem?_eq_none (by rw [atL_len]; omega), List.getElem?_eq_none (by simp; omega)]
theorem wrap_i {i : Nat} (h : i + 1 < LF) : IntKind.i64.wrap (Int.add (Int.ofNat i) (Int.ofNat 1)) = Int.ofNat (i + 1) := wrap_succ (by omega)
section
variable {g : List DNode × List DVal}
theorem rc_loop3 (L8 : ((List Int) × Int × (List Int)) → Option Rt_r_canon) : ∀ (k i f : Nat), k < f → i + k + 1 < LF → rounds (fun K p => R_r_canon_3 LF g K L8 p) f (Int.ofNat i, List.replicate i (-1) ++ List.replicate k 0) = L8 (List.replicate (i + k) (-1), Int.ofNat 0, [])
  | 0, i, f + 1, hf, hl => by
    show R_r_canon_3 LF g _ L8 _ = _
    have e : (List.replicate i (-1 : Int) ++ List.replicate 0 0) = List.replicate i (-1) := by simp
    simp only [R_r_canon_3, e, List.length_replicate, ilt_self, cond_false, Nat.add_zero]
  | k + 1, i, f + 1, hf, hl => by
    have ih := rc_loop3 L8 k (i + 1) f (by omega) (by omega)
    show R_r_canon_3 LF g (rounds (fun K p => R_r_canon_3 LF g K L8 p) f) L8 _ = _
    generalize rounds (fun K p => R_r_canon_3 LF g K L8 p) f = Z at ih ⊢
    have hlen : (List.replicate i (-1 : Int) ++ List.replicate (k + 1) 0).length = i + (k + 1) := by simp
    have h1 : iltI (Int.ofNat i) (Int.ofNat (List.length (List.replicate i (-1 : Int) ++ List.replicate (k + 1) 0))) = true := by rw [hlen, iltI_eq]; exact decide_eq_true (by show (i : Int) < ((i + (k + 1) : Nat) : Int); omega)
    have h2 : (List.replicate i (-1 : Int) ++ List.replicate (k + 1) 0)[i]? = some 0 := by rw [List.getElem?_append_right (by simp)]; simp
    have h3 : jget (List.replicate i (-1 : Int) ++ List.replicate (k + 1) 0) (Int.ofNat i) = some 0 := by rw [jget_nat, h2]
    have e1 : Int.toNat (Int.ofNat i) = i := rfl
    have h4 : (List.replicate i (-1 : Int) ++ List.replicate (k + 1) 0).set i (Int.negSucc 0) = List.replicate (i + 1) (-1) ++ List.replicate k 0 := by
      rw [List.set_append_right _ _ (by simp), List.length_replicate, Nat.sub_self, List.replicate_succ, List.set_cons_zero, List.replicate_succ', List.append_assoc]; rfl
    simp only [R_r_canon_3, h1, cond_true, h3, e1, h2, h4, wrap_i (show i + 1 < LF by omega)]
    rw [ih, show i + 1 + k = i + (k + 1) by omega]
  | k, i, 0, hf, hl => by omega

theorem room8 {m : Nat} (h : m ≤ 100000) : Nat.ble (Nat.mul (Nat.add m 1) 8) 140737488355328 = true := Nat.ble_eq_true_of_le (by show (m + 1) * 8 ≤ _; omega)
theorem rc_loop8 (hg : GF g) (L12 : ((List Int) × (List Int) × Int) → Option Rt_r_canon) (o : List Int) (ho : OrdOK g.1 o) :
    rounds (fun K p => R_r_canon_8 LF g K L12 p) LF (S.atL g.1.length o, Int.ofNat 0, o) = L12 (S.atL g.1.length (S.meetL o (S.refsL g.2)), S.meetL o (S.refsL g.2), Int.ofNat 0) := by
  have hr60 := hg.roots
  have hn4 := hg.nodes
  refine range0 (α := DVal) (σ := List Int × List Int) (R := Rt_r_canon) g.2 (fun i s => (s.1, i, s.2)) (fun i s => s.1 = S.atL g.1.length s.2 ∧ OrdOK g.1 s.2)
    (fun rest i s => L12 (S.atL g.1.length (S.meetL s.2 (S.refsL rest)), S.meetL s.2 (S.refsL rest), Int.ofNat 0)) (by unfold LF; omega) (fun K s hI => ?_) (fun K i v rest s hI r hk => ?_) (S.atL g.1.length o, o) ⟨rfl, ho⟩
  · simp only [R_r_canon_8, ilt_self, cond_false, S.refsL, S.meetL]
    rw [hI.1]
  · obtain ⟨s1, s2⟩ := s
    obtain ⟨hI1, hI2⟩ := hI
    dsimp only at hI1 hI2
    subst hI1
    have hlen : s2.length ≤ g.1.length := hI2.len
    have hn4 : g.1.length ≤ 400 := hn4
    simp only [R_r_canon_8, r.ilt, cond_true, r.get, r.next]
    by_cases h4 : (v : Int × Int).1 = 4
    · have h5 : ieqI (v : Int × Int).1 (Int.ofNat 4) = true := by rw [ieqI_eq]; exact decide_eq_true h4
      obtain ⟨b1, b2⟩ := hg.rref (v : Int × Int).2 (refsL_mem r.mem h4)
      have e : S.refsL (v :: rest) = (v : Int × Int).2 :: S.refsL rest := by simp only [S.refsL, if_pos h4]
      simp only [h5, Bool.not_true, cond_false, atL_jget b1 b2, atL_get? b1 b2, atL_neg]
      by_cases hm : (v : Int × Int).2 ∈ s2
      · rw [decide_eq_false (Decidable.not_not.2 hm)]
        simp only [Bool.not_false, cond_true]
        have := hk (S.atL g.1.length s2, s2) ⟨rfl, hI2⟩
        rw [this, e]
        simp only [S.meetL, if_pos hm]
      · rw [decide_eq_true hm]
        simp only [Bool.not_true, cond_false, room8 (show s2.length ≤ 100000 by omega), cond_true, atL_set b1 b2 hm]
        have := hk (S.atL g.1.length (s2 ++ [(v : Int × Int).2]), s2 ++ [(v : Int × Int).2]) ⟨rfl, by
          have := hI2.meet (l := [(v : Int × Int).2]) (fun k hk => by rw [List.mem_singleton.1 hk]; exact ⟨b1, b2⟩)
          simpa only [S.meetL, if_neg hm] using this⟩
        refine Eq.trans this ?_
        rw [e]
        simp only [S.meetL, if_neg hm]
    · have h5 : ieqI (v : Int × Int).1 (Int.ofNat 4) = false := by rw [ieqI_eq]; exact decide_eq_false h4
      have e : S.refsL (v :: rest) = S.refsL rest := by simp only [S.refsL, if_neg h4]
      simp only [h5, Bool.not_false, cond_true]
      have := hk (S.atL g.1.length s2, s2) ⟨rfl, hI2⟩
      rw [this, e]
theorem rc_loop16 (hg : GF g) (K12 : ((List Int) × (List Int) × Int) → Option Rt_r_canon) (vs : List (Int × Int)) (hv : vs.length ≤ 400) (hvr : ∀ k ∈ S.refsL vs, 0 ≤ k ∧ k < Int.ofNat g.1.length) (c : ByteArray) (i0 : Int) (o : List Int) (ho : OrdOK g.1 o) :
    rounds (fun K p => R_r_canon_16 LF g K K12 p) LF (S.atL g.1.length o, o, vs, c, Int.ofNat 0, i0) = K12 (S.atL g.1.length (S.meetL o (S.refsL vs)), S.meetL o (S.refsL vs), IntKind.i64.wrap (Int.add i0 (Int.ofNat 1))) := by
  have hn4 := hg.nodes
  refine range0 (α := Int × Int) (σ := List Int × List Int) (R := Rt_r_canon) vs (fun k s => (s.1, s.2, vs, c, k, i0)) (fun i s => s.1 = S.atL g.1.length s.2 ∧ OrdOK g.1 s.2)
    (fun rest i s => K12 (S.atL g.1.length (S.meetL s.2 (S.refsL rest)), S.meetL s.2 (S.refsL rest), IntKind.i64.wrap (Int.add i0 (Int.ofNat 1)))) (by unfold LF; omega) (fun K s hI => ?_) (fun K i v rest s hI r hk => ?_) (S.atL g.1.length o, o) ⟨rfl, ho⟩
  · simp only [R_r_canon_16, ilt_self, cond_false, S.refsL, S.meetL]
    rw [hI.1]
  · obtain ⟨s1, s2⟩ := s
    obtain ⟨hI1, hI2⟩ := hI
    dsimp only at hI1 hI2
    subst hI1
    have hlen : s2.length ≤ g.1.length := hI2.len
    have hn4 : g.1.length ≤ 400 := hn4
    have h1 := r.ilt
    have h2 := r.get
    simp only [R_r_canon_16, h1, cond_true, h2, r.next]
    by_cases h4 : v.1 = 4
    · have h5 : ieqI v.1 (Int.ofNat 4) = true := by rw [ieqI_eq]; exact decide_eq_true h4
      obtain ⟨b1, b2⟩ := hvr v.2 (refsL_mem r.mem h4)
      have e : S.refsL (v :: rest) = v.2 :: S.refsL rest := by simp only [S.refsL, if_pos h4]
      simp only [h5, Bool.not_true, cond_false, atL_jget b1 b2, atL_get? b1 b2, atL_neg]
      by_cases hm : v.2 ∈ s2
      · rw [decide_eq_false (Decidable.not_not.2 hm)]
        simp only [Bool.not_false, cond_true]
        have := hk (S.atL g.1.length s2, s2) ⟨rfl, hI2⟩
        rw [this, e]
        simp only [S.meetL, if_pos hm]
      · rw [decide_eq_true hm]
        simp only [Bool.not_true, cond_false, room8 (show s2.length ≤ 100000 by omega), cond_true, atL_set b1 b2 hm]
        have := hk (S.atL g.1.length (s2 ++ [v.2]), s2 ++ [v.2]) ⟨rfl, by
          have := hI2.meet (l := [v.2]) (fun k hk => by rw [List.mem_singleton.1 hk]; exact ⟨b1, b2⟩)
          simpa only [S.meetL, if_neg hm] using this⟩
        refine Eq.trans this ?_
        rw [e]
        simp only [S.meetL, if_neg hm]
    · have h5 : ieqI v.1 (Int.ofNat 4) = false := by rw [ieqI_eq]; exact decide_eq_false h4
      have e : S.refsL (v :: rest) = S.refsL rest := by simp only [S.refsL, if_neg h4]
      simp only [h5, Bool.not_false, cond_true]
      have := hk (S.atL g.1.length s2, s2) ⟨rfl, hI2⟩
      rw [this, e]
theorem rc_loop12 (hg : GF g) (L21 : ((List Int) × (List Int) × Int × (List DNode)) → Option Rt_r_canon) : ∀ (f n i : Nat) (o : List Int), OrdOK g.1 o → i ≤ o.length →
    g.1.length - i < f → g.1.length - i < n →
    rounds (fun K p => R_r_canon_12 LF g (fun q => G_r_canon_16 LF g K LF q) L21 p) n (S.atL g.1.length o, o, Int.ofNat i) = L21 (S.atL g.1.length (S.walk g.1 f o i), S.walk g.1 f o i, Int.ofNat 0, [])
  | 0, n, i, o, ho, hi, hf, hn => by omega
  | f + 1, 0, i, o, ho, hi, hf, hn => by omega
  | f + 1, n + 1, i, o, ho, hi, hf, hn => by
    have hlen := ho.len
    have hn4 : g.1.length ≤ 400 := hg.nodes
    have ih := rc_loop12 hg L21 f n
    show R_r_canon_12 LF g (fun q => G_r_canon_16 LF g (rounds (fun K p => R_r_canon_12 LF g (fun q => G_r_canon_16 LF g K LF q) L21 p) n) LF q) L21 _ = _
    generalize rounds (fun K p => R_r_canon_12 LF g (fun q => G_r_canon_16 LF g K LF q) L21 p) n = Z at ih ⊢
    by_cases he : i = o.length
    · have h1 : iltI (Int.ofNat i) (Int.ofNat (List.length o)) = false := by rw [he]; exact ilt_self _
      have h2 : o[i]? = none := List.getElem?_eq_none (by omega)
      simp only [R_r_canon_12, h1, cond_false, S.walk, h2]
    · have hlt : i < o.length := by omega
      have h1 : iltI (Int.ofNat i) (Int.ofNat (List.length o)) = true := by rw [iltI_eq]; exact decide_eq_true (by show (i : Int) < (o.length : Int); omega)
      have h2 : o[i]? = some o[i] := List.getElem?_eq_getElem hlt
      have h3 : jget o (Int.ofNat i) = some o[i] := by rw [jget_nat]; exact h2
      obtain ⟨k1, k2⟩ := ho.lt o[i] (List.getElem_mem hlt)
      obtain ⟨v, v1, v2, v3⟩ := jget_of (l := g.1) k1 k2
      have e1 : Int.toNat (Int.ofNat i) = i := rfl
      have hr := hg.ref v v3
      have hv : List.length (α := Int × Int) (v : ByteArray × List DVal).2 ≤ 30 := hg.vals v v3
      have hin := rc_loop16 hg Z (v : ByteArray × List DVal).2 (by omega) hr (v : ByteArray × List DVal).1 (Int.ofNat i) o ho
      have hnext := ih (i + 1) (S.meetL o (S.refsL (v : ByteArray × List DVal).2)) (ho.meet hr) (by have := meetL_len (S.refsL (v : ByteArray × List DVal).2) o; omega) (by omega) (by omega)
      simp only [R_r_canon_12, h1, cond_true, h3, e1, h2, v1, S.walk]
      refine Eq.trans hin ?_
      rw [wrap_i (show i + 1 < LF by unfold LF; omega)]
      exact hnext
end
end Go.Proofs.Ytcnhjofpmpipfaa
end

/- The contract of the reference's canon. -/
section
set_option linter.unusedVariables false
namespace Go.Proofs.Ytcnhjofpmpipfaa
open Go Go.Sx Go.RowKit Go.Jx
section
variable {g : List DNode × List DVal}
theorem room16 {m : Nat} (h : m ≤ 100000) : Nat.ble (Nat.mul (Nat.add m 1) 16) 140737488355328 = true := Nat.ble_eq_true_of_le (by show (m + 1) * 16 ≤ _; omega)
theorem room40 {m : Nat} (h : m ≤ 100000) : Nat.ble (Nat.mul (Nat.add m 1) 40) 140737488355328 = true := Nat.ble_eq_true_of_le (by show (m + 1) * 40 ≤ _; omega)
theorem movedV_at {o : List Int} {v : Int × Int} (h4 : v.1 = 4) (hm : v.2 ∈ o) : S.movedV (S.tab o) v = (v.1, S.numOr (S.tab o) v.2) := by
  have h : (v : Int × Int).1 = 4 := h4
  unfold S.movedV; rw [if_pos h, numOr_tab, numAt_tab, if_pos hm, if_pos hm]; rfl
theorem movedV_no {o : List Int} {v : Int × Int} (h4 : v.1 ≠ 4) : S.movedV (S.tab o) v = (v.1, v.2) := by
  unfold S.movedV; rw [if_neg h4]
theorem rc_loop26 (K21 : ((List Int) × (List Int) × Int × (List DNode)) → Option Rt_r_canon) (n : Nat) (o : List Int) (ho : ∀ k ∈ o, 0 ≤ k ∧ k < Int.ofNat n) (c : ByteArray) (vs : List (Int × Int)) (hv : vs.length ≤ 400) (hvr : ∀ k ∈ S.refsL vs, k ∈ o) (i0 : Int) (acc : List DNode) (ha : acc.length ≤ 1000) :
    rounds (fun K p => R_r_canon_26 LF g K K21 p) LF (S.atL n o, o, c, vs, Int.ofNat 0, [], i0, acc) = K21 (S.atL n o, o, IntKind.i64.wrap (Int.add i0 (Int.ofNat 1)), acc ++ [((c, S.movedL (S.tab o) vs) : ByteArray × List DVal)]) := by
  refine (range0 (α := Int × Int) (σ := List DVal) (R := Rt_r_canon) vs (fun k s => (S.atL n o, o, c, vs, k, s, i0, acc)) (fun i s => s.length = i)
    (fun rest i s => K21 (S.atL n o, o, IntKind.i64.wrap (Int.add i0 (Int.ofNat 1)), acc ++ [((c, s ++ S.movedL (S.tab o) rest) : ByteArray × List DVal)])) (by unfold LF; omega) (fun K s hI => ?_) (fun K i v rest s hI r hk => ?_) [] rfl).trans ?_
  · simp only [R_r_canon_26, ilt_self, cond_false, room40 (show acc.length ≤ 100000 by omega), cond_true]
    have : s ++ S.movedL (S.tab o) [] = s := by simp [S.movedL]
    rw [this]; rfl
  · have h1 := r.ilt
    have h2 := r.get
    have hlt := r.lt
    simp only [R_r_canon_26, h1, cond_true, h2, r.next, room16 (show s.length ≤ 100000 by omega)]
    have hstep : S.movedL (S.tab o) (v :: rest) = S.movedV (S.tab o) v :: S.movedL (S.tab o) rest := rfl
    by_cases h4 : v.1 = 4
    · have h5 : ieqI v.1 (Int.ofNat 4) = true := by rw [ieqI_eq]; exact decide_eq_true h4
      have hm := hvr v.2 (refsL_mem r.mem h4)
      obtain ⟨b1, b2⟩ := ho v.2 hm
      simp only [h5, cond_true, atL_jget b1 b2, atL_get? b1 b2]
      have := hk (s.append [(v.1, S.numOr (S.tab o) v.2)]) (by simp [hI])
      refine Eq.trans this ?_
      rw [hstep, movedV_at h4 hm]
      simp [List.append_assoc]
    · have h5 : ieqI v.1 (Int.ofNat 4) = false := by rw [ieqI_eq]; exact decide_eq_false h4
      simp only [h5, cond_false]
      have := hk (s.append [(v.1, v.2)]) (by simp [hI])
      refine Eq.trans this ?_
      rw [hstep, movedV_no h4]
      simp [List.append_assoc]
  · simp
theorem rc_loop21 (hg : GF g) (L31 : ((List Int) × (List DNode) × Int × (List DVal)) → Option Rt_r_canon) (o : List Int) (ho : OrdOK g.1 o) (hc : Closed g.1 o) :
    rounds (fun K p => R_r_canon_21 LF g (fun q => G_r_canon_26 LF g K LF q) L31 p) LF (S.atL g.1.length o, o, Int.ofNat 0, []) = L31 (S.atL g.1.length o, o.map (S.newNode g.1 (S.tab o)), Int.ofNat 0, []) := by
  have hn4 : g.1.length ≤ 400 := hg.nodes
  have hlen := ho.len
  refine (range0 (R := Rt_r_canon) (σ := List DNode) o (fun k s => (S.atL g.1.length o, o, k, s)) (fun k s => s.length = k) (fun rest k s => L31 (S.atL g.1.length o, s ++ rest.map (S.newNode g.1 (S.tab o)), Int.ofNat 0, [])) (by unfold LF; omega) (fun K s hI => ?_) (fun K i v rest s hI r hk => ?_) [] rfl).trans ?_
  · simp only [R_r_canon_21, ilt_self, cond_false, List.map_nil, List.append_nil]
  · obtain ⟨k1, k2⟩ := ho.lt v r.mem
    obtain ⟨n, n1, n2, n3⟩ := jget_of (l := g.1) k1 k2
    have e1 : Int.toNat (Int.ofNat i) = i := rfl
    have hlt := r.lt
    have hna : S.nodeAt g.1 v = n := by unfold S.nodeAt; rw [n1]; rfl
    have hv : List.length (α := DVal) (n : ByteArray × List DVal).2 ≤ 30 := hg.vals n n3
    have hcl := hc v r.mem
    rw [hna] at hcl
    have hin := rc_loop26 (g := g) K g.1.length o ho.lt (n : ByteArray × List DVal).1 (n : ByteArray × List DVal).2 (by show List.length (α := DVal) (n : ByteArray × List DVal).2 ≤ 400; omega) hcl (Int.ofNat i) s (by omega)
    simp only [R_r_canon_21, r.ilt, cond_true, r.get, e1, r.get?, n1]
    refine Eq.trans hin ?_
    rw [r.next]
    have hnew : S.newNode g.1 (S.tab o) v = (((n : ByteArray × List DVal).1, S.movedL (S.tab o) (n : ByteArray × List DVal).2) : ByteArray × List DVal) := by
      unfold S.newNode; rw [hna]
    have := hk (s ++ [S.newNode g.1 (S.tab o) v]) (by rw [List.length_append, hI]; rfl)
    rw [hnew] at this
    refine Eq.trans this ?_
    rw [List.map_cons, hnew]
    congr 2
    simp
  · rfl
theorem rc_loop31 (hg : GF g) (n : Nat) (o : List Int) (ho : ∀ k ∈ o, 0 ≤ k ∧ k < Int.ofNat n) (hc : ∀ k ∈ S.refsL g.2, k ∈ o) (acc : List DNode) :
    rounds (fun K p => R_r_canon_31 LF g K p) LF (S.atL n o, acc, Int.ofNat 0, []) = some (((acc, S.movedL (S.tab o) g.2), (S.atL n o, Int.ofNat 0)), ()) := by
  have hr60 : g.2.length ≤ 60 := hg.roots
  refine (range0 (α := Int × Int) (σ := List DVal) (R := Rt_r_canon) g.2 (fun k s => (S.atL n o, acc, k, s)) (fun i s => s.length = i)
    (fun rest i s => some (((acc, s ++ S.movedL (S.tab o) rest), (S.atL n o, Int.ofNat 0)), ())) (by unfold LF; omega) (fun K s hI => ?_) (fun K i v rest s hI r hk => ?_) [] rfl).trans ?_
  · simp only [R_r_canon_31, ilt_self, cond_false]
    have : s ++ S.movedL (S.tab o) [] = s := by simp [S.movedL]
    rw [this]
  · have h1 := r.ilt
    have h2 := r.get
    have hlt := r.lt
    simp only [R_r_canon_31, h1, cond_true, h2, r.next, room16 (show s.length ≤ 100000 by omega)]
    have hstep : S.movedL (S.tab o) (v :: rest) = S.movedV (S.tab o) v :: S.movedL (S.tab o) rest := rfl
    by_cases h4 : v.1 = 4
    · have h5 : ieqI v.1 (Int.ofNat 4) = true := by rw [ieqI_eq]; exact decide_eq_true h4
      have hm := hc v.2 (refsL_mem r.mem h4)
      obtain ⟨b1, b2⟩ := ho v.2 hm
      simp only [h5, cond_true, atL_jget b1 b2, atL_get? b1 b2]
      have := hk (s.append [(v.1, S.numOr (S.tab o) v.2)]) (by simp [hI])
      refine Eq.trans this ?_
      rw [hstep, movedV_at h4 hm]
      simp [List.append_assoc]
    · have h5 : ieqI v.1 (Int.ofNat 4) = false := by rw [ieqI_eq]; exact decide_eq_false h4
      simp only [h5, cond_false]
      have := hk (s.append [(v.1, v.2)]) (by simp [hI])
      refine Eq.trans this ?_
      rw [hstep, movedV_no h4]
      simp [List.append_assoc]
  · simp
theorem F_r_canon_eq (hf : S.formed g = 0) : F_r_canon LF g = some ((S.canonG g, (S.numsG g, Int.ofNat 0)), ()) := by
  have hg := gf_of hf
  obtain ⟨c1, c2, c3⟩ := ord_closed hg
  have hn4 : g.1.length ≤ 400 := hg.nodes
  have h0 : iltI (Int.ofNat g.1.length) (Int.ofNat 0) = false := by rw [iltI_eq]; exact decide_eq_false (by show ¬ ((g.1.length : Int) < 0); omega)
  have hb : Nat.ble (Nat.mul (Int.toNat (Int.ofNat g.1.length)) 8) 140737488355328 = true := Nat.ble_eq_true_of_le (by show g.1.length * 8 ≤ _; omega)
  have hrep : S.rep (Int.ofNat g.1.length) (Int.ofNat 0) = List.replicate g.1.length 0 := rfl
  have e3 := rc_loop3 (g := g) (fun q => G_r_canon_8 LF g LF q) g.1.length 0 LF (by unfold LF; omega) (by unfold LF; omega)
  have e8 := rc_loop8 hg (fun q => G_r_canon_12 LF g LF q) [] ⟨List.nodup_nil, fun k hk => by cases hk⟩
  have ho0 : OrdOK g.1 (S.meetL [] (S.refsL g.2)) := OrdOK.meet ⟨List.nodup_nil, fun k hk => by cases hk⟩ hg.rref
  have e12 := rc_loop12 hg (fun q => G_r_canon_21 LF g LF q) (g.1.length + 1) LF 0 _ ho0 (Nat.zero_le _) (by omega) (by unfold LF; omega)
  have e21 := rc_loop21 hg (fun q => G_r_canon_31 LF g LF q) (S.ord g) c1 c2
  have e31 := rc_loop31 hg g.1.length (S.ord g) c1.lt c3 ((S.ord g).map (S.newNode g.1 (S.tab (S.ord g))))
  have e : (List.replicate 0 (-1 : Int) ++ List.replicate g.1.length 0) = List.replicate g.1.length 0 := rfl
  rw [e, Nat.zero_add, ← atL_nil] at e3
  simp only [F_r_canon, R_r_canon_in, h0, cond_false, hb, cond_true, hrep]
  exact e3.trans (e8.trans (e12.trans (e21.trans e31)))
end
theorem con_r_canon : Con Try.prog id_r_canon sp_r_canon := mk_r_canon trivial fun x y hx h => ⟨LF, by
  obtain ⟨g, _⟩ := x
  have h : cond (ieqI (S.formed g) (Int.ofNat 0)) (some ((S.canonG g, S.numsG g, Int.ofNat 0), ())) none = some y := h
  by_cases hf : S.formed g = 0
  · rw [show ieqI (S.formed g) (Int.ofNat 0) = true by rw [ieqI_eq]; exact decide_eq_true hf] at h
    exact (F_r_canon_eq (g := g) hf).trans h
  · rw [show ieqI (S.formed g) (Int.ofNat 0) = false by rw [ieqI_eq]; exact decide_eq_false hf] at h
    cases h⟩
end Go.Proofs.Ytcnhjofpmpipfaa
end

/- Contracts of Encode: both sides. -/
section
set_option linter.unusedVariables false
namespace Go.Proofs.Ytcnhjofpmpipfaa
open Go Go.Sx Go.RowKit Go.Jx
section
variable {l : List DForm} {x2 : DGraph} {G : List DNode × List DVal}
end
/-! ### The reference -/
section
variable {l : List DForm} {x2 : DGraph} {G : List DNode × List DVal}
end
end Go.Proofs.Ytcnhjofpmpipfaa
end

/- Contracts of Join: both sides. -/
section
set_option linter.unusedVariables false
namespace Go.Proofs.Ytcnhjofpmpipfaa
open Go Go.Sx Go.RowKit Go.Jx
theorem pj1_loop (l : List (Int × Int)) (m : Int) (hl : l.length < LF) : rounds (fun K p => R_p_Join_1_3 LF l m K p) LF (Int.ofNat 0, l) = some (S.byL l m, ()) := by
  refine range0 (α := Int × Int) (σ := List (Int × Int)) (R := Rt_p_Join_1) l (fun i s => (i, s)) (fun i s => s = (l.take i).map (S.byV m) ++ l.drop i) (fun _ _ _ => some (S.byL l m, ())) hl (fun K s hs => ?_) (fun K i v rest s hs r hk => ?_) l rfl
  · simp only [R_p_Join_1_3, ilt_self, cond_false]
    rw [hs, List.take_length, List.drop_length, List.append_nil]; rfl
  · have hlen : ((l.take i).map (S.byV m)).length = i := by rw [List.length_map, List.length_take]; have := r.lt; omega
    have hs2 : s = (l.take i).map (S.byV m) ++ v :: rest := by rw [hs, r.drop]
    have hg : s[i]? = some v := by rw [hs2, List.getElem?_append_right (by omega), hlen, Nat.sub_self]; rfl
    have hj : jget s (Int.ofNat i) = some v := by rw [jget_nat]; exact hg
    have hset : ∀ v', v' = S.byV m v → (s.set i v') = (l.take (i + 1)).map (S.byV m) ++ l.drop (i + 1) := fun v' hv => by
      rw [hs2, List.set_append_right _ _ (by omega), hlen, Nat.sub_self, r.tail, r.take, List.map_append, List.set_cons_zero, hv]
      simp
    have hsame : S.byV m v = v → s = (l.take (i + 1)).map (S.byV m) ++ l.drop (i + 1) := fun hv => by
      rw [hs2, r.tail, r.take, List.map_append]
      simp [hv]
    have e2 : Int.toNat (Int.ofNat i) = i := rfl
    have h1 := r.ilt
    simp only [R_p_Join_1_3, h1, cond_true, hj, e2, hg, r.next]
    by_cases h4 : v.1 = 4
    · have h5 : ieqI v.1 (Int.ofNat 4) = true := by rw [ieqI_eq]; exact decide_eq_true h4
      simp only [h5, cond_true]
      exact hk _ (hset _ (by unfold S.byV; rw [if_pos h4]))
    · have h5 : ieqI v.1 (Int.ofNat 4) = false := by rw [ieqI_eq]; exact decide_eq_false h4
      simp only [h5, cond_false]
      exact hk _ (hsame (by unfold S.byV; rw [if_neg h4]))
theorem F_p_Join_1_eq (l : List (Int × Int)) (m : Int) (hl : l.length < LF) : F_p_Join_1 LF l m = some (S.byL l m, ()) := by
  simp only [F_p_Join_1, R_p_Join_1_in, G_p_Join_1_3]; exact pj1_loop l m hl
theorem con_p_Join_1 : Con Try.prog id_p_Join_1 sp_p_Join_1 := mk_p_Join_1 ⟨con_slices_CloneO_Val, trivial⟩ fun x y hx h => ⟨LF, (F_p_Join_1_eq x.1 x.2.1 (wf_len hx.1)).trans h⟩
theorem flat_take {α : Type} {l : List (List α)} {i : Nat} {v : List α} {rest : List (List α)} (r : Rnd l i v rest) : (l.take (i + 1)).flatten = (l.take i).flatten ++ v := by
  rw [r.take, List.flatten_append]; simp
theorem flat_le {α : Type} {l : List (List α)} {i : Nat} {v : List α} {rest : List (List α)} (r : Rnd l i v rest) : (l.take i).flatten.length + v.length ≤ l.flatten.length := by
  have e : l = l.take (i + 1) ++ l.drop (i + 1) := (List.take_append_drop _ _).symm
  have : l.flatten = (l.take (i + 1)).flatten ++ (l.drop (i + 1)).flatten := by rw [← List.flatten_append, ← e]
  rw [this, List.length_append, flat_take r, List.length_append]; omega
theorem concat3 (l : List (List (Int × Int))) (hl : l.length < LF) (hf : l.flatten.length ≤ 1000000) (L11 : (Int × (List DVal)) → Option Rt_slices_Concat_Val) :
    rounds (fun K p => R_slices_Concat_Val_3 LF l K L11 p) LF (Int.ofNat 0, Int.ofNat 0) = L11 (Int.ofNat 0, []) := by
  refine range0 (α := List (Int × Int)) (σ := Int) (R := Rt_slices_Concat_Val) l (fun i s => (s, i)) (fun i s => s = Int.ofNat (l.take i).flatten.length) (fun _ _ _ => L11 (Int.ofNat 0, [])) hl (fun K s hs => ?_) (fun K i v rest s hs r hk => ?_) (Int.ofNat 0) rfl
  · have hg : S.growOK s = true := by
      rw [List.take_length] at hs
      unfold S.growOK
      rw [hs, decide_eq_true (show (0 : Int) ≤ Int.ofNat l.flatten.length from Int.natCast_nonneg _), decide_eq_true (by show (l.flatten.length : Int) ≤ 1000000; omega)]; rfl
    simp only [R_slices_Concat_Val_3, ilt_self, cond_false, hg, cond_true]
  · have hle := flat_le r
    have h1 := r.ilt
    have h2 := r.get
    have hw : IntKind.i64.wrap (Int.add s (Int.ofNat v.length)) = Int.ofNat (l.take (i + 1)).flatten.length := by
      rw [hs, flat_take r, List.length_append]
      exact w64 (n := Int.ofNat ((l.take i).flatten.length + v.length)) (by show _ ≤ (((l.take i).flatten.length + v.length : Nat) : Int); omega) (by show (((l.take i).flatten.length + v.length : Nat) : Int) ≤ _; omega)
    have h3 : iltI (Int.ofNat (l.take (i + 1)).flatten.length) (Int.ofNat 0) = false := by rw [iltI_eq]; exact decide_eq_false (by show ¬ (((l.take (i + 1)).flatten.length : Nat) : Int) < 0; omega)
    simp only [R_slices_Concat_Val_3, h1, cond_true, h2, hw, h3, cond_false, r.next]
    exact hk _ rfl
theorem concat11 (l : List (List (Int × Int))) (hl : l.length < LF) (hf : l.flatten.length ≤ 1000000) :
    rounds (fun K p => R_slices_Concat_Val_11 LF l K p) LF (Int.ofNat 0, []) = some (l.flatten, ()) := by
  refine range0 (α := List (Int × Int)) (σ := List (Int × Int)) (R := Rt_slices_Concat_Val) l (fun i s => (i, s)) (fun i s => s = (l.take i).flatten) (fun _ _ _ => some (l.flatten, ())) hl (fun K s hs => ?_) (fun K i v rest s hs r hk => ?_) [] rfl
  · simp only [R_slices_Concat_Val_11, ilt_self, cond_false]
    rw [hs, List.take_length]
  · have hle := flat_le r
    have h1 := r.ilt
    have h2 := r.get
    have hb : Nat.ble (Nat.mul (Nat.add s.length v.length) 16) 140737488355328 = true := Nat.ble_eq_true_of_le (by show (s.length + v.length) * 16 ≤ _; rw [hs]; omega)
    simp only [R_slices_Concat_Val_11, h1, cond_true, h2, hb, r.next]
    exact hk _ (by rw [hs, flat_take r]; rfl)
theorem F_slices_Concat_Val_eq (l : List (List (Int × Int))) (hl : l.length < LF) (hf : l.flatten.length ≤ 1000000) : F_slices_Concat_Val LF l = some (l.flatten, ()) := by
  have e11 : G_slices_Concat_Val_11 LF l LF (Int.ofNat 0, []) = some (l.flatten, ()) := concat11 l hl hf
  have e3 : G_slices_Concat_Val_3 LF l LF (Int.ofNat 0, Int.ofNat 0) = G_slices_Concat_Val_11 LF l LF (Int.ofNat 0, []) := concat3 l hl hf (fun q => G_slices_Concat_Val_11 LF l LF q)
  exact e3.trans e11
theorem con_slices_Concat_Val : Con Try.prog id_slices_Concat_Val sp_slices_Concat_Val := mk_slices_Concat_Val trivial fun x y hx h => ⟨LF, by
  obtain ⟨l, _⟩ := x
  have h : cond (Nat.ble (List.length (List.flatten (α := DVal) l)) 1000000) (some (List.flatten (α := DVal) l, ())) none = some y := h
  have hl : List.length (α := List (Int × Int)) l < LF := wf_len hx.1
  cases hk : Nat.ble (List.length (List.flatten (α := DVal) l)) 1000000 with
  | false => rw [hk] at h; cases h
  | true =>
    rw [hk] at h
    exact (F_slices_Concat_Val_eq l hl (Nat.le_of_ble_eq_true hk)).trans h⟩
/-! ### Values that are not moved -/
theorem val_rng {m : Nat} (hm : m ≤ 400) {v : Int × Int} (h : S.value v (Int.ofNat m) = true) : -1099511627776 ≤ v.2 ∧ v.2 ≤ 1099511627776 := by
  rcases (value_iff hm v).1 h with ⟨_, b, c⟩ | ⟨_, b, c⟩ | ⟨_, b⟩ | ⟨_, b, c⟩
  · exact ⟨b, c⟩
  · have b : 0 ≤ v.2 := b
    have c : v.2 ≤ 1 := c
    omega
  · have b : v.2 = 0 := b
    omega
  · have b : 0 ≤ v.2 := b
    have c : v.2 < (m : Int) := c
    omega
theorem byL_zero : ∀ (l : List (Int × Int)), (∀ v ∈ l, -1099511627776 ≤ v.2 ∧ v.2 ≤ 1099511627776) → S.byL l (Int.ofNat 0) = l
  | [], _ => rfl
  | v :: l, h => by
    obtain ⟨h1, h2⟩ := h v (List.mem_cons_self ..)
    have ih := byL_zero l fun w hw => h w (List.mem_cons_of_mem _ hw)
    show S.byV (Int.ofNat 0) v :: S.byL l (Int.ofNat 0) = _
    rw [ih]
    congr 1
    unfold S.byV
    have e : Int.add v.2 (Int.ofNat 0) = v.2 := Int.add_zero _
    rw [e, w64 (by omega) (by omega)]
    split <;> rfl
theorem byL_len (l : List (Int × Int)) (m : Int) : (S.byL l m).length = l.length := List.length_map _
section
variable {a b : List (ByteArray × List (Int × Int)) × List (Int × Int)}
theorem pj_loop9 (ha : a.1.length ≤ 400) (hv : ∀ n ∈ a.1, ∀ v ∈ n.2, -1099511627776 ≤ v.2 ∧ v.2 ≤ 1099511627776) (L14 : ((List DVal) × (List DNode) × Int) → Option Rt_p_Join) (rs : List DVal) :
    rounds (fun K p => R_p_Join_9 LF a b K L14 p) LF (rs, Int.ofNat 0, []) = L14 (rs, a.1, Int.ofNat 0) := by
  refine range0 (α := ByteArray × List (Int × Int)) (σ := List DNode) (R := Rt_p_Join) a.1 (fun i s => (rs, i, s)) (fun i s => s = a.1.take i) (fun _ _ _ => L14 (rs, a.1, Int.ofNat 0)) (by unfold LF; omega) (fun K s hs => ?_) (fun K i v rest s hs r hk => ?_) [] rfl
  · simp only [R_p_Join_9, ilt_self, cond_false]
    rw [hs, List.take_length]
  · have h1 := r.ilt
    have h2 := r.get
    have hlt := r.lt
    have hb := room40 (m := s.length) (by rw [hs, List.length_take]; omega)
    have e := byL_zero v.2 (hv v r.mem)
    simp only [R_p_Join_9, h1, cond_true, h2, hb, r.next, e]
    exact hk _ (by rw [hs, r.take]; rfl)
theorem pj_loop14 (ha : a.1.length ≤ 400) (hb4 : b.1.length ≤ 400) (rs : List DVal) :
    rounds (fun K p => R_p_Join_14 LF a b K p) LF (rs, a.1, Int.ofNat 0) = some ((a.1 ++ b.1.map (S.byN (Int.ofNat a.1.length)), rs), (Int.ofNat 0, ())) := by
  refine range0 (α := ByteArray × List (Int × Int)) (σ := List DNode) (R := Rt_p_Join) b.1 (fun i s => (rs, s, i)) (fun i s => s.length = a.1.length + i) (fun rest i s => some ((s ++ rest.map (S.byN (Int.ofNat a.1.length)), rs), (Int.ofNat 0, ()))) (by unfold LF; omega) (fun K s hs => ?_) (fun K i v rest s hs r hk => ?_) a.1 rfl
  · simp only [R_p_Join_14, ilt_self, cond_false, List.map_nil, List.append_nil]
  · have h1 := r.ilt
    have h2 := r.get
    have hlt := r.lt
    have hb := room40 (m := s.length) (by omega)
    simp only [R_p_Join_14, h1, cond_true, h2, hb, r.next]
    have := hk (s.append [(v.1, S.byL v.2 (Int.ofNat a.1.length))]) (by show (s ++ _).length = _; rw [List.length_append]; simp; omega)
    refine Eq.trans this ?_
    have e : List.append s [(v.1, S.byL v.2 (Int.ofNat a.1.length))] ++ rest.map (S.byN (Int.ofNat a.1.length)) = s ++ (v :: rest).map (S.byN (Int.ofNat a.1.length)) := by
      rw [List.map_cons]; show (s ++ [_]) ++ _ = _; rw [List.append_assoc]; rfl
    rw [e]
theorem F_p_Join_eq : F_p_Join LF a b = some ((S.joinB a b).1, (S.joinB a b).2, ()) := by
  have etaA : (a.1, a.2) = a := rfl
  have etaB : (b.1, b.2) = b := rfl
  simp only [F_p_Join, R_p_Join_in, S.joinB]
  by_cases fa : S.formed a = 0
  · by_cases fb : S.formed b = 0
    · obtain ⟨a1, a2, a3, a4, a5⟩ := formed_zero (g := a) fa
      obtain ⟨b1, b2, b3, b4, b5⟩ := formed_zero (g := b) fb
      have a1 : a.1.length ≤ 400 := a1
      have b1 : b.1.length ≤ 400 := b1
      have a2 : a.2.length ≤ 60 := a2
      have b2 : b.2.length ≤ 60 := b2
      have k1 : ieqI (S.first [S.formed (a.1, a.2), S.formed (b.1, b.2)]) (Int.ofNat 0) = true := by
        rw [ieqI_eq]; refine decide_eq_true ?_
        show S.first [S.formed a, S.formed b] = 0
        rw [fa, fb]; rfl
      have w1 : IntKind.i64.wrap (Int.ofNat (Nat.add a.1.length b.1.length)) = Int.ofNat (a.1.length + b.1.length) := w64 (by show _ ≤ ((a.1.length + b.1.length : Nat) : Int); omega) (by show ((a.1.length + b.1.length : Nat) : Int) ≤ _; omega)
      have w2 : IntKind.i64.wrap (Int.ofNat (Nat.add a.2.length b.2.length)) = Int.ofNat (a.2.length + b.2.length) := w64 (by show _ ≤ ((a.2.length + b.2.length : Nat) : Int); omega) (by show ((a.2.length + b.2.length : Nat) : Int) ≤ _; omega)
      rw [if_neg (by simpa using fa), if_neg (by simpa using fb)]
      by_cases h4 : 400 < a.1.length + b.1.length
      · have i1 : iltI (Int.ofNat 400) (Int.ofNat (a.1.length + b.1.length)) = true := by rw [iltI_eq]; exact decide_eq_true (by show (400 : Int) < ((a.1.length + b.1.length : Nat) : Int); omega)
        rw [if_pos (.inl h4)]
        simp only [k1, Bool.not_true, cond_false, w1, i1, cond_true]; rfl
      · have i1 : iltI (Int.ofNat 400) (Int.ofNat (a.1.length + b.1.length)) = false := by rw [iltI_eq]; exact decide_eq_false (by show ¬ (400 : Int) < ((a.1.length + b.1.length : Nat) : Int); omega)
        by_cases h6 : 60 < a.2.length + b.2.length
        · have i2 : iltI (Int.ofNat 60) (Int.ofNat (a.2.length + b.2.length)) = true := by rw [iltI_eq]; exact decide_eq_true (by show (60 : Int) < ((a.2.length + b.2.length : Nat) : Int); omega)
          rw [if_pos (.inr h6)]
          simp only [k1, Bool.not_true, cond_false, w1, i1, w2, i2, cond_true]; rfl
        · have i2 : iltI (Int.ofNat 60) (Int.ofNat (a.2.length + b.2.length)) = false := by rw [iltI_eq]; exact decide_eq_false (by show ¬ (60 : Int) < ((a.2.length + b.2.length : Nat) : Int); omega)
          rw [if_neg (by show ¬ (400 < a.1.length + b.1.length ∨ 60 < a.2.length + b.2.length); omega)]
          have hb : Nat.ble (List.length (List.append a.2 (List.append (S.byL b.2 (Int.ofNat a.1.length)) []))) 1000000 = true := Nat.ble_eq_true_of_le (by
            show (a.2 ++ (S.byL b.2 (Int.ofNat a.1.length) ++ [])).length ≤ _
            rw [List.append_nil, List.length_append, byL_len]; omega)
          have e9 := pj_loop9 (a := a) (b := b) a1 (fun n hn v hv => val_rng a1 (a4 n hn v hv)) (fun q => G_p_Join_14 LF a b LF q) (List.append a.2 (List.append (S.byL b.2 (Int.ofNat a.1.length)) []))
          have e14 := pj_loop14 (a := a) (b := b) a1 b1 (List.append a.2 (List.append (S.byL b.2 (Int.ofNat a.1.length)) []))
          have e : List.append (S.byL b.2 (Int.ofNat a.1.length)) [] = S.byL b.2 (Int.ofNat a.1.length) := List.append_nil _
          simp only [k1, Bool.not_true, cond_false, w1, i1, w2, i2, hb, cond_true]
          refine (e9.trans e14).trans ?_
          rw [e]; rfl
    · have k1 : ieqI (S.first [S.formed (a.1, a.2), S.formed (b.1, b.2)]) (Int.ofNat 0) = false := by
        rw [ieqI_eq]; refine decide_eq_false ?_
        show ¬ S.first [S.formed a, S.formed b] = 0
        rw [fa]; simp only [S.first, if_neg fb, if_true]; exact fb
      have k2 : S.first [S.formed (a.1, a.2), S.formed (b.1, b.2)] = S.formed b := by
        show S.first [S.formed a, S.formed b] = _
        rw [fa]; simp only [S.first, if_neg fb, if_true]
      rw [if_neg (by simpa using fa), if_pos fb, k1, k2]; rfl
  · have k2 : S.first [S.formed (a.1, a.2), S.formed (b.1, b.2)] = S.formed a := by
      show S.first [S.formed a, S.formed b] = _
      simp only [S.first, if_neg fa]
    have k1 : ieqI (S.first [S.formed (a.1, a.2), S.formed (b.1, b.2)]) (Int.ofNat 0) = false := by
      rw [k2, ieqI_eq]; exact decide_eq_false fa
    rw [if_pos fa, k1, k2]; rfl
end
theorem con_p_Join : Con Try.prog id_p_Join sp_p_Join := mk_p_Join ⟨con_p_formed, con_p_first, con_p_Join_1, con_slices_Concat_Val, trivial⟩ fun x y hx h => ⟨LF, (F_p_Join_eq (a := x.1) (b := x.2.1)).trans h⟩
end Go.Proofs.Ytcnhjofpmpipfaa
end

/- Made by program: plain forms of functions. -/
section
set_option linter.unusedVariables false
set_option maxRecDepth 100000
noncomputable section
namespace Go.Proofs.Ytcnhjofpmpipfaa
open Go Go.Sx Go.RowKit Go.Jx
def nm_r_SameVals : Nat → Option Nm := fun k => cond (Nat.beq k 4) (some ⟨[0, 1, 5], [], [], [], [], 0, 0, false⟩) (none)
def st_r_SameVals : Nat → Bool := fun k => cond (Nat.beq k 4) true (false)
def hd_r_SameVals : Nat → Bool := fun k => cond (Nat.beq k 4) true (false)
abbrev Rt_r_SameVals : Type := Bool × Unit
def sml_r_SameVals : List (Nat × Sm) := []
def hxl_r_SameVals : List (Nat × Hx) := []
def cl_r_SameVals (R : Type) (lf : Nat) : ClK R := icallK Try.prog ttT.get ftT.get (nm1 73 nm_r_SameVals) (smL sml_r_SameVals) (hxL hxl_r_SameVals) lf 20 R
abbrev id_r_SameVals : Nat := 73
def enc_r_SameVals_4 (x1 : (List DVal)) (x2 : (List DVal)) (p : Int) : NRes := (NRes.mk (PT.node (some (IV.lst cVal x1)) (PT.node (some (IV.lst cVal x2)) PT.leaf (PT.node (some (IV.int Go.IntKind.i64 p)) PT.leaf PT.leaf)) PT.leaf) (IS.mk PT.leaf 0) [] 0)
def R_r_SameVals_in (lf : Nat) (x1 : (List DVal)) (x2 : (List DVal)) (L4 : Int → Option Rt_r_SameVals) : Option Rt_r_SameVals := (cond (Bool.not (ieqI (Int.ofNat (List.length x1)) (Int.ofNat (List.length x2)))) (some (Bool.false, ())) (L4 (Int.ofNat 0)))
def R_r_SameVals_4 (lf : Nat) (x1 : (List DVal)) (x2 : (List DVal)) (L4 : Int → Option Rt_r_SameVals) (p : Int) : Option Rt_r_SameVals := (cond (iltI p (Int.ofNat (List.length x1))) (match (jget x1 p) with | .none  => none | .some v0 => (match (jget x2 p) with | .none  => none | .some v1 => (cond (Bool.not (Bool.and (keqI v0.1 v1.1) (Bool.and (keqI v0.2 v1.2) Bool.true))) (some (Bool.false, ())) (L4 (Go.IntKind.wrap Go.IntKind.i64 (Int.add p (Int.ofNat 1))))))) (some (Bool.true, ())))
theorem in_r_SameVals (g : ElA [(.list cVal), (.list cVal)] → Option Rt_r_SameVals) (J : Nat → List Nat → NRes → Option Rt_r_SameVals) (lf : Nat) (x1 : (List DVal)) (x2 : (List DVal)) : icodeT Try.prog ttT.get nm_r_SameVals fi73.nt (cl_r_SameVals _ lf) lf st_r_SameVals J fi73.body [] (argGo (argV [(.list cVal), (.list cVal)] (x1, x2, ())) 0 .leaf) S0 [] (lastK ttT.get fi73 ⟨[(.list cVal), (.list cVal)], [(false, .bool)], g⟩) = R_r_SameVals_in lf x1 x2 (fun q => J 4 [lf] (enc_r_SameVals_4 x1 x2 q)) := by kernel_rfl
theorem st_r_SameVals_4 (g : ElA [(.list cVal), (.list cVal)] → Option Rt_r_SameVals) (J : Nat → List Nat → NRes → Option Rt_r_SameVals) (lf : Nat) (x1 : (List DVal)) (x2 : (List DVal)) (m1 : Nat) (p : Int) : icodeFT Try.prog ttT.get nm_r_SameVals fi73.nt (cl_r_SameVals _ lf) lf st_r_SameVals J 4 fi73.body [] [m1] (enc_r_SameVals_4 x1 x2 p) (lastK ttT.get fi73 ⟨[(.list cVal), (.list cVal)], [(false, .bool)], g⟩) = R_r_SameVals_4 lf x1 x2 (fun q => J 4 [m1] (enc_r_SameVals_4 x1 x2 q)) p := by kernel_rfl
theorem nd_r_SameVals : (regs fi73.body).Nodup := by decide +kernel
theorem ok_r_SameVals : okC nm_r_SameVals st_r_SameVals hd_r_SameVals fi73.body none = true := by kernel_rfl
def A_r_SameVals (g : ElA [(.list cVal), (.list cVal)] → Option Rt_r_SameVals) (lf : Nat) : Nat → List Nat → NRes → Option Rt_r_SameVals := atN Try.prog ttT.get nm_r_SameVals fi73 ⟨[(.list cVal), (.list cVal)], [(false, .bool)], g⟩ (cl_r_SameVals _ lf) lf hd_r_SameVals
def G_r_SameVals_4 (lf : Nat) (x1 : (List DVal)) (x2 : (List DVal)) : Nat → (Int) → Option Rt_r_SameVals := rounds fun K p => R_r_SameVals_4 lf x1 x2 K p
theorem at_r_SameVals_4 (g : ElA [(.list cVal), (.list cVal)] → Option Rt_r_SameVals) (lf : Nat) (x1 : (List DVal)) (x2 : (List DVal)) : ∀ (n : Nat) (p : Int), A_r_SameVals g lf 4 [n] (enc_r_SameVals_4 x1 x2 p) = G_r_SameVals_4 lf x1 x2 n p
  | 0, p => atN_zero 4 [0] rfl _
  | n + 1, p => by
    have ih := at_r_SameVals_4 g lf x1 x2 n
    refine (atN_eq (icallK_eq 20 _) nd_r_SameVals ok_r_SameVals 4 [n + 1] [n] rfl _).trans ((st_r_SameVals_4 g (A_r_SameVals g lf) lf x1 x2 n p).trans ?_)
    rw [(show (fun q => A_r_SameVals g lf 4 [n] (enc_r_SameVals_4 x1 x2 q)) = (fun q => G_r_SameVals_4 lf x1 x2 n q) from funext ih)]
    rfl
def F_r_SameVals (lf : Nat) (x1 : (List DVal)) (x2 : (List DVal)) : Option Rt_r_SameVals := R_r_SameVals_in lf x1 x2 (fun q => G_r_SameVals_4 lf x1 x2 lf q)
theorem run_r_SameVals (g : ElA [(.list cVal), (.list cVal)] → Option Rt_r_SameVals) (lf : Nat) (x1 : (List DVal)) (x2 : (List DVal)) : icodeT Try.prog ttT.get nm_r_SameVals fi73.nt (cl_r_SameVals _ lf) lf st_r_SameVals (A_r_SameVals g lf) fi73.body [] (argGo (argV [(.list cVal), (.list cVal)] (x1, x2, ())) 0 .leaf) S0 [] (lastK ttT.get fi73 ⟨[(.list cVal), (.list cVal)], [(false, .bool)], g⟩) = F_r_SameVals lf x1 x2 := by
    refine (in_r_SameVals g (A_r_SameVals g lf) lf x1 x2).trans ?_
    rw [(show (fun q => A_r_SameVals g lf 4 [lf] (enc_r_SameVals_4 x1 x2 q)) = (fun q => G_r_SameVals_4 lf x1 x2 lf q) from funext fun q => at_r_SameVals_4 g lf x1 x2 lf q)]
    rfl
theorem hxs_r_SameVals : HxsOK Try.prog hxl_r_SameVals := trivial
theorem mk_r_SameVals {g : ElA [(.list cVal), (.list cVal)] → Option Rt_r_SameVals} (hsm : SmOK Try.prog sml_r_SameVals) (hg : ∀ (x : ElA [(.list cVal), (.list cVal)]) (y : Rt_r_SameVals), WfA [(.list cVal), (.list cVal)] x → g x = some y → ∃ lf, F_r_SameVals lf x.1 x.2.1 = some y) : Con Try.prog 73 ⟨[(.list cVal), (.list cVal)], [(false, .bool)], g⟩ :=
  conT (nmf := nm_r_SameVals) (sml := sml_r_SameVals) (hxl := hxl_r_SameVals) (st := st_r_SameVals) (hd := hd_r_SameVals) 20 mixed ttOK ftOK hsm hxs_r_SameVals cal73 rfl rfl (by kernel_rfl) (fun x => by kernel_rfl) nd_r_SameVals ok_r_SameVals fun x y hx hy => by
    obtain ⟨lf, h⟩ := hg x y hx hy
    exact ⟨lf, (run_r_SameVals g lf x.1 x.2.1).trans h⟩
def nm_r_SameGraphs : Nat → Option Nm := fun k => cond (Nat.beq k 5) (some ⟨[2, 3, 6], [], [], [], [], 0, 0, false⟩) (none)
def st_r_SameGraphs : Nat → Bool := fun k => cond (Nat.beq k 5) true (false)
def hd_r_SameGraphs : Nat → Bool := fun k => cond (Nat.beq k 5) true (false)
abbrev Rt_r_SameGraphs : Type := Bool × Unit
def sml_r_SameGraphs : List (Nat × Sm) := [(73, sp_r_SameVals)]
def hxl_r_SameGraphs : List (Nat × Hx) := []
def cl_r_SameGraphs (R : Type) (lf : Nat) : ClK R := icallK Try.prog ttT.get ftT.get (nm1 26 nm_r_SameGraphs) (smL sml_r_SameGraphs) (hxL hxl_r_SameGraphs) lf 20 R
abbrev id_r_SameGraphs : Nat := 26
def enc_r_SameGraphs_5 (x1 : DGraph) (x2 : DGraph) (p : Int) : NRes := (NRes.mk (PT.node none (PT.node none (PT.node (some (IV.ptr 1 0)) PT.leaf PT.leaf) PT.leaf) (PT.node (some (IV.ptr 0 0)) PT.leaf (PT.node (some (IV.int Go.IntKind.i64 p)) PT.leaf PT.leaf))) (IS.mk (PT.node (some (IObj.row (List.cons (IV.lst cNode x1.1) (List.cons (IV.lst cVal x1.2) [])))) (PT.node (some (IObj.row (List.cons (IV.lst cNode x2.1) (List.cons (IV.lst cVal x2.2) [])))) PT.leaf PT.leaf) PT.leaf) 2) [] 0)
def R_r_SameGraphs_in (lf : Nat) (x1 : DGraph) (x2 : DGraph) (L5 : Int → Option Rt_r_SameGraphs) : Option Rt_r_SameGraphs := (cond (Bool.not (Go.Proofs.Ytcnhjofpmpipfaa.S.sameVals x1.2 x2.2)) (some (Bool.false, ())) (cond (Bool.not (ieqI (Int.ofNat (List.length x1.1)) (Int.ofNat (List.length x2.1)))) (some (Bool.false, ())) (L5 (Int.ofNat 0))))
def R_r_SameGraphs_5 (lf : Nat) (x1 : DGraph) (x2 : DGraph) (L5 : Int → Option Rt_r_SameGraphs) (p : Int) : Option Rt_r_SameGraphs := (cond (iltI p (Int.ofNat (List.length x1.1))) (match (jget x1.1 p) with | .none  => none | .some v0 => (match (jget x2.1 p) with | .none  => none | .some v1 => (cond (Bool.not (Go.Proofs.Ytcnhjofpmpipfaa.S.sameVals v0.2 v1.2)) (some (Bool.false, ())) (match (jget x1.1 p) with | .none  => none | .some v2 => (match (jget x2.1 p) with | .none  => none | .some v3 => (cond (Bool.not (keqS v2.1 v3.1)) (some (Bool.false, ())) (L5 (Go.IntKind.wrap Go.IntKind.i64 (Int.add p (Int.ofNat 1)))))))))) (some (Bool.true, ())))
theorem in_r_SameGraphs (g : ElA [cGraph, cGraph] → Option Rt_r_SameGraphs) (J : Nat → List Nat → NRes → Option Rt_r_SameGraphs) (lf : Nat) (x1 : DGraph) (x2 : DGraph) : icodeT Try.prog ttT.get nm_r_SameGraphs fi26.nt (cl_r_SameGraphs _ lf) lf st_r_SameGraphs J fi26.body [] (argGo (argV [cGraph, cGraph] (x1, x2, ())) 0 .leaf) S0 [] (lastK ttT.get fi26 ⟨[cGraph, cGraph], [(false, .bool)], g⟩) = R_r_SameGraphs_in lf x1 x2 (fun q => J 5 [lf] (enc_r_SameGraphs_5 x1 x2 q)) := by kernel_rfl
theorem st_r_SameGraphs_5 (g : ElA [cGraph, cGraph] → Option Rt_r_SameGraphs) (J : Nat → List Nat → NRes → Option Rt_r_SameGraphs) (lf : Nat) (x1 : DGraph) (x2 : DGraph) (m1 : Nat) (p : Int) : icodeFT Try.prog ttT.get nm_r_SameGraphs fi26.nt (cl_r_SameGraphs _ lf) lf st_r_SameGraphs J 5 fi26.body [] [m1] (enc_r_SameGraphs_5 x1 x2 p) (lastK ttT.get fi26 ⟨[cGraph, cGraph], [(false, .bool)], g⟩) = R_r_SameGraphs_5 lf x1 x2 (fun q => J 5 [m1] (enc_r_SameGraphs_5 x1 x2 q)) p := by kernel_rfl
theorem nd_r_SameGraphs : (regs fi26.body).Nodup := by decide +kernel
theorem ok_r_SameGraphs : okC nm_r_SameGraphs st_r_SameGraphs hd_r_SameGraphs fi26.body none = true := by kernel_rfl
def A_r_SameGraphs (g : ElA [cGraph, cGraph] → Option Rt_r_SameGraphs) (lf : Nat) : Nat → List Nat → NRes → Option Rt_r_SameGraphs := atN Try.prog ttT.get nm_r_SameGraphs fi26 ⟨[cGraph, cGraph], [(false, .bool)], g⟩ (cl_r_SameGraphs _ lf) lf hd_r_SameGraphs
def G_r_SameGraphs_5 (lf : Nat) (x1 : DGraph) (x2 : DGraph) : Nat → (Int) → Option Rt_r_SameGraphs := rounds fun K p => R_r_SameGraphs_5 lf x1 x2 K p
theorem at_r_SameGraphs_5 (g : ElA [cGraph, cGraph] → Option Rt_r_SameGraphs) (lf : Nat) (x1 : DGraph) (x2 : DGraph) : ∀ (n : Nat) (p : Int), A_r_SameGraphs g lf 5 [n] (enc_r_SameGraphs_5 x1 x2 p) = G_r_SameGraphs_5 lf x1 x2 n p
  | 0, p => atN_zero 5 [0] rfl _
  | n + 1, p => by
    have ih := at_r_SameGraphs_5 g lf x1 x2 n
    refine (atN_eq (icallK_eq 20 _) nd_r_SameGraphs ok_r_SameGraphs 5 [n + 1] [n] rfl _).trans ((st_r_SameGraphs_5 g (A_r_SameGraphs g lf) lf x1 x2 n p).trans ?_)
    rw [(show (fun q => A_r_SameGraphs g lf 5 [n] (enc_r_SameGraphs_5 x1 x2 q)) = (fun q => G_r_SameGraphs_5 lf x1 x2 n q) from funext ih)]
    rfl
def F_r_SameGraphs (lf : Nat) (x1 : DGraph) (x2 : DGraph) : Option Rt_r_SameGraphs := R_r_SameGraphs_in lf x1 x2 (fun q => G_r_SameGraphs_5 lf x1 x2 lf q)
theorem run_r_SameGraphs (g : ElA [cGraph, cGraph] → Option Rt_r_SameGraphs) (lf : Nat) (x1 : DGraph) (x2 : DGraph) : icodeT Try.prog ttT.get nm_r_SameGraphs fi26.nt (cl_r_SameGraphs _ lf) lf st_r_SameGraphs (A_r_SameGraphs g lf) fi26.body [] (argGo (argV [cGraph, cGraph] (x1, x2, ())) 0 .leaf) S0 [] (lastK ttT.get fi26 ⟨[cGraph, cGraph], [(false, .bool)], g⟩) = F_r_SameGraphs lf x1 x2 := by
    refine (in_r_SameGraphs g (A_r_SameGraphs g lf) lf x1 x2).trans ?_
    rw [(show (fun q => A_r_SameGraphs g lf 5 [lf] (enc_r_SameGraphs_5 x1 x2 q)) = (fun q => G_r_SameGraphs_5 lf x1 x2 lf q) from funext fun q => at_r_SameGraphs_5 g lf x1 x2 lf q)]
    rfl
theorem hxs_r_SameGraphs : HxsOK Try.prog hxl_r_SameGraphs := trivial
theorem mk_r_SameGraphs {g : ElA [cGraph, cGraph] → Option Rt_r_SameGraphs} (hsm : SmOK Try.prog sml_r_SameGraphs) (hg : ∀ (x : ElA [cGraph, cGraph]) (y : Rt_r_SameGraphs), WfA [cGraph, cGraph] x → g x = some y → ∃ lf, F_r_SameGraphs lf x.1 x.2.1 = some y) : Con Try.prog 26 ⟨[cGraph, cGraph], [(false, .bool)], g⟩ :=
  conT (nmf := nm_r_SameGraphs) (sml := sml_r_SameGraphs) (hxl := hxl_r_SameGraphs) (st := st_r_SameGraphs) (hd := hd_r_SameGraphs) 20 mixed ttOK ftOK hsm hxs_r_SameGraphs cal26 rfl rfl (by kernel_rfl) (fun x => by kernel_rfl) nd_r_SameGraphs ok_r_SameGraphs fun x y hx hy => by
    obtain ⟨lf, h⟩ := hg x y hx hy
    exact ⟨lf, (run_r_SameGraphs g lf x.1 x.2.1).trans h⟩
def nm_l_few : Nat → Option Nm := fun k => cond (Nat.beq k 3) (some ⟨[1, 3, 4], [], [], [], [], 0, 0, false⟩) (none)
def st_l_few : Nat → Bool := fun k => cond (Nat.beq k 3) true (false)
def hd_l_few : Nat → Bool := fun k => cond (Nat.beq k 3) true (false)
abbrev Rt_l_few : Type := Bool × Unit
def sml_l_few : List (Nat × Sm) := []
def hxl_l_few : List (Nat × Hx) := []
def cl_l_few (R : Type) (lf : Nat) : ClK R := icallK Try.prog ttT.get ftT.get (nm1 14 nm_l_few) (smL sml_l_few) (hxL hxl_l_few) lf 20 R
abbrev id_l_few : Nat := 14
def enc_l_few_3 (x1 : DGraph) (p : Int) : NRes := (NRes.mk (PT.node none (PT.node (some (IV.ptr 0 0)) (PT.node (some (IV.int Go.IntKind.i64 (Int.ofNat (List.length x1.1)))) PT.leaf PT.leaf) PT.leaf) (PT.node none (PT.node (some (IV.int Go.IntKind.i64 p)) PT.leaf PT.leaf) PT.leaf)) (IS.mk (PT.node (some (IObj.row (List.cons (IV.lst cNode x1.1) (List.cons (IV.lst cVal x1.2) [])))) PT.leaf PT.leaf) 1) [] 0)
def R_l_few_in (lf : Nat) (x1 : DGraph) (L3 : Int → Option Rt_l_few) : Option Rt_l_few := (L3 (Int.ofNat 0))
def R_l_few_3 (lf : Nat) (x1 : DGraph) (L3 : Int → Option Rt_l_few) (p : Int) : Option Rt_l_few := (cond (iltI p (Int.ofNat (List.length x1.1))) (match (jget x1.1 p) with | .none  => none | .some v0 => (cond (iltI (Int.ofNat 8) (Int.ofNat (List.length v0.2))) (cond (Bool.not (iltI (Int.ofNat 30) (Int.ofNat (List.length v0.2)))) (some (Bool.false, ())) (cond (iltI (Int.ofNat 40) (Int.ofNat (List.length v0.2))) (some (Bool.false, ())) (L3 (Go.IntKind.wrap Go.IntKind.i64 (Int.add p (Int.ofNat 1)))))) (cond (iltI (Int.ofNat 40) (Int.ofNat (List.length v0.2))) (some (Bool.false, ())) (L3 (Go.IntKind.wrap Go.IntKind.i64 (Int.add p (Int.ofNat 1))))))) (cond (Bool.not (iltI (Int.ofNat 30) (Int.ofNat (List.length x1.1)))) (cond (Bool.not (iltI (Int.ofNat 10) (Int.ofNat (List.length x1.2)))) (some (Bool.true, ())) (cond (iltI (Int.ofNat 60) (Int.ofNat (List.length x1.2))) (some ((Bool.not (iltI (Int.ofNat 70) (Int.ofNat (List.length x1.2)))), ())) (some (Bool.false, ())))) (cond (iltI (Int.ofNat 400) (Int.ofNat (List.length x1.1))) (cond (Bool.not (iltI (Int.ofNat 410) (Int.ofNat (List.length x1.1)))) (cond (Bool.not (iltI (Int.ofNat 10) (Int.ofNat (List.length x1.2)))) (some (Bool.true, ())) (cond (iltI (Int.ofNat 60) (Int.ofNat (List.length x1.2))) (some ((Bool.not (iltI (Int.ofNat 70) (Int.ofNat (List.length x1.2)))), ())) (some (Bool.false, ())))) (some (Bool.false, ()))) (some (Bool.false, ())))))
theorem in_l_few (g : ElA [cGraph] → Option Rt_l_few) (J : Nat → List Nat → NRes → Option Rt_l_few) (lf : Nat) (x1 : DGraph) : icodeT Try.prog ttT.get nm_l_few fi14.nt (cl_l_few _ lf) lf st_l_few J fi14.body [] (argGo (argV [cGraph] (x1, ())) 0 .leaf) S0 [] (lastK ttT.get fi14 ⟨[cGraph], [(false, .bool)], g⟩) = R_l_few_in lf x1 (fun q => J 3 [lf] (enc_l_few_3 x1 q)) := by kernel_rfl
theorem st_l_few_3 (g : ElA [cGraph] → Option Rt_l_few) (J : Nat → List Nat → NRes → Option Rt_l_few) (lf : Nat) (x1 : DGraph) (m1 : Nat) (p : Int) : icodeFT Try.prog ttT.get nm_l_few fi14.nt (cl_l_few _ lf) lf st_l_few J 3 fi14.body [] [m1] (enc_l_few_3 x1 p) (lastK ttT.get fi14 ⟨[cGraph], [(false, .bool)], g⟩) = R_l_few_3 lf x1 (fun q => J 3 [m1] (enc_l_few_3 x1 q)) p := by kernel_rfl
theorem nd_l_few : (regs fi14.body).Nodup := by decide +kernel
theorem ok_l_few : okC nm_l_few st_l_few hd_l_few fi14.body none = true := by kernel_rfl
def A_l_few (g : ElA [cGraph] → Option Rt_l_few) (lf : Nat) : Nat → List Nat → NRes → Option Rt_l_few := atN Try.prog ttT.get nm_l_few fi14 ⟨[cGraph], [(false, .bool)], g⟩ (cl_l_few _ lf) lf hd_l_few
def G_l_few_3 (lf : Nat) (x1 : DGraph) : Nat → (Int) → Option Rt_l_few := rounds fun K p => R_l_few_3 lf x1 K p
theorem at_l_few_3 (g : ElA [cGraph] → Option Rt_l_few) (lf : Nat) (x1 : DGraph) : ∀ (n : Nat) (p : Int), A_l_few g lf 3 [n] (enc_l_few_3 x1 p) = G_l_few_3 lf x1 n p
  | 0, p => atN_zero 3 [0] rfl _
  | n + 1, p => by
    have ih := at_l_few_3 g lf x1 n
    refine (atN_eq (icallK_eq 20 _) nd_l_few ok_l_few 3 [n + 1] [n] rfl _).trans ((st_l_few_3 g (A_l_few g lf) lf x1 n p).trans ?_)
    rw [(show (fun q => A_l_few g lf 3 [n] (enc_l_few_3 x1 q)) = (fun q => G_l_few_3 lf x1 n q) from funext ih)]
    rfl
def F_l_few (lf : Nat) (x1 : DGraph) : Option Rt_l_few := R_l_few_in lf x1 (fun q => G_l_few_3 lf x1 lf q)
theorem run_l_few (g : ElA [cGraph] → Option Rt_l_few) (lf : Nat) (x1 : DGraph) : icodeT Try.prog ttT.get nm_l_few fi14.nt (cl_l_few _ lf) lf st_l_few (A_l_few g lf) fi14.body [] (argGo (argV [cGraph] (x1, ())) 0 .leaf) S0 [] (lastK ttT.get fi14 ⟨[cGraph], [(false, .bool)], g⟩) = F_l_few lf x1 := by
    refine (in_l_few g (A_l_few g lf) lf x1).trans ?_
    rw [(show (fun q => A_l_few g lf 3 [lf] (enc_l_few_3 x1 q)) = (fun q => G_l_few_3 lf x1 lf q) from funext fun q => at_l_few_3 g lf x1 lf q)]
    rfl
theorem hxs_l_few : HxsOK Try.prog hxl_l_few := trivial
theorem mk_l_few {g : ElA [cGraph] → Option Rt_l_few} (hsm : SmOK Try.prog sml_l_few) (hg : ∀ (x : ElA [cGraph]) (y : Rt_l_few), WfA [cGraph] x → g x = some y → ∃ lf, F_l_few lf x.1 = some y) : Con Try.prog 14 ⟨[cGraph], [(false, .bool)], g⟩ :=
  conT (nmf := nm_l_few) (sml := sml_l_few) (hxl := hxl_l_few) (st := st_l_few) (hd := hd_l_few) 20 mixed ttOK ftOK hsm hxs_l_few cal14 rfl rfl (by kernel_rfl) (fun x => by kernel_rfl) nd_l_few ok_l_few fun x y hx hy => by
    obtain ⟨lf, h⟩ := hg x y hx hy
    exact ⟨lf, (run_l_few g lf x.1).trans h⟩
end Go.Proofs.Ytcnhjofpmpipfaa

end
end

/- Made by program: plain forms of functions. -/
section
set_option linter.unusedVariables false
set_option maxRecDepth 100000
noncomputable section
namespace Go.Proofs.Ytcnhjofpmpipfaa
open Go Go.Sx Go.RowKit Go.Jx
end Go.Proofs.Ytcnhjofpmpipfaa

end
end

/- The contracts of pack's chaining of rules. -/
section
set_option linter.unusedVariables false
set_option maxRecDepth 100000
namespace Go.Proofs.Ytcnhjofpmpipfaa
open Go Go.Sx Go.RowKit Go.Jx
end Go.Proofs.Ytcnhjofpmpipfaa
end

/- Comparisons, and the law's bounds. -/
section
set_option linter.unusedVariables false
set_option maxRecDepth 100000
namespace Go.Proofs.Ytcnhjofpmpipfaa
open Go Go.Sx Go.RowKit Go.Jx
theorem F_r_SameVals_eq (a b : List DVal) (hl : a.length < LF) : F_r_SameVals LF a b = some (S.sameVals a b, ()) := by
  simp only [F_r_SameVals, R_r_SameVals_in, ieq_nat, S.sameVals]
  by_cases hlen : a.length = b.length
  · rw [decide_eq_true hlen, Bool.not_true, cond_false]
    refine (range1 (R := Rt_r_SameVals) a (fun rest i => some (decide (rest = b.drop i), ())) hl (fun K => ?_) (fun K i v rest r h => ?_)).trans (by rw [List.drop_zero])
    · simp only [R_r_SameVals_4, ilt_self, cond_false]
      rw [List.drop_of_length_le (by omega), decide_eq_true rfl]
    · have hi : i < b.length := by have := r.lt; omega
      have hd : b.drop i = b[i] :: b.drop (i + 1) := List.drop_eq_getElem_cons hi
      have hb : jget b (Int.ofNat i) = some b[i] := jget_nat.trans (List.getElem?_eq_getElem hi)
      simp only [R_r_SameVals_4, r.ilt, r.get, hb, r.next, h, cond_true, hd]
      generalize b[i] = w
      obtain ⟨v1, v2⟩ := v
      obtain ⟨w1, w2⟩ := w
      simp only [keqI, Bool.and_true]
      by_cases e1 : v1 = w1 <;> by_cases e2 : v2 = w2 <;> simp [e1, e2]
  · have hn : ¬ a = b := fun e => hlen (by rw [e])
    rw [decide_eq_false hlen, Bool.not_false, cond_true, decide_eq_false hn]
theorem con_r_SameVals : Con Try.prog id_r_SameVals sp_r_SameVals := mk_r_SameVals trivial fun x y hx h => ⟨LF, (F_r_SameVals_eq _ _ (wf_len hx.1)).trans h⟩
theorem F_r_SameGraphs_eq (a b : DGraph) (hl : a.1.length < LF) : F_r_SameGraphs LF a b = some (S.sameGraphs a b, ()) := by
  simp only [F_r_SameGraphs, R_r_SameGraphs_in, ieq_nat, S.sameGraphs]
  obtain ⟨a1, a2⟩ := a
  obtain ⟨b1, b2⟩ := b
  have hs : S.sameVals a2 b2 = decide (a2 = b2) := rfl
  simp only [hs]
  by_cases hr : a2 = b2
  · rw [decide_eq_true hr, Bool.not_true, cond_false]
    by_cases hlen : a1.length = b1.length
    · rw [decide_eq_true hlen, Bool.not_true, cond_false]
      refine (range1 (R := Rt_r_SameGraphs) a1 (fun rest i => some (decide (rest = b1.drop i), ())) hl (fun K => ?_) (fun K i v rest r h => ?_)).trans (by rw [List.drop_zero]; simp [hr])
      · simp only [R_r_SameGraphs_5, ilt_self, cond_false]
        rw [List.drop_of_length_le (by omega), decide_eq_true rfl]
      · have hi : i < b1.length := by have := r.lt; dsimp only at *; omega
        have hd : b1.drop i = b1[i] :: b1.drop (i + 1) := List.drop_eq_getElem_cons hi
        have hb : jget b1 (Int.ofNat i) = some b1[i] := jget_nat.trans (List.getElem?_eq_getElem hi)
        have hg := r.get
        simp only [R_r_SameGraphs_5, r.ilt, hg, hb, r.next, h, cond_true, hd]
        generalize b1[i] = w
        obtain ⟨v1, v2⟩ := v
        obtain ⟨w1, w2⟩ := w
        simp only [keqS, S.sameVals]
        by_cases e1 : v1 = w1 <;> by_cases e2 : v2 = w2 <;> simp [e1, e2]
    · have hn : ¬ (a1, a2) = (b1, b2) := fun e => hlen (by rw [(Prod.mk.inj e).1])
      rw [decide_eq_false hlen, Bool.not_false, cond_true, decide_eq_false hn]
  · have hn : ¬ (a1, a2) = (b1, b2) := fun e => hr (Prod.mk.inj e).2
    rw [decide_eq_false hr, Bool.not_false, cond_true, decide_eq_false hn]
theorem con_r_SameGraphs : Con Try.prog id_r_SameGraphs sp_r_SameGraphs := mk_r_SameGraphs ⟨con_r_SameVals, trivial⟩ fun x y hx h => ⟨LF, (F_r_SameGraphs_eq _ _ (wf_len hx.1.1)).trans h⟩
theorem F_l_few_eq (g : DGraph) (hl : g.1.length < LF) : F_l_few LF g = some (S.few g, ()) := by
  simp only [F_l_few, R_l_few_in, S.few]
  refine range1 (R := Rt_l_few) g.1 (fun rest i => some (rest.all (fun n => decide ((n.2.length ≤ 8 ∨ 30 < n.2.length) ∧ n.2.length ≤ 40)) && decide ((g.1.length ≤ 30 ∨ 400 < g.1.length ∧ g.1.length ≤ 410) ∧ (g.2.length ≤ 10 ∨ 60 < g.2.length ∧ g.2.length ≤ 70)), ())) hl (fun K => ?_) (fun K i v rest r h => ?_)
  · simp only [R_l_few_3, ilt_self, cond_false, ilt_nat, List.all_nil, Bool.true_and]
    generalize g.1.length = n
    generalize g.2.length = k
    by_cases a1 : 30 < n <;> by_cases a2 : 400 < n <;> by_cases a3 : 410 < n <;> by_cases b1 : 10 < k <;> by_cases b2 : 60 < k <;> by_cases b3 : 70 < k <;> simp [a1, a2, a3, b1, b2, b3] <;> omega
  · simp only [R_l_few_3, r.ilt, r.get, r.next, h, cond_true, ilt_nat, List.all_cons]
    generalize v.2.length = n
    generalize (rest.all fun n => decide ((n.2.length ≤ 8 ∨ 30 < n.2.length) ∧ n.2.length ≤ 40)) = w
    by_cases a1 : 8 < n
    · rw [decide_eq_true a1, cond_true]
      by_cases a2 : 30 < n
      · rw [decide_eq_true a2, Bool.not_true, cond_false]
        by_cases a3 : 40 < n
        · have e : decide ((n ≤ 8 ∨ 30 < n) ∧ n ≤ 40) = false := decide_eq_false (by omega)
          rw [e, decide_eq_true a3]; rfl
        · have e : decide ((n ≤ 8 ∨ 30 < n) ∧ n ≤ 40) = true := decide_eq_true (by omega)
          rw [e, decide_eq_false a3]; cases w <;> rfl
      · have e : decide ((n ≤ 8 ∨ 30 < n) ∧ n ≤ 40) = false := decide_eq_false (by omega)
        rw [e, decide_eq_false a2]; rfl
    · rw [decide_eq_false a1, cond_false]
      have e : decide ((n ≤ 8 ∨ 30 < n) ∧ n ≤ 40) = true := decide_eq_true (by omega)
      have a3 : ¬ 40 < n := by omega
      rw [e, decide_eq_false a3]; cases w <;> rfl
theorem con_l_few : Con Try.prog id_l_few sp_l_few := mk_l_few trivial fun x y hx h => ⟨LF, (F_l_few_eq _ (wf_len hx.1.1)).trans h⟩
end Go.Proofs.Ytcnhjofpmpipfaa
end
