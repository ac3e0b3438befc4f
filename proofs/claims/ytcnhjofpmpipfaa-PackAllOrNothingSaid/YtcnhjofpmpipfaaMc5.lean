/- Texts: Qc1, Qgo, Jcl, Qco, Qc2, Qc2p, Qc1p, Qcan, Qcanp, Jhx, Qg1, Qp1, Qe1, Qsmp, Qsm2, Qsm2p, Qg2, Qcl, Qp2, Qp3, Lg1, Qg3, Qp4. -/
import Derived.Test.YtcnhjofpmpipfaaMc4
import Derived.Test.YtcnhjofpmpipfaaMc3
/- Made by program: plain forms of functions. -/
section
set_option linter.unusedVariables false
set_option maxRecDepth 100000
noncomputable section
namespace Go.Proofs.Ytcnhjofpmpipfaa
open Go Go.Sx Go.RowKit Go.Jx
def nm_p_canon_1 : Nat → Option Nm := fun k => cond (Nat.beq k 999999) (some ⟨[], [], [], [], [], 0, 0, false⟩) none
def st_p_canon_1 : Nat → Bool := fun k => false
def hd_p_canon_1 : Nat → Bool := fun k => false
abbrev Rt_p_canon_1 : Type := (Unit) × ((List (Int × Int)) × Unit) × ((List Int) × Unit) × Unit
def sml_p_canon_1 : List (Nat × Sm) := []
def hxl_p_canon_1 : List (Nat × Hx) := [(136, itPx Try.prog ttT.get si_p_refs_1 ⟨[1, 2], [.ref [.map (.int .i64) (.int .i64)], .ref [.arr (.int .i64)]], nmTop⟩ 0)]
def cl_p_canon_1 (R : Type) (lf : Nat) : ClK R := icallK Try.prog ttT.get ftT.get (fun _ _ => none) (smL sml_p_canon_1) (hxL hxl_p_canon_1) lf 20 R
abbrev id_p_canon_1 : Nat := 100
def R_p_canon_1_in (lf : Nat) (x1 : (List DVal)) (x2 : (List (Int × Int))) (x3 : (List Int)) : Option Rt_p_canon_1 := (match (foldN (fun v0 v1 => (cond (Bool.not (match (@mfind (TC.int Go.IntKind.i64) (TC.int Go.IntKind.i64) v1 v0.1.1) with | .none  => Bool.false | .some v2 => Bool.true)) (cond (Nat.ble (Nat.mul (Nat.add (List.length v0.2.1.1) 1) 8) 140737488355328) (some (((@mset (TC.int Go.IntKind.i64) (TC.int Go.IntKind.i64) v1 (Int.ofNat (List.length v0.2.1.1)) v0.1.1), ()), (((List.append v0.2.1.1 (List.cons v1 [])), ()), ()))) none) (some ((v0.1.1, ()), ((v0.2.1.1, ()), ()))))) (Go.Proofs.Ytcnhjofpmpipfaa.S.refsL x1) ((x2, ()), ((x3, ()), ()))) with | .none  => none | .some v3 => (some ((), ((v3.1.1, ()), ((v3.2.1.1, ()), ())))))
theorem in_p_canon_1 (g : ElP [.dat (.list cVal), .ref [.map (.int .i64) (.int .i64)], .ref [.arr (.int .i64)]] → Option Rt_p_canon_1) (J : Nat → List Nat → NRes → Option Rt_p_canon_1) (lf : Nat) (x1 : (List DVal)) (x2 : (List (Int × Int))) (x3 : (List Int)) : icodeTB Try.prog ttT.get nm_p_canon_1 (mP [.dat (.list cVal), .ref [.map (.int .i64) (.int .i64)], .ref [.arr (.int .i64)]]) fi100.nt (cl_p_canon_1 _ lf) lf st_p_canon_1 J fi100.body [] (argGo (argsP [.dat (.list cVal), .ref [.map (.int .i64) (.int .i64)], .ref [.arr (.int .i64)]] idN 0 (x1, (x2, ()), (x3, ()), ())) 0 .leaf) (Sc [.dat (.list cVal), .ref [.map (.int .i64) (.int .i64)], .ref [.arr (.int .i64)]] (x1, (x2, ()), (x3, ()), ())) [] (lastQ ttT.get fi100 ⟨[.dat (.list cVal), .ref [.map (.int .i64) (.int .i64)], .ref [.arr (.int .i64)]], [], g⟩) = R_p_canon_1_in lf x1 x2 x3 := by kernel_rfl
theorem nd_p_canon_1 : (regs fi100.body).Nodup := by decide +kernel
theorem ok_p_canon_1 : okC nm_p_canon_1 st_p_canon_1 hd_p_canon_1 fi100.body none = true := by kernel_rfl
def A_p_canon_1 (g : ElP [.dat (.list cVal), .ref [.map (.int .i64) (.int .i64)], .ref [.arr (.int .i64)]] → Option Rt_p_canon_1) (lf : Nat) : Nat → List Nat → NRes → Option Rt_p_canon_1 := atQ Try.prog ttT.get nm_p_canon_1 fi100 ⟨[.dat (.list cVal), .ref [.map (.int .i64) (.int .i64)], .ref [.arr (.int .i64)]], [], g⟩ (cl_p_canon_1 _ lf) lf hd_p_canon_1
def F_p_canon_1 (lf : Nat) (x1 : (List DVal)) (x2 : (List (Int × Int))) (x3 : (List Int)) : Option Rt_p_canon_1 := R_p_canon_1_in lf x1 x2 x3
theorem run_p_canon_1 (g : ElP [.dat (.list cVal), .ref [.map (.int .i64) (.int .i64)], .ref [.arr (.int .i64)]] → Option Rt_p_canon_1) (lf : Nat) (x1 : (List DVal)) (x2 : (List (Int × Int))) (x3 : (List Int)) : icodeTB Try.prog ttT.get nm_p_canon_1 (mP [.dat (.list cVal), .ref [.map (.int .i64) (.int .i64)], .ref [.arr (.int .i64)]]) fi100.nt (cl_p_canon_1 _ lf) lf st_p_canon_1 (A_p_canon_1 g lf) fi100.body [] (argGo (argsP [.dat (.list cVal), .ref [.map (.int .i64) (.int .i64)], .ref [.arr (.int .i64)]] idN 0 (x1, (x2, ()), (x3, ()), ())) 0 .leaf) (Sc [.dat (.list cVal), .ref [.map (.int .i64) (.int .i64)], .ref [.arr (.int .i64)]] (x1, (x2, ()), (x3, ()), ())) [] (lastQ ttT.get fi100 ⟨[.dat (.list cVal), .ref [.map (.int .i64) (.int .i64)], .ref [.arr (.int .i64)]], [], g⟩) = F_p_canon_1 lf x1 x2 x3 := by
    refine (in_p_canon_1 g (A_p_canon_1 g lf) lf x1 x2 x3).trans ?_
    rfl
theorem hxs_p_canon_1 : HxsOK Try.prog hxl_p_canon_1 := ⟨itPx_ok mixed ttOK _ 0 coni_p_refs_1, trivial⟩
theorem mk_p_canon_1 {g : ElP [.dat (.list cVal), .ref [.map (.int .i64) (.int .i64)], .ref [.arr (.int .i64)]] → Option Rt_p_canon_1} (hsm : SmOK Try.prog sml_p_canon_1) (hg : ∀ (x : ElP [.dat (.list cVal), .ref [.map (.int .i64) (.int .i64)], .ref [.arr (.int .i64)]]) (y : Rt_p_canon_1), WfP [.dat (.list cVal), .ref [.map (.int .i64) (.int .i64)], .ref [.arr (.int .i64)]] x → g x = some y → ∃ lf, F_p_canon_1 lf x.1 x.2.1.1 x.2.2.1.1 = some y) : ConR Try.prog 100 ⟨[.dat (.list cVal), .ref [.map (.int .i64) (.int .i64)], .ref [.arr (.int .i64)]], [], g⟩ :=
  conTR (nmf := nm_p_canon_1) (sml := sml_p_canon_1) (hxl := hxl_p_canon_1) (st := st_p_canon_1) (hd := hd_p_canon_1) 20 mixed ttOK ftOK hsm hxs_p_canon_1 cal100 (by kernel_rfl) (fun x => by kernel_rfl) nd_p_canon_1 ok_p_canon_1 fun x y z hx hy => by
    obtain ⟨lf, h⟩ := hg x (y, z) hx hy
    exact ⟨lf, (run_p_canon_1 g lf x.1 x.2.1.1 x.2.2.1.1).trans h⟩
end Go.Proofs.Ytcnhjofpmpipfaa

end
end

/- Made by program: plain forms of functions. -/
section
set_option linter.unusedVariables false
set_option maxRecDepth 100000
noncomputable section
namespace Go.Proofs.Ytcnhjofpmpipfaa
open Go Go.Sx Go.RowKit Go.Jx
def nm_slices_CloneO_Val : Nat → Option Nm := fun k => none
def st_slices_CloneO_Val : Nat → Bool := fun k => false
def hd_slices_CloneO_Val : Nat → Bool := fun k => false
abbrev Rt_slices_CloneO_Val : Type := (List DVal) × Unit
def sml_slices_CloneO_Val : List (Nat × Sm) := []
def hxl_slices_CloneO_Val : List (Nat × Hx) := []
def cl_slices_CloneO_Val (R : Type) (lf : Nat) : ClK R := icallK Try.prog ttT.get ftT.get (nm1 74 nm_slices_CloneO_Val) (smL sml_slices_CloneO_Val) (hxL hxl_slices_CloneO_Val) lf 20 R
abbrev id_slices_CloneO_Val : Nat := 74
def R_slices_CloneO_Val_in (lf : Nat) (x1 : (List DVal)) : Option Rt_slices_CloneO_Val := (match x1 with | .nil  => none | .cons v0 v1 => (cond (Nat.ble (Nat.mul (Nat.add 0 (List.length x1)) 16) 140737488355328) (some (x1, ())) none))
theorem in_slices_CloneO_Val (g : ElA [(.list cVal)] → Option Rt_slices_CloneO_Val) (J : Nat → List Nat → NRes → Option Rt_slices_CloneO_Val) (lf : Nat) (x1 : (List DVal)) : icodeT Try.prog ttT.get nm_slices_CloneO_Val fi74.nt (cl_slices_CloneO_Val _ lf) lf st_slices_CloneO_Val J fi74.body [] (argGo (argV [(.list cVal)] (x1, ())) 0 .leaf) S0 [] (lastK ttT.get fi74 ⟨[(.list cVal)], [(true, cVal)], g⟩) = R_slices_CloneO_Val_in lf x1 := by kernel_rfl
theorem nd_slices_CloneO_Val : (regs fi74.body).Nodup := by decide +kernel
theorem ok_slices_CloneO_Val : okC nm_slices_CloneO_Val st_slices_CloneO_Val hd_slices_CloneO_Val fi74.body none = true := by kernel_rfl
def A_slices_CloneO_Val (g : ElA [(.list cVal)] → Option Rt_slices_CloneO_Val) (lf : Nat) : Nat → List Nat → NRes → Option Rt_slices_CloneO_Val := atN Try.prog ttT.get nm_slices_CloneO_Val fi74 ⟨[(.list cVal)], [(true, cVal)], g⟩ (cl_slices_CloneO_Val _ lf) lf hd_slices_CloneO_Val
def F_slices_CloneO_Val (lf : Nat) (x1 : (List DVal)) : Option Rt_slices_CloneO_Val := R_slices_CloneO_Val_in lf x1
theorem run_slices_CloneO_Val (g : ElA [(.list cVal)] → Option Rt_slices_CloneO_Val) (lf : Nat) (x1 : (List DVal)) : icodeT Try.prog ttT.get nm_slices_CloneO_Val fi74.nt (cl_slices_CloneO_Val _ lf) lf st_slices_CloneO_Val (A_slices_CloneO_Val g lf) fi74.body [] (argGo (argV [(.list cVal)] (x1, ())) 0 .leaf) S0 [] (lastK ttT.get fi74 ⟨[(.list cVal)], [(true, cVal)], g⟩) = F_slices_CloneO_Val lf x1 := by
    refine (in_slices_CloneO_Val g (A_slices_CloneO_Val g lf) lf x1).trans ?_
    rfl
theorem hxs_slices_CloneO_Val : HxsOK Try.prog hxl_slices_CloneO_Val := trivial
theorem mk_slices_CloneO_Val {g : ElA [(.list cVal)] → Option Rt_slices_CloneO_Val} (hsm : SmOK Try.prog sml_slices_CloneO_Val) (hg : ∀ (x : ElA [(.list cVal)]) (y : Rt_slices_CloneO_Val), WfA [(.list cVal)] x → g x = some y → ∃ lf, F_slices_CloneO_Val lf x.1 = some y) : Con Try.prog 74 ⟨[(.list cVal)], [(true, cVal)], g⟩ :=
  conT (nmf := nm_slices_CloneO_Val) (sml := sml_slices_CloneO_Val) (hxl := hxl_slices_CloneO_Val) (st := st_slices_CloneO_Val) (hd := hd_slices_CloneO_Val) 20 mixed ttOK ftOK hsm hxs_slices_CloneO_Val cal74 rfl rfl (by kernel_rfl) (fun x => by kernel_rfl) nd_slices_CloneO_Val ok_slices_CloneO_Val fun x y hx hy => by
    obtain ⟨lf, h⟩ := hg x y hx hy
    exact ⟨lf, (run_slices_CloneO_Val g lf x.1).trans h⟩
end Go.Proofs.Ytcnhjofpmpipfaa

end
end

/- What a call leaves that makes an empty list. -/
section
set_option linter.unusedVariables false
namespace Go.Jx
open Go Go.Sx Go.RowKit
universe u
/-- No data, of so many cells. -/
inductive NoD (n : Nat) : Type
instance (n : Nat) : Dat (NoD n) where
  sz := n
  enc _ _ _ x := nomatch x
  len {_ _ _ x} _ := nomatch x
  mono {_ _ _ _ _ x} _ _ := nomatch x
  ones {_ _ _ x} _ := nomatch x
theorem own_cap {n : Nat} {m M : List Nat} {w : World} {a : Option Addr} {cap : Nat} {l : List (NoD n)} (h : Go.Sx.Own m M w a cap l) : cap < 9223372036854775808 := by
  rcases h with ⟨_, h, _⟩ | ⟨_, _, _, _, _, _, _, h, _⟩
  · omega
  · exact h.2
theorem lst_nil2 {E : Env} {c : TC} {u : Value} (h : VR E (.lst c []) u) : ∃ a cap, u = .slice a 0 cap ∧ cap < 9223372036854775808 := by
  cases h with
  | lst0 hc => exact ⟨_, _, rfl, hc⟩
  | lst us h1 h2 h3 hb hh hc hu => exact ⟨_, _, rfl, h2⟩
theorem ret_nil {M : List Nat} {w w' : World} {c : TC} {e : Ending} (hM : ∀ b ∈ M, b < w.heap.size) (h : Ret (fun v w' => ∃ a' c' m', v = .slice a' 0 c' ∧ c' < 9223372036854775808 ∧ Evo [] w m' w') e w') :
    RetE T0 (EM M w) S0 ⟨.lst c [], S0, 0, 0⟩ e w' := by
  cases e with
  | returned v =>
    obtain ⟨a, k, m, rfl, hk, ev⟩ := h
    refine ⟨_, EM M w', rfl, rfl, .lst0 hk, ⟨?_, ?_, fun id h => h.elim, Nat.le_refl _⟩, ⟨fun id h => h.elim⟩⟩
    · exact (preM (M := M) (w := w') fun b hb => Nat.lt_of_lt_of_le (hM b hb) ev.size).st
    · exact ⟨ev.os, ev.tape, ev.output, ev.size, fun b hb _ => ev.same b hb (by simp), fun id h => h.elim, fun id h => h.elim, fun id _ h => h.elim, fun b hb => .inl hb, fun b hb _ => .inl hb⟩
  | panicked c => exact h.elim
  | outgrown => exact h.elim
end Go.Jx
end

/- The calls of slices.Clone whose result is turned later. -/
section
set_option linter.unusedVariables false
set_option maxRecDepth 100000
namespace Go.Jx
open Go Go.Sx Go.RowKit
theorem ret_own {M : List Nat} {w w' : World} {c : TC} {n : Nat} {e : Ending} (hn : n = csz c) (hM : ∀ b ∈ M, b < w.heap.size) (h : Ret (fun v w' => ∃ a' c' m', v = .slice a' 0 c' ∧ Go.Sx.Own m' M w' a' c' ([] : List (NoD n)) ∧ Evo [] w m' w') e w') :
    RetE T0 (EM M w) S0 ⟨.arr 0, addO [.arr c []] S0, 0, 0⟩ e w' := by
  cases e with
  | returned v =>
    obtain ⟨a, k, m, rfl, ho, ev⟩ := h
    have hH : ∀ id o, (addO [IObj.arr c []] S0).H id = some o → id = 0 ∧ o = .arr c [] := fun id o ho => by
      rw [addO_H] at ho
      have e0 : S0.next = 0 := rfl
      rw [e0, if_neg (by omega)] at ho
      split at ho
      · rename_i h1
        have h1 : id < 1 := by simpa using h1
        obtain rfl : id = 0 := by omega
        exact ⟨rfl, by simpa using ho.symm⟩
      · cases ho
    have key : ∃ (E' : Env), E'.w = w' ∧ E'.A = (fun id => id = 0) ∧ E'.hd 0 = .slice a 0 k ∧ (∀ b ∈ E'.m, b ∈ M ∨ w.heap.size ≤ b) ∧ (∀ b ∈ M, b ∈ E'.m) ∧ (∀ b ∈ E'.m, b < w'.heap.size) ∧ OR E' 0 (.arr c []) ∧ (E'.hb 0 = true → E'.ρ 0 ∈ E'.m ∧ w.heap.size ≤ E'.ρ 0) := by
      rcases ho with ⟨rfl, rfl, _⟩ | ⟨g, cells, rfl, g1, g2, g3, g4, g5, g6⟩
      · exact ⟨⟨fun _ => 0, fun _ => 0, fun _ => .slice none 0 0, fun _ => false, fun id => id = 0, M, w'⟩, rfl, rfl, rfl, fun b hb => .inl hb, fun b hb => hb, fun b hb => Nat.lt_of_lt_of_le (hM b hb) ev.size, ⟨none, 0, rfl, Nat.le_refl _, by omega, by simp, .inl ⟨rfl, rfl⟩⟩, fun h => by cases h⟩
      · have hg : w.heap.size ≤ g := by
          rcases ev.own g g1 with h | h
          · cases h
          · exact h
        obtain ⟨t, g3⟩ := g3
        refine ⟨⟨fun _ => g, fun _ => 0, fun _ => .slice (some ⟨g, 0, none⟩) 0 k, fun _ => true, fun id => id = 0, g :: M, w'⟩, rfl, rfl, rfl, fun b hb => ?_, fun b hb => List.mem_cons_of_mem _ hb, fun b hb => ?_, ⟨some ⟨g, 0, none⟩, k, rfl, Nat.zero_le _, g5.2, by simp, .inr ⟨rfl, rfl, cells.toArray, t, g3, ?_, fun _ _ => .nilFunc, fun i hi => absurd hi (by simp), fun i hi => absurd hi (by simp)⟩⟩, fun _ => ⟨List.mem_cons_self, hg⟩⟩
        · rcases List.mem_cons.1 hb with h | h
          · exact .inr (h ▸ hg)
          · exact .inl h
        · rcases List.mem_cons.1 hb with h | h
          · rw [h]; exact heap_lt g3
          · exact Nat.lt_of_lt_of_le (hM b h) ev.size
        · have e2 : Dat.sz (NoD n) = csz c := hn
          rw [e2] at g4
          simp [g4]
    obtain ⟨E', rfl, hA, hd, k1, k2, k3, k4, k5⟩ := key
    have hL : ∀ id, E'.A id → Live E' (addO [IObj.arr c []] S0).H id → id = 0 ∧ E'.ρ 0 ∈ E'.m ∧ w.heap.size ≤ E'.ρ 0 := fun id hid ⟨h1, _⟩ => by
      rw [hA] at hid
      have hid : id = 0 := hid
      subst hid
      exact ⟨rfl, k5 h1⟩
    refine ⟨_, E', rfl, rfl, .arr (by rw [hA]) hd, ⟨⟨fun id _ hid o ho => ?_, fun id _ hid o ho hb => ?_, fun id _ hid hl => ?_, fun i j _ _ hi hj _ _ _ => ?_, k3⟩, ⟨ev.os, ev.tape, ev.output, ev.size, fun b hb _ => ev.same b hb (by simp), fun id h => h.elim, fun id h _ hl => ?_, fun id _ h => h.elim, k1, fun b hb _ => .inl (k2 b hb)⟩, fun id hid => ?_, Nat.zero_le _⟩, ⟨fun id _ _ => Nat.zero_le _⟩⟩
    · obtain ⟨rfl, rfl⟩ := hH id o ho; exact k4
    · obtain ⟨rfl, rfl⟩ := hH id o ho; cases hb
    · obtain ⟨rfl, h1, _⟩ := hL id hid hl; exact h1
    · rw [hA] at hi hj
      have hi : i = 0 := hi
      have hj : j = 0 := hj
      rw [hi, hj]
    · obtain ⟨rfl, _, h2⟩ := hL id h hl; exact .inl h2
    · rw [hA] at hid
      have hid : id = 0 := hid
      subst hid
      exact Nat.one_pos
  | panicked c => exact h.elim
  | outgrown => exact h.elim
end Go.Jx
namespace Go.Proofs.Ytcnhjofpmpipfaa
open Go Go.Sx Go.RowKit Go.Jx

theorem cloneO_Val {M : List Nat} {w : World} {a : Option Addr} {cap : Nat} (hM : Lo M w) (hc : cap < 9223372036854775808) : Calls Try.prog 74 #[.slice a 0 cap] w (Ret fun v w' => ∃ a' c' m', v = .slice a' 0 c' ∧ Go.Sx.Own m' M w' a' c' ([] : List (NoD 2)) ∧ Evo [] w m' w') := by
  have hS : SL M w a cap ([] : List (NoD 2)) := ⟨⟨Nat.zero_le _, hc⟩, .inl rfl⟩
  refine enter (l := [.slice a 0 cap]) Try.func74 rfl Try.ntmps74 rfl ?_
  refine c_seq fun KhK1 hK1 => ?_
  refine c_reg ?_
  refine op_assign (v := .slice none 0 0) rfl rfl rfl ?_
  refine wpList_nil ?_
  refine hK1 _ _ ?_
  refine c_seq fun KhK2 hK2 => ?_
  refine c_seq fun KhK3 hK3 => ?_
  refine c_reg ?_
  refine op_move (v := .slice a 0 cap) rfl rfl rfl ?_
  refine op_nilS ty24 rfl rfl rfl rfl ?_
  refine wpList_nil ?_
  refine hK3 _ _ ?_
  refine c_ifB rfl rfl (fun hb4 => ?_) (fun hb4 => ?_)
  · refine c_seq fun KhK5 hK5 => ?_
    refine c_reg ?_
    refine op_assign (v := .slice none 0 0) rfl rfl rfl ?_
    refine wpList_nil ?_
    refine hK5 _ _ ?_
    refine wp_ret ?_
    exact ret1 Try.results74 rfl ⟨none, 0, [], rfl, Go.Sx.Own.nil, Evo.refl [] w⟩
  · refine wp_skip ?_
    refine hK2 _ _ ?_
    refine c_seq fun KhK7 hK7 => ?_
    refine c_reg ?_
    refine op_buildSlice0 (α := NoD 2) (m := []) (M := M) ty24 ty51 rfl (hM.mono (Evo.refl [] w).size) fun β14 w15 hβ16 u17 hz18 ho19 => ?_
    have e20 := u17.evoN (m := []) hβ16 hz18
    refine op_move (v := .slice a 0 cap) rfl rfl rfl ?_
    refine op_append ty24 ty24 ty51 rfl rfl rfl rfl rfl rfl rfl ho19 (hS.mono (e20.tr M)) (hM.mono e20.size) (by simp) fun a22 c23 w24 m25 ho26 e27 u28 hbk29 hsub30 => ?_
    refine op_assign (v := .slice a22 (([] : List (NoD 2)) ++ []).length c23) rfl rfl rfl ?_
    refine wpList_nil ?_
    refine hK7 _ _ ?_
    refine wp_ret ?_
    exact ret1 Try.results74 rfl ⟨a22, c23, m25, rfl, ho26, e20.trans e27⟩
def sp_slices_CloneO_Val : Sm := ⟨[.list cVal], [(true, cVal)], fun x => some (x.1, ())⟩
theorem con_slices_CloneO_Val' : Con Try.prog 74 ⟨[.list cVal], [(true, cVal)], fun x => match x.1 with | [] => none | v :: l => some (x.1, ())⟩ := mk_slices_CloneO_Val trivial fun x y hx h => ⟨0, by
  obtain ⟨l, _⟩ := x
  have hl := wf_len hx.1
  have hb := hx.1.1
  cases l with
  | nil => cases h
  | cons v l =>
    cases h
    simp only [F_slices_CloneO_Val, R_slices_CloneO_Val_in]
    exact Eq.trans (congrArg (fun b => cond b (some (v :: l, ())) none) (Nat.ble_eq_true_of_le (Nat.le_trans (Nat.le_of_eq (congrArg (fun z => Nat.mul z 16) (Nat.zero_add _))) hb))) rfl⟩
theorem con_slices_CloneO_Val : Con Try.prog id_slices_CloneO_Val sp_slices_CloneO_Val := by
  refine ⟨cal74, fun M w x us y hy hM hv => ?_⟩
  obtain ⟨l, _⟩ := x
  cases l with
  | cons v l => exact con_slices_CloneO_Val'.calls M w (v :: l, ()) us y hy hM hv
  | nil =>
    cases hy
    obtain ⟨u, us2, rfl, h1, h2⟩ := hv.inv
    obtain rfl : us2 = [] := List.length_eq_zero_iff.1 h2.1.symm
    obtain ⟨a, cap, rfl, hc⟩ := lst_nil2 h1
    refine callsIn_wide.2 ((cloneO_Val (M := M) hM hc).mono fun e w' hR => ?_)
    exact ret_own rfl hM hR
end Go.Proofs.Ytcnhjofpmpipfaa
end

/- Made by program: plain forms of functions. -/
section
set_option linter.unusedVariables false
set_option maxRecDepth 100000
noncomputable section
namespace Go.Proofs.Ytcnhjofpmpipfaa
open Go Go.Sx Go.RowKit Go.Jx
def nm_p_canon_2 : Nat → Option Nm := fun k => cond (Nat.beq k 3) (some ⟨[1, 4, 9, 10, 11], [(4, cVal)], [], [], [], 0, 0, false⟩) (cond (Nat.beq k 999999) (some ⟨[], [], [], [], [], 0, 0, false⟩) none)
def st_p_canon_2 : Nat → Bool := fun k => cond (Nat.beq k 3) true (false)
def hd_p_canon_2 : Nat → Bool := fun k => cond (Nat.beq k 3) true (false)
abbrev Rt_p_canon_2 : Type := ((List DVal) × Unit) × ((List (Int × Int)) × Unit) × Unit
def sml_p_canon_2 : List (Nat × Sm) := [(74, sp_slices_CloneO_Val)]
def hxl_p_canon_2 : List (Nat × Hx) := []
def cl_p_canon_2 (R : Type) (lf : Nat) : ClK R := icallK Try.prog ttT.get ftT.get (fun _ _ => none) (smL sml_p_canon_2) (hxL hxl_p_canon_2) lf 20 R
abbrev id_p_canon_2 : Nat := 102
def enc_p_canon_2_3 (x1 : (List DVal)) (x2 : (List (Int × Int))) (p : Int × (List DVal)) : NRes := (NRes.mk (PT.node none (PT.node (some (IV.ptr 0 0)) (PT.node none PT.leaf (PT.node (some (IV.int Go.IntKind.i64 p.1)) PT.leaf PT.leaf)) (PT.node none (PT.node (some (IV.arr 1)) PT.leaf PT.leaf) PT.leaf)) (PT.node none (PT.node (some (IV.arr 1)) PT.leaf PT.leaf) (PT.node none (PT.node (some (IV.int Go.IntKind.i64 (Int.ofNat (List.length x1)))) PT.leaf PT.leaf) PT.leaf))) (IS.mk (PT.node (some (IObj.row (List.cons (IV.map 2) []))) (PT.node (some (IObj.arr cVal p.2)) PT.leaf PT.leaf) (PT.node (some (IObj.tmap (TC.int Go.IntKind.i64) (TC.int Go.IntKind.i64) x2)) PT.leaf PT.leaf)) 3) [] 0)
def R_p_canon_2_in (lf : Nat) (x1 : (List DVal)) (x2 : (List (Int × Int))) (L3 : (Int × (List DVal)) → Option Rt_p_canon_2) : Option Rt_p_canon_2 := (L3 ((Int.ofNat 0), x1))
def R_p_canon_2_3 (lf : Nat) (x1 : (List DVal)) (x2 : (List (Int × Int))) (L3 : (Int × (List DVal)) → Option Rt_p_canon_2) (p : Int × (List DVal)) : Option Rt_p_canon_2 := (cond (iltI p.1 (Int.ofNat (List.length x1))) (match (jget p.2 p.1) with | .none  => none | .some v0 => (match (GetElem?.getElem? p.2 (Int.toNat p.1)) with | .none  => none | .some v1 => (cond (ieqI v1.1 (Int.ofNat 4)) (match (jget p.2 p.1) with | .none  => none | .some v2 => (match (GetElem?.getElem? p.2 (Int.toNat p.1)) with | .none  => none | .some v3 => (L3 ((Go.IntKind.wrap Go.IntKind.i64 (Int.add p.1 (Int.ofNat 1))), (List.set p.2 (Int.toNat p.1) (v3.1, (match (@mfind (TC.int Go.IntKind.i64) (TC.int Go.IntKind.i64) v1.2 x2) with | .none  => (Int.ofNat 0) | .some v33 => v33))))))) (L3 ((Go.IntKind.wrap Go.IntKind.i64 (Int.add p.1 (Int.ofNat 1))), p.2))))) (some ((p.2, ()), ((x2, ()), ()))))
theorem in_p_canon_2 (g : ElP [.dat (.list cVal), .ref [.map (.int .i64) (.int .i64)]] → Option Rt_p_canon_2) (J : Nat → List Nat → NRes → Option Rt_p_canon_2) (lf : Nat) (x1 : (List DVal)) (x2 : (List (Int × Int))) : icodeTB Try.prog ttT.get nm_p_canon_2 (mP [.dat (.list cVal), .ref [.map (.int .i64) (.int .i64)]]) fi102.nt (cl_p_canon_2 _ lf) lf st_p_canon_2 J fi102.body [] (argGo (argsP [.dat (.list cVal), .ref [.map (.int .i64) (.int .i64)]] idN 0 (x1, (x2, ()), ())) 0 .leaf) (Sc [.dat (.list cVal), .ref [.map (.int .i64) (.int .i64)]] (x1, (x2, ()), ())) [] (lastQ ttT.get fi102 ⟨[.dat (.list cVal), .ref [.map (.int .i64) (.int .i64)]], [(true, cVal)], g⟩) = R_p_canon_2_in lf x1 x2 (fun q => J 3 [lf] (enc_p_canon_2_3 x1 x2 q)) := by kernel_rfl
theorem st_p_canon_2_3 (g : ElP [.dat (.list cVal), .ref [.map (.int .i64) (.int .i64)]] → Option Rt_p_canon_2) (J : Nat → List Nat → NRes → Option Rt_p_canon_2) (lf : Nat) (x1 : (List DVal)) (x2 : (List (Int × Int))) (m1 : Nat) (p : Int × (List DVal)) : icodeFTB Try.prog ttT.get nm_p_canon_2 (mP [.dat (.list cVal), .ref [.map (.int .i64) (.int .i64)]]) fi102.nt (cl_p_canon_2 _ lf) lf st_p_canon_2 J 3 fi102.body [] [m1] (enc_p_canon_2_3 x1 x2 p) (lastQ ttT.get fi102 ⟨[.dat (.list cVal), .ref [.map (.int .i64) (.int .i64)]], [(true, cVal)], g⟩) = R_p_canon_2_3 lf x1 x2 (fun q => J 3 [m1] (enc_p_canon_2_3 x1 x2 q)) p := by kernel_rfl
theorem nd_p_canon_2 : (regs fi102.body).Nodup := by decide +kernel
theorem ok_p_canon_2 : okC nm_p_canon_2 st_p_canon_2 hd_p_canon_2 fi102.body none = true := by kernel_rfl
def A_p_canon_2 (g : ElP [.dat (.list cVal), .ref [.map (.int .i64) (.int .i64)]] → Option Rt_p_canon_2) (lf : Nat) : Nat → List Nat → NRes → Option Rt_p_canon_2 := atQ Try.prog ttT.get nm_p_canon_2 fi102 ⟨[.dat (.list cVal), .ref [.map (.int .i64) (.int .i64)]], [(true, cVal)], g⟩ (cl_p_canon_2 _ lf) lf hd_p_canon_2
def G_p_canon_2_3 (lf : Nat) (x1 : (List DVal)) (x2 : (List (Int × Int))) : Nat → (Int × (List DVal)) → Option Rt_p_canon_2 := rounds fun K p => R_p_canon_2_3 lf x1 x2 K p
theorem at_p_canon_2_3 (g : ElP [.dat (.list cVal), .ref [.map (.int .i64) (.int .i64)]] → Option Rt_p_canon_2) (lf : Nat) (x1 : (List DVal)) (x2 : (List (Int × Int))) : ∀ (n : Nat) (p : Int × (List DVal)), A_p_canon_2 g lf 3 [n] (enc_p_canon_2_3 x1 x2 p) = G_p_canon_2_3 lf x1 x2 n p
  | 0, p => atQ_zero 3 [0] rfl _
  | n + 1, p => by
    have ih := at_p_canon_2_3 g lf x1 x2 n
    refine (atQ_eq rfl (icallK_eq 20 _) nd_p_canon_2 ok_p_canon_2 3 [n + 1] [n] rfl _).trans ((st_p_canon_2_3 g (A_p_canon_2 g lf) lf x1 x2 n p).trans ?_)
    rw [(show (fun q => A_p_canon_2 g lf 3 [n] (enc_p_canon_2_3 x1 x2 q)) = (fun q => G_p_canon_2_3 lf x1 x2 n q) from funext ih)]
    rfl
def F_p_canon_2 (lf : Nat) (x1 : (List DVal)) (x2 : (List (Int × Int))) : Option Rt_p_canon_2 := R_p_canon_2_in lf x1 x2 (fun q => G_p_canon_2_3 lf x1 x2 lf q)
theorem run_p_canon_2 (g : ElP [.dat (.list cVal), .ref [.map (.int .i64) (.int .i64)]] → Option Rt_p_canon_2) (lf : Nat) (x1 : (List DVal)) (x2 : (List (Int × Int))) : icodeTB Try.prog ttT.get nm_p_canon_2 (mP [.dat (.list cVal), .ref [.map (.int .i64) (.int .i64)]]) fi102.nt (cl_p_canon_2 _ lf) lf st_p_canon_2 (A_p_canon_2 g lf) fi102.body [] (argGo (argsP [.dat (.list cVal), .ref [.map (.int .i64) (.int .i64)]] idN 0 (x1, (x2, ()), ())) 0 .leaf) (Sc [.dat (.list cVal), .ref [.map (.int .i64) (.int .i64)]] (x1, (x2, ()), ())) [] (lastQ ttT.get fi102 ⟨[.dat (.list cVal), .ref [.map (.int .i64) (.int .i64)]], [(true, cVal)], g⟩) = F_p_canon_2 lf x1 x2 := by
    refine (in_p_canon_2 g (A_p_canon_2 g lf) lf x1 x2).trans ?_
    rw [(show (fun q => A_p_canon_2 g lf 3 [lf] (enc_p_canon_2_3 x1 x2 q)) = (fun q => G_p_canon_2_3 lf x1 x2 lf q) from funext fun q => at_p_canon_2_3 g lf x1 x2 lf q)]
    rfl
theorem hxs_p_canon_2 : HxsOK Try.prog hxl_p_canon_2 := trivial
theorem mk_p_canon_2 {g : ElP [.dat (.list cVal), .ref [.map (.int .i64) (.int .i64)]] → Option Rt_p_canon_2} (hsm : SmOK Try.prog sml_p_canon_2) (hg : ∀ (x : ElP [.dat (.list cVal), .ref [.map (.int .i64) (.int .i64)]]) (y : Rt_p_canon_2), WfP [.dat (.list cVal), .ref [.map (.int .i64) (.int .i64)]] x → g x = some y → ∃ lf, F_p_canon_2 lf x.1 x.2.1.1 = some y) : ConR Try.prog 102 ⟨[.dat (.list cVal), .ref [.map (.int .i64) (.int .i64)]], [(true, cVal)], g⟩ :=
  conTR (nmf := nm_p_canon_2) (sml := sml_p_canon_2) (hxl := hxl_p_canon_2) (st := st_p_canon_2) (hd := hd_p_canon_2) 20 mixed ttOK ftOK hsm hxs_p_canon_2 cal102 (by kernel_rfl) (fun x => by kernel_rfl) nd_p_canon_2 ok_p_canon_2 fun x y z hx hy => by
    obtain ⟨lf, h⟩ := hg x (y, z) hx hy
    exact ⟨lf, (run_p_canon_2 g lf x.1 x.2.1.1).trans h⟩
end Go.Proofs.Ytcnhjofpmpipfaa

end
end

/- The contract of canon's second closure. -/
section
set_option linter.unusedVariables false
namespace Go.Proofs.Ytcnhjofpmpipfaa
open Go Go.Sx Go.RowKit Go.Jx
/-- A number by a table of numbers. -/
def S.numAt (es : List (Int × Int)) (k : Int) : Option Int := @mfind (.int .i64) (.int .i64) k es
def S.movedV (es : List (Int × Int)) (v : DVal) : DVal := if (v : Int × Int).1 = 4 then ((v : Int × Int).1, (S.numAt es (v : Int × Int).2).getD 0) else v
def S.movedL (es : List (Int × Int)) (l : List DVal) : List DVal := l.map (S.movedV es)
def sp_p_canon_2 : SmR := ⟨[.dat (.list cVal), .ref [.map (.int .i64) (.int .i64)]], [(true, cVal)], fun x => some ((S.movedL x.2.1.1 x.1, ()), ((x.2.1.1, ()), ()))⟩
theorem run_canon_2 (l : List DVal) (es : List (Int × Int)) (hl : l.length < LF) : F_p_canon_2 LF l es = some ((S.movedL es l, ()), ((es, ()), ())) := by
  simp only [F_p_canon_2, R_p_canon_2_in]
  refine range0 (α := DVal) (σ := List DVal) (R := Rt_p_canon_2) l (fun i s => (i, s)) (fun i s => s = (l.take i).map (S.movedV es) ++ l.drop i) (fun _ _ _ => some ((S.movedL es l, ()), ((es, ()), ()))) hl (fun K s hs => ?_) (fun K i v rest s hs r hk => ?_) l rfl
  · simp only [R_p_canon_2_3, ilt_self, cond_false]
    rw [hs, List.take_length, List.drop_length, List.append_nil]; rfl
  · have hlen : ((l.take i).map (S.movedV es)).length = i := by rw [List.length_map, List.length_take]; have := r.lt; omega
    have hs2 : s = (l.take i).map (S.movedV es) ++ v :: rest := by rw [hs, r.drop]
    have hg : s[i]? = some v := by rw [hs2, List.getElem?_append_right (by omega), hlen, Nat.sub_self]; rfl
    have hj : jget s (Int.ofNat i) = some v := by rw [jget_nat]; exact hg
    have hset : ∀ v', v' = S.movedV es v → (s.set i v') = (l.take (i + 1)).map (S.movedV es) ++ l.drop (i + 1) := fun v' hv => by
      rw [hs2, List.set_append_right _ _ (by omega), hlen, Nat.sub_self, r.tail, r.take, List.map_append, List.set_cons_zero, hv]
      simp
    have hsame : S.movedV es v = v → s = (l.take (i + 1)).map (S.movedV es) ++ l.drop (i + 1) := fun hv => by
      rw [hs2, r.tail, r.take, List.map_append]
      simp [hv]
    have e2 : Int.toNat (Int.ofNat i) = i := rfl
    simp only [R_p_canon_2_3, r.ilt, cond_true, hj, e2, hg, r.next]
    by_cases h4 : (v : Int × Int).1 = 4
    · have h5 : ieqI (v : Int × Int).1 (Int.ofNat 4) = true := by rw [ieqI_eq]; exact decide_eq_true h4
      simp only [h5, cond_true]
      refine hk _ (hset _ ?_)
      unfold S.movedV
      rw [if_pos h4]
      congr 1
      show _ = (S.numAt es (v : Int × Int).2).getD 0
      unfold S.numAt
      cases @mfind (.int .i64) (.int .i64) (v : Int × Int).2 es <;> rfl
    · have h5 : ieqI (v : Int × Int).1 (Int.ofNat 4) = false := by rw [ieqI_eq]; exact decide_eq_false h4
      simp only [h5, cond_false]
      exact hk _ (hsame (by unfold S.movedV; rw [if_neg h4]))
theorem con_p_canon_2 : ConR Try.prog id_p_canon_2 sp_p_canon_2 := mk_p_canon_2 ⟨con_slices_CloneO_Val, trivial⟩ fun x y hx h => ⟨LF, by
  obtain ⟨l, ⟨es, _⟩, _⟩ := x
  have hl : List.length (α := DVal) l < LF := wf_len hx.1
  exact (run_canon_2 l es hl).trans h⟩
end Go.Proofs.Ytcnhjofpmpipfaa
end

/- The contract of canon's first closure. -/
section
set_option linter.unusedVariables false
namespace Go.Proofs.Ytcnhjofpmpipfaa
open Go Go.Sx Go.RowKit Go.Jx
def S.numSet (es : List (Int × Int)) (k v : Int) : List (Int × Int) := @mset (.int .i64) (.int .i64) k v es
/-- Numbers for objects that have none. -/
def S.meetN : List Int → List (Int × Int) → List Int → Option (List (Int × Int) × List Int)
  | [], es, o => some (es, o)
  | n :: l, es, o => cond (S.numAt es n).isSome (S.meetN l es o) (cond (Nat.ble ((o.length + 1) * 8) 140737488355328) (S.meetN l (S.numSet es n (Int.ofNat o.length)) (o ++ [n])) none)
def sp_p_canon_1 : SmR := ⟨[.dat (.list cVal), .ref [.map (.int .i64) (.int .i64)], .ref [.arr (.int .i64)]], [], fun x => match S.meetN (S.refsL x.1) x.2.1.1 x.2.2.1.1 with
  | none => none
  | some q => some ((), ((q.1, ()), ((q.2, ()), ())))⟩
theorem fold_meet : ∀ (l : List Int) (es : List (Int × Int)) (o : List Int),
    foldN (D := ((List (Int × Int)) × Unit) × ((List Int) × Unit) × Unit) (fun v0 v1 => (cond (Bool.not (match (@mfind (TC.int Go.IntKind.i64) (TC.int Go.IntKind.i64) v1 v0.1.1) with | .none  => Bool.false | .some v2 => Bool.true)) (cond (Nat.ble (Nat.mul (Nat.add (List.length v0.2.1.1) 1) 8) 140737488355328) (some (((@mset (TC.int Go.IntKind.i64) (TC.int Go.IntKind.i64) v1 (Int.ofNat (List.length v0.2.1.1)) v0.1.1), ()), (((List.append v0.2.1.1 (List.cons v1 [])), ()), ()))) none) (some ((v0.1.1, ()), ((v0.2.1.1, ()), ()))))) l ((es, ()), ((o, ()), ()))
      = match S.meetN l es o with
        | none => none
        | some q => some ((q.1, ()), ((q.2, ()), ()))
  | [], es, o => rfl
  | n :: l, es, o => by
    have ih := fold_meet l
    simp only [foldN, S.meetN, S.numAt]
    cases hf : @mfind (TC.int Go.IntKind.i64) (TC.int Go.IntKind.i64) n es with
    | some v =>
      simp only [hf, Bool.not_true, cond_false, Option.isSome_some, cond_true]
      exact ih es o
    | none =>
      simp only [hf, Bool.not_false, cond_true, Option.isSome_none, cond_false]
      cases hb : Nat.ble ((o.length + 1) * 8) 140737488355328 with
      | false =>
        have hb2 : Nat.ble (Nat.mul (Nat.add o.length 1) 8) 140737488355328 = false := hb
        simp only [hb2, cond_false]
        all_goals rfl
      | true =>
        have hb2 : Nat.ble (Nat.mul (Nat.add o.length 1) 8) 140737488355328 = true := hb
        simp only [hb2, cond_true]
        exact ih _ _
theorem con_p_canon_1 : ConR Try.prog id_p_canon_1 sp_p_canon_1 := mk_p_canon_1 trivial fun x y hx h => ⟨0, by
  obtain ⟨l, ⟨es, _⟩, ⟨o, _⟩, _⟩ := x
  have h : (match S.meetN (S.refsL l) es o with
    | none => none
    | some q => some ((), ((q.1, ()), ((q.2, ()), ())))) = some y := h
  simp only [F_p_canon_1, R_p_canon_1_in]
  have e := fold_meet (S.refsL l) es o
  cases hm : S.meetN (S.refsL l) es o with
  | none => rw [hm] at h; cases h
  | some q =>
    rw [hm] at h e
    refine Eq.trans ?_ h
    exact congrArg (fun a : Option (((List (Int × Int)) × Unit) × ((List Int) × Unit) × Unit) => (match a with | .none => none | .some v3 => some ((), ((v3.1.1, ()), ((v3.2.1.1, ()), ()))) : Option Rt_p_canon_1)) e⟩
end Go.Proofs.Ytcnhjofpmpipfaa
end

/- Made by program: plain forms of functions. -/
section
set_option linter.unusedVariables false
set_option maxRecDepth 100000
noncomputable section
namespace Go.Proofs.Ytcnhjofpmpipfaa
open Go Go.Sx Go.RowKit Go.Jx
def nm_p_canon : Nat → Option Nm := fun k => cond (Nat.beq k 7) (some ⟨[1, 2, 4, 5, 6, 7], [], [(5, 0, (.int .i64))], [], [(4, 0, (.int .i64), (.int .i64))], 0, 0, false⟩) (cond (Nat.beq k 12) (some ⟨[1, 2, 4, 8, 9, 45, 46, 47], [(45, (.int .i64))], [(9, 0, cNode), (9, 1, cVal)], [], [(4, 0, (.int .i64), (.int .i64))], 0, 0, false⟩) (cond (Nat.beq k 18) (some ⟨[2, 4, 9, 12, 74, 75], [(12, (.int .i64))], [(9, 0, cNode), (9, 1, cVal)], [], [(4, 0, (.int .i64), (.int .i64))], 0, 0, false⟩) (none)))
def st_p_canon : Nat → Bool := fun k => cond (Nat.beq k 7) true (cond (Nat.beq k 12) true (cond (Nat.beq k 18) true (false)))
def hd_p_canon : Nat → Bool := fun k => cond (Nat.beq k 7) true (cond (Nat.beq k 12) true (cond (Nat.beq k 18) true (false)))
abbrev Rt_p_canon : Type := DGraph × (List Int) × Unit
def sml_p_canon : List (Nat × Sm) := []
def hxl_p_canon : List (Nat × Hx) := [(100, hxR sp_p_canon_1), (102, hxR sp_p_canon_2)]
def cl_p_canon (R : Type) (lf : Nat) : ClK R := icallK Try.prog ttT.get ftT.get (nm1 62 nm_p_canon) (smL sml_p_canon) (hxL hxl_p_canon) lf 20 R
abbrev id_p_canon : Nat := 62
def enc_p_canon_7 (x1 : DGraph) (p : (List (Int × Int)) × (List Int) × Int) : NRes := (NRes.mk (PT.node none (PT.node (some (IV.ptr 0 0)) (PT.node none (PT.node (some (IV.int Go.IntKind.i64 p.2.2)) PT.leaf PT.leaf) PT.leaf) (PT.node (some (IV.ptr 3 0)) PT.leaf PT.leaf)) (PT.node (some (IV.ptr 1 0)) (PT.node (some (IV.ptr 2 0)) PT.leaf PT.leaf) (PT.node (some (IV.fn 100 (List.cons (IV.ptr 2 0) (List.cons (IV.ptr 3 0) [])))) PT.leaf PT.leaf))) (IS.mk (PT.node (some (IObj.row (List.cons (IV.lst cNode x1.1) (List.cons (IV.lst cVal x1.2) [])))) (PT.node (some (IObj.row (List.cons IV.nilsl (List.cons IV.nilsl [])))) (PT.node (some (IObj.row (List.cons (IV.arr 5) []))) PT.leaf PT.leaf) (PT.node (some (IObj.arr (TC.int Go.IntKind.i64) p.2.1)) PT.leaf PT.leaf)) (PT.node (some (IObj.row (List.cons (IV.map 4) []))) (PT.node (some (IObj.tmap (TC.int Go.IntKind.i64) (TC.int Go.IntKind.i64) p.1)) PT.leaf PT.leaf) PT.leaf)) 6) [] 0)
def enc_p_canon_12 (x1 : DGraph) (p : (List (Int × Int)) × (List Int) × Int × (List DNode)) : NRes := (NRes.mk (PT.node none (PT.node (some (IV.ptr 0 0)) (PT.node none (PT.node none (PT.node none PT.leaf (PT.node (some (IV.int Go.IntKind.i64 p.2.2.1)) PT.leaf PT.leaf)) PT.leaf) PT.leaf) (PT.node none (PT.node (some (IV.ptr 3 0)) PT.leaf PT.leaf) (PT.node none PT.leaf (PT.node none (PT.node (some (IV.arr 4)) PT.leaf PT.leaf) PT.leaf)))) (PT.node (some (IV.ptr 1 0)) (PT.node (some (IV.ptr 2 0)) (PT.node (some (IV.fn 102 (List.cons (IV.ptr 2 0) []))) PT.leaf PT.leaf) PT.leaf) (PT.node none PT.leaf (PT.node none PT.leaf (PT.node none (PT.node (some (IV.int Go.IntKind.i64 (Int.ofNat (List.length p.2.1)))) PT.leaf PT.leaf) PT.leaf))))) (IS.mk (PT.node (some (IObj.row (List.cons (IV.lst cNode x1.1) (List.cons (IV.lst cVal x1.2) [])))) (PT.node (some (IObj.row (List.cons IV.nilsl (List.cons IV.nilsl [])))) (PT.node (some (IObj.row (List.cons (IV.arr 6) (List.cons (IV.arr 7) [])))) (PT.node (some (IObj.arr cVal (Go.Proofs.Ytcnhjofpmpipfaa.S.movedL p.1 x1.2))) PT.leaf PT.leaf) PT.leaf) (PT.node (some (IObj.tmap (TC.int Go.IntKind.i64) (TC.int Go.IntKind.i64) p.1)) PT.leaf PT.leaf)) (PT.node (some (IObj.row (List.cons (IV.map 5) []))) (PT.node (some (IObj.arr (TC.int Go.IntKind.i64) p.2.1)) PT.leaf PT.leaf) (PT.node (some (IObj.arr cNode p.2.2.2)) PT.leaf PT.leaf))) 8) [] 0)
def enc_p_canon_18 (x1 : DGraph) (p : (List (Int × Int)) × (List DNode) × Int × (List Int)) : NRes := (NRes.mk (PT.node none (PT.node none (PT.node none PT.leaf (PT.node none PT.leaf (PT.node none (PT.node none (PT.node (some (IV.int Go.IntKind.i64 p.2.2.1)) PT.leaf PT.leaf) PT.leaf) PT.leaf))) (PT.node none (PT.node (some (IV.ptr 2 0)) PT.leaf PT.leaf) PT.leaf)) (PT.node (some (IV.ptr 0 0)) (PT.node (some (IV.ptr 1 0)) PT.leaf (PT.node (some (IV.arr 3)) PT.leaf PT.leaf)) (PT.node none (PT.node none PT.leaf (PT.node none (PT.node none (PT.node (some (IV.int Go.IntKind.i64 (Int.ofNat (List.length x1.1)))) PT.leaf PT.leaf) PT.leaf) PT.leaf)) PT.leaf))) (IS.mk (PT.node (some (IObj.row (List.cons IV.nilsl (List.cons IV.nilsl [])))) (PT.node (some (IObj.row (List.cons (IV.map 4) []))) (PT.node (some (IObj.arr (TC.int Go.IntKind.i64) p.2.2.2)) PT.leaf PT.leaf) (PT.node (some (IObj.arr cNode p.2.1)) PT.leaf PT.leaf)) (PT.node (some (IObj.row (List.cons (IV.arr 5) (List.cons (IV.arr 6) [])))) (PT.node (some (IObj.tmap (TC.int Go.IntKind.i64) (TC.int Go.IntKind.i64) p.1)) PT.leaf PT.leaf) (PT.node (some (IObj.arr cVal (Go.Proofs.Ytcnhjofpmpipfaa.S.movedL p.1 x1.2))) PT.leaf PT.leaf))) 7) [] 0)
def R_p_canon_in (lf : Nat) (x1 : DGraph) (L7 : ((List (Int × Int)) × (List Int) × Int) → Option Rt_p_canon) : Option Rt_p_canon := (match (match (Go.Proofs.Ytcnhjofpmpipfaa.S.meetN (Go.Proofs.Ytcnhjofpmpipfaa.S.refsL x1.2) [] []) with | .none  => none | .some v0 => (some ((), ((v0.1, ()), ((v0.2, ()), ()))))) with | .none  => none | .some v1 => (L7 (v1.2.1.1, v1.2.2.1.1, (Int.ofNat 0))))
def R_p_canon_7 (lf : Nat) (x1 : DGraph) (L12 : ((List (Int × Int)) × (List Int) × Int × (List DNode)) → Option Rt_p_canon) (L7 : ((List (Int × Int)) × (List Int) × Int) → Option Rt_p_canon) (p : (List (Int × Int)) × (List Int) × Int) : Option Rt_p_canon := (cond (ieqI p.2.2 (Int.ofNat (List.length p.2.1))) (L12 (p.1, p.2.1, (Int.ofNat 0), [])) (match (jget p.2.1 p.2.2) with | .none  => none | .some v2 => (match (GetElem?.getElem? p.2.1 (Int.toNat p.2.2)) with | .none  => none | .some v3 => (match (jget x1.1 v3) with | .none  => none | .some v4 => (match (match (Go.Proofs.Ytcnhjofpmpipfaa.S.meetN (Go.Proofs.Ytcnhjofpmpipfaa.S.refsL v4.2) p.1 p.2.1) with | .none  => none | .some v5 => (some ((), ((v5.1, ()), ((v5.2, ()), ()))))) with | .none  => none | .some v6 => (L7 (v6.2.1.1, v6.2.2.1.1, (Go.IntKind.wrap Go.IntKind.i64 (Int.add p.2.2 (Int.ofNat 1))))))))))
def R_p_canon_12 (lf : Nat) (x1 : DGraph) (L12 : ((List (Int × Int)) × (List Int) × Int × (List DNode)) → Option Rt_p_canon) (L18 : ((List (Int × Int)) × (List DNode) × Int × (List Int)) → Option Rt_p_canon) (p : (List (Int × Int)) × (List Int) × Int × (List DNode)) : Option Rt_p_canon := (cond (iltI p.2.2.1 (Int.ofNat (List.length p.2.1))) (match (jget p.2.1 p.2.2.1) with | .none  => none | .some v0 => (match (GetElem?.getElem? p.2.1 (Int.toNat p.2.2.1)) with | .none  => none | .some v1 => (match (jget x1.1 v1) with | .none  => none | .some v2 => (match (jget x1.1 v1) with | .none  => none | .some v3 => (cond (Nat.ble (Nat.mul (Nat.add (List.length p.2.2.2) 1) 40) 140737488355328) (L12 (p.1, p.2.1, (Go.IntKind.wrap Go.IntKind.i64 (Int.add p.2.2.1 (Int.ofNat 1))), (List.append p.2.2.2 (List.cons (v2.1, (Go.Proofs.Ytcnhjofpmpipfaa.S.movedL p.1 v3.2)) [])))) none))))) (L18 (p.1, p.2.2.2, (Int.ofNat 0), [])))
def R_p_canon_18 (lf : Nat) (x1 : DGraph) (L18 : ((List (Int × Int)) × (List DNode) × Int × (List Int)) → Option Rt_p_canon) (p : (List (Int × Int)) × (List DNode) × Int × (List Int)) : Option Rt_p_canon := (cond (iltI p.2.2.1 (Int.ofNat (List.length x1.1))) (cond (Bool.not (match (@mfind (TC.int Go.IntKind.i64) (TC.int Go.IntKind.i64) p.2.2.1 p.1) with | .none  => Bool.false | .some v0 => Bool.true)) (cond (Nat.ble (Nat.mul (Nat.add (List.length p.2.2.2) 1) 8) 140737488355328) (L18 (p.1, p.2.1, (Go.IntKind.wrap Go.IntKind.i64 (Int.add p.2.2.1 (Int.ofNat 1))), (List.append p.2.2.2 (List.cons (Int.negSucc 0) [])))) none) (cond (Nat.ble (Nat.mul (Nat.add (List.length p.2.2.2) 1) 8) 140737488355328) (L18 (p.1, p.2.1, (Go.IntKind.wrap Go.IntKind.i64 (Int.add p.2.2.1 (Int.ofNat 1))), (List.append p.2.2.2 (List.cons (match (@mfind (TC.int Go.IntKind.i64) (TC.int Go.IntKind.i64) p.2.2.1 p.1) with | .none  => (Int.ofNat 0) | .some v29 => v29) [])))) none)) (some ((p.2.1, (Go.Proofs.Ytcnhjofpmpipfaa.S.movedL p.1 x1.2)), (p.2.2.2, ()))))
theorem in_p_canon (g : ElA [cGraph] → Option Rt_p_canon) (J : Nat → List Nat → NRes → Option Rt_p_canon) (lf : Nat) (x1 : DGraph) : icodeT Try.prog ttT.get nm_p_canon fi62.nt (cl_p_canon _ lf) lf st_p_canon J fi62.body [] (argGo (argV [cGraph] (x1, ())) 0 .leaf) S0 [] (lastK ttT.get fi62 ⟨[cGraph], [(false, cGraph), (false, (.list (.int .i64)))], g⟩) = R_p_canon_in lf x1 (fun q => J 7 [lf] (enc_p_canon_7 x1 q)) := by kernel_rfl
theorem st_p_canon_7 (g : ElA [cGraph] → Option Rt_p_canon) (J : Nat → List Nat → NRes → Option Rt_p_canon) (lf : Nat) (x1 : DGraph) (m1 : Nat) (p : (List (Int × Int)) × (List Int) × Int) : icodeFT Try.prog ttT.get nm_p_canon fi62.nt (cl_p_canon _ lf) lf st_p_canon J 7 fi62.body [] [m1] (enc_p_canon_7 x1 p) (lastK ttT.get fi62 ⟨[cGraph], [(false, cGraph), (false, (.list (.int .i64)))], g⟩) = R_p_canon_7 lf x1 (fun q => J 12 [lf] (enc_p_canon_12 x1 q)) (fun q => J 7 [m1] (enc_p_canon_7 x1 q)) p := by kernel_rfl
theorem st_p_canon_12 (g : ElA [cGraph] → Option Rt_p_canon) (J : Nat → List Nat → NRes → Option Rt_p_canon) (lf : Nat) (x1 : DGraph) (m1 : Nat) (p : (List (Int × Int)) × (List Int) × Int × (List DNode)) : icodeFT Try.prog ttT.get nm_p_canon fi62.nt (cl_p_canon _ lf) lf st_p_canon J 12 fi62.body [] [m1] (enc_p_canon_12 x1 p) (lastK ttT.get fi62 ⟨[cGraph], [(false, cGraph), (false, (.list (.int .i64)))], g⟩) = R_p_canon_12 lf x1 (fun q => J 12 [m1] (enc_p_canon_12 x1 q)) (fun q => J 18 [lf] (enc_p_canon_18 x1 q)) p := by kernel_rfl
theorem st_p_canon_18 (g : ElA [cGraph] → Option Rt_p_canon) (J : Nat → List Nat → NRes → Option Rt_p_canon) (lf : Nat) (x1 : DGraph) (m1 : Nat) (p : (List (Int × Int)) × (List DNode) × Int × (List Int)) : icodeFT Try.prog ttT.get nm_p_canon fi62.nt (cl_p_canon _ lf) lf st_p_canon J 18 fi62.body [] [m1] (enc_p_canon_18 x1 p) (lastK ttT.get fi62 ⟨[cGraph], [(false, cGraph), (false, (.list (.int .i64)))], g⟩) = R_p_canon_18 lf x1 (fun q => J 18 [m1] (enc_p_canon_18 x1 q)) p := by kernel_rfl
theorem nd_p_canon : (regs fi62.body).Nodup := by decide +kernel
theorem ok_p_canon : okC nm_p_canon st_p_canon hd_p_canon fi62.body none = true := by kernel_rfl
def A_p_canon (g : ElA [cGraph] → Option Rt_p_canon) (lf : Nat) : Nat → List Nat → NRes → Option Rt_p_canon := atN Try.prog ttT.get nm_p_canon fi62 ⟨[cGraph], [(false, cGraph), (false, (.list (.int .i64)))], g⟩ (cl_p_canon _ lf) lf hd_p_canon
def G_p_canon_18 (lf : Nat) (x1 : DGraph) : Nat → ((List (Int × Int)) × (List DNode) × Int × (List Int)) → Option Rt_p_canon := rounds fun K p => R_p_canon_18 lf x1 K p
theorem at_p_canon_18 (g : ElA [cGraph] → Option Rt_p_canon) (lf : Nat) (x1 : DGraph) : ∀ (n : Nat) (p : (List (Int × Int)) × (List DNode) × Int × (List Int)), A_p_canon g lf 18 [n] (enc_p_canon_18 x1 p) = G_p_canon_18 lf x1 n p
  | 0, p => atN_zero 18 [0] rfl _
  | n + 1, p => by
    have ih := at_p_canon_18 g lf x1 n
    refine (atN_eq (icallK_eq 20 _) nd_p_canon ok_p_canon 18 [n + 1] [n] rfl _).trans ((st_p_canon_18 g (A_p_canon g lf) lf x1 n p).trans ?_)
    rw [(show (fun q => A_p_canon g lf 18 [n] (enc_p_canon_18 x1 q)) = (fun q => G_p_canon_18 lf x1 n q) from funext ih)]
    rfl
def G_p_canon_12 (lf : Nat) (x1 : DGraph) : Nat → ((List (Int × Int)) × (List Int) × Int × (List DNode)) → Option Rt_p_canon := rounds fun K p => R_p_canon_12 lf x1 K (fun q => G_p_canon_18 lf x1 lf q) p
theorem at_p_canon_12 (g : ElA [cGraph] → Option Rt_p_canon) (lf : Nat) (x1 : DGraph) : ∀ (n : Nat) (p : (List (Int × Int)) × (List Int) × Int × (List DNode)), A_p_canon g lf 12 [n] (enc_p_canon_12 x1 p) = G_p_canon_12 lf x1 n p
  | 0, p => atN_zero 12 [0] rfl _
  | n + 1, p => by
    have ih := at_p_canon_12 g lf x1 n
    refine (atN_eq (icallK_eq 20 _) nd_p_canon ok_p_canon 12 [n + 1] [n] rfl _).trans ((st_p_canon_12 g (A_p_canon g lf) lf x1 n p).trans ?_)
    rw [(show (fun q => A_p_canon g lf 18 [lf] (enc_p_canon_18 x1 q)) = (fun q => G_p_canon_18 lf x1 lf q) from funext fun q => at_p_canon_18 g lf x1 lf q), (show (fun q => A_p_canon g lf 12 [n] (enc_p_canon_12 x1 q)) = (fun q => G_p_canon_12 lf x1 n q) from funext ih)]
    rfl
def G_p_canon_7 (lf : Nat) (x1 : DGraph) : Nat → ((List (Int × Int)) × (List Int) × Int) → Option Rt_p_canon := rounds fun K p => R_p_canon_7 lf x1 (fun q => G_p_canon_12 lf x1 lf q) K p
theorem at_p_canon_7 (g : ElA [cGraph] → Option Rt_p_canon) (lf : Nat) (x1 : DGraph) : ∀ (n : Nat) (p : (List (Int × Int)) × (List Int) × Int), A_p_canon g lf 7 [n] (enc_p_canon_7 x1 p) = G_p_canon_7 lf x1 n p
  | 0, p => atN_zero 7 [0] rfl _
  | n + 1, p => by
    have ih := at_p_canon_7 g lf x1 n
    refine (atN_eq (icallK_eq 20 _) nd_p_canon ok_p_canon 7 [n + 1] [n] rfl _).trans ((st_p_canon_7 g (A_p_canon g lf) lf x1 n p).trans ?_)
    rw [(show (fun q => A_p_canon g lf 12 [lf] (enc_p_canon_12 x1 q)) = (fun q => G_p_canon_12 lf x1 lf q) from funext fun q => at_p_canon_12 g lf x1 lf q), (show (fun q => A_p_canon g lf 7 [n] (enc_p_canon_7 x1 q)) = (fun q => G_p_canon_7 lf x1 n q) from funext ih)]
    rfl
def F_p_canon (lf : Nat) (x1 : DGraph) : Option Rt_p_canon := R_p_canon_in lf x1 (fun q => G_p_canon_7 lf x1 lf q)
theorem run_p_canon (g : ElA [cGraph] → Option Rt_p_canon) (lf : Nat) (x1 : DGraph) : icodeT Try.prog ttT.get nm_p_canon fi62.nt (cl_p_canon _ lf) lf st_p_canon (A_p_canon g lf) fi62.body [] (argGo (argV [cGraph] (x1, ())) 0 .leaf) S0 [] (lastK ttT.get fi62 ⟨[cGraph], [(false, cGraph), (false, (.list (.int .i64)))], g⟩) = F_p_canon lf x1 := by
    refine (in_p_canon g (A_p_canon g lf) lf x1).trans ?_
    rw [(show (fun q => A_p_canon g lf 7 [lf] (enc_p_canon_7 x1 q)) = (fun q => G_p_canon_7 lf x1 lf q) from funext fun q => at_p_canon_7 g lf x1 lf q)]
    rfl
theorem hxs_p_canon (hr_p_canon_1 : ConR Try.prog 100 sp_p_canon_1) (hr_p_canon_2 : ConR Try.prog 102 sp_p_canon_2) : HxsOK Try.prog hxl_p_canon := ⟨hxR_ok hr_p_canon_1, ⟨hxR_ok hr_p_canon_2, trivial⟩⟩
theorem mk_p_canon {g : ElA [cGraph] → Option Rt_p_canon} (hsm : SmOK Try.prog sml_p_canon) (hr_p_canon_1 : ConR Try.prog 100 sp_p_canon_1) (hr_p_canon_2 : ConR Try.prog 102 sp_p_canon_2) (hg : ∀ (x : ElA [cGraph]) (y : Rt_p_canon), WfA [cGraph] x → g x = some y → ∃ lf, F_p_canon lf x.1 = some y) : Con Try.prog 62 ⟨[cGraph], [(false, cGraph), (false, (.list (.int .i64)))], g⟩ :=
  conT (nmf := nm_p_canon) (sml := sml_p_canon) (hxl := hxl_p_canon) (st := st_p_canon) (hd := hd_p_canon) 20 mixed ttOK ftOK hsm (hxs_p_canon hr_p_canon_1 hr_p_canon_2) cal62 rfl rfl (by kernel_rfl) (fun x => by kernel_rfl) nd_p_canon ok_p_canon fun x y hx hy => by
    obtain ⟨lf, h⟩ := hg x y hx hy
    exact ⟨lf, (run_p_canon g lf x.1).trans h⟩
end Go.Proofs.Ytcnhjofpmpipfaa

end
end

/- The contract of pack.canon: its plain form. -/
section
set_option linter.unusedVariables false
namespace Go.Proofs.Ytcnhjofpmpipfaa
open Go Go.Sx Go.RowKit Go.Jx
noncomputable def S.canonO (g : DGraph) : Option (DGraph × List Int × Unit) := F_p_canon LF g
noncomputable def sp_p_canon : Sm := ⟨[cGraph], [(false, cGraph), (false, .list (.int .i64))], fun x => S.canonO x.1⟩
theorem con_p_canon : Con Try.prog id_p_canon sp_p_canon := mk_p_canon trivial con_p_canon_1 con_p_canon_2 fun x y hx h => ⟨LF, h⟩
end Go.Proofs.Ytcnhjofpmpipfaa
end

/- The calls of slices.IndexFunc and of strings.IndexFunc. -/
section
set_option linter.unusedVariables false
set_option maxRecDepth 100000
noncomputable section
namespace Go.Proofs.Ytcnhjofpmpipfaa
open Go Go.Sx Go.RowKit Go.Jx
theorem ixF114 : IdxFacts Try.prog ttT.get cRule fi114 (cL fb114) (cL (cL (cR fb114))) (cB (cB (cR (cL (cR fb114))))) (cR (cR fb114)) :=
  ⟨by kernel_rfl, by kernel_rfl, fun mr => by kernel_rfl, fun R clK B0 mr lf l g caps S kk => by kernel_rfl, fun R clK B0 mr lf l g caps S kk => by kernel_rfl, fun R clK B0 mr lf l g caps S i kk => by kernel_rfl, fun R clK B0 mr lf fr S kk => by kernel_rfl, by kernel_rfl, by kernel_rfl, fun mr => by kernel_rfl⟩
theorem ixO114 : HxOK Try.prog 114 (idxF cRule) := idx_ok ixF114 mixed ttOK fo114
theorem ixF125 : IdxFacts Try.prog ttT.get cForm fi125 (cL fb125) (cL (cL (cR fb125))) (cB (cB (cR (cL (cR fb125))))) (cR (cR fb125)) :=
  ⟨by kernel_rfl, by kernel_rfl, fun mr => by kernel_rfl, fun R clK B0 mr lf l g caps S kk => by kernel_rfl, fun R clK B0 mr lf l g caps S kk => by kernel_rfl, fun R clK B0 mr lf l g caps S i kk => by kernel_rfl, fun R clK B0 mr lf fr S kk => by kernel_rfl, by kernel_rfl, by kernel_rfl, fun mr => by kernel_rfl⟩
theorem ixO125 : HxOK Try.prog 125 (idxF cForm) := idx_ok ixF125 mixed ttOK fo125
theorem ixF135 : IdxFacts Try.prog ttT.get cNode fi135 (cL fb135) (cL (cL (cR fb135))) (cB (cB (cR (cL (cR fb135))))) (cR (cR fb135)) :=
  ⟨by kernel_rfl, by kernel_rfl, fun mr => by kernel_rfl, fun R clK B0 mr lf l g caps S kk => by kernel_rfl, fun R clK B0 mr lf l g caps S kk => by kernel_rfl, fun R clK B0 mr lf l g caps S i kk => by kernel_rfl, fun R clK B0 mr lf fr S kk => by kernel_rfl, by kernel_rfl, by kernel_rfl, fun mr => by kernel_rfl⟩
theorem ixO135 : HxOK Try.prog 135 (idxF cNode) := idx_ok ixF135 mixed ttOK fo135
theorem ixF137 : IdxFacts Try.prog ttT.get cVal fi137 (cL fb137) (cL (cL (cR fb137))) (cB (cB (cR (cL (cR fb137))))) (cR (cR fb137)) :=
  ⟨by kernel_rfl, by kernel_rfl, fun mr => by kernel_rfl, fun R clK B0 mr lf l g caps S kk => by kernel_rfl, fun R clK B0 mr lf l g caps S kk => by kernel_rfl, fun R clK B0 mr lf l g caps S i kk => by kernel_rfl, fun R clK B0 mr lf fr S kk => by kernel_rfl, by kernel_rfl, by kernel_rfl, fun mr => by kernel_rfl⟩
theorem ixO137 : HxOK Try.prog 137 (idxF cVal) := idx_ok ixF137 mixed ttOK fo137
theorem sxF143 : SixFacts Try.prog ttT.get fi143 (cL fb143) (cL (cL (cR fb143))) (cB (cB (cR (cL (cR fb143))))) (cR (cR fb143)) :=
  ⟨by kernel_rfl, by kernel_rfl, fun mr mw => by kernel_rfl, fun R clK B0 mr mw lf s g caps b S kk => by kernel_rfl, fun R B0 mr mw lf g caps b a id rd S S' test kk => by kernel_rfl, fun R clK B0 mr mw lf fr S kk => by kernel_rfl, by kernel_rfl, by kernel_rfl, fun mr mw => by kernel_rfl⟩
theorem ixO143 : HxOK Try.prog 143 sixF := six_ok sxF143 mixed ttOK fo143
theorem ixF144 : IdxFacts Try.prog ttT.get cCol fi144 (cL fb144) (cL (cL (cR fb144))) (cB (cB (cR (cL (cR fb144))))) (cR (cR fb144)) :=
  ⟨by kernel_rfl, by kernel_rfl, fun mr => by kernel_rfl, fun R clK B0 mr lf l g caps S kk => by kernel_rfl, fun R clK B0 mr lf l g caps S kk => by kernel_rfl, fun R clK B0 mr lf l g caps S i kk => by kernel_rfl, fun R clK B0 mr lf fr S kk => by kernel_rfl, by kernel_rfl, by kernel_rfl, fun mr => by kernel_rfl⟩
theorem ixO144 : HxOK Try.prog 144 (idxF cCol) := idx_ok ixF144 mixed ttOK fo144
end Go.Proofs.Ytcnhjofpmpipfaa

end
end

/- Made by program: plain forms of functions. -/
section
set_option linter.unusedVariables false
set_option maxRecDepth 100000
noncomputable section
namespace Go.Proofs.Ytcnhjofpmpipfaa
open Go Go.Sx Go.RowKit Go.Jx
def nm_p_within : Nat → Option Nm := fun k => none
def st_p_within : Nat → Bool := fun k => false
def hd_p_within : Nat → Bool := fun k => false
abbrev Rt_p_within : Type := Bool × Unit
def sml_p_within : List (Nat × Sm) := []
def hxl_p_within : List (Nat × Hx) := []
def cl_p_within (R : Type) (lf : Nat) : ClK R := icallK Try.prog ttT.get ftT.get (nm1 83 nm_p_within) (smL sml_p_within) (hxL hxl_p_within) lf 20 R
abbrev id_p_within : Nat := 83
def R_p_within_in (lf : Nat) (x1 : Int) (x2 : Int) (x3 : Int) : Option Rt_p_within := (cond (Bool.not (iltI x1 x2)) (some ((Bool.not (iltI x3 x1)), ())) (some (Bool.false, ())))
theorem in_p_within (g : ElA [(.int .i64), (.int .i64), (.int .i64)] → Option Rt_p_within) (J : Nat → List Nat → NRes → Option Rt_p_within) (lf : Nat) (x1 : Int) (x2 : Int) (x3 : Int) : icodeT Try.prog ttT.get nm_p_within fi83.nt (cl_p_within _ lf) lf st_p_within J fi83.body [] (argGo (argV [(.int .i64), (.int .i64), (.int .i64)] (x1, x2, x3, ())) 0 .leaf) S0 [] (lastK ttT.get fi83 ⟨[(.int .i64), (.int .i64), (.int .i64)], [(false, .bool)], g⟩) = R_p_within_in lf x1 x2 x3 := by kernel_rfl
theorem nd_p_within : (regs fi83.body).Nodup := by decide +kernel
theorem ok_p_within : okC nm_p_within st_p_within hd_p_within fi83.body none = true := by kernel_rfl
def A_p_within (g : ElA [(.int .i64), (.int .i64), (.int .i64)] → Option Rt_p_within) (lf : Nat) : Nat → List Nat → NRes → Option Rt_p_within := atN Try.prog ttT.get nm_p_within fi83 ⟨[(.int .i64), (.int .i64), (.int .i64)], [(false, .bool)], g⟩ (cl_p_within _ lf) lf hd_p_within
def F_p_within (lf : Nat) (x1 : Int) (x2 : Int) (x3 : Int) : Option Rt_p_within := R_p_within_in lf x1 x2 x3
theorem run_p_within (g : ElA [(.int .i64), (.int .i64), (.int .i64)] → Option Rt_p_within) (lf : Nat) (x1 : Int) (x2 : Int) (x3 : Int) : icodeT Try.prog ttT.get nm_p_within fi83.nt (cl_p_within _ lf) lf st_p_within (A_p_within g lf) fi83.body [] (argGo (argV [(.int .i64), (.int .i64), (.int .i64)] (x1, x2, x3, ())) 0 .leaf) S0 [] (lastK ttT.get fi83 ⟨[(.int .i64), (.int .i64), (.int .i64)], [(false, .bool)], g⟩) = F_p_within lf x1 x2 x3 := by
    refine (in_p_within g (A_p_within g lf) lf x1 x2 x3).trans ?_
    rfl
theorem hxs_p_within : HxsOK Try.prog hxl_p_within := trivial
theorem mk_p_within {g : ElA [(.int .i64), (.int .i64), (.int .i64)] → Option Rt_p_within} (hsm : SmOK Try.prog sml_p_within) (hg : ∀ (x : ElA [(.int .i64), (.int .i64), (.int .i64)]) (y : Rt_p_within), WfA [(.int .i64), (.int .i64), (.int .i64)] x → g x = some y → ∃ lf, F_p_within lf x.1 x.2.1 x.2.2.1 = some y) : Con Try.prog 83 ⟨[(.int .i64), (.int .i64), (.int .i64)], [(false, .bool)], g⟩ :=
  conT (nmf := nm_p_within) (sml := sml_p_within) (hxl := hxl_p_within) (st := st_p_within) (hd := hd_p_within) 20 mixed ttOK ftOK hsm hxs_p_within cal83 rfl rfl (by kernel_rfl) (fun x => by kernel_rfl) nd_p_within ok_p_within fun x y hx hy => by
    obtain ⟨lf, h⟩ := hg x y hx hy
    exact ⟨lf, (run_p_within g lf x.1 x.2.1 x.2.2.1).trans h⟩
def nm_p_first : Nat → Option Nm := fun k => cond (Nat.beq k 2) (some ⟨[5, 6, 7], [], [], [], [], 0, 0, false⟩) (none)
def st_p_first : Nat → Bool := fun k => cond (Nat.beq k 2) true (false)
def hd_p_first : Nat → Bool := fun k => cond (Nat.beq k 2) true (false)
abbrev Rt_p_first : Type := Int × Unit
def sml_p_first : List (Nat × Sm) := []
def hxl_p_first : List (Nat × Hx) := []
def cl_p_first (R : Type) (lf : Nat) : ClK R := icallK Try.prog ttT.get ftT.get (nm1 49 nm_p_first) (smL sml_p_first) (hxL hxl_p_first) lf 20 R
abbrev id_p_first : Nat := 49
def enc_p_first_2 (x1 : (List Int)) (p : Int) : NRes := (NRes.mk (PT.node none (PT.node none (PT.node none (PT.node (some (IV.int Go.IntKind.i64 p)) PT.leaf PT.leaf) PT.leaf) (PT.node (some (IV.lst (TC.int Go.IntKind.i64) x1)) PT.leaf PT.leaf)) (PT.node none PT.leaf (PT.node (some (IV.int Go.IntKind.i64 (Int.ofNat (List.length x1)))) PT.leaf PT.leaf))) (IS.mk PT.leaf 0) [] 0)
def R_p_first_in (lf : Nat) (x1 : (List Int)) (L2 : Int → Option Rt_p_first) : Option Rt_p_first := (L2 (Int.ofNat 0))
def R_p_first_2 (lf : Nat) (x1 : (List Int)) (L2 : Int → Option Rt_p_first) (p : Int) : Option Rt_p_first := (cond (iltI p (Int.ofNat (List.length x1))) (match (jget x1 p) with | .none  => none | .some v0 => (cond (Bool.not (ieqI v0 (Int.ofNat 0))) (some (v0, ())) (L2 (Go.IntKind.wrap Go.IntKind.i64 (Int.add p (Int.ofNat 1)))))) (some ((Int.ofNat 0), ())))
theorem in_p_first (g : ElA [(.list (.int .i64))] → Option Rt_p_first) (J : Nat → List Nat → NRes → Option Rt_p_first) (lf : Nat) (x1 : (List Int)) : icodeT Try.prog ttT.get nm_p_first fi49.nt (cl_p_first _ lf) lf st_p_first J fi49.body [] (argGo (argV [(.list (.int .i64))] (x1, ())) 0 .leaf) S0 [] (lastK ttT.get fi49 ⟨[(.list (.int .i64))], [(false, (.int .i64))], g⟩) = R_p_first_in lf x1 (fun q => J 2 [lf] (enc_p_first_2 x1 q)) := by kernel_rfl
theorem st_p_first_2 (g : ElA [(.list (.int .i64))] → Option Rt_p_first) (J : Nat → List Nat → NRes → Option Rt_p_first) (lf : Nat) (x1 : (List Int)) (m1 : Nat) (p : Int) : icodeFT Try.prog ttT.get nm_p_first fi49.nt (cl_p_first _ lf) lf st_p_first J 2 fi49.body [] [m1] (enc_p_first_2 x1 p) (lastK ttT.get fi49 ⟨[(.list (.int .i64))], [(false, (.int .i64))], g⟩) = R_p_first_2 lf x1 (fun q => J 2 [m1] (enc_p_first_2 x1 q)) p := by kernel_rfl
theorem nd_p_first : (regs fi49.body).Nodup := by decide +kernel
theorem ok_p_first : okC nm_p_first st_p_first hd_p_first fi49.body none = true := by kernel_rfl
def A_p_first (g : ElA [(.list (.int .i64))] → Option Rt_p_first) (lf : Nat) : Nat → List Nat → NRes → Option Rt_p_first := atN Try.prog ttT.get nm_p_first fi49 ⟨[(.list (.int .i64))], [(false, (.int .i64))], g⟩ (cl_p_first _ lf) lf hd_p_first
def G_p_first_2 (lf : Nat) (x1 : (List Int)) : Nat → (Int) → Option Rt_p_first := rounds fun K p => R_p_first_2 lf x1 K p
theorem at_p_first_2 (g : ElA [(.list (.int .i64))] → Option Rt_p_first) (lf : Nat) (x1 : (List Int)) : ∀ (n : Nat) (p : Int), A_p_first g lf 2 [n] (enc_p_first_2 x1 p) = G_p_first_2 lf x1 n p
  | 0, p => atN_zero 2 [0] rfl _
  | n + 1, p => by
    have ih := at_p_first_2 g lf x1 n
    refine (atN_eq (icallK_eq 20 _) nd_p_first ok_p_first 2 [n + 1] [n] rfl _).trans ((st_p_first_2 g (A_p_first g lf) lf x1 n p).trans ?_)
    rw [(show (fun q => A_p_first g lf 2 [n] (enc_p_first_2 x1 q)) = (fun q => G_p_first_2 lf x1 n q) from funext ih)]
    rfl
def F_p_first (lf : Nat) (x1 : (List Int)) : Option Rt_p_first := R_p_first_in lf x1 (fun q => G_p_first_2 lf x1 lf q)
theorem run_p_first (g : ElA [(.list (.int .i64))] → Option Rt_p_first) (lf : Nat) (x1 : (List Int)) : icodeT Try.prog ttT.get nm_p_first fi49.nt (cl_p_first _ lf) lf st_p_first (A_p_first g lf) fi49.body [] (argGo (argV [(.list (.int .i64))] (x1, ())) 0 .leaf) S0 [] (lastK ttT.get fi49 ⟨[(.list (.int .i64))], [(false, (.int .i64))], g⟩) = F_p_first lf x1 := by
    refine (in_p_first g (A_p_first g lf) lf x1).trans ?_
    rw [(show (fun q => A_p_first g lf 2 [lf] (enc_p_first_2 x1 q)) = (fun q => G_p_first_2 lf x1 lf q) from funext fun q => at_p_first_2 g lf x1 lf q)]
    rfl
theorem hxs_p_first : HxsOK Try.prog hxl_p_first := trivial
theorem mk_p_first {g : ElA [(.list (.int .i64))] → Option Rt_p_first} (hsm : SmOK Try.prog sml_p_first) (hg : ∀ (x : ElA [(.list (.int .i64))]) (y : Rt_p_first), WfA [(.list (.int .i64))] x → g x = some y → ∃ lf, F_p_first lf x.1 = some y) : Con Try.prog 49 ⟨[(.list (.int .i64))], [(false, (.int .i64))], g⟩ :=
  conT (nmf := nm_p_first) (sml := sml_p_first) (hxl := hxl_p_first) (st := st_p_first) (hd := hd_p_first) 20 mixed ttOK ftOK hsm hxs_p_first cal49 rfl rfl (by kernel_rfl) (fun x => by kernel_rfl) nd_p_first ok_p_first fun x y hx hy => by
    obtain ⟨lf, h⟩ := hg x y hx hy
    exact ⟨lf, (run_p_first g lf x.1).trans h⟩
def nm_p_form : Nat → Option Nm := fun k => none
def st_p_form : Nat → Bool := fun k => false
def hd_p_form : Nat → Bool := fun k => false
abbrev Rt_p_form : Type := Int × Unit
def sml_p_form : List (Nat × Sm) := []
def hxl_p_form : List (Nat × Hx) := [(125, idxHx cForm)]
def cl_p_form (R : Type) (lf : Nat) : ClK R := icallK Try.prog ttT.get ftT.get (nm1 52 nm_p_form) (smL sml_p_form) (hxL hxl_p_form) lf 20 R
abbrev id_p_form : Nat := 52
def R_p_form_in (lf : Nat) (x1 : (List DForm)) (x2 : ByteArray) : Option Rt_p_form := (match (idxO (fun v0 => (some (keqS v0.1 x2))) x1 0) with | .none  => none | .some v1 => (some (v1, ())))
theorem in_p_form (g : ElA [(.list cForm), .str] → Option Rt_p_form) (J : Nat → List Nat → NRes → Option Rt_p_form) (lf : Nat) (x1 : (List DForm)) (x2 : ByteArray) : icodeT Try.prog ttT.get nm_p_form fi52.nt (cl_p_form _ lf) lf st_p_form J fi52.body [] (argGo (argV [(.list cForm), .str] (x1, x2, ())) 0 .leaf) S0 [] (lastK ttT.get fi52 ⟨[(.list cForm), .str], [(false, (.int .i64))], g⟩) = R_p_form_in lf x1 x2 := by kernel_rfl
theorem nd_p_form : (regs fi52.body).Nodup := by decide +kernel
theorem ok_p_form : okC nm_p_form st_p_form hd_p_form fi52.body none = true := by kernel_rfl
def A_p_form (g : ElA [(.list cForm), .str] → Option Rt_p_form) (lf : Nat) : Nat → List Nat → NRes → Option Rt_p_form := atN Try.prog ttT.get nm_p_form fi52 ⟨[(.list cForm), .str], [(false, (.int .i64))], g⟩ (cl_p_form _ lf) lf hd_p_form
def F_p_form (lf : Nat) (x1 : (List DForm)) (x2 : ByteArray) : Option Rt_p_form := R_p_form_in lf x1 x2
theorem run_p_form (g : ElA [(.list cForm), .str] → Option Rt_p_form) (lf : Nat) (x1 : (List DForm)) (x2 : ByteArray) : icodeT Try.prog ttT.get nm_p_form fi52.nt (cl_p_form _ lf) lf st_p_form (A_p_form g lf) fi52.body [] (argGo (argV [(.list cForm), .str] (x1, x2, ())) 0 .leaf) S0 [] (lastK ttT.get fi52 ⟨[(.list cForm), .str], [(false, (.int .i64))], g⟩) = F_p_form lf x1 x2 := by
    refine (in_p_form g (A_p_form g lf) lf x1 x2).trans ?_
    rfl
theorem hxs_p_form : HxsOK Try.prog hxl_p_form := ⟨ixO125, trivial⟩
theorem mk_p_form {g : ElA [(.list cForm), .str] → Option Rt_p_form} (hsm : SmOK Try.prog sml_p_form) (hg : ∀ (x : ElA [(.list cForm), .str]) (y : Rt_p_form), WfA [(.list cForm), .str] x → g x = some y → ∃ lf, F_p_form lf x.1 x.2.1 = some y) : Con Try.prog 52 ⟨[(.list cForm), .str], [(false, (.int .i64))], g⟩ :=
  conT (nmf := nm_p_form) (sml := sml_p_form) (hxl := hxl_p_form) (st := st_p_form) (hd := hd_p_form) 20 mixed ttOK ftOK hsm hxs_p_form cal52 rfl rfl (by kernel_rfl) (fun x => by kernel_rfl) nd_p_form ok_p_form fun x y hx hy => by
    obtain ⟨lf, h⟩ := hg x y hx hy
    exact ⟨lf, (run_p_form g lf x.1 x.2.1).trans h⟩
def nm_p_col : Nat → Option Nm := fun k => none
def st_p_col : Nat → Bool := fun k => false
def hd_p_col : Nat → Bool := fun k => false
abbrev Rt_p_col : Type := Int × Unit
def sml_p_col : List (Nat × Sm) := []
def hxl_p_col : List (Nat × Hx) := [(144, idxHx cCol)]
def cl_p_col (R : Type) (lf : Nat) : ClK R := icallK Try.prog ttT.get ftT.get (nm1 95 nm_p_col) (smL sml_p_col) (hxL hxl_p_col) lf 20 R
abbrev id_p_col : Nat := 95
def R_p_col_in (lf : Nat) (x1 : (List DCol)) (x2 : ByteArray) : Option Rt_p_col := (match (idxO (fun v0 => (some (keqS v0.1 x2))) x1 0) with | .none  => none | .some v1 => (some (v1, ())))
theorem in_p_col (g : ElA [(.list cCol), .str] → Option Rt_p_col) (J : Nat → List Nat → NRes → Option Rt_p_col) (lf : Nat) (x1 : (List DCol)) (x2 : ByteArray) : icodeT Try.prog ttT.get nm_p_col fi95.nt (cl_p_col _ lf) lf st_p_col J fi95.body [] (argGo (argV [(.list cCol), .str] (x1, x2, ())) 0 .leaf) S0 [] (lastK ttT.get fi95 ⟨[(.list cCol), .str], [(false, (.int .i64))], g⟩) = R_p_col_in lf x1 x2 := by kernel_rfl
theorem nd_p_col : (regs fi95.body).Nodup := by decide +kernel
theorem ok_p_col : okC nm_p_col st_p_col hd_p_col fi95.body none = true := by kernel_rfl
def A_p_col (g : ElA [(.list cCol), .str] → Option Rt_p_col) (lf : Nat) : Nat → List Nat → NRes → Option Rt_p_col := atN Try.prog ttT.get nm_p_col fi95 ⟨[(.list cCol), .str], [(false, (.int .i64))], g⟩ (cl_p_col _ lf) lf hd_p_col
def F_p_col (lf : Nat) (x1 : (List DCol)) (x2 : ByteArray) : Option Rt_p_col := R_p_col_in lf x1 x2
theorem run_p_col (g : ElA [(.list cCol), .str] → Option Rt_p_col) (lf : Nat) (x1 : (List DCol)) (x2 : ByteArray) : icodeT Try.prog ttT.get nm_p_col fi95.nt (cl_p_col _ lf) lf st_p_col (A_p_col g lf) fi95.body [] (argGo (argV [(.list cCol), .str] (x1, x2, ())) 0 .leaf) S0 [] (lastK ttT.get fi95 ⟨[(.list cCol), .str], [(false, (.int .i64))], g⟩) = F_p_col lf x1 x2 := by
    refine (in_p_col g (A_p_col g lf) lf x1 x2).trans ?_
    rfl
theorem hxs_p_col : HxsOK Try.prog hxl_p_col := ⟨ixO144, trivial⟩
theorem mk_p_col {g : ElA [(.list cCol), .str] → Option Rt_p_col} (hsm : SmOK Try.prog sml_p_col) (hg : ∀ (x : ElA [(.list cCol), .str]) (y : Rt_p_col), WfA [(.list cCol), .str] x → g x = some y → ∃ lf, F_p_col lf x.1 x.2.1 = some y) : Con Try.prog 95 ⟨[(.list cCol), .str], [(false, (.int .i64))], g⟩ :=
  conT (nmf := nm_p_col) (sml := sml_p_col) (hxl := hxl_p_col) (st := st_p_col) (hd := hd_p_col) 20 mixed ttOK ftOK hsm hxs_p_col cal95 rfl rfl (by kernel_rfl) (fun x => by kernel_rfl) nd_p_col ok_p_col fun x y hx hy => by
    obtain ⟨lf, h⟩ := hg x y hx hy
    exact ⟨lf, (run_p_col g lf x.1 x.2.1).trans h⟩
def nm_p_ruleOf : Nat → Option Nm := fun k => none
def st_p_ruleOf : Nat → Bool := fun k => false
def hd_p_ruleOf : Nat → Bool := fun k => false
abbrev Rt_p_ruleOf : Type := DRule × Bool × Unit
def sml_p_ruleOf : List (Nat × Sm) := []
def hxl_p_ruleOf : List (Nat × Hx) := [(114, idxHx cRule)]
def cl_p_ruleOf (R : Type) (lf : Nat) : ClK R := icallK Try.prog ttT.get ftT.get (nm1 75 nm_p_ruleOf) (smL sml_p_ruleOf) (hxL hxl_p_ruleOf) lf 20 R
abbrev id_p_ruleOf : Nat := 75
def R_p_ruleOf_in (lf : Nat) (x1 : (List DRule)) (x2 : ByteArray) : Option Rt_p_ruleOf := (match (idxO (fun v0 => (some (keqS v0.1 x2))) x1 0) with | .none  => none | .some v1 => (cond (iltI v1 (Int.ofNat 0)) (some (((S.lit []), ((S.lit []), [])), (Bool.false, ()))) (match (jget x1 v1) with | .none  => none | .some v2 => (some ((v2.1, (v2.2.1, v2.2.2)), (Bool.true, ()))))))
theorem in_p_ruleOf (g : ElA [(.list cRule), .str] → Option Rt_p_ruleOf) (J : Nat → List Nat → NRes → Option Rt_p_ruleOf) (lf : Nat) (x1 : (List DRule)) (x2 : ByteArray) : icodeT Try.prog ttT.get nm_p_ruleOf fi75.nt (cl_p_ruleOf _ lf) lf st_p_ruleOf J fi75.body [] (argGo (argV [(.list cRule), .str] (x1, x2, ())) 0 .leaf) S0 [] (lastK ttT.get fi75 ⟨[(.list cRule), .str], [(false, cRule), (false, .bool)], g⟩) = R_p_ruleOf_in lf x1 x2 := by kernel_rfl
theorem nd_p_ruleOf : (regs fi75.body).Nodup := by decide +kernel
theorem ok_p_ruleOf : okC nm_p_ruleOf st_p_ruleOf hd_p_ruleOf fi75.body none = true := by kernel_rfl
def A_p_ruleOf (g : ElA [(.list cRule), .str] → Option Rt_p_ruleOf) (lf : Nat) : Nat → List Nat → NRes → Option Rt_p_ruleOf := atN Try.prog ttT.get nm_p_ruleOf fi75 ⟨[(.list cRule), .str], [(false, cRule), (false, .bool)], g⟩ (cl_p_ruleOf _ lf) lf hd_p_ruleOf
def F_p_ruleOf (lf : Nat) (x1 : (List DRule)) (x2 : ByteArray) : Option Rt_p_ruleOf := R_p_ruleOf_in lf x1 x2
theorem run_p_ruleOf (g : ElA [(.list cRule), .str] → Option Rt_p_ruleOf) (lf : Nat) (x1 : (List DRule)) (x2 : ByteArray) : icodeT Try.prog ttT.get nm_p_ruleOf fi75.nt (cl_p_ruleOf _ lf) lf st_p_ruleOf (A_p_ruleOf g lf) fi75.body [] (argGo (argV [(.list cRule), .str] (x1, x2, ())) 0 .leaf) S0 [] (lastK ttT.get fi75 ⟨[(.list cRule), .str], [(false, cRule), (false, .bool)], g⟩) = F_p_ruleOf lf x1 x2 := by
    refine (in_p_ruleOf g (A_p_ruleOf g lf) lf x1 x2).trans ?_
    rfl
theorem hxs_p_ruleOf : HxsOK Try.prog hxl_p_ruleOf := ⟨ixO114, trivial⟩
theorem mk_p_ruleOf {g : ElA [(.list cRule), .str] → Option Rt_p_ruleOf} (hsm : SmOK Try.prog sml_p_ruleOf) (hg : ∀ (x : ElA [(.list cRule), .str]) (y : Rt_p_ruleOf), WfA [(.list cRule), .str] x → g x = some y → ∃ lf, F_p_ruleOf lf x.1 x.2.1 = some y) : Con Try.prog 75 ⟨[(.list cRule), .str], [(false, cRule), (false, .bool)], g⟩ :=
  conT (nmf := nm_p_ruleOf) (sml := sml_p_ruleOf) (hxl := hxl_p_ruleOf) (st := st_p_ruleOf) (hd := hd_p_ruleOf) 20 mixed ttOK ftOK hsm hxs_p_ruleOf cal75 rfl rfl (by kernel_rfl) (fun x => by kernel_rfl) nd_p_ruleOf ok_p_ruleOf fun x y hx hy => by
    obtain ⟨lf, h⟩ := hg x y hx hy
    exact ⟨lf, (run_p_ruleOf g lf x.1 x.2.1).trans h⟩
def nm_p_named : Nat → Option Nm := fun k => none
def st_p_named : Nat → Bool := fun k => false
def hd_p_named : Nat → Bool := fun k => false
abbrev Rt_p_named : Type := Bool × Unit
def sml_p_named : List (Nat × Sm) := []
def hxl_p_named : List (Nat × Hx) := [(143, sixHx)]
def cl_p_named (R : Type) (lf : Nat) : ClK R := icallK Try.prog ttT.get ftT.get (nm1 90 nm_p_named) (smL sml_p_named) (hxL hxl_p_named) lf 20 R
abbrev id_p_named : Nat := 90
def R_p_named_in (lf : Nat) (x1 : ByteArray) (x2 : Int) (x3 : Int) : Option Rt_p_named := (cond (keqS x1 (S.lit [])) (some (Bool.false, ())) (cond (iltI (Int.ofNat 20) (Int.ofNat (ByteArray.size x1))) (some (Bool.false, ())) (match (jget (byteList x1) (Int.ofNat 0)) with | .none  => none | .some v0 => (cond (iltI v0 x2) (some (Bool.false, ())) (match (jget (byteList x1) (Int.ofNat 0)) with | .none  => none | .some v1 => (cond (iltI x3 v1) (some (Bool.false, ())) (match (sixO (fun v2 v3 => (cond (Bool.not (iltI v3 (Go.IntKind.wrap Go.IntKind.i32 x2))) (cond (Bool.not (iltI (Go.IntKind.wrap Go.IntKind.i32 x3) v3)) (some Bool.false) (cond (Bool.not (iltI v3 (Int.ofNat 48))) (cond (Bool.not (iltI (Int.ofNat 57) v3)) (some Bool.false) (some (Bool.not (ieqI v3 (Int.ofNat 95))))) (some (Bool.not (ieqI v3 (Int.ofNat 95)))))) (cond (Bool.not (iltI v3 (Int.ofNat 48))) (cond (Bool.not (iltI (Int.ofNat 57) v3)) (some Bool.false) (some (Bool.not (ieqI v3 (Int.ofNat 95))))) (some (Bool.not (ieqI v3 (Int.ofNat 95))))))) x1 Bool.true (Nat.add (ByteArray.size x1) 1) 0) with | .none  => none | .some v4 => (some ((iltI v4 (Int.ofNat 0)), ())))))))))
theorem in_p_named (g : ElA [.str, (.int .u8), (.int .u8)] → Option Rt_p_named) (J : Nat → List Nat → NRes → Option Rt_p_named) (lf : Nat) (x1 : ByteArray) (x2 : Int) (x3 : Int) : icodeT Try.prog ttT.get nm_p_named fi90.nt (cl_p_named _ lf) lf st_p_named J fi90.body [] (argGo (argV [.str, (.int .u8), (.int .u8)] (x1, x2, x3, ())) 0 .leaf) S0 [] (lastK ttT.get fi90 ⟨[.str, (.int .u8), (.int .u8)], [(false, .bool)], g⟩) = R_p_named_in lf x1 x2 x3 := by kernel_rfl
theorem nd_p_named : (regs fi90.body).Nodup := by decide +kernel
theorem ok_p_named : okC nm_p_named st_p_named hd_p_named fi90.body none = true := by kernel_rfl
def A_p_named (g : ElA [.str, (.int .u8), (.int .u8)] → Option Rt_p_named) (lf : Nat) : Nat → List Nat → NRes → Option Rt_p_named := atN Try.prog ttT.get nm_p_named fi90 ⟨[.str, (.int .u8), (.int .u8)], [(false, .bool)], g⟩ (cl_p_named _ lf) lf hd_p_named
def F_p_named (lf : Nat) (x1 : ByteArray) (x2 : Int) (x3 : Int) : Option Rt_p_named := R_p_named_in lf x1 x2 x3
theorem run_p_named (g : ElA [.str, (.int .u8), (.int .u8)] → Option Rt_p_named) (lf : Nat) (x1 : ByteArray) (x2 : Int) (x3 : Int) : icodeT Try.prog ttT.get nm_p_named fi90.nt (cl_p_named _ lf) lf st_p_named (A_p_named g lf) fi90.body [] (argGo (argV [.str, (.int .u8), (.int .u8)] (x1, x2, x3, ())) 0 .leaf) S0 [] (lastK ttT.get fi90 ⟨[.str, (.int .u8), (.int .u8)], [(false, .bool)], g⟩) = F_p_named lf x1 x2 x3 := by
    refine (in_p_named g (A_p_named g lf) lf x1 x2 x3).trans ?_
    rfl
theorem hxs_p_named : HxsOK Try.prog hxl_p_named := ⟨ixO143, trivial⟩
theorem mk_p_named {g : ElA [.str, (.int .u8), (.int .u8)] → Option Rt_p_named} (hsm : SmOK Try.prog sml_p_named) (hg : ∀ (x : ElA [.str, (.int .u8), (.int .u8)]) (y : Rt_p_named), WfA [.str, (.int .u8), (.int .u8)] x → g x = some y → ∃ lf, F_p_named lf x.1 x.2.1 x.2.2.1 = some y) : Con Try.prog 90 ⟨[.str, (.int .u8), (.int .u8)], [(false, .bool)], g⟩ :=
  conT (nmf := nm_p_named) (sml := sml_p_named) (hxl := hxl_p_named) (st := st_p_named) (hd := hd_p_named) 20 mixed ttOK ftOK hsm hxs_p_named cal90 rfl rfl (by kernel_rfl) (fun x => by kernel_rfl) nd_p_named ok_p_named fun x y hx hy => by
    obtain ⟨lf, h⟩ := hg x y hx hy
    exact ⟨lf, (run_p_named g lf x.1 x.2.1 x.2.2.1).trans h⟩
def nm_slices_Index_string : Nat → Option Nm := fun k => cond (Nat.beq k 2) (some ⟨[0, 1, 7, 8], [], [], [], [], 0, 0, false⟩) (none)
def st_slices_Index_string : Nat → Bool := fun k => cond (Nat.beq k 2) true (false)
def hd_slices_Index_string : Nat → Bool := fun k => cond (Nat.beq k 2) true (false)
abbrev Rt_slices_Index_string : Type := Int × Unit
def sml_slices_Index_string : List (Nat × Sm) := []
def hxl_slices_Index_string : List (Nat × Hx) := []
def cl_slices_Index_string (R : Type) (lf : Nat) : ClK R := icallK Try.prog ttT.get ftT.get (nm1 124 nm_slices_Index_string) (smL sml_slices_Index_string) (hxL hxl_slices_Index_string) lf 20 R
abbrev id_slices_Index_string : Nat := 124
def enc_slices_Index_string_2 (x1 : (List ByteArray)) (x2 : ByteArray) (p : Int) : NRes := (NRes.mk (PT.node (some (IV.lst TC.str x1)) (PT.node (some (IV.str x2)) (PT.node none (PT.node (some (IV.int Go.IntKind.i64 (Int.ofNat (List.length x1)))) PT.leaf PT.leaf) PT.leaf) PT.leaf) (PT.node none (PT.node none (PT.node (some (IV.int Go.IntKind.i64 p)) PT.leaf PT.leaf) PT.leaf) PT.leaf)) (IS.mk PT.leaf 0) [] 0)
def R_slices_Index_string_in (lf : Nat) (x1 : (List ByteArray)) (x2 : ByteArray) (L2 : Int → Option Rt_slices_Index_string) : Option Rt_slices_Index_string := (L2 (Int.ofNat 0))
def R_slices_Index_string_2 (lf : Nat) (x1 : (List ByteArray)) (x2 : ByteArray) (L2 : Int → Option Rt_slices_Index_string) (p : Int) : Option Rt_slices_Index_string := (cond (iltI p (Int.ofNat (List.length x1))) (match (jget x1 p) with | .none  => none | .some v0 => (cond (keqS x2 v0) (some (p, ())) (L2 (Go.IntKind.wrap Go.IntKind.i64 (Int.add p (Int.ofNat 1)))))) (some ((Int.negSucc 0), ())))
theorem in_slices_Index_string (g : ElA [(.list .str), .str] → Option Rt_slices_Index_string) (J : Nat → List Nat → NRes → Option Rt_slices_Index_string) (lf : Nat) (x1 : (List ByteArray)) (x2 : ByteArray) : icodeT Try.prog ttT.get nm_slices_Index_string fi124.nt (cl_slices_Index_string _ lf) lf st_slices_Index_string J fi124.body [] (argGo (argV [(.list .str), .str] (x1, x2, ())) 0 .leaf) S0 [] (lastK ttT.get fi124 ⟨[(.list .str), .str], [(false, (.int .i64))], g⟩) = R_slices_Index_string_in lf x1 x2 (fun q => J 2 [lf] (enc_slices_Index_string_2 x1 x2 q)) := by kernel_rfl
theorem st_slices_Index_string_2 (g : ElA [(.list .str), .str] → Option Rt_slices_Index_string) (J : Nat → List Nat → NRes → Option Rt_slices_Index_string) (lf : Nat) (x1 : (List ByteArray)) (x2 : ByteArray) (m1 : Nat) (p : Int) : icodeFT Try.prog ttT.get nm_slices_Index_string fi124.nt (cl_slices_Index_string _ lf) lf st_slices_Index_string J 2 fi124.body [] [m1] (enc_slices_Index_string_2 x1 x2 p) (lastK ttT.get fi124 ⟨[(.list .str), .str], [(false, (.int .i64))], g⟩) = R_slices_Index_string_2 lf x1 x2 (fun q => J 2 [m1] (enc_slices_Index_string_2 x1 x2 q)) p := by kernel_rfl
theorem nd_slices_Index_string : (regs fi124.body).Nodup := by decide +kernel
theorem ok_slices_Index_string : okC nm_slices_Index_string st_slices_Index_string hd_slices_Index_string fi124.body none = true := by kernel_rfl
def A_slices_Index_string (g : ElA [(.list .str), .str] → Option Rt_slices_Index_string) (lf : Nat) : Nat → List Nat → NRes → Option Rt_slices_Index_string := atN Try.prog ttT.get nm_slices_Index_string fi124 ⟨[(.list .str), .str], [(false, (.int .i64))], g⟩ (cl_slices_Index_string _ lf) lf hd_slices_Index_string
def G_slices_Index_string_2 (lf : Nat) (x1 : (List ByteArray)) (x2 : ByteArray) : Nat → (Int) → Option Rt_slices_Index_string := rounds fun K p => R_slices_Index_string_2 lf x1 x2 K p
theorem at_slices_Index_string_2 (g : ElA [(.list .str), .str] → Option Rt_slices_Index_string) (lf : Nat) (x1 : (List ByteArray)) (x2 : ByteArray) : ∀ (n : Nat) (p : Int), A_slices_Index_string g lf 2 [n] (enc_slices_Index_string_2 x1 x2 p) = G_slices_Index_string_2 lf x1 x2 n p
  | 0, p => atN_zero 2 [0] rfl _
  | n + 1, p => by
    have ih := at_slices_Index_string_2 g lf x1 x2 n
    refine (atN_eq (icallK_eq 20 _) nd_slices_Index_string ok_slices_Index_string 2 [n + 1] [n] rfl _).trans ((st_slices_Index_string_2 g (A_slices_Index_string g lf) lf x1 x2 n p).trans ?_)
    rw [(show (fun q => A_slices_Index_string g lf 2 [n] (enc_slices_Index_string_2 x1 x2 q)) = (fun q => G_slices_Index_string_2 lf x1 x2 n q) from funext ih)]
    rfl
def F_slices_Index_string (lf : Nat) (x1 : (List ByteArray)) (x2 : ByteArray) : Option Rt_slices_Index_string := R_slices_Index_string_in lf x1 x2 (fun q => G_slices_Index_string_2 lf x1 x2 lf q)
theorem run_slices_Index_string (g : ElA [(.list .str), .str] → Option Rt_slices_Index_string) (lf : Nat) (x1 : (List ByteArray)) (x2 : ByteArray) : icodeT Try.prog ttT.get nm_slices_Index_string fi124.nt (cl_slices_Index_string _ lf) lf st_slices_Index_string (A_slices_Index_string g lf) fi124.body [] (argGo (argV [(.list .str), .str] (x1, x2, ())) 0 .leaf) S0 [] (lastK ttT.get fi124 ⟨[(.list .str), .str], [(false, (.int .i64))], g⟩) = F_slices_Index_string lf x1 x2 := by
    refine (in_slices_Index_string g (A_slices_Index_string g lf) lf x1 x2).trans ?_
    rw [(show (fun q => A_slices_Index_string g lf 2 [lf] (enc_slices_Index_string_2 x1 x2 q)) = (fun q => G_slices_Index_string_2 lf x1 x2 lf q) from funext fun q => at_slices_Index_string_2 g lf x1 x2 lf q)]
    rfl
theorem hxs_slices_Index_string : HxsOK Try.prog hxl_slices_Index_string := trivial
theorem mk_slices_Index_string {g : ElA [(.list .str), .str] → Option Rt_slices_Index_string} (hsm : SmOK Try.prog sml_slices_Index_string) (hg : ∀ (x : ElA [(.list .str), .str]) (y : Rt_slices_Index_string), WfA [(.list .str), .str] x → g x = some y → ∃ lf, F_slices_Index_string lf x.1 x.2.1 = some y) : Con Try.prog 124 ⟨[(.list .str), .str], [(false, (.int .i64))], g⟩ :=
  conT (nmf := nm_slices_Index_string) (sml := sml_slices_Index_string) (hxl := hxl_slices_Index_string) (st := st_slices_Index_string) (hd := hd_slices_Index_string) 20 mixed ttOK ftOK hsm hxs_slices_Index_string cal124 rfl rfl (by kernel_rfl) (fun x => by kernel_rfl) nd_slices_Index_string ok_slices_Index_string fun x y hx hy => by
    obtain ⟨lf, h⟩ := hg x y hx hy
    exact ⟨lf, (run_slices_Index_string g lf x.1 x.2.1).trans h⟩
def nm_p_class : Nat → Option Nm := fun k => none
def st_p_class : Nat → Bool := fun k => false
def hd_p_class : Nat → Bool := fun k => false
abbrev Rt_p_class : Type := Bool × Unit
def sml_p_class : List (Nat × Sm) := [(90, sp_p_named), (124, sp_slices_Index_string)]
def hxl_p_class : List (Nat × Hx) := []
def cl_p_class (R : Type) (lf : Nat) : ClK R := icallK Try.prog ttT.get ftT.get (nm1 51 nm_p_class) (smL sml_p_class) (hxL hxl_p_class) lf 20 R
abbrev id_p_class : Nat := 51
def R_p_class_in (lf : Nat) (x1 : ByteArray) : Option Rt_p_class := (cond (Go.Proofs.Ytcnhjofpmpipfaa.S.named x1 (Int.ofNat 65) (Int.ofNat 90)) (some ((Bool.not (Bool.not (iltI (Go.Proofs.Ytcnhjofpmpipfaa.S.index (List.cons (S.lit [73, 78, 84, 69, 71, 69, 82]) (List.cons (S.lit [66, 79, 79, 76, 69, 65, 78]) (List.cons (S.lit [65, 78, 89]) (List.cons (S.lit [78, 79, 78, 69]) [])))) x1) (Int.ofNat 0)))), ())) (some (Bool.false, ())))
theorem in_p_class (g : ElA [.str] → Option Rt_p_class) (J : Nat → List Nat → NRes → Option Rt_p_class) (lf : Nat) (x1 : ByteArray) : icodeT Try.prog ttT.get nm_p_class fi51.nt (cl_p_class _ lf) lf st_p_class J fi51.body [] (argGo (argV [.str] (x1, ())) 0 .leaf) S0 [] (lastK ttT.get fi51 ⟨[.str], [(false, .bool)], g⟩) = R_p_class_in lf x1 := by kernel_rfl
theorem nd_p_class : (regs fi51.body).Nodup := by decide +kernel
theorem ok_p_class : okC nm_p_class st_p_class hd_p_class fi51.body none = true := by kernel_rfl
def A_p_class (g : ElA [.str] → Option Rt_p_class) (lf : Nat) : Nat → List Nat → NRes → Option Rt_p_class := atN Try.prog ttT.get nm_p_class fi51 ⟨[.str], [(false, .bool)], g⟩ (cl_p_class _ lf) lf hd_p_class
def F_p_class (lf : Nat) (x1 : ByteArray) : Option Rt_p_class := R_p_class_in lf x1
theorem run_p_class (g : ElA [.str] → Option Rt_p_class) (lf : Nat) (x1 : ByteArray) : icodeT Try.prog ttT.get nm_p_class fi51.nt (cl_p_class _ lf) lf st_p_class (A_p_class g lf) fi51.body [] (argGo (argV [.str] (x1, ())) 0 .leaf) S0 [] (lastK ttT.get fi51 ⟨[.str], [(false, .bool)], g⟩) = F_p_class lf x1 := by
    refine (in_p_class g (A_p_class g lf) lf x1).trans ?_
    rfl
theorem hxs_p_class : HxsOK Try.prog hxl_p_class := trivial
theorem mk_p_class {g : ElA [.str] → Option Rt_p_class} (hsm : SmOK Try.prog sml_p_class) (hg : ∀ (x : ElA [.str]) (y : Rt_p_class), WfA [.str] x → g x = some y → ∃ lf, F_p_class lf x.1 = some y) : Con Try.prog 51 ⟨[.str], [(false, .bool)], g⟩ :=
  conT (nmf := nm_p_class) (sml := sml_p_class) (hxl := hxl_p_class) (st := st_p_class) (hd := hd_p_class) 20 mixed ttOK ftOK hsm hxs_p_class cal51 rfl rfl (by kernel_rfl) (fun x => by kernel_rfl) nd_p_class ok_p_class fun x y hx hy => by
    obtain ⟨lf, h⟩ := hg x y hx hy
    exact ⟨lf, (run_p_class g lf x.1).trans h⟩
def nm_p_small : Nat → Option Nm := fun k => none
def st_p_small : Nat → Bool := fun k => false
def hd_p_small : Nat → Bool := fun k => false
abbrev Rt_p_small : Type := Bool × Unit
def sml_p_small : List (Nat × Sm) := [(90, sp_p_named), (124, sp_slices_Index_string)]
def hxl_p_small : List (Nat × Hx) := []
def cl_p_small (R : Type) (lf : Nat) : ClK R := icallK Try.prog ttT.get ftT.get (nm1 94 nm_p_small) (smL sml_p_small) (hxL hxl_p_small) lf 20 R
abbrev id_p_small : Nat := 94
def R_p_small_in (lf : Nat) (x1 : ByteArray) : Option Rt_p_small := (cond (Go.Proofs.Ytcnhjofpmpipfaa.S.named x1 (Int.ofNat 97) (Int.ofNat 122)) (some ((Bool.not (Bool.not (iltI (Go.Proofs.Ytcnhjofpmpipfaa.S.index (List.cons (S.lit [116, 114, 117, 101]) (List.cons (S.lit [102, 97, 108, 115, 101]) (List.cons (S.lit [118, 111, 105, 100]) (List.cons (S.lit [99, 117, 114, 114, 101, 110, 116]) (List.cons (S.lit [114, 101, 115, 117, 108, 116]) []))))) x1) (Int.ofNat 0)))), ())) (some (Bool.false, ())))
theorem in_p_small (g : ElA [.str] → Option Rt_p_small) (J : Nat → List Nat → NRes → Option Rt_p_small) (lf : Nat) (x1 : ByteArray) : icodeT Try.prog ttT.get nm_p_small fi94.nt (cl_p_small _ lf) lf st_p_small J fi94.body [] (argGo (argV [.str] (x1, ())) 0 .leaf) S0 [] (lastK ttT.get fi94 ⟨[.str], [(false, .bool)], g⟩) = R_p_small_in lf x1 := by kernel_rfl
theorem nd_p_small : (regs fi94.body).Nodup := by decide +kernel
theorem ok_p_small : okC nm_p_small st_p_small hd_p_small fi94.body none = true := by kernel_rfl
def A_p_small (g : ElA [.str] → Option Rt_p_small) (lf : Nat) : Nat → List Nat → NRes → Option Rt_p_small := atN Try.prog ttT.get nm_p_small fi94 ⟨[.str], [(false, .bool)], g⟩ (cl_p_small _ lf) lf hd_p_small
def F_p_small (lf : Nat) (x1 : ByteArray) : Option Rt_p_small := R_p_small_in lf x1
theorem run_p_small (g : ElA [.str] → Option Rt_p_small) (lf : Nat) (x1 : ByteArray) : icodeT Try.prog ttT.get nm_p_small fi94.nt (cl_p_small _ lf) lf st_p_small (A_p_small g lf) fi94.body [] (argGo (argV [.str] (x1, ())) 0 .leaf) S0 [] (lastK ttT.get fi94 ⟨[.str], [(false, .bool)], g⟩) = F_p_small lf x1 := by
    refine (in_p_small g (A_p_small g lf) lf x1).trans ?_
    rfl
theorem hxs_p_small : HxsOK Try.prog hxl_p_small := trivial
theorem mk_p_small {g : ElA [.str] → Option Rt_p_small} (hsm : SmOK Try.prog sml_p_small) (hg : ∀ (x : ElA [.str]) (y : Rt_p_small), WfA [.str] x → g x = some y → ∃ lf, F_p_small lf x.1 = some y) : Con Try.prog 94 ⟨[.str], [(false, .bool)], g⟩ :=
  conT (nmf := nm_p_small) (sml := sml_p_small) (hxl := hxl_p_small) (st := st_p_small) (hd := hd_p_small) 20 mixed ttOK ftOK hsm hxs_p_small cal94 rfl rfl (by kernel_rfl) (fun x => by kernel_rfl) nd_p_small ok_p_small fun x y hx hy => by
    obtain ⟨lf, h⟩ := hg x y hx hy
    exact ⟨lf, (run_p_small g lf x.1).trans h⟩
def nm_p_checkCols : Nat → Option Nm := fun k => cond (Nat.beq k 4) (some ⟨[0, 8, 9, 10], [], [], [], [], 0, 0, false⟩) (none)
def st_p_checkCols : Nat → Bool := fun k => cond (Nat.beq k 4) true (false)
def hd_p_checkCols : Nat → Bool := fun k => cond (Nat.beq k 4) true (false)
abbrev Rt_p_checkCols : Type := Int × Unit
def sml_p_checkCols : List (Nat × Sm) := [(94, sp_p_small), (95, sp_p_col), (83, sp_p_within)]
def hxl_p_checkCols : List (Nat × Hx) := []
def cl_p_checkCols (R : Type) (lf : Nat) : ClK R := icallK Try.prog ttT.get ftT.get (nm1 53 nm_p_checkCols) (smL sml_p_checkCols) (hxL hxl_p_checkCols) lf 20 R
abbrev id_p_checkCols : Nat := 53
def enc_p_checkCols_4 (x1 : (List DCol)) (p : Int) : NRes := (NRes.mk (PT.node (some (IV.lst cCol x1)) (PT.node none PT.leaf (PT.node none (PT.node (some (IV.int Go.IntKind.i64 (Int.ofNat (List.length x1)))) PT.leaf PT.leaf) PT.leaf)) (PT.node none (PT.node none (PT.node (some (IV.lst cCol x1)) PT.leaf PT.leaf) PT.leaf) (PT.node none (PT.node (some (IV.int Go.IntKind.i64 p)) PT.leaf PT.leaf) PT.leaf))) (IS.mk PT.leaf 0) [] 0)
def R_p_checkCols_in (lf : Nat) (x1 : (List DCol)) (L4 : Int → Option Rt_p_checkCols) : Option Rt_p_checkCols := (cond (iltI (Int.ofNat 30) (Int.ofNat (List.length x1))) (some ((Int.ofNat 3), ())) (L4 (Int.ofNat 0)))
def R_p_checkCols_4 (lf : Nat) (x1 : (List DCol)) (L4 : Int → Option Rt_p_checkCols) (p : Int) : Option Rt_p_checkCols := (cond (iltI p (Int.ofNat (List.length x1))) (match (jget x1 p) with | .none  => none | .some v0 => (cond (Bool.not (Go.Proofs.Ytcnhjofpmpipfaa.S.small v0.1)) (some ((Int.ofNat 4), ())) (cond (lchk (Int.ofNat 0) p (Int.ofNat (List.length x1)) (Int.ofNat (List.length x1))) (cond (Bool.not (iltI (Go.Proofs.Ytcnhjofpmpipfaa.S.col (lsub x1 (Int.ofNat 0) p) v0.1) (Int.ofNat 0))) (some ((Int.ofNat 6), ())) (cond (Bool.not (Go.Proofs.Ytcnhjofpmpipfaa.S.within v0.2.1 (Int.ofNat 1) (Int.ofNat 3))) (some ((Int.ofNat 1), ())) (cond (Bool.not (ieqI v0.2.1 (Int.ofNat 3))) (cond (Bool.not (keqS v0.2.2 (S.lit []))) (some ((Int.ofNat 1), ())) (L4 (Go.IntKind.wrap Go.IntKind.i64 (Int.add p (Int.ofNat 1))))) (L4 (Go.IntKind.wrap Go.IntKind.i64 (Int.add p (Int.ofNat 1))))))) none))) (some ((Int.ofNat 0), ())))
theorem in_p_checkCols (g : ElA [(.list cCol)] → Option Rt_p_checkCols) (J : Nat → List Nat → NRes → Option Rt_p_checkCols) (lf : Nat) (x1 : (List DCol)) : icodeT Try.prog ttT.get nm_p_checkCols fi53.nt (cl_p_checkCols _ lf) lf st_p_checkCols J fi53.body [] (argGo (argV [(.list cCol)] (x1, ())) 0 .leaf) S0 [] (lastK ttT.get fi53 ⟨[(.list cCol)], [(false, (.int .i64))], g⟩) = R_p_checkCols_in lf x1 (fun q => J 4 [lf] (enc_p_checkCols_4 x1 q)) := by kernel_rfl
theorem st_p_checkCols_4 (g : ElA [(.list cCol)] → Option Rt_p_checkCols) (J : Nat → List Nat → NRes → Option Rt_p_checkCols) (lf : Nat) (x1 : (List DCol)) (m1 : Nat) (p : Int) : icodeFT Try.prog ttT.get nm_p_checkCols fi53.nt (cl_p_checkCols _ lf) lf st_p_checkCols J 4 fi53.body [] [m1] (enc_p_checkCols_4 x1 p) (lastK ttT.get fi53 ⟨[(.list cCol)], [(false, (.int .i64))], g⟩) = R_p_checkCols_4 lf x1 (fun q => J 4 [m1] (enc_p_checkCols_4 x1 q)) p := by kernel_rfl
theorem nd_p_checkCols : (regs fi53.body).Nodup := by decide +kernel
theorem ok_p_checkCols : okC nm_p_checkCols st_p_checkCols hd_p_checkCols fi53.body none = true := by kernel_rfl
def A_p_checkCols (g : ElA [(.list cCol)] → Option Rt_p_checkCols) (lf : Nat) : Nat → List Nat → NRes → Option Rt_p_checkCols := atN Try.prog ttT.get nm_p_checkCols fi53 ⟨[(.list cCol)], [(false, (.int .i64))], g⟩ (cl_p_checkCols _ lf) lf hd_p_checkCols
def G_p_checkCols_4 (lf : Nat) (x1 : (List DCol)) : Nat → (Int) → Option Rt_p_checkCols := rounds fun K p => R_p_checkCols_4 lf x1 K p
theorem at_p_checkCols_4 (g : ElA [(.list cCol)] → Option Rt_p_checkCols) (lf : Nat) (x1 : (List DCol)) : ∀ (n : Nat) (p : Int), A_p_checkCols g lf 4 [n] (enc_p_checkCols_4 x1 p) = G_p_checkCols_4 lf x1 n p
  | 0, p => atN_zero 4 [0] rfl _
  | n + 1, p => by
    have ih := at_p_checkCols_4 g lf x1 n
    refine (atN_eq (icallK_eq 20 _) nd_p_checkCols ok_p_checkCols 4 [n + 1] [n] rfl _).trans ((st_p_checkCols_4 g (A_p_checkCols g lf) lf x1 n p).trans ?_)
    rw [(show (fun q => A_p_checkCols g lf 4 [n] (enc_p_checkCols_4 x1 q)) = (fun q => G_p_checkCols_4 lf x1 n q) from funext ih)]
    rfl
def F_p_checkCols (lf : Nat) (x1 : (List DCol)) : Option Rt_p_checkCols := R_p_checkCols_in lf x1 (fun q => G_p_checkCols_4 lf x1 lf q)
theorem run_p_checkCols (g : ElA [(.list cCol)] → Option Rt_p_checkCols) (lf : Nat) (x1 : (List DCol)) : icodeT Try.prog ttT.get nm_p_checkCols fi53.nt (cl_p_checkCols _ lf) lf st_p_checkCols (A_p_checkCols g lf) fi53.body [] (argGo (argV [(.list cCol)] (x1, ())) 0 .leaf) S0 [] (lastK ttT.get fi53 ⟨[(.list cCol)], [(false, (.int .i64))], g⟩) = F_p_checkCols lf x1 := by
    refine (in_p_checkCols g (A_p_checkCols g lf) lf x1).trans ?_
    rw [(show (fun q => A_p_checkCols g lf 4 [lf] (enc_p_checkCols_4 x1 q)) = (fun q => G_p_checkCols_4 lf x1 lf q) from funext fun q => at_p_checkCols_4 g lf x1 lf q)]
    rfl
theorem hxs_p_checkCols : HxsOK Try.prog hxl_p_checkCols := trivial
theorem mk_p_checkCols {g : ElA [(.list cCol)] → Option Rt_p_checkCols} (hsm : SmOK Try.prog sml_p_checkCols) (hg : ∀ (x : ElA [(.list cCol)]) (y : Rt_p_checkCols), WfA [(.list cCol)] x → g x = some y → ∃ lf, F_p_checkCols lf x.1 = some y) : Con Try.prog 53 ⟨[(.list cCol)], [(false, (.int .i64))], g⟩ :=
  conT (nmf := nm_p_checkCols) (sml := sml_p_checkCols) (hxl := hxl_p_checkCols) (st := st_p_checkCols) (hd := hd_p_checkCols) 20 mixed ttOK ftOK hsm hxs_p_checkCols cal53 rfl rfl (by kernel_rfl) (fun x => by kernel_rfl) nd_p_checkCols ok_p_checkCols fun x y hx hy => by
    obtain ⟨lf, h⟩ := hg x y hx hy
    exact ⟨lf, (run_p_checkCols g lf x.1).trans h⟩
def nm_p_CheckForms : Nat → Option Nm := fun k => cond (Nat.beq k 4) (some ⟨[0, 13, 14, 15], [], [], [], [], 0, 0, false⟩) (cond (Nat.beq k 11) (some ⟨[0, 41, 42, 43], [], [], [], [], 0, 0, false⟩) (cond (Nat.beq k 14) (some ⟨[0, 41, 42, 43, 48, 49, 50], [], [], [], [], 0, 0, false⟩) (none)))
def st_p_CheckForms : Nat → Bool := fun k => cond (Nat.beq k 4) true (cond (Nat.beq k 11) true (cond (Nat.beq k 14) true (false)))
def hd_p_CheckForms : Nat → Bool := fun k => cond (Nat.beq k 4) true (cond (Nat.beq k 11) true (cond (Nat.beq k 14) true (false)))
abbrev Rt_p_CheckForms : Type := Int × Unit
def sml_p_CheckForms : List (Nat × Sm) := [(51, sp_p_class), (52, sp_p_form), (53, sp_p_checkCols), (49, sp_p_first)]
def hxl_p_CheckForms : List (Nat × Hx) := []
def cl_p_CheckForms (R : Type) (lf : Nat) : ClK R := icallK Try.prog ttT.get ftT.get (nm1 16 nm_p_CheckForms) (smL sml_p_CheckForms) (hxL hxl_p_CheckForms) lf 20 R
abbrev id_p_CheckForms : Nat := 16
def enc_p_CheckForms_4 (x1 : (List DForm)) (p : Int) : NRes := (NRes.mk (PT.node (some (IV.lst cForm x1)) (PT.node none (PT.node none (PT.node none (PT.node (some (IV.int Go.IntKind.i64 p)) PT.leaf PT.leaf) PT.leaf) PT.leaf) (PT.node none PT.leaf (PT.node (some (IV.lst cForm x1)) PT.leaf PT.leaf))) (PT.node none PT.leaf (PT.node none PT.leaf (PT.node (some (IV.int Go.IntKind.i64 (Int.ofNat (List.length x1)))) PT.leaf PT.leaf)))) (IS.mk PT.leaf 0) [] 0)
def enc_p_CheckForms_11 (x1 : (List DForm)) (p : Int) : NRes := (NRes.mk (PT.node (some (IV.lst cForm x1)) (PT.node none (PT.node none PT.leaf (PT.node none PT.leaf (PT.node none (PT.node (some (IV.int Go.IntKind.i64 p)) PT.leaf PT.leaf) PT.leaf))) (PT.node none (PT.node none PT.leaf (PT.node none (PT.node (some (IV.lst cForm x1)) PT.leaf PT.leaf) PT.leaf)) PT.leaf)) (PT.node none PT.leaf (PT.node none (PT.node none PT.leaf (PT.node none (PT.node (some (IV.int Go.IntKind.i64 (Int.ofNat (List.length x1)))) PT.leaf PT.leaf) PT.leaf)) PT.leaf))) (IS.mk PT.leaf 0) [] 0)
def enc_p_CheckForms_14 (x1 : (List DForm)) (p : (List DCol) × Int × Int) : NRes := (NRes.mk (PT.node (some (IV.lst cForm x1)) (PT.node none (PT.node none PT.leaf (PT.node none PT.leaf (PT.node none (PT.node (some (IV.int Go.IntKind.i64 p.2.2)) PT.leaf PT.leaf) PT.leaf))) (PT.node none (PT.node none (PT.node none PT.leaf (PT.node (some (IV.int Go.IntKind.i64 (Int.ofNat (List.length p.1)))) PT.leaf PT.leaf)) (PT.node none (PT.node (some (IV.lst cForm x1)) PT.leaf PT.leaf) PT.leaf)) PT.leaf)) (PT.node none (PT.node none (PT.node none (PT.node none PT.leaf (PT.node (some (IV.lst cCol p.1)) PT.leaf PT.leaf)) PT.leaf) PT.leaf) (PT.node none (PT.node none (PT.node none PT.leaf (PT.node (some (IV.int Go.IntKind.i64 p.2.1)) PT.leaf PT.leaf)) (PT.node none (PT.node (some (IV.int Go.IntKind.i64 (Int.ofNat (List.length x1)))) PT.leaf PT.leaf) PT.leaf)) PT.leaf))) (IS.mk PT.leaf 0) [] 0)
def R_p_CheckForms_in (lf : Nat) (x1 : (List DForm)) (L4 : Int → Option Rt_p_CheckForms) : Option Rt_p_CheckForms := (cond (iltI (Int.ofNat 24) (Int.ofNat (List.length x1))) (some ((Int.ofNat 3), ())) (L4 (Int.ofNat 0)))
def R_p_CheckForms_4 (lf : Nat) (x1 : (List DForm)) (L4 : Int → Option Rt_p_CheckForms) (L11 : Int → Option Rt_p_CheckForms) (p : Int) : Option Rt_p_CheckForms := (cond (iltI p (Int.ofNat (List.length x1))) (match (jget x1 p) with | .none  => none | .some v0 => (cond (Go.Proofs.Ytcnhjofpmpipfaa.S.class_ v0.1) (cond (lchk (Int.ofNat 0) p (Int.ofNat (List.length x1)) (Int.ofNat (List.length x1))) (cond (iltI (Go.Proofs.Ytcnhjofpmpipfaa.S.form (lsub x1 (Int.ofNat 0) p) v0.1) (Int.ofNat 0)) (cond (Bool.not (ieqI (Go.Proofs.Ytcnhjofpmpipfaa.S.first (List.cons (Int.ofNat 0) (List.cons (Int.ofNat 0) (List.cons (Go.Proofs.Ytcnhjofpmpipfaa.S.checkCols v0.2) [])))) (Int.ofNat 0))) (some ((Go.Proofs.Ytcnhjofpmpipfaa.S.first (List.cons (Int.ofNat 0) (List.cons (Int.ofNat 0) (List.cons (Go.Proofs.Ytcnhjofpmpipfaa.S.checkCols v0.2) [])))), ())) (L4 (Go.IntKind.wrap Go.IntKind.i64 (Int.add p (Int.ofNat 1))))) (cond (Bool.not (ieqI (Go.Proofs.Ytcnhjofpmpipfaa.S.first (List.cons (Int.ofNat 0) (List.cons (Int.ofNat 6) (List.cons (Go.Proofs.Ytcnhjofpmpipfaa.S.checkCols v0.2) [])))) (Int.ofNat 0))) (some ((Go.Proofs.Ytcnhjofpmpipfaa.S.first (List.cons (Int.ofNat 0) (List.cons (Int.ofNat 6) (List.cons (Go.Proofs.Ytcnhjofpmpipfaa.S.checkCols v0.2) [])))), ())) (L4 (Go.IntKind.wrap Go.IntKind.i64 (Int.add p (Int.ofNat 1)))))) none) (cond (lchk (Int.ofNat 0) p (Int.ofNat (List.length x1)) (Int.ofNat (List.length x1))) (cond (iltI (Go.Proofs.Ytcnhjofpmpipfaa.S.form (lsub x1 (Int.ofNat 0) p) v0.1) (Int.ofNat 0)) (cond (Bool.not (ieqI (Go.Proofs.Ytcnhjofpmpipfaa.S.first (List.cons (Int.ofNat 4) (List.cons (Int.ofNat 0) (List.cons (Go.Proofs.Ytcnhjofpmpipfaa.S.checkCols v0.2) [])))) (Int.ofNat 0))) (some ((Go.Proofs.Ytcnhjofpmpipfaa.S.first (List.cons (Int.ofNat 4) (List.cons (Int.ofNat 0) (List.cons (Go.Proofs.Ytcnhjofpmpipfaa.S.checkCols v0.2) [])))), ())) (L4 (Go.IntKind.wrap Go.IntKind.i64 (Int.add p (Int.ofNat 1))))) (cond (Bool.not (ieqI (Go.Proofs.Ytcnhjofpmpipfaa.S.first (List.cons (Int.ofNat 4) (List.cons (Int.ofNat 6) (List.cons (Go.Proofs.Ytcnhjofpmpipfaa.S.checkCols v0.2) [])))) (Int.ofNat 0))) (some ((Go.Proofs.Ytcnhjofpmpipfaa.S.first (List.cons (Int.ofNat 4) (List.cons (Int.ofNat 6) (List.cons (Go.Proofs.Ytcnhjofpmpipfaa.S.checkCols v0.2) [])))), ())) (L4 (Go.IntKind.wrap Go.IntKind.i64 (Int.add p (Int.ofNat 1)))))) none))) (L11 (Int.ofNat 0)))
def R_p_CheckForms_11 (lf : Nat) (x1 : (List DForm)) (L14 : ((List DCol) × Int × Int) → Option Rt_p_CheckForms) (p : Int) : Option Rt_p_CheckForms := (cond (iltI p (Int.ofNat (List.length x1))) (match (jget x1 p) with | .none  => none | .some v0 => (L14 (v0.2, (Int.ofNat 0), p))) (some ((Int.ofNat 0), ())))
def R_p_CheckForms_14 (lf : Nat) (x1 : (List DForm)) (L14 : ((List DCol) × Int × Int) → Option Rt_p_CheckForms) (L11 : Int → Option Rt_p_CheckForms) (p : (List DCol) × Int × Int) : Option Rt_p_CheckForms := (cond (iltI p.2.1 (Int.ofNat (List.length p.1))) (match (jget p.1 p.2.1) with | .none  => none | .some v0 => (cond (ieqI v0.2.1 (Int.ofNat 3)) (cond (Bool.not (keqS v0.2.2 (S.lit [65, 78, 89]))) (cond (iltI (Go.Proofs.Ytcnhjofpmpipfaa.S.form x1 v0.2.2) (Int.ofNat 0)) (some ((Int.ofNat 5), ())) (L14 (p.1, (Go.IntKind.wrap Go.IntKind.i64 (Int.add p.2.1 (Int.ofNat 1))), p.2.2))) (L14 (p.1, (Go.IntKind.wrap Go.IntKind.i64 (Int.add p.2.1 (Int.ofNat 1))), p.2.2))) (L14 (p.1, (Go.IntKind.wrap Go.IntKind.i64 (Int.add p.2.1 (Int.ofNat 1))), p.2.2)))) (L11 (Go.IntKind.wrap Go.IntKind.i64 (Int.add p.2.2 (Int.ofNat 1)))))
theorem in_p_CheckForms (g : ElA [(.list cForm)] → Option Rt_p_CheckForms) (J : Nat → List Nat → NRes → Option Rt_p_CheckForms) (lf : Nat) (x1 : (List DForm)) : icodeT Try.prog ttT.get nm_p_CheckForms fi16.nt (cl_p_CheckForms _ lf) lf st_p_CheckForms J fi16.body [] (argGo (argV [(.list cForm)] (x1, ())) 0 .leaf) S0 [] (lastK ttT.get fi16 ⟨[(.list cForm)], [(false, (.int .i64))], g⟩) = R_p_CheckForms_in lf x1 (fun q => J 4 [lf] (enc_p_CheckForms_4 x1 q)) := by kernel_rfl
theorem st_p_CheckForms_4 (g : ElA [(.list cForm)] → Option Rt_p_CheckForms) (J : Nat → List Nat → NRes → Option Rt_p_CheckForms) (lf : Nat) (x1 : (List DForm)) (m1 : Nat) (p : Int) : icodeFT Try.prog ttT.get nm_p_CheckForms fi16.nt (cl_p_CheckForms _ lf) lf st_p_CheckForms J 4 fi16.body [] [m1] (enc_p_CheckForms_4 x1 p) (lastK ttT.get fi16 ⟨[(.list cForm)], [(false, (.int .i64))], g⟩) = R_p_CheckForms_4 lf x1 (fun q => J 4 [m1] (enc_p_CheckForms_4 x1 q)) (fun q => J 11 [lf] (enc_p_CheckForms_11 x1 q)) p := by kernel_rfl
theorem st_p_CheckForms_11 (g : ElA [(.list cForm)] → Option Rt_p_CheckForms) (J : Nat → List Nat → NRes → Option Rt_p_CheckForms) (lf : Nat) (x1 : (List DForm)) (m1 : Nat) (p : Int) : icodeFT Try.prog ttT.get nm_p_CheckForms fi16.nt (cl_p_CheckForms _ lf) lf st_p_CheckForms J 11 fi16.body [] [m1] (enc_p_CheckForms_11 x1 p) (lastK ttT.get fi16 ⟨[(.list cForm)], [(false, (.int .i64))], g⟩) = R_p_CheckForms_11 lf x1 (fun q => J 14 [m1, lf] (enc_p_CheckForms_14 x1 q)) p := by kernel_rfl
theorem st_p_CheckForms_14 (g : ElA [(.list cForm)] → Option Rt_p_CheckForms) (J : Nat → List Nat → NRes → Option Rt_p_CheckForms) (lf : Nat) (x1 : (List DForm)) (m1 : Nat) (m2 : Nat) (p : (List DCol) × Int × Int) : icodeFT Try.prog ttT.get nm_p_CheckForms fi16.nt (cl_p_CheckForms _ lf) lf st_p_CheckForms J 14 fi16.body [] [m1, m2] (enc_p_CheckForms_14 x1 p) (lastK ttT.get fi16 ⟨[(.list cForm)], [(false, (.int .i64))], g⟩) = R_p_CheckForms_14 lf x1 (fun q => J 14 [m1, m2] (enc_p_CheckForms_14 x1 q)) (fun q => J 11 [m1] (enc_p_CheckForms_11 x1 q)) p := by kernel_rfl
theorem nd_p_CheckForms : (regs fi16.body).Nodup := by decide +kernel
theorem ok_p_CheckForms : okC nm_p_CheckForms st_p_CheckForms hd_p_CheckForms fi16.body none = true := by kernel_rfl
def A_p_CheckForms (g : ElA [(.list cForm)] → Option Rt_p_CheckForms) (lf : Nat) : Nat → List Nat → NRes → Option Rt_p_CheckForms := atN Try.prog ttT.get nm_p_CheckForms fi16 ⟨[(.list cForm)], [(false, (.int .i64))], g⟩ (cl_p_CheckForms _ lf) lf hd_p_CheckForms
def G_p_CheckForms_14 (lf : Nat) (x1 : (List DForm)) (K11 : Int → Option Rt_p_CheckForms) : Nat → ((List DCol) × Int × Int) → Option Rt_p_CheckForms := rounds fun K p => R_p_CheckForms_14 lf x1 K K11 p
theorem at_p_CheckForms_14 (g : ElA [(.list cForm)] → Option Rt_p_CheckForms) (lf : Nat) (x1 : (List DForm)) (m1 : Nat) : ∀ (n : Nat) (p : (List DCol) × Int × Int), A_p_CheckForms g lf 14 [m1, n] (enc_p_CheckForms_14 x1 p) = G_p_CheckForms_14 lf x1 (fun q => A_p_CheckForms g lf 11 [m1] (enc_p_CheckForms_11 x1 q)) n p
  | 0, p => atN_zero 14 [m1, 0] rfl _
  | n + 1, p => by
    have ih := at_p_CheckForms_14 g lf x1 m1 n
    refine (atN_eq (icallK_eq 20 _) nd_p_CheckForms ok_p_CheckForms 14 [m1, n + 1] [m1, n] rfl _).trans ((st_p_CheckForms_14 g (A_p_CheckForms g lf) lf x1 m1 n p).trans ?_)
    rw [(show (fun q => A_p_CheckForms g lf 14 [m1, n] (enc_p_CheckForms_14 x1 q)) = (fun q => G_p_CheckForms_14 lf x1 (fun q => A_p_CheckForms g lf 11 [m1] (enc_p_CheckForms_11 x1 q)) n q) from funext ih)]
    rfl
def G_p_CheckForms_11 (lf : Nat) (x1 : (List DForm)) : Nat → (Int) → Option Rt_p_CheckForms := rounds fun K p => R_p_CheckForms_11 lf x1 (fun q => G_p_CheckForms_14 lf x1 K lf q) p
theorem at_p_CheckForms_11 (g : ElA [(.list cForm)] → Option Rt_p_CheckForms) (lf : Nat) (x1 : (List DForm)) : ∀ (n : Nat) (p : Int), A_p_CheckForms g lf 11 [n] (enc_p_CheckForms_11 x1 p) = G_p_CheckForms_11 lf x1 n p
  | 0, p => atN_zero 11 [0] rfl _
  | n + 1, p => by
    have ih := at_p_CheckForms_11 g lf x1 n
    refine (atN_eq (icallK_eq 20 _) nd_p_CheckForms ok_p_CheckForms 11 [n + 1] [n] rfl _).trans ((st_p_CheckForms_11 g (A_p_CheckForms g lf) lf x1 n p).trans ?_)
    rw [(show (fun q => A_p_CheckForms g lf 14 [n, lf] (enc_p_CheckForms_14 x1 q)) = (fun q => G_p_CheckForms_14 lf x1 (fun q => A_p_CheckForms g lf 11 [n] (enc_p_CheckForms_11 x1 q)) lf q) from funext fun q => at_p_CheckForms_14 g lf x1 n lf q), (show (fun q => A_p_CheckForms g lf 11 [n] (enc_p_CheckForms_11 x1 q)) = (fun q => G_p_CheckForms_11 lf x1 n q) from funext ih)]
    rfl
def G_p_CheckForms_4 (lf : Nat) (x1 : (List DForm)) : Nat → (Int) → Option Rt_p_CheckForms := rounds fun K p => R_p_CheckForms_4 lf x1 K (fun q => G_p_CheckForms_11 lf x1 lf q) p
theorem at_p_CheckForms_4 (g : ElA [(.list cForm)] → Option Rt_p_CheckForms) (lf : Nat) (x1 : (List DForm)) : ∀ (n : Nat) (p : Int), A_p_CheckForms g lf 4 [n] (enc_p_CheckForms_4 x1 p) = G_p_CheckForms_4 lf x1 n p
  | 0, p => atN_zero 4 [0] rfl _
  | n + 1, p => by
    have ih := at_p_CheckForms_4 g lf x1 n
    refine (atN_eq (icallK_eq 20 _) nd_p_CheckForms ok_p_CheckForms 4 [n + 1] [n] rfl _).trans ((st_p_CheckForms_4 g (A_p_CheckForms g lf) lf x1 n p).trans ?_)
    rw [(show (fun q => A_p_CheckForms g lf 11 [lf] (enc_p_CheckForms_11 x1 q)) = (fun q => G_p_CheckForms_11 lf x1 lf q) from funext fun q => at_p_CheckForms_11 g lf x1 lf q), (show (fun q => A_p_CheckForms g lf 4 [n] (enc_p_CheckForms_4 x1 q)) = (fun q => G_p_CheckForms_4 lf x1 n q) from funext ih)]
    rfl
def F_p_CheckForms (lf : Nat) (x1 : (List DForm)) : Option Rt_p_CheckForms := R_p_CheckForms_in lf x1 (fun q => G_p_CheckForms_4 lf x1 lf q)
theorem run_p_CheckForms (g : ElA [(.list cForm)] → Option Rt_p_CheckForms) (lf : Nat) (x1 : (List DForm)) : icodeT Try.prog ttT.get nm_p_CheckForms fi16.nt (cl_p_CheckForms _ lf) lf st_p_CheckForms (A_p_CheckForms g lf) fi16.body [] (argGo (argV [(.list cForm)] (x1, ())) 0 .leaf) S0 [] (lastK ttT.get fi16 ⟨[(.list cForm)], [(false, (.int .i64))], g⟩) = F_p_CheckForms lf x1 := by
    refine (in_p_CheckForms g (A_p_CheckForms g lf) lf x1).trans ?_
    rw [(show (fun q => A_p_CheckForms g lf 4 [lf] (enc_p_CheckForms_4 x1 q)) = (fun q => G_p_CheckForms_4 lf x1 lf q) from funext fun q => at_p_CheckForms_4 g lf x1 lf q)]
    rfl
theorem hxs_p_CheckForms : HxsOK Try.prog hxl_p_CheckForms := trivial
theorem mk_p_CheckForms {g : ElA [(.list cForm)] → Option Rt_p_CheckForms} (hsm : SmOK Try.prog sml_p_CheckForms) (hg : ∀ (x : ElA [(.list cForm)]) (y : Rt_p_CheckForms), WfA [(.list cForm)] x → g x = some y → ∃ lf, F_p_CheckForms lf x.1 = some y) : Con Try.prog 16 ⟨[(.list cForm)], [(false, (.int .i64))], g⟩ :=
  conT (nmf := nm_p_CheckForms) (sml := sml_p_CheckForms) (hxl := hxl_p_CheckForms) (st := st_p_CheckForms) (hd := hd_p_CheckForms) 20 mixed ttOK ftOK hsm hxs_p_CheckForms cal16 rfl rfl (by kernel_rfl) (fun x => by kernel_rfl) nd_p_CheckForms ok_p_CheckForms fun x y hx hy => by
    obtain ⟨lf, h⟩ := hg x y hx hy
    exact ⟨lf, (run_p_CheckForms g lf x.1).trans h⟩
def nm_p_value : Nat → Option Nm := fun k => none
def st_p_value : Nat → Bool := fun k => false
def hd_p_value : Nat → Bool := fun k => false
abbrev Rt_p_value : Type := Bool × Unit
def sml_p_value : List (Nat × Sm) := [(83, sp_p_within)]
def hxl_p_value : List (Nat × Hx) := []
def cl_p_value (R : Type) (lf : Nat) : ClK R := icallK Try.prog ttT.get ftT.get (nm1 106 nm_p_value) (smL sml_p_value) (hxL hxl_p_value) lf 20 R
abbrev id_p_value : Nat := 106
def R_p_value_in (lf : Nat) (x1 : DVal) (x2 : Int) : Option Rt_p_value := (cond (ieqI x1.1 (Int.ofNat 1)) (some ((Go.Proofs.Ytcnhjofpmpipfaa.S.within x1.2 (Int.negSucc 1099511627775) (Int.ofNat 1099511627776)), ())) (cond (ieqI x1.1 (Int.ofNat 2)) (some ((Go.Proofs.Ytcnhjofpmpipfaa.S.within x1.2 (Int.ofNat 0) (Int.ofNat 1)), ())) (cond (ieqI x1.1 (Int.ofNat 3)) (some ((ieqI x1.2 (Int.ofNat 0)), ())) (cond (ieqI x1.1 (Int.ofNat 4)) (some ((Go.Proofs.Ytcnhjofpmpipfaa.S.within x1.2 (Int.ofNat 0) (Go.IntKind.wrap Go.IntKind.i64 (Int.sub x2 (Int.ofNat 1)))), ())) (some (Bool.false, ()))))))
theorem in_p_value (g : ElA [cVal, (.int .i64)] → Option Rt_p_value) (J : Nat → List Nat → NRes → Option Rt_p_value) (lf : Nat) (x1 : DVal) (x2 : Int) : icodeT Try.prog ttT.get nm_p_value fi106.nt (cl_p_value _ lf) lf st_p_value J fi106.body [] (argGo (argV [cVal, (.int .i64)] (x1, x2, ())) 0 .leaf) S0 [] (lastK ttT.get fi106 ⟨[cVal, (.int .i64)], [(false, .bool)], g⟩) = R_p_value_in lf x1 x2 := by kernel_rfl
theorem nd_p_value : (regs fi106.body).Nodup := by decide +kernel
theorem ok_p_value : okC nm_p_value st_p_value hd_p_value fi106.body none = true := by kernel_rfl
def A_p_value (g : ElA [cVal, (.int .i64)] → Option Rt_p_value) (lf : Nat) : Nat → List Nat → NRes → Option Rt_p_value := atN Try.prog ttT.get nm_p_value fi106 ⟨[cVal, (.int .i64)], [(false, .bool)], g⟩ (cl_p_value _ lf) lf hd_p_value
def F_p_value (lf : Nat) (x1 : DVal) (x2 : Int) : Option Rt_p_value := R_p_value_in lf x1 x2
theorem run_p_value (g : ElA [cVal, (.int .i64)] → Option Rt_p_value) (lf : Nat) (x1 : DVal) (x2 : Int) : icodeT Try.prog ttT.get nm_p_value fi106.nt (cl_p_value _ lf) lf st_p_value (A_p_value g lf) fi106.body [] (argGo (argV [cVal, (.int .i64)] (x1, x2, ())) 0 .leaf) S0 [] (lastK ttT.get fi106 ⟨[cVal, (.int .i64)], [(false, .bool)], g⟩) = F_p_value lf x1 x2 := by
    refine (in_p_value g (A_p_value g lf) lf x1 x2).trans ?_
    rfl
theorem hxs_p_value : HxsOK Try.prog hxl_p_value := trivial
theorem mk_p_value {g : ElA [cVal, (.int .i64)] → Option Rt_p_value} (hsm : SmOK Try.prog sml_p_value) (hg : ∀ (x : ElA [cVal, (.int .i64)]) (y : Rt_p_value), WfA [cVal, (.int .i64)] x → g x = some y → ∃ lf, F_p_value lf x.1 x.2.1 = some y) : Con Try.prog 106 ⟨[cVal, (.int .i64)], [(false, .bool)], g⟩ :=
  conT (nmf := nm_p_value) (sml := sml_p_value) (hxl := hxl_p_value) (st := st_p_value) (hd := hd_p_value) 20 mixed ttOK ftOK hsm hxs_p_value cal106 rfl rfl (by kernel_rfl) (fun x => by kernel_rfl) nd_p_value ok_p_value fun x y hx hy => by
    obtain ⟨lf, h⟩ := hg x y hx hy
    exact ⟨lf, (run_p_value g lf x.1 x.2.1).trans h⟩
def nm_p_formed : Nat → Option Nm := fun k => cond (Nat.beq k 4) (some ⟨[1, 19, 20, 21], [], [], [], [], 0, 0, false⟩) (cond (Nat.beq k 11) (some ⟨[1, 5, 32, 33, 34], [], [], [], [], 0, 0, false⟩) (none))
def st_p_formed : Nat → Bool := fun k => cond (Nat.beq k 4) true (cond (Nat.beq k 11) true (false))
def hd_p_formed : Nat → Bool := fun k => cond (Nat.beq k 4) true (cond (Nat.beq k 11) true (false))
abbrev Rt_p_formed : Type := Int × Unit
def sml_p_formed : List (Nat × Sm) := [(106, sp_p_value)]
def hxl_p_formed : List (Nat × Hx) := [(137, idxHx cVal)]
def cl_p_formed (R : Type) (lf : Nat) : ClK R := icallK Try.prog ttT.get ftT.get (nm1 70 nm_p_formed) (smL sml_p_formed) (hxL hxl_p_formed) lf 20 R
abbrev id_p_formed : Nat := 70
def enc_p_formed_4 (x1 : DGraph) (p : Int) : NRes := (NRes.mk (PT.node none (PT.node (some (IV.ptr 0 0)) (PT.node none PT.leaf (PT.node none (PT.node (some (IV.lst cNode x1.1)) PT.leaf PT.leaf) PT.leaf)) (PT.node none PT.leaf (PT.node none (PT.node (some (IV.int Go.IntKind.i64 p)) PT.leaf PT.leaf) PT.leaf))) (PT.node none (PT.node none PT.leaf (PT.node none (PT.node (some (IV.int Go.IntKind.i64 (Int.ofNat (List.length x1.1)))) PT.leaf PT.leaf) PT.leaf)) PT.leaf)) (IS.mk (PT.node (some (IObj.row (List.cons (IV.lst cNode x1.1) (List.cons (IV.lst cVal x1.2) [])))) PT.leaf PT.leaf) 1) [] 0)
def enc_p_formed_11 (x1 : DGraph) (p : Int) : NRes := (NRes.mk (PT.node none (PT.node (some (IV.ptr 0 0)) PT.leaf (PT.node (some (IV.ptr 1 0)) (PT.node none (PT.node none (PT.node (some (IV.int Go.IntKind.i64 (Int.ofNat (List.length x1.1)))) PT.leaf PT.leaf) PT.leaf) PT.leaf) PT.leaf)) (PT.node none (PT.node none (PT.node none (PT.node none (PT.node (some (IV.lst cNode x1.1)) PT.leaf PT.leaf) PT.leaf) PT.leaf) PT.leaf) (PT.node none (PT.node none (PT.node none (PT.node (some (IV.int Go.IntKind.i64 p)) PT.leaf PT.leaf) PT.leaf) PT.leaf) PT.leaf))) (IS.mk (PT.node (some (IObj.row (List.cons (IV.lst cNode x1.1) (List.cons (IV.lst cVal x1.2) [])))) (PT.node (some (IObj.row (List.cons (IV.fn 105 (List.cons (IV.ptr 0 0) [])) []))) PT.leaf PT.leaf) PT.leaf) 2) [] 0)
def R_p_formed_in (lf : Nat) (x1 : DGraph) (L4 : Int → Option Rt_p_formed) : Option Rt_p_formed := (cond (iltI (Int.ofNat 400) (Int.ofNat (List.length x1.1))) (some ((Int.ofNat 3), ())) (cond (iltI (Int.ofNat 60) (Int.ofNat (List.length x1.2))) (some ((Int.ofNat 3), ())) (L4 (Int.ofNat 0))))
def R_p_formed_4 (lf : Nat) (x1 : DGraph) (L4 : Int → Option Rt_p_formed) (L11 : Int → Option Rt_p_formed) (p : Int) : Option Rt_p_formed := (cond (iltI p (Int.ofNat (List.length x1.1))) (match (jget x1.1 p) with | .none  => none | .some v0 => (cond (iltI (Int.ofNat 30) (Int.ofNat (List.length v0.2))) (some ((Int.ofNat 3), ())) (L4 (Go.IntKind.wrap Go.IntKind.i64 (Int.add p (Int.ofNat 1)))))) (L11 (Int.ofNat 0)))
def R_p_formed_11 (lf : Nat) (x1 : DGraph) (L11 : Int → Option Rt_p_formed) (p : Int) : Option Rt_p_formed := (cond (iltI p (Int.ofNat (List.length x1.1))) (match (jget x1.1 p) with | .none  => none | .some v0 => (match (idxO (fun v1 => (some (Bool.not (Go.Proofs.Ytcnhjofpmpipfaa.S.value (v1.1, v1.2) (Int.ofNat (List.length x1.1)))))) v0.2 0) with | .none  => none | .some v2 => (cond (Bool.not (iltI v2 (Int.ofNat 0))) (some ((Int.ofNat 2), ())) (L11 (Go.IntKind.wrap Go.IntKind.i64 (Int.add p (Int.ofNat 1))))))) (match (idxO (fun v26 => (cond (Bool.not (Go.Proofs.Ytcnhjofpmpipfaa.S.value (v26.1, v26.2) (Int.ofNat (List.length x1.1)))) (some Bool.true) (cond (ieqI v26.1 (Int.ofNat 3)) (some Bool.false) (some (Bool.not (ieqI v26.1 (Int.ofNat 4))))))) x1.2 0) with | .none  => none | .some v27 => (cond (Bool.not (Bool.not (iltI v27 (Int.ofNat 0)))) (some ((Int.ofNat 0), ())) (some ((Int.ofNat 2), ())))))
theorem in_p_formed (g : ElA [cGraph] → Option Rt_p_formed) (J : Nat → List Nat → NRes → Option Rt_p_formed) (lf : Nat) (x1 : DGraph) : icodeT Try.prog ttT.get nm_p_formed fi70.nt (cl_p_formed _ lf) lf st_p_formed J fi70.body [] (argGo (argV [cGraph] (x1, ())) 0 .leaf) S0 [] (lastK ttT.get fi70 ⟨[cGraph], [(false, (.int .i64))], g⟩) = R_p_formed_in lf x1 (fun q => J 4 [lf] (enc_p_formed_4 x1 q)) := by kernel_rfl
theorem st_p_formed_4 (g : ElA [cGraph] → Option Rt_p_formed) (J : Nat → List Nat → NRes → Option Rt_p_formed) (lf : Nat) (x1 : DGraph) (m1 : Nat) (p : Int) : icodeFT Try.prog ttT.get nm_p_formed fi70.nt (cl_p_formed _ lf) lf st_p_formed J 4 fi70.body [] [m1] (enc_p_formed_4 x1 p) (lastK ttT.get fi70 ⟨[cGraph], [(false, (.int .i64))], g⟩) = R_p_formed_4 lf x1 (fun q => J 4 [m1] (enc_p_formed_4 x1 q)) (fun q => J 11 [lf] (enc_p_formed_11 x1 q)) p := by kernel_rfl
theorem st_p_formed_11 (g : ElA [cGraph] → Option Rt_p_formed) (J : Nat → List Nat → NRes → Option Rt_p_formed) (lf : Nat) (x1 : DGraph) (m1 : Nat) (p : Int) : icodeFT Try.prog ttT.get nm_p_formed fi70.nt (cl_p_formed _ lf) lf st_p_formed J 11 fi70.body [] [m1] (enc_p_formed_11 x1 p) (lastK ttT.get fi70 ⟨[cGraph], [(false, (.int .i64))], g⟩) = R_p_formed_11 lf x1 (fun q => J 11 [m1] (enc_p_formed_11 x1 q)) p := by kernel_rfl
theorem nd_p_formed : (regs fi70.body).Nodup := by decide +kernel
theorem ok_p_formed : okC nm_p_formed st_p_formed hd_p_formed fi70.body none = true := by kernel_rfl
def A_p_formed (g : ElA [cGraph] → Option Rt_p_formed) (lf : Nat) : Nat → List Nat → NRes → Option Rt_p_formed := atN Try.prog ttT.get nm_p_formed fi70 ⟨[cGraph], [(false, (.int .i64))], g⟩ (cl_p_formed _ lf) lf hd_p_formed
def G_p_formed_11 (lf : Nat) (x1 : DGraph) : Nat → (Int) → Option Rt_p_formed := rounds fun K p => R_p_formed_11 lf x1 K p
theorem at_p_formed_11 (g : ElA [cGraph] → Option Rt_p_formed) (lf : Nat) (x1 : DGraph) : ∀ (n : Nat) (p : Int), A_p_formed g lf 11 [n] (enc_p_formed_11 x1 p) = G_p_formed_11 lf x1 n p
  | 0, p => atN_zero 11 [0] rfl _
  | n + 1, p => by
    have ih := at_p_formed_11 g lf x1 n
    refine (atN_eq (icallK_eq 20 _) nd_p_formed ok_p_formed 11 [n + 1] [n] rfl _).trans ((st_p_formed_11 g (A_p_formed g lf) lf x1 n p).trans ?_)
    rw [(show (fun q => A_p_formed g lf 11 [n] (enc_p_formed_11 x1 q)) = (fun q => G_p_formed_11 lf x1 n q) from funext ih)]
    rfl
def G_p_formed_4 (lf : Nat) (x1 : DGraph) : Nat → (Int) → Option Rt_p_formed := rounds fun K p => R_p_formed_4 lf x1 K (fun q => G_p_formed_11 lf x1 lf q) p
theorem at_p_formed_4 (g : ElA [cGraph] → Option Rt_p_formed) (lf : Nat) (x1 : DGraph) : ∀ (n : Nat) (p : Int), A_p_formed g lf 4 [n] (enc_p_formed_4 x1 p) = G_p_formed_4 lf x1 n p
  | 0, p => atN_zero 4 [0] rfl _
  | n + 1, p => by
    have ih := at_p_formed_4 g lf x1 n
    refine (atN_eq (icallK_eq 20 _) nd_p_formed ok_p_formed 4 [n + 1] [n] rfl _).trans ((st_p_formed_4 g (A_p_formed g lf) lf x1 n p).trans ?_)
    rw [(show (fun q => A_p_formed g lf 11 [lf] (enc_p_formed_11 x1 q)) = (fun q => G_p_formed_11 lf x1 lf q) from funext fun q => at_p_formed_11 g lf x1 lf q), (show (fun q => A_p_formed g lf 4 [n] (enc_p_formed_4 x1 q)) = (fun q => G_p_formed_4 lf x1 n q) from funext ih)]
    rfl
def F_p_formed (lf : Nat) (x1 : DGraph) : Option Rt_p_formed := R_p_formed_in lf x1 (fun q => G_p_formed_4 lf x1 lf q)
theorem run_p_formed (g : ElA [cGraph] → Option Rt_p_formed) (lf : Nat) (x1 : DGraph) : icodeT Try.prog ttT.get nm_p_formed fi70.nt (cl_p_formed _ lf) lf st_p_formed (A_p_formed g lf) fi70.body [] (argGo (argV [cGraph] (x1, ())) 0 .leaf) S0 [] (lastK ttT.get fi70 ⟨[cGraph], [(false, (.int .i64))], g⟩) = F_p_formed lf x1 := by
    refine (in_p_formed g (A_p_formed g lf) lf x1).trans ?_
    rw [(show (fun q => A_p_formed g lf 4 [lf] (enc_p_formed_4 x1 q)) = (fun q => G_p_formed_4 lf x1 lf q) from funext fun q => at_p_formed_4 g lf x1 lf q)]
    rfl
theorem hxs_p_formed : HxsOK Try.prog hxl_p_formed := ⟨ixO137, trivial⟩
theorem mk_p_formed {g : ElA [cGraph] → Option Rt_p_formed} (hsm : SmOK Try.prog sml_p_formed) (hg : ∀ (x : ElA [cGraph]) (y : Rt_p_formed), WfA [cGraph] x → g x = some y → ∃ lf, F_p_formed lf x.1 = some y) : Con Try.prog 70 ⟨[cGraph], [(false, (.int .i64))], g⟩ :=
  conT (nmf := nm_p_formed) (sml := sml_p_formed) (hxl := hxl_p_formed) (st := st_p_formed) (hd := hd_p_formed) 20 mixed ttOK ftOK hsm hxs_p_formed cal70 rfl rfl (by kernel_rfl) (fun x => by kernel_rfl) nd_p_formed ok_p_formed fun x y hx hy => by
    obtain ⟨lf, h⟩ := hg x y hx hy
    exact ⟨lf, (run_p_formed g lf x.1).trans h⟩
def nm_p_suits : Nat → Option Nm := fun k => none
def st_p_suits : Nat → Bool := fun k => false
def hd_p_suits : Nat → Bool := fun k => false
abbrev Rt_p_suits : Type := Bool × Unit
def sml_p_suits : List (Nat × Sm) := []
def hxl_p_suits : List (Nat × Hx) := []
def cl_p_suits (R : Type) (lf : Nat) : ClK R := icallK Try.prog ttT.get ftT.get (nm1 121 nm_p_suits) (smL sml_p_suits) (hxL hxl_p_suits) lf 20 R
abbrev id_p_suits : Nat := 121
def R_p_suits_in (lf : Nat) (x1 : DGraph) (x2 : DCol) (x3 : DVal) : Option Rt_p_suits := (cond (ieqI x2.2.1 (Int.ofNat 1)) (some ((ieqI x3.1 (Int.ofNat 1)), ())) (cond (ieqI x2.2.1 (Int.ofNat 2)) (some ((ieqI x3.1 (Int.ofNat 2)), ())) (cond (ieqI x3.1 (Int.ofNat 3)) (some (Bool.true, ())) (cond (ieqI x3.1 (Int.ofNat 4)) (cond (keqS x2.2.2 (S.lit [65, 78, 89])) (some (Bool.true, ())) (match (jget x1.1 x3.2) with | .none  => none | .some v0 => (some ((keqS v0.1 x2.2.2), ())))) (some (Bool.false, ()))))))
theorem in_p_suits (g : ElA [cGraph, cCol, cVal] → Option Rt_p_suits) (J : Nat → List Nat → NRes → Option Rt_p_suits) (lf : Nat) (x1 : DGraph) (x2 : DCol) (x3 : DVal) : icodeT Try.prog ttT.get nm_p_suits fi121.nt (cl_p_suits _ lf) lf st_p_suits J fi121.body [] (argGo (argV [cGraph, cCol, cVal] (x1, x2, x3, ())) 0 .leaf) S0 [] (lastK ttT.get fi121 ⟨[cGraph, cCol, cVal], [(false, .bool)], g⟩) = R_p_suits_in lf x1 x2 x3 := by kernel_rfl
theorem nd_p_suits : (regs fi121.body).Nodup := by decide +kernel
theorem ok_p_suits : okC nm_p_suits st_p_suits hd_p_suits fi121.body none = true := by kernel_rfl
def A_p_suits (g : ElA [cGraph, cCol, cVal] → Option Rt_p_suits) (lf : Nat) : Nat → List Nat → NRes → Option Rt_p_suits := atN Try.prog ttT.get nm_p_suits fi121 ⟨[cGraph, cCol, cVal], [(false, .bool)], g⟩ (cl_p_suits _ lf) lf hd_p_suits
def F_p_suits (lf : Nat) (x1 : DGraph) (x2 : DCol) (x3 : DVal) : Option Rt_p_suits := R_p_suits_in lf x1 x2 x3
theorem run_p_suits (g : ElA [cGraph, cCol, cVal] → Option Rt_p_suits) (lf : Nat) (x1 : DGraph) (x2 : DCol) (x3 : DVal) : icodeT Try.prog ttT.get nm_p_suits fi121.nt (cl_p_suits _ lf) lf st_p_suits (A_p_suits g lf) fi121.body [] (argGo (argV [cGraph, cCol, cVal] (x1, x2, x3, ())) 0 .leaf) S0 [] (lastK ttT.get fi121 ⟨[cGraph, cCol, cVal], [(false, .bool)], g⟩) = F_p_suits lf x1 x2 x3 := by
    refine (in_p_suits g (A_p_suits g lf) lf x1 x2 x3).trans ?_
    rfl
theorem hxs_p_suits : HxsOK Try.prog hxl_p_suits := trivial
theorem mk_p_suits {g : ElA [cGraph, cCol, cVal] → Option Rt_p_suits} (hsm : SmOK Try.prog sml_p_suits) (hg : ∀ (x : ElA [cGraph, cCol, cVal]) (y : Rt_p_suits), WfA [cGraph, cCol, cVal] x → g x = some y → ∃ lf, F_p_suits lf x.1 x.2.1 x.2.2.1 = some y) : Con Try.prog 121 ⟨[cGraph, cCol, cVal], [(false, .bool)], g⟩ :=
  conT (nmf := nm_p_suits) (sml := sml_p_suits) (hxl := hxl_p_suits) (st := st_p_suits) (hd := hd_p_suits) 20 mixed ttOK ftOK hsm hxs_p_suits cal121 rfl rfl (by kernel_rfl) (fun x => by kernel_rfl) nd_p_suits ok_p_suits fun x y hx hy => by
    obtain ⟨lf, h⟩ := hg x y hx hy
    exact ⟨lf, (run_p_suits g lf x.1 x.2.1 x.2.2.1).trans h⟩
def nm_p_typed : Nat → Option Nm := fun k => cond (Nat.beq k 2) (some ⟨[0, 3, 11, 12, 13], [], [], [], [], 0, 0, false⟩) (cond (Nat.beq k 8) (some ⟨[0, 3, 6, 11, 12, 13, 31, 32, 33], [], [], [], [], 0, 0, false⟩) (none))
def st_p_typed : Nat → Bool := fun k => cond (Nat.beq k 2) true (cond (Nat.beq k 8) true (false))
def hd_p_typed : Nat → Bool := fun k => cond (Nat.beq k 2) true (cond (Nat.beq k 8) true (false))
abbrev Rt_p_typed : Type := Bool × Unit
def sml_p_typed : List (Nat × Sm) := [(52, sp_p_form), (121, sp_p_suits)]
def hxl_p_typed : List (Nat × Hx) := []
def cl_p_typed (R : Type) (lf : Nat) : ClK R := icallK Try.prog ttT.get ftT.get (nm1 88 nm_p_typed) (smL sml_p_typed) (hxL hxl_p_typed) lf 20 R
abbrev id_p_typed : Nat := 88
def enc_p_typed_2 (x1 : (List DForm)) (x2 : DGraph) (p : Int) : NRes := (NRes.mk (PT.node (some (IV.lst cForm x1)) (PT.node none (PT.node (some (IV.ptr 0 0)) PT.leaf (PT.node (some (IV.lst cNode x2.1)) PT.leaf PT.leaf)) (PT.node none PT.leaf (PT.node (some (IV.int Go.IntKind.i64 p)) PT.leaf PT.leaf))) (PT.node none (PT.node none PT.leaf (PT.node (some (IV.int Go.IntKind.i64 (Int.ofNat (List.length x2.1)))) PT.leaf PT.leaf)) PT.leaf)) (IS.mk (PT.node (some (IObj.row (List.cons (IV.lst cNode x2.1) (List.cons (IV.lst cVal x2.2) [])))) PT.leaf PT.leaf) 1) [] 0)
def enc_p_typed_8 (x1 : (List DForm)) (x2 : DGraph) (p : (List DVal) × (List DCol) × ByteArray × Int × Int) : NRes := (NRes.mk (PT.node (some (IV.lst cForm x1)) (PT.node none (PT.node (some (IV.ptr 0 0)) (PT.node none (PT.node none (PT.node (some (IV.lst cCol p.2.1)) PT.leaf PT.leaf) PT.leaf) PT.leaf) (PT.node (some (IV.lst cNode x2.1)) PT.leaf PT.leaf)) (PT.node none (PT.node none (PT.node none (PT.node (some (IV.int Go.IntKind.i64 p.2.2.2.1)) PT.leaf PT.leaf) PT.leaf) PT.leaf) (PT.node (some (IV.int Go.IntKind.i64 p.2.2.2.2)) PT.leaf PT.leaf))) (PT.node none (PT.node none (PT.node none (PT.node none (PT.node (some (IV.int Go.IntKind.i64 (Int.ofNat (List.length p.2.1)))) PT.leaf PT.leaf) PT.leaf) PT.leaf) (PT.node (some (IV.int Go.IntKind.i64 (Int.ofNat (List.length x2.1)))) PT.leaf PT.leaf)) (PT.node (some (IV.ptr 1 0)) PT.leaf PT.leaf))) (IS.mk (PT.node (some (IObj.row (List.cons (IV.lst cNode x2.1) (List.cons (IV.lst cVal x2.2) [])))) (PT.node (some (IObj.row (List.cons (IV.str p.2.2.1) (List.cons (IV.lst cVal p.1) [])))) PT.leaf PT.leaf) PT.leaf) 2) [] 0)
def R_p_typed_in (lf : Nat) (x1 : (List DForm)) (x2 : DGraph) (L2 : Int → Option Rt_p_typed) : Option Rt_p_typed := (L2 (Int.ofNat 0))
def R_p_typed_2 (lf : Nat) (x1 : (List DForm)) (x2 : DGraph) (L8 : ((List DVal) × (List DCol) × ByteArray × Int × Int) → Option Rt_p_typed) (p : Int) : Option Rt_p_typed := (cond (iltI p (Int.ofNat (List.length x2.1))) (match (jget x2.1 p) with | .none  => none | .some v0 => (match (jget x1 (Go.Proofs.Ytcnhjofpmpipfaa.S.form x1 v0.1)) with | .none  => none | .some v1 => (cond (Bool.not (ieqI (Int.ofNat (List.length v0.2)) (Int.ofNat (List.length v1.2)))) (some (Bool.false, ())) (L8 (v0.2, v1.2, v0.1, (Int.ofNat 0), p))))) (some (Bool.true, ())))
def R_p_typed_8 (lf : Nat) (x1 : (List DForm)) (x2 : DGraph) (L8 : ((List DVal) × (List DCol) × ByteArray × Int × Int) → Option Rt_p_typed) (L2 : Int → Option Rt_p_typed) (p : (List DVal) × (List DCol) × ByteArray × Int × Int) : Option Rt_p_typed := (cond (iltI p.2.2.2.1 (Int.ofNat (List.length p.2.1))) (match (jget p.2.1 p.2.2.2.1) with | .none  => none | .some v0 => (match (jget p.1 p.2.2.2.1) with | .none  => none | .some v1 => (match (cond (Go.Proofs.Ytcnhjofpmpipfaa.S.refOK (x2.1, x2.2) (v1.1, v1.2)) (some ((Go.Proofs.Ytcnhjofpmpipfaa.S.suits (x2.1, x2.2) (v0.1, (v0.2.1, v0.2.2)) (v1.1, v1.2)), ())) none) with | .none  => none | .some v2 => (cond (Bool.not v2.1) (some (Bool.false, ())) (L8 (p.1, p.2.1, p.2.2.1, (Go.IntKind.wrap Go.IntKind.i64 (Int.add p.2.2.2.1 (Int.ofNat 1))), p.2.2.2.2)))))) (L2 (Go.IntKind.wrap Go.IntKind.i64 (Int.add p.2.2.2.2 (Int.ofNat 1)))))
theorem in_p_typed (g : ElA [(.list cForm), cGraph] → Option Rt_p_typed) (J : Nat → List Nat → NRes → Option Rt_p_typed) (lf : Nat) (x1 : (List DForm)) (x2 : DGraph) : icodeT Try.prog ttT.get nm_p_typed fi88.nt (cl_p_typed _ lf) lf st_p_typed J fi88.body [] (argGo (argV [(.list cForm), cGraph] (x1, x2, ())) 0 .leaf) S0 [] (lastK ttT.get fi88 ⟨[(.list cForm), cGraph], [(false, .bool)], g⟩) = R_p_typed_in lf x1 x2 (fun q => J 2 [lf] (enc_p_typed_2 x1 x2 q)) := by kernel_rfl
theorem st_p_typed_2 (g : ElA [(.list cForm), cGraph] → Option Rt_p_typed) (J : Nat → List Nat → NRes → Option Rt_p_typed) (lf : Nat) (x1 : (List DForm)) (x2 : DGraph) (m1 : Nat) (p : Int) : icodeFT Try.prog ttT.get nm_p_typed fi88.nt (cl_p_typed _ lf) lf st_p_typed J 2 fi88.body [] [m1] (enc_p_typed_2 x1 x2 p) (lastK ttT.get fi88 ⟨[(.list cForm), cGraph], [(false, .bool)], g⟩) = R_p_typed_2 lf x1 x2 (fun q => J 8 [m1, lf] (enc_p_typed_8 x1 x2 q)) p := by kernel_rfl
theorem st_p_typed_8 (g : ElA [(.list cForm), cGraph] → Option Rt_p_typed) (J : Nat → List Nat → NRes → Option Rt_p_typed) (lf : Nat) (x1 : (List DForm)) (x2 : DGraph) (m1 : Nat) (m2 : Nat) (p : (List DVal) × (List DCol) × ByteArray × Int × Int) : icodeFT Try.prog ttT.get nm_p_typed fi88.nt (cl_p_typed _ lf) lf st_p_typed J 8 fi88.body [] [m1, m2] (enc_p_typed_8 x1 x2 p) (lastK ttT.get fi88 ⟨[(.list cForm), cGraph], [(false, .bool)], g⟩) = R_p_typed_8 lf x1 x2 (fun q => J 8 [m1, m2] (enc_p_typed_8 x1 x2 q)) (fun q => J 2 [m1] (enc_p_typed_2 x1 x2 q)) p := by kernel_rfl
theorem nd_p_typed : (regs fi88.body).Nodup := by decide +kernel
theorem ok_p_typed : okC nm_p_typed st_p_typed hd_p_typed fi88.body none = true := by kernel_rfl
def A_p_typed (g : ElA [(.list cForm), cGraph] → Option Rt_p_typed) (lf : Nat) : Nat → List Nat → NRes → Option Rt_p_typed := atN Try.prog ttT.get nm_p_typed fi88 ⟨[(.list cForm), cGraph], [(false, .bool)], g⟩ (cl_p_typed _ lf) lf hd_p_typed
def G_p_typed_8 (lf : Nat) (x1 : (List DForm)) (x2 : DGraph) (K2 : Int → Option Rt_p_typed) : Nat → ((List DVal) × (List DCol) × ByteArray × Int × Int) → Option Rt_p_typed := rounds fun K p => R_p_typed_8 lf x1 x2 K K2 p
theorem at_p_typed_8 (g : ElA [(.list cForm), cGraph] → Option Rt_p_typed) (lf : Nat) (x1 : (List DForm)) (x2 : DGraph) (m1 : Nat) : ∀ (n : Nat) (p : (List DVal) × (List DCol) × ByteArray × Int × Int), A_p_typed g lf 8 [m1, n] (enc_p_typed_8 x1 x2 p) = G_p_typed_8 lf x1 x2 (fun q => A_p_typed g lf 2 [m1] (enc_p_typed_2 x1 x2 q)) n p
  | 0, p => atN_zero 8 [m1, 0] rfl _
  | n + 1, p => by
    have ih := at_p_typed_8 g lf x1 x2 m1 n
    refine (atN_eq (icallK_eq 20 _) nd_p_typed ok_p_typed 8 [m1, n + 1] [m1, n] rfl _).trans ((st_p_typed_8 g (A_p_typed g lf) lf x1 x2 m1 n p).trans ?_)
    rw [(show (fun q => A_p_typed g lf 8 [m1, n] (enc_p_typed_8 x1 x2 q)) = (fun q => G_p_typed_8 lf x1 x2 (fun q => A_p_typed g lf 2 [m1] (enc_p_typed_2 x1 x2 q)) n q) from funext ih)]
    rfl
def G_p_typed_2 (lf : Nat) (x1 : (List DForm)) (x2 : DGraph) : Nat → (Int) → Option Rt_p_typed := rounds fun K p => R_p_typed_2 lf x1 x2 (fun q => G_p_typed_8 lf x1 x2 K lf q) p
theorem at_p_typed_2 (g : ElA [(.list cForm), cGraph] → Option Rt_p_typed) (lf : Nat) (x1 : (List DForm)) (x2 : DGraph) : ∀ (n : Nat) (p : Int), A_p_typed g lf 2 [n] (enc_p_typed_2 x1 x2 p) = G_p_typed_2 lf x1 x2 n p
  | 0, p => atN_zero 2 [0] rfl _
  | n + 1, p => by
    have ih := at_p_typed_2 g lf x1 x2 n
    refine (atN_eq (icallK_eq 20 _) nd_p_typed ok_p_typed 2 [n + 1] [n] rfl _).trans ((st_p_typed_2 g (A_p_typed g lf) lf x1 x2 n p).trans ?_)
    rw [(show (fun q => A_p_typed g lf 8 [n, lf] (enc_p_typed_8 x1 x2 q)) = (fun q => G_p_typed_8 lf x1 x2 (fun q => A_p_typed g lf 2 [n] (enc_p_typed_2 x1 x2 q)) lf q) from funext fun q => at_p_typed_8 g lf x1 x2 n lf q), (show (fun q => A_p_typed g lf 2 [n] (enc_p_typed_2 x1 x2 q)) = (fun q => G_p_typed_2 lf x1 x2 n q) from funext ih)]
    rfl
def F_p_typed (lf : Nat) (x1 : (List DForm)) (x2 : DGraph) : Option Rt_p_typed := R_p_typed_in lf x1 x2 (fun q => G_p_typed_2 lf x1 x2 lf q)
theorem run_p_typed (g : ElA [(.list cForm), cGraph] → Option Rt_p_typed) (lf : Nat) (x1 : (List DForm)) (x2 : DGraph) : icodeT Try.prog ttT.get nm_p_typed fi88.nt (cl_p_typed _ lf) lf st_p_typed (A_p_typed g lf) fi88.body [] (argGo (argV [(.list cForm), cGraph] (x1, x2, ())) 0 .leaf) S0 [] (lastK ttT.get fi88 ⟨[(.list cForm), cGraph], [(false, .bool)], g⟩) = F_p_typed lf x1 x2 := by
    refine (in_p_typed g (A_p_typed g lf) lf x1 x2).trans ?_
    rw [(show (fun q => A_p_typed g lf 2 [lf] (enc_p_typed_2 x1 x2 q)) = (fun q => G_p_typed_2 lf x1 x2 lf q) from funext fun q => at_p_typed_2 g lf x1 x2 lf q)]
    rfl
theorem hxs_p_typed : HxsOK Try.prog hxl_p_typed := trivial
theorem mk_p_typed {g : ElA [(.list cForm), cGraph] → Option Rt_p_typed} (hsm : SmOK Try.prog sml_p_typed) (hg : ∀ (x : ElA [(.list cForm), cGraph]) (y : Rt_p_typed), WfA [(.list cForm), cGraph] x → g x = some y → ∃ lf, F_p_typed lf x.1 x.2.1 = some y) : Con Try.prog 88 ⟨[(.list cForm), cGraph], [(false, .bool)], g⟩ :=
  conT (nmf := nm_p_typed) (sml := sml_p_typed) (hxl := hxl_p_typed) (st := st_p_typed) (hd := hd_p_typed) 20 mixed ttOK ftOK hsm hxs_p_typed cal88 rfl rfl (by kernel_rfl) (fun x => by kernel_rfl) nd_p_typed ok_p_typed fun x y hx hy => by
    obtain ⟨lf, h⟩ := hg x y hx hy
    exact ⟨lf, (run_p_typed g lf x.1 x.2.1).trans h⟩
def nm_p_check : Nat → Option Nm := fun k => none
def st_p_check : Nat → Bool := fun k => false
def hd_p_check : Nat → Bool := fun k => false
abbrev Rt_p_check : Type := Int × Unit
def sml_p_check : List (Nat × Sm) := [(70, sp_p_formed), (52, sp_p_form), (88, sp_p_typed)]
def hxl_p_check : List (Nat × Hx) := [(135, idxHx cNode)]
def cl_p_check (R : Type) (lf : Nat) : ClK R := icallK Try.prog ttT.get ftT.get (nm1 59 nm_p_check) (smL sml_p_check) (hxL hxl_p_check) lf 20 R
abbrev id_p_check : Nat := 59
def R_p_check_in (lf : Nat) (x1 : (List DForm)) (x2 : DGraph) : Option Rt_p_check := (cond (Bool.not (ieqI (Go.Proofs.Ytcnhjofpmpipfaa.S.formed (x2.1, x2.2)) (Int.ofNat 0))) (some ((Go.Proofs.Ytcnhjofpmpipfaa.S.formed (x2.1, x2.2)), ())) (match (idxO (fun v0 => (some (iltI (Go.Proofs.Ytcnhjofpmpipfaa.S.form x1 v0.1) (Int.ofNat 0)))) x2.1 0) with | .none  => none | .some v1 => (cond (Bool.not (iltI v1 (Int.ofNat 0))) (some ((Int.ofNat 4), ())) (match (cond (Go.Proofs.Ytcnhjofpmpipfaa.S.typedPre x1 (x2.1, x2.2)) (some ((Go.Proofs.Ytcnhjofpmpipfaa.S.typed x1 (x2.1, x2.2) x2.1), ())) none) with | .none  => none | .some v2 => (cond v2.1 (some ((Int.ofNat 0), ())) (some ((Int.ofNat 8), ())))))))
theorem in_p_check (g : ElA [(.list cForm), cGraph] → Option Rt_p_check) (J : Nat → List Nat → NRes → Option Rt_p_check) (lf : Nat) (x1 : (List DForm)) (x2 : DGraph) : icodeT Try.prog ttT.get nm_p_check fi59.nt (cl_p_check _ lf) lf st_p_check J fi59.body [] (argGo (argV [(.list cForm), cGraph] (x1, x2, ())) 0 .leaf) S0 [] (lastK ttT.get fi59 ⟨[(.list cForm), cGraph], [(false, (.int .i64))], g⟩) = R_p_check_in lf x1 x2 := by kernel_rfl
theorem nd_p_check : (regs fi59.body).Nodup := by decide +kernel
theorem ok_p_check : okC nm_p_check st_p_check hd_p_check fi59.body none = true := by kernel_rfl
def A_p_check (g : ElA [(.list cForm), cGraph] → Option Rt_p_check) (lf : Nat) : Nat → List Nat → NRes → Option Rt_p_check := atN Try.prog ttT.get nm_p_check fi59 ⟨[(.list cForm), cGraph], [(false, (.int .i64))], g⟩ (cl_p_check _ lf) lf hd_p_check
def F_p_check (lf : Nat) (x1 : (List DForm)) (x2 : DGraph) : Option Rt_p_check := R_p_check_in lf x1 x2
theorem run_p_check (g : ElA [(.list cForm), cGraph] → Option Rt_p_check) (lf : Nat) (x1 : (List DForm)) (x2 : DGraph) : icodeT Try.prog ttT.get nm_p_check fi59.nt (cl_p_check _ lf) lf st_p_check (A_p_check g lf) fi59.body [] (argGo (argV [(.list cForm), cGraph] (x1, x2, ())) 0 .leaf) S0 [] (lastK ttT.get fi59 ⟨[(.list cForm), cGraph], [(false, (.int .i64))], g⟩) = F_p_check lf x1 x2 := by
    refine (in_p_check g (A_p_check g lf) lf x1 x2).trans ?_
    rfl
theorem hxs_p_check : HxsOK Try.prog hxl_p_check := ⟨ixO135, trivial⟩
theorem mk_p_check {g : ElA [(.list cForm), cGraph] → Option Rt_p_check} (hsm : SmOK Try.prog sml_p_check) (hg : ∀ (x : ElA [(.list cForm), cGraph]) (y : Rt_p_check), WfA [(.list cForm), cGraph] x → g x = some y → ∃ lf, F_p_check lf x.1 x.2.1 = some y) : Con Try.prog 59 ⟨[(.list cForm), cGraph], [(false, (.int .i64))], g⟩ :=
  conT (nmf := nm_p_check) (sml := sml_p_check) (hxl := hxl_p_check) (st := st_p_check) (hd := hd_p_check) 20 mixed ttOK ftOK hsm hxs_p_check cal59 rfl rfl (by kernel_rfl) (fun x => by kernel_rfl) nd_p_check ok_p_check fun x y hx hy => by
    obtain ⟨lf, h⟩ := hg x y hx hy
    exact ⟨lf, (run_p_check g lf x.1 x.2.1).trans h⟩
def nm_p_Check : Nat → Option Nm := fun k => none
def st_p_Check : Nat → Bool := fun k => false
def hd_p_Check : Nat → Bool := fun k => false
abbrev Rt_p_Check : Type := Int × Unit
def sml_p_Check : List (Nat × Sm) := [(16, sp_p_CheckForms), (59, sp_p_check)]
def hxl_p_Check : List (Nat × Hx) := []
def cl_p_Check (R : Type) (lf : Nat) : ClK R := icallK Try.prog ttT.get ftT.get (nm1 18 nm_p_Check) (smL sml_p_Check) (hxL hxl_p_Check) lf 20 R
abbrev id_p_Check : Nat := 18
def R_p_Check_in (lf : Nat) (x1 : (List DForm)) (x2 : DGraph) : Option Rt_p_Check := (cond (Bool.not (ieqI (Go.Proofs.Ytcnhjofpmpipfaa.S.checkForms x1) (Int.ofNat 0))) (some ((Go.Proofs.Ytcnhjofpmpipfaa.S.checkForms x1), ())) (some ((Go.Proofs.Ytcnhjofpmpipfaa.S.check x1 (x2.1, x2.2)), ())))
theorem in_p_Check (g : ElA [(.list cForm), cGraph] → Option Rt_p_Check) (J : Nat → List Nat → NRes → Option Rt_p_Check) (lf : Nat) (x1 : (List DForm)) (x2 : DGraph) : icodeT Try.prog ttT.get nm_p_Check fi18.nt (cl_p_Check _ lf) lf st_p_Check J fi18.body [] (argGo (argV [(.list cForm), cGraph] (x1, x2, ())) 0 .leaf) S0 [] (lastK ttT.get fi18 ⟨[(.list cForm), cGraph], [(false, (.int .i64))], g⟩) = R_p_Check_in lf x1 x2 := by kernel_rfl
theorem nd_p_Check : (regs fi18.body).Nodup := by decide +kernel
theorem ok_p_Check : okC nm_p_Check st_p_Check hd_p_Check fi18.body none = true := by kernel_rfl
def A_p_Check (g : ElA [(.list cForm), cGraph] → Option Rt_p_Check) (lf : Nat) : Nat → List Nat → NRes → Option Rt_p_Check := atN Try.prog ttT.get nm_p_Check fi18 ⟨[(.list cForm), cGraph], [(false, (.int .i64))], g⟩ (cl_p_Check _ lf) lf hd_p_Check
def F_p_Check (lf : Nat) (x1 : (List DForm)) (x2 : DGraph) : Option Rt_p_Check := R_p_Check_in lf x1 x2
theorem run_p_Check (g : ElA [(.list cForm), cGraph] → Option Rt_p_Check) (lf : Nat) (x1 : (List DForm)) (x2 : DGraph) : icodeT Try.prog ttT.get nm_p_Check fi18.nt (cl_p_Check _ lf) lf st_p_Check (A_p_Check g lf) fi18.body [] (argGo (argV [(.list cForm), cGraph] (x1, x2, ())) 0 .leaf) S0 [] (lastK ttT.get fi18 ⟨[(.list cForm), cGraph], [(false, (.int .i64))], g⟩) = F_p_Check lf x1 x2 := by
    refine (in_p_Check g (A_p_Check g lf) lf x1 x2).trans ?_
    rfl
theorem hxs_p_Check : HxsOK Try.prog hxl_p_Check := trivial
theorem mk_p_Check {g : ElA [(.list cForm), cGraph] → Option Rt_p_Check} (hsm : SmOK Try.prog sml_p_Check) (hg : ∀ (x : ElA [(.list cForm), cGraph]) (y : Rt_p_Check), WfA [(.list cForm), cGraph] x → g x = some y → ∃ lf, F_p_Check lf x.1 x.2.1 = some y) : Con Try.prog 18 ⟨[(.list cForm), cGraph], [(false, (.int .i64))], g⟩ :=
  conT (nmf := nm_p_Check) (sml := sml_p_Check) (hxl := hxl_p_Check) (st := st_p_Check) (hd := hd_p_Check) 20 mixed ttOK ftOK hsm hxs_p_Check cal18 rfl rfl (by kernel_rfl) (fun x => by kernel_rfl) nd_p_Check ok_p_Check fun x y hx hy => by
    obtain ⟨lf, h⟩ := hg x y hx hy
    exact ⟨lf, (run_p_Check g lf x.1 x.2.1).trans h⟩
end Go.Proofs.Ytcnhjofpmpipfaa

end
end

/- The contracts of package pack, first part. -/
section
set_option linter.unusedVariables false
namespace Go.Proofs.Ytcnhjofpmpipfaa
open Go Go.Sx Go.RowKit Go.Jx
theorem F_p_within_eq (lf : Nat) (n lo hi : Int) : F_p_within lf n lo hi = some (S.within n lo hi, ()) := by
  simp only [F_p_within, R_p_within_in, S.within, iltI_eq, cond_if]
  by_cases h1 : n < lo
  · simp [h1]; omega
  · by_cases h2 : hi < n <;> simp [h1, h2] <;> omega
theorem con_p_within : Con Try.prog id_p_within sp_p_within := mk_p_within trivial fun x y _ h => ⟨0, (F_p_within_eq _ _ _ _).trans h⟩
theorem F_p_first_eq (l : List Int) (hl : l.length < LF) : F_p_first LF l = some (S.first l, ()) := by
  refine range1 (R := Rt_p_first) l (fun rest _ => some (S.first rest, ())) hl (fun K => ?_) (fun K i v rest r h => ?_)
  · simp only [R_p_first_2, ilt_self, cond_false]; rfl
  · simp only [R_p_first_2, r.ilt, r.get, r.next, h, cond_true, S.first, ieqI_eq, cond_if]
    by_cases hv : v = 0
    · simp [hv]
    · simp [hv]
theorem con_p_first : Con Try.prog id_p_first sp_p_first := mk_p_first trivial fun x y hx h => ⟨LF, (F_p_first_eq _ (wf_len hx.1)).trans h⟩
theorem F_p_form_eq (lf : Nat) (l : List DForm) (n : ByteArray) : F_p_form lf l n = some (S.form l n, ()) := by
  simp only [F_p_form, R_p_form_in]
  rw [idxO_idx (l := l) (fun f : DForm => keqS f.1 n) fun x _ => rfl]
  rfl
theorem con_p_form : Con Try.prog id_p_form sp_p_form := mk_p_form trivial fun x y _ h => ⟨0, (F_p_form_eq _ _ _).trans h⟩
theorem F_p_col_eq (lf : Nat) (l : List DCol) (n : ByteArray) : F_p_col lf l n = some (S.col l n, ()) := by
  simp only [F_p_col, R_p_col_in]
  rw [idxO_idx (l := l) (fun f : DCol => keqS f.1 n) fun x _ => rfl]
  rfl
theorem con_p_col : Con Try.prog id_p_col sp_p_col := mk_p_col trivial fun x y _ h => ⟨0, (F_p_col_eq _ _ _).trans h⟩
theorem F_p_ruleOf_eq (lf : Nat) (l : List DRule) (n : ByteArray) : F_p_ruleOf lf l n = some ((S.ruleOf l n).1, (S.ruleOf l n).2, ()) := by
  simp only [F_p_ruleOf, R_p_ruleOf_in]
  rw [idxO_idx (l := l) (fun f : DRule => keqS f.1 n) fun x _ => rfl]
  simp only [iltI_eq, cond_if]
  by_cases h : S.idx (fun f : DRule => keqS f.1 n) l < 0
  · have := S.idx_neg h
    simp only [S.ruleOf, this]
    rw [if_pos (by simpa using h)]
    rfl
  · obtain ⟨x, h1, h2, h3, h4, h5, h6⟩ := S.idx_get (p := fun f : DRule => keqS f.1 n) (l := l) (by omega)
    simp only [S.ruleOf, h6, h1]
    rw [if_neg (by simpa using h)]
theorem con_p_ruleOf : Con Try.prog id_p_ruleOf sp_p_ruleOf := mk_p_ruleOf trivial fun x y _ h => ⟨0, (F_p_ruleOf_eq _ _ _).trans h⟩
theorem byteList_get {s : ByteArray} (h : 0 < s.size) : ∃ b, (byteList s)[0]? = some b := by
  unfold byteList
  have : 0 < s.data.toList.length := by simpa using h
  exact ⟨_, by rw [List.getElem?_map, List.getElem?_eq_getElem this]; rfl⟩
theorem size_pos {s : ByteArray} (h : ¬ s = S.lit []) : 0 < s.size := by
  rcases Nat.eq_zero_or_pos s.size with h0 | h0
  · exfalso; apply h
    obtain ⟨a⟩ := s
    have : a = #[] := by simpa [ByteArray.size] using h0
    rw [this]; rfl
  · exact h0
theorem F_p_named_eq (lf : Nat) (s : ByteArray) (lo hi : Int) (h1 : IntKind.u8.wrap lo = lo) (h2 : IntKind.u8.wrap hi = hi) : F_p_named lf s lo hi = some (S.named s lo hi, ()) := by
  have w1 : IntKind.i32.wrap lo = lo := by rw [wrap_iff] at *; simp [IntKind.min, IntKind.max, IntKind.bits, IntKind.signed] at *; omega
  have w2 : IntKind.i32.wrap hi = hi := by rw [wrap_iff] at *; simp [IntKind.min, IntKind.max, IntKind.bits, IntKind.signed] at *; omega
  simp only [F_p_named, R_p_named_in, S.named, w1, w2]
  by_cases hs : s = S.lit []
  · subst hs; simp [keqS]
  have hp := size_pos hs
  rw [if_neg hs, show keqS s (S.lit []) = false by simp [keqS, hs], cond_false]
  by_cases h20 : 20 < s.size
  · rw [if_pos h20, show iltI (Int.ofNat 20) (Int.ofNat s.size) = true by rw [iltI_eq]; exact decide_eq_true (Int.ofNat_lt.2 h20), cond_true]
  rw [if_neg h20, show iltI (Int.ofNat 20) (Int.ofNat s.size) = false by rw [iltI_eq]; simp; omega, cond_false]
  obtain ⟨b, hb⟩ := byteList_get hp
  have hj : jget (byteList s) (Int.ofNat 0) = some b := by rw [jget_nat, hb]
  simp only [hj, hb, iltI_eq, cond_if, decide_eq_true_eq]
  by_cases hlo : b < lo
  · rw [if_pos hlo, if_pos hlo]
  rw [if_neg hlo, if_neg hlo]
  by_cases hhi : hi < b
  · rw [if_pos hhi, if_pos hhi]
  rw [if_neg hhi, if_neg hhi]
  have e : (fun (v2 : Nat) (v3 : Int) => (if (!decide (v3 < lo)) = true then if (!decide (hi < v3)) = true then some false else if (!decide (v3 < Int.ofNat 48)) = true then if (!decide (Int.ofNat 57 < v3)) = true then some false else some (!ieqI v3 (Int.ofNat 95)) else some (!ieqI v3 (Int.ofNat 95)) else if (!decide (v3 < Int.ofNat 48)) = true then if (!decide (Int.ofNat 57 < v3)) = true then some false else some (!ieqI v3 (Int.ofNat 95)) else some (!ieqI v3 (Int.ofNat 95)) : Option Bool)) = fun _ r => some (S.badR r lo hi) := by
    funext _ r
    have e48 : Int.ofNat 48 = 48 := rfl
    have e57 : Int.ofNat 57 = 57 := rfl
    have e95 : Int.ofNat 95 = 95 := rfl
    simp only [S.badR, ieqI_eq, e48, e57, e95]
    by_cases a : r < lo <;> by_cases b : hi < r <;> by_cases c : r < 48 <;> by_cases d : 57 < r <;> by_cases e : r = 95 <;> simp [a, b, c, d, e] <;> omega
  rw [e]
  have e0 : Int.ofNat 0 = 0 := rfl
  obtain ⟨k, hk⟩ := sixO_some (p := fun _ r => some (S.badR r lo hi)) (q := fun r => S.badR r lo hi) (fun _ _ => rfl) s true (s.size + 1) 0 (by omega)
  have hk2 : sixO (fun _ r => some (S.badR r lo hi)) s Bool.true (Nat.add s.size 1) 0 = some k := hk
  simp only [hk, hk2, e0]
theorem con_p_named : Con Try.prog id_p_named sp_p_named := mk_p_named trivial fun x y hx h => ⟨0, (F_p_named_eq _ _ _ _ hx.2.1 hx.2.2.1).trans h⟩
theorem F_slices_Index_string_eq (l : List ByteArray) (v : ByteArray) (hl : l.length < LF) : F_slices_Index_string LF l v = some (S.index l v, ()) := by
  refine (range1 (R := Rt_slices_Index_string) l (fun rest i => some ((match rest.findIdx? (fun x => keqS v x) with | some j => Int.ofNat (i + j) | none => -1), ())) hl (fun K => ?_) (fun K i w rest r h => ?_)).trans ?_
  · simp only [R_slices_Index_string_2, ilt_self, cond_false]; rfl
  · simp only [R_slices_Index_string_2, r.ilt, r.get, r.next, h, cond_true, List.findIdx?_cons]
    cases keqS v w with
    | true => rfl
    | false =>
      simp only [cond_false]
      cases List.findIdx? (fun x => keqS v x) rest with
      | none => rfl
      | some j => simp; omega
  · simp only [S.index, S.idx, Nat.zero_add]; all_goals rfl
theorem con_slices_Index_string : Con Try.prog id_slices_Index_string sp_slices_Index_string := mk_slices_Index_string trivial fun x y hx h => ⟨LF, (F_slices_Index_string_eq _ _ (wf_len hx.1)).trans h⟩
theorem F_p_class_eq (lf : Nat) (s : ByteArray) : F_p_class lf s = some (S.class_ s, ()) := by
  simp only [F_p_class, R_p_class_in, S.class_, iltI_eq]
  have e1 : Int.ofNat 65 = 65 := rfl
  have e2 : Int.ofNat 90 = 90 := rfl
  rw [e1, e2]
  cases S.named s 65 90
  · rfl
  · simp; rfl
theorem con_p_class : Con Try.prog id_p_class sp_p_class := mk_p_class ⟨con_p_named, con_slices_Index_string, trivial⟩ fun x y hx h => ⟨LF, (F_p_class_eq _ _).trans h⟩
theorem F_p_small_eq (lf : Nat) (s : ByteArray) : F_p_small lf s = some (S.small s, ()) := by
  simp only [F_p_small, R_p_small_in, S.small, iltI_eq]
  have e1 : Int.ofNat 97 = 97 := rfl
  have e2 : Int.ofNat 122 = 122 := rfl
  rw [e1, e2]
  cases S.named s 97 122
  · rfl
  · simp; rfl
theorem con_p_small : Con Try.prog id_p_small sp_p_small := mk_p_small ⟨con_p_named, con_slices_Index_string, trivial⟩ fun x y hx h => ⟨LF, (F_p_small_eq _ _).trans h⟩

/-! ### Classes -/
theorem lchk_pre {α : Type} (l : List α) {i : Nat} (h : i ≤ l.length) : lchk (Int.ofNat 0) (Int.ofNat i) (Int.ofNat l.length) (Int.ofNat l.length) = true := by
  simp [lchk, iltI_eq]; omega
theorem lsub_pre {α : Type} (l : List α) (i : Nat) : lsub l (Int.ofNat 0) (Int.ofNat i) = l.take i := by
  simp [lsub]
theorem F_p_checkCols_eq (l : List DCol) (hl : l.length < LF) : F_p_checkCols LF l = some (S.checkCols l, ()) := by
  simp only [F_p_checkCols, R_p_checkCols_in, S.checkCols]
  by_cases h30 : 30 < l.length
  · rw [if_pos h30, show iltI (Int.ofNat 30) (Int.ofNat l.length) = true by rw [iltI_eq]; exact decide_eq_true (Int.ofNat_lt.2 h30)]; rfl
  rw [if_neg h30, show iltI (Int.ofNat 30) (Int.ofNat l.length) = false by rw [iltI_eq]; exact decide_eq_false (fun h => h30 (Int.ofNat_lt.1 h)), cond_false]
  refine range1 (R := Rt_p_checkCols) l (fun rest i => some (S.ccGo l i rest, ())) hl (fun K => ?_) (fun K i v rest r h => ?_)
  · simp only [R_p_checkCols_4, ilt_self, cond_false]; rfl
  · simp only [R_p_checkCols_4, r.ilt, r.get, r.next, h, cond_true, lchk_pre l (Nat.le_of_lt r.lt), lsub_pre, S.ccGo, iltI_eq, ieqI_eq, keqS, cond_if]
    simp only [oL]
    generalize S.small v.1 = b1
    generalize S.within v.2.1 1 3 = b2
    by_cases hc : S.col (l.take i) v.1 < 0 <;> by_cases h3 : v.2.1 = 3 <;> by_cases hn : v.2.2 = S.lit [] <;> cases b1 <;> cases b2 <;> simp [hc, h3, hn]
theorem con_p_checkCols : Con Try.prog id_p_checkCols sp_p_checkCols := mk_p_checkCols ⟨con_p_small, con_p_col, con_p_within, trivial⟩ fun x y hx h => ⟨LF, (F_p_checkCols_eq _ (wf_len hx.1)).trans h⟩
theorem cf_inner (x1 : List DForm) (K11 : Int → Option Rt_p_CheckForms) (f : DForm) (hf : f.2.length < LF) (i : Nat) :
    G_p_CheckForms_14 LF x1 K11 LF (f.2, Int.ofNat 0, Int.ofNat i) = if S.cfIn x1 f.2 = true then K11 (IntKind.i64.wrap (Int.add (Int.ofNat i) (Int.ofNat 1))) else some (5, ()) := by
  refine range0 (σ := Unit) (R := Rt_p_CheckForms) f.2 (fun k _ => (f.2, k, Int.ofNat i)) (fun _ _ => True) (fun rest _ _ => if S.cfIn x1 rest = true then K11 (IntKind.i64.wrap (Int.add (Int.ofNat i) (Int.ofNat 1))) else some (5, ())) hf (fun K s _ => ?_) (fun K k c rest s _ r h => ?_) () trivial
  · simp only [R_p_CheckForms_14, ilt_self, cond_false]; rfl
  · have h := h () trivial
    have e3 : Int.ofNat 3 = 3 := rfl
    have e0 : Int.ofNat 0 = 0 := rfl
    simp only [R_p_CheckForms_14, r.ilt, r.get, r.next, h, cond_true, iltI_eq, ieqI_eq, keqS, cond_if, S.cfIn]
    simp only [e3, e0]
    have ea : S.lit [65, 78, 89] = S.ANY := rfl
    simp only [ea, decide_eq_true_eq, Bool.not_eq_true', decide_eq_false_iff_not]
    by_cases h3 : c.2.1 = 3 <;> by_cases hn : c.2.2 = S.ANY <;> by_cases hf : S.form x1 c.2.2 < 0 <;> simp [h3, hn, hf]
theorem cf_second (x1 : List DForm) (hl : x1.length < LF) (hw : ∀ f ∈ x1, f.2.length < LF) : G_p_CheckForms_11 LF x1 LF (Int.ofNat 0) = some (S.cfGo2 x1 x1, ()) := by
  refine range1 (R := Rt_p_CheckForms) x1 (fun rest i => some (S.cfGo2 x1 rest, ())) hl (fun K => ?_) (fun K i v rest r h => ?_)
  · simp only [R_p_CheckForms_11, ilt_self, cond_false]; rfl
  · simp only [R_p_CheckForms_11, r.ilt, r.get, cond_true]
    refine (cf_inner x1 K v (hw v r.mem) i).trans ?_
    rw [r.next, h]
    simp only [S.cfGo2]
    split <;> rfl
theorem first3 (a b c : Int) : S.first [a, b, c] = if a = 0 then (if b = 0 then c else b) else a := by
  simp only [S.first]
  split
  · split
    · split <;> simp_all
    · rfl
  · rfl
theorem F_p_CheckForms_eq (l : List DForm) (hl : l.length < LF) (hw : ∀ f ∈ l, f.2.length < LF) : F_p_CheckForms LF l = some (S.checkForms l, ()) := by
  simp only [F_p_CheckForms, R_p_CheckForms_in, S.checkForms]
  by_cases h24 : 24 < l.length
  · rw [if_pos h24, show iltI (Int.ofNat 24) (Int.ofNat l.length) = true by rw [iltI_eq]; exact decide_eq_true (Int.ofNat_lt.2 h24)]; rfl
  rw [if_neg h24, show iltI (Int.ofNat 24) (Int.ofNat l.length) = false by rw [iltI_eq]; exact decide_eq_false (fun h => h24 (Int.ofNat_lt.1 h)), cond_false]
  refine range1 (R := Rt_p_CheckForms) l (fun rest i => some (S.cfGo l i rest, ())) hl (fun K => ?_) (fun K i v rest r h => ?_)
  · simp only [R_p_CheckForms_4, ilt_self, cond_false, S.cfGo]
    exact cf_second l hl hw
  · have e0 : Int.ofNat 0 = 0 := rfl
    simp only [R_p_CheckForms_4, r.ilt, r.get, r.next, h, cond_true, lchk_pre l (Nat.le_of_lt r.lt), lsub_pre, S.cfGo, iltI_eq, ieqI_eq, cond_if, S.unlessE, first3]
    simp only [e0]
    have e4 : Int.ofNat 4 = 4 := rfl
    have e6 : Int.ofNat 6 = 6 := rfl
    simp only [e4, e6]
    cases S.class_ v.1 <;> by_cases hf : S.form (l.take i) v.1 < 0 <;> by_cases hc : S.checkCols v.2 = 0 <;> simp [hf, hc]
theorem con_p_CheckForms : Con Try.prog id_p_CheckForms sp_p_CheckForms := mk_p_CheckForms ⟨con_p_class, con_p_form, con_p_checkCols, con_p_first, trivial⟩ fun x y hx h => ⟨LF, (F_p_CheckForms_eq _ (wf_len hx.1) fun f hf => wf_len (hx.1.2 f hf).2).trans h⟩

/-! ### Graphs -/
theorem F_p_value_eq (lf : Nat) (v : DVal) (many : Int) : F_p_value lf v many = some (S.value v many, ()) := by
  simp only [F_p_value, R_p_value_in, S.value, ieqI_eq, cond_if]
  simp only [oL, oLn, decide_eq_true_eq]
  split
  · rfl
  split
  · rfl
  split
  · rfl
  split <;> rfl
theorem con_p_value : Con Try.prog id_p_value sp_p_value := mk_p_value ⟨con_p_within, trivial⟩ fun x y hx h => ⟨LF, (F_p_value_eq _ _ _).trans h⟩
theorem idx_any {α : Type} (p : α → Bool) (l : List α) : (!iltI (S.idx p l) (Int.ofNat 0)) = l.any p := by
  have := S.idx_nonneg p l
  rw [iltI_eq, Bool.eq_iff_iff]
  simp only [oL, Bool.not_eq_true', decide_eq_false_iff_not, Int.not_lt]
  exact this
theorem idx_any0 {α : Type} (p : α → Bool) (l : List α) : (!iltI (S.idx p l) 0) = l.any p := idx_any p l
theorem fm_third (g : DGraph) (hl : g.1.length < LF) : G_p_formed_11 LF g LF (Int.ofNat 0) = some ((if g.1.any (fun n => n.2.any fun v => !S.value v (Int.ofNat g.1.length)) then 2 else if g.2.any (fun v => !S.value v (Int.ofNat g.1.length) || !S.refers v) then 2 else 0), ()) := by
  refine (range1 (R := Rt_p_formed) g.1 (fun rest i => some ((if rest.any (fun n => n.2.any fun v => !S.value v (Int.ofNat g.1.length)) then 2 else if g.2.any (fun v => !S.value v (Int.ofNat g.1.length) || !S.refers v) then 2 else 0), ())) hl (fun K => ?_) (fun K i n rest r h => ?_))
  · simp only [R_p_formed_11, ilt_self, cond_false]
    rw [idxO_idx (l := g.2) (fun v : DVal => !S.value v (Int.ofNat g.1.length) || !S.refers v) fun v _ => ?_]
    · simp only [idx_any, cond_if, List.any_nil, Bool.not_eq_true', oL]
      simp only [idx_any0]
      cases h : (g.2.any fun v => !S.value v (Int.ofNat g.1.length) || !S.refers v) <;> rfl
    · simp only [S.refers, ieqI_eq, oL, cond_if]
      generalize S.value (v.1, v.2) (Int.ofNat g.1.length) = b
      by_cases h3 : v.1 = 3 <;> by_cases h4 : v.1 = 4 <;> cases b <;> simp [h3, h4]
  · simp only [R_p_formed_11, r.ilt, r.get, r.next, h, cond_true, Prod.eta]
    rw [idxO_idx (l := n.2) (fun v : DVal => !S.value v (Int.ofNat g.1.length)) fun v _ => rfl]
    simp only [idx_any]
    have e2 : (n :: rest).any (fun n => n.2.any fun v => !S.value v (Int.ofNat g.1.length)) = ((n.2.any fun v => !S.value v (Int.ofNat g.1.length)) || rest.any (fun n => n.2.any fun v => !S.value v (Int.ofNat g.1.length))) := rfl
    rw [e2]
    cases hb : (n.2.any fun v => !S.value v (Int.ofNat g.1.length)) with
    | true => rw [cond_true, Bool.true_or, if_pos rfl]; rfl
    | false => rw [cond_false, Bool.false_or]
theorem fm_second (g : DGraph) (hl : g.1.length < LF) : G_p_formed_4 LF g LF (Int.ofNat 0) = some ((if g.1.any (fun n => decide (30 < n.2.length)) then 3 else if g.1.any (fun n => n.2.any fun v => !S.value v (Int.ofNat g.1.length)) then 2 else if g.2.any (fun v => !S.value v (Int.ofNat g.1.length) || !S.refers v) then 2 else 0), ()) := by
  refine (range1 (R := Rt_p_formed) g.1 (fun rest i => some ((if rest.any (fun n => decide (30 < n.2.length)) then 3 else if g.1.any (fun n => n.2.any fun v => !S.value v (Int.ofNat g.1.length)) then 2 else if g.2.any (fun v => !S.value v (Int.ofNat g.1.length) || !S.refers v) then 2 else 0), ())) hl (fun K => ?_) (fun K i n rest r h => ?_))
  · simp only [R_p_formed_4, ilt_self, cond_false]
    exact fm_third g hl
  · have e : (iltI (Int.ofNat 30) (Int.ofNat n.2.length)) = decide (30 < n.2.length) := by
      rw [iltI_eq, Bool.eq_iff_iff]; simp only [decide_eq_true_eq]; exact Int.ofNat_lt
    simp only [R_p_formed_4, r.ilt, r.get, r.next, h, cond_true, e]
    have e2 : (n :: rest).any (fun n => decide (30 < n.2.length)) = (decide (30 < n.2.length) || rest.any (fun n => decide (30 < n.2.length))) := rfl
    rw [e2]
    by_cases hb : 30 < n.2.length
    · rw [decide_eq_true hb, cond_true, Bool.true_or, if_pos rfl]; rfl
    · rw [decide_eq_false hb, cond_false, Bool.false_or]
theorem ilt_nat (a b : Nat) : iltI (Int.ofNat a) (Int.ofNat b) = decide (a < b) := by
  rw [iltI_eq, Bool.eq_iff_iff]; simp only [decide_eq_true_eq]; exact Int.ofNat_lt
theorem F_p_formed_eq (g : DGraph) (hl : g.1.length < LF) : F_p_formed LF g = some (S.formed g, ()) := by
  simp only [F_p_formed, R_p_formed_in, S.formed, ilt_nat, cond_if]
  by_cases h1 : 400 < g.1.length
  · simp [h1, oL]
  by_cases h2 : 60 < g.2.length
  · simp [h1, h2, oL]
  rw [if_neg (by simpa using h1), if_neg (by simpa using h2), if_neg (by omega)]
  exact fm_second g hl
theorem con_p_formed : Con Try.prog id_p_formed sp_p_formed := mk_p_formed ⟨con_p_value, trivial⟩ fun x y hx h => ⟨LF, (F_p_formed_eq _ (wf_len hx.1.1)).trans h⟩
theorem F_p_suits_eq (lf : Nat) (g : DGraph) (c : DCol) (v : DVal) (h : S.refOK g v = true) : F_p_suits lf g c v = some (S.suits g c v, ()) := by
  simp only [F_p_suits, R_p_suits_in, S.suits, ieqI_eq, keqS, cond_if]
  have ea : S.lit [65, 78, 89] = S.ANY := rfl
  simp only [ea, oL, decide_eq_true_eq]
  by_cases h1 : c.2.1 = 1
  · simp [h1]
  by_cases h2 : c.2.1 = 2
  · simp [h2]
  by_cases h3 : v.1 = 3
  · simp [h1, h2, h3]
  by_cases h4 : v.1 = 4
  · unfold S.refOK at h
    obtain ⟨a, b⟩ := of_decide_eq_true h h4
    obtain ⟨x, e1, e2, e3⟩ := jget_of a b
    have e4 : S.at_ S.zNode g.1 v.2 = x := by unfold S.at_; rw [e2]; rfl
    rw [e1, e4]
    by_cases hA : c.2.2 = S.ANY <;> simp [h1, h2, h3, h4, hA]
  · simp [h1, h2, h3, h4]
theorem con_p_suits : Con Try.prog id_p_suits sp_p_suits := mk_p_suits trivial fun x y hx h => ⟨0, by
  have h : cond (S.refOK x.1 x.2.2.1) (some (S.suits x.1 x.2.1 x.2.2.1, ())) none = some y := h
  cases hr : S.refOK x.1 x.2.2.1 with
  | false => rw [hr] at h; cases h
  | true => rw [hr] at h; exact (F_p_suits_eq _ _ _ _ hr).trans h⟩
theorem ieq_nat (a b : Nat) : ieqI (Int.ofNat a) (Int.ofNat b) = decide (a = b) := by
  rw [ieqI_eq, Bool.eq_iff_iff]; simp only [decide_eq_true_eq]; exact Int.ofNat_inj
theorem ty_inner (l : List DForm) (g : DGraph) (K2 : Int → Option Rt_p_typed) (nm : ByteArray) (vs : List DVal) (hv : ∀ v ∈ vs, S.refOK g v = true) (cs : List DCol) (hc : cs.length < LF) (hlen : vs.length = cs.length) (i : Nat) :
    G_p_typed_8 LF l g K2 LF (vs, cs, nm, Int.ofNat 0, Int.ofNat i) = if S.suitsAll g cs vs = true then K2 (IntKind.i64.wrap (Int.add (Int.ofNat i) (Int.ofNat 1))) else some (false, ()) := by
  refine range0 (σ := Unit) (R := Rt_p_typed) cs (fun k _ => (vs, cs, nm, k, Int.ofNat i)) (fun _ _ => True) (fun rest k _ => if S.suitsAll g rest (vs.drop k) = true then K2 (IntKind.i64.wrap (Int.add (Int.ofNat i) (Int.ofNat 1))) else some (false, ())) hc (fun K s _ => ?_) (fun K k c rest s _ r h => ?_) () trivial
  · simp only [R_p_typed_8, ilt_self, cond_false, S.suitsAll]; rfl
  · have h := h () trivial
    have hk : k < vs.length := by rw [hlen]; exact r.lt
    have hj : jget vs (Int.ofNat k) = some vs[k] := by rw [jget_nat]; exact List.getElem?_eq_getElem hk
    have hr := hv _ (List.getElem_mem hk)
    rw [List.drop_eq_getElem_cons hk, S.suitsAll]
    simp only [R_p_typed_8, r.ilt, r.get, r.next, h, cond_true, hj, Prod.eta, hr]
    cases S.suits g c vs[k] <;> simp
theorem F_p_typed_eq (l : List DForm) (g : DGraph) (hl : g.1.length < LF) (hw : ∀ f ∈ l, f.2.length < LF) (hp : S.typedPre l g = true) : F_p_typed LF l g = some (S.typed l g g.1, ()) := by
  show G_p_typed_2 LF l g LF (Int.ofNat 0) = _
  refine range1 (R := Rt_p_typed) g.1 (fun rest i => some (S.typed l g rest, ())) hl (fun K => ?_) (fun K i n rest r h => ?_)
  · simp only [R_p_typed_2, ilt_self, cond_false, S.typed]
  · unfold S.typedPre at hp
    have hn := List.all_eq_true.1 hp n r.mem
    simp only [Bool.and_eq_true, decide_eq_true_eq] at hn
    obtain ⟨f, f1, f2, f3, f4, f5, f6⟩ := S.idx_get (p := fun f : DForm => keqS f.1 n.1) (l := l) hn.1
    have f1' : jget l (S.form l n.1) = some f := f1
    have hc : S.colsOf l n.1 = f.2 := by
      unfold S.colsOf S.at_ S.form
      rw [f2]; rfl
    simp only [R_p_typed_2, r.ilt, r.get, f1', cond_true, ieq_nat]
    rw [S.typed, hc]
    by_cases hlen : n.2.length = f.2.length
    · rw [if_pos hlen, decide_eq_true hlen, Bool.not_true, cond_false]
      refine (ty_inner l g K n.1 n.2 (List.all_eq_true.1 hn.2) f.2 (hw f f4) hlen i).trans ?_
      rw [r.next, h]
      split <;> rfl
    · rw [if_neg hlen, decide_eq_false hlen, Bool.not_false, cond_true]
theorem con_p_typed : Con Try.prog id_p_typed sp_p_typed := mk_p_typed ⟨con_p_form, con_p_suits, trivial⟩ fun x y hx h => ⟨LF, by
  have h : cond (S.typedPre x.1 x.2.1) (some (S.typed x.1 x.2.1 x.2.1.1, ())) none = some y := h
  cases hr : S.typedPre x.1 x.2.1 with
  | false => rw [hr] at h; cases h
  | true => rw [hr] at h; exact (F_p_typed_eq _ _ (wf_len hx.2.1.1) (fun f hf => wf_len (hx.1.2 f hf).2) hr).trans h⟩
theorem refOK_of_value {g : DGraph} {v : DVal} (hl : g.1.length < LF) (h : S.value v (Int.ofNat g.1.length) = true) : S.refOK g v = true := by
  unfold S.refOK
  refine decide_eq_true fun h4 => ?_
  unfold S.value at h
  have hw : IntKind.i64.wrap (Int.sub (Int.ofNat g.1.length) (Int.ofNat 1)) = (g.1.length : Int) - 1 := wrap64_in (by
    unfold LF at hl
    show -9223372036854775808 ≤ (g.1.length : Int) - 1 ∧ (g.1.length : Int) - 1 < 9223372036854775808
    omega)
  rw [hw] at h
  simp [h4, S.within] at h
  omega
theorem formed_zero {g : DGraph} (h : S.formed g = 0) : g.1.length ≤ 400 ∧ g.2.length ≤ 60 ∧ (∀ n ∈ g.1, n.2.length ≤ 30) ∧ (∀ n ∈ g.1, ∀ v ∈ n.2, S.value v (Int.ofNat g.1.length) = true) ∧ ∀ v ∈ g.2, S.value v (Int.ofNat g.1.length) = true ∧ S.refers v = true := by
  unfold S.formed at h
  split at h
  · cases h
  split at h
  · cases h
  split at h
  · cases h
  split at h
  · cases h
  rename_i h1 h2 h3 h4
  simp only [List.any_eq_true, not_exists, not_and, decide_eq_true_eq, Bool.not_eq_true', Bool.not_eq_false, Bool.or_eq_true, not_or] at h2 h3 h4
  exact ⟨by omega, by omega, fun n hn => by have := h2 n hn; omega, fun n hn v hv => h3 n hn v hv, fun v hv => h4 v hv⟩
theorem ne_zero (a : Int) : (!ieqI a (Int.ofNat 0)) = decide (¬ a = 0) := by
  rw [ieqI_eq, Bool.eq_iff_iff]; simp [oL]
theorem check_pre {l : List DForm} {g : DGraph} (hl : g.1.length < LF) (h0 : S.formed g = 0) (hb : g.1.any (fun n => decide (S.form l n.1 < 0)) = false) : S.typedPre l g = true := by
  obtain ⟨_, _, _, hv, _⟩ := formed_zero h0
  unfold S.typedPre
  rw [List.all_eq_true]
  intro n hn
  simp only [Bool.and_eq_true, decide_eq_true_eq, List.all_eq_true]
  rw [List.any_eq_false] at hb
  have := hb n hn
  simp only [decide_eq_true_eq] at this
  exact ⟨by omega, fun v hv2 => refOK_of_value hl (hv n hn v hv2)⟩
theorem F_p_check_eq (lf : Nat) (l : List DForm) (g : DGraph) (hl : g.1.length < LF) : F_p_check lf l g = some (S.check l g, ()) := by
  simp only [F_p_check, R_p_check_in, S.check, Prod.eta, ne_zero]
  by_cases h0 : S.formed g = 0
  · rw [decide_eq_false (by simpa using h0), cond_false, if_neg (by simpa using h0)]
    rw [idxO_idx (l := g.1) (fun n : DNode => decide (S.form l n.1 < 0)) fun v _ => by rw [iltI_eq]; rfl]
    simp only [idx_any]
    cases hb : g.1.any (fun n => decide (S.form l n.1 < 0)) with
    | true => rw [cond_true, if_pos rfl]; rfl
    | false =>
      rw [check_pre hl h0 hb, cond_false, if_neg (by simp)]
      simp only [cond_true, S.unlessE]
      cases S.typed l g g.1 <;> rfl
  · rw [decide_eq_true (by simpa using h0), cond_true, if_pos (by simpa using h0)]
theorem con_p_check : Con Try.prog id_p_check sp_p_check := mk_p_check ⟨con_p_formed, con_p_form, con_p_typed, trivial⟩ fun x y hx h => ⟨LF, (F_p_check_eq _ _ _ (wf_len hx.2.1.1)).trans h⟩
theorem F_p_Check_eq (lf : Nat) (l : List DForm) (g : DGraph) : F_p_Check lf l g = some (S.checkG l g, ()) := by
  simp only [F_p_Check, R_p_Check_in, S.checkG, Prod.eta, ne_zero]
  by_cases h0 : S.checkForms l = 0
  · rw [decide_eq_false (by simpa using h0), cond_false, if_neg (by simpa using h0)]
  · rw [decide_eq_true (by simpa using h0), cond_true, if_pos (by simpa using h0)]
theorem con_p_Check : Con Try.prog id_p_Check sp_p_Check := mk_p_Check ⟨con_p_CheckForms, con_p_check, trivial⟩ fun x y hx h => ⟨LF, (F_p_Check_eq _ _ _).trans h⟩
end Go.Proofs.Ytcnhjofpmpipfaa
end

/- Made by program: plain forms of functions. -/
section
set_option linter.unusedVariables false
set_option maxRecDepth 100000
noncomputable section
namespace Go.Proofs.Ytcnhjofpmpipfaa
open Go Go.Sx Go.RowKit Go.Jx
def nm_p_Canon : Nat → Option Nm := fun k => none
def st_p_Canon : Nat → Bool := fun k => false
def hd_p_Canon : Nat → Bool := fun k => false
abbrev Rt_p_Canon : Type := DGraph × (List Int) × Int × Unit
def sml_p_Canon : List (Nat × Sm) := [(70, sp_p_formed), (62, sp_p_canon)]
def hxl_p_Canon : List (Nat × Hx) := []
def cl_p_Canon (R : Type) (lf : Nat) : ClK R := icallK Try.prog ttT.get ftT.get (nm1 22 nm_p_Canon) (smL sml_p_Canon) (hxL hxl_p_Canon) lf 20 R
abbrev id_p_Canon : Nat := 22
def R_p_Canon_in (lf : Nat) (x1 : DGraph) : Option Rt_p_Canon := (cond (Bool.not (ieqI (Go.Proofs.Ytcnhjofpmpipfaa.S.formed (x1.1, x1.2)) (Int.ofNat 0))) (some (([], []), ([], ((Go.Proofs.Ytcnhjofpmpipfaa.S.formed (x1.1, x1.2)), ())))) (match (Go.Proofs.Ytcnhjofpmpipfaa.S.canonO (x1.1, x1.2)) with | .none  => none | .some v0 => (some ((v0.1.1, v0.1.2), (v0.2.1, ((Int.ofNat 0), ()))))))
theorem in_p_Canon (g : ElA [cGraph] → Option Rt_p_Canon) (J : Nat → List Nat → NRes → Option Rt_p_Canon) (lf : Nat) (x1 : DGraph) : icodeT Try.prog ttT.get nm_p_Canon fi22.nt (cl_p_Canon _ lf) lf st_p_Canon J fi22.body [] (argGo (argV [cGraph] (x1, ())) 0 .leaf) S0 [] (lastK ttT.get fi22 ⟨[cGraph], [(false, cGraph), (false, (.list (.int .i64))), (false, (.int .i64))], g⟩) = R_p_Canon_in lf x1 := by kernel_rfl
theorem nd_p_Canon : (regs fi22.body).Nodup := by decide +kernel
theorem ok_p_Canon : okC nm_p_Canon st_p_Canon hd_p_Canon fi22.body none = true := by kernel_rfl
def A_p_Canon (g : ElA [cGraph] → Option Rt_p_Canon) (lf : Nat) : Nat → List Nat → NRes → Option Rt_p_Canon := atN Try.prog ttT.get nm_p_Canon fi22 ⟨[cGraph], [(false, cGraph), (false, (.list (.int .i64))), (false, (.int .i64))], g⟩ (cl_p_Canon _ lf) lf hd_p_Canon
def F_p_Canon (lf : Nat) (x1 : DGraph) : Option Rt_p_Canon := R_p_Canon_in lf x1
theorem run_p_Canon (g : ElA [cGraph] → Option Rt_p_Canon) (lf : Nat) (x1 : DGraph) : icodeT Try.prog ttT.get nm_p_Canon fi22.nt (cl_p_Canon _ lf) lf st_p_Canon (A_p_Canon g lf) fi22.body [] (argGo (argV [cGraph] (x1, ())) 0 .leaf) S0 [] (lastK ttT.get fi22 ⟨[cGraph], [(false, cGraph), (false, (.list (.int .i64))), (false, (.int .i64))], g⟩) = F_p_Canon lf x1 := by
    refine (in_p_Canon g (A_p_Canon g lf) lf x1).trans ?_
    rfl
theorem hxs_p_Canon : HxsOK Try.prog hxl_p_Canon := trivial
theorem mk_p_Canon {g : ElA [cGraph] → Option Rt_p_Canon} (hsm : SmOK Try.prog sml_p_Canon) (hg : ∀ (x : ElA [cGraph]) (y : Rt_p_Canon), WfA [cGraph] x → g x = some y → ∃ lf, F_p_Canon lf x.1 = some y) : Con Try.prog 22 ⟨[cGraph], [(false, cGraph), (false, (.list (.int .i64))), (false, (.int .i64))], g⟩ :=
  conT (nmf := nm_p_Canon) (sml := sml_p_Canon) (hxl := hxl_p_Canon) (st := st_p_Canon) (hd := hd_p_Canon) 20 mixed ttOK ftOK hsm hxs_p_Canon cal22 rfl rfl (by kernel_rfl) (fun x => by kernel_rfl) nd_p_Canon ok_p_Canon fun x y hx hy => by
    obtain ⟨lf, h⟩ := hg x y hx hy
    exact ⟨lf, (run_p_Canon g lf x.1).trans h⟩
end Go.Proofs.Ytcnhjofpmpipfaa

end
end

/- The contracts of equal, Canon, Part. -/
section
set_option linter.unusedVariables false
namespace Go.Proofs.Ytcnhjofpmpipfaa
open Go Go.Sx Go.RowKit Go.Jx
def S.eqGraph (a b : DGraph) : Bool := S.eqVals (a : List DNode × List DVal).2 (b : List DNode × List DVal).2 && S.eqNodes (a : List DNode × List DVal).1 (b : List DNode × List DVal).1
def sp_p_equal : Sm := ⟨[cGraph, cGraph], [(false, .bool)], fun x => some (S.eqGraph x.1 x.2.1, ())⟩
theorem con_p_equal : Con Try.prog id_p_equal sp_p_equal := mk_p_equal ⟨con_slices_Equal_Val, trivial⟩ con_slices_EqualFunc_Node fun x y hx h => ⟨0, by
  obtain ⟨a, b, _⟩ := x
  refine Eq.trans ?_ h
  show (cond (S.eqVals (a : List DNode × List DVal).2 (b : List DNode × List DVal).2) (some ((S.eqNodes (a : List DNode × List DVal).1 (b : List DNode × List DVal).1), ())) (some (Bool.false, ())) : Option Rt_p_equal) = some (S.eqGraph a b, ())
  unfold S.eqGraph
  cases S.eqVals (a : List DNode × List DVal).2 (b : List DNode × List DVal).2 <;> rfl⟩
noncomputable def S.CanonO (g : DGraph) : Option Rt_p_Canon := F_p_Canon 0 g
noncomputable def sp_p_Canon : Sm := ⟨[cGraph], [(false, cGraph), (false, .list (.int .i64)), (false, .int .i64)], fun x => S.CanonO x.1⟩
theorem con_p_Canon : Con Try.prog id_p_Canon sp_p_Canon := mk_p_Canon ⟨con_p_formed, con_p_canon, trivial⟩ fun x y hx h => ⟨0, h⟩
end Go.Proofs.Ytcnhjofpmpipfaa
end

/- Made by program: plain forms of functions. -/
section
set_option linter.unusedVariables false
set_option maxRecDepth 100000
noncomputable section
namespace Go.Proofs.Ytcnhjofpmpipfaa
open Go Go.Sx Go.RowKit Go.Jx
def nm_p_Same : Nat → Option Nm := fun k => none
def st_p_Same : Nat → Bool := fun k => false
def hd_p_Same : Nat → Bool := fun k => false
abbrev Rt_p_Same : Type := Bool × Int × Unit
def sml_p_Same : List (Nat × Sm) := [(70, sp_p_formed), (49, sp_p_first), (62, sp_p_canon), (72, sp_p_equal)]
def hxl_p_Same : List (Nat × Hx) := []
def cl_p_Same (R : Type) (lf : Nat) : ClK R := icallK Try.prog ttT.get ftT.get (nm1 25 nm_p_Same) (smL sml_p_Same) (hxL hxl_p_Same) lf 20 R
abbrev id_p_Same : Nat := 25
def R_p_Same_in (lf : Nat) (x1 : DGraph) (x2 : DGraph) : Option Rt_p_Same := (cond (Bool.not (ieqI (Go.Proofs.Ytcnhjofpmpipfaa.S.first (List.cons (Go.Proofs.Ytcnhjofpmpipfaa.S.formed (x1.1, x1.2)) (List.cons (Go.Proofs.Ytcnhjofpmpipfaa.S.formed (x2.1, x2.2)) []))) (Int.ofNat 0))) (some (Bool.false, ((Go.Proofs.Ytcnhjofpmpipfaa.S.first (List.cons (Go.Proofs.Ytcnhjofpmpipfaa.S.formed (x1.1, x1.2)) (List.cons (Go.Proofs.Ytcnhjofpmpipfaa.S.formed (x2.1, x2.2)) []))), ()))) (match (Go.Proofs.Ytcnhjofpmpipfaa.S.canonO (x1.1, x1.2)) with | .none  => none | .some v0 => (match (Go.Proofs.Ytcnhjofpmpipfaa.S.canonO (x2.1, x2.2)) with | .none  => none | .some v1 => (some ((Go.Proofs.Ytcnhjofpmpipfaa.S.eqGraph (v0.1.1, v0.1.2) (v1.1.1, v1.1.2)), ((Int.ofNat 0), ()))))))
theorem in_p_Same (g : ElA [cGraph, cGraph] → Option Rt_p_Same) (J : Nat → List Nat → NRes → Option Rt_p_Same) (lf : Nat) (x1 : DGraph) (x2 : DGraph) : icodeT Try.prog ttT.get nm_p_Same fi25.nt (cl_p_Same _ lf) lf st_p_Same J fi25.body [] (argGo (argV [cGraph, cGraph] (x1, x2, ())) 0 .leaf) S0 [] (lastK ttT.get fi25 ⟨[cGraph, cGraph], [(false, .bool), (false, (.int .i64))], g⟩) = R_p_Same_in lf x1 x2 := by kernel_rfl
theorem nd_p_Same : (regs fi25.body).Nodup := by decide +kernel
theorem ok_p_Same : okC nm_p_Same st_p_Same hd_p_Same fi25.body none = true := by kernel_rfl
def A_p_Same (g : ElA [cGraph, cGraph] → Option Rt_p_Same) (lf : Nat) : Nat → List Nat → NRes → Option Rt_p_Same := atN Try.prog ttT.get nm_p_Same fi25 ⟨[cGraph, cGraph], [(false, .bool), (false, (.int .i64))], g⟩ (cl_p_Same _ lf) lf hd_p_Same
def F_p_Same (lf : Nat) (x1 : DGraph) (x2 : DGraph) : Option Rt_p_Same := R_p_Same_in lf x1 x2
theorem run_p_Same (g : ElA [cGraph, cGraph] → Option Rt_p_Same) (lf : Nat) (x1 : DGraph) (x2 : DGraph) : icodeT Try.prog ttT.get nm_p_Same fi25.nt (cl_p_Same _ lf) lf st_p_Same (A_p_Same g lf) fi25.body [] (argGo (argV [cGraph, cGraph] (x1, x2, ())) 0 .leaf) S0 [] (lastK ttT.get fi25 ⟨[cGraph, cGraph], [(false, .bool), (false, (.int .i64))], g⟩) = F_p_Same lf x1 x2 := by
    refine (in_p_Same g (A_p_Same g lf) lf x1 x2).trans ?_
    rfl
theorem hxs_p_Same : HxsOK Try.prog hxl_p_Same := trivial
theorem mk_p_Same {g : ElA [cGraph, cGraph] → Option Rt_p_Same} (hsm : SmOK Try.prog sml_p_Same) (hg : ∀ (x : ElA [cGraph, cGraph]) (y : Rt_p_Same), WfA [cGraph, cGraph] x → g x = some y → ∃ lf, F_p_Same lf x.1 x.2.1 = some y) : Con Try.prog 25 ⟨[cGraph, cGraph], [(false, .bool), (false, (.int .i64))], g⟩ :=
  conT (nmf := nm_p_Same) (sml := sml_p_Same) (hxl := hxl_p_Same) (st := st_p_Same) (hd := hd_p_Same) 20 mixed ttOK ftOK hsm hxs_p_Same cal25 rfl rfl (by kernel_rfl) (fun x => by kernel_rfl) nd_p_Same ok_p_Same fun x y hx hy => by
    obtain ⟨lf, h⟩ := hg x y hx hy
    exact ⟨lf, (run_p_Same g lf x.1 x.2.1).trans h⟩
end Go.Proofs.Ytcnhjofpmpipfaa

end
end

/- The contract of Same. -/
section
set_option linter.unusedVariables false
namespace Go.Proofs.Ytcnhjofpmpipfaa
open Go Go.Sx Go.RowKit Go.Jx
noncomputable def S.SameO (a b : DGraph) : Option Rt_p_Same := F_p_Same 0 a b
noncomputable def sp_p_Same : Sm := ⟨[cGraph, cGraph], [(false, .bool), (false, .int .i64)], fun x => S.SameO x.1 x.2.1⟩
theorem con_p_Same : Con Try.prog id_p_Same sp_p_Same := mk_p_Same ⟨con_p_formed, con_p_first, con_p_canon, con_p_equal, trivial⟩ fun x y hx h => ⟨0, h⟩
end Go.Proofs.Ytcnhjofpmpipfaa
end

/- Made by program: plain forms of functions. -/
section
set_option linter.unusedVariables false
set_option maxRecDepth 100000
noncomputable section
namespace Go.Proofs.Ytcnhjofpmpipfaa
open Go Go.Sx Go.RowKit Go.Jx
def nm_p_leads : Nat → Option Nm := fun k => none
def st_p_leads : Nat → Bool := fun k => false
def hd_p_leads : Nat → Bool := fun k => false
abbrev Rt_p_leads : Type := Bool × Unit
def sml_p_leads : List (Nat × Sm) := [(75, sp_p_ruleOf)]
def hxl_p_leads : List (Nat × Hx) := []
def cl_p_leads (R : Type) (lf : Nat) : ClK R := icallK Try.prog ttT.get ftT.get (nm1 139 nm_p_leads) (smL sml_p_leads) (hxL hxl_p_leads) lf 20 R
abbrev id_p_leads : Nat := 139
def R_p_leads_in (lf : Nat) (x1 : (List DRule)) (x2 : ByteArray) (x3 : ByteArray) : Option Rt_p_leads := (cond (keqS x3 (S.lit [65, 78, 89])) (some (Bool.true, ())) (cond (Go.Proofs.Ytcnhjofpmpipfaa.S.ruleOf x1 x2).2 (some ((keqS (Go.Proofs.Ytcnhjofpmpipfaa.S.ruleOf x1 x2).1.2.1 x3), ())) (some (Bool.false, ()))))
theorem in_p_leads (g : ElA [(.list cRule), .str, .str] → Option Rt_p_leads) (J : Nat → List Nat → NRes → Option Rt_p_leads) (lf : Nat) (x1 : (List DRule)) (x2 : ByteArray) (x3 : ByteArray) : icodeT Try.prog ttT.get nm_p_leads fi139.nt (cl_p_leads _ lf) lf st_p_leads J fi139.body [] (argGo (argV [(.list cRule), .str, .str] (x1, x2, x3, ())) 0 .leaf) S0 [] (lastK ttT.get fi139 ⟨[(.list cRule), .str, .str], [(false, .bool)], g⟩) = R_p_leads_in lf x1 x2 x3 := by kernel_rfl
theorem nd_p_leads : (regs fi139.body).Nodup := by decide +kernel
theorem ok_p_leads : okC nm_p_leads st_p_leads hd_p_leads fi139.body none = true := by kernel_rfl
def A_p_leads (g : ElA [(.list cRule), .str, .str] → Option Rt_p_leads) (lf : Nat) : Nat → List Nat → NRes → Option Rt_p_leads := atN Try.prog ttT.get nm_p_leads fi139 ⟨[(.list cRule), .str, .str], [(false, .bool)], g⟩ (cl_p_leads _ lf) lf hd_p_leads
def F_p_leads (lf : Nat) (x1 : (List DRule)) (x2 : ByteArray) (x3 : ByteArray) : Option Rt_p_leads := R_p_leads_in lf x1 x2 x3
theorem run_p_leads (g : ElA [(.list cRule), .str, .str] → Option Rt_p_leads) (lf : Nat) (x1 : (List DRule)) (x2 : ByteArray) (x3 : ByteArray) : icodeT Try.prog ttT.get nm_p_leads fi139.nt (cl_p_leads _ lf) lf st_p_leads (A_p_leads g lf) fi139.body [] (argGo (argV [(.list cRule), .str, .str] (x1, x2, x3, ())) 0 .leaf) S0 [] (lastK ttT.get fi139 ⟨[(.list cRule), .str, .str], [(false, .bool)], g⟩) = F_p_leads lf x1 x2 x3 := by
    refine (in_p_leads g (A_p_leads g lf) lf x1 x2 x3).trans ?_
    rfl
theorem hxs_p_leads : HxsOK Try.prog hxl_p_leads := trivial
theorem mk_p_leads {g : ElA [(.list cRule), .str, .str] → Option Rt_p_leads} (hsm : SmOK Try.prog sml_p_leads) (hg : ∀ (x : ElA [(.list cRule), .str, .str]) (y : Rt_p_leads), WfA [(.list cRule), .str, .str] x → g x = some y → ∃ lf, F_p_leads lf x.1 x.2.1 x.2.2.1 = some y) : Con Try.prog 139 ⟨[(.list cRule), .str, .str], [(false, .bool)], g⟩ :=
  conT (nmf := nm_p_leads) (sml := sml_p_leads) (hxl := hxl_p_leads) (st := st_p_leads) (hd := hd_p_leads) 20 mixed ttOK ftOK hsm hxs_p_leads cal139 rfl rfl (by kernel_rfl) (fun x => by kernel_rfl) nd_p_leads ok_p_leads fun x y hx hy => by
    obtain ⟨lf, h⟩ := hg x y hx hy
    exact ⟨lf, (run_p_leads g lf x.1 x.2.1 x.2.2.1).trans h⟩
def nm_p_fits : Nat → Option Nm := fun k => none
def st_p_fits : Nat → Bool := fun k => false
def hd_p_fits : Nat → Bool := fun k => false
abbrev Rt_p_fits : Type := Bool × Unit
def sml_p_fits : List (Nat × Sm) := [(83, sp_p_within), (139, sp_p_leads)]
def hxl_p_fits : List (Nat × Hx) := []
def cl_p_fits (R : Type) (lf : Nat) : ClK R := icallK Try.prog ttT.get ftT.get (nm1 138 nm_p_fits) (smL sml_p_fits) (hxL hxl_p_fits) lf 20 R
abbrev id_p_fits : Nat := 138
def R_p_fits_in (lf : Nat) (x1 : (List DRule)) (x2 : DGive) (x3 : DCol) (x4 : DCol) : Option Rt_p_fits := (cond (ieqI x2.2.1 (Int.ofNat 1)) (cond (ieqI x3.2.1 x4.2.1) (cond (Bool.not (ieqI x3.2.1 (Int.ofNat 3))) (some (Bool.true, ())) (some ((Go.Proofs.Ytcnhjofpmpipfaa.S.leads x1 x3.2.2 x4.2.2), ()))) (some (Bool.false, ()))) (cond (ieqI x2.2.1 (Int.ofNat 2)) (cond (ieqI x3.2.1 (Int.ofNat 2)) (some ((ieqI x4.2.1 (Int.ofNat 1)), ())) (some (Bool.false, ()))) (cond (ieqI x2.2.1 (Int.ofNat 3)) (cond (ieqI x3.2.1 (Int.ofNat 1)) (some ((ieqI x4.2.1 (Int.ofNat 2)), ())) (some (Bool.false, ()))) (cond (ieqI x2.2.1 (Int.ofNat 4)) (cond (ieqI x3.2.1 (Int.ofNat 1)) (some ((ieqI x4.2.1 (Int.ofNat 1)), ())) (some (Bool.false, ()))) (cond (ieqI x2.2.1 (Int.ofNat 5)) (cond (ieqI x3.2.1 (Int.ofNat 3)) (cond (ieqI x4.2.1 (Int.ofNat 3)) (some ((Go.Proofs.Ytcnhjofpmpipfaa.S.leads x1 x3.2.2 x4.2.2), ())) (some (Bool.false, ()))) (some (Bool.false, ()))) (cond (ieqI x2.2.1 (Int.ofNat 6)) (cond (ieqI x4.2.1 (Int.ofNat 1)) (some (Bool.true, ())) (cond (ieqI x4.2.1 (Int.ofNat 2)) (some ((Go.Proofs.Ytcnhjofpmpipfaa.S.within x2.2.2 (Int.ofNat 0) (Int.ofNat 1)), ())) (some (Bool.false, ())))) (some ((ieqI x4.2.1 (Int.ofNat 3)), ()))))))))
theorem in_p_fits (g : ElA [(.list cRule), cGive, cCol, cCol] → Option Rt_p_fits) (J : Nat → List Nat → NRes → Option Rt_p_fits) (lf : Nat) (x1 : (List DRule)) (x2 : DGive) (x3 : DCol) (x4 : DCol) : icodeT Try.prog ttT.get nm_p_fits fi138.nt (cl_p_fits _ lf) lf st_p_fits J fi138.body [] (argGo (argV [(.list cRule), cGive, cCol, cCol] (x1, x2, x3, x4, ())) 0 .leaf) S0 [] (lastK ttT.get fi138 ⟨[(.list cRule), cGive, cCol, cCol], [(false, .bool)], g⟩) = R_p_fits_in lf x1 x2 x3 x4 := by kernel_rfl
theorem nd_p_fits : (regs fi138.body).Nodup := by decide +kernel
theorem ok_p_fits : okC nm_p_fits st_p_fits hd_p_fits fi138.body none = true := by kernel_rfl
def A_p_fits (g : ElA [(.list cRule), cGive, cCol, cCol] → Option Rt_p_fits) (lf : Nat) : Nat → List Nat → NRes → Option Rt_p_fits := atN Try.prog ttT.get nm_p_fits fi138 ⟨[(.list cRule), cGive, cCol, cCol], [(false, .bool)], g⟩ (cl_p_fits _ lf) lf hd_p_fits
def F_p_fits (lf : Nat) (x1 : (List DRule)) (x2 : DGive) (x3 : DCol) (x4 : DCol) : Option Rt_p_fits := R_p_fits_in lf x1 x2 x3 x4
theorem run_p_fits (g : ElA [(.list cRule), cGive, cCol, cCol] → Option Rt_p_fits) (lf : Nat) (x1 : (List DRule)) (x2 : DGive) (x3 : DCol) (x4 : DCol) : icodeT Try.prog ttT.get nm_p_fits fi138.nt (cl_p_fits _ lf) lf st_p_fits (A_p_fits g lf) fi138.body [] (argGo (argV [(.list cRule), cGive, cCol, cCol] (x1, x2, x3, x4, ())) 0 .leaf) S0 [] (lastK ttT.get fi138 ⟨[(.list cRule), cGive, cCol, cCol], [(false, .bool)], g⟩) = F_p_fits lf x1 x2 x3 x4 := by
    refine (in_p_fits g (A_p_fits g lf) lf x1 x2 x3 x4).trans ?_
    rfl
theorem hxs_p_fits : HxsOK Try.prog hxl_p_fits := trivial
theorem mk_p_fits {g : ElA [(.list cRule), cGive, cCol, cCol] → Option Rt_p_fits} (hsm : SmOK Try.prog sml_p_fits) (hg : ∀ (x : ElA [(.list cRule), cGive, cCol, cCol]) (y : Rt_p_fits), WfA [(.list cRule), cGive, cCol, cCol] x → g x = some y → ∃ lf, F_p_fits lf x.1 x.2.1 x.2.2.1 x.2.2.2.1 = some y) : Con Try.prog 138 ⟨[(.list cRule), cGive, cCol, cCol], [(false, .bool)], g⟩ :=
  conT (nmf := nm_p_fits) (sml := sml_p_fits) (hxl := hxl_p_fits) (st := st_p_fits) (hd := hd_p_fits) 20 mixed ttOK ftOK hsm hxs_p_fits cal138 rfl rfl (by kernel_rfl) (fun x => by kernel_rfl) nd_p_fits ok_p_fits fun x y hx hy => by
    obtain ⟨lf, h⟩ := hg x y hx hy
    exact ⟨lf, (run_p_fits g lf x.1 x.2.1 x.2.2.1 x.2.2.2.1).trans h⟩
def nm_p_give : Nat → Option Nm := fun k => cond (Nat.beq k 8) (some ⟨[0, 2, 5, 7, 9, 10, 11], [], [], [], [], 0, 0, false⟩) (cond (Nat.beq k 11) (some ⟨[0, 2, 5, 7, 9, 10, 12], [], [], [], [], 0, 0, false⟩) (cond (Nat.beq k 13) (some ⟨[0, 5, 7, 12], [], [], [], [], 0, 0, false⟩) (none)))
def st_p_give : Nat → Bool := fun k => cond (Nat.beq k 8) true (cond (Nat.beq k 11) true (cond (Nat.beq k 13) true (false)))
def hd_p_give : Nat → Bool := fun k => false
abbrev Rt_p_give : Type := Int × Unit
def sml_p_give : List (Nat × Sm) := [(95, sp_p_col), (83, sp_p_within), (138, sp_p_fits)]
def hxl_p_give : List (Nat × Hx) := []
def cl_p_give (R : Type) (lf : Nat) : ClK R := icallK Try.prog ttT.get ftT.get (nm1 113 nm_p_give) (smL sml_p_give) (hxL hxl_p_give) lf 20 R
abbrev id_p_give : Nat := 113
def enc_p_give_8 (x1 : (List DRule)) (x2 : DGive) (x3 : (List DCol)) (x4 : DCol) (p : Int) : NRes := (NRes.mk (PT.node (some (IV.lst cRule x1)) (PT.node none (PT.node none (PT.node (some (IV.ptr 1 0)) PT.leaf PT.leaf) (PT.node (some (IV.int Go.IntKind.i64 p)) PT.leaf PT.leaf)) (PT.node (some (IV.ptr 0 0)) (PT.node (some (IV.int Go.IntKind.i64 (Go.Proofs.Ytcnhjofpmpipfaa.S.col x3 x2.1))) PT.leaf PT.leaf) PT.leaf)) (PT.node (some (IV.lst cCol x3)) PT.leaf (PT.node none (PT.node (some (IV.bool (Go.Proofs.Ytcnhjofpmpipfaa.S.within x2.2.1 (Int.ofNat 1) (Int.ofNat 5)))) PT.leaf PT.leaf) PT.leaf))) (IS.mk (PT.node (some (IObj.row (List.cons (IV.str x2.1) (List.cons (IV.int Go.IntKind.i64 x2.2.1) (List.cons (IV.int Go.IntKind.i64 x2.2.2) []))))) (PT.node (some (IObj.row (List.cons (IV.str x4.1) (List.cons (IV.int Go.IntKind.i64 x4.2.1) (List.cons (IV.str x4.2.2) []))))) PT.leaf PT.leaf) PT.leaf) 2) [] 0)
def enc_p_give_11 (x1 : (List DRule)) (x2 : DGive) (x3 : (List DCol)) (x4 : DCol) (p : Unit) : NRes := (NRes.mk (PT.node (some (IV.lst cRule x1)) (PT.node none (PT.node none (PT.node (some (IV.ptr 1 0)) PT.leaf PT.leaf) PT.leaf) (PT.node (some (IV.ptr 0 0)) (PT.node (some (IV.int Go.IntKind.i64 (Go.Proofs.Ytcnhjofpmpipfaa.S.col x3 x2.1))) PT.leaf PT.leaf) PT.leaf)) (PT.node (some (IV.lst cCol x3)) (PT.node none PT.leaf (PT.node (some (IV.ptr 2 0)) PT.leaf PT.leaf)) (PT.node none (PT.node (some (IV.bool (Go.Proofs.Ytcnhjofpmpipfaa.S.within x2.2.1 (Int.ofNat 1) (Int.ofNat 5)))) PT.leaf PT.leaf) PT.leaf))) (IS.mk (PT.node (some (IObj.row (List.cons (IV.str x2.1) (List.cons (IV.int Go.IntKind.i64 x2.2.1) (List.cons (IV.int Go.IntKind.i64 x2.2.2) []))))) (PT.node (some (IObj.row (List.cons (IV.str x4.1) (List.cons (IV.int Go.IntKind.i64 x4.2.1) (List.cons (IV.str x4.2.2) []))))) PT.leaf PT.leaf) (PT.node (some (IObj.row (List.cons (IV.str (S.lit [])) (List.cons (IV.int Go.IntKind.i64 (Int.ofNat 0)) (List.cons (IV.str (S.lit [])) []))))) PT.leaf PT.leaf)) 3) [] 0)
def enc_p_give_13 (x1 : (List DRule)) (x2 : DGive) (x3 : (List DCol)) (x4 : DCol) (p : ByteArray × Int × ByteArray) : NRes := (NRes.mk (PT.node (some (IV.lst cRule x1)) (PT.node none (PT.node none (PT.node (some (IV.ptr 1 0)) PT.leaf PT.leaf) PT.leaf) (PT.node (some (IV.ptr 0 0)) PT.leaf PT.leaf)) (PT.node none (PT.node none PT.leaf (PT.node (some (IV.ptr 2 0)) PT.leaf PT.leaf)) PT.leaf)) (IS.mk (PT.node (some (IObj.row (List.cons (IV.str x2.1) (List.cons (IV.int Go.IntKind.i64 x2.2.1) (List.cons (IV.int Go.IntKind.i64 x2.2.2) []))))) (PT.node (some (IObj.row (List.cons (IV.str x4.1) (List.cons (IV.int Go.IntKind.i64 x4.2.1) (List.cons (IV.str x4.2.2) []))))) PT.leaf PT.leaf) (PT.node (some (IObj.row (List.cons (IV.str p.1) (List.cons (IV.int Go.IntKind.i64 p.2.1) (List.cons (IV.str p.2.2) []))))) PT.leaf PT.leaf)) 3) [] 0)
def R_p_give_in (lf : Nat) (x1 : (List DRule)) (x2 : DGive) (x3 : (List DCol)) (x4 : DCol) (L8 : Int → Option Rt_p_give) : Option Rt_p_give := (cond (Go.Proofs.Ytcnhjofpmpipfaa.S.within x2.2.1 (Int.ofNat 1) (Int.ofNat 5)) (cond (iltI (Go.Proofs.Ytcnhjofpmpipfaa.S.col x3 x2.1) (Int.ofNat 0)) (some ((Int.ofNat 4), ())) (cond (ieqI x2.2.1 (Int.ofNat 4)) (L8 (Int.ofNat 1099511627776)) (cond (ieqI x2.2.1 (Int.ofNat 6)) (L8 (Int.ofNat 1099511627776)) (L8 (Int.ofNat 0))))) (cond (ieqI x2.2.1 (Int.ofNat 4)) (L8 (Int.ofNat 1099511627776)) (cond (ieqI x2.2.1 (Int.ofNat 6)) (L8 (Int.ofNat 1099511627776)) (L8 (Int.ofNat 0)))))
def R_p_give_8 (lf : Nat) (x1 : (List DRule)) (x2 : DGive) (x3 : (List DCol)) (x4 : DCol) (L11 : Unit → Option Rt_p_give) (p : Int) : Option Rt_p_give := (cond (Bool.not (Go.Proofs.Ytcnhjofpmpipfaa.S.within x2.2.1 (Int.ofNat 1) (Int.ofNat 7))) (some ((Int.ofNat 1), ())) (cond (Bool.not (Go.Proofs.Ytcnhjofpmpipfaa.S.within x2.2.1 (Int.ofNat 1) (Int.ofNat 5))) (cond (Bool.not (keqS x2.1 (S.lit []))) (some ((Int.ofNat 1), ())) (cond (Bool.not (Go.Proofs.Ytcnhjofpmpipfaa.S.within x2.2.2 (Go.IntKind.wrap Go.IntKind.i64 (Int.sub (Int.ofNat 0) p)) p)) (some ((Int.ofNat 1), ())) (cond (ieqI x2.2.1 (Int.ofNat 6)) (cond (ieqI x4.2.1 (Int.ofNat 2)) (cond (Bool.not (Go.Proofs.Ytcnhjofpmpipfaa.S.within x2.2.2 (Int.ofNat 0) (Int.ofNat 1))) (some ((Int.ofNat 1), ())) (L11 ())) (L11 ())) (L11 ())))) (cond (Bool.not (Go.Proofs.Ytcnhjofpmpipfaa.S.within x2.2.2 (Go.IntKind.wrap Go.IntKind.i64 (Int.sub (Int.ofNat 0) p)) p)) (some ((Int.ofNat 1), ())) (cond (ieqI x2.2.1 (Int.ofNat 6)) (cond (ieqI x4.2.1 (Int.ofNat 2)) (cond (Bool.not (Go.Proofs.Ytcnhjofpmpipfaa.S.within x2.2.2 (Int.ofNat 0) (Int.ofNat 1))) (some ((Int.ofNat 1), ())) (L11 ())) (L11 ())) (L11 ())))))
def R_p_give_11 (lf : Nat) (x1 : (List DRule)) (x2 : DGive) (x3 : (List DCol)) (x4 : DCol) (L13 : (ByteArray × Int × ByteArray) → Option Rt_p_give) (p : Unit) : Option Rt_p_give := (cond (Go.Proofs.Ytcnhjofpmpipfaa.S.within x2.2.1 (Int.ofNat 1) (Int.ofNat 5)) (match (jget x3 (Go.Proofs.Ytcnhjofpmpipfaa.S.col x3 x2.1)) with | .none  => none | .some v0 => (L13 (v0.1, v0.2.1, v0.2.2))) (L13 ((S.lit []), (Int.ofNat 0), (S.lit []))))
def R_p_give_13 (lf : Nat) (x1 : (List DRule)) (x2 : DGive) (x3 : (List DCol)) (x4 : DCol) (p : ByteArray × Int × ByteArray) : Option Rt_p_give := (cond (Go.Proofs.Ytcnhjofpmpipfaa.S.fits x1 (x2.1, (x2.2.1, x2.2.2)) (p.1, (p.2.1, p.2.2)) (x4.1, (x4.2.1, x4.2.2))) (some ((Int.ofNat 0), ())) (some ((Int.ofNat 8), ())))
theorem in_p_give (g : ElA [(.list cRule), cGive, (.list cCol), cCol] → Option Rt_p_give) (J : Nat → List Nat → NRes → Option Rt_p_give) (lf : Nat) (x1 : (List DRule)) (x2 : DGive) (x3 : (List DCol)) (x4 : DCol) : icodeT Try.prog ttT.get nm_p_give fi113.nt (cl_p_give _ lf) lf st_p_give J fi113.body [] (argGo (argV [(.list cRule), cGive, (.list cCol), cCol] (x1, x2, x3, x4, ())) 0 .leaf) S0 [] (lastK ttT.get fi113 ⟨[(.list cRule), cGive, (.list cCol), cCol], [(false, (.int .i64))], g⟩) = R_p_give_in lf x1 x2 x3 x4 (fun q => J 8 [] (enc_p_give_8 x1 x2 x3 x4 q)) := by kernel_rfl
theorem st_p_give_8 (g : ElA [(.list cRule), cGive, (.list cCol), cCol] → Option Rt_p_give) (J : Nat → List Nat → NRes → Option Rt_p_give) (lf : Nat) (x1 : (List DRule)) (x2 : DGive) (x3 : (List DCol)) (x4 : DCol) (p : Int) : icodeFT Try.prog ttT.get nm_p_give fi113.nt (cl_p_give _ lf) lf st_p_give J 8 fi113.body [] [] (enc_p_give_8 x1 x2 x3 x4 p) (lastK ttT.get fi113 ⟨[(.list cRule), cGive, (.list cCol), cCol], [(false, (.int .i64))], g⟩) = R_p_give_8 lf x1 x2 x3 x4 (fun q => J 11 [] (enc_p_give_11 x1 x2 x3 x4 q)) p := by kernel_rfl
theorem st_p_give_11 (g : ElA [(.list cRule), cGive, (.list cCol), cCol] → Option Rt_p_give) (J : Nat → List Nat → NRes → Option Rt_p_give) (lf : Nat) (x1 : (List DRule)) (x2 : DGive) (x3 : (List DCol)) (x4 : DCol) (p : Unit) : icodeFT Try.prog ttT.get nm_p_give fi113.nt (cl_p_give _ lf) lf st_p_give J 11 fi113.body [] [] (enc_p_give_11 x1 x2 x3 x4 p) (lastK ttT.get fi113 ⟨[(.list cRule), cGive, (.list cCol), cCol], [(false, (.int .i64))], g⟩) = R_p_give_11 lf x1 x2 x3 x4 (fun q => J 13 [] (enc_p_give_13 x1 x2 x3 x4 q)) p := by kernel_rfl
theorem st_p_give_13 (g : ElA [(.list cRule), cGive, (.list cCol), cCol] → Option Rt_p_give) (J : Nat → List Nat → NRes → Option Rt_p_give) (lf : Nat) (x1 : (List DRule)) (x2 : DGive) (x3 : (List DCol)) (x4 : DCol) (p : ByteArray × Int × ByteArray) : icodeFT Try.prog ttT.get nm_p_give fi113.nt (cl_p_give _ lf) lf st_p_give J 13 fi113.body [] [] (enc_p_give_13 x1 x2 x3 x4 p) (lastK ttT.get fi113 ⟨[(.list cRule), cGive, (.list cCol), cCol], [(false, (.int .i64))], g⟩) = R_p_give_13 lf x1 x2 x3 x4 p := by kernel_rfl
theorem nd_p_give : (regs fi113.body).Nodup := by decide +kernel
theorem ok_p_give : okC nm_p_give st_p_give hd_p_give fi113.body none = true := by kernel_rfl
def A_p_give (g : ElA [(.list cRule), cGive, (.list cCol), cCol] → Option Rt_p_give) (lf : Nat) : Nat → List Nat → NRes → Option Rt_p_give := atN Try.prog ttT.get nm_p_give fi113 ⟨[(.list cRule), cGive, (.list cCol), cCol], [(false, (.int .i64))], g⟩ (cl_p_give _ lf) lf hd_p_give
def G_p_give_13 (lf : Nat) (x1 : (List DRule)) (x2 : DGive) (x3 : (List DCol)) (x4 : DCol) (p : ByteArray × Int × ByteArray) : Option Rt_p_give := R_p_give_13 lf x1 x2 x3 x4 p
theorem at_p_give_13 (g : ElA [(.list cRule), cGive, (.list cCol), cCol] → Option Rt_p_give) (lf : Nat) (x1 : (List DRule)) (x2 : DGive) (x3 : (List DCol)) (x4 : DCol) (p : ByteArray × Int × ByteArray) : A_p_give g lf 13 [] (enc_p_give_13 x1 x2 x3 x4 p) = G_p_give_13 lf x1 x2 x3 x4 p := by
    refine (atN_eq (icallK_eq 20 _) nd_p_give ok_p_give 13 [] [] rfl _).trans ((st_p_give_13 g (A_p_give g lf) lf x1 x2 x3 x4 p).trans ?_)
    rfl
def G_p_give_11 (lf : Nat) (x1 : (List DRule)) (x2 : DGive) (x3 : (List DCol)) (x4 : DCol) (p : Unit) : Option Rt_p_give := R_p_give_11 lf x1 x2 x3 x4 (fun q => G_p_give_13 lf x1 x2 x3 x4 q) p
theorem at_p_give_11 (g : ElA [(.list cRule), cGive, (.list cCol), cCol] → Option Rt_p_give) (lf : Nat) (x1 : (List DRule)) (x2 : DGive) (x3 : (List DCol)) (x4 : DCol) (p : Unit) : A_p_give g lf 11 [] (enc_p_give_11 x1 x2 x3 x4 p) = G_p_give_11 lf x1 x2 x3 x4 p := by
    refine (atN_eq (icallK_eq 20 _) nd_p_give ok_p_give 11 [] [] rfl _).trans ((st_p_give_11 g (A_p_give g lf) lf x1 x2 x3 x4 p).trans ?_)
    rw [(show (fun q => A_p_give g lf 13 [] (enc_p_give_13 x1 x2 x3 x4 q)) = (fun q => G_p_give_13 lf x1 x2 x3 x4 q) from funext fun q => at_p_give_13 g lf x1 x2 x3 x4 q)]
    rfl
def G_p_give_8 (lf : Nat) (x1 : (List DRule)) (x2 : DGive) (x3 : (List DCol)) (x4 : DCol) (p : Int) : Option Rt_p_give := R_p_give_8 lf x1 x2 x3 x4 (fun q => G_p_give_11 lf x1 x2 x3 x4 q) p
theorem at_p_give_8 (g : ElA [(.list cRule), cGive, (.list cCol), cCol] → Option Rt_p_give) (lf : Nat) (x1 : (List DRule)) (x2 : DGive) (x3 : (List DCol)) (x4 : DCol) (p : Int) : A_p_give g lf 8 [] (enc_p_give_8 x1 x2 x3 x4 p) = G_p_give_8 lf x1 x2 x3 x4 p := by
    refine (atN_eq (icallK_eq 20 _) nd_p_give ok_p_give 8 [] [] rfl _).trans ((st_p_give_8 g (A_p_give g lf) lf x1 x2 x3 x4 p).trans ?_)
    rw [(show (fun q => A_p_give g lf 11 [] (enc_p_give_11 x1 x2 x3 x4 q)) = (fun q => G_p_give_11 lf x1 x2 x3 x4 q) from funext fun q => at_p_give_11 g lf x1 x2 x3 x4 q)]
    rfl
def F_p_give (lf : Nat) (x1 : (List DRule)) (x2 : DGive) (x3 : (List DCol)) (x4 : DCol) : Option Rt_p_give := R_p_give_in lf x1 x2 x3 x4 (fun q => G_p_give_8 lf x1 x2 x3 x4 q)
theorem run_p_give (g : ElA [(.list cRule), cGive, (.list cCol), cCol] → Option Rt_p_give) (lf : Nat) (x1 : (List DRule)) (x2 : DGive) (x3 : (List DCol)) (x4 : DCol) : icodeT Try.prog ttT.get nm_p_give fi113.nt (cl_p_give _ lf) lf st_p_give (A_p_give g lf) fi113.body [] (argGo (argV [(.list cRule), cGive, (.list cCol), cCol] (x1, x2, x3, x4, ())) 0 .leaf) S0 [] (lastK ttT.get fi113 ⟨[(.list cRule), cGive, (.list cCol), cCol], [(false, (.int .i64))], g⟩) = F_p_give lf x1 x2 x3 x4 := by
    refine (in_p_give g (A_p_give g lf) lf x1 x2 x3 x4).trans ?_
    rw [(show (fun q => A_p_give g lf 8 [] (enc_p_give_8 x1 x2 x3 x4 q)) = (fun q => G_p_give_8 lf x1 x2 x3 x4 q) from funext fun q => at_p_give_8 g lf x1 x2 x3 x4 q)]
    rfl
theorem hxs_p_give : HxsOK Try.prog hxl_p_give := trivial
theorem mk_p_give {g : ElA [(.list cRule), cGive, (.list cCol), cCol] → Option Rt_p_give} (hsm : SmOK Try.prog sml_p_give) (hg : ∀ (x : ElA [(.list cRule), cGive, (.list cCol), cCol]) (y : Rt_p_give), WfA [(.list cRule), cGive, (.list cCol), cCol] x → g x = some y → ∃ lf, F_p_give lf x.1 x.2.1 x.2.2.1 x.2.2.2.1 = some y) : Con Try.prog 113 ⟨[(.list cRule), cGive, (.list cCol), cCol], [(false, (.int .i64))], g⟩ :=
  conT (nmf := nm_p_give) (sml := sml_p_give) (hxl := hxl_p_give) (st := st_p_give) (hd := hd_p_give) 20 mixed ttOK ftOK hsm hxs_p_give cal113 rfl rfl (by kernel_rfl) (fun x => by kernel_rfl) nd_p_give ok_p_give fun x y hx hy => by
    obtain ⟨lf, h⟩ := hg x y hx hy
    exact ⟨lf, (run_p_give g lf x.1 x.2.1 x.2.2.1 x.2.2.2.1).trans h⟩
def nm_p_checkRules : Nat → Option Nm := fun k => cond (Nat.beq k 4) (some ⟨[0, 1, 2, 25, 26, 27], [], [], [], [], 0, 0, false⟩) (cond (Nat.beq k 13) (some ⟨[0, 1, 2, 55, 56, 57], [], [], [], [], 0, 0, false⟩) (cond (Nat.beq k 20) (some ⟨[0, 1, 2, 71, 72, 73], [], [], [], [], 0, 0, false⟩) (cond (Nat.beq k 26) (some ⟨[0, 1, 2, 17, 18, 71, 72, 73, 100, 101, 102], [], [], [], [], 0, 0, false⟩) (none))))
def st_p_checkRules : Nat → Bool := fun k => cond (Nat.beq k 4) true (cond (Nat.beq k 13) true (cond (Nat.beq k 20) true (cond (Nat.beq k 26) true (false))))
def hd_p_checkRules : Nat → Bool := fun k => cond (Nat.beq k 4) true (cond (Nat.beq k 13) true (cond (Nat.beq k 20) true (cond (Nat.beq k 26) true (false))))
abbrev Rt_p_checkRules : Type := Int × Unit
def sml_p_checkRules : List (Nat × Sm) := [(52, sp_p_form), (75, sp_p_ruleOf), (113, sp_p_give)]
def hxl_p_checkRules : List (Nat × Hx) := []
def cl_p_checkRules (R : Type) (lf : Nat) : ClK R := icallK Try.prog ttT.get ftT.get (nm1 77 nm_p_checkRules) (smL sml_p_checkRules) (hxL hxl_p_checkRules) lf 20 R
abbrev id_p_checkRules : Nat := 77
def enc_p_checkRules_4 (x1 : (List DForm)) (x2 : (List DForm)) (x3 : (List DRule)) (p : Int) : NRes := (NRes.mk (PT.node (some (IV.lst cForm x1)) (PT.node (some (IV.lst cForm x2)) (PT.node none PT.leaf (PT.node none PT.leaf (PT.node (some (IV.int Go.IntKind.i64 p)) PT.leaf PT.leaf))) (PT.node none (PT.node none PT.leaf (PT.node (some (IV.lst cRule x3)) PT.leaf PT.leaf)) PT.leaf)) (PT.node (some (IV.lst cRule x3)) PT.leaf (PT.node none (PT.node none PT.leaf (PT.node (some (IV.int Go.IntKind.i64 (Int.ofNat (List.length x3)))) PT.leaf PT.leaf)) PT.leaf))) (IS.mk PT.leaf 0) [] 0)
def enc_p_checkRules_13 (x1 : (List DForm)) (x2 : (List DForm)) (x3 : (List DRule)) (p : Int) : NRes := (NRes.mk (PT.node (some (IV.lst cForm x1)) (PT.node (some (IV.lst cForm x2)) (PT.node none (PT.node none PT.leaf (PT.node none PT.leaf (PT.node (some (IV.lst cForm x1)) PT.leaf PT.leaf))) PT.leaf) (PT.node none (PT.node none PT.leaf (PT.node none PT.leaf (PT.node (some (IV.int Go.IntKind.i64 p)) PT.leaf PT.leaf))) PT.leaf)) (PT.node (some (IV.lst cRule x3)) (PT.node none (PT.node none PT.leaf (PT.node none PT.leaf (PT.node (some (IV.int Go.IntKind.i64 (Int.ofNat (List.length x1)))) PT.leaf PT.leaf))) PT.leaf) PT.leaf)) (IS.mk PT.leaf 0) [] 0)
def enc_p_checkRules_20 (x1 : (List DForm)) (x2 : (List DForm)) (x3 : (List DRule)) (p : Int) : NRes := (NRes.mk (PT.node (some (IV.lst cForm x1)) (PT.node (some (IV.lst cForm x2)) (PT.node none (PT.node none PT.leaf (PT.node none (PT.node none (PT.node (some (IV.lst cRule x3)) PT.leaf PT.leaf) PT.leaf) PT.leaf)) PT.leaf) (PT.node none (PT.node none PT.leaf (PT.node none (PT.node none (PT.node (some (IV.int Go.IntKind.i64 p)) PT.leaf PT.leaf) PT.leaf) PT.leaf)) PT.leaf)) (PT.node (some (IV.lst cRule x3)) (PT.node none (PT.node none PT.leaf (PT.node none (PT.node none (PT.node (some (IV.int Go.IntKind.i64 (Int.ofNat (List.length x3)))) PT.leaf PT.leaf) PT.leaf) PT.leaf)) PT.leaf) PT.leaf)) (IS.mk PT.leaf 0) [] 0)
def enc_p_checkRules_26 (x1 : (List DForm)) (x2 : (List DForm)) (x3 : (List DRule)) (p : (List DCol) × (List DCol) × (List DGive) × Int × Int) : NRes := (NRes.mk (PT.node (some (IV.lst cForm x1)) (PT.node (some (IV.lst cForm x2)) (PT.node none (PT.node none PT.leaf (PT.node none (PT.node none (PT.node (some (IV.lst cRule x3)) PT.leaf PT.leaf) PT.leaf) PT.leaf)) PT.leaf) (PT.node none (PT.node none (PT.node (some (IV.lst cCol p.2.1)) PT.leaf PT.leaf) (PT.node none (PT.node none (PT.node (some (IV.int Go.IntKind.i64 p.2.2.2.2)) PT.leaf PT.leaf) PT.leaf) PT.leaf)) (PT.node none (PT.node none (PT.node none PT.leaf (PT.node (some (IV.int Go.IntKind.i64 (Int.ofNat (List.length p.2.2.1)))) PT.leaf PT.leaf)) PT.leaf) PT.leaf))) (PT.node (some (IV.lst cRule x3)) (PT.node none (PT.node none PT.leaf (PT.node none (PT.node none (PT.node (some (IV.int Go.IntKind.i64 (Int.ofNat (List.length x3)))) PT.leaf PT.leaf) PT.leaf) PT.leaf)) (PT.node none (PT.node none (PT.node none PT.leaf (PT.node (some (IV.lst cGive p.2.2.1)) PT.leaf PT.leaf)) PT.leaf) PT.leaf)) (PT.node none (PT.node none (PT.node (some (IV.lst cCol p.1)) PT.leaf PT.leaf) PT.leaf) (PT.node none (PT.node none (PT.node none PT.leaf (PT.node (some (IV.int Go.IntKind.i64 p.2.2.2.1)) PT.leaf PT.leaf)) PT.leaf) PT.leaf)))) (IS.mk PT.leaf 0) [] 0)
def R_p_checkRules_in (lf : Nat) (x1 : (List DForm)) (x2 : (List DForm)) (x3 : (List DRule)) (L4 : Int → Option Rt_p_checkRules) : Option Rt_p_checkRules := (cond (iltI (Int.ofNat 24) (Int.ofNat (List.length x3))) (some ((Int.ofNat 3), ())) (L4 (Int.ofNat 0)))
def R_p_checkRules_4 (lf : Nat) (x1 : (List DForm)) (x2 : (List DForm)) (x3 : (List DRule)) (L4 : Int → Option Rt_p_checkRules) (L13 : Int → Option Rt_p_checkRules) (p : Int) : Option Rt_p_checkRules := (cond (iltI p (Int.ofNat (List.length x3))) (match (jget x3 p) with | .none  => none | .some v0 => (cond (iltI (Go.Proofs.Ytcnhjofpmpipfaa.S.form x1 v0.1) (Int.ofNat 0)) (some ((Int.ofNat 4), ())) (cond (iltI (Go.Proofs.Ytcnhjofpmpipfaa.S.form x2 v0.2.1) (Int.ofNat 0)) (some ((Int.ofNat 4), ())) (cond (lchk (Int.ofNat 0) p (Int.ofNat (List.length x3)) (Int.ofNat (List.length x3))) (cond (Go.Proofs.Ytcnhjofpmpipfaa.S.ruleOf (lsub x3 (Int.ofNat 0) p) v0.1).2 (some ((Int.ofNat 6), ())) (L4 (Go.IntKind.wrap Go.IntKind.i64 (Int.add p (Int.ofNat 1))))) none)))) (L13 (Int.ofNat 0)))
def R_p_checkRules_13 (lf : Nat) (x1 : (List DForm)) (x2 : (List DForm)) (x3 : (List DRule)) (L13 : Int → Option Rt_p_checkRules) (L20 : Int → Option Rt_p_checkRules) (p : Int) : Option Rt_p_checkRules := (cond (iltI p (Int.ofNat (List.length x1))) (match (jget x1 p) with | .none  => none | .some v0 => (cond (Bool.not (Go.Proofs.Ytcnhjofpmpipfaa.S.ruleOf x3 v0.1).2) (some ((Int.ofNat 5), ())) (L13 (Go.IntKind.wrap Go.IntKind.i64 (Int.add p (Int.ofNat 1)))))) (L20 (Int.ofNat 0)))
def R_p_checkRules_20 (lf : Nat) (x1 : (List DForm)) (x2 : (List DForm)) (x3 : (List DRule)) (L26 : ((List DCol) × (List DCol) × (List DGive) × Int × Int) → Option Rt_p_checkRules) (p : Int) : Option Rt_p_checkRules := (cond (iltI p (Int.ofNat (List.length x3))) (match (jget x3 p) with | .none  => none | .some v0 => (match (jget x1 (Go.Proofs.Ytcnhjofpmpipfaa.S.form x1 v0.1)) with | .none  => none | .some v1 => (match (jget x2 (Go.Proofs.Ytcnhjofpmpipfaa.S.form x2 v0.2.1)) with | .none  => none | .some v2 => (cond (Bool.not (ieqI (Int.ofNat (List.length v0.2.2)) (Int.ofNat (List.length v2.2)))) (some ((Int.ofNat 2), ())) (L26 (v2.2, v1.2, v0.2.2, (Int.ofNat 0), p)))))) (some ((Int.ofNat 0), ())))
def R_p_checkRules_26 (lf : Nat) (x1 : (List DForm)) (x2 : (List DForm)) (x3 : (List DRule)) (L26 : ((List DCol) × (List DCol) × (List DGive) × Int × Int) → Option Rt_p_checkRules) (L20 : Int → Option Rt_p_checkRules) (p : (List DCol) × (List DCol) × (List DGive) × Int × Int) : Option Rt_p_checkRules := (cond (iltI p.2.2.2.1 (Int.ofNat (List.length p.2.2.1))) (match (jget p.2.2.1 p.2.2.2.1) with | .none  => none | .some v0 => (match (jget p.1 p.2.2.2.1) with | .none  => none | .some v1 => (cond (Bool.not (ieqI (Go.Proofs.Ytcnhjofpmpipfaa.S.give x3 (v0.1, (v0.2.1, v0.2.2)) p.2.1 (v1.1, (v1.2.1, v1.2.2))) (Int.ofNat 0))) (some ((Go.Proofs.Ytcnhjofpmpipfaa.S.give x3 (v0.1, (v0.2.1, v0.2.2)) p.2.1 (v1.1, (v1.2.1, v1.2.2))), ())) (L26 (p.1, p.2.1, p.2.2.1, (Go.IntKind.wrap Go.IntKind.i64 (Int.add p.2.2.2.1 (Int.ofNat 1))), p.2.2.2.2))))) (L20 (Go.IntKind.wrap Go.IntKind.i64 (Int.add p.2.2.2.2 (Int.ofNat 1)))))
theorem in_p_checkRules (g : ElA [(.list cForm), (.list cForm), (.list cRule)] → Option Rt_p_checkRules) (J : Nat → List Nat → NRes → Option Rt_p_checkRules) (lf : Nat) (x1 : (List DForm)) (x2 : (List DForm)) (x3 : (List DRule)) : icodeT Try.prog ttT.get nm_p_checkRules fi77.nt (cl_p_checkRules _ lf) lf st_p_checkRules J fi77.body [] (argGo (argV [(.list cForm), (.list cForm), (.list cRule)] (x1, x2, x3, ())) 0 .leaf) S0 [] (lastK ttT.get fi77 ⟨[(.list cForm), (.list cForm), (.list cRule)], [(false, (.int .i64))], g⟩) = R_p_checkRules_in lf x1 x2 x3 (fun q => J 4 [lf] (enc_p_checkRules_4 x1 x2 x3 q)) := by kernel_rfl
theorem st_p_checkRules_4 (g : ElA [(.list cForm), (.list cForm), (.list cRule)] → Option Rt_p_checkRules) (J : Nat → List Nat → NRes → Option Rt_p_checkRules) (lf : Nat) (x1 : (List DForm)) (x2 : (List DForm)) (x3 : (List DRule)) (m1 : Nat) (p : Int) : icodeFT Try.prog ttT.get nm_p_checkRules fi77.nt (cl_p_checkRules _ lf) lf st_p_checkRules J 4 fi77.body [] [m1] (enc_p_checkRules_4 x1 x2 x3 p) (lastK ttT.get fi77 ⟨[(.list cForm), (.list cForm), (.list cRule)], [(false, (.int .i64))], g⟩) = R_p_checkRules_4 lf x1 x2 x3 (fun q => J 4 [m1] (enc_p_checkRules_4 x1 x2 x3 q)) (fun q => J 13 [lf] (enc_p_checkRules_13 x1 x2 x3 q)) p := by kernel_rfl
theorem st_p_checkRules_13 (g : ElA [(.list cForm), (.list cForm), (.list cRule)] → Option Rt_p_checkRules) (J : Nat → List Nat → NRes → Option Rt_p_checkRules) (lf : Nat) (x1 : (List DForm)) (x2 : (List DForm)) (x3 : (List DRule)) (m1 : Nat) (p : Int) : icodeFT Try.prog ttT.get nm_p_checkRules fi77.nt (cl_p_checkRules _ lf) lf st_p_checkRules J 13 fi77.body [] [m1] (enc_p_checkRules_13 x1 x2 x3 p) (lastK ttT.get fi77 ⟨[(.list cForm), (.list cForm), (.list cRule)], [(false, (.int .i64))], g⟩) = R_p_checkRules_13 lf x1 x2 x3 (fun q => J 13 [m1] (enc_p_checkRules_13 x1 x2 x3 q)) (fun q => J 20 [lf] (enc_p_checkRules_20 x1 x2 x3 q)) p := by kernel_rfl
theorem st_p_checkRules_20 (g : ElA [(.list cForm), (.list cForm), (.list cRule)] → Option Rt_p_checkRules) (J : Nat → List Nat → NRes → Option Rt_p_checkRules) (lf : Nat) (x1 : (List DForm)) (x2 : (List DForm)) (x3 : (List DRule)) (m1 : Nat) (p : Int) : icodeFT Try.prog ttT.get nm_p_checkRules fi77.nt (cl_p_checkRules _ lf) lf st_p_checkRules J 20 fi77.body [] [m1] (enc_p_checkRules_20 x1 x2 x3 p) (lastK ttT.get fi77 ⟨[(.list cForm), (.list cForm), (.list cRule)], [(false, (.int .i64))], g⟩) = R_p_checkRules_20 lf x1 x2 x3 (fun q => J 26 [m1, lf] (enc_p_checkRules_26 x1 x2 x3 q)) p := by kernel_rfl
theorem st_p_checkRules_26 (g : ElA [(.list cForm), (.list cForm), (.list cRule)] → Option Rt_p_checkRules) (J : Nat → List Nat → NRes → Option Rt_p_checkRules) (lf : Nat) (x1 : (List DForm)) (x2 : (List DForm)) (x3 : (List DRule)) (m1 : Nat) (m2 : Nat) (p : (List DCol) × (List DCol) × (List DGive) × Int × Int) : icodeFT Try.prog ttT.get nm_p_checkRules fi77.nt (cl_p_checkRules _ lf) lf st_p_checkRules J 26 fi77.body [] [m1, m2] (enc_p_checkRules_26 x1 x2 x3 p) (lastK ttT.get fi77 ⟨[(.list cForm), (.list cForm), (.list cRule)], [(false, (.int .i64))], g⟩) = R_p_checkRules_26 lf x1 x2 x3 (fun q => J 26 [m1, m2] (enc_p_checkRules_26 x1 x2 x3 q)) (fun q => J 20 [m1] (enc_p_checkRules_20 x1 x2 x3 q)) p := by kernel_rfl
theorem nd_p_checkRules : (regs fi77.body).Nodup := by decide +kernel
theorem ok_p_checkRules : okC nm_p_checkRules st_p_checkRules hd_p_checkRules fi77.body none = true := by kernel_rfl
def A_p_checkRules (g : ElA [(.list cForm), (.list cForm), (.list cRule)] → Option Rt_p_checkRules) (lf : Nat) : Nat → List Nat → NRes → Option Rt_p_checkRules := atN Try.prog ttT.get nm_p_checkRules fi77 ⟨[(.list cForm), (.list cForm), (.list cRule)], [(false, (.int .i64))], g⟩ (cl_p_checkRules _ lf) lf hd_p_checkRules
def G_p_checkRules_26 (lf : Nat) (x1 : (List DForm)) (x2 : (List DForm)) (x3 : (List DRule)) (K20 : Int → Option Rt_p_checkRules) : Nat → ((List DCol) × (List DCol) × (List DGive) × Int × Int) → Option Rt_p_checkRules := rounds fun K p => R_p_checkRules_26 lf x1 x2 x3 K K20 p
theorem at_p_checkRules_26 (g : ElA [(.list cForm), (.list cForm), (.list cRule)] → Option Rt_p_checkRules) (lf : Nat) (x1 : (List DForm)) (x2 : (List DForm)) (x3 : (List DRule)) (m1 : Nat) : ∀ (n : Nat) (p : (List DCol) × (List DCol) × (List DGive) × Int × Int), A_p_checkRules g lf 26 [m1, n] (enc_p_checkRules_26 x1 x2 x3 p) = G_p_checkRules_26 lf x1 x2 x3 (fun q => A_p_checkRules g lf 20 [m1] (enc_p_checkRules_20 x1 x2 x3 q)) n p
  | 0, p => atN_zero 26 [m1, 0] rfl _
  | n + 1, p => by
    have ih := at_p_checkRules_26 g lf x1 x2 x3 m1 n
    refine (atN_eq (icallK_eq 20 _) nd_p_checkRules ok_p_checkRules 26 [m1, n + 1] [m1, n] rfl _).trans ((st_p_checkRules_26 g (A_p_checkRules g lf) lf x1 x2 x3 m1 n p).trans ?_)
    rw [(show (fun q => A_p_checkRules g lf 26 [m1, n] (enc_p_checkRules_26 x1 x2 x3 q)) = (fun q => G_p_checkRules_26 lf x1 x2 x3 (fun q => A_p_checkRules g lf 20 [m1] (enc_p_checkRules_20 x1 x2 x3 q)) n q) from funext ih)]
    rfl
def G_p_checkRules_20 (lf : Nat) (x1 : (List DForm)) (x2 : (List DForm)) (x3 : (List DRule)) : Nat → (Int) → Option Rt_p_checkRules := rounds fun K p => R_p_checkRules_20 lf x1 x2 x3 (fun q => G_p_checkRules_26 lf x1 x2 x3 K lf q) p
theorem at_p_checkRules_20 (g : ElA [(.list cForm), (.list cForm), (.list cRule)] → Option Rt_p_checkRules) (lf : Nat) (x1 : (List DForm)) (x2 : (List DForm)) (x3 : (List DRule)) : ∀ (n : Nat) (p : Int), A_p_checkRules g lf 20 [n] (enc_p_checkRules_20 x1 x2 x3 p) = G_p_checkRules_20 lf x1 x2 x3 n p
  | 0, p => atN_zero 20 [0] rfl _
  | n + 1, p => by
    have ih := at_p_checkRules_20 g lf x1 x2 x3 n
    refine (atN_eq (icallK_eq 20 _) nd_p_checkRules ok_p_checkRules 20 [n + 1] [n] rfl _).trans ((st_p_checkRules_20 g (A_p_checkRules g lf) lf x1 x2 x3 n p).trans ?_)
    rw [(show (fun q => A_p_checkRules g lf 26 [n, lf] (enc_p_checkRules_26 x1 x2 x3 q)) = (fun q => G_p_checkRules_26 lf x1 x2 x3 (fun q => A_p_checkRules g lf 20 [n] (enc_p_checkRules_20 x1 x2 x3 q)) lf q) from funext fun q => at_p_checkRules_26 g lf x1 x2 x3 n lf q), (show (fun q => A_p_checkRules g lf 20 [n] (enc_p_checkRules_20 x1 x2 x3 q)) = (fun q => G_p_checkRules_20 lf x1 x2 x3 n q) from funext ih)]
    rfl
def G_p_checkRules_13 (lf : Nat) (x1 : (List DForm)) (x2 : (List DForm)) (x3 : (List DRule)) : Nat → (Int) → Option Rt_p_checkRules := rounds fun K p => R_p_checkRules_13 lf x1 x2 x3 K (fun q => G_p_checkRules_20 lf x1 x2 x3 lf q) p
theorem at_p_checkRules_13 (g : ElA [(.list cForm), (.list cForm), (.list cRule)] → Option Rt_p_checkRules) (lf : Nat) (x1 : (List DForm)) (x2 : (List DForm)) (x3 : (List DRule)) : ∀ (n : Nat) (p : Int), A_p_checkRules g lf 13 [n] (enc_p_checkRules_13 x1 x2 x3 p) = G_p_checkRules_13 lf x1 x2 x3 n p
  | 0, p => atN_zero 13 [0] rfl _
  | n + 1, p => by
    have ih := at_p_checkRules_13 g lf x1 x2 x3 n
    refine (atN_eq (icallK_eq 20 _) nd_p_checkRules ok_p_checkRules 13 [n + 1] [n] rfl _).trans ((st_p_checkRules_13 g (A_p_checkRules g lf) lf x1 x2 x3 n p).trans ?_)
    rw [(show (fun q => A_p_checkRules g lf 20 [lf] (enc_p_checkRules_20 x1 x2 x3 q)) = (fun q => G_p_checkRules_20 lf x1 x2 x3 lf q) from funext fun q => at_p_checkRules_20 g lf x1 x2 x3 lf q), (show (fun q => A_p_checkRules g lf 13 [n] (enc_p_checkRules_13 x1 x2 x3 q)) = (fun q => G_p_checkRules_13 lf x1 x2 x3 n q) from funext ih)]
    rfl
def G_p_checkRules_4 (lf : Nat) (x1 : (List DForm)) (x2 : (List DForm)) (x3 : (List DRule)) : Nat → (Int) → Option Rt_p_checkRules := rounds fun K p => R_p_checkRules_4 lf x1 x2 x3 K (fun q => G_p_checkRules_13 lf x1 x2 x3 lf q) p
theorem at_p_checkRules_4 (g : ElA [(.list cForm), (.list cForm), (.list cRule)] → Option Rt_p_checkRules) (lf : Nat) (x1 : (List DForm)) (x2 : (List DForm)) (x3 : (List DRule)) : ∀ (n : Nat) (p : Int), A_p_checkRules g lf 4 [n] (enc_p_checkRules_4 x1 x2 x3 p) = G_p_checkRules_4 lf x1 x2 x3 n p
  | 0, p => atN_zero 4 [0] rfl _
  | n + 1, p => by
    have ih := at_p_checkRules_4 g lf x1 x2 x3 n
    refine (atN_eq (icallK_eq 20 _) nd_p_checkRules ok_p_checkRules 4 [n + 1] [n] rfl _).trans ((st_p_checkRules_4 g (A_p_checkRules g lf) lf x1 x2 x3 n p).trans ?_)
    rw [(show (fun q => A_p_checkRules g lf 13 [lf] (enc_p_checkRules_13 x1 x2 x3 q)) = (fun q => G_p_checkRules_13 lf x1 x2 x3 lf q) from funext fun q => at_p_checkRules_13 g lf x1 x2 x3 lf q), (show (fun q => A_p_checkRules g lf 4 [n] (enc_p_checkRules_4 x1 x2 x3 q)) = (fun q => G_p_checkRules_4 lf x1 x2 x3 n q) from funext ih)]
    rfl
def F_p_checkRules (lf : Nat) (x1 : (List DForm)) (x2 : (List DForm)) (x3 : (List DRule)) : Option Rt_p_checkRules := R_p_checkRules_in lf x1 x2 x3 (fun q => G_p_checkRules_4 lf x1 x2 x3 lf q)
theorem run_p_checkRules (g : ElA [(.list cForm), (.list cForm), (.list cRule)] → Option Rt_p_checkRules) (lf : Nat) (x1 : (List DForm)) (x2 : (List DForm)) (x3 : (List DRule)) : icodeT Try.prog ttT.get nm_p_checkRules fi77.nt (cl_p_checkRules _ lf) lf st_p_checkRules (A_p_checkRules g lf) fi77.body [] (argGo (argV [(.list cForm), (.list cForm), (.list cRule)] (x1, x2, x3, ())) 0 .leaf) S0 [] (lastK ttT.get fi77 ⟨[(.list cForm), (.list cForm), (.list cRule)], [(false, (.int .i64))], g⟩) = F_p_checkRules lf x1 x2 x3 := by
    refine (in_p_checkRules g (A_p_checkRules g lf) lf x1 x2 x3).trans ?_
    rw [(show (fun q => A_p_checkRules g lf 4 [lf] (enc_p_checkRules_4 x1 x2 x3 q)) = (fun q => G_p_checkRules_4 lf x1 x2 x3 lf q) from funext fun q => at_p_checkRules_4 g lf x1 x2 x3 lf q)]
    rfl
theorem hxs_p_checkRules : HxsOK Try.prog hxl_p_checkRules := trivial
theorem mk_p_checkRules {g : ElA [(.list cForm), (.list cForm), (.list cRule)] → Option Rt_p_checkRules} (hsm : SmOK Try.prog sml_p_checkRules) (hg : ∀ (x : ElA [(.list cForm), (.list cForm), (.list cRule)]) (y : Rt_p_checkRules), WfA [(.list cForm), (.list cForm), (.list cRule)] x → g x = some y → ∃ lf, F_p_checkRules lf x.1 x.2.1 x.2.2.1 = some y) : Con Try.prog 77 ⟨[(.list cForm), (.list cForm), (.list cRule)], [(false, (.int .i64))], g⟩ :=
  conT (nmf := nm_p_checkRules) (sml := sml_p_checkRules) (hxl := hxl_p_checkRules) (st := st_p_checkRules) (hd := hd_p_checkRules) 20 mixed ttOK ftOK hsm hxs_p_checkRules cal77 rfl rfl (by kernel_rfl) (fun x => by kernel_rfl) nd_p_checkRules ok_p_checkRules fun x y hx hy => by
    obtain ⟨lf, h⟩ := hg x y hx hy
    exact ⟨lf, (run_p_checkRules g lf x.1 x.2.1 x.2.2.1).trans h⟩
def nm_p_CheckRules : Nat → Option Nm := fun k => none
def st_p_CheckRules : Nat → Bool := fun k => false
def hd_p_CheckRules : Nat → Bool := fun k => false
abbrev Rt_p_CheckRules : Type := Int × Unit
def sml_p_CheckRules : List (Nat × Sm) := [(16, sp_p_CheckForms), (49, sp_p_first), (77, sp_p_checkRules)]
def hxl_p_CheckRules : List (Nat × Hx) := []
def cl_p_CheckRules (R : Type) (lf : Nat) : ClK R := icallK Try.prog ttT.get ftT.get (nm1 29 nm_p_CheckRules) (smL sml_p_CheckRules) (hxL hxl_p_CheckRules) lf 20 R
abbrev id_p_CheckRules : Nat := 29
def R_p_CheckRules_in (lf : Nat) (x1 : (List DForm)) (x2 : (List DForm)) (x3 : (List DRule)) : Option Rt_p_CheckRules := (cond (Bool.not (ieqI (Go.Proofs.Ytcnhjofpmpipfaa.S.first (List.cons (Go.Proofs.Ytcnhjofpmpipfaa.S.checkForms x1) (List.cons (Go.Proofs.Ytcnhjofpmpipfaa.S.checkForms x2) []))) (Int.ofNat 0))) (some ((Go.Proofs.Ytcnhjofpmpipfaa.S.first (List.cons (Go.Proofs.Ytcnhjofpmpipfaa.S.checkForms x1) (List.cons (Go.Proofs.Ytcnhjofpmpipfaa.S.checkForms x2) []))), ())) (some ((Go.Proofs.Ytcnhjofpmpipfaa.S.checkRules0 x1 x2 x3), ())))
theorem in_p_CheckRules (g : ElA [(.list cForm), (.list cForm), (.list cRule)] → Option Rt_p_CheckRules) (J : Nat → List Nat → NRes → Option Rt_p_CheckRules) (lf : Nat) (x1 : (List DForm)) (x2 : (List DForm)) (x3 : (List DRule)) : icodeT Try.prog ttT.get nm_p_CheckRules fi29.nt (cl_p_CheckRules _ lf) lf st_p_CheckRules J fi29.body [] (argGo (argV [(.list cForm), (.list cForm), (.list cRule)] (x1, x2, x3, ())) 0 .leaf) S0 [] (lastK ttT.get fi29 ⟨[(.list cForm), (.list cForm), (.list cRule)], [(false, (.int .i64))], g⟩) = R_p_CheckRules_in lf x1 x2 x3 := by kernel_rfl
theorem nd_p_CheckRules : (regs fi29.body).Nodup := by decide +kernel
theorem ok_p_CheckRules : okC nm_p_CheckRules st_p_CheckRules hd_p_CheckRules fi29.body none = true := by kernel_rfl
def A_p_CheckRules (g : ElA [(.list cForm), (.list cForm), (.list cRule)] → Option Rt_p_CheckRules) (lf : Nat) : Nat → List Nat → NRes → Option Rt_p_CheckRules := atN Try.prog ttT.get nm_p_CheckRules fi29 ⟨[(.list cForm), (.list cForm), (.list cRule)], [(false, (.int .i64))], g⟩ (cl_p_CheckRules _ lf) lf hd_p_CheckRules
def F_p_CheckRules (lf : Nat) (x1 : (List DForm)) (x2 : (List DForm)) (x3 : (List DRule)) : Option Rt_p_CheckRules := R_p_CheckRules_in lf x1 x2 x3
theorem run_p_CheckRules (g : ElA [(.list cForm), (.list cForm), (.list cRule)] → Option Rt_p_CheckRules) (lf : Nat) (x1 : (List DForm)) (x2 : (List DForm)) (x3 : (List DRule)) : icodeT Try.prog ttT.get nm_p_CheckRules fi29.nt (cl_p_CheckRules _ lf) lf st_p_CheckRules (A_p_CheckRules g lf) fi29.body [] (argGo (argV [(.list cForm), (.list cForm), (.list cRule)] (x1, x2, x3, ())) 0 .leaf) S0 [] (lastK ttT.get fi29 ⟨[(.list cForm), (.list cForm), (.list cRule)], [(false, (.int .i64))], g⟩) = F_p_CheckRules lf x1 x2 x3 := by
    refine (in_p_CheckRules g (A_p_CheckRules g lf) lf x1 x2 x3).trans ?_
    rfl
theorem hxs_p_CheckRules : HxsOK Try.prog hxl_p_CheckRules := trivial
theorem mk_p_CheckRules {g : ElA [(.list cForm), (.list cForm), (.list cRule)] → Option Rt_p_CheckRules} (hsm : SmOK Try.prog sml_p_CheckRules) (hg : ∀ (x : ElA [(.list cForm), (.list cForm), (.list cRule)]) (y : Rt_p_CheckRules), WfA [(.list cForm), (.list cForm), (.list cRule)] x → g x = some y → ∃ lf, F_p_CheckRules lf x.1 x.2.1 x.2.2.1 = some y) : Con Try.prog 29 ⟨[(.list cForm), (.list cForm), (.list cRule)], [(false, (.int .i64))], g⟩ :=
  conT (nmf := nm_p_CheckRules) (sml := sml_p_CheckRules) (hxl := hxl_p_CheckRules) (st := st_p_CheckRules) (hd := hd_p_CheckRules) 20 mixed ttOK ftOK hsm hxs_p_CheckRules cal29 rfl rfl (by kernel_rfl) (fun x => by kernel_rfl) nd_p_CheckRules ok_p_CheckRules fun x y hx hy => by
    obtain ⟨lf, h⟩ := hg x y hx hy
    exact ⟨lf, (run_p_CheckRules g lf x.1 x.2.1 x.2.2.1).trans h⟩
def nm_p_made : Nat → Option Nm := fun k => none
def st_p_made : Nat → Bool := fun k => false
def hd_p_made : Nat → Bool := fun k => false
abbrev Rt_p_made : Type := DVal × Bool × Unit
def sml_p_made : List (Nat × Sm) := [(95, sp_p_col), (83, sp_p_within)]
def hxl_p_made : List (Nat × Hx) := []
def cl_p_made (R : Type) (lf : Nat) : ClK R := icallK Try.prog ttT.get ftT.get (nm1 76 nm_p_made) (smL sml_p_made) (hxL hxl_p_made) lf 20 R
abbrev id_p_made : Nat := 76
def R_p_made_in (lf : Nat) (x1 : DGive) (x2 : (List DCol)) (x3 : (List DVal)) (x4 : DCol) : Option Rt_p_made := (cond (ieqI x1.2.1 (Int.ofNat 6)) (cond (ieqI x4.2.1 (Int.ofNat 2)) (some (((Int.ofNat 2), x1.2.2), (Bool.true, ()))) (some (((Int.ofNat 1), x1.2.2), (Bool.true, ())))) (cond (ieqI x1.2.1 (Int.ofNat 7)) (some (((Int.ofNat 3), (Int.ofNat 0)), (Bool.true, ()))) (match (jget x3 (Go.Proofs.Ytcnhjofpmpipfaa.S.col x2 x1.1)) with | .none  => none | .some v0 => (cond (ieqI x1.2.1 (Int.ofNat 2)) (some (((Int.ofNat 1), v0.2), (Bool.true, ()))) (cond (ieqI x1.2.1 (Int.ofNat 3)) (some (((Int.ofNat 2), v0.2), ((Go.Proofs.Ytcnhjofpmpipfaa.S.within v0.2 (Int.ofNat 0) (Int.ofNat 1)), ()))) (cond (ieqI x1.2.1 (Int.ofNat 4)) (some ((v0.1, v0.2), ((iltI v0.2 x1.2.2), ()))) (cond (ieqI x1.2.1 (Int.ofNat 5)) (some ((v0.1, v0.2), ((ieqI v0.1 (Int.ofNat 4)), ()))) (some ((v0.1, v0.2), (Bool.true, ()))))))))))
theorem in_p_made (g : ElA [cGive, (.list cCol), (.list cVal), cCol] → Option Rt_p_made) (J : Nat → List Nat → NRes → Option Rt_p_made) (lf : Nat) (x1 : DGive) (x2 : (List DCol)) (x3 : (List DVal)) (x4 : DCol) : icodeT Try.prog ttT.get nm_p_made fi76.nt (cl_p_made _ lf) lf st_p_made J fi76.body [] (argGo (argV [cGive, (.list cCol), (.list cVal), cCol] (x1, x2, x3, x4, ())) 0 .leaf) S0 [] (lastK ttT.get fi76 ⟨[cGive, (.list cCol), (.list cVal), cCol], [(false, cVal), (false, .bool)], g⟩) = R_p_made_in lf x1 x2 x3 x4 := by kernel_rfl
theorem nd_p_made : (regs fi76.body).Nodup := by decide +kernel
theorem ok_p_made : okC nm_p_made st_p_made hd_p_made fi76.body none = true := by kernel_rfl
def A_p_made (g : ElA [cGive, (.list cCol), (.list cVal), cCol] → Option Rt_p_made) (lf : Nat) : Nat → List Nat → NRes → Option Rt_p_made := atN Try.prog ttT.get nm_p_made fi76 ⟨[cGive, (.list cCol), (.list cVal), cCol], [(false, cVal), (false, .bool)], g⟩ (cl_p_made _ lf) lf hd_p_made
def F_p_made (lf : Nat) (x1 : DGive) (x2 : (List DCol)) (x3 : (List DVal)) (x4 : DCol) : Option Rt_p_made := R_p_made_in lf x1 x2 x3 x4
theorem run_p_made (g : ElA [cGive, (.list cCol), (.list cVal), cCol] → Option Rt_p_made) (lf : Nat) (x1 : DGive) (x2 : (List DCol)) (x3 : (List DVal)) (x4 : DCol) : icodeT Try.prog ttT.get nm_p_made fi76.nt (cl_p_made _ lf) lf st_p_made (A_p_made g lf) fi76.body [] (argGo (argV [cGive, (.list cCol), (.list cVal), cCol] (x1, x2, x3, x4, ())) 0 .leaf) S0 [] (lastK ttT.get fi76 ⟨[cGive, (.list cCol), (.list cVal), cCol], [(false, cVal), (false, .bool)], g⟩) = F_p_made lf x1 x2 x3 x4 := by
    refine (in_p_made g (A_p_made g lf) lf x1 x2 x3 x4).trans ?_
    rfl
theorem hxs_p_made : HxsOK Try.prog hxl_p_made := trivial
theorem mk_p_made {g : ElA [cGive, (.list cCol), (.list cVal), cCol] → Option Rt_p_made} (hsm : SmOK Try.prog sml_p_made) (hg : ∀ (x : ElA [cGive, (.list cCol), (.list cVal), cCol]) (y : Rt_p_made), WfA [cGive, (.list cCol), (.list cVal), cCol] x → g x = some y → ∃ lf, F_p_made lf x.1 x.2.1 x.2.2.1 x.2.2.2.1 = some y) : Con Try.prog 76 ⟨[cGive, (.list cCol), (.list cVal), cCol], [(false, cVal), (false, .bool)], g⟩ :=
  conT (nmf := nm_p_made) (sml := sml_p_made) (hxl := hxl_p_made) (st := st_p_made) (hd := hd_p_made) 20 mixed ttOK ftOK hsm hxs_p_made cal76 rfl rfl (by kernel_rfl) (fun x => by kernel_rfl) nd_p_made ok_p_made fun x y hx hy => by
    obtain ⟨lf, h⟩ := hg x y hx hy
    exact ⟨lf, (run_p_made g lf x.1 x.2.1 x.2.2.1 x.2.2.2.1).trans h⟩
def nm_slices_Clone_Val : Nat → Option Nm := fun k => none
def st_slices_Clone_Val : Nat → Bool := fun k => false
def hd_slices_Clone_Val : Nat → Bool := fun k => false
abbrev Rt_slices_Clone_Val : Type := (List DVal) × Unit
def sml_slices_Clone_Val : List (Nat × Sm) := []
def hxl_slices_Clone_Val : List (Nat × Hx) := []
def cl_slices_Clone_Val (R : Type) (lf : Nat) : ClK R := icallK Try.prog ttT.get ftT.get (nm1 74 nm_slices_Clone_Val) (smL sml_slices_Clone_Val) (hxL hxl_slices_Clone_Val) lf 20 R
abbrev id_slices_Clone_Val : Nat := 74
def R_slices_Clone_Val_in (lf : Nat) (x1 : (List DVal)) : Option Rt_slices_Clone_Val := (match x1 with | .nil  => none | .cons v0 v1 => (cond (Nat.ble (Nat.mul (Nat.add 0 (List.length x1)) 16) 140737488355328) (some (x1, ())) none))
theorem in_slices_Clone_Val (g : ElA [(.list cVal)] → Option Rt_slices_Clone_Val) (J : Nat → List Nat → NRes → Option Rt_slices_Clone_Val) (lf : Nat) (x1 : (List DVal)) : icodeT Try.prog ttT.get nm_slices_Clone_Val fi74.nt (cl_slices_Clone_Val _ lf) lf st_slices_Clone_Val J fi74.body [] (argGo (argV [(.list cVal)] (x1, ())) 0 .leaf) S0 [] (lastK ttT.get fi74 ⟨[(.list cVal)], [(false, (.list cVal))], g⟩) = R_slices_Clone_Val_in lf x1 := by kernel_rfl
theorem nd_slices_Clone_Val : (regs fi74.body).Nodup := by decide +kernel
theorem ok_slices_Clone_Val : okC nm_slices_Clone_Val st_slices_Clone_Val hd_slices_Clone_Val fi74.body none = true := by kernel_rfl
def A_slices_Clone_Val (g : ElA [(.list cVal)] → Option Rt_slices_Clone_Val) (lf : Nat) : Nat → List Nat → NRes → Option Rt_slices_Clone_Val := atN Try.prog ttT.get nm_slices_Clone_Val fi74 ⟨[(.list cVal)], [(false, (.list cVal))], g⟩ (cl_slices_Clone_Val _ lf) lf hd_slices_Clone_Val
def F_slices_Clone_Val (lf : Nat) (x1 : (List DVal)) : Option Rt_slices_Clone_Val := R_slices_Clone_Val_in lf x1
theorem run_slices_Clone_Val (g : ElA [(.list cVal)] → Option Rt_slices_Clone_Val) (lf : Nat) (x1 : (List DVal)) : icodeT Try.prog ttT.get nm_slices_Clone_Val fi74.nt (cl_slices_Clone_Val _ lf) lf st_slices_Clone_Val (A_slices_Clone_Val g lf) fi74.body [] (argGo (argV [(.list cVal)] (x1, ())) 0 .leaf) S0 [] (lastK ttT.get fi74 ⟨[(.list cVal)], [(false, (.list cVal))], g⟩) = F_slices_Clone_Val lf x1 := by
    refine (in_slices_Clone_Val g (A_slices_Clone_Val g lf) lf x1).trans ?_
    rfl
theorem hxs_slices_Clone_Val : HxsOK Try.prog hxl_slices_Clone_Val := trivial
theorem mk_slices_Clone_Val {g : ElA [(.list cVal)] → Option Rt_slices_Clone_Val} (hsm : SmOK Try.prog sml_slices_Clone_Val) (hg : ∀ (x : ElA [(.list cVal)]) (y : Rt_slices_Clone_Val), WfA [(.list cVal)] x → g x = some y → ∃ lf, F_slices_Clone_Val lf x.1 = some y) : Con Try.prog 74 ⟨[(.list cVal)], [(false, (.list cVal))], g⟩ :=
  conT (nmf := nm_slices_Clone_Val) (sml := sml_slices_Clone_Val) (hxl := hxl_slices_Clone_Val) (st := st_slices_Clone_Val) (hd := hd_slices_Clone_Val) 20 mixed ttOK ftOK hsm hxs_slices_Clone_Val cal74 rfl rfl (by kernel_rfl) (fun x => by kernel_rfl) nd_slices_Clone_Val ok_slices_Clone_Val fun x y hx hy => by
    obtain ⟨lf, h⟩ := hg x y hx hy
    exact ⟨lf, (run_slices_Clone_Val g lf x.1).trans h⟩
def nm_p_Convert : Nat → Option Nm := fun k => cond (Nat.beq k 9) (some ⟨[0, 1, 2, 8, 9, 13, 48, 49, 50], [], [(13, 0, cNode)], [], [], 0, 0, false⟩) (cond (Nat.beq k 15) (some ⟨[0, 1, 2, 8, 9, 13, 14, 15, 16, 18, 19, 48, 49, 50, 80, 81, 82], [], [(13, 0, cNode), (19, 1, cVal)], [], [], 0, 0, false⟩) (none))
def st_p_Convert : Nat → Bool := fun k => cond (Nat.beq k 9) true (cond (Nat.beq k 15) true (false))
def hd_p_Convert : Nat → Bool := fun k => cond (Nat.beq k 9) true (cond (Nat.beq k 15) true (false))
abbrev Rt_p_Convert : Type := DGraph × DRefusal × Int × Unit
def sml_p_Convert : List (Nat × Sm) := [(29, sp_p_CheckRules), (59, sp_p_check), (49, sp_p_first), (74, sp_slices_Clone_Val), (75, sp_p_ruleOf), (52, sp_p_form), (76, sp_p_made)]
def hxl_p_Convert : List (Nat × Hx) := []
def cl_p_Convert (R : Type) (lf : Nat) : ClK R := icallK Try.prog ttT.get ftT.get (nm1 28 nm_p_Convert) (smL sml_p_Convert) (hxL hxl_p_Convert) lf 20 R
abbrev id_p_Convert : Nat := 28
def enc_p_Convert_9 (x1 : (List DForm)) (x2 : (List DForm)) (x3 : (List DRule)) (x4 : DGraph) (p : Int × (List DNode)) : NRes := (NRes.mk (PT.node (some (IV.lst cForm x1)) (PT.node (some (IV.lst cForm x2)) PT.leaf (PT.node none (PT.node (some (IV.ptr 1 0)) (PT.node none PT.leaf (PT.node (some (IV.int Go.IntKind.i64 (Int.ofNat (List.length x4.1)))) PT.leaf PT.leaf)) PT.leaf) (PT.node (some (IV.ptr 2 0)) PT.leaf PT.leaf))) (PT.node (some (IV.lst cRule x3)) (PT.node none (PT.node (some (IV.ptr 0 0)) (PT.node none PT.leaf (PT.node (some (IV.lst cNode x4.1)) PT.leaf PT.leaf)) PT.leaf) PT.leaf) (PT.node none (PT.node none (PT.node none PT.leaf (PT.node (some (IV.int Go.IntKind.i64 p.1)) PT.leaf PT.leaf)) PT.leaf) PT.leaf))) (IS.mk (PT.node (some (IObj.row (List.cons IV.nilsl (List.cons IV.nilsl [])))) (PT.node (some (IObj.row (List.cons (IV.int Go.IntKind.i64 (Int.ofNat 0)) (List.cons (IV.str (S.lit [])) [])))) (PT.node (some (IObj.arr cNode p.2)) PT.leaf PT.leaf) PT.leaf) (PT.node (some (IObj.row (List.cons (IV.arr 3) (List.cons (IV.lst cVal x4.2) [])))) PT.leaf PT.leaf)) 4) [] 0)
def enc_p_Convert_15 (x1 : (List DForm)) (x2 : (List DForm)) (x3 : (List DRule)) (x4 : DGraph) (p : (List DCol) × (List DVal) × (List DCol) × ByteArray × Int × (List DVal) × Int × Int × (List DNode)) : NRes := (NRes.mk (PT.node (some (IV.lst cForm x1)) (PT.node (some (IV.lst cForm x2)) (PT.node none (PT.node none (PT.node (some (IV.ptr 3 0)) PT.leaf PT.leaf) PT.leaf) (PT.node none (PT.node (some (IV.ptr 5 0)) PT.leaf PT.leaf) PT.leaf)) (PT.node none (PT.node (some (IV.ptr 1 0)) (PT.node none PT.leaf (PT.node (some (IV.int Go.IntKind.i64 (Int.ofNat (List.length x4.1)))) (PT.node (some (IV.int Go.IntKind.i64 (Int.ofNat (List.length p.2.2.1)))) PT.leaf PT.leaf) PT.leaf)) PT.leaf) (PT.node (some (IV.ptr 2 0)) PT.leaf PT.leaf))) (PT.node (some (IV.lst cRule x3)) (PT.node none (PT.node (some (IV.ptr 0 0)) (PT.node (some (IV.ptr 4 0)) PT.leaf (PT.node (some (IV.lst cNode x4.1)) (PT.node (some (IV.lst cCol p.2.2.1)) PT.leaf PT.leaf) PT.leaf)) PT.leaf) PT.leaf) (PT.node none (PT.node none (PT.node (some (IV.lst cCol p.1)) PT.leaf (PT.node (some (IV.int Go.IntKind.i64 p.2.2.2.2.2.2.1)) (PT.node (some (IV.int Go.IntKind.i64 p.2.2.2.2.1)) PT.leaf PT.leaf) PT.leaf)) PT.leaf) (PT.node (some (IV.int Go.IntKind.i64 p.2.2.2.2.2.2.2.1)) PT.leaf PT.leaf)))) (IS.mk (PT.node (some (IObj.row (List.cons IV.nilsl (List.cons IV.nilsl [])))) (PT.node (some (IObj.row (List.cons (IV.int Go.IntKind.i64 (Int.ofNat 0)) (List.cons (IV.str (S.lit [])) [])))) (PT.node (some (IObj.row (List.cons (IV.str p.2.2.2.1) (List.cons (IV.lst cVal p.2.1) [])))) (PT.node (some (IObj.arr cVal p.2.2.2.2.2.1)) PT.leaf PT.leaf) PT.leaf) (PT.node (some (IObj.row (List.cons (IV.str (Go.Proofs.Ytcnhjofpmpipfaa.S.ruleOf x3 p.2.2.2.1).1.2.1) (List.cons (IV.arr 7) [])))) PT.leaf PT.leaf)) (PT.node (some (IObj.row (List.cons (IV.arr 6) (List.cons (IV.lst cVal x4.2) [])))) (PT.node (some (IObj.row (List.cons (IV.str (Go.Proofs.Ytcnhjofpmpipfaa.S.ruleOf x3 p.2.2.2.1).1.1) (List.cons (IV.str (Go.Proofs.Ytcnhjofpmpipfaa.S.ruleOf x3 p.2.2.2.1).1.2.1) (List.cons (IV.lst cGive (Go.Proofs.Ytcnhjofpmpipfaa.S.ruleOf x3 p.2.2.2.1).1.2.2) []))))) PT.leaf PT.leaf) (PT.node (some (IObj.arr cNode p.2.2.2.2.2.2.2.2)) PT.leaf PT.leaf))) 8) [] 0)
def R_p_Convert_in (lf : Nat) (x1 : (List DForm)) (x2 : (List DForm)) (x3 : (List DRule)) (x4 : DGraph) (L9 : (Int × (List DNode)) → Option Rt_p_Convert) : Option Rt_p_Convert := (cond (Bool.not (ieqI (Go.Proofs.Ytcnhjofpmpipfaa.S.first (List.cons (Go.Proofs.Ytcnhjofpmpipfaa.S.checkRules x1 x2 x3) [])) (Int.ofNat 0))) (some (([], []), (((Int.ofNat 0), (S.lit [])), ((Go.Proofs.Ytcnhjofpmpipfaa.S.first (List.cons (Go.Proofs.Ytcnhjofpmpipfaa.S.checkRules x1 x2 x3) [])), ())))) (cond (Bool.not (ieqI (Go.Proofs.Ytcnhjofpmpipfaa.S.check x1 (x4.1, x4.2)) (Int.ofNat 0))) (some (([], []), (((Int.ofNat 0), (S.lit [])), ((Go.Proofs.Ytcnhjofpmpipfaa.S.check x1 (x4.1, x4.2)), ())))) (L9 ((Int.ofNat 0), []))))
def R_p_Convert_9 (lf : Nat) (x1 : (List DForm)) (x2 : (List DForm)) (x3 : (List DRule)) (x4 : DGraph) (L15 : ((List DCol) × (List DVal) × (List DCol) × ByteArray × Int × (List DVal) × Int × Int × (List DNode)) → Option Rt_p_Convert) (p : Int × (List DNode)) : Option Rt_p_Convert := (cond (iltI p.1 (Int.ofNat (List.length x4.1))) (match (jget x4.1 p.1) with | .none  => none | .some v0 => (match (jget x1 (Go.Proofs.Ytcnhjofpmpipfaa.S.form x1 v0.1)) with | .none  => none | .some v1 => (match (jget x2 (Go.Proofs.Ytcnhjofpmpipfaa.S.form x2 (Go.Proofs.Ytcnhjofpmpipfaa.S.ruleOf x3 v0.1).1.2.1)) with | .none  => none | .some v2 => (L15 (v1.2, v0.2, v2.2, v0.1, (Int.ofNat 0), [], p.1, p.1, p.2))))) (some ((p.2, x4.2), (((Int.ofNat 0), (S.lit [])), ((Int.ofNat 0), ())))))
def R_p_Convert_15 (lf : Nat) (x1 : (List DForm)) (x2 : (List DForm)) (x3 : (List DRule)) (x4 : DGraph) (L15 : ((List DCol) × (List DVal) × (List DCol) × ByteArray × Int × (List DVal) × Int × Int × (List DNode)) → Option Rt_p_Convert) (L9 : (Int × (List DNode)) → Option Rt_p_Convert) (p : (List DCol) × (List DVal) × (List DCol) × ByteArray × Int × (List DVal) × Int × Int × (List DNode)) : Option Rt_p_Convert := (cond (iltI p.2.2.2.2.1 (Int.ofNat (List.length p.2.2.1))) (match (jget p.2.2.1 p.2.2.2.2.1) with | .none  => none | .some v0 => (match (jget (Go.Proofs.Ytcnhjofpmpipfaa.S.ruleOf x3 p.2.2.2.1).1.2.2 p.2.2.2.2.1) with | .none  => none | .some v1 => (match (cond (Go.Proofs.Ytcnhjofpmpipfaa.S.madePre (v1.1, (v1.2.1, v1.2.2)) p.1 p.2.1) (some ((Go.Proofs.Ytcnhjofpmpipfaa.S.made (v1.1, (v1.2.1, v1.2.2)) p.1 p.2.1 (v0.1, (v0.2.1, v0.2.2))).1, ((Go.Proofs.Ytcnhjofpmpipfaa.S.made (v1.1, (v1.2.1, v1.2.2)) p.1 p.2.1 (v0.1, (v0.2.1, v0.2.2))).2, ()))) none) with | .none  => none | .some v2 => (cond (Bool.not v2.2.1) (some (([], []), ((p.2.2.2.2.2.2.2.1, v0.1), ((Int.ofNat 10), ())))) (cond (Nat.ble (Nat.mul (Nat.add (List.length p.2.2.2.2.2.1) 1) 16) 140737488355328) (L15 (p.1, p.2.1, p.2.2.1, p.2.2.2.1, (Go.IntKind.wrap Go.IntKind.i64 (Int.add p.2.2.2.2.1 (Int.ofNat 1))), (List.append p.2.2.2.2.2.1 (List.cons (v2.1.1, v2.1.2) [])), p.2.2.2.2.2.2.1, p.2.2.2.2.2.2.2.1, p.2.2.2.2.2.2.2.2)) none))))) (cond (Nat.ble (Nat.mul (Nat.add (List.length p.2.2.2.2.2.2.2.2) 1) 40) 140737488355328) (L9 ((Go.IntKind.wrap Go.IntKind.i64 (Int.add p.2.2.2.2.2.2.1 (Int.ofNat 1))), (List.append p.2.2.2.2.2.2.2.2 (List.cons ((Go.Proofs.Ytcnhjofpmpipfaa.S.ruleOf x3 p.2.2.2.1).1.2.1, p.2.2.2.2.2.1) [])))) none))
theorem in_p_Convert (g : ElA [(.list cForm), (.list cForm), (.list cRule), cGraph] → Option Rt_p_Convert) (J : Nat → List Nat → NRes → Option Rt_p_Convert) (lf : Nat) (x1 : (List DForm)) (x2 : (List DForm)) (x3 : (List DRule)) (x4 : DGraph) : icodeT Try.prog ttT.get nm_p_Convert fi28.nt (cl_p_Convert _ lf) lf st_p_Convert J fi28.body [] (argGo (argV [(.list cForm), (.list cForm), (.list cRule), cGraph] (x1, x2, x3, x4, ())) 0 .leaf) S0 [] (lastK ttT.get fi28 ⟨[(.list cForm), (.list cForm), (.list cRule), cGraph], [(false, cGraph), (false, cRefusal), (false, (.int .i64))], g⟩) = R_p_Convert_in lf x1 x2 x3 x4 (fun q => J 9 [lf] (enc_p_Convert_9 x1 x2 x3 x4 q)) := by kernel_rfl
theorem st_p_Convert_9 (g : ElA [(.list cForm), (.list cForm), (.list cRule), cGraph] → Option Rt_p_Convert) (J : Nat → List Nat → NRes → Option Rt_p_Convert) (lf : Nat) (x1 : (List DForm)) (x2 : (List DForm)) (x3 : (List DRule)) (x4 : DGraph) (m1 : Nat) (p : Int × (List DNode)) : icodeFT Try.prog ttT.get nm_p_Convert fi28.nt (cl_p_Convert _ lf) lf st_p_Convert J 9 fi28.body [] [m1] (enc_p_Convert_9 x1 x2 x3 x4 p) (lastK ttT.get fi28 ⟨[(.list cForm), (.list cForm), (.list cRule), cGraph], [(false, cGraph), (false, cRefusal), (false, (.int .i64))], g⟩) = R_p_Convert_9 lf x1 x2 x3 x4 (fun q => J 15 [m1, lf] (enc_p_Convert_15 x1 x2 x3 x4 q)) p := by kernel_rfl
theorem st_p_Convert_15 (g : ElA [(.list cForm), (.list cForm), (.list cRule), cGraph] → Option Rt_p_Convert) (J : Nat → List Nat → NRes → Option Rt_p_Convert) (lf : Nat) (x1 : (List DForm)) (x2 : (List DForm)) (x3 : (List DRule)) (x4 : DGraph) (m1 : Nat) (m2 : Nat) (p : (List DCol) × (List DVal) × (List DCol) × ByteArray × Int × (List DVal) × Int × Int × (List DNode)) : icodeFT Try.prog ttT.get nm_p_Convert fi28.nt (cl_p_Convert _ lf) lf st_p_Convert J 15 fi28.body [] [m1, m2] (enc_p_Convert_15 x1 x2 x3 x4 p) (lastK ttT.get fi28 ⟨[(.list cForm), (.list cForm), (.list cRule), cGraph], [(false, cGraph), (false, cRefusal), (false, (.int .i64))], g⟩) = R_p_Convert_15 lf x1 x2 x3 x4 (fun q => J 15 [m1, m2] (enc_p_Convert_15 x1 x2 x3 x4 q)) (fun q => J 9 [m1] (enc_p_Convert_9 x1 x2 x3 x4 q)) p := by kernel_rfl
theorem nd_p_Convert : (regs fi28.body).Nodup := by decide +kernel
theorem ok_p_Convert : okC nm_p_Convert st_p_Convert hd_p_Convert fi28.body none = true := by kernel_rfl
def A_p_Convert (g : ElA [(.list cForm), (.list cForm), (.list cRule), cGraph] → Option Rt_p_Convert) (lf : Nat) : Nat → List Nat → NRes → Option Rt_p_Convert := atN Try.prog ttT.get nm_p_Convert fi28 ⟨[(.list cForm), (.list cForm), (.list cRule), cGraph], [(false, cGraph), (false, cRefusal), (false, (.int .i64))], g⟩ (cl_p_Convert _ lf) lf hd_p_Convert
def G_p_Convert_15 (lf : Nat) (x1 : (List DForm)) (x2 : (List DForm)) (x3 : (List DRule)) (x4 : DGraph) (K9 : (Int × (List DNode)) → Option Rt_p_Convert) : Nat → ((List DCol) × (List DVal) × (List DCol) × ByteArray × Int × (List DVal) × Int × Int × (List DNode)) → Option Rt_p_Convert := rounds fun K p => R_p_Convert_15 lf x1 x2 x3 x4 K K9 p
theorem at_p_Convert_15 (g : ElA [(.list cForm), (.list cForm), (.list cRule), cGraph] → Option Rt_p_Convert) (lf : Nat) (x1 : (List DForm)) (x2 : (List DForm)) (x3 : (List DRule)) (x4 : DGraph) (m1 : Nat) : ∀ (n : Nat) (p : (List DCol) × (List DVal) × (List DCol) × ByteArray × Int × (List DVal) × Int × Int × (List DNode)), A_p_Convert g lf 15 [m1, n] (enc_p_Convert_15 x1 x2 x3 x4 p) = G_p_Convert_15 lf x1 x2 x3 x4 (fun q => A_p_Convert g lf 9 [m1] (enc_p_Convert_9 x1 x2 x3 x4 q)) n p
  | 0, p => atN_zero 15 [m1, 0] rfl _
  | n + 1, p => by
    have ih := at_p_Convert_15 g lf x1 x2 x3 x4 m1 n
    refine (atN_eq (icallK_eq 20 _) nd_p_Convert ok_p_Convert 15 [m1, n + 1] [m1, n] rfl _).trans ((st_p_Convert_15 g (A_p_Convert g lf) lf x1 x2 x3 x4 m1 n p).trans ?_)
    rw [(show (fun q => A_p_Convert g lf 15 [m1, n] (enc_p_Convert_15 x1 x2 x3 x4 q)) = (fun q => G_p_Convert_15 lf x1 x2 x3 x4 (fun q => A_p_Convert g lf 9 [m1] (enc_p_Convert_9 x1 x2 x3 x4 q)) n q) from funext ih)]
    rfl
def G_p_Convert_9 (lf : Nat) (x1 : (List DForm)) (x2 : (List DForm)) (x3 : (List DRule)) (x4 : DGraph) : Nat → (Int × (List DNode)) → Option Rt_p_Convert := rounds fun K p => R_p_Convert_9 lf x1 x2 x3 x4 (fun q => G_p_Convert_15 lf x1 x2 x3 x4 K lf q) p
theorem at_p_Convert_9 (g : ElA [(.list cForm), (.list cForm), (.list cRule), cGraph] → Option Rt_p_Convert) (lf : Nat) (x1 : (List DForm)) (x2 : (List DForm)) (x3 : (List DRule)) (x4 : DGraph) : ∀ (n : Nat) (p : Int × (List DNode)), A_p_Convert g lf 9 [n] (enc_p_Convert_9 x1 x2 x3 x4 p) = G_p_Convert_9 lf x1 x2 x3 x4 n p
  | 0, p => atN_zero 9 [0] rfl _
  | n + 1, p => by
    have ih := at_p_Convert_9 g lf x1 x2 x3 x4 n
    refine (atN_eq (icallK_eq 20 _) nd_p_Convert ok_p_Convert 9 [n + 1] [n] rfl _).trans ((st_p_Convert_9 g (A_p_Convert g lf) lf x1 x2 x3 x4 n p).trans ?_)
    rw [(show (fun q => A_p_Convert g lf 15 [n, lf] (enc_p_Convert_15 x1 x2 x3 x4 q)) = (fun q => G_p_Convert_15 lf x1 x2 x3 x4 (fun q => A_p_Convert g lf 9 [n] (enc_p_Convert_9 x1 x2 x3 x4 q)) lf q) from funext fun q => at_p_Convert_15 g lf x1 x2 x3 x4 n lf q), (show (fun q => A_p_Convert g lf 9 [n] (enc_p_Convert_9 x1 x2 x3 x4 q)) = (fun q => G_p_Convert_9 lf x1 x2 x3 x4 n q) from funext ih)]
    rfl
def F_p_Convert (lf : Nat) (x1 : (List DForm)) (x2 : (List DForm)) (x3 : (List DRule)) (x4 : DGraph) : Option Rt_p_Convert := R_p_Convert_in lf x1 x2 x3 x4 (fun q => G_p_Convert_9 lf x1 x2 x3 x4 lf q)
theorem run_p_Convert (g : ElA [(.list cForm), (.list cForm), (.list cRule), cGraph] → Option Rt_p_Convert) (lf : Nat) (x1 : (List DForm)) (x2 : (List DForm)) (x3 : (List DRule)) (x4 : DGraph) : icodeT Try.prog ttT.get nm_p_Convert fi28.nt (cl_p_Convert _ lf) lf st_p_Convert (A_p_Convert g lf) fi28.body [] (argGo (argV [(.list cForm), (.list cForm), (.list cRule), cGraph] (x1, x2, x3, x4, ())) 0 .leaf) S0 [] (lastK ttT.get fi28 ⟨[(.list cForm), (.list cForm), (.list cRule), cGraph], [(false, cGraph), (false, cRefusal), (false, (.int .i64))], g⟩) = F_p_Convert lf x1 x2 x3 x4 := by
    refine (in_p_Convert g (A_p_Convert g lf) lf x1 x2 x3 x4).trans ?_
    rw [(show (fun q => A_p_Convert g lf 9 [lf] (enc_p_Convert_9 x1 x2 x3 x4 q)) = (fun q => G_p_Convert_9 lf x1 x2 x3 x4 lf q) from funext fun q => at_p_Convert_9 g lf x1 x2 x3 x4 lf q)]
    rfl
theorem hxs_p_Convert : HxsOK Try.prog hxl_p_Convert := trivial
theorem mk_p_Convert {g : ElA [(.list cForm), (.list cForm), (.list cRule), cGraph] → Option Rt_p_Convert} (hsm : SmOK Try.prog sml_p_Convert) (hg : ∀ (x : ElA [(.list cForm), (.list cForm), (.list cRule), cGraph]) (y : Rt_p_Convert), WfA [(.list cForm), (.list cForm), (.list cRule), cGraph] x → g x = some y → ∃ lf, F_p_Convert lf x.1 x.2.1 x.2.2.1 x.2.2.2.1 = some y) : Con Try.prog 28 ⟨[(.list cForm), (.list cForm), (.list cRule), cGraph], [(false, cGraph), (false, cRefusal), (false, (.int .i64))], g⟩ :=
  conT (nmf := nm_p_Convert) (sml := sml_p_Convert) (hxl := hxl_p_Convert) (st := st_p_Convert) (hd := hd_p_Convert) 20 mixed ttOK ftOK hsm hxs_p_Convert cal28 rfl rfl (by kernel_rfl) (fun x => by kernel_rfl) nd_p_Convert ok_p_Convert fun x y hx hy => by
    obtain ⟨lf, h⟩ := hg x y hx hy
    exact ⟨lf, (run_p_Convert g lf x.1 x.2.1 x.2.2.1 x.2.2.2.1).trans h⟩
end Go.Proofs.Ytcnhjofpmpipfaa

end
end

/- The calls of slices.Clone. -/
section
set_option linter.unusedVariables false
set_option maxRecDepth 100000
namespace Go.Proofs.Ytcnhjofpmpipfaa
open Go Go.Sx Go.RowKit Go.Jx

theorem cloneN_slices_Clone_Val {M : List Nat} {w : World} {a : Option Addr} {cap : Nat} (hM : Lo M w) (hc : cap < 9223372036854775808) : Calls Try.prog 74 #[.slice a 0 cap] w (Ret fun v w' => ∃ a' c' m', v = .slice a' 0 c' ∧ c' < 9223372036854775808 ∧ Evo [] w m' w') := by
  have hS : SL M w a cap ([] : List (NoD 2)) := ⟨⟨Nat.zero_le _, hc⟩, .inl rfl⟩
  refine enter (l := [.slice a 0 cap]) Try.func74 rfl Try.ntmps74 rfl ?_
  refine c_seq fun KhK1 hK1 => ?_
  refine c_reg ?_
  refine op_assign (v := .slice none 0 0) rfl rfl rfl ?_
  refine wpList_nil ?_
  refine hK1 _ _ ?_
  refine c_seq fun KhK2 hK2 => ?_
  refine c_seq fun KhK3 hK3 => ?_
  refine c_reg ?_
  refine op_move (v := .slice a 0 cap) rfl rfl rfl ?_
  refine op_nilS ty24 rfl rfl rfl rfl ?_
  refine wpList_nil ?_
  refine hK3 _ _ ?_
  refine c_ifB rfl rfl (fun hb4 => ?_) (fun hb4 => ?_)
  · refine c_seq fun KhK5 hK5 => ?_
    refine c_reg ?_
    refine op_assign (v := .slice none 0 0) rfl rfl rfl ?_
    refine wpList_nil ?_
    refine hK5 _ _ ?_
    refine wp_ret ?_
    exact ret1 Try.results74 rfl ⟨none, 0, [], rfl, by decide, Evo.refl [] w⟩
  · refine wp_skip ?_
    refine hK2 _ _ ?_
    refine c_seq fun KhK7 hK7 => ?_
    refine c_reg ?_
    refine op_buildSlice0 (α := NoD 2) (m := []) (M := M) ty24 ty51 rfl (hM.mono (Evo.refl [] w).size) fun β14 w15 hβ16 u17 hz18 ho19 => ?_
    have e20 := u17.evoN (m := []) hβ16 hz18
    refine op_move (v := .slice a 0 cap) rfl rfl rfl ?_
    refine op_append ty24 ty24 ty51 rfl rfl rfl rfl rfl rfl rfl ho19 (hS.mono (e20.tr M)) (hM.mono e20.size) (by simp) fun a22 c23 w24 m25 ho26 e27 u28 hbk29 hsub30 => ?_
    refine op_assign (v := .slice a22 (([] : List (NoD 2)) ++ []).length c23) rfl rfl rfl ?_
    refine wpList_nil ?_
    refine hK7 _ _ ?_
    refine wp_ret ?_
    exact ret1 Try.results74 rfl ⟨a22, c23, m25, rfl, own_cap ho26, e20.trans e27⟩
theorem con_slices_Clone_Val' : Con Try.prog 74 ⟨[.list cVal], [(false, .list cVal)], fun x => match x.1 with | [] => none | v :: l => some (x.1, ())⟩ := mk_slices_Clone_Val trivial fun x y hx h => ⟨0, by
  obtain ⟨l, _⟩ := x
  have hl := wf_len hx.1
  have hb := hx.1.1
  cases l with
  | nil => cases h
  | cons v l =>
    cases h
    simp only [F_slices_Clone_Val, R_slices_Clone_Val_in, List.nil_append]
    exact Eq.trans (congrArg (fun b => cond b (some (v :: l, ())) none) (Nat.ble_eq_true_of_le (Nat.le_trans (Nat.le_of_eq (congrArg (fun z => Nat.mul z 16) (Nat.zero_add _))) hb))) rfl⟩
theorem con_slices_Clone_Val : Con Try.prog id_slices_Clone_Val sp_slices_Clone_Val := by
  refine ⟨cal74, fun M w x us y hy hM hv => ?_⟩
  obtain ⟨l, _⟩ := x
  cases l with
  | cons v l => exact con_slices_Clone_Val'.calls M w (v :: l, ()) us y hy hM hv
  | nil =>
    cases hy
    obtain ⟨u, us2, rfl, h1, h2⟩ := hv.inv
    obtain rfl : us2 = [] := List.length_eq_zero_iff.1 h2.1.symm
    obtain ⟨a, cap, rfl, hc⟩ := lst_nil2 h1
    refine callsIn_wide.2 ((cloneN_slices_Clone_Val (M := M) hM hc).mono fun e w' hR => ?_)
    exact ret_nil hM hR
end Go.Proofs.Ytcnhjofpmpipfaa
end

/- The contracts of package pack, second part: rules. -/
section
set_option linter.unusedVariables false
set_option maxRecDepth 100000
namespace Go.Proofs.Ytcnhjofpmpipfaa
open Go Go.Sx Go.RowKit Go.Jx

theorem F_p_leads_eq (lf : Nat) (l : List DRule) (a b : ByteArray) : F_p_leads lf l a b = some (S.leads l a b, ()) := by
  simp only [F_p_leads, R_p_leads_in, S.leads, keqS]
  have ea : S.lit [65, 78, 89] = S.ANY := rfl
  rw [ea]
  by_cases h : b = S.ANY
  · simp [h]
  · rw [decide_eq_false h, cond_false, Bool.false_or]
    cases (S.ruleOf l a).2 <;> rfl
theorem con_p_leads : Con Try.prog id_p_leads sp_p_leads := mk_p_leads ⟨con_p_ruleOf, trivial⟩ fun x y _ h => ⟨0, (F_p_leads_eq _ _ _ _).trans h⟩
theorem F_p_fits_eq (lf : Nat) (l : List DRule) (g : DGive) (a b : DCol) : F_p_fits lf l g a b = some (S.fits l g a b, ()) := by
  simp only [F_p_fits, R_p_fits_in, S.fits, ieqI_eq, oL]
  generalize S.leads l a.2.2 b.2.2 = bl
  generalize S.within g.2.2 0 1 = bw
  by_cases h1 : g.2.1 = 1
  · simp only [h1, decide_true, cond_true, if_true]
    by_cases h : a.2.1 = b.2.1
    · rw [h]
      by_cases h3 : b.2.1 = 3 <;> simp [h3]
    · simp [h]
  by_cases h2 : g.2.1 = 2
  · by_cases h : a.2.1 = 2 <;> simp [h2, h]
  by_cases h3 : g.2.1 = 3
  · by_cases h : a.2.1 = 1 <;> simp [h3, h]
  by_cases h4 : g.2.1 = 4
  · by_cases h : a.2.1 = 1 <;> simp [h4, h]
  by_cases h5 : g.2.1 = 5
  · by_cases h : a.2.1 = 3 <;> by_cases h' : b.2.1 = 3 <;> simp [h5, h, h']
  by_cases h6 : g.2.1 = 6
  · by_cases h : b.2.1 = 1 <;> by_cases h' : b.2.1 = 2 <;> simp [h6, h, h']
  simp [h1, h2, h3, h4, h5, h6]
theorem con_p_fits : Con Try.prog id_p_fits sp_p_fits := mk_p_fits ⟨con_p_within, con_p_leads, trivial⟩ fun x y _ h => ⟨0, (F_p_fits_eq _ _ _ _ _).trans h⟩
theorem gv_end (lf : Nat) (l : List DRule) (g : DGive) (cols : List DCol) (b : DCol) (p : DCol) : G_p_give_13 lf l g cols b p = some (S.unlessE (S.fits l g p b) 8, ()) := by
  simp only [G_p_give_13, R_p_give_13, Prod.eta, S.unlessE]
  cases S.fits l g p b <;> rfl
theorem gv_from (lf : Nat) (l : List DRule) (g : DGive) (cols : List DCol) (b : DCol) (h : S.within g.2.1 1 5 = true → 0 ≤ S.col cols g.1) : G_p_give_11 lf l g cols b () = some (S.unlessE (S.fits l g (if S.within g.2.1 1 5 = true then S.at_ S.zCol cols (S.col cols g.1) else S.zCol) b) 8, ()) := by
  simp only [G_p_give_11, R_p_give_11, gv_end, oL]
  cases hw : S.within g.2.1 1 5 with
  | false => rfl
  | true =>
    obtain ⟨c, c1, c2, _⟩ := S.idx_get (p := fun c : DCol => keqS c.1 g.1) (l := cols) (h hw)
    have c1' : jget cols (S.col cols g.1) = some c := c1
    have c3 : S.at_ S.zCol cols (S.col cols g.1) = c := by
      unfold S.at_ S.col
      rw [c2]; rfl
    simp only [c1', cond_true, if_true, c3, Prod.eta]
theorem F_p_give_eq (lf : Nat) (l : List DRule) (g : DGive) (cols : List DCol) (b : DCol) : F_p_give lf l g cols b = some (S.give l g cols b, ()) := by
  have key : ∀ p, (S.within g.2.1 1 5 = true → 0 ≤ S.col cols g.1) → p = S.most g → G_p_give_8 lf l g cols b p = some ((if S.within g.2.1 1 7 = false ∨ (S.within g.2.1 1 5 = false ∧ ¬ g.1 = S.lit []) ∨ S.within g.2.2 (-S.most g) (S.most g) = false ∨ (g.2.1 = 6 ∧ b.2.1 = 2 ∧ S.within g.2.2 0 1 = false) then 1
  else S.unlessE (S.fits l g (if S.within g.2.1 1 5 = true then S.at_ S.zCol cols (S.col cols g.1) else S.zCol) b) 8), ()) := by
    intro p hc hp
    have hn : IntKind.i64.wrap (Int.sub 0 p) = - S.most g := by
      subst hp
      have : Int.sub 0 (S.most g) = - S.most g := Int.zero_sub _
      rw [this]
      exact wrap64_in (by unfold S.most; split <;> simp)
    simp only [G_p_give_8, R_p_give_8, gv_from lf l g cols b hc, oL, hn, keqS, ieqI_eq]
    rw [hp]
    generalize S.unlessE _ _ = u
    generalize S.within g.2.1 1 7 = b7
    generalize S.within g.2.1 1 5 = b5
    generalize S.within g.2.2 (-S.most g) (S.most g) = bm
    generalize S.within g.2.2 0 1 = b01
    by_cases h1 : g.1 = S.lit [] <;> by_cases h6 : g.2.1 = 6 <;> by_cases h2 : b.2.1 = 2 <;> cases b7 <;> cases b5 <;> cases bm <;> cases b01 <;> simp [h1, h6, h2]
  simp only [F_p_give, R_p_give_in, S.give, oL, iltI_eq, ieqI_eq]
  by_cases hc : S.within g.2.1 1 5 = true ∧ S.col cols g.1 < 0
  · rw [if_pos hc, hc.1, decide_eq_true hc.2]; rfl
  rw [if_neg hc]
  have hc' : S.within g.2.1 1 5 = true → 0 ≤ S.col cols g.1 := fun h => by
    rcases Int.lt_or_le (S.col cols g.1) 0 with h1 | h1
    · exact absurd ⟨h, h1⟩ hc
    · exact h1
  have fin : (cond (decide (g.2.1 = 4)) (G_p_give_8 lf l g cols b 1099511627776) (cond (decide (g.2.1 = 6)) (G_p_give_8 lf l g cols b 1099511627776) (G_p_give_8 lf l g cols b 0))) = G_p_give_8 lf l g cols b (S.most g) := by
    unfold S.most
    by_cases h4 : g.2.1 = 4 <;> by_cases h6 : g.2.1 = 6 <;> simp [h4, h6]
  rw [fin]
  refine Eq.trans ?_ (key _ hc' rfl)
  cases hw : S.within g.2.1 1 5 with
  | false => rfl
  | true => rw [cond_true, decide_eq_false (by have := hc' hw; omega), cond_false]
theorem con_p_give : Con Try.prog id_p_give sp_p_give := mk_p_give ⟨con_p_col, con_p_within, con_p_fits, trivial⟩ fun x y _ h => ⟨0, (F_p_give_eq _ _ _ _ _).trans h⟩

/-! ### Lists of rules -/
theorem form_get {l : List DForm} {n : ByteArray} (h : 0 ≤ S.form l n) : ∃ f, jget l (S.form l n) = some f ∧ S.colsOf l n = f.2 ∧ f ∈ l ∧ f.1 = n := by
  obtain ⟨f, f1, f2, f3, f4, f5, f6⟩ := S.idx_get (p := fun f : DForm => keqS f.1 n) (l := l) h
  refine ⟨f, f1, ?_, f4, of_decide_eq_true f3⟩
  unfold S.colsOf S.at_ S.form
  rw [f2]; rfl
theorem cr_inner (a b : List DForm) (l : List DRule) (K20 : Int → Option Rt_p_checkRules) (now was : List DCol) (gs : List DGive) (hg : gs.length < LF) (hlen : gs.length = now.length) (i : Nat) :
    G_p_checkRules_26 LF a b l K20 LF (now, was, gs, Int.ofNat 0, Int.ofNat i) = if S.crGives l was now gs = 0 then K20 (IntKind.i64.wrap (Int.add (Int.ofNat i) (Int.ofNat 1))) else some (S.crGives l was now gs, ()) := by
  refine range0 (σ := Unit) (R := Rt_p_checkRules) gs (fun k _ => (now, was, gs, k, Int.ofNat i)) (fun _ _ => True) (fun rest k _ => if S.crGives l was (now.drop k) rest = 0 then K20 (IntKind.i64.wrap (Int.add (Int.ofNat i) (Int.ofNat 1))) else some (S.crGives l was (now.drop k) rest, ())) hg (fun K s _ => ?_) (fun K k g rest s _ r h => ?_) () trivial
  · have : S.crGives l was (now.drop gs.length) [] = 0 := by unfold S.crGives; split <;> simp_all
    simp only [R_p_checkRules_26, ilt_self, cond_false, this, if_true]
  · have h := h () trivial
    have hk : k < now.length := by rw [← hlen]; exact r.lt
    have hj : jget now (Int.ofNat k) = some now[k] := by rw [jget_nat]; exact List.getElem?_eq_getElem hk
    rw [List.drop_eq_getElem_cons hk, S.crGives]
    simp only [R_p_checkRules_26, r.ilt, r.get, r.next, h, cond_true, hj, Prod.eta, ne_zero]
    by_cases h0 : S.give l g was now[k] = 0
    · rw [decide_eq_false (by simpa using h0), cond_false, if_pos h0]
    · rw [decide_eq_true h0, cond_true, if_neg h0, if_neg h0]
theorem cr_third (a b : List DForm) (l : List DRule) (hl : l.length < LF) (hw : ∀ r ∈ l, r.2.2.length < LF) (hf : ∀ r ∈ l, 0 ≤ S.form a r.1 ∧ 0 ≤ S.form b r.2.1) : G_p_checkRules_20 LF a b l LF (Int.ofNat 0) = some (S.crGo3 a b l l, ()) := by
  refine range1 (R := Rt_p_checkRules) l (fun rest i => some (S.crGo3 a b l rest, ())) hl (fun K => ?_) (fun K i v rest r h => ?_)
  · simp only [R_p_checkRules_20, ilt_self, cond_false]; rfl
  · obtain ⟨fa, a1, a2, a3, a4⟩ := form_get (hf v r.mem).1
    obtain ⟨fb, b1, b2, b3, b4⟩ := form_get (hf v r.mem).2
    simp only [R_p_checkRules_20, r.ilt, r.get, cond_true, a1, b1, ieq_nat]
    rw [S.crGo3, a2, b2]
    by_cases hlen : v.2.2.length = fb.2.length
    · rw [decide_eq_true hlen, Bool.not_true, cond_false, if_pos hlen]
      refine (cr_inner a b l K fb.2 fa.2 v.2.2 (hw v r.mem) hlen i).trans ?_
      rw [r.next, h]
      split <;> rfl
    · rw [decide_eq_false hlen, Bool.not_false, cond_true, if_neg hlen]
      rfl
theorem cr_second (a b : List DForm) (l : List DRule) (ha : a.length < LF) (hl : l.length < LF) (hw : ∀ r ∈ l, r.2.2.length < LF) (hf : ∀ r ∈ l, 0 ≤ S.form a r.1 ∧ 0 ≤ S.form b r.2.1) : G_p_checkRules_13 LF a b l LF (Int.ofNat 0) = some (S.crGo2 a b l a, ()) := by
  refine range1 (R := Rt_p_checkRules) a (fun rest i => some (S.crGo2 a b l rest, ())) ha (fun K => ?_) (fun K i v rest r h => ?_)
  · simp only [R_p_checkRules_13, ilt_self, cond_false]
    exact cr_third a b l hl hw hf
  · simp only [R_p_checkRules_13, r.ilt, r.get, r.next, h, cond_true]
    rw [S.crGo2]
    cases (S.ruleOf l v.1).2 <;> rfl
theorem F_p_checkRules_eq (a b : List DForm) (l : List DRule) (ha : a.length < LF) (hl : l.length < LF) (hw : ∀ r ∈ l, r.2.2.length < LF) : F_p_checkRules LF a b l = some (S.checkRules0 a b l, ()) := by
  simp only [F_p_checkRules, R_p_checkRules_in, S.checkRules0, ilt_nat]
  by_cases h24 : 24 < l.length
  · rw [decide_eq_true h24, cond_true, if_pos h24]; rfl
  rw [decide_eq_false h24, cond_false, if_neg h24]
  refine range0 (σ := Unit) (R := Rt_p_checkRules) l (fun i _ => i) (fun i _ => ∀ r ∈ l.take i, 0 ≤ S.form a r.1 ∧ 0 ≤ S.form b r.2.1) (fun rest i _ => some (S.crGo a b l i rest, ())) hl (fun K s hI => ?_) (fun K i v rest s hI r h => ?_) () (by simp)
  · simp only [R_p_checkRules_4, ilt_self, cond_false]
    rw [List.take_length] at hI
    rw [S.crGo]
    exact cr_second a b l ha hl hw hI
  · simp only [R_p_checkRules_4, r.ilt, r.get, r.next, cond_true, lchk_pre l (Nat.le_of_lt r.lt), lsub_pre, iltI_eq]
    rw [S.crGo]
    simp only [oL]
    by_cases h1 : S.form a v.1 < 0
    · rw [decide_eq_true h1, cond_true, if_pos h1]
    by_cases h2 : S.form b v.2.1 < 0
    · rw [decide_eq_false h1, cond_false, if_neg h1, decide_eq_true h2, cond_true, if_pos h2]
    rw [decide_eq_false h1, cond_false, if_neg h1, decide_eq_false h2, cond_false, if_neg h2]
    cases (S.ruleOf (l.take i) v.1).2 with
    | true => rfl
    | false =>
      rw [cond_false, if_neg (by simp)]
      refine h () fun q hq => ?_
      rw [r.take, List.mem_append] at hq
      rcases hq with hq | hq
      · exact hI q hq
      · simp only [List.mem_cons, List.not_mem_nil, or_false] at hq
        subst hq
        exact ⟨by omega, by omega⟩
theorem con_p_checkRules : Con Try.prog id_p_checkRules sp_p_checkRules := mk_p_checkRules ⟨con_p_form, con_p_ruleOf, con_p_give, trivial⟩ fun x y hx h => ⟨LF, (F_p_checkRules_eq _ _ _ (wf_len hx.1) (wf_len hx.2.2.1) fun r hr => wf_len (hx.2.2.1.2 r hr).2.2).trans h⟩
theorem F_p_CheckRules_eq (lf : Nat) (a b : List DForm) (l : List DRule) : F_p_CheckRules lf a b l = some (S.checkRules a b l, ()) := by
  simp only [F_p_CheckRules, R_p_CheckRules_in, S.checkRules, ne_zero]
  by_cases h0 : S.first [S.checkForms a, S.checkForms b] = 0
  · rw [decide_eq_false (by simpa using h0), cond_false, if_pos h0]
  · rw [decide_eq_true h0, cond_true, if_neg h0]
theorem con_p_CheckRules : Con Try.prog id_p_CheckRules sp_p_CheckRules := mk_p_CheckRules ⟨con_p_CheckForms, con_p_first, con_p_checkRules, trivial⟩ fun x y hx h => ⟨0, (F_p_CheckRules_eq _ _ _ _).trans h⟩
theorem F_p_made_eq (lf : Nat) (g : DGive) (cols : List DCol) (l : List DVal) (b : DCol) (h : S.madePre g cols l = true) : F_p_made lf g cols l b = some ((S.made g cols l b).1, (S.made g cols l b).2, ()) := by
  simp only [F_p_made, R_p_made_in, S.made, ieqI_eq, oL, iltI_eq]
  by_cases h6 : g.2.1 = 6
  · by_cases h2 : b.2.1 = 2 <;> simp [h6, h2]
  by_cases h7 : g.2.1 = 7
  · simp [h7]
  obtain ⟨p1, p2⟩ := of_decide_eq_true h h6 h7
  obtain ⟨v, e1, e2, e3⟩ := jget_of p1 p2
  have e4 : S.src g cols l = v := by unfold S.src S.at_; rw [e2]; rfl
  rw [e1, e4]
  by_cases h2 : g.2.1 = 2
  · simp [h2]
  by_cases h3 : g.2.1 = 3
  · simp [h3]
  by_cases h4 : g.2.1 = 4
  · simp [h4]
  by_cases h5 : g.2.1 = 5
  · simp [h5]
  simp [h6, h7, h2, h3, h4, h5]
theorem con_p_made : Con Try.prog id_p_made sp_p_made := mk_p_made ⟨con_p_col, con_p_within, trivial⟩ fun x y hx h => ⟨0, by
  have h : cond (S.madePre x.1 x.2.1 x.2.2.1) (some ((S.made x.1 x.2.1 x.2.2.1 x.2.2.2.1).1, (S.made x.1 x.2.1 x.2.2.1 x.2.2.2.1).2, ())) none = some y := h
  cases hr : S.madePre x.1 x.2.1 x.2.2.1 with
  | false => rw [hr] at h; cases h
  | true => rw [hr] at h; exact (F_p_made_eq _ _ _ _ _ hr).trans h⟩
end Go.Proofs.Ytcnhjofpmpipfaa
end

/- The contract of pack.Convert; what right rules are. -/
section
set_option linter.unusedVariables false
set_option maxRecDepth 100000
namespace Go.Proofs.Ytcnhjofpmpipfaa
open Go Go.Sx Go.RowKit Go.Jx
structure RulesOK (a b : List DForm) (l : List DRule) : Prop where
  len : l.length ≤ 24
  has : ∀ r ∈ l, 0 ≤ S.form a r.1 ∧ 0 ≤ S.form b r.2.1
  one : ∀ k (h : k < l.length), (S.ruleOf (l.take k) l[k].1).2 = false
  all : ∀ f ∈ a, (S.ruleOf l f.1).2 = true
  glen : ∀ r ∈ l, r.2.2.length = (S.colsOf b r.2.1).length
  gok : ∀ r ∈ l, ∀ k (h : k < r.2.2.length) (h' : k < (S.colsOf b r.2.1).length), S.give l r.2.2[k] (S.colsOf a r.1) (S.colsOf b r.2.1)[k] = 0
theorem crGives_iff (l : List DRule) (was : List DCol) : ∀ (now : List DCol) (gs : List DGive), gs.length = now.length → (S.crGives l was now gs = 0 ↔ ∀ k (h : k < gs.length) (h' : k < now.length), S.give l gs[k] was now[k] = 0)
  | [], [], _ => by simp [S.crGives]
  | [], g :: gs, h => by simp at h
  | c :: now, [], h => by simp at h
  | c :: now, g :: gs, h => by
    rw [S.crGives]
    have ih := crGives_iff l was now gs (by simpa using h)
    by_cases h0 : S.give l g was c = 0
    · rw [if_pos h0, ih]
      constructor
      · intro hk k h1 h2
        cases k with
        | zero => exact h0
        | succ k => exact hk k (by simpa using h1) (by simpa using h2)
      · intro hk k h1 h2
        exact hk (k + 1) (by simpa using h1) (by simpa using h2)
    · rw [if_neg h0]
      constructor
      · intro h1; exact absurd h1 h0
      · intro hk; exact absurd (hk 0 (by simp) (by simp)) h0
theorem crGo3_iff (a b : List DForm) (l : List DRule) : ∀ (rs : List DRule), S.crGo3 a b l rs = 0 ↔ ∀ r ∈ rs, r.2.2.length = (S.colsOf b r.2.1).length ∧ S.crGives l (S.colsOf a r.1) (S.colsOf b r.2.1) r.2.2 = 0
  | [] => by simp [S.crGo3]
  | r :: rs => by
    rw [S.crGo3]
    have ih := crGo3_iff a b l rs
    by_cases h1 : r.2.2.length = (S.colsOf b r.2.1).length
    · rw [if_pos h1]
      by_cases h2 : S.crGives l (S.colsOf a r.1) (S.colsOf b r.2.1) r.2.2 = 0
      · rw [if_pos h2, ih]; simp [h1, h2]
      · rw [if_neg h2]; simp [h2]
    · rw [if_neg h1]; simp [h1]
theorem crGo2_iff (a b : List DForm) (l : List DRule) : ∀ (fs : List DForm), S.crGo2 a b l fs = 0 ↔ (∀ f ∈ fs, (S.ruleOf l f.1).2 = true) ∧ S.crGo3 a b l l = 0
  | [] => by simp [S.crGo2]
  | f :: fs => by
    rw [S.crGo2]
    have ih := crGo2_iff a b l fs
    cases h1 : (S.ruleOf l f.1).2 with
    | true => rw [if_pos rfl, ih]; simp [h1]
    | false => rw [if_neg (by simp)]; simp [h1]
theorem crGo_iff (a b : List DForm) (l : List DRule) : ∀ (rest : List DRule) (k : Nat), l.drop k = rest → (S.crGo a b l k rest = 0 ↔ (∀ j (h : j < l.length), k ≤ j → 0 ≤ S.form a l[j].1 ∧ 0 ≤ S.form b l[j].2.1 ∧ (S.ruleOf (l.take j) l[j].1).2 = false) ∧ S.crGo2 a b l a = 0)
  | [], k, hd => by
    rw [S.crGo]
    have : l.length ≤ k := by simpa using hd
    constructor
    · intro h; exact ⟨fun j h1 h2 => by omega, h⟩
    · intro h; exact h.2
  | r :: rs, k, hd => by
    have hk : k < l.length := by
      rcases Nat.lt_or_ge k l.length with h | h
      · exact h
      · rw [List.drop_eq_nil_of_le h] at hd; cases hd
    have hr : l[k] = r := by rw [List.drop_eq_getElem_cons hk] at hd; exact (List.cons.inj hd).1
    have hd' : l.drop (k + 1) = rs := by rw [List.drop_eq_getElem_cons hk] at hd; exact (List.cons.inj hd).2
    have ih := crGo_iff a b l rs (k + 1) hd'
    rw [S.crGo]
    by_cases h1 : S.form a r.1 < 0
    · rw [if_pos h1]
      constructor
      · intro h; cases h
      · intro h; have := (h.1 k hk (Nat.le_refl _)).1; rw [hr] at this; omega
    by_cases h2 : S.form b r.2.1 < 0
    · rw [if_neg h1, if_pos h2]
      constructor
      · intro h; cases h
      · intro h; have := (h.1 k hk (Nat.le_refl _)).2.1; rw [hr] at this; omega
    rw [if_neg h1, if_neg h2]
    cases h3 : (S.ruleOf (l.take k) r.1).2 with
    | true =>
      rw [if_pos rfl]
      constructor
      · intro h; cases h
      · intro h; have := (h.1 k hk (Nat.le_refl _)).2.2; rw [hr, h3] at this; cases this
    | false =>
      rw [if_neg (by simp), ih]
      constructor
      · rintro ⟨h, h'⟩
        refine ⟨fun j hj hkj => ?_, h'⟩
        by_cases e : j = k
        · subst e; rw [hr]; exact ⟨by omega, by omega, h3⟩
        · exact h j hj (by omega)
      · rintro ⟨h, h'⟩
        exact ⟨fun j hj hkj => h j hj (by omega), h'⟩
theorem rulesOK_iff (a b : List DForm) (l : List DRule) : S.checkRules0 a b l = 0 ↔ RulesOK a b l := by
  unfold S.checkRules0
  by_cases h24 : 24 < l.length
  · rw [if_pos h24]
    exact ⟨fun h => (by cases h), fun h => (by have := h.len; omega)⟩
  rw [if_neg h24, crGo_iff a b l l 0 rfl, crGo2_iff, crGo3_iff]
  constructor
  · rintro ⟨h1, h2, h3⟩
    refine ⟨by omega, fun r hr => ?_, fun k hk => (h1 k hk (Nat.zero_le _)).2.2, h2, fun r hr => (h3 r hr).1, fun r hr => (crGives_iff _ _ _ _ (h3 r hr).1).1 (h3 r hr).2⟩
    obtain ⟨k, hk, rfl⟩ := List.mem_iff_getElem.1 hr
    exact ⟨(h1 k hk (Nat.zero_le _)).1, (h1 k hk (Nat.zero_le _)).2.1⟩
  · intro h
    exact ⟨fun j hj _ => ⟨(h.has _ (List.getElem_mem hj)).1, (h.has _ (List.getElem_mem hj)).2, h.one j hj⟩, h.all, fun r hr => ⟨h.glen r hr, (crGives_iff _ _ _ _ (h.glen r hr)).2 (h.gok r hr)⟩⟩
theorem ruleOf_mem {l : List DRule} {c : ByteArray} (h : (S.ruleOf l c).2 = true) : (S.ruleOf l c).1 ∈ l ∧ (S.ruleOf l c).1.1 = c := by
  unfold S.ruleOf at h ⊢
  cases hf : l.find? (fun r => keqS r.1 c) with
  | none => rw [hf] at h; cases h
  | some r =>
    have hk : keqS r.1 c = true := List.find?_some (p := fun r : DRule => keqS r.1 c) hf
    exact ⟨List.mem_of_find?_eq_some hf, of_decide_eq_true hk⟩
theorem give_pre {l : List DRule} {g : DGive} {cols : List DCol} {b : DCol} (h : S.give l g cols b = 0) : S.within g.2.1 1 7 = true ∧ (S.within g.2.1 1 5 = true → 0 ≤ S.col cols g.1) := by
  unfold S.give at h
  split at h
  · cases h
  rename_i h1
  split at h
  · cases h
  rename_i h2
  simp only [not_or] at h2
  refine ⟨by simpa using h2.1, fun hw => ?_⟩
  rcases Int.lt_or_le (S.col cols g.1) 0 with h3 | h3
  · exact absurd ⟨hw, h3⟩ h1
  · exact h3
theorem col_lt (cols : List DCol) (n : ByteArray) (h : 0 ≤ S.col cols n) : S.col cols n < cols.length := by
  obtain ⟨c, _, _, _, _, h5, _⟩ := S.idx_get (p := fun c : DCol => keqS c.1 n) (l := cols) h
  exact h5
theorem made_pre {l : List DRule} {g : DGive} {cols : List DCol} {b : DCol} {vs : List DVal} (h : S.give l g cols b = 0) (hv : vs.length = cols.length) : S.madePre g cols vs = true := by
  obtain ⟨h1, h2⟩ := give_pre h
  unfold S.madePre
  refine decide_eq_true fun h6 h7 => ?_
  have h5 : S.within g.2.1 1 5 = true := by
    simp only [S.within, Bool.and_eq_true, decide_eq_true_eq] at h1 ⊢
    omega
  have := col_lt cols g.1 (h2 h5)
  exact ⟨h2 h5, by rw [hv]; exact this⟩
theorem typed_len {l : List DForm} {g : DGraph} : ∀ {ns : List DNode}, S.typed l g ns = true → ∀ n ∈ ns, n.2.length = (S.colsOf l n.1).length ∧ S.suitsAll g (S.colsOf l n.1) n.2 = true
  | [], _, n, hn => by cases hn
  | m :: ns, h, n, hn => by
    rw [S.typed] at h
    split at h
    · rename_i h1
      split at h
      · rename_i h2
        rcases List.mem_cons.1 hn with rfl | hn
        · exact ⟨h1, h2⟩
        · exact typed_len h n hn
      · cases h
    · cases h
/-- A right graph of classes. -/
structure GraphOK (l : List DForm) (g : DGraph) : Prop where
  formed : S.formed g = 0
  has : ∀ n ∈ g.1, 0 ≤ S.form l n.1
  typed : S.typed l g g.1 = true
theorem graphOK_iff (l : List DForm) (g : DGraph) : S.check l g = 0 ↔ GraphOK l g := by
  unfold S.check
  by_cases h0 : S.formed g = 0
  · rw [if_neg (by simpa using h0)]
    cases hb : g.1.any (fun n => decide (S.form l n.1 < 0)) with
    | true =>
      rw [if_pos rfl]
      refine ⟨fun h => (by cases h), fun h => ?_⟩
      obtain ⟨n, h1, h2⟩ := List.any_eq_true.1 hb
      have := h.has n h1
      have := of_decide_eq_true h2
      omega
    | false =>
      rw [if_neg (by simp)]
      rw [List.any_eq_false] at hb
      have hh : ∀ n ∈ g.1, 0 ≤ S.form l n.1 := fun n hn => by have := hb n hn; simpa using this
      unfold S.unlessE
      cases ht : S.typed l g g.1 with
      | true => exact ⟨fun _ => ⟨h0, hh, ht⟩, fun _ => rfl⟩
      | false => exact ⟨fun h => (by cases h), fun h => (by have := h.typed; rw [ht] at this; cases this)⟩
  · rw [if_pos h0]
    exact ⟨fun h => absurd h h0, fun h => absurd h.formed h0⟩
theorem ble_mul {n b : Nat} (h : (n + 1) * b ≤ 140737488355328) : Nat.ble (Nat.mul (Nat.add n 1) b) 140737488355328 = true := Nat.ble_eq_true_of_le h
theorem cv_inner (a b : List DForm) (l : List DRule) (g : DGraph) (K9 : Int × List DNode → Option Rt_p_Convert) (colsA colsB : List DCol) (vs : List DVal) (c : ByteArray) (i : Nat) (acc : List DNode) (hB : colsB.length * 40 ≤ 140737488355328) (hacc : (acc.length + 1) * 40 ≤ 140737488355328)
    (hlen : (S.ruleOf l c).1.2.2.length = colsB.length) (hpre : ∀ k (h : k < (S.ruleOf l c).1.2.2.length), S.madePre (S.ruleOf l c).1.2.2[k] colsA vs = true) :
    G_p_Convert_15 LF a b l g K9 LF (colsA, vs, colsB, c, Int.ofNat 0, [], Int.ofNat i, Int.ofNat i, acc) = match S.cvIn colsA vs (S.ruleOf l c).1.2.2 colsB [] with
      | (some ws, _) => K9 (IntKind.i64.wrap (Int.add (Int.ofNat i) (Int.ofNat 1)), acc ++ [((S.ruleOf l c).1.2.1, ws)])
      | (none, d) => some (S.zGraph, (Int.ofNat i, d), 10, ()) := by
  have hBl : colsB.length < LF := by unfold LF; omega
  refine range0 (σ := List DVal) (R := Rt_p_Convert) colsB (fun k s => (colsA, vs, colsB, c, k, s, Int.ofNat i, Int.ofNat i, acc)) (fun k s => s.length = k) (fun rest k s => match S.cvIn colsA vs ((S.ruleOf l c).1.2.2.drop k) rest s with
      | (some ws, _) => K9 (IntKind.i64.wrap (Int.add (Int.ofNat i) (Int.ofNat 1)), acc ++ [((S.ruleOf l c).1.2.1, ws)])
      | (none, d) => some (S.zGraph, (Int.ofNat i, d), 10, ())) hBl (fun K s hI => ?_) (fun K k col rest s hI r h => ?_) [] rfl
  · have : S.cvIn colsA vs ((S.ruleOf l c).1.2.2.drop colsB.length) [] s = (some s, S.lit []) := by unfold S.cvIn; split <;> simp_all
    simp only [R_p_Convert_15, ilt_self, cond_false, this, ble_mul hacc, cond_true]
    rfl
  · have hk : k < (S.ruleOf l c).1.2.2.length := by rw [hlen]; exact r.lt
    have hj : jget (S.ruleOf l c).1.2.2 (Int.ofNat k) = some (S.ruleOf l c).1.2.2[k] := by rw [jget_nat]; exact List.getElem?_eq_getElem hk
    rw [List.drop_eq_getElem_cons hk, S.cvIn]
    simp only [R_p_Convert_15, r.ilt, r.get, r.next, cond_true, hj, Prod.eta, hpre k hk]
    cases hm : (S.made (S.ruleOf l c).1.2.2[k] colsA vs col).2 with
    | true =>
      rw [Bool.not_true, cond_false, if_pos rfl]
      have hs := h (s ++ [(S.made (S.ruleOf l c).1.2.2[k] colsA vs col).1]) (by simp [hI])
      have hb : Nat.ble (Nat.mul (Nat.add s.length 1) 16) 140737488355328 = true := ble_mul (by have := r.lt; rw [hI]; omega)
      rw [hb, cond_true]
      exact hs
    | false =>
      rw [Bool.not_false, cond_true, if_neg (by simp)]
      rfl
theorem F_p_Convert_eq (a b : List DForm) (l : List DRule) (g : DGraph) (hb : ∀ f ∈ b, f.2.length * 40 ≤ 140737488355328) : F_p_Convert LF a b l g = some ((S.convert a b l g).1, (S.convert a b l g).2.1, (S.convert a b l g).2.2, ()) := by
  have f1 : S.first [S.checkRules a b l] = S.checkRules a b l := by
    simp only [S.first]; split <;> simp_all
  simp only [F_p_Convert, R_p_Convert_in, S.convert, f1, ne_zero, Prod.eta]
  by_cases h0 : ¬ S.checkRules a b l = 0
  · rw [decide_eq_true h0, cond_true, if_pos h0]; rfl
  have h0 := Decidable.not_not.1 h0
  rw [decide_eq_false (by simpa using h0), cond_false, if_neg (by simpa using h0)]
  by_cases h1 : ¬ S.check a g = 0
  · rw [decide_eq_true h1, cond_true, if_pos h1]; rfl
  have h1 := Decidable.not_not.1 h1
  rw [decide_eq_false (by simpa using h1), cond_false, if_neg (by simpa using h1)]
  have h0' : S.checkRules0 a b l = 0 := by
    unfold S.checkRules at h0
    split at h0
    · exact h0
    · contradiction
  have hR := (rulesOK_iff a b l).1 h0'
  have hG := (graphOK_iff a g).1 h1
  obtain ⟨hn, _, _, _, _⟩ := formed_zero hG.formed
  have hnl : g.1.length < LF := by unfold LF; omega
  refine range0 (σ := List DNode) (R := Rt_p_Convert) g.1 (fun k s => (k, s)) (fun k s => s.length = k) (fun rest k s => some ((S.cvGo a b l g.2 k rest s).1, (S.cvGo a b l g.2 k rest s).2.1, (S.cvGo a b l g.2 k rest s).2.2, ())) hnl (fun K s hI => ?_) (fun K k n rest s hI r h => ?_) [] rfl
  · simp only [R_p_Convert_9, ilt_self, cond_false]; rfl
  · obtain ⟨fa, a1, a2, a3, a4⟩ := form_get (hG.has n r.mem)
    have hru : (S.ruleOf l n.1).2 = true := by rw [← a4]; exact hR.all fa a3
    obtain ⟨m1, m2⟩ := ruleOf_mem hru
    obtain ⟨fb, b1, b2, b3, b4⟩ := form_get (hR.has _ m1).2
    simp only [R_p_Convert_9, r.ilt, r.get, cond_true, a1, b1]
    have hgl := hR.glen _ m1
    have hvl : n.2.length = (S.colsOf a n.1).length := (typed_len hG.typed n r.mem).1
    refine (cv_inner a b l g K fa.2 fb.2 n.2 n.1 k s (hb fb b3) (by have := r.lt; rw [hI]; omega) (by rw [hgl, b2]) fun j hj => ?_).trans ?_
    · have := hR.gok _ m1 j hj (by rw [← hgl]; exact hj)
      rw [m2] at this
      rw [← a2]
      exact made_pre this hvl
    · rw [S.cvGo]
      simp only [a2, b2]
      cases hcv : S.cvIn fa.2 n.2 (S.ruleOf l n.1).1.2.2 fb.2 [] with
      | mk o d =>
        cases o with
        | none => rfl
        | some ws =>
          simp only
          rw [r.next]
          exact h _ (by simp [hI])
theorem con_p_Convert : Con Try.prog id_p_Convert sp_p_Convert := mk_p_Convert ⟨con_p_CheckRules, con_p_check, con_p_first, con_slices_Clone_Val, con_p_ruleOf, con_p_form, con_p_made, trivial⟩ fun x y hx h => ⟨LF, (F_p_Convert_eq _ _ _ _ fun f hf => (hx.2.1.2 f hf).2.1).trans h⟩
end Go.Proofs.Ytcnhjofpmpipfaa
end

/- Made by program: plain forms of functions. -/
section
set_option linter.unusedVariables false
set_option maxRecDepth 100000
noncomputable section
namespace Go.Proofs.Ytcnhjofpmpipfaa
open Go Go.Sx Go.RowKit Go.Jx
def nm_l_fewForms : Nat → Option Nm := fun k => cond (Nat.beq k 2) (some ⟨[0, 3], [], [], [], [], 0, 0, false⟩) (cond (Nat.beq k 8) (some ⟨[0, 3, 4, 5], [], [], [], [], 0, 0, false⟩) (none))
def st_l_fewForms : Nat → Bool := fun k => cond (Nat.beq k 2) true (cond (Nat.beq k 8) true (false))
def hd_l_fewForms : Nat → Bool := fun k => cond (Nat.beq k 2) true (cond (Nat.beq k 8) true (false))
abbrev Rt_l_fewForms : Type := Bool × Unit
def sml_l_fewForms : List (Nat × Sm) := []
def hxl_l_fewForms : List (Nat × Hx) := []
def cl_l_fewForms (R : Type) (lf : Nat) : ClK R := icallK Try.prog ttT.get ftT.get (nm1 13 nm_l_fewForms) (smL sml_l_fewForms) (hxL hxl_l_fewForms) lf 20 R
abbrev id_l_fewForms : Nat := 13
def enc_l_fewForms_2 (x1 : (List DForm)) (p : Int) : NRes := (NRes.mk (PT.node (some (IV.lst cForm x1)) (PT.node none (PT.node (some (IV.int Go.IntKind.i64 p)) PT.leaf PT.leaf) PT.leaf) PT.leaf) (IS.mk PT.leaf 0) [] 0)
def enc_l_fewForms_8 (x1 : (List DForm)) (p : Int × Int × Int) : NRes := (NRes.mk (PT.node (some (IV.lst cForm x1)) (PT.node none (PT.node (some (IV.int Go.IntKind.i64 p.2.2)) PT.leaf PT.leaf) (PT.node (some (IV.int Go.IntKind.i64 p.2.1)) PT.leaf PT.leaf)) (PT.node none (PT.node (some (IV.int Go.IntKind.i64 p.1)) PT.leaf PT.leaf) PT.leaf)) (IS.mk PT.leaf 0) [] 0)
def R_l_fewForms_in (lf : Nat) (x1 : (List DForm)) (L2 : Int → Option Rt_l_fewForms) : Option Rt_l_fewForms := (L2 (Int.ofNat 0))
def R_l_fewForms_2 (lf : Nat) (x1 : (List DForm)) (L8 : (Int × Int × Int) → Option Rt_l_fewForms) (p : Int) : Option Rt_l_fewForms := (cond (iltI p (Int.ofNat (List.length x1))) (match (jget x1 p) with | .none  => none | .some v0 => (match (jget x1 p) with | .none  => none | .some v1 => (cond (iltI (Int.ofNat 30) (Int.ofNat (ByteArray.size v1.1))) (some (Bool.false, ())) (cond (iltI (Int.ofNat 6) (Int.ofNat (List.length v0.2))) (cond (Bool.not (iltI (Int.ofNat 30) (Int.ofNat (List.length v0.2)))) (some (Bool.false, ())) (cond (iltI (Int.ofNat 40) (Int.ofNat (List.length v0.2))) (some (Bool.false, ())) (L8 ((Int.ofNat (List.length v0.2)), (Int.ofNat 0), p)))) (cond (iltI (Int.ofNat 40) (Int.ofNat (List.length v0.2))) (some (Bool.false, ())) (L8 ((Int.ofNat (List.length v0.2)), (Int.ofNat 0), p))))))) (cond (Bool.not (iltI (Int.ofNat 6) (Int.ofNat (List.length x1)))) (some (Bool.true, ())) (cond (iltI (Int.ofNat 24) (Int.ofNat (List.length x1))) (some ((Bool.not (iltI (Int.ofNat 30) (Int.ofNat (List.length x1)))), ())) (some (Bool.false, ())))))
def R_l_fewForms_8 (lf : Nat) (x1 : (List DForm)) (L8 : (Int × Int × Int) → Option Rt_l_fewForms) (L2 : Int → Option Rt_l_fewForms) (p : Int × Int × Int) : Option Rt_l_fewForms := (cond (iltI p.2.1 p.1) (match (jget x1 p.2.2) with | .none  => none | .some v0 => (match (jget v0.2 p.2.1) with | .none  => none | .some v1 => (cond (iltI (Int.ofNat 30) (Int.ofNat (ByteArray.size v1.1))) (some (Bool.false, ())) (match (jget x1 p.2.2) with | .none  => none | .some v2 => (match (jget v2.2 p.2.1) with | .none  => none | .some v3 => (cond (iltI (Int.ofNat 30) (Int.ofNat (ByteArray.size v3.2.2))) (some (Bool.false, ())) (L8 (p.1, (Go.IntKind.wrap Go.IntKind.i64 (Int.add p.2.1 (Int.ofNat 1))), p.2.2)))))))) (L2 (Go.IntKind.wrap Go.IntKind.i64 (Int.add p.2.2 (Int.ofNat 1)))))
theorem in_l_fewForms (g : ElA [(.list cForm)] → Option Rt_l_fewForms) (J : Nat → List Nat → NRes → Option Rt_l_fewForms) (lf : Nat) (x1 : (List DForm)) : icodeT Try.prog ttT.get nm_l_fewForms fi13.nt (cl_l_fewForms _ lf) lf st_l_fewForms J fi13.body [] (argGo (argV [(.list cForm)] (x1, ())) 0 .leaf) S0 [] (lastK ttT.get fi13 ⟨[(.list cForm)], [(false, .bool)], g⟩) = R_l_fewForms_in lf x1 (fun q => J 2 [lf] (enc_l_fewForms_2 x1 q)) := by kernel_rfl
theorem st_l_fewForms_2 (g : ElA [(.list cForm)] → Option Rt_l_fewForms) (J : Nat → List Nat → NRes → Option Rt_l_fewForms) (lf : Nat) (x1 : (List DForm)) (m1 : Nat) (p : Int) : icodeFT Try.prog ttT.get nm_l_fewForms fi13.nt (cl_l_fewForms _ lf) lf st_l_fewForms J 2 fi13.body [] [m1] (enc_l_fewForms_2 x1 p) (lastK ttT.get fi13 ⟨[(.list cForm)], [(false, .bool)], g⟩) = R_l_fewForms_2 lf x1 (fun q => J 8 [m1, lf] (enc_l_fewForms_8 x1 q)) p := by kernel_rfl
theorem st_l_fewForms_8 (g : ElA [(.list cForm)] → Option Rt_l_fewForms) (J : Nat → List Nat → NRes → Option Rt_l_fewForms) (lf : Nat) (x1 : (List DForm)) (m1 : Nat) (m2 : Nat) (p : Int × Int × Int) : icodeFT Try.prog ttT.get nm_l_fewForms fi13.nt (cl_l_fewForms _ lf) lf st_l_fewForms J 8 fi13.body [] [m1, m2] (enc_l_fewForms_8 x1 p) (lastK ttT.get fi13 ⟨[(.list cForm)], [(false, .bool)], g⟩) = R_l_fewForms_8 lf x1 (fun q => J 8 [m1, m2] (enc_l_fewForms_8 x1 q)) (fun q => J 2 [m1] (enc_l_fewForms_2 x1 q)) p := by kernel_rfl
theorem nd_l_fewForms : (regs fi13.body).Nodup := by decide +kernel
theorem ok_l_fewForms : okC nm_l_fewForms st_l_fewForms hd_l_fewForms fi13.body none = true := by kernel_rfl
def A_l_fewForms (g : ElA [(.list cForm)] → Option Rt_l_fewForms) (lf : Nat) : Nat → List Nat → NRes → Option Rt_l_fewForms := atN Try.prog ttT.get nm_l_fewForms fi13 ⟨[(.list cForm)], [(false, .bool)], g⟩ (cl_l_fewForms _ lf) lf hd_l_fewForms
def G_l_fewForms_8 (lf : Nat) (x1 : (List DForm)) (K2 : Int → Option Rt_l_fewForms) : Nat → (Int × Int × Int) → Option Rt_l_fewForms := rounds fun K p => R_l_fewForms_8 lf x1 K K2 p
theorem at_l_fewForms_8 (g : ElA [(.list cForm)] → Option Rt_l_fewForms) (lf : Nat) (x1 : (List DForm)) (m1 : Nat) : ∀ (n : Nat) (p : Int × Int × Int), A_l_fewForms g lf 8 [m1, n] (enc_l_fewForms_8 x1 p) = G_l_fewForms_8 lf x1 (fun q => A_l_fewForms g lf 2 [m1] (enc_l_fewForms_2 x1 q)) n p
  | 0, p => atN_zero 8 [m1, 0] rfl _
  | n + 1, p => by
    have ih := at_l_fewForms_8 g lf x1 m1 n
    refine (atN_eq (icallK_eq 20 _) nd_l_fewForms ok_l_fewForms 8 [m1, n + 1] [m1, n] rfl _).trans ((st_l_fewForms_8 g (A_l_fewForms g lf) lf x1 m1 n p).trans ?_)
    rw [(show (fun q => A_l_fewForms g lf 8 [m1, n] (enc_l_fewForms_8 x1 q)) = (fun q => G_l_fewForms_8 lf x1 (fun q => A_l_fewForms g lf 2 [m1] (enc_l_fewForms_2 x1 q)) n q) from funext ih)]
    rfl
def G_l_fewForms_2 (lf : Nat) (x1 : (List DForm)) : Nat → (Int) → Option Rt_l_fewForms := rounds fun K p => R_l_fewForms_2 lf x1 (fun q => G_l_fewForms_8 lf x1 K lf q) p
theorem at_l_fewForms_2 (g : ElA [(.list cForm)] → Option Rt_l_fewForms) (lf : Nat) (x1 : (List DForm)) : ∀ (n : Nat) (p : Int), A_l_fewForms g lf 2 [n] (enc_l_fewForms_2 x1 p) = G_l_fewForms_2 lf x1 n p
  | 0, p => atN_zero 2 [0] rfl _
  | n + 1, p => by
    have ih := at_l_fewForms_2 g lf x1 n
    refine (atN_eq (icallK_eq 20 _) nd_l_fewForms ok_l_fewForms 2 [n + 1] [n] rfl _).trans ((st_l_fewForms_2 g (A_l_fewForms g lf) lf x1 n p).trans ?_)
    rw [(show (fun q => A_l_fewForms g lf 8 [n, lf] (enc_l_fewForms_8 x1 q)) = (fun q => G_l_fewForms_8 lf x1 (fun q => A_l_fewForms g lf 2 [n] (enc_l_fewForms_2 x1 q)) lf q) from funext fun q => at_l_fewForms_8 g lf x1 n lf q), (show (fun q => A_l_fewForms g lf 2 [n] (enc_l_fewForms_2 x1 q)) = (fun q => G_l_fewForms_2 lf x1 n q) from funext ih)]
    rfl
def F_l_fewForms (lf : Nat) (x1 : (List DForm)) : Option Rt_l_fewForms := R_l_fewForms_in lf x1 (fun q => G_l_fewForms_2 lf x1 lf q)
theorem run_l_fewForms (g : ElA [(.list cForm)] → Option Rt_l_fewForms) (lf : Nat) (x1 : (List DForm)) : icodeT Try.prog ttT.get nm_l_fewForms fi13.nt (cl_l_fewForms _ lf) lf st_l_fewForms (A_l_fewForms g lf) fi13.body [] (argGo (argV [(.list cForm)] (x1, ())) 0 .leaf) S0 [] (lastK ttT.get fi13 ⟨[(.list cForm)], [(false, .bool)], g⟩) = F_l_fewForms lf x1 := by
    refine (in_l_fewForms g (A_l_fewForms g lf) lf x1).trans ?_
    rw [(show (fun q => A_l_fewForms g lf 2 [lf] (enc_l_fewForms_2 x1 q)) = (fun q => G_l_fewForms_2 lf x1 lf q) from funext fun q => at_l_fewForms_2 g lf x1 lf q)]
    rfl
theorem hxs_l_fewForms : HxsOK Try.prog hxl_l_fewForms := trivial
theorem mk_l_fewForms {g : ElA [(.list cForm)] → Option Rt_l_fewForms} (hsm : SmOK Try.prog sml_l_fewForms) (hg : ∀ (x : ElA [(.list cForm)]) (y : Rt_l_fewForms), WfA [(.list cForm)] x → g x = some y → ∃ lf, F_l_fewForms lf x.1 = some y) : Con Try.prog 13 ⟨[(.list cForm)], [(false, .bool)], g⟩ :=
  conT (nmf := nm_l_fewForms) (sml := sml_l_fewForms) (hxl := hxl_l_fewForms) (st := st_l_fewForms) (hd := hd_l_fewForms) 20 mixed ttOK ftOK hsm hxs_l_fewForms cal13 rfl rfl (by kernel_rfl) (fun x => by kernel_rfl) nd_l_fewForms ok_l_fewForms fun x y hx hy => by
    obtain ⟨lf, h⟩ := hg x y hx hy
    exact ⟨lf, (run_l_fewForms g lf x.1).trans h⟩
def nm_l_few : Nat → Option Nm := fun k => cond (Nat.beq k 3) (some ⟨[1, 3, 4], [], [], [], [], 0, 0, false⟩) (none)
def st_l_few : Nat → Bool := fun k => cond (Nat.beq k 3) true (false)
def hd_l_few : Nat → Bool := fun k => cond (Nat.beq k 3) true (false)
abbrev Rt_l_few : Type := Bool × Unit
def sml_l_few : List (Nat × Sm) := []
def hxl_l_few : List (Nat × Hx) := []
def cl_l_few (R : Type) (lf : Nat) : ClK R := icallK Try.prog ttT.get ftT.get (nm1 14 nm_l_few) (smL sml_l_few) (hxL hxl_l_few) lf 20 R
abbrev id_l_few : Nat := 14
def enc_l_few_3 (x1 : DGraph) (p : Int) : NRes := (NRes.mk (PT.node none (PT.node (some (IV.ptr 0 0)) (PT.node (some (IV.int Go.IntKind.i64 (Int.ofNat (List.length x1.1)))) PT.leaf PT.leaf) PT.leaf) (PT.node none (PT.node (some (IV.int Go.IntKind.i64 p)) PT.leaf PT.leaf) PT.leaf)) (IS.mk (PT.node (some (IObj.row (List.cons (IV.lst cNode x1.1) (List.cons (IV.lst cVal x1.2) [])))) PT.leaf PT.leaf) 1) [] 0)
def R_l_few_in (lf : Nat) (x1 : DGraph) (L3 : Int → Option Rt_l_few) : Option Rt_l_few := (L3 (Int.ofNat 0))
def R_l_few_3 (lf : Nat) (x1 : DGraph) (L3 : Int → Option Rt_l_few) (p : Int) : Option Rt_l_few := (cond (iltI p (Int.ofNat (List.length x1.1))) (match (jget x1.1 p) with | .none  => none | .some v0 => (cond (iltI (Int.ofNat 8) (Int.ofNat (List.length v0.2))) (cond (Bool.not (iltI (Int.ofNat 30) (Int.ofNat (List.length v0.2)))) (some (Bool.false, ())) (cond (iltI (Int.ofNat 40) (Int.ofNat (List.length v0.2))) (some (Bool.false, ())) (L3 (Go.IntKind.wrap Go.IntKind.i64 (Int.add p (Int.ofNat 1)))))) (cond (iltI (Int.ofNat 40) (Int.ofNat (List.length v0.2))) (some (Bool.false, ())) (L3 (Go.IntKind.wrap Go.IntKind.i64 (Int.add p (Int.ofNat 1))))))) (cond (Bool.not (iltI (Int.ofNat 30) (Int.ofNat (List.length x1.1)))) (cond (Bool.not (iltI (Int.ofNat 10) (Int.ofNat (List.length x1.2)))) (some (Bool.true, ())) (cond (iltI (Int.ofNat 60) (Int.ofNat (List.length x1.2))) (some ((Bool.not (iltI (Int.ofNat 70) (Int.ofNat (List.length x1.2)))), ())) (some (Bool.false, ())))) (cond (iltI (Int.ofNat 400) (Int.ofNat (List.length x1.1))) (cond (Bool.not (iltI (Int.ofNat 410) (Int.ofNat (List.length x1.1)))) (cond (Bool.not (iltI (Int.ofNat 10) (Int.ofNat (List.length x1.2)))) (some (Bool.true, ())) (cond (iltI (Int.ofNat 60) (Int.ofNat (List.length x1.2))) (some ((Bool.not (iltI (Int.ofNat 70) (Int.ofNat (List.length x1.2)))), ())) (some (Bool.false, ())))) (some (Bool.false, ()))) (some (Bool.false, ())))))
theorem in_l_few (g : ElA [cGraph] → Option Rt_l_few) (J : Nat → List Nat → NRes → Option Rt_l_few) (lf : Nat) (x1 : DGraph) : icodeT Try.prog ttT.get nm_l_few fi14.nt (cl_l_few _ lf) lf st_l_few J fi14.body [] (argGo (argV [cGraph] (x1, ())) 0 .leaf) S0 [] (lastK ttT.get fi14 ⟨[cGraph], [(false, .bool)], g⟩) = R_l_few_in lf x1 (fun q => J 3 [lf] (enc_l_few_3 x1 q)) := by kernel_rfl
theorem st_l_few_3 (g : ElA [cGraph] → Option Rt_l_few) (J : Nat → List Nat → NRes → Option Rt_l_few) (lf : Nat) (x1 : DGraph) (m1 : Nat) (p : Int) : icodeFT Try.prog ttT.get nm_l_few fi14.nt (cl_l_few _ lf) lf st_l_few J 3 fi14.body [] [m1] (enc_l_few_3 x1 p) (lastK ttT.get fi14 ⟨[cGraph], [(false, .bool)], g⟩) = R_l_few_3 lf x1 (fun q => J 3 [m1] (enc_l_few_3 x1 q)) p := by kernel_rfl
theorem nd_l_few : (regs fi14.body).Nodup := by decide +kernel
theorem ok_l_few : okC nm_l_few st_l_few hd_l_few fi14.body none = true := by kernel_rfl
def A_l_few (g : ElA [cGraph] → Option Rt_l_few) (lf : Nat) : Nat → List Nat → NRes → Option Rt_l_few := atN Try.prog ttT.get nm_l_few fi14 ⟨[cGraph], [(false, .bool)], g⟩ (cl_l_few _ lf) lf hd_l_few
def G_l_few_3 (lf : Nat) (x1 : DGraph) : Nat → (Int) → Option Rt_l_few := rounds fun K p => R_l_few_3 lf x1 K p
theorem at_l_few_3 (g : ElA [cGraph] → Option Rt_l_few) (lf : Nat) (x1 : DGraph) : ∀ (n : Nat) (p : Int), A_l_few g lf 3 [n] (enc_l_few_3 x1 p) = G_l_few_3 lf x1 n p
  | 0, p => atN_zero 3 [0] rfl _
  | n + 1, p => by
    have ih := at_l_few_3 g lf x1 n
    refine (atN_eq (icallK_eq 20 _) nd_l_few ok_l_few 3 [n + 1] [n] rfl _).trans ((st_l_few_3 g (A_l_few g lf) lf x1 n p).trans ?_)
    rw [(show (fun q => A_l_few g lf 3 [n] (enc_l_few_3 x1 q)) = (fun q => G_l_few_3 lf x1 n q) from funext ih)]
    rfl
def F_l_few (lf : Nat) (x1 : DGraph) : Option Rt_l_few := R_l_few_in lf x1 (fun q => G_l_few_3 lf x1 lf q)
theorem run_l_few (g : ElA [cGraph] → Option Rt_l_few) (lf : Nat) (x1 : DGraph) : icodeT Try.prog ttT.get nm_l_few fi14.nt (cl_l_few _ lf) lf st_l_few (A_l_few g lf) fi14.body [] (argGo (argV [cGraph] (x1, ())) 0 .leaf) S0 [] (lastK ttT.get fi14 ⟨[cGraph], [(false, .bool)], g⟩) = F_l_few lf x1 := by
    refine (in_l_few g (A_l_few g lf) lf x1).trans ?_
    rw [(show (fun q => A_l_few g lf 3 [lf] (enc_l_few_3 x1 q)) = (fun q => G_l_few_3 lf x1 lf q) from funext fun q => at_l_few_3 g lf x1 lf q)]
    rfl
theorem hxs_l_few : HxsOK Try.prog hxl_l_few := trivial
theorem mk_l_few {g : ElA [cGraph] → Option Rt_l_few} (hsm : SmOK Try.prog sml_l_few) (hg : ∀ (x : ElA [cGraph]) (y : Rt_l_few), WfA [cGraph] x → g x = some y → ∃ lf, F_l_few lf x.1 = some y) : Con Try.prog 14 ⟨[cGraph], [(false, .bool)], g⟩ :=
  conT (nmf := nm_l_few) (sml := sml_l_few) (hxl := hxl_l_few) (st := st_l_few) (hd := hd_l_few) 20 mixed ttOK ftOK hsm hxs_l_few cal14 rfl rfl (by kernel_rfl) (fun x => by kernel_rfl) nd_l_few ok_l_few fun x y hx hy => by
    obtain ⟨lf, h⟩ := hg x y hx hy
    exact ⟨lf, (run_l_few g lf x.1).trans h⟩
def nm_l_fewRules : Nat → Option Nm := fun k => cond (Nat.beq k 2) (some ⟨[0, 3], [], [], [], [], 0, 0, false⟩) (none)
def st_l_fewRules : Nat → Bool := fun k => cond (Nat.beq k 2) true (false)
def hd_l_fewRules : Nat → Bool := fun k => cond (Nat.beq k 2) true (false)
abbrev Rt_l_fewRules : Type := Bool × Unit
def sml_l_fewRules : List (Nat × Sm) := []
def hxl_l_fewRules : List (Nat × Hx) := []
def cl_l_fewRules (R : Type) (lf : Nat) : ClK R := icallK Try.prog ttT.get ftT.get (nm1 27 nm_l_fewRules) (smL sml_l_fewRules) (hxL hxl_l_fewRules) lf 20 R
abbrev id_l_fewRules : Nat := 27
def enc_l_fewRules_2 (x1 : (List DRule)) (p : Int) : NRes := (NRes.mk (PT.node (some (IV.lst cRule x1)) (PT.node none (PT.node (some (IV.int Go.IntKind.i64 p)) PT.leaf PT.leaf) PT.leaf) PT.leaf) (IS.mk PT.leaf 0) [] 0)
def R_l_fewRules_in (lf : Nat) (x1 : (List DRule)) (L2 : Int → Option Rt_l_fewRules) : Option Rt_l_fewRules := (L2 (Int.ofNat 0))
def R_l_fewRules_2 (lf : Nat) (x1 : (List DRule)) (L2 : Int → Option Rt_l_fewRules) (p : Int) : Option Rt_l_fewRules := (cond (iltI p (Int.ofNat (List.length x1))) (match (jget x1 p) with | .none  => none | .some v0 => (cond (iltI (Int.ofNat 8) (Int.ofNat (List.length v0.2.2))) (some (Bool.false, ())) (L2 (Go.IntKind.wrap Go.IntKind.i64 (Int.add p (Int.ofNat 1)))))) (cond (Bool.not (iltI (Int.ofNat 8) (Int.ofNat (List.length x1)))) (some (Bool.true, ())) (cond (iltI (Int.ofNat 24) (Int.ofNat (List.length x1))) (some ((Bool.not (iltI (Int.ofNat 30) (Int.ofNat (List.length x1)))), ())) (some (Bool.false, ())))))
theorem in_l_fewRules (g : ElA [(.list cRule)] → Option Rt_l_fewRules) (J : Nat → List Nat → NRes → Option Rt_l_fewRules) (lf : Nat) (x1 : (List DRule)) : icodeT Try.prog ttT.get nm_l_fewRules fi27.nt (cl_l_fewRules _ lf) lf st_l_fewRules J fi27.body [] (argGo (argV [(.list cRule)] (x1, ())) 0 .leaf) S0 [] (lastK ttT.get fi27 ⟨[(.list cRule)], [(false, .bool)], g⟩) = R_l_fewRules_in lf x1 (fun q => J 2 [lf] (enc_l_fewRules_2 x1 q)) := by kernel_rfl
theorem st_l_fewRules_2 (g : ElA [(.list cRule)] → Option Rt_l_fewRules) (J : Nat → List Nat → NRes → Option Rt_l_fewRules) (lf : Nat) (x1 : (List DRule)) (m1 : Nat) (p : Int) : icodeFT Try.prog ttT.get nm_l_fewRules fi27.nt (cl_l_fewRules _ lf) lf st_l_fewRules J 2 fi27.body [] [m1] (enc_l_fewRules_2 x1 p) (lastK ttT.get fi27 ⟨[(.list cRule)], [(false, .bool)], g⟩) = R_l_fewRules_2 lf x1 (fun q => J 2 [m1] (enc_l_fewRules_2 x1 q)) p := by kernel_rfl
theorem nd_l_fewRules : (regs fi27.body).Nodup := by decide +kernel
theorem ok_l_fewRules : okC nm_l_fewRules st_l_fewRules hd_l_fewRules fi27.body none = true := by kernel_rfl
def A_l_fewRules (g : ElA [(.list cRule)] → Option Rt_l_fewRules) (lf : Nat) : Nat → List Nat → NRes → Option Rt_l_fewRules := atN Try.prog ttT.get nm_l_fewRules fi27 ⟨[(.list cRule)], [(false, .bool)], g⟩ (cl_l_fewRules _ lf) lf hd_l_fewRules
def G_l_fewRules_2 (lf : Nat) (x1 : (List DRule)) : Nat → (Int) → Option Rt_l_fewRules := rounds fun K p => R_l_fewRules_2 lf x1 K p
theorem at_l_fewRules_2 (g : ElA [(.list cRule)] → Option Rt_l_fewRules) (lf : Nat) (x1 : (List DRule)) : ∀ (n : Nat) (p : Int), A_l_fewRules g lf 2 [n] (enc_l_fewRules_2 x1 p) = G_l_fewRules_2 lf x1 n p
  | 0, p => atN_zero 2 [0] rfl _
  | n + 1, p => by
    have ih := at_l_fewRules_2 g lf x1 n
    refine (atN_eq (icallK_eq 20 _) nd_l_fewRules ok_l_fewRules 2 [n + 1] [n] rfl _).trans ((st_l_fewRules_2 g (A_l_fewRules g lf) lf x1 n p).trans ?_)
    rw [(show (fun q => A_l_fewRules g lf 2 [n] (enc_l_fewRules_2 x1 q)) = (fun q => G_l_fewRules_2 lf x1 n q) from funext ih)]
    rfl
def F_l_fewRules (lf : Nat) (x1 : (List DRule)) : Option Rt_l_fewRules := R_l_fewRules_in lf x1 (fun q => G_l_fewRules_2 lf x1 lf q)
theorem run_l_fewRules (g : ElA [(.list cRule)] → Option Rt_l_fewRules) (lf : Nat) (x1 : (List DRule)) : icodeT Try.prog ttT.get nm_l_fewRules fi27.nt (cl_l_fewRules _ lf) lf st_l_fewRules (A_l_fewRules g lf) fi27.body [] (argGo (argV [(.list cRule)] (x1, ())) 0 .leaf) S0 [] (lastK ttT.get fi27 ⟨[(.list cRule)], [(false, .bool)], g⟩) = F_l_fewRules lf x1 := by
    refine (in_l_fewRules g (A_l_fewRules g lf) lf x1).trans ?_
    rw [(show (fun q => A_l_fewRules g lf 2 [lf] (enc_l_fewRules_2 x1 q)) = (fun q => G_l_fewRules_2 lf x1 lf q) from funext fun q => at_l_fewRules_2 g lf x1 lf q)]
    rfl
theorem hxs_l_fewRules : HxsOK Try.prog hxl_l_fewRules := trivial
theorem mk_l_fewRules {g : ElA [(.list cRule)] → Option Rt_l_fewRules} (hsm : SmOK Try.prog sml_l_fewRules) (hg : ∀ (x : ElA [(.list cRule)]) (y : Rt_l_fewRules), WfA [(.list cRule)] x → g x = some y → ∃ lf, F_l_fewRules lf x.1 = some y) : Con Try.prog 27 ⟨[(.list cRule)], [(false, .bool)], g⟩ :=
  conT (nmf := nm_l_fewRules) (sml := sml_l_fewRules) (hxl := hxl_l_fewRules) (st := st_l_fewRules) (hd := hd_l_fewRules) 20 mixed ttOK ftOK hsm hxs_l_fewRules cal27 rfl rfl (by kernel_rfl) (fun x => by kernel_rfl) nd_l_fewRules ok_l_fewRules fun x y hx hy => by
    obtain ⟨lf, h⟩ := hg x y hx hy
    exact ⟨lf, (run_l_fewRules g lf x.1).trans h⟩
end Go.Proofs.Ytcnhjofpmpipfaa

end
end

/- Made by program: plain forms of functions. -/
section
set_option linter.unusedVariables false
set_option maxRecDepth 100000
noncomputable section
namespace Go.Proofs.Ytcnhjofpmpipfaa
open Go Go.Sx Go.RowKit Go.Jx
end Go.Proofs.Ytcnhjofpmpipfaa

end
end

/- The contracts of pack's chaining of rules. -/
section
set_option linter.unusedVariables false
set_option maxRecDepth 100000
namespace Go.Proofs.Ytcnhjofpmpipfaa
open Go Go.Sx Go.RowKit Go.Jx
end Go.Proofs.Ytcnhjofpmpipfaa
end
