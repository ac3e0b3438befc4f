/- Texts: Rj1, Lg1, Qg3, Qp4, Lp1, Rj2, Lk1, Lg10, Lg9, Lc1, Lk2, Lsan, Lsn, Ln7. -/
import Derived.Test.YtcnhjofpmpipfaaMg5
import Derived.Test.YtcnhjofpmpipfaaMg4
import Derived.KernelRfl
/- Contracts of Join: both sides. -/
section
set_option linter.unusedVariables false
namespace Go.Proofs.Ytcnhjofpmpipfaa
open Go Go.Sx Go.RowKit Go.Jx
theorem pj1_loop (l : List (Int × Int)) (m : Int) (hl : l.length < LF) : rounds (fun K p => R_p_Join_1_3 LF l m K p) LF (Int.ofNat 0, l) = some (S.byL l m, ()) := by
  refine range0 (α := Int × Int) (σ := List (Int × Int)) (R := Rt_p_Join_1) l (fun i s => (i, s)) (fun i s => s = (l.take i).map (S.byV m) ++ l.drop i) (fun _ _ _ => some (S.byL l m, ())) hl (fun K s hs => ?_) (fun K i v rest s hs r hk => ?_) l rfl
  · simp only [R_p_Join_1_3, ilt_self, cond_false]
    rw [hs, List.take_length, List.drop_length, List.append_nil]; rfl
  · have hlen : ((l.take i).map (S.byV m)).length = i := by rw [List.length_map, List.length_take]; have := r.lt; omega
    have hs2 : s = (l.take i).map (S.byV m) ++ v :: rest := by rw [hs, r.drop]
    have hg : s[i]? = some v := by rw [hs2, List.getElem?_append_right (by omega), hlen, Nat.sub_self]; rfl
    have hj : jget s (Int.ofNat i) = some v := by rw [jget_nat]; exact hg
    have hset : ∀ v', v' = S.byV m v → (s.set i v') = (l.take (i + 1)).map (S.byV m) ++ l.drop (i + 1) := fun v' hv => by
      rw [hs2, List.set_append_right _ _ (by omega), hlen, Nat.sub_self, r.tail, r.take, List.map_append, List.set_cons_zero, hv]
      simp
    have hsame : S.byV m v = v → s = (l.take (i + 1)).map (S.byV m) ++ l.drop (i + 1) := fun hv => by
      rw [hs2, r.tail, r.take, List.map_append]
      simp [hv]
    have e2 : Int.toNat (Int.ofNat i) = i := rfl
    have h1 := r.ilt
    simp only [R_p_Join_1_3, h1, cond_true, hj, e2, hg, r.next]
    by_cases h4 : v.1 = 4
    · have h5 : ieqI v.1 (Int.ofNat 4) = true := by rw [ieqI_eq]; exact decide_eq_true h4
      simp only [h5, cond_true]
      exact hk _ (hset _ (by unfold S.byV; rw [if_pos h4]))
    · have h5 : ieqI v.1 (Int.ofNat 4) = false := by rw [ieqI_eq]; exact decide_eq_false h4
      simp only [h5, cond_false]
      exact hk _ (hsame (by unfold S.byV; rw [if_neg h4]))
theorem F_p_Join_1_eq (l : List (Int × Int)) (m : Int) (hl : l.length < LF) : F_p_Join_1 LF l m = some (S.byL l m, ()) := by
  simp only [F_p_Join_1, R_p_Join_1_in, G_p_Join_1_3]; exact pj1_loop l m hl
theorem con_p_Join_1 : Con Try.prog id_p_Join_1 sp_p_Join_1 := mk_p_Join_1 ⟨con_slices_CloneO_Val, trivial⟩ fun x y hx h => ⟨LF, (F_p_Join_1_eq x.1 x.2.1 (wf_len hx.1)).trans h⟩
theorem flat_take {α : Type} {l : List (List α)} {i : Nat} {v : List α} {rest : List (List α)} (r : Rnd l i v rest) : (l.take (i + 1)).flatten = (l.take i).flatten ++ v := by
  rw [r.take, List.flatten_append]; simp
theorem flat_le {α : Type} {l : List (List α)} {i : Nat} {v : List α} {rest : List (List α)} (r : Rnd l i v rest) : (l.take i).flatten.length + v.length ≤ l.flatten.length := by
  have e : l = l.take (i + 1) ++ l.drop (i + 1) := (List.take_append_drop _ _).symm
  have : l.flatten = (l.take (i + 1)).flatten ++ (l.drop (i + 1)).flatten := by rw [← List.flatten_append, ← e]
  rw [this, List.length_append, flat_take r, List.length_append]; omega
theorem concat3 (l : List (List (Int × Int))) (hl : l.length < LF) (hf : l.flatten.length ≤ 1000000) (L11 : (Int × (List DVal)) → Option Rt_slices_Concat_Val) :
    rounds (fun K p => R_slices_Concat_Val_3 LF l K L11 p) LF (Int.ofNat 0, Int.ofNat 0) = L11 (Int.ofNat 0, []) := by
  refine range0 (α := List (Int × Int)) (σ := Int) (R := Rt_slices_Concat_Val) l (fun i s => (s, i)) (fun i s => s = Int.ofNat (l.take i).flatten.length) (fun _ _ _ => L11 (Int.ofNat 0, [])) hl (fun K s hs => ?_) (fun K i v rest s hs r hk => ?_) (Int.ofNat 0) rfl
  · have hg : S.growOK s = true := by
      rw [List.take_length] at hs
      unfold S.growOK
      rw [hs, decide_eq_true (show (0 : Int) ≤ Int.ofNat l.flatten.length from Int.natCast_nonneg _), decide_eq_true (by show (l.flatten.length : Int) ≤ 1000000; omega)]; rfl
    simp only [R_slices_Concat_Val_3, ilt_self, cond_false, hg, cond_true]
  · have hle := flat_le r
    have h1 := r.ilt
    have h2 := r.get
    have hw : IntKind.i64.wrap (Int.add s (Int.ofNat v.length)) = Int.ofNat (l.take (i + 1)).flatten.length := by
      rw [hs, flat_take r, List.length_append]
      exact w64 (n := Int.ofNat ((l.take i).flatten.length + v.length)) (by show _ ≤ (((l.take i).flatten.length + v.length : Nat) : Int); omega) (by show (((l.take i).flatten.length + v.length : Nat) : Int) ≤ _; omega)
    have h3 : iltI (Int.ofNat (l.take (i + 1)).flatten.length) (Int.ofNat 0) = false := by rw [iltI_eq]; exact decide_eq_false (by show ¬ (((l.take (i + 1)).flatten.length : Nat) : Int) < 0; omega)
    simp only [R_slices_Concat_Val_3, h1, cond_true, h2, hw, h3, cond_false, r.next]
    exact hk _ rfl
theorem concat11 (l : List (List (Int × Int))) (hl : l.length < LF) (hf : l.flatten.length ≤ 1000000) :
    rounds (fun K p => R_slices_Concat_Val_11 LF l K p) LF (Int.ofNat 0, []) = some (l.flatten, ()) := by
  refine range0 (α := List (Int × Int)) (σ := List (Int × Int)) (R := Rt_slices_Concat_Val) l (fun i s => (i, s)) (fun i s => s = (l.take i).flatten) (fun _ _ _ => some (l.flatten, ())) hl (fun K s hs => ?_) (fun K i v rest s hs r hk => ?_) [] rfl
  · simp only [R_slices_Concat_Val_11, ilt_self, cond_false]
    rw [hs, List.take_length]
  · have hle := flat_le r
    have h1 := r.ilt
    have h2 := r.get
    have hb : Nat.ble (Nat.mul (Nat.add s.length v.length) 16) 140737488355328 = true := Nat.ble_eq_true_of_le (by show (s.length + v.length) * 16 ≤ _; rw [hs]; omega)
    simp only [R_slices_Concat_Val_11, h1, cond_true, h2, hb, r.next]
    exact hk _ (by rw [hs, flat_take r]; rfl)
theorem F_slices_Concat_Val_eq (l : List (List (Int × Int))) (hl : l.length < LF) (hf : l.flatten.length ≤ 1000000) : F_slices_Concat_Val LF l = some (l.flatten, ()) := by
  have e11 : G_slices_Concat_Val_11 LF l LF (Int.ofNat 0, []) = some (l.flatten, ()) := concat11 l hl hf
  have e3 : G_slices_Concat_Val_3 LF l LF (Int.ofNat 0, Int.ofNat 0) = G_slices_Concat_Val_11 LF l LF (Int.ofNat 0, []) := concat3 l hl hf (fun q => G_slices_Concat_Val_11 LF l LF q)
  exact e3.trans e11
theorem con_slices_Concat_Val : Con Try.prog id_slices_Concat_Val sp_slices_Concat_Val := mk_slices_Concat_Val trivial fun x y hx h => ⟨LF, by
  obtain ⟨l, _⟩ := x
  have h : cond (Nat.ble (List.length (List.flatten (α := DVal) l)) 1000000) (some (List.flatten (α := DVal) l, ())) none = some y := h
  have hl : List.length (α := List (Int × Int)) l < LF := wf_len hx.1
  cases hk : Nat.ble (List.length (List.flatten (α := DVal) l)) 1000000 with
  | false => rw [hk] at h; cases h
  | true =>
    rw [hk] at h
    exact (F_slices_Concat_Val_eq l hl (Nat.le_of_ble_eq_true hk)).trans h⟩
/-! ### Values that are not moved -/
theorem val_rng {m : Nat} (hm : m ≤ 400) {v : Int × Int} (h : S.value v (Int.ofNat m) = true) : -1099511627776 ≤ v.2 ∧ v.2 ≤ 1099511627776 := by
  rcases (value_iff hm v).1 h with ⟨_, b, c⟩ | ⟨_, b, c⟩ | ⟨_, b⟩ | ⟨_, b, c⟩
  · exact ⟨b, c⟩
  · have b : 0 ≤ v.2 := b
    have c : v.2 ≤ 1 := c
    omega
  · have b : v.2 = 0 := b
    omega
  · have b : 0 ≤ v.2 := b
    have c : v.2 < (m : Int) := c
    omega
theorem byL_zero : ∀ (l : List (Int × Int)), (∀ v ∈ l, -1099511627776 ≤ v.2 ∧ v.2 ≤ 1099511627776) → S.byL l (Int.ofNat 0) = l
  | [], _ => rfl
  | v :: l, h => by
    obtain ⟨h1, h2⟩ := h v (List.mem_cons_self ..)
    have ih := byL_zero l fun w hw => h w (List.mem_cons_of_mem _ hw)
    show S.byV (Int.ofNat 0) v :: S.byL l (Int.ofNat 0) = _
    rw [ih]
    congr 1
    unfold S.byV
    have e : Int.add v.2 (Int.ofNat 0) = v.2 := Int.add_zero _
    rw [e, w64 (by omega) (by omega)]
    split <;> rfl
theorem byL_len (l : List (Int × Int)) (m : Int) : (S.byL l m).length = l.length := List.length_map _
section
variable {a b : List (ByteArray × List (Int × Int)) × List (Int × Int)}
theorem pj_loop9 (ha : a.1.length ≤ 400) (hv : ∀ n ∈ a.1, ∀ v ∈ n.2, -1099511627776 ≤ v.2 ∧ v.2 ≤ 1099511627776) (L14 : ((List DVal) × (List DNode) × Int) → Option Rt_p_Join) (rs : List DVal) :
    rounds (fun K p => R_p_Join_9 LF a b K L14 p) LF (rs, Int.ofNat 0, []) = L14 (rs, a.1, Int.ofNat 0) := by
  refine range0 (α := ByteArray × List (Int × Int)) (σ := List DNode) (R := Rt_p_Join) a.1 (fun i s => (rs, i, s)) (fun i s => s = a.1.take i) (fun _ _ _ => L14 (rs, a.1, Int.ofNat 0)) (by unfold LF; omega) (fun K s hs => ?_) (fun K i v rest s hs r hk => ?_) [] rfl
  · simp only [R_p_Join_9, ilt_self, cond_false]
    rw [hs, List.take_length]
  · have h1 := r.ilt
    have h2 := r.get
    have hlt := r.lt
    have hb := room40 (m := s.length) (by rw [hs, List.length_take]; omega)
    have e := byL_zero v.2 (hv v r.mem)
    simp only [R_p_Join_9, h1, cond_true, h2, hb, r.next, e]
    exact hk _ (by rw [hs, r.take]; rfl)
theorem pj_loop14 (ha : a.1.length ≤ 400) (hb4 : b.1.length ≤ 400) (rs : List DVal) :
    rounds (fun K p => R_p_Join_14 LF a b K p) LF (rs, a.1, Int.ofNat 0) = some ((a.1 ++ b.1.map (S.byN (Int.ofNat a.1.length)), rs), (Int.ofNat 0, ())) := by
  refine range0 (α := ByteArray × List (Int × Int)) (σ := List DNode) (R := Rt_p_Join) b.1 (fun i s => (rs, s, i)) (fun i s => s.length = a.1.length + i) (fun rest i s => some ((s ++ rest.map (S.byN (Int.ofNat a.1.length)), rs), (Int.ofNat 0, ()))) (by unfold LF; omega) (fun K s hs => ?_) (fun K i v rest s hs r hk => ?_) a.1 rfl
  · simp only [R_p_Join_14, ilt_self, cond_false, List.map_nil, List.append_nil]
  · have h1 := r.ilt
    have h2 := r.get
    have hlt := r.lt
    have hb := room40 (m := s.length) (by omega)
    simp only [R_p_Join_14, h1, cond_true, h2, hb, r.next]
    have := hk (s.append [(v.1, S.byL v.2 (Int.ofNat a.1.length))]) (by show (s ++ _).length = _; rw [List.length_append]; simp; omega)
    refine Eq.trans this ?_
    have e : List.append s [(v.1, S.byL v.2 (Int.ofNat a.1.length))] ++ rest.map (S.byN (Int.ofNat a.1.length)) = s ++ (v :: rest).map (S.byN (Int.ofNat a.1.length)) := by
      rw [List.map_cons]; show (s ++ [_]) ++ _ = _; rw [List.append_assoc]; rfl
    rw [e]
theorem F_p_Join_eq : F_p_Join LF a b = some ((S.joinB a b).1, (S.joinB a b).2, ()) := by
  have etaA : (a.1, a.2) = a := rfl
  have etaB : (b.1, b.2) = b := rfl
  simp only [F_p_Join, R_p_Join_in, S.joinB]
  by_cases fa : S.formed a = 0
  · by_cases fb : S.formed b = 0
    · obtain ⟨a1, a2, a3, a4, a5⟩ := formed_zero (g := a) fa
      obtain ⟨b1, b2, b3, b4, b5⟩ := formed_zero (g := b) fb
      have a1 : a.1.length ≤ 400 := a1
      have b1 : b.1.length ≤ 400 := b1
      have a2 : a.2.length ≤ 60 := a2
      have b2 : b.2.length ≤ 60 := b2
      have k1 : ieqI (S.first [S.formed (a.1, a.2), S.formed (b.1, b.2)]) (Int.ofNat 0) = true := by
        rw [ieqI_eq]; refine decide_eq_true ?_
        show S.first [S.formed a, S.formed b] = 0
        rw [fa, fb]; rfl
      have w1 : IntKind.i64.wrap (Int.ofNat (Nat.add a.1.length b.1.length)) = Int.ofNat (a.1.length + b.1.length) := w64 (by show _ ≤ ((a.1.length + b.1.length : Nat) : Int); omega) (by show ((a.1.length + b.1.length : Nat) : Int) ≤ _; omega)
      have w2 : IntKind.i64.wrap (Int.ofNat (Nat.add a.2.length b.2.length)) = Int.ofNat (a.2.length + b.2.length) := w64 (by show _ ≤ ((a.2.length + b.2.length : Nat) : Int); omega) (by show ((a.2.length + b.2.length : Nat) : Int) ≤ _; omega)
      rw [if_neg (by simpa using fa), if_neg (by simpa using fb)]
      by_cases h4 : 400 < a.1.length + b.1.length
      · have i1 : iltI (Int.ofNat 400) (Int.ofNat (a.1.length + b.1.length)) = true := by rw [iltI_eq]; exact decide_eq_true (by show (400 : Int) < ((a.1.length + b.1.length : Nat) : Int); omega)
        rw [if_pos (.inl h4)]
        simp only [k1, Bool.not_true, cond_false, w1, i1, cond_true]; rfl
      · have i1 : iltI (Int.ofNat 400) (Int.ofNat (a.1.length + b.1.length)) = false := by rw [iltI_eq]; exact decide_eq_false (by show ¬ (400 : Int) < ((a.1.length + b.1.length : Nat) : Int); omega)
        by_cases h6 : 60 < a.2.length + b.2.length
        · have i2 : iltI (Int.ofNat 60) (Int.ofNat (a.2.length + b.2.length)) = true := by rw [iltI_eq]; exact decide_eq_true (by show (60 : Int) < ((a.2.length + b.2.length : Nat) : Int); omega)
          rw [if_pos (.inr h6)]
          simp only [k1, Bool.not_true, cond_false, w1, i1, w2, i2, cond_true]; rfl
        · have i2 : iltI (Int.ofNat 60) (Int.ofNat (a.2.length + b.2.length)) = false := by rw [iltI_eq]; exact decide_eq_false (by show ¬ (60 : Int) < ((a.2.length + b.2.length : Nat) : Int); omega)
          rw [if_neg (by show ¬ (400 < a.1.length + b.1.length ∨ 60 < a.2.length + b.2.length); omega)]
          have hb : Nat.ble (List.length (List.append a.2 (List.append (S.byL b.2 (Int.ofNat a.1.length)) []))) 1000000 = true := Nat.ble_eq_true_of_le (by
            show (a.2 ++ (S.byL b.2 (Int.ofNat a.1.length) ++ [])).length ≤ _
            rw [List.append_nil, List.length_append, byL_len]; omega)
          have e9 := pj_loop9 (a := a) (b := b) a1 (fun n hn v hv => val_rng a1 (a4 n hn v hv)) (fun q => G_p_Join_14 LF a b LF q) (List.append a.2 (List.append (S.byL b.2 (Int.ofNat a.1.length)) []))
          have e14 := pj_loop14 (a := a) (b := b) a1 b1 (List.append a.2 (List.append (S.byL b.2 (Int.ofNat a.1.length)) []))
          have e : List.append (S.byL b.2 (Int.ofNat a.1.length)) [] = S.byL b.2 (Int.ofNat a.1.length) := List.append_nil _
          simp only [k1, Bool.not_true, cond_false, w1, i1, w2, i2, hb, cond_true]
          refine (e9.trans e14).trans ?_
          rw [e]; rfl
    · have k1 : ieqI (S.first [S.formed (a.1, a.2), S.formed (b.1, b.2)]) (Int.ofNat 0) = false := by
        rw [ieqI_eq]; refine decide_eq_false ?_
        show ¬ S.first [S.formed a, S.formed b] = 0
        rw [fa]; simp only [S.first, if_neg fb, if_true]; exact fb
      have k2 : S.first [S.formed (a.1, a.2), S.formed (b.1, b.2)] = S.formed b := by
        show S.first [S.formed a, S.formed b] = _
        rw [fa]; simp only [S.first, if_neg fb, if_true]
      rw [if_neg (by simpa using fa), if_pos fb, k1, k2]; rfl
  · have k2 : S.first [S.formed (a.1, a.2), S.formed (b.1, b.2)] = S.formed a := by
      show S.first [S.formed a, S.formed b] = _
      simp only [S.first, if_neg fa]
    have k1 : ieqI (S.first [S.formed (a.1, a.2), S.formed (b.1, b.2)]) (Int.ofNat 0) = false := by
      rw [k2, ieqI_eq]; exact decide_eq_false fa
    rw [if_pos fa, k1, k2]; rfl
end
theorem con_p_Join : Con Try.prog id_p_Join sp_p_Join := mk_p_Join ⟨con_p_formed, con_p_first, con_p_Join_1, con_slices_Concat_Val, trivial⟩ fun x y hx h => ⟨LF, (F_p_Join_eq (a := x.1) (b := x.2.1)).trans h⟩
end Go.Proofs.Ytcnhjofpmpipfaa
end

/- Made by program: plain forms of functions. -/
section
set_option linter.unusedVariables false
set_option maxRecDepth 100000
noncomputable section
namespace Go.Proofs.Ytcnhjofpmpipfaa
open Go Go.Sx Go.RowKit Go.Jx
def nm_r_SameVals : Nat → Option Nm := fun k => cond (Nat.beq k 4) (some ⟨[0, 1, 5], [], [], [], [], 0, 0, false⟩) (none)
def st_r_SameVals : Nat → Bool := fun k => cond (Nat.beq k 4) true (false)
def hd_r_SameVals : Nat → Bool := fun k => cond (Nat.beq k 4) true (false)
abbrev Rt_r_SameVals : Type := Bool × Unit
def sml_r_SameVals : List (Nat × Sm) := []
def hxl_r_SameVals : List (Nat × Hx) := []
def cl_r_SameVals (R : Type) (lf : Nat) : ClK R := icallK Try.prog ttT.get ftT.get (nm1 73 nm_r_SameVals) (smL sml_r_SameVals) (hxL hxl_r_SameVals) lf 20 R
abbrev id_r_SameVals : Nat := 73
def enc_r_SameVals_4 (x1 : (List DVal)) (x2 : (List DVal)) (p : Int) : NRes := (NRes.mk (PT.node (some (IV.lst cVal x1)) (PT.node (some (IV.lst cVal x2)) PT.leaf (PT.node (some (IV.int Go.IntKind.i64 p)) PT.leaf PT.leaf)) PT.leaf) (IS.mk PT.leaf 0) [] 0)
def R_r_SameVals_in (lf : Nat) (x1 : (List DVal)) (x2 : (List DVal)) (L4 : Int → Option Rt_r_SameVals) : Option Rt_r_SameVals := (cond (Bool.not (ieqI (Int.ofNat (List.length x1)) (Int.ofNat (List.length x2)))) (some (Bool.false, ())) (L4 (Int.ofNat 0)))
def R_r_SameVals_4 (lf : Nat) (x1 : (List DVal)) (x2 : (List DVal)) (L4 : Int → Option Rt_r_SameVals) (p : Int) : Option Rt_r_SameVals := (cond (iltI p (Int.ofNat (List.length x1))) (match (jget x1 p) with | .none  => none | .some v0 => (match (jget x2 p) with | .none  => none | .some v1 => (cond (Bool.not (Bool.and (keqI v0.1 v1.1) (Bool.and (keqI v0.2 v1.2) Bool.true))) (some (Bool.false, ())) (L4 (Go.IntKind.wrap Go.IntKind.i64 (Int.add p (Int.ofNat 1))))))) (some (Bool.true, ())))
theorem in_r_SameVals (g : ElA [(.list cVal), (.list cVal)] → Option Rt_r_SameVals) (J : Nat → List Nat → NRes → Option Rt_r_SameVals) (lf : Nat) (x1 : (List DVal)) (x2 : (List DVal)) : icodeT Try.prog ttT.get nm_r_SameVals fi73.nt (cl_r_SameVals _ lf) lf st_r_SameVals J fi73.body [] (argGo (argV [(.list cVal), (.list cVal)] (x1, x2, ())) 0 .leaf) S0 [] (lastK ttT.get fi73 ⟨[(.list cVal), (.list cVal)], [(false, .bool)], g⟩) = R_r_SameVals_in lf x1 x2 (fun q => J 4 [lf] (enc_r_SameVals_4 x1 x2 q)) := by kernel_rfl
theorem st_r_SameVals_4 (g : ElA [(.list cVal), (.list cVal)] → Option Rt_r_SameVals) (J : Nat → List Nat → NRes → Option Rt_r_SameVals) (lf : Nat) (x1 : (List DVal)) (x2 : (List DVal)) (m1 : Nat) (p : Int) : icodeFT Try.prog ttT.get nm_r_SameVals fi73.nt (cl_r_SameVals _ lf) lf st_r_SameVals J 4 fi73.body [] [m1] (enc_r_SameVals_4 x1 x2 p) (lastK ttT.get fi73 ⟨[(.list cVal), (.list cVal)], [(false, .bool)], g⟩) = R_r_SameVals_4 lf x1 x2 (fun q => J 4 [m1] (enc_r_SameVals_4 x1 x2 q)) p := by kernel_rfl
theorem nd_r_SameVals : (regs fi73.body).Nodup := by decide +kernel
theorem ok_r_SameVals : okC nm_r_SameVals st_r_SameVals hd_r_SameVals fi73.body none = true := by kernel_rfl
def A_r_SameVals (g : ElA [(.list cVal), (.list cVal)] → Option Rt_r_SameVals) (lf : Nat) : Nat → List Nat → NRes → Option Rt_r_SameVals := atN Try.prog ttT.get nm_r_SameVals fi73 ⟨[(.list cVal), (.list cVal)], [(false, .bool)], g⟩ (cl_r_SameVals _ lf) lf hd_r_SameVals
def G_r_SameVals_4 (lf : Nat) (x1 : (List DVal)) (x2 : (List DVal)) : Nat → (Int) → Option Rt_r_SameVals := rounds fun K p => R_r_SameVals_4 lf x1 x2 K p
theorem at_r_SameVals_4 (g : ElA [(.list cVal), (.list cVal)] → Option Rt_r_SameVals) (lf : Nat) (x1 : (List DVal)) (x2 : (List DVal)) : ∀ (n : Nat) (p : Int), A_r_SameVals g lf 4 [n] (enc_r_SameVals_4 x1 x2 p) = G_r_SameVals_4 lf x1 x2 n p
  | 0, p => atN_zero 4 [0] rfl _
  | n + 1, p => by
    have ih := at_r_SameVals_4 g lf x1 x2 n
    refine (atN_eq (icallK_eq 20 _) nd_r_SameVals ok_r_SameVals 4 [n + 1] [n] rfl _).trans ((st_r_SameVals_4 g (A_r_SameVals g lf) lf x1 x2 n p).trans ?_)
    rw [(show (fun q => A_r_SameVals g lf 4 [n] (enc_r_SameVals_4 x1 x2 q)) = (fun q => G_r_SameVals_4 lf x1 x2 n q) from funext ih)]
    rfl
def F_r_SameVals (lf : Nat) (x1 : (List DVal)) (x2 : (List DVal)) : Option Rt_r_SameVals := R_r_SameVals_in lf x1 x2 (fun q => G_r_SameVals_4 lf x1 x2 lf q)
theorem run_r_SameVals (g : ElA [(.list cVal), (.list cVal)] → Option Rt_r_SameVals) (lf : Nat) (x1 : (List DVal)) (x2 : (List DVal)) : icodeT Try.prog ttT.get nm_r_SameVals fi73.nt (cl_r_SameVals _ lf) lf st_r_SameVals (A_r_SameVals g lf) fi73.body [] (argGo (argV [(.list cVal), (.list cVal)] (x1, x2, ())) 0 .leaf) S0 [] (lastK ttT.get fi73 ⟨[(.list cVal), (.list cVal)], [(false, .bool)], g⟩) = F_r_SameVals lf x1 x2 := by
    refine (in_r_SameVals g (A_r_SameVals g lf) lf x1 x2).trans ?_
    rw [(show (fun q => A_r_SameVals g lf 4 [lf] (enc_r_SameVals_4 x1 x2 q)) = (fun q => G_r_SameVals_4 lf x1 x2 lf q) from funext fun q => at_r_SameVals_4 g lf x1 x2 lf q)]
    rfl
theorem hxs_r_SameVals : HxsOK Try.prog hxl_r_SameVals := trivial
theorem mk_r_SameVals {g : ElA [(.list cVal), (.list cVal)] → Option Rt_r_SameVals} (hsm : SmOK Try.prog sml_r_SameVals) (hg : ∀ (x : ElA [(.list cVal), (.list cVal)]) (y : Rt_r_SameVals), WfA [(.list cVal), (.list cVal)] x → g x = some y → ∃ lf, F_r_SameVals lf x.1 x.2.1 = some y) : Con Try.prog 73 ⟨[(.list cVal), (.list cVal)], [(false, .bool)], g⟩ :=
  conT (nmf := nm_r_SameVals) (sml := sml_r_SameVals) (hxl := hxl_r_SameVals) (st := st_r_SameVals) (hd := hd_r_SameVals) 20 mixed ttOK ftOK hsm hxs_r_SameVals cal73 rfl rfl (by kernel_rfl) (fun x => by kernel_rfl) nd_r_SameVals ok_r_SameVals fun x y hx hy => by
    obtain ⟨lf, h⟩ := hg x y hx hy
    exact ⟨lf, (run_r_SameVals g lf x.1 x.2.1).trans h⟩
def nm_r_SameGraphs : Nat → Option Nm := fun k => cond (Nat.beq k 5) (some ⟨[2, 3, 6], [], [], [], [], 0, 0, false⟩) (none)
def st_r_SameGraphs : Nat → Bool := fun k => cond (Nat.beq k 5) true (false)
def hd_r_SameGraphs : Nat → Bool := fun k => cond (Nat.beq k 5) true (false)
abbrev Rt_r_SameGraphs : Type := Bool × Unit
def sml_r_SameGraphs : List (Nat × Sm) := [(73, sp_r_SameVals)]
def hxl_r_SameGraphs : List (Nat × Hx) := []
def cl_r_SameGraphs (R : Type) (lf : Nat) : ClK R := icallK Try.prog ttT.get ftT.get (nm1 26 nm_r_SameGraphs) (smL sml_r_SameGraphs) (hxL hxl_r_SameGraphs) lf 20 R
abbrev id_r_SameGraphs : Nat := 26
def enc_r_SameGraphs_5 (x1 : DGraph) (x2 : DGraph) (p : Int) : NRes := (NRes.mk (PT.node none (PT.node none (PT.node (some (IV.ptr 1 0)) PT.leaf PT.leaf) PT.leaf) (PT.node (some (IV.ptr 0 0)) PT.leaf (PT.node (some (IV.int Go.IntKind.i64 p)) PT.leaf PT.leaf))) (IS.mk (PT.node (some (IObj.row (List.cons (IV.lst cNode x1.1) (List.cons (IV.lst cVal x1.2) [])))) (PT.node (some (IObj.row (List.cons (IV.lst cNode x2.1) (List.cons (IV.lst cVal x2.2) [])))) PT.leaf PT.leaf) PT.leaf) 2) [] 0)
def R_r_SameGraphs_in (lf : Nat) (x1 : DGraph) (x2 : DGraph) (L5 : Int → Option Rt_r_SameGraphs) : Option Rt_r_SameGraphs := (cond (Bool.not (Go.Proofs.Ytcnhjofpmpipfaa.S.sameVals x1.2 x2.2)) (some (Bool.false, ())) (cond (Bool.not (ieqI (Int.ofNat (List.length x1.1)) (Int.ofNat (List.length x2.1)))) (some (Bool.false, ())) (L5 (Int.ofNat 0))))
def R_r_SameGraphs_5 (lf : Nat) (x1 : DGraph) (x2 : DGraph) (L5 : Int → Option Rt_r_SameGraphs) (p : Int) : Option Rt_r_SameGraphs := (cond (iltI p (Int.ofNat (List.length x1.1))) (match (jget x1.1 p) with | .none  => none | .some v0 => (match (jget x2.1 p) with | .none  => none | .some v1 => (cond (Bool.not (Go.Proofs.Ytcnhjofpmpipfaa.S.sameVals v0.2 v1.2)) (some (Bool.false, ())) (match (jget x1.1 p) with | .none  => none | .some v2 => (match (jget x2.1 p) with | .none  => none | .some v3 => (cond (Bool.not (keqS v2.1 v3.1)) (some (Bool.false, ())) (L5 (Go.IntKind.wrap Go.IntKind.i64 (Int.add p (Int.ofNat 1)))))))))) (some (Bool.true, ())))
theorem in_r_SameGraphs (g : ElA [cGraph, cGraph] → Option Rt_r_SameGraphs) (J : Nat → List Nat → NRes → Option Rt_r_SameGraphs) (lf : Nat) (x1 : DGraph) (x2 : DGraph) : icodeT Try.prog ttT.get nm_r_SameGraphs fi26.nt (cl_r_SameGraphs _ lf) lf st_r_SameGraphs J fi26.body [] (argGo (argV [cGraph, cGraph] (x1, x2, ())) 0 .leaf) S0 [] (lastK ttT.get fi26 ⟨[cGraph, cGraph], [(false, .bool)], g⟩) = R_r_SameGraphs_in lf x1 x2 (fun q => J 5 [lf] (enc_r_SameGraphs_5 x1 x2 q)) := by kernel_rfl
theorem st_r_SameGraphs_5 (g : ElA [cGraph, cGraph] → Option Rt_r_SameGraphs) (J : Nat → List Nat → NRes → Option Rt_r_SameGraphs) (lf : Nat) (x1 : DGraph) (x2 : DGraph) (m1 : Nat) (p : Int) : icodeFT Try.prog ttT.get nm_r_SameGraphs fi26.nt (cl_r_SameGraphs _ lf) lf st_r_SameGraphs J 5 fi26.body [] [m1] (enc_r_SameGraphs_5 x1 x2 p) (lastK ttT.get fi26 ⟨[cGraph, cGraph], [(false, .bool)], g⟩) = R_r_SameGraphs_5 lf x1 x2 (fun q => J 5 [m1] (enc_r_SameGraphs_5 x1 x2 q)) p := by kernel_rfl
theorem nd_r_SameGraphs : (regs fi26.body).Nodup := by decide +kernel
theorem ok_r_SameGraphs : okC nm_r_SameGraphs st_r_SameGraphs hd_r_SameGraphs fi26.body none = true := by kernel_rfl
def A_r_SameGraphs (g : ElA [cGraph, cGraph] → Option Rt_r_SameGraphs) (lf : Nat) : Nat → List Nat → NRes → Option Rt_r_SameGraphs := atN Try.prog ttT.get nm_r_SameGraphs fi26 ⟨[cGraph, cGraph], [(false, .bool)], g⟩ (cl_r_SameGraphs _ lf) lf hd_r_SameGraphs
def G_r_SameGraphs_5 (lf : Nat) (x1 : DGraph) (x2 : DGraph) : Nat → (Int) → Option Rt_r_SameGraphs := rounds fun K p => R_r_SameGraphs_5 lf x1 x2 K p
theorem at_r_SameGraphs_5 (g : ElA [cGraph, cGraph] → Option Rt_r_SameGraphs) (lf : Nat) (x1 : DGraph) (x2 : DGraph) : ∀ (n : Nat) (p : Int), A_r_SameGraphs g lf 5 [n] (enc_r_SameGraphs_5 x1 x2 p) = G_r_SameGraphs_5 lf x1 x2 n p
  | 0, p => atN_zero 5 [0] rfl _
  | n + 1, p => by
    have ih := at_r_SameGraphs_5 g lf x1 x2 n
    refine (atN_eq (icallK_eq 20 _) nd_r_SameGraphs ok_r_SameGraphs 5 [n + 1] [n] rfl _).trans ((st_r_SameGraphs_5 g (A_r_SameGraphs g lf) lf x1 x2 n p).trans ?_)
    rw [(show (fun q => A_r_SameGraphs g lf 5 [n] (enc_r_SameGraphs_5 x1 x2 q)) = (fun q => G_r_SameGraphs_5 lf x1 x2 n q) from funext ih)]
    rfl
def F_r_SameGraphs (lf : Nat) (x1 : DGraph) (x2 : DGraph) : Option Rt_r_SameGraphs := R_r_SameGraphs_in lf x1 x2 (fun q => G_r_SameGraphs_5 lf x1 x2 lf q)
theorem run_r_SameGraphs (g : ElA [cGraph, cGraph] → Option Rt_r_SameGraphs) (lf : Nat) (x1 : DGraph) (x2 : DGraph) : icodeT Try.prog ttT.get nm_r_SameGraphs fi26.nt (cl_r_SameGraphs _ lf) lf st_r_SameGraphs (A_r_SameGraphs g lf) fi26.body [] (argGo (argV [cGraph, cGraph] (x1, x2, ())) 0 .leaf) S0 [] (lastK ttT.get fi26 ⟨[cGraph, cGraph], [(false, .bool)], g⟩) = F_r_SameGraphs lf x1 x2 := by
    refine (in_r_SameGraphs g (A_r_SameGraphs g lf) lf x1 x2).trans ?_
    rw [(show (fun q => A_r_SameGraphs g lf 5 [lf] (enc_r_SameGraphs_5 x1 x2 q)) = (fun q => G_r_SameGraphs_5 lf x1 x2 lf q) from funext fun q => at_r_SameGraphs_5 g lf x1 x2 lf q)]
    rfl
theorem hxs_r_SameGraphs : HxsOK Try.prog hxl_r_SameGraphs := trivial
theorem mk_r_SameGraphs {g : ElA [cGraph, cGraph] → Option Rt_r_SameGraphs} (hsm : SmOK Try.prog sml_r_SameGraphs) (hg : ∀ (x : ElA [cGraph, cGraph]) (y : Rt_r_SameGraphs), WfA [cGraph, cGraph] x → g x = some y → ∃ lf, F_r_SameGraphs lf x.1 x.2.1 = some y) : Con Try.prog 26 ⟨[cGraph, cGraph], [(false, .bool)], g⟩ :=
  conT (nmf := nm_r_SameGraphs) (sml := sml_r_SameGraphs) (hxl := hxl_r_SameGraphs) (st := st_r_SameGraphs) (hd := hd_r_SameGraphs) 20 mixed ttOK ftOK hsm hxs_r_SameGraphs cal26 rfl rfl (by kernel_rfl) (fun x => by kernel_rfl) nd_r_SameGraphs ok_r_SameGraphs fun x y hx hy => by
    obtain ⟨lf, h⟩ := hg x y hx hy
    exact ⟨lf, (run_r_SameGraphs g lf x.1 x.2.1).trans h⟩
def nm_l_fewForms : Nat → Option Nm := fun k => cond (Nat.beq k 2) (some ⟨[0, 3], [], [], [], [], 0, 0, false⟩) (cond (Nat.beq k 8) (some ⟨[0, 3, 4, 5], [], [], [], [], 0, 0, false⟩) (none))
def st_l_fewForms : Nat → Bool := fun k => cond (Nat.beq k 2) true (cond (Nat.beq k 8) true (false))
def hd_l_fewForms : Nat → Bool := fun k => cond (Nat.beq k 2) true (cond (Nat.beq k 8) true (false))
abbrev Rt_l_fewForms : Type := Bool × Unit
def sml_l_fewForms : List (Nat × Sm) := []
def hxl_l_fewForms : List (Nat × Hx) := []
def cl_l_fewForms (R : Type) (lf : Nat) : ClK R := icallK Try.prog ttT.get ftT.get (nm1 13 nm_l_fewForms) (smL sml_l_fewForms) (hxL hxl_l_fewForms) lf 20 R
abbrev id_l_fewForms : Nat := 13
def enc_l_fewForms_2 (x1 : (List DForm)) (p : Int) : NRes := (NRes.mk (PT.node (some (IV.lst cForm x1)) (PT.node none (PT.node (some (IV.int Go.IntKind.i64 p)) PT.leaf PT.leaf) PT.leaf) PT.leaf) (IS.mk PT.leaf 0) [] 0)
def enc_l_fewForms_8 (x1 : (List DForm)) (p : Int × Int × Int) : NRes := (NRes.mk (PT.node (some (IV.lst cForm x1)) (PT.node none (PT.node (some (IV.int Go.IntKind.i64 p.2.2)) PT.leaf PT.leaf) (PT.node (some (IV.int Go.IntKind.i64 p.2.1)) PT.leaf PT.leaf)) (PT.node none (PT.node (some (IV.int Go.IntKind.i64 p.1)) PT.leaf PT.leaf) PT.leaf)) (IS.mk PT.leaf 0) [] 0)
def R_l_fewForms_in (lf : Nat) (x1 : (List DForm)) (L2 : Int → Option Rt_l_fewForms) : Option Rt_l_fewForms := (L2 (Int.ofNat 0))
def R_l_fewForms_2 (lf : Nat) (x1 : (List DForm)) (L8 : (Int × Int × Int) → Option Rt_l_fewForms) (p : Int) : Option Rt_l_fewForms := (cond (iltI p (Int.ofNat (List.length x1))) (match (jget x1 p) with | .none  => none | .some v0 => (match (jget x1 p) with | .none  => none | .some v1 => (cond (iltI (Int.ofNat 30) (Int.ofNat (ByteArray.size v1.1))) (some (Bool.false, ())) (cond (iltI (Int.ofNat 6) (Int.ofNat (List.length v0.2))) (cond (Bool.not (iltI (Int.ofNat 30) (Int.ofNat (List.length v0.2)))) (some (Bool.false, ())) (cond (iltI (Int.ofNat 40) (Int.ofNat (List.length v0.2))) (some (Bool.false, ())) (L8 ((Int.ofNat (List.length v0.2)), (Int.ofNat 0), p)))) (cond (iltI (Int.ofNat 40) (Int.ofNat (List.length v0.2))) (some (Bool.false, ())) (L8 ((Int.ofNat (List.length v0.2)), (Int.ofNat 0), p))))))) (cond (Bool.not (iltI (Int.ofNat 6) (Int.ofNat (List.length x1)))) (some (Bool.true, ())) (cond (iltI (Int.ofNat 24) (Int.ofNat (List.length x1))) (some ((Bool.not (iltI (Int.ofNat 30) (Int.ofNat (List.length x1)))), ())) (some (Bool.false, ())))))
def R_l_fewForms_8 (lf : Nat) (x1 : (List DForm)) (L8 : (Int × Int × Int) → Option Rt_l_fewForms) (L2 : Int → Option Rt_l_fewForms) (p : Int × Int × Int) : Option Rt_l_fewForms := (cond (iltI p.2.1 p.1) (match (jget x1 p.2.2) with | .none  => none | .some v0 => (match (jget v0.2 p.2.1) with | .none  => none | .some v1 => (cond (iltI (Int.ofNat 30) (Int.ofNat (ByteArray.size v1.1))) (some (Bool.false, ())) (match (jget x1 p.2.2) with | .none  => none | .some v2 => (match (jget v2.2 p.2.1) with | .none  => none | .some v3 => (cond (iltI (Int.ofNat 30) (Int.ofNat (ByteArray.size v3.2.2))) (some (Bool.false, ())) (L8 (p.1, (Go.IntKind.wrap Go.IntKind.i64 (Int.add p.2.1 (Int.ofNat 1))), p.2.2)))))))) (L2 (Go.IntKind.wrap Go.IntKind.i64 (Int.add p.2.2 (Int.ofNat 1)))))
theorem in_l_fewForms (g : ElA [(.list cForm)] → Option Rt_l_fewForms) (J : Nat → List Nat → NRes → Option Rt_l_fewForms) (lf : Nat) (x1 : (List DForm)) : icodeT Try.prog ttT.get nm_l_fewForms fi13.nt (cl_l_fewForms _ lf) lf st_l_fewForms J fi13.body [] (argGo (argV [(.list cForm)] (x1, ())) 0 .leaf) S0 [] (lastK ttT.get fi13 ⟨[(.list cForm)], [(false, .bool)], g⟩) = R_l_fewForms_in lf x1 (fun q => J 2 [lf] (enc_l_fewForms_2 x1 q)) := by kernel_rfl
theorem st_l_fewForms_2 (g : ElA [(.list cForm)] → Option Rt_l_fewForms) (J : Nat → List Nat → NRes → Option Rt_l_fewForms) (lf : Nat) (x1 : (List DForm)) (m1 : Nat) (p : Int) : icodeFT Try.prog ttT.get nm_l_fewForms fi13.nt (cl_l_fewForms _ lf) lf st_l_fewForms J 2 fi13.body [] [m1] (enc_l_fewForms_2 x1 p) (lastK ttT.get fi13 ⟨[(.list cForm)], [(false, .bool)], g⟩) = R_l_fewForms_2 lf x1 (fun q => J 8 [m1, lf] (enc_l_fewForms_8 x1 q)) p := by kernel_rfl
theorem st_l_fewForms_8 (g : ElA [(.list cForm)] → Option Rt_l_fewForms) (J : Nat → List Nat → NRes → Option Rt_l_fewForms) (lf : Nat) (x1 : (List DForm)) (m1 : Nat) (m2 : Nat) (p : Int × Int × Int) : icodeFT Try.prog ttT.get nm_l_fewForms fi13.nt (cl_l_fewForms _ lf) lf st_l_fewForms J 8 fi13.body [] [m1, m2] (enc_l_fewForms_8 x1 p) (lastK ttT.get fi13 ⟨[(.list cForm)], [(false, .bool)], g⟩) = R_l_fewForms_8 lf x1 (fun q => J 8 [m1, m2] (enc_l_fewForms_8 x1 q)) (fun q => J 2 [m1] (enc_l_fewForms_2 x1 q)) p := by kernel_rfl
theorem nd_l_fewForms : (regs fi13.body).Nodup := by decide +kernel
theorem ok_l_fewForms : okC nm_l_fewForms st_l_fewForms hd_l_fewForms fi13.body none = true := by kernel_rfl
def A_l_fewForms (g : ElA [(.list cForm)] → Option Rt_l_fewForms) (lf : Nat) : Nat → List Nat → NRes → Option Rt_l_fewForms := atN Try.prog ttT.get nm_l_fewForms fi13 ⟨[(.list cForm)], [(false, .bool)], g⟩ (cl_l_fewForms _ lf) lf hd_l_fewForms
def G_l_fewForms_8 (lf : Nat) (x1 : (List DForm)) (K2 : Int → Option Rt_l_fewForms) : Nat → (Int × Int × Int) → Option Rt_l_fewForms := rounds fun K p => R_l_fewForms_8 lf x1 K K2 p
theorem at_l_fewForms_8 (g : ElA [(.list cForm)] → Option Rt_l_fewForms) (lf : Nat) (x1 : (List DForm)) (m1 : Nat) : ∀ (n : Nat) (p : Int × Int × Int), A_l_fewForms g lf 8 [m1, n] (enc_l_fewForms_8 x1 p) = G_l_fewForms_8 lf x1 (fun q => A_l_fewForms g lf 2 [m1] (enc_l_fewForms_2 x1 q)) n p
  | 0, p => atN_zero 8 [m1, 0] rfl _
  | n + 1, p => by
    have ih := at_l_fewForms_8 g lf x1 m1 n
    refine (atN_eq (icallK_eq 20 _) nd_l_fewForms ok_l_fewForms 8 [m1, n + 1] [m1, n] rfl _).trans ((st_l_fewForms_8 g (A_l_fewForms g lf) lf x1 m1 n p).trans ?_)
    rw [(show (fun q => A_l_fewForms g lf 8 [m1, n] (enc_l_fewForms_8 x1 q)) = (fun q => G_l_fewForms_8 lf x1 (fun q => A_l_fewForms g lf 2 [m1] (enc_l_fewForms_2 x1 q)) n q) from funext ih)]
    rfl
def G_l_fewForms_2 (lf : Nat) (x1 : (List DForm)) : Nat → (Int) → Option Rt_l_fewForms := rounds fun K p => R_l_fewForms_2 lf x1 (fun q => G_l_fewForms_8 lf x1 K lf q) p
theorem at_l_fewForms_2 (g : ElA [(.list cForm)] → Option Rt_l_fewForms) (lf : Nat) (x1 : (List DForm)) : ∀ (n : Nat) (p : Int), A_l_fewForms g lf 2 [n] (enc_l_fewForms_2 x1 p) = G_l_fewForms_2 lf x1 n p
  | 0, p => atN_zero 2 [0] rfl _
  | n + 1, p => by
    have ih := at_l_fewForms_2 g lf x1 n
    refine (atN_eq (icallK_eq 20 _) nd_l_fewForms ok_l_fewForms 2 [n + 1] [n] rfl _).trans ((st_l_fewForms_2 g (A_l_fewForms g lf) lf x1 n p).trans ?_)
    rw [(show (fun q => A_l_fewForms g lf 8 [n, lf] (enc_l_fewForms_8 x1 q)) = (fun q => G_l_fewForms_8 lf x1 (fun q => A_l_fewForms g lf 2 [n] (enc_l_fewForms_2 x1 q)) lf q) from funext fun q => at_l_fewForms_8 g lf x1 n lf q), (show (fun q => A_l_fewForms g lf 2 [n] (enc_l_fewForms_2 x1 q)) = (fun q => G_l_fewForms_2 lf x1 n q) from funext ih)]
    rfl
def F_l_fewForms (lf : Nat) (x1 : (List DForm)) : Option Rt_l_fewForms := R_l_fewForms_in lf x1 (fun q => G_l_fewForms_2 lf x1 lf q)
theorem run_l_fewForms (g : ElA [(.list cForm)] → Option Rt_l_fewForms) (lf : Nat) (x1 : (List DForm)) : icodeT Try.prog ttT.get nm_l_fewForms fi13.nt (cl_l_fewForms _ lf) lf st_l_fewForms (A_l_fewForms g lf) fi13.body [] (argGo (argV [(.list cForm)] (x1, ())) 0 .leaf) S0 [] (lastK ttT.get fi13 ⟨[(.list cForm)], [(false, .bool)], g⟩) = F_l_fewForms lf x1 := by
    refine (in_l_fewForms g (A_l_fewForms g lf) lf x1).trans ?_
    rw [(show (fun q => A_l_fewForms g lf 2 [lf] (enc_l_fewForms_2 x1 q)) = (fun q => G_l_fewForms_2 lf x1 lf q) from funext fun q => at_l_fewForms_2 g lf x1 lf q)]
    rfl
theorem hxs_l_fewForms : HxsOK Try.prog hxl_l_fewForms := trivial
theorem mk_l_fewForms {g : ElA [(.list cForm)] → Option Rt_l_fewForms} (hsm : SmOK Try.prog sml_l_fewForms) (hg : ∀ (x : ElA [(.list cForm)]) (y : Rt_l_fewForms), WfA [(.list cForm)] x → g x = some y → ∃ lf, F_l_fewForms lf x.1 = some y) : Con Try.prog 13 ⟨[(.list cForm)], [(false, .bool)], g⟩ :=
  conT (nmf := nm_l_fewForms) (sml := sml_l_fewForms) (hxl := hxl_l_fewForms) (st := st_l_fewForms) (hd := hd_l_fewForms) 20 mixed ttOK ftOK hsm hxs_l_fewForms cal13 rfl rfl (by kernel_rfl) (fun x => by kernel_rfl) nd_l_fewForms ok_l_fewForms fun x y hx hy => by
    obtain ⟨lf, h⟩ := hg x y hx hy
    exact ⟨lf, (run_l_fewForms g lf x.1).trans h⟩
def nm_l_few : Nat → Option Nm := fun k => cond (Nat.beq k 3) (some ⟨[1, 3, 4], [], [], [], [], 0, 0, false⟩) (none)
def st_l_few : Nat → Bool := fun k => cond (Nat.beq k 3) true (false)
def hd_l_few : Nat → Bool := fun k => cond (Nat.beq k 3) true (false)
abbrev Rt_l_few : Type := Bool × Unit
def sml_l_few : List (Nat × Sm) := []
def hxl_l_few : List (Nat × Hx) := []
def cl_l_few (R : Type) (lf : Nat) : ClK R := icallK Try.prog ttT.get ftT.get (nm1 14 nm_l_few) (smL sml_l_few) (hxL hxl_l_few) lf 20 R
abbrev id_l_few : Nat := 14
def enc_l_few_3 (x1 : DGraph) (p : Int) : NRes := (NRes.mk (PT.node none (PT.node (some (IV.ptr 0 0)) (PT.node (some (IV.int Go.IntKind.i64 (Int.ofNat (List.length x1.1)))) PT.leaf PT.leaf) PT.leaf) (PT.node none (PT.node (some (IV.int Go.IntKind.i64 p)) PT.leaf PT.leaf) PT.leaf)) (IS.mk (PT.node (some (IObj.row (List.cons (IV.lst cNode x1.1) (List.cons (IV.lst cVal x1.2) [])))) PT.leaf PT.leaf) 1) [] 0)
def R_l_few_in (lf : Nat) (x1 : DGraph) (L3 : Int → Option Rt_l_few) : Option Rt_l_few := (L3 (Int.ofNat 0))
def R_l_few_3 (lf : Nat) (x1 : DGraph) (L3 : Int → Option Rt_l_few) (p : Int) : Option Rt_l_few := (cond (iltI p (Int.ofNat (List.length x1.1))) (match (jget x1.1 p) with | .none  => none | .some v0 => (cond (iltI (Int.ofNat 8) (Int.ofNat (List.length v0.2))) (cond (Bool.not (iltI (Int.ofNat 30) (Int.ofNat (List.length v0.2)))) (some (Bool.false, ())) (cond (iltI (Int.ofNat 40) (Int.ofNat (List.length v0.2))) (some (Bool.false, ())) (L3 (Go.IntKind.wrap Go.IntKind.i64 (Int.add p (Int.ofNat 1)))))) (cond (iltI (Int.ofNat 40) (Int.ofNat (List.length v0.2))) (some (Bool.false, ())) (L3 (Go.IntKind.wrap Go.IntKind.i64 (Int.add p (Int.ofNat 1))))))) (cond (Bool.not (iltI (Int.ofNat 30) (Int.ofNat (List.length x1.1)))) (cond (Bool.not (iltI (Int.ofNat 10) (Int.ofNat (List.length x1.2)))) (some (Bool.true, ())) (cond (iltI (Int.ofNat 60) (Int.ofNat (List.length x1.2))) (some ((Bool.not (iltI (Int.ofNat 70) (Int.ofNat (List.length x1.2)))), ())) (some (Bool.false, ())))) (cond (iltI (Int.ofNat 400) (Int.ofNat (List.length x1.1))) (cond (Bool.not (iltI (Int.ofNat 410) (Int.ofNat (List.length x1.1)))) (cond (Bool.not (iltI (Int.ofNat 10) (Int.ofNat (List.length x1.2)))) (some (Bool.true, ())) (cond (iltI (Int.ofNat 60) (Int.ofNat (List.length x1.2))) (some ((Bool.not (iltI (Int.ofNat 70) (Int.ofNat (List.length x1.2)))), ())) (some (Bool.false, ())))) (some (Bool.false, ()))) (some (Bool.false, ())))))
theorem in_l_few (g : ElA [cGraph] → Option Rt_l_few) (J : Nat → List Nat → NRes → Option Rt_l_few) (lf : Nat) (x1 : DGraph) : icodeT Try.prog ttT.get nm_l_few fi14.nt (cl_l_few _ lf) lf st_l_few J fi14.body [] (argGo (argV [cGraph] (x1, ())) 0 .leaf) S0 [] (lastK ttT.get fi14 ⟨[cGraph], [(false, .bool)], g⟩) = R_l_few_in lf x1 (fun q => J 3 [lf] (enc_l_few_3 x1 q)) := by kernel_rfl
theorem st_l_few_3 (g : ElA [cGraph] → Option Rt_l_few) (J : Nat → List Nat → NRes → Option Rt_l_few) (lf : Nat) (x1 : DGraph) (m1 : Nat) (p : Int) : icodeFT Try.prog ttT.get nm_l_few fi14.nt (cl_l_few _ lf) lf st_l_few J 3 fi14.body [] [m1] (enc_l_few_3 x1 p) (lastK ttT.get fi14 ⟨[cGraph], [(false, .bool)], g⟩) = R_l_few_3 lf x1 (fun q => J 3 [m1] (enc_l_few_3 x1 q)) p := by kernel_rfl
theorem nd_l_few : (regs fi14.body).Nodup := by decide +kernel
theorem ok_l_few : okC nm_l_few st_l_few hd_l_few fi14.body none = true := by kernel_rfl
def A_l_few (g : ElA [cGraph] → Option Rt_l_few) (lf : Nat) : Nat → List Nat → NRes → Option Rt_l_few := atN Try.prog ttT.get nm_l_few fi14 ⟨[cGraph], [(false, .bool)], g⟩ (cl_l_few _ lf) lf hd_l_few
def G_l_few_3 (lf : Nat) (x1 : DGraph) : Nat → (Int) → Option Rt_l_few := rounds fun K p => R_l_few_3 lf x1 K p
theorem at_l_few_3 (g : ElA [cGraph] → Option Rt_l_few) (lf : Nat) (x1 : DGraph) : ∀ (n : Nat) (p : Int), A_l_few g lf 3 [n] (enc_l_few_3 x1 p) = G_l_few_3 lf x1 n p
  | 0, p => atN_zero 3 [0] rfl _
  | n + 1, p => by
    have ih := at_l_few_3 g lf x1 n
    refine (atN_eq (icallK_eq 20 _) nd_l_few ok_l_few 3 [n + 1] [n] rfl _).trans ((st_l_few_3 g (A_l_few g lf) lf x1 n p).trans ?_)
    rw [(show (fun q => A_l_few g lf 3 [n] (enc_l_few_3 x1 q)) = (fun q => G_l_few_3 lf x1 n q) from funext ih)]
    rfl
def F_l_few (lf : Nat) (x1 : DGraph) : Option Rt_l_few := R_l_few_in lf x1 (fun q => G_l_few_3 lf x1 lf q)
theorem run_l_few (g : ElA [cGraph] → Option Rt_l_few) (lf : Nat) (x1 : DGraph) : icodeT Try.prog ttT.get nm_l_few fi14.nt (cl_l_few _ lf) lf st_l_few (A_l_few g lf) fi14.body [] (argGo (argV [cGraph] (x1, ())) 0 .leaf) S0 [] (lastK ttT.get fi14 ⟨[cGraph], [(false, .bool)], g⟩) = F_l_few lf x1 := by
    refine (in_l_few g (A_l_few g lf) lf x1).trans ?_
    rw [(show (fun q => A_l_few g lf 3 [lf] (enc_l_few_3 x1 q)) = (fun q => G_l_few_3 lf x1 lf q) from funext fun q => at_l_few_3 g lf x1 lf q)]
    rfl
theorem hxs_l_few : HxsOK Try.prog hxl_l_few := trivial
theorem mk_l_few {g : ElA [cGraph] → Option Rt_l_few} (hsm : SmOK Try.prog sml_l_few) (hg : ∀ (x : ElA [cGraph]) (y : Rt_l_few), WfA [cGraph] x → g x = some y → ∃ lf, F_l_few lf x.1 = some y) : Con Try.prog 14 ⟨[cGraph], [(false, .bool)], g⟩ :=
  conT (nmf := nm_l_few) (sml := sml_l_few) (hxl := hxl_l_few) (st := st_l_few) (hd := hd_l_few) 20 mixed ttOK ftOK hsm hxs_l_few cal14 rfl rfl (by kernel_rfl) (fun x => by kernel_rfl) nd_l_few ok_l_few fun x y hx hy => by
    obtain ⟨lf, h⟩ := hg x y hx hy
    exact ⟨lf, (run_l_few g lf x.1).trans h⟩
end Go.Proofs.Ytcnhjofpmpipfaa

end
end

/- Made by program: plain forms of functions. -/
section
set_option linter.unusedVariables false
set_option maxRecDepth 100000
noncomputable section
namespace Go.Proofs.Ytcnhjofpmpipfaa
open Go Go.Sx Go.RowKit Go.Jx
end Go.Proofs.Ytcnhjofpmpipfaa

end
end

/- The contracts of pack's chaining of rules. -/
section
set_option linter.unusedVariables false
set_option maxRecDepth 100000
namespace Go.Proofs.Ytcnhjofpmpipfaa
open Go Go.Sx Go.RowKit Go.Jx
end Go.Proofs.Ytcnhjofpmpipfaa
end

/- Comparisons, and the law's bounds. -/
section
set_option linter.unusedVariables false
set_option maxRecDepth 100000
namespace Go.Proofs.Ytcnhjofpmpipfaa
open Go Go.Sx Go.RowKit Go.Jx
theorem F_r_SameVals_eq (a b : List DVal) (hl : a.length < LF) : F_r_SameVals LF a b = some (S.sameVals a b, ()) := by
  simp only [F_r_SameVals, R_r_SameVals_in, ieq_nat, S.sameVals]
  by_cases hlen : a.length = b.length
  · rw [decide_eq_true hlen, Bool.not_true, cond_false]
    refine (range1 (R := Rt_r_SameVals) a (fun rest i => some (decide (rest = b.drop i), ())) hl (fun K => ?_) (fun K i v rest r h => ?_)).trans (by rw [List.drop_zero])
    · simp only [R_r_SameVals_4, ilt_self, cond_false]
      rw [List.drop_of_length_le (by omega), decide_eq_true rfl]
    · have hi : i < b.length := by have := r.lt; omega
      have hd : b.drop i = b[i] :: b.drop (i + 1) := List.drop_eq_getElem_cons hi
      have hb : jget b (Int.ofNat i) = some b[i] := jget_nat.trans (List.getElem?_eq_getElem hi)
      simp only [R_r_SameVals_4, r.ilt, r.get, hb, r.next, h, cond_true, hd]
      generalize b[i] = w
      obtain ⟨v1, v2⟩ := v
      obtain ⟨w1, w2⟩ := w
      simp only [keqI, Bool.and_true]
      by_cases e1 : v1 = w1 <;> by_cases e2 : v2 = w2 <;> simp [e1, e2]
  · have hn : ¬ a = b := fun e => hlen (by rw [e])
    rw [decide_eq_false hlen, Bool.not_false, cond_true, decide_eq_false hn]
theorem con_r_SameVals : Con Try.prog id_r_SameVals sp_r_SameVals := mk_r_SameVals trivial fun x y hx h => ⟨LF, (F_r_SameVals_eq _ _ (wf_len hx.1)).trans h⟩
theorem F_r_SameGraphs_eq (a b : DGraph) (hl : a.1.length < LF) : F_r_SameGraphs LF a b = some (S.sameGraphs a b, ()) := by
  simp only [F_r_SameGraphs, R_r_SameGraphs_in, ieq_nat, S.sameGraphs]
  obtain ⟨a1, a2⟩ := a
  obtain ⟨b1, b2⟩ := b
  have hs : S.sameVals a2 b2 = decide (a2 = b2) := rfl
  simp only [hs]
  by_cases hr : a2 = b2
  · rw [decide_eq_true hr, Bool.not_true, cond_false]
    by_cases hlen : a1.length = b1.length
    · rw [decide_eq_true hlen, Bool.not_true, cond_false]
      refine (range1 (R := Rt_r_SameGraphs) a1 (fun rest i => some (decide (rest = b1.drop i), ())) hl (fun K => ?_) (fun K i v rest r h => ?_)).trans (by rw [List.drop_zero]; simp [hr])
      · simp only [R_r_SameGraphs_5, ilt_self, cond_false]
        rw [List.drop_of_length_le (by omega), decide_eq_true rfl]
      · have hi : i < b1.length := by have := r.lt; dsimp only at *; omega
        have hd : b1.drop i = b1[i] :: b1.drop (i + 1) := List.drop_eq_getElem_cons hi
        have hb : jget b1 (Int.ofNat i) = some b1[i] := jget_nat.trans (List.getElem?_eq_getElem hi)
        have hg := r.get
        simp only [R_r_SameGraphs_5, r.ilt, hg, hb, r.next, h, cond_true, hd]
        generalize b1[i] = w
        obtain ⟨v1, v2⟩ := v
        obtain ⟨w1, w2⟩ := w
        simp only [keqS, S.sameVals]
        by_cases e1 : v1 = w1 <;> by_cases e2 : v2 = w2 <;> simp [e1, e2]
    · have hn : ¬ (a1, a2) = (b1, b2) := fun e => hlen (by rw [(Prod.mk.inj e).1])
      rw [decide_eq_false hlen, Bool.not_false, cond_true, decide_eq_false hn]
  · have hn : ¬ (a1, a2) = (b1, b2) := fun e => hr (Prod.mk.inj e).2
    rw [decide_eq_false hr, Bool.not_false, cond_true, decide_eq_false hn]
theorem con_r_SameGraphs : Con Try.prog id_r_SameGraphs sp_r_SameGraphs := mk_r_SameGraphs ⟨con_r_SameVals, trivial⟩ fun x y hx h => ⟨LF, (F_r_SameGraphs_eq _ _ (wf_len hx.1.1)).trans h⟩
theorem F_l_few_eq (g : DGraph) (hl : g.1.length < LF) : F_l_few LF g = some (S.few g, ()) := by
  simp only [F_l_few, R_l_few_in, S.few]
  refine range1 (R := Rt_l_few) g.1 (fun rest i => some (rest.all (fun n => decide ((n.2.length ≤ 8 ∨ 30 < n.2.length) ∧ n.2.length ≤ 40)) && decide ((g.1.length ≤ 30 ∨ 400 < g.1.length ∧ g.1.length ≤ 410) ∧ (g.2.length ≤ 10 ∨ 60 < g.2.length ∧ g.2.length ≤ 70)), ())) hl (fun K => ?_) (fun K i v rest r h => ?_)
  · simp only [R_l_few_3, ilt_self, cond_false, ilt_nat, List.all_nil, Bool.true_and]
    generalize g.1.length = n
    generalize g.2.length = k
    by_cases a1 : 30 < n <;> by_cases a2 : 400 < n <;> by_cases a3 : 410 < n <;> by_cases b1 : 10 < k <;> by_cases b2 : 60 < k <;> by_cases b3 : 70 < k <;> simp [a1, a2, a3, b1, b2, b3] <;> omega
  · simp only [R_l_few_3, r.ilt, r.get, r.next, h, cond_true, ilt_nat, List.all_cons]
    generalize v.2.length = n
    generalize (rest.all fun n => decide ((n.2.length ≤ 8 ∨ 30 < n.2.length) ∧ n.2.length ≤ 40)) = w
    by_cases a1 : 8 < n
    · rw [decide_eq_true a1, cond_true]
      by_cases a2 : 30 < n
      · rw [decide_eq_true a2, Bool.not_true, cond_false]
        by_cases a3 : 40 < n
        · have e : decide ((n ≤ 8 ∨ 30 < n) ∧ n ≤ 40) = false := decide_eq_false (by omega)
          rw [e, decide_eq_true a3]; rfl
        · have e : decide ((n ≤ 8 ∨ 30 < n) ∧ n ≤ 40) = true := decide_eq_true (by omega)
          rw [e, decide_eq_false a3]; cases w <;> rfl
      · have e : decide ((n ≤ 8 ∨ 30 < n) ∧ n ≤ 40) = false := decide_eq_false (by omega)
        rw [e, decide_eq_false a2]; rfl
    · rw [decide_eq_false a1, cond_false]
      have e : decide ((n ≤ 8 ∨ 30 < n) ∧ n ≤ 40) = true := decide_eq_true (by omega)
      have a3 : ¬ 40 < n := by omega
      rw [e, decide_eq_false a3]; cases w <;> rfl
theorem con_l_few : Con Try.prog id_l_few sp_l_few := mk_l_few trivial fun x y hx h => ⟨LF, (F_l_few_eq _ (wf_len hx.1.1)).trans h⟩
theorem few_inner (l : List DForm) (K2 : Int → Option Rt_l_fewForms) (i : Nat) (f : DForm) (hf : jget l (Int.ofNat i) = some f) (hl : f.2.length < LF) :
    G_l_fewForms_8 LF l K2 LF (Int.ofNat f.2.length, Int.ofNat 0, Int.ofNat i) = cond (f.2.all fun c => decide (c.1.size ≤ 30 ∧ c.2.2.size ≤ 30)) (K2 (IntKind.i64.wrap (Int.add (Int.ofNat i) (Int.ofNat 1)))) (some (false, ())) := by
  refine range0 (σ := Unit) (R := Rt_l_fewForms) f.2 (fun k _ => (Int.ofNat f.2.length, k, Int.ofNat i)) (fun _ _ => True) (fun rest k _ => cond (rest.all fun c => decide (c.1.size ≤ 30 ∧ c.2.2.size ≤ 30)) (K2 (IntKind.i64.wrap (Int.add (Int.ofNat i) (Int.ofNat 1)))) (some (false, ()))) hl (fun K s _ => ?_) (fun K k c rest s _ r h => ?_) () trivial
  · simp only [R_l_fewForms_8, ilt_self, cond_false, List.all_nil, cond_true]
  · have h := h () trivial
    simp only [R_l_fewForms_8, hf, r.ilt, r.get, r.next, h, cond_true, ilt_nat, List.all_cons]
    by_cases a1 : 30 < c.1.size
    · have e : decide (c.1.size ≤ 30 ∧ c.2.2.size ≤ 30) = false := decide_eq_false (by omega)
      rw [e, decide_eq_true a1]; rfl
    by_cases a2 : 30 < c.2.2.size
    · have e : decide (c.1.size ≤ 30 ∧ c.2.2.size ≤ 30) = false := decide_eq_false (by omega)
      rw [e, decide_eq_false a1, decide_eq_true a2]; rfl
    · have e : decide (c.1.size ≤ 30 ∧ c.2.2.size ≤ 30) = true := decide_eq_true (by omega)
      rw [e, decide_eq_false a1, decide_eq_false a2, Bool.true_and]; rfl
theorem F_l_fewForms_eq (l : List DForm) (hl : l.length < LF) (hw : ∀ f ∈ l, f.2.length < LF) : F_l_fewForms LF l = some (S.fewForms l, ()) := by
  simp only [F_l_fewForms, R_l_fewForms_in, S.fewForms]
  refine range1 (R := Rt_l_fewForms) l (fun rest i => some (rest.all (fun f => decide (f.1.size ≤ 30 ∧ (f.2.length ≤ 6 ∨ 30 < f.2.length) ∧ f.2.length ≤ 40) && f.2.all fun c => decide (c.1.size ≤ 30 ∧ c.2.2.size ≤ 30)) && decide (l.length ≤ 6 ∨ 24 < l.length ∧ l.length ≤ 30), ())) hl (fun K => ?_) (fun K i v rest r h => ?_)
  · simp only [R_l_fewForms_2, ilt_self, cond_false, ilt_nat, List.all_nil, Bool.true_and]
    by_cases h8 : 6 < l.length <;> by_cases h24 : 24 < l.length <;> by_cases h30 : 30 < l.length <;> simp [h8, h24, h30] <;> omega
  · have hin := few_inner l K i v r.get (hw v r.mem)
    rw [r.next, h] at hin
    simp only [R_l_fewForms_2, r.ilt, r.get, cond_true, ilt_nat, List.all_cons]
    simp only [hin]
    generalize (v.2.all fun c => decide (c.1.size ≤ 30 ∧ c.2.2.size ≤ 30)) = w
    generalize v.2.length = n
    generalize v.1.size = m
    by_cases a0 : 30 < m
    · have e : decide (m ≤ 30 ∧ (n ≤ 6 ∨ 30 < n) ∧ n ≤ 40) = false := decide_eq_false (by omega)
      rw [e, decide_eq_true a0]; rfl
    rw [decide_eq_false a0, cond_false]
    by_cases a1 : 6 < n
    · rw [decide_eq_true a1, cond_true]
      by_cases a2 : 30 < n
      · rw [decide_eq_true a2, Bool.not_true, cond_false]
        by_cases a3 : 40 < n
        · have e : decide (m ≤ 30 ∧ (n ≤ 6 ∨ 30 < n) ∧ n ≤ 40) = false := decide_eq_false (by omega)
          rw [e, decide_eq_true a3]; rfl
        · have e : decide (m ≤ 30 ∧ (n ≤ 6 ∨ 30 < n) ∧ n ≤ 40) = true := decide_eq_true (by omega)
          rw [e, decide_eq_false a3]; cases w <;> rfl
      · have e : decide (m ≤ 30 ∧ (n ≤ 6 ∨ 30 < n) ∧ n ≤ 40) = false := decide_eq_false (by omega)
        rw [e, decide_eq_false a2]; rfl
    · rw [decide_eq_false a1, cond_false]
      have e : decide (m ≤ 30 ∧ (n ≤ 6 ∨ 30 < n) ∧ n ≤ 40) = true := decide_eq_true (by omega)
      have a3 : ¬ 40 < n := by omega
      rw [e, decide_eq_false a3]; cases w <;> rfl
theorem con_l_fewForms : Con Try.prog id_l_fewForms sp_l_fewForms := mk_l_fewForms trivial fun x y hx h => ⟨LF, (F_l_fewForms_eq _ (wf_len hx.1) fun f hf => wf_len (hx.1.2 f hf).2).trans h⟩
end Go.Proofs.Ytcnhjofpmpipfaa
end

/- Contracts of Join, Part, Canon, Same of the reference; Part, Canon, Same of the package in the same form. -/
section
set_option linter.unusedVariables false
namespace Go.Proofs.Ytcnhjofpmpipfaa
open Go Go.Sx Go.RowKit Go.Jx
section
variable {a b : List (ByteArray × List (Int × Int)) × List (Int × Int)}
theorem ieq_t {x y : Int} (h : x = y) : ieqI x y = true := by rw [ieqI_eq]; exact decide_eq_true h
theorem ieq_f {x y : Int} (h : ¬ x = y) : ieqI x y = false := by rw [ieqI_eq]; exact decide_eq_false h
theorem ilt_t {x y : Int} (h : x < y) : iltI x y = true := by rw [iltI_eq]; exact decide_eq_true h
theorem ilt_f {x y : Int} (h : ¬ x < y) : iltI x y = false := by rw [iltI_eq]; exact decide_eq_false h
end
/-! ### Canon -/
section
variable {g a b : List DNode × List DVal}
/-! ### Part -/
theorem part_formed (hf : S.formed g = 0) {v : DVal} (hv : v ∈ g.2) : S.formed ((g.1, [v]) : List DNode × List DVal) = 0 := by
  obtain ⟨f1, f2, f3, f4, f5⟩ := formed_zero hf
  exact formed_of f1 (by show 1 ≤ 60; omega) f3 f4 (fun w hw => by rw [List.mem_singleton.1 hw]; exact f5 v hv)
theorem F_p_Part_eq (lf : Nat) (k : Int) : F_p_Part lf g k = some ((S.partB g k).1, (S.partB g k).2, ()) := by
  simp only [F_p_Part, R_p_Part_in, S.partB]
  by_cases f : S.formed g = 0
  · have kf : ieqI (S.formed (g.1, g.2)) (Int.ofNat 0) = true := ieq_t f
    rw [if_neg (by simpa using f)]
    have f2 : g.2.length ≤ 60 := (formed_zero f).2.1
    have w1 : IntKind.i64.wrap (Int.sub (Int.ofNat g.2.length) (Int.ofNat 1)) = (g.2.length : Int) - 1 := w64 (by show _ ≤ (g.2.length : Int) - 1; omega) (by show (g.2.length : Int) - 1 ≤ _; omega)
    by_cases hk : 0 ≤ k ∧ k < (g.2.length : Int)
    · obtain ⟨h0, h1⟩ := hk
      obtain ⟨v, v1, v2, v3⟩ := jget_of (l := g.2) h0 h1
      have hw : S.within k (Int.ofNat 0) ((g.2.length : Int) - 1) = true := by unfold S.within; rw [decide_eq_true (show Int.ofNat 0 ≤ k from h0), decide_eq_true (by omega)]; rfl
      have w2 : IntKind.i64.wrap (Int.add k (Int.ofNat 1)) = k + 1 := w64 (n := k + 1) (by omega) (by omega)
      have hl : lchk k (k + 1) (Int.ofNat g.2.length) (Int.ofNat g.2.length) = true := lchk_iff.2 ⟨h0, by omega, by show k + 1 ≤ (g.2.length : Int); omega, Int.le_refl _⟩
      have hs : lsub g.2 k (k + 1) = [v] := by
        have hk2 : k.toNat < g.2.length := by omega
        unfold lsub
        rw [show (k + 1).toNat = k.toNat + 1 by omega, List.take_add_one, v2, List.drop_append_of_le_length (by simp; omega)]
        simp
      have hc : S.canonO ((g.1, [v]) : List DNode × List DVal) = some (S.canonG (g.1, [v]), S.numsG (g.1, [v]), ()) := (canon_ok (gf_of (part_formed f v3))).1
      have v1' : jget (α := DVal) g.2 k = some v := v1
      simp only [kf, Bool.not_true, cond_false, w1, hw, w2, hl, cond_true, hs, v1']
      rw [hc]; rfl
    · have hw : S.within k (Int.ofNat 0) ((g.2.length : Int) - 1) = false := by
        unfold S.within
        by_cases h0 : 0 ≤ k
        · rw [decide_eq_false (show ¬ k ≤ (g.2.length : Int) - 1 by omega), Bool.and_false]
        · rw [decide_eq_false (show ¬ Int.ofNat 0 ≤ k from h0), Bool.false_and]
      have v1 : jget (α := DVal) g.2 k = none := by
        unfold jget
        by_cases h0 : 0 ≤ k
        · rw [if_pos h0]; exact List.getElem?_eq_none (by omega)
        · rw [if_neg h0]
      simp only [kf, Bool.not_true, cond_false, w1, hw, Bool.not_false, cond_true, v1]; rfl
  · have kf : ieqI (S.formed (g.1, g.2)) (Int.ofNat 0) = false := ieq_f f
    rw [if_pos f, kf]; rfl
end
theorem con_p_PartB : Con Try.prog id_p_Part sp_p_PartB := mk_p_Part ⟨con_p_formed, con_p_canon, con_p_within, trivial⟩ fun x y hx h => ⟨0, (F_p_Part_eq (g := x.1) 0 x.2.1).trans h⟩
end Go.Proofs.Ytcnhjofpmpipfaa
end

/- Parts of a joined graph; how long their bytes are: plain laws. -/
section
set_option linter.unusedVariables false
namespace Go.Proofs.Ytcnhjofpmpipfaa
open Go Go.Sx Go.RowKit Go.Jx
/-! ### Right graphs inside right graphs -/
theorem mvV_id : ∀ v : Int × Int, S.mvV (fun k => k) v = v := fun v => by unfold S.mvV; split <;> rfl
theorem map_id2 (l : List (Int × Int)) : l.map (S.mvV fun k => k) = l := by
  rw [List.map_congr_left (g := id) fun v _ => mvV_id v, List.map_id]
theorem right_of {l : List DForm} {π : Int → Int} {x y : List DNode × List DVal} (hn : ∀ (k : Int) (v : ByteArray × List DVal), jget x.1 k = some v → jget y.1 (π k) = some ((v.1, List.map (α := Int × Int) (β := Int × Int) (S.mvV π) v.2) : ByteArray × List DVal))
    (hf : S.formed x = 0) (hy : GraphOK l y) : GraphOK l x := by
  have hidx : ∀ n ∈ x.1, ∃ k, jget x.1 k = some n ∧ jget y.1 (π k) = some (((n : ByteArray × List DVal).1, List.map (α := Int × Int) (β := Int × Int) (S.mvV π) (n : ByteArray × List DVal).2) : ByteArray × List DVal) := fun n hn' => by
    obtain ⟨i, hi, rfl⟩ := List.mem_iff_getElem.1 hn'
    have : jget x.1 (Int.ofNat i) = some x.1[i] := by rw [jget_nat]; exact List.getElem?_eq_getElem hi
    exact ⟨_, this, hn _ _ this⟩
  have hmem : ∀ {k : Int} {w : DNode}, jget y.1 k = some w → w ∈ y.1 := fun h => by
    obtain ⟨_, hi, e⟩ := jget_some h
    exact e ▸ List.getElem_mem hi
  refine ⟨hf, fun n hn' => ?_, typed_of fun n hn' => ?_⟩
  · obtain ⟨k, k1, k2⟩ := hidx n hn'
    have := hy.has _ (hmem k2)
    exact this
  · obtain ⟨k, k1, k2⟩ := hidx n hn'
    obtain ⟨t1, t2⟩ := typed_len hy.typed _ (hmem k2)
    have t1 : (List.map (α := Int × Int) (β := Int × Int) (S.mvV π) (n : ByteArray × List DVal).2).length = (S.colsOf l (n : ByteArray × List DVal).1).length := t1
    have t3 : (n : ByteArray × List DVal).2.length = (S.colsOf l (n : ByteArray × List DVal).1).length := by rw [List.length_map] at t1; exact t1
    refine ⟨t3, (suitsAll_iff _ _ _ t3).2 fun i h1 h2 => ?_⟩
    have t2 := (suitsAll_iff _ _ _ t1).1 t2
    have h3 : i < (List.map (α := Int × Int) (β := Int × Int) (S.mvV π) (n : ByteArray × List DVal).2).length := by rw [List.length_map]; exact h2
    have hs := t2 i h1 h3
    have e : (List.map (α := Int × Int) (β := Int × Int) (S.mvV π) (n : ByteArray × List DVal).2)[i]'h3 = S.mvV π ((n : ByteArray × List DVal).2[i]'h2) := List.getElem_map _
    rw [e] at hs
    have hs := (suits_iff _ _ _).1 hs
    generalize hv : (n : ByteArray × List DVal).2[i]'h2 = v at hs
    have hvm : v ∈ (n : ByteArray × List DVal).2 := hv ▸ List.getElem_mem h2
    have hkind : (S.mvV π v).1 = (v : Int × Int).1 := mvV_kind π v
    refine (suits_iff _ _ _).2 ⟨fun q => hkind.symm.trans (hs.1 q), fun q => hkind.symm.trans (hs.2.1 q), fun q1 q2 => ?_⟩
    rcases hs.2.2 q1 q2 with r | ⟨r, r2⟩
    · exact .inl (hkind.symm.trans r)
    · have r' : (v : Int × Int).1 = 4 := hkind.symm.trans r
      refine .inr ⟨r', r2.imp id fun r3 => ?_⟩
      have e2 : (S.mvV π v).2 = π (v : Int × Int).2 := by unfold S.mvV; rw [if_pos r']
      obtain ⟨g1, g2⟩ := (gf_of hf).ref n hn' (v : Int × Int).2 (refsL_mem hvm r')
      obtain ⟨w, w1, w2, w3⟩ := jget_of (l := x.1) g1 g2
      have w4 := hn _ _ w1
      obtain ⟨p0, pi, pe⟩ := jget_some w4
      have e3 : (S.at_ S.zNode y.1 (π (v : Int × Int).2) : ByteArray × List DVal).1 = (w : ByteArray × List DVal).1 := by
        unfold S.at_; rw [List.getElem?_eq_getElem pi, pe]; rfl
      have e4 : (S.at_ S.zNode x.1 (v : Int × Int).2 : ByteArray × List DVal).1 = (w : ByteArray × List DVal).1 := by
        unfold S.at_; rw [w2]; rfl
      have r3 : (S.at_ S.zNode y.1 (S.mvV π v).2 : ByteArray × List DVal).1 = _ := r3
      rw [e2, e3] at r3
      exact e4.trans r3
theorem canon_right2 {l : List DForm} {x : List DNode × List DVal} (hx : GraphOK l x) : GraphOK l (S.canonG x) :=
  right_of (emb_canon (gf_of hx.formed)).node (canon_formed2 hx.formed) hx
theorem part_right {l : List DForm} {g : List DNode × List DVal} (h : GraphOK l g) {v : DVal} (hv : v ∈ g.2) : GraphOK l ((g.1, [v]) : List DNode × List DVal) :=
  right_of (π := fun k => k) (fun k w hw => by rw [map_id2]; exact hw) (part_formed h.formed hv) h
/-! ### What is reached from a part is reached from the whole -/
theorem walk_sub {nd : List DNode} {C : Int → Prop} (hC : ∀ a, C a → ∀ k ∈ S.refsL (S.nodeAt nd a : ByteArray × List DVal).2, C k) : ∀ (f : Nat) (o : List Int) (i : Nat), (∀ k ∈ o, C k) → ∀ k ∈ S.walk nd f o i, C k
  | 0, o, i, ho, k, hk => ho k hk
  | f + 1, o, i, ho, k, hk => by
    unfold S.walk at hk
    split at hk
    · exact ho k hk
    rename_i a ha
    split at hk
    · exact ho k hk
    rename_i v hv
    refine walk_sub hC f _ (i + 1) (fun j hj => ?_) k hk
    rcases (meetL_mem _ _ j).1 hj with h | h
    · exact ho j h
    · have e : S.nodeAt nd a = v := by unfold S.nodeAt; rw [hv]; rfl
      have := hC a (ho a (List.mem_of_getElem? ha)) j
      rw [e] at this
      exact this h
theorem refsL_sub {v : Int × Int} {l : List (Int × Int)} (hv : v ∈ l) : ∀ k ∈ S.refsL [v], k ∈ S.refsL l := fun k hk => by
  simp only [S.refsL] at hk
  split at hk
  · rename_i h4
    rw [List.mem_singleton.1 hk]; exact refsL_mem hv h4
  · cases hk
theorem ord_sub {g : List DNode × List DVal} (hf : S.formed g = 0) {v : DVal} (hv : v ∈ g.2) : ∀ k ∈ S.ord ((g.1, [v]) : List DNode × List DVal), k ∈ S.ord g := by
  obtain ⟨c1, c2, c3⟩ := ord_closed (gf_of hf)
  refine walk_sub (C := fun k => k ∈ S.ord g) (fun a ha k hk => c2 a ha k hk) _ _ _ fun k hk => ?_
  rcases (meetL_mem _ _ k).1 hk with h | h
  · cases h
  · exact c3 k (refsL_sub hv k h)
/-! ### How long -/
def lenV (v : Int × Int) : Nat := if v.1 = 4 then 1 else (S.num (S.code v)).length
def lenN (l : List DForm) (n : ByteArray × List (Int × Int)) : Nat := (S.num (S.form l n.1)).length + (n.2.map lenV).sum
theorem num_one {n : Int} (h0 : 0 ≤ n) (h : n < 64) : (S.num n).length = 1 := by
  unfold S.num
  rw [if_neg (by omega), numU_lt (by omega)]; rfl
theorem num_pos (n : Int) : 1 ≤ (S.num n).length := by
  unfold S.num
  generalize (if n < 0 then -2 * n - 1 else 2 * n) = u
  by_cases h : u < 128
  · rw [numU_lt h]; exact Nat.le_refl _
  · rw [numU_ge h]; simp
theorem codes_sum : ∀ (vs : List (Int × Int)), (∀ v ∈ vs, v.1 = 4 → 0 ≤ v.2 ∧ v.2 < 63) → (S.codes vs).length = (vs.map lenV).sum
  | [], _ => rfl
  | v :: vs, h => by
    have ih := codes_sum vs fun w hw => h w (List.mem_cons_of_mem _ hw)
    rw [codes_cons, List.length_append, ih, List.map_cons, List.sum_cons]
    congr 1
    unfold lenV
    by_cases h4 : v.1 = 4
    · rw [if_pos h4]
      obtain ⟨h1, h2⟩ := h v (List.mem_cons_self ..) h4
      unfold S.code
      rw [if_neg (by omega), if_pos h4, w64 (n := v.2 + 1) (by omega) (by omega)]
      exact num_one (by omega) (by omega)
    · rw [if_neg h4]
theorem lenV_moved (es : List (Int × Int)) (v : Int × Int) : lenV (S.movedV es v) = lenV v := by
  unfold lenV S.movedV
  by_cases h4 : v.1 = 4
  · rw [if_pos h4, if_pos h4, if_pos h4]
  · rw [if_neg h4, if_neg h4]
theorem lenV_movedL (es : List (Int × Int)) (l : List (Int × Int)) : ((S.movedL es l).map lenV).sum = (l.map lenV).sum := by
  unfold S.movedL
  rw [List.map_map]
  congr 1
  exact List.map_congr_left fun v _ => lenV_moved es v
theorem encN_len {l : List DForm} {n : ByteArray × List (Int × Int)} (h : ∀ v ∈ n.2, v.1 = 4 → 0 ≤ v.2 ∧ v.2 < 63) : (S.encN l n).length = lenN l n := by
  unfold S.encN lenN; rw [List.length_append, codes_sum _ h]
theorem flat_sum {l : List DForm} : ∀ (ns : List (ByteArray × List (Int × Int))), (∀ n ∈ ns, ∀ v ∈ n.2, v.1 = 4 → 0 ≤ v.2 ∧ v.2 < 63) → (ns.flatMap (S.encN l)).length = (ns.map (lenN l)).sum
  | [], _ => rfl
  | n :: ns, h => by
    rw [List.flatMap_cons, List.length_append, List.map_cons, List.sum_cons, flat_sum ns fun m hm => h m (List.mem_cons_of_mem _ hm), encN_len (h n (List.mem_cons_self ..))]
theorem enc_len {l : List DForm} {x : List DNode × List DVal} (hf : S.formed x = 0) (h60 : x.1.length ≤ 60) :
    (S.enc l (S.canonG x)).length = 1 + (((S.ord x).map fun k => lenN l (S.nodeAt x.1 k)).sum + ((S.num (Int.ofNat x.2.length)).length + (x.2.map lenV).sum)) := by
  obtain ⟨f1, f2, f3, f4, f5⟩ := formed_zero (canon_formed2 hf)
  have ho := (ord_closed (gf_of hf)).1
  have hlen : (S.canonG x : List DNode × List DVal).1.length ≤ 60 := by rw [canon_len]; exact Nat.le_trans ho.len h60
  have hval : ∀ v : Int × Int, S.value v (Int.ofNat (S.canonG x : List DNode × List DVal).1.length) = true → v.1 = 4 → 0 ≤ v.2 ∧ v.2 < 63 := fun v hv h4 => by
    rcases (value_iff (by omega) v).1 hv with ⟨q, _⟩ | ⟨q, _⟩ | ⟨q, _⟩ | ⟨_, b, c⟩
    · have q : v.1 = 1 := q; omega
    · have q : v.1 = 2 := q; omega
    · have q : v.1 = 3 := q; omega
    · have b : 0 ≤ v.2 := b
      have c : v.2 < ((S.canonG x : List DNode × List DVal).1.length : Int) := c
      omega
  have e1 := flat_sum (l := l) (S.canonG x : List DNode × List DVal).1 fun n hn v hv => hval v (f4 n hn v hv)
  have e2 := codes_sum (S.canonG x : List DNode × List DVal).2 fun v hv => hval v (f5 v hv).1
  have e3 : (S.num (Int.ofNat (S.canonG x : List DNode × List DVal).1.length)).length = 1 := num_one (Int.natCast_nonneg _) (by show ((S.canonG x : List DNode × List DVal).1.length : Int) < 64; omega)
  have e4 : (S.canonG x : List DNode × List DVal).2.length = x.2.length := by rw [canon_roots (gf_of hf), List.length_map]
  unfold S.enc
  rw [List.length_append, List.length_append, List.length_append, e1, e2, e3, e4]
  have r2 : ((S.canonG x : List DNode × List DVal).2.map lenV).sum = (x.2.map lenV).sum := lenV_movedL _ _
  have r1 : ((S.canonG x : List DNode × List DVal).1.map (lenN l)).sum = ((S.ord x).map fun k => lenN l (S.nodeAt x.1 k)).sum := by
    have hk : ∀ k, lenN l (S.newNode x.1 (S.tab (S.ord x)) k) = lenN l (S.nodeAt x.1 k) := fun k => by
      unfold lenN S.newNode
      simp only [lenV_movedL]
    have e : List.map (α := ByteArray × List (Int × Int)) (lenN l) ((S.ord x).map (S.newNode x.1 (S.tab (S.ord x)))) = (S.ord x).map fun k => lenN l (S.nodeAt x.1 k) := by
      rw [List.map_map]
      exact List.map_congr_left fun k _ => hk k
    exact congrArg List.sum e
  rw [r2]
  have r1 : (List.map (α := ByteArray × List (Int × Int)) (lenN l) (S.canonG x : List DNode × List DVal).1).sum = ((S.ord x).map fun k => lenN l (S.nodeAt x.1 k)).sum := r1
  rw [r1]
theorem sum_erase (f : Int → Nat) {x : Int} : ∀ {b : List Int}, x ∈ b → (b.map f).sum = f x + ((b.erase x).map f).sum
  | y :: b, h => by
    by_cases e : y = x
    · subst e; rw [List.erase_cons_head]; rfl
    · have hb : x ∈ b := by
        rcases List.mem_cons.1 h with h | h
        · exact absurd h.symm e
        · exact h
      have ih := sum_erase f hb
      rw [List.erase_cons_tail (by simpa using e), List.map_cons, List.sum_cons, List.map_cons, List.sum_cons, ih]; omega
theorem sum_sub (f : Int → Nat) : ∀ (a b : List Int), a.Nodup → (∀ k ∈ a, k ∈ b) → (a.map f).sum ≤ (b.map f).sum
  | [], b, _, _ => Nat.zero_le _
  | x :: a, b, hn, hs => by
    obtain ⟨h1, h2⟩ := List.nodup_cons.1 hn
    rw [sum_erase f (hs x (List.mem_cons_self ..)), List.map_cons, List.sum_cons]
    have := sum_sub f a (b.erase x) h2 fun k hk => (List.mem_erase_of_ne fun e => h1 (by rw [← e]; exact hk)).2 (hs k (List.mem_cons_of_mem _ hk))
    omega
theorem sum_mem {v : Int × Int} : ∀ {l : List (Int × Int)}, v ∈ l → lenV v ≤ (l.map lenV).sum
  | w :: l, h => by
    rw [List.map_cons, List.sum_cons]
    rcases List.mem_cons.1 h with rfl | h
    · omega
    · have := sum_mem h; omega
theorem part_len {l : List DForm} {g : List DNode × List DVal} (hf : S.formed g = 0) (h60 : g.1.length ≤ 60) {v : DVal} (hv : v ∈ g.2) : (S.enc l (S.canonG ((g.1, [v]) : List DNode × List DVal))).length ≤ (S.enc l (S.canonG g)).length := by
  have hp := part_formed hf hv
  have e1 := enc_len (l := l) hp h60
  have e2 := enc_len (l := l) hf h60
  have hs := sum_sub (fun k => lenN l (S.nodeAt g.1 k)) (S.ord ((g.1, [v]) : List DNode × List DVal)) (S.ord g) (ord_closed (gf_of hp)).1.nodup (ord_sub hf hv)
  have hm := sum_mem (v := v) hv
  have hn := num_pos (Int.ofNat g.2.length)
  have e3 : (S.num (Int.ofNat (([v] : List (Int × Int)).length))).length = 1 := num_one (n := 1) (by omega) (by omega)
  have e4 : (([v] : List (Int × Int)).map lenV).sum = lenV v := by simp
  have e1 : (S.enc l (S.canonG ((g.1, [v]) : List DNode × List DVal))).length = 1 + (((S.ord ((g.1, [v]) : List DNode × List DVal)).map fun k => lenN l (S.nodeAt g.1 k)).sum + ((S.num (Int.ofNat (([v] : List (Int × Int)).length))).length + (([v] : List (Int × Int)).map lenV).sum)) := e1
  rw [e1, e2, e3, e4]; omega
theorem encB_part {l : List DForm} {g : List DNode × List DVal} (h60 : g.1.length ≤ 60) (h : (S.encB l g).2 = 0) {v : DVal} (hv : v ∈ g.2) :
    (S.encB l (S.canonG ((g.1, [v]) : List DNode × List DVal))).2 = 0 ∧ (S.encB l (S.canonG ((g.1, [v]) : List DNode × List DVal))).1.length ≤ (S.encB l g).1.length := by
  by_cases hc : S.checkG l g = 0
  · have hcf : S.checkForms l = 0 := by
      unfold S.checkG at hc
      by_cases hf : S.checkForms l = 0
      · exact hf
      · rw [if_pos hf] at hc; exact hc
    have hck : S.check l g = 0 := by unfold S.checkG at hc; rw [if_neg (by simpa using hcf)] at hc; exact hc
    have hG := (graphOK_iff l g).1 hck
    have hP := part_right hG hv
    have hPc := canon_right2 hP
    have hcP : S.checkG l (S.canonG ((g.1, [v]) : List DNode × List DVal)) = 0 := by
      unfold S.checkG
      rw [if_neg (by simpa using hcf)]
      exact (graphOK_iff l _).2 hPc
    have hid := canon_idem hP.formed
    have hl := part_len (l := l) hG.formed h60 hv
    have hS4 : ∀ b : List Int, (S.sum4 b).length = 4 := fun _ => rfl
    unfold S.encB at h ⊢
    rw [if_pos hc] at h ⊢
    rw [if_pos hcP, hid]
    by_cases h6 : 60000 < (S.enc l (S.canonG g)).length + 4
    · rw [if_pos h6] at h; exact absurd h (by decide)
    · rw [if_neg h6, if_neg (by omega)]
      refine ⟨rfl, ?_⟩
      simp only [List.length_append, hS4]; omega
  · unfold S.encB at h
    rw [if_neg hc] at h
    exact absurd h hc
end Go.Proofs.Ytcnhjofpmpipfaa
end

/- Made by program: plain forms of functions. -/
section
set_option linter.unusedVariables false
set_option maxRecDepth 100000
noncomputable section
namespace Go.Proofs.Ytcnhjofpmpipfaa
open Go Go.Sx Go.RowKit Go.Jx
def nm_l_PackParts : Nat → Option Nm := fun k => cond (Nat.beq k 10) (some ⟨[0, 4, 5, 7, 9, 10, 62, 63], [], [], [], [], 0, 0, false⟩) (none)
def st_l_PackParts : Nat → Bool := fun k => cond (Nat.beq k 10) true (false)
def hd_l_PackParts : Nat → Bool := fun k => cond (Nat.beq k 10) true (false)
abbrev Rt_l_PackParts : Type := Bool × Unit
def sml_l_PackParts : List (Nat × Sm) := [(13, sp_l_fewForms), (14, sp_l_few), (15, sp_l_sanity), (32, sp_p_Join), (20, sp_p_Encode), (33, sp_p_PartB), (26, sp_r_SameGraphs)]
def hxl_l_PackParts : List (Nat × Hx) := []
def cl_l_PackParts (R : Type) (lf : Nat) : ClK R := icallK Try.prog ttT.get ftT.get (nm1 8 nm_l_PackParts) (smL sml_l_PackParts) (hxL hxl_l_PackParts) lf 20 R
abbrev id_l_PackParts : Nat := 8
def enc_l_PackParts_10 (x1 : (List DForm)) (x2 : DGraph) (x3 : DGraph) (p : Int) : NRes := (NRes.mk (PT.node (some (IV.lst cForm x1)) (PT.node none (PT.node none (PT.node (some (IV.ptr 2 0)) (PT.node none (PT.node none (PT.node (some (IV.int Go.IntKind.i64 p)) PT.leaf PT.leaf) PT.leaf) PT.leaf) PT.leaf) PT.leaf) (PT.node (some (IV.ptr 1 0)) (PT.node (some (IV.lst (TC.int Go.IntKind.u8) (Go.Proofs.Ytcnhjofpmpipfaa.S.encB x1 ((Go.Proofs.Ytcnhjofpmpipfaa.S.joinB (x2.1, x2.2) (x3.1, x3.2)).1.1, (Go.Proofs.Ytcnhjofpmpipfaa.S.joinB (x2.1, x2.2) (x3.1, x3.2)).1.2)).1)) PT.leaf PT.leaf) PT.leaf)) (PT.node none (PT.node (some (IV.ptr 0 0)) PT.leaf PT.leaf) (PT.node none (PT.node (some (IV.int Go.IntKind.i64 (Go.Proofs.Ytcnhjofpmpipfaa.S.encB x1 ((Go.Proofs.Ytcnhjofpmpipfaa.S.joinB (x2.1, x2.2) (x3.1, x3.2)).1.1, (Go.Proofs.Ytcnhjofpmpipfaa.S.joinB (x2.1, x2.2) (x3.1, x3.2)).1.2)).2)) PT.leaf PT.leaf) (PT.node none PT.leaf (PT.node none PT.leaf (PT.node (some (IV.int Go.IntKind.i64 (Int.ofNat (List.length (Go.Proofs.Ytcnhjofpmpipfaa.S.joinB (x2.1, x2.2) (x3.1, x3.2)).1.2)))) PT.leaf PT.leaf)))))) (IS.mk (PT.node (some (IObj.row (List.cons (IV.lst cNode x2.1) (List.cons (IV.lst cVal x2.2) [])))) (PT.node (some (IObj.row (List.cons (IV.lst cNode x3.1) (List.cons (IV.lst cVal x3.2) [])))) PT.leaf PT.leaf) (PT.node (some (IObj.row (List.cons (IV.lst cNode (Go.Proofs.Ytcnhjofpmpipfaa.S.joinB (x2.1, x2.2) (x3.1, x3.2)).1.1) (List.cons (IV.lst cVal (Go.Proofs.Ytcnhjofpmpipfaa.S.joinB (x2.1, x2.2) (x3.1, x3.2)).1.2) [])))) PT.leaf PT.leaf)) 3) [] 0)
def R_l_PackParts_in (lf : Nat) (x1 : (List DForm)) (x2 : DGraph) (x3 : DGraph) (L10 : Int → Option Rt_l_PackParts) : Option Rt_l_PackParts := (cond (Bool.not (Go.Proofs.Ytcnhjofpmpipfaa.S.fewForms x1)) (some (Bool.true, ())) (cond (Bool.not (Go.Proofs.Ytcnhjofpmpipfaa.S.few (x2.1, x2.2))) (some (Bool.true, ())) (cond (Bool.not (Go.Proofs.Ytcnhjofpmpipfaa.S.few (x3.1, x3.2))) (some (Bool.true, ())) (cond (Bool.not (ieqI (Go.Proofs.Ytcnhjofpmpipfaa.S.joinB (x2.1, x2.2) (x3.1, x3.2)).2 (Int.ofNat 0))) (some (Bool.true, ())) (cond (Bool.not (ieqI (Int.ofNat (List.length (Go.Proofs.Ytcnhjofpmpipfaa.S.joinB (x2.1, x2.2) (x3.1, x3.2)).1.2)) (Go.IntKind.wrap Go.IntKind.i64 (Int.ofNat (Nat.add (List.length x2.2) (List.length x3.2)))))) (some (Bool.false, ())) (L10 (Int.ofNat 0)))))))
def R_l_PackParts_10 (lf : Nat) (x1 : (List DForm)) (x2 : DGraph) (x3 : DGraph) (L10 : Int → Option Rt_l_PackParts) (p : Int) : Option Rt_l_PackParts := (cond (iltI p (Int.ofNat (List.length (Go.Proofs.Ytcnhjofpmpipfaa.S.joinB (x2.1, x2.2) (x3.1, x3.2)).1.2))) (cond (Bool.not (iltI p (Int.ofNat (List.length x2.2)))) (cond (Bool.not (ieqI (Go.Proofs.Ytcnhjofpmpipfaa.S.partB ((Go.Proofs.Ytcnhjofpmpipfaa.S.joinB (x2.1, x2.2) (x3.1, x3.2)).1.1, (Go.Proofs.Ytcnhjofpmpipfaa.S.joinB (x2.1, x2.2) (x3.1, x3.2)).1.2) p).2 (Int.ofNat 0))) (some (Bool.false, ())) (cond (Bool.not (ieqI (Go.Proofs.Ytcnhjofpmpipfaa.S.partB (x3.1, x3.2) (Go.IntKind.wrap Go.IntKind.i64 (Int.sub p (Int.ofNat (List.length x2.2))))).2 (Int.ofNat 0))) (some (Bool.false, ())) (cond (Bool.not (Go.Proofs.Ytcnhjofpmpipfaa.S.sameGraphs ((Go.Proofs.Ytcnhjofpmpipfaa.S.partB ((Go.Proofs.Ytcnhjofpmpipfaa.S.joinB (x2.1, x2.2) (x3.1, x3.2)).1.1, (Go.Proofs.Ytcnhjofpmpipfaa.S.joinB (x2.1, x2.2) (x3.1, x3.2)).1.2) p).1.1, (Go.Proofs.Ytcnhjofpmpipfaa.S.partB ((Go.Proofs.Ytcnhjofpmpipfaa.S.joinB (x2.1, x2.2) (x3.1, x3.2)).1.1, (Go.Proofs.Ytcnhjofpmpipfaa.S.joinB (x2.1, x2.2) (x3.1, x3.2)).1.2) p).1.2) ((Go.Proofs.Ytcnhjofpmpipfaa.S.partB (x3.1, x3.2) (Go.IntKind.wrap Go.IntKind.i64 (Int.sub p (Int.ofNat (List.length x2.2))))).1.1, (Go.Proofs.Ytcnhjofpmpipfaa.S.partB (x3.1, x3.2) (Go.IntKind.wrap Go.IntKind.i64 (Int.sub p (Int.ofNat (List.length x2.2))))).1.2))) (some (Bool.false, ())) (cond (Bool.not (ieqI (Go.Proofs.Ytcnhjofpmpipfaa.S.encB x1 ((Go.Proofs.Ytcnhjofpmpipfaa.S.joinB (x2.1, x2.2) (x3.1, x3.2)).1.1, (Go.Proofs.Ytcnhjofpmpipfaa.S.joinB (x2.1, x2.2) (x3.1, x3.2)).1.2)).2 (Int.ofNat 0))) (L10 (Go.IntKind.wrap Go.IntKind.i64 (Int.add p (Int.ofNat 1)))) (cond (Bool.not (ieqI (Go.Proofs.Ytcnhjofpmpipfaa.S.encB x1 ((Go.Proofs.Ytcnhjofpmpipfaa.S.partB ((Go.Proofs.Ytcnhjofpmpipfaa.S.joinB (x2.1, x2.2) (x3.1, x3.2)).1.1, (Go.Proofs.Ytcnhjofpmpipfaa.S.joinB (x2.1, x2.2) (x3.1, x3.2)).1.2) p).1.1, (Go.Proofs.Ytcnhjofpmpipfaa.S.partB ((Go.Proofs.Ytcnhjofpmpipfaa.S.joinB (x2.1, x2.2) (x3.1, x3.2)).1.1, (Go.Proofs.Ytcnhjofpmpipfaa.S.joinB (x2.1, x2.2) (x3.1, x3.2)).1.2) p).1.2)).2 (Int.ofNat 0))) (some (Bool.false, ())) (cond (iltI (Int.ofNat (List.length (Go.Proofs.Ytcnhjofpmpipfaa.S.encB x1 ((Go.Proofs.Ytcnhjofpmpipfaa.S.joinB (x2.1, x2.2) (x3.1, x3.2)).1.1, (Go.Proofs.Ytcnhjofpmpipfaa.S.joinB (x2.1, x2.2) (x3.1, x3.2)).1.2)).1)) (Int.ofNat (List.length (Go.Proofs.Ytcnhjofpmpipfaa.S.encB x1 ((Go.Proofs.Ytcnhjofpmpipfaa.S.partB ((Go.Proofs.Ytcnhjofpmpipfaa.S.joinB (x2.1, x2.2) (x3.1, x3.2)).1.1, (Go.Proofs.Ytcnhjofpmpipfaa.S.joinB (x2.1, x2.2) (x3.1, x3.2)).1.2) p).1.1, (Go.Proofs.Ytcnhjofpmpipfaa.S.partB ((Go.Proofs.Ytcnhjofpmpipfaa.S.joinB (x2.1, x2.2) (x3.1, x3.2)).1.1, (Go.Proofs.Ytcnhjofpmpipfaa.S.joinB (x2.1, x2.2) (x3.1, x3.2)).1.2) p).1.2)).1))) (some (Bool.false, ())) (L10 (Go.IntKind.wrap Go.IntKind.i64 (Int.add p (Int.ofNat 1)))))))))) (cond (Bool.not (ieqI (Go.Proofs.Ytcnhjofpmpipfaa.S.partB ((Go.Proofs.Ytcnhjofpmpipfaa.S.joinB (x2.1, x2.2) (x3.1, x3.2)).1.1, (Go.Proofs.Ytcnhjofpmpipfaa.S.joinB (x2.1, x2.2) (x3.1, x3.2)).1.2) p).2 (Int.ofNat 0))) (some (Bool.false, ())) (cond (Bool.not (ieqI (Go.Proofs.Ytcnhjofpmpipfaa.S.partB (x2.1, x2.2) p).2 (Int.ofNat 0))) (some (Bool.false, ())) (cond (Bool.not (Go.Proofs.Ytcnhjofpmpipfaa.S.sameGraphs ((Go.Proofs.Ytcnhjofpmpipfaa.S.partB ((Go.Proofs.Ytcnhjofpmpipfaa.S.joinB (x2.1, x2.2) (x3.1, x3.2)).1.1, (Go.Proofs.Ytcnhjofpmpipfaa.S.joinB (x2.1, x2.2) (x3.1, x3.2)).1.2) p).1.1, (Go.Proofs.Ytcnhjofpmpipfaa.S.partB ((Go.Proofs.Ytcnhjofpmpipfaa.S.joinB (x2.1, x2.2) (x3.1, x3.2)).1.1, (Go.Proofs.Ytcnhjofpmpipfaa.S.joinB (x2.1, x2.2) (x3.1, x3.2)).1.2) p).1.2) ((Go.Proofs.Ytcnhjofpmpipfaa.S.partB (x2.1, x2.2) p).1.1, (Go.Proofs.Ytcnhjofpmpipfaa.S.partB (x2.1, x2.2) p).1.2))) (some (Bool.false, ())) (cond (Bool.not (ieqI (Go.Proofs.Ytcnhjofpmpipfaa.S.encB x1 ((Go.Proofs.Ytcnhjofpmpipfaa.S.joinB (x2.1, x2.2) (x3.1, x3.2)).1.1, (Go.Proofs.Ytcnhjofpmpipfaa.S.joinB (x2.1, x2.2) (x3.1, x3.2)).1.2)).2 (Int.ofNat 0))) (L10 (Go.IntKind.wrap Go.IntKind.i64 (Int.add p (Int.ofNat 1)))) (cond (Bool.not (ieqI (Go.Proofs.Ytcnhjofpmpipfaa.S.encB x1 ((Go.Proofs.Ytcnhjofpmpipfaa.S.partB ((Go.Proofs.Ytcnhjofpmpipfaa.S.joinB (x2.1, x2.2) (x3.1, x3.2)).1.1, (Go.Proofs.Ytcnhjofpmpipfaa.S.joinB (x2.1, x2.2) (x3.1, x3.2)).1.2) p).1.1, (Go.Proofs.Ytcnhjofpmpipfaa.S.partB ((Go.Proofs.Ytcnhjofpmpipfaa.S.joinB (x2.1, x2.2) (x3.1, x3.2)).1.1, (Go.Proofs.Ytcnhjofpmpipfaa.S.joinB (x2.1, x2.2) (x3.1, x3.2)).1.2) p).1.2)).2 (Int.ofNat 0))) (some (Bool.false, ())) (cond (iltI (Int.ofNat (List.length (Go.Proofs.Ytcnhjofpmpipfaa.S.encB x1 ((Go.Proofs.Ytcnhjofpmpipfaa.S.joinB (x2.1, x2.2) (x3.1, x3.2)).1.1, (Go.Proofs.Ytcnhjofpmpipfaa.S.joinB (x2.1, x2.2) (x3.1, x3.2)).1.2)).1)) (Int.ofNat (List.length (Go.Proofs.Ytcnhjofpmpipfaa.S.encB x1 ((Go.Proofs.Ytcnhjofpmpipfaa.S.partB ((Go.Proofs.Ytcnhjofpmpipfaa.S.joinB (x2.1, x2.2) (x3.1, x3.2)).1.1, (Go.Proofs.Ytcnhjofpmpipfaa.S.joinB (x2.1, x2.2) (x3.1, x3.2)).1.2) p).1.1, (Go.Proofs.Ytcnhjofpmpipfaa.S.partB ((Go.Proofs.Ytcnhjofpmpipfaa.S.joinB (x2.1, x2.2) (x3.1, x3.2)).1.1, (Go.Proofs.Ytcnhjofpmpipfaa.S.joinB (x2.1, x2.2) (x3.1, x3.2)).1.2) p).1.2)).1))) (some (Bool.false, ())) (L10 (Go.IntKind.wrap Go.IntKind.i64 (Int.add p (Int.ofNat 1))))))))))) (some (Bool.true, ())))
theorem in_l_PackParts (g : ElA [(.list cForm), cGraph, cGraph] → Option Rt_l_PackParts) (J : Nat → List Nat → NRes → Option Rt_l_PackParts) (lf : Nat) (x1 : (List DForm)) (x2 : DGraph) (x3 : DGraph) : icodeT Try.prog ttT.get nm_l_PackParts fi8.nt (cl_l_PackParts _ lf) lf st_l_PackParts J fi8.body [] (argGo (argV [(.list cForm), cGraph, cGraph] (x1, x2, x3, ())) 0 .leaf) S0 [] (lastK ttT.get fi8 ⟨[(.list cForm), cGraph, cGraph], [(false, .bool)], g⟩) = R_l_PackParts_in lf x1 x2 x3 (fun q => J 10 [lf] (enc_l_PackParts_10 x1 x2 x3 q)) := by kernel_rfl
theorem st_l_PackParts_10 (g : ElA [(.list cForm), cGraph, cGraph] → Option Rt_l_PackParts) (J : Nat → List Nat → NRes → Option Rt_l_PackParts) (lf : Nat) (x1 : (List DForm)) (x2 : DGraph) (x3 : DGraph) (m1 : Nat) (p : Int) : icodeFT Try.prog ttT.get nm_l_PackParts fi8.nt (cl_l_PackParts _ lf) lf st_l_PackParts J 10 fi8.body [] [m1] (enc_l_PackParts_10 x1 x2 x3 p) (lastK ttT.get fi8 ⟨[(.list cForm), cGraph, cGraph], [(false, .bool)], g⟩) = R_l_PackParts_10 lf x1 x2 x3 (fun q => J 10 [m1] (enc_l_PackParts_10 x1 x2 x3 q)) p := by kernel_rfl
theorem nd_l_PackParts : (regs fi8.body).Nodup := by decide +kernel
theorem ok_l_PackParts : okC nm_l_PackParts st_l_PackParts hd_l_PackParts fi8.body none = true := by kernel_rfl
def A_l_PackParts (g : ElA [(.list cForm), cGraph, cGraph] → Option Rt_l_PackParts) (lf : Nat) : Nat → List Nat → NRes → Option Rt_l_PackParts := atN Try.prog ttT.get nm_l_PackParts fi8 ⟨[(.list cForm), cGraph, cGraph], [(false, .bool)], g⟩ (cl_l_PackParts _ lf) lf hd_l_PackParts
def G_l_PackParts_10 (lf : Nat) (x1 : (List DForm)) (x2 : DGraph) (x3 : DGraph) : Nat → (Int) → Option Rt_l_PackParts := rounds fun K p => R_l_PackParts_10 lf x1 x2 x3 K p
theorem at_l_PackParts_10 (g : ElA [(.list cForm), cGraph, cGraph] → Option Rt_l_PackParts) (lf : Nat) (x1 : (List DForm)) (x2 : DGraph) (x3 : DGraph) : ∀ (n : Nat) (p : Int), A_l_PackParts g lf 10 [n] (enc_l_PackParts_10 x1 x2 x3 p) = G_l_PackParts_10 lf x1 x2 x3 n p
  | 0, p => atN_zero 10 [0] rfl _
  | n + 1, p => by
    have ih := at_l_PackParts_10 g lf x1 x2 x3 n
    refine (atN_eq (icallK_eq 20 _) nd_l_PackParts ok_l_PackParts 10 [n + 1] [n] rfl _).trans ((st_l_PackParts_10 g (A_l_PackParts g lf) lf x1 x2 x3 n p).trans ?_)
    rw [(show (fun q => A_l_PackParts g lf 10 [n] (enc_l_PackParts_10 x1 x2 x3 q)) = (fun q => G_l_PackParts_10 lf x1 x2 x3 n q) from funext ih)]
    rfl
def F_l_PackParts (lf : Nat) (x1 : (List DForm)) (x2 : DGraph) (x3 : DGraph) : Option Rt_l_PackParts := R_l_PackParts_in lf x1 x2 x3 (fun q => G_l_PackParts_10 lf x1 x2 x3 lf q)
theorem run_l_PackParts (g : ElA [(.list cForm), cGraph, cGraph] → Option Rt_l_PackParts) (lf : Nat) (x1 : (List DForm)) (x2 : DGraph) (x3 : DGraph) : icodeT Try.prog ttT.get nm_l_PackParts fi8.nt (cl_l_PackParts _ lf) lf st_l_PackParts (A_l_PackParts g lf) fi8.body [] (argGo (argV [(.list cForm), cGraph, cGraph] (x1, x2, x3, ())) 0 .leaf) S0 [] (lastK ttT.get fi8 ⟨[(.list cForm), cGraph, cGraph], [(false, .bool)], g⟩) = F_l_PackParts lf x1 x2 x3 := by
    refine (in_l_PackParts g (A_l_PackParts g lf) lf x1 x2 x3).trans ?_
    rw [(show (fun q => A_l_PackParts g lf 10 [lf] (enc_l_PackParts_10 x1 x2 x3 q)) = (fun q => G_l_PackParts_10 lf x1 x2 x3 lf q) from funext fun q => at_l_PackParts_10 g lf x1 x2 x3 lf q)]
    rfl
theorem hxs_l_PackParts : HxsOK Try.prog hxl_l_PackParts := trivial
theorem mk_l_PackParts {g : ElA [(.list cForm), cGraph, cGraph] → Option Rt_l_PackParts} (hsm : SmOK Try.prog sml_l_PackParts) (hg : ∀ (x : ElA [(.list cForm), cGraph, cGraph]) (y : Rt_l_PackParts), WfA [(.list cForm), cGraph, cGraph] x → g x = some y → ∃ lf, F_l_PackParts lf x.1 x.2.1 x.2.2.1 = some y) : Con Try.prog 8 ⟨[(.list cForm), cGraph, cGraph], [(false, .bool)], g⟩ :=
  conT (nmf := nm_l_PackParts) (sml := sml_l_PackParts) (hxl := hxl_l_PackParts) (st := st_l_PackParts) (hd := hd_l_PackParts) 20 mixed ttOK ftOK hsm hxs_l_PackParts cal8 rfl rfl (by kernel_rfl) (fun x => by kernel_rfl) nd_l_PackParts ok_l_PackParts fun x y hx hy => by
    obtain ⟨lf, h⟩ := hg x y hx hy
    exact ⟨lf, (run_l_PackParts g lf x.1 x.2.1 x.2.2.1).trans h⟩
end Go.Proofs.Ytcnhjofpmpipfaa

end
end

/- Made by program: plain forms of functions. -/
section
set_option linter.unusedVariables false
set_option maxRecDepth 100000
noncomputable section
namespace Go.Proofs.Ytcnhjofpmpipfaa
open Go Go.Sx Go.RowKit Go.Jx
end Go.Proofs.Ytcnhjofpmpipfaa

end
end

/- The law of Canon, Same, Join, Part answers true on all data. -/
section
set_option linter.unusedVariables false
namespace Go.Proofs.Ytcnhjofpmpipfaa
open Go Go.Sx Go.RowKit Go.Jx
theorem sameG_refl (g : List DNode × List DVal) : S.sameGraphs g g = true := by unfold S.sameGraphs; exact decide_eq_true rfl
end Go.Proofs.Ytcnhjofpmpipfaa
end

/- The joined graph; the law of Part and Join answers true on all data. -/
section
set_option linter.unusedVariables false
namespace Go.Proofs.Ytcnhjofpmpipfaa
open Go Go.Sx Go.RowKit Go.Jx
theorem ieq_t0 {x : Int} (h : x = 0) : ieqI x (Int.ofNat 0) = true := ieq_t h
theorem ieq_f0 {x : Int} (h : ¬ x = 0) : ieqI x (Int.ofNat 0) = false := ieq_f h
theorem value_up {m n : Nat} (hm : m ≤ n) (hn : n ≤ 400) {v : Int × Int} (h : S.value v (Int.ofNat m) = true) : S.value v (Int.ofNat n) = true := by
  refine (value_iff hn v).2 ?_
  rcases (value_iff (by omega) v).1 h with q | q | q | ⟨a, b, c⟩
  · exact .inl q
  · exact .inr (.inl q)
  · exact .inr (.inr (.inl q))
  · refine .inr (.inr (.inr ⟨a, b, ?_⟩))
    have c : v.2 < (m : Int) := c
    show v.2 < (n : Int); omega
theorem byV_mv {m k : Nat} (hk : k ≤ 400) (hm : m ≤ 400) {v : Int × Int} (h : S.value v (Int.ofNat m) = true) : S.byV (Int.ofNat k) v = S.mvV (fun i => i + Int.ofNat k) v := by
  unfold S.byV S.mvV
  by_cases h4 : v.1 = 4
  · rw [if_pos h4, if_pos h4]
    obtain ⟨b, c⟩ := val_rng hm h
    have e : Int.add v.2 (Int.ofNat k) = v.2 + (k : Int) := rfl
    rw [e, w64 (by omega) (by omega)]; rfl
  · rw [if_neg h4, if_neg h4]
theorem value_by {m k : Nat} (hk : k + m ≤ 400) {v : Int × Int} (h : S.value v (Int.ofNat m) = true) : S.value (S.byV (Int.ofNat k) v) (Int.ofNat (k + m)) = true := by
  rw [byV_mv (by omega) (by omega) h]
  unfold S.mvV
  by_cases h4 : v.1 = 4
  · rw [if_pos h4]
    refine (value_iff hk _).2 (.inr (.inr (.inr ⟨h4, ?_⟩)))
    rcases (value_iff (by omega) v).1 h with ⟨q, _⟩ | ⟨q, _⟩ | ⟨q, _⟩ | ⟨a, b, c⟩
    · have q : v.1 = 1 := q; omega
    · have q : v.1 = 2 := q; omega
    · have q : v.1 = 3 := q; omega
    · have b : 0 ≤ v.2 := b
      have c : v.2 < (m : Int) := c
      exact ⟨by show 0 ≤ v.2 + (k : Int); omega, by show v.2 + (k : Int) < ((k + m : Nat) : Int); omega⟩
  · rw [if_neg h4]; exact value_up (by omega) hk h
theorem byV_kind (k : Int) (v : Int × Int) : (S.byV k v).1 = v.1 := by unfold S.byV; split <;> rfl
section
variable {a b : List (ByteArray × List (Int × Int)) × List (Int × Int)}
theorem join_formed (fa : S.formed a = 0) (fb : S.formed b = 0) (h4 : a.1.length + b.1.length ≤ 400) (h6 : a.2.length + b.2.length ≤ 60) : S.formed (S.joinG a b) = 0 := by
  obtain ⟨a1, a2, a3, a4, a5⟩ := formed_zero (g := a) fa
  obtain ⟨b1, b2, b3, b4, b5⟩ := formed_zero (g := b) fb
  have hl : (S.joinG a b).1.length = a.1.length + b.1.length := by show (a.1 ++ b.1.map _).length = _; rw [List.length_append, List.length_map]
  have hr : (S.joinG a b).2.length = a.2.length + b.2.length := by show (a.2 ++ S.byL _ _).length = _; rw [List.length_append, byL_len]
  refine formed_of (g := S.joinG a b) (by rw [hl]; exact h4) (by rw [hr]; exact h6) (fun n hn => ?_) (fun n hn v hv => ?_) (fun v hv => ?_)
  · rcases List.mem_append.1 (show n ∈ a.1 ++ b.1.map (S.byN (Int.ofNat a.1.length)) from hn) with h | h
    · exact a3 n h
    · obtain ⟨m, hm, rfl⟩ := List.mem_map.1 h
      show (S.byL m.2 _).length ≤ 30
      rw [byL_len]; exact b3 m hm
  · rw [show (S.joinG a b : List DNode × List DVal).1.length = a.1.length + b.1.length from hl]
    rcases List.mem_append.1 (show n ∈ a.1 ++ b.1.map (S.byN (Int.ofNat a.1.length)) from hn) with h | h
    · exact value_up (by omega) h4 (a4 n h v hv)
    · obtain ⟨m, hm, rfl⟩ := List.mem_map.1 h
      obtain ⟨w, hw, rfl⟩ := List.mem_map.1 (show v ∈ m.2.map (S.byV (Int.ofNat a.1.length)) from hv)
      exact value_by h4 (b4 m hm w hw)
  · rw [show (S.joinG a b : List DNode × List DVal).1.length = a.1.length + b.1.length from hl]
    rcases List.mem_append.1 (show v ∈ a.2 ++ b.2.map (S.byV (Int.ofNat a.1.length)) from hv) with h | h
    · exact ⟨value_up (by omega) h4 (a5 v h).1, (a5 v h).2⟩
    · obtain ⟨w, hw, rfl⟩ := List.mem_map.1 h
      refine ⟨value_by h4 (b5 w hw).1, ?_⟩
      have := (b5 w hw).2
      unfold S.refers at this ⊢
      rw [byV_kind]; exact this
theorem part_a (fa : S.formed a = 0) (fj : S.formed (S.joinG a b) = 0) {v : Int × Int} (hv : v ∈ a.2) : S.canonG (((S.joinG a b).1, [v]) : List DNode × List DVal) = S.canonG ((a.1, [v]) : List DNode × List DVal) := by
  have hx : S.formed ((a.1, [v]) : List DNode × List DVal) = 0 := part_formed (g := a) fa hv
  have hy : S.formed (((S.joinG a b).1, [v]) : List DNode × List DVal) = 0 := part_formed (g := S.joinG a b) fj (List.mem_append_left _ hv)
  refine canonG_emb (π := fun k => k) (x := (a.1, [v])) (y := ((S.joinG a b).1, [v])) ⟨fun _ _ _ _ _ _ h => h, fun k w hw => ?_, ?_⟩ (gf_of hx) (gf_of hy) (by show a.1.length ≤ (a.1 ++ _).length; rw [List.length_append]; omega)
  · rw [map_id2]
    obtain ⟨k0, hi, e⟩ := jget_some hw
    have hi : k.toNat < a.1.length := hi
    unfold jget
    rw [if_pos k0]
    show (a.1 ++ _)[k.toNat]? = some w
    rw [List.getElem?_append_left hi, List.getElem?_eq_getElem hi]
    exact congrArg some e
  · show [v] = List.map _ [v]
    rw [map_id2]
theorem part_b (fb : S.formed b = 0) (h4 : a.1.length + b.1.length ≤ 400) (fj : S.formed (S.joinG a b) = 0) {v : Int × Int} (hv : v ∈ b.2) :
    S.canonG (((S.joinG a b).1, [S.byV (Int.ofNat a.1.length) v]) : List DNode × List DVal) = S.canonG ((b.1, [v]) : List DNode × List DVal) := by
  have hx : S.formed ((b.1, [v]) : List DNode × List DVal) = 0 := part_formed (g := b) fb hv
  obtain ⟨b1, b2, b3, b4, b5⟩ := formed_zero (g := b) fb
  have b1 : b.1.length ≤ 400 := b1
  have hmv : S.byV (Int.ofNat a.1.length) v = S.mvV (fun i => i + Int.ofNat a.1.length) v := byV_mv (by omega) b1 (b5 v hv).1
  have hy : S.formed (((S.joinG a b).1, [S.byV (Int.ofNat a.1.length) v]) : List DNode × List DVal) = 0 := part_formed (g := S.joinG a b) fj (List.mem_append_right _ (List.mem_map.2 ⟨v, hv, rfl⟩))
  refine canonG_emb (π := fun i => i + Int.ofNat a.1.length) (x := (b.1, [v])) (y := ((S.joinG a b).1, [S.byV (Int.ofNat a.1.length) v])) ⟨fun x y _ _ _ _ h => by omega, fun k w hw => ?_, ?_⟩ (gf_of hx) (gf_of hy) (by show b.1.length ≤ (a.1 ++ b.1.map _).length; rw [List.length_append, List.length_map]; omega)
  · obtain ⟨k0, hi, e⟩ := jget_some hw
    have hi : k.toNat < b.1.length := hi
    have e : b.1[k.toNat] = w := e
    have hkn : (k + Int.ofNat a.1.length).toNat = a.1.length + k.toNat := by show (k + (a.1.length : Int)).toNat = _; omega
    unfold jget
    rw [if_pos (by show 0 ≤ k + (a.1.length : Int); omega)]
    show (a.1 ++ b.1.map (S.byN (Int.ofNat a.1.length)))[(k + Int.ofNat a.1.length).toNat]? = _
    rw [hkn, List.getElem?_append_right (by omega), Nat.add_sub_cancel_left, List.getElem?_map, List.getElem?_eq_getElem hi, e]
    simp only [Option.map_some, S.byN, S.byL]
    have hwm : w ∈ b.1 := e ▸ List.getElem_mem hi
    have : w.2.map (S.byV (Int.ofNat a.1.length)) = List.map (α := Int × Int) (β := Int × Int) (S.mvV fun i => i + Int.ofNat a.1.length) w.2 := List.map_congr_left fun u hu => byV_mv (by omega) b1 (b4 w hwm u hu)
    rw [this]
  · show [S.byV (Int.ofNat a.1.length) v] = List.map _ [v]
    rw [hmv]; rfl
theorem partB_of {g : List (ByteArray × List (Int × Int)) × List (Int × Int)} (hf : S.formed g = 0) {i : Nat} (hi : i < g.2.length) : S.partB g (Int.ofNat i) = (S.canonG ((g.1, [g.2[i]]) : List DNode × List DVal), 0) := by
  have hj : jget (α := DVal) g.2 (Int.ofNat i) = some g.2[i] := by rw [jget_nat]; exact List.getElem?_eq_getElem hi
  unfold S.partB
  rw [if_neg (by simpa using hf)]
  have hj : jget (α := DVal) (g : DGraph).2 (Int.ofNat i) = some g.2[i] := hj
  rw [hj]
theorem few_small {g : List (ByteArray × List (Int × Int)) × List (Int × Int)} (h : S.few g = true) (hf : S.formed g = 0) : g.1.length ≤ 30 := by
  have h4 : g.1.length ≤ 400 := (formed_zero (g := g) hf).1
  unfold S.few at h
  simp only [Bool.and_eq_true, decide_eq_true_eq] at h
  have h := h.2.1
  have h : g.1.length ≤ 30 ∨ 400 < g.1.length ∧ g.1.length ≤ 410 := h
  omega
theorem F_l_PackParts_eq (l : List DForm) : F_l_PackParts LF l a b = some (true, ()) := by
  have etaA : (a.1, a.2) = a := rfl
  have etaB : (b.1, b.2) = b := rfl
  have hJ : ∀ x y : List DNode × List DVal, ((S.joinB x y).1.1, (S.joinB x y).1.2) = (S.joinB x y).1 := fun _ _ => rfl
  simp only [F_l_PackParts, R_l_PackParts_in, G_l_PackParts_10]
  cases hfw : S.fewForms l with
  | false => rfl
  | true =>
  cases hwa : S.few (a.1, a.2) with
  | false => rfl
  | true =>
  cases hwb : S.few (b.1, b.2) with
  | false => rfl
  | true =>
  simp only [Bool.not_true, cond_false]
  by_cases he : (S.joinB (a.1, a.2) (b.1, b.2)).2 = 0
  · rw [show ieqI (S.joinB (a.1, a.2) (b.1, b.2)).2 (Int.ofNat 0) = true from ieq_t he, Bool.not_true, cond_false]
    have he' : (S.joinB a b).2 = 0 := he
    have key : S.formed a = 0 ∧ S.formed b = 0 ∧ a.1.length + b.1.length ≤ 400 ∧ a.2.length + b.2.length ≤ 60 ∧ S.joinB a b = (S.joinG a b, 0) := by
      unfold S.joinB at he' ⊢
      by_cases fa : S.formed a = 0
      · rw [if_neg (by simpa using fa)] at he' ⊢
        by_cases fb : S.formed b = 0
        · rw [if_neg (by simpa using fb)] at he' ⊢
          by_cases hs : 400 < a.1.length + b.1.length ∨ 60 < a.2.length + b.2.length
          · rw [if_pos hs] at he'; exact absurd he' (by decide)
          · rw [if_neg hs]
            exact ⟨fa, fb, by omega, by omega, rfl⟩
        · rw [if_pos fb] at he'; exact absurd he' fb
      · rw [if_pos fa] at he'; exact absurd he' fa
    obtain ⟨fa, fb, h4, h6, hj⟩ := key
    have hj' : S.joinB (a.1, a.2) (b.1, b.2) = (S.joinG a b, 0) := hj
    have fj := join_formed fa fb h4 h6
    have ha30 := few_small (g := a) hwa fa
    have hb30 := few_small (g := b) hwb fb
    have hjl : (S.joinG a b).1.length ≤ 60 := by show (a.1 ++ b.1.map _).length ≤ 60; rw [List.length_append, List.length_map]; omega
    have hrl : (S.joinG a b).2.length = a.2.length + b.2.length := by show (a.2 ++ S.byL _ _).length = _; rw [List.length_append, byL_len]
    have hw : IntKind.i64.wrap (Int.ofNat (Nat.add a.2.length b.2.length)) = Int.ofNat (a.2.length + b.2.length) := w64 (by show _ ≤ ((a.2.length + b.2.length : Nat) : Int); omega) (by show ((a.2.length + b.2.length : Nat) : Int) ≤ _; omega)
    rw [hj', hw]
    have hlen : ieqI (Int.ofNat (List.length (α := Int × Int) (S.joinG a b).2)) (Int.ofNat (a.2.length + b.2.length)) = true := ieq_t (by rw [hrl])
    have hlen : ieqI (Int.ofNat (List.length (α := DVal) (S.joinG a b, (0 : Int)).1.2)) (Int.ofNat (a.2.length + b.2.length)) = true := hlen
    rw [hlen, Bool.not_true, cond_false]
    have hloop : rounds (fun K p => R_l_PackParts_10 LF l a b K p) LF (Int.ofNat 0) = some (true, ()) := by
      refine range1 (α := Int × Int) (R := Rt_l_PackParts) (S.joinG a b).2 (fun _ _ => some (true, ())) (by unfold LF; omega) (fun K => ?_) (fun K i v rest r h => ?_)
      · simp only [R_l_PackParts_10, hj']
        have : iltI (Int.ofNat (List.length (α := Int × Int) (S.joinG a b).2)) (Int.ofNat (List.length (α := DVal) (S.joinG a b).2)) = false := ilt_self _
        simp only [this, cond_false]
      · have hlt : i < (S.joinG a b).2.length := r.lt
        have hil : iltI (Int.ofNat i) (Int.ofNat (List.length (α := DVal) (S.joinG a b).2)) = true := r.ilt
        have hpj := partB_of (g := S.joinG a b) fj hlt
        have hmem : (S.joinG a b).2[i] ∈ (S.joinG a b).2 := List.getElem_mem hlt
        have henc : (S.encB l (S.joinG a b)).2 = 0 → (S.encB l (S.canonG (((S.joinG a b).1, [(S.joinG a b).2[i]]) : List DNode × List DVal))).2 = 0 ∧ (S.encB l (S.canonG (((S.joinG a b).1, [(S.joinG a b).2[i]]) : List DNode × List DVal))).1.length ≤ (S.encB l (S.joinG a b)).1.length := fun h0 => encB_part (g := S.joinG a b) hjl h0 hmem
        have tail : ∀ (X : Option Rt_l_PackParts), X = some (true, ()) →
            cond (Bool.not (ieqI (S.encB l (S.joinG a b)).2 (Int.ofNat 0))) X (cond (Bool.not (ieqI (S.encB l (S.canonG (((S.joinG a b).1, [(S.joinG a b).2[i]]) : List DNode × List DVal))).2 (Int.ofNat 0))) (some (false, ()))
              (cond (iltI (Int.ofNat (List.length (S.encB l (S.joinG a b)).1)) (Int.ofNat (List.length (S.encB l (S.canonG (((S.joinG a b).1, [(S.joinG a b).2[i]]) : List DNode × List DVal))).1))) (some (false, ())) X)) = some (true, ()) := fun X hX => by
          by_cases h0 : (S.encB l (S.joinG a b)).2 = 0
          · obtain ⟨q1, q2⟩ := henc h0
            rw [ieq_t0 h0, ieq_t0 q1, ilt_f (by show ¬ ((S.encB l (S.joinG a b)).1.length : Int) < ((S.encB l (S.canonG (((S.joinG a b).1, [(S.joinG a b).2[i]]) : List DNode × List DVal))).1.length : Int); omega)]
            exact hX
          · rw [ieq_f0 h0]; exact hX
        have hpj' : S.partB ((S.joinG a b).1, (S.joinG a b).2) (Int.ofNat i) = (S.canonG (((S.joinG a b).1, [(S.joinG a b).2[i]]) : List DNode × List DVal), 0) := hpj
        have hz : ieqI (0 : Int) (Int.ofNat 0) = true := ieq_t rfl
        have hsm : ∀ g : DGraph, S.sameGraphs ((g : List DNode × List DVal).1, (g : List DNode × List DVal).2) ((g : List DNode × List DVal).1, (g : List DNode × List DVal).2) = true := fun g => sameG_refl g
        by_cases hi : i < a.2.length
        · have e : (S.joinG a b).2[i] = a.2[i] := List.getElem_append_left hi
          have hpa : S.partB (a.1, a.2) (Int.ofNat i) = (S.canonG (((S.joinG a b).1, [(S.joinG a b).2[i]]) : List DNode × List DVal), 0) := by
            have := partB_of (g := a) fa hi
            rw [e, part_a fa fj (List.getElem_mem hi)]; exact this
          have i1 : iltI (Int.ofNat i) (Int.ofNat a.2.length) = true := ilt_t (by show (i : Int) < (a.2.length : Int); omega)
          simp only [R_l_PackParts_10, hj', hil, cond_true, i1, Bool.not_true, cond_false, hpj', hpa, hz, hsm, r.next, h]
          exact tail _ rfl
        · have hib : i - a.2.length < b.2.length := by rw [hrl] at hlt; omega
          have e : (S.joinG a b).2[i] = S.byV (Int.ofNat a.1.length) b.2[i - a.2.length] := by
            have : (S.joinG a b).2[i] = (S.byL b.2 (Int.ofNat a.1.length))[i - a.2.length]'(by rw [byL_len]; exact hib) := List.getElem_append_right (by omega)
            rw [this]; exact List.getElem_map _
          have hpb : S.partB (b.1, b.2) (Int.ofNat (i - a.2.length)) = (S.canonG (((S.joinG a b).1, [(S.joinG a b).2[i]]) : List DNode × List DVal), 0) := by
            have := partB_of (g := b) fb hib
            rw [e, part_b fb h4 fj (List.getElem_mem hib)]; exact this
          have hw2 : IntKind.i64.wrap (Int.sub (Int.ofNat i) (Int.ofNat a.2.length)) = Int.ofNat (i - a.2.length) := by
            have e : Int.sub (Int.ofNat i) (Int.ofNat a.2.length) = Int.ofNat (i - a.2.length) := by
              show (i : Int) - (a.2.length : Int) = ((i - a.2.length : Nat) : Int); omega
            rw [e]; exact w64 (by show _ ≤ ((i - a.2.length : Nat) : Int); omega) (by show ((i - a.2.length : Nat) : Int) ≤ _; omega)
          have i1 : iltI (Int.ofNat i) (Int.ofNat a.2.length) = false := ilt_f (by show ¬ (i : Int) < (a.2.length : Int); omega)
          simp only [R_l_PackParts_10, hj', hil, cond_true, i1, Bool.not_false, cond_false, hpj', hw2, hpb, hz, Bool.not_true, hsm, r.next, h]
          exact tail _ rfl
    exact hloop
  · rw [show ieqI (S.joinB (a.1, a.2) (b.1, b.2)).2 (Int.ofNat 0) = false from ieq_f he]; rfl
end
theorem con_l_PackParts (hs : Con Try.prog 15 sp_l_sanity) : Con Try.prog id_l_PackParts ⟨[.list cForm, cGraph, cGraph], [(false, .bool)], fun _ => some (true, ())⟩ :=
  mk_l_PackParts ⟨con_l_fewForms, con_l_few, hs, con_p_Join, con_p_Encode, con_p_PartB, con_r_SameGraphs, trivial⟩ fun x y hx h => ⟨LF, (F_l_PackParts_eq (a := x.2.1) (b := x.2.2.1) x.1).trans h⟩
end Go.Proofs.Ytcnhjofpmpipfaa
end

/- The closed check answers yes. -/
section
set_option linter.unusedVariables false
set_option maxRecDepth 100000
namespace Go.Proofs.Ytcnhjofpmpipfaa
open Go Go.Sx Go.RowKit Go.Jx
def exN : Ex := fun _ => none
def isR (o : Option Res) : Bool := match o with
  | some r => (match runR sp_l_sanity r with
    | some y => y.1
    | none => false)
  | none => false
theorem isR_spec {o : Option Res} (h : isR o = true) : ∃ r, o = some r ∧ runR sp_l_sanity r = some (true, ()) := by
  cases o with
  | none => cases h
  | some r =>
    refine ⟨r, rfl, ?_⟩
    unfold isR at h
    cases hr : runR sp_l_sanity r with
    | none => simp only [hr] at h; cases h
    | some y =>
      simp only [hr] at h
      exact congrArg some (Prod.ext h rfl)
theorem san15 : isR (icall Try.prog ttT.get ftT.get (fun _ _ => none) exN 1000 100 (.fn 15) [] S0) = true := by kernel_rfl
end Go.Proofs.Ytcnhjofpmpipfaa
end

/- The closed check's contract. -/
section
set_option linter.unusedVariables false
namespace Go.Proofs.Ytcnhjofpmpipfaa
open Go Go.Sx Go.RowKit Go.Jx
theorem exN_ok : ExOK Try.prog exN := ⟨fun _ _ h => (nomatch h), fun _ _ h => (nomatch h), fun _ _ h => (nomatch h)⟩
theorem con_l_sanity : Con Try.prog 15 sp_l_sanity := con_of_run (lf := 1000) mixed ttOK ftOK exN_ok cal15 fun x y h => by
  obtain ⟨r, h1, h2⟩ := isR_spec san15
  exact ⟨100, 1000, r, h1, h2.trans h⟩
end Go.Proofs.Ytcnhjofpmpipfaa
end

/- PackParts' contract with sanity. -/
section
set_option linter.unusedVariables false
namespace Go.Proofs.Ytcnhjofpmpipfaa
open Go Go.Sx Go.RowKit Go.Jx
theorem con_PackParts : Con Try.prog id_l_PackParts ⟨[.list cForm, cGraph, cGraph], [(false, .bool)], fun _ => some (true, ())⟩ := con_l_PackParts con_l_sanity
end Go.Proofs.Ytcnhjofpmpipfaa
end
