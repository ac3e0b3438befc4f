/- Texts: Rj2, Lc1, Lsan, Lsn, Ln6. -/
import Derived.Test.YtcnhjofpmpipfaaMf5
import Derived.KernelRfl
/- Contracts of Join, Part, Canon, Same of the reference; Part, Canon, Same of the package in the same form. -/
section
set_option linter.unusedVariables false
namespace Go.Proofs.Ytcnhjofpmpipfaa
open Go Go.Sx Go.RowKit Go.Jx
section
variable {a b : List (ByteArray × List (Int × Int)) × List (Int × Int)}
theorem rj_loop15 (K11 : (Int × (List DNode)) → Option Rt_r_Join) (i : Nat) (n : ByteArray × List (Int × Int)) (hi : b.1[i]? = some n) (hv : n.2.length ≤ 400) (c : ByteArray) (acc : List DNode) (ha : acc.length ≤ 10000) :
    rounds (fun K p => R_r_Join_15 LF a b K K11 p) LF (c, Int.ofNat 0, [], Int.ofNat i, acc) = K11 (IntKind.i64.wrap (Int.add (Int.ofNat i) (Int.ofNat 1)), acc ++ [(c, S.byL n.2 (Int.ofNat a.1.length))]) := by
  have hj : jget b.1 (Int.ofNat i) = some n := by rw [jget_nat]; exact hi
  refine (range0 (α := Int × Int) (σ := List (Int × Int)) (R := Rt_r_Join) n.2 (fun k s => (c, k, s, Int.ofNat i, acc)) (fun k s => s.length = k)
    (fun rest k s => K11 (IntKind.i64.wrap (Int.add (Int.ofNat i) (Int.ofNat 1)), acc ++ [(c, s ++ S.byL rest (Int.ofNat a.1.length))])) (by unfold LF; omega) (fun K s hI => ?_) (fun K k v rest s hI r hk => ?_) [] rfl).trans ?_
  · have hb := room40 (m := acc.length) (by omega)
    have e : s ++ S.byL [] (Int.ofNat a.1.length) = s := List.append_nil s
    simp only [R_r_Join_15, hj, ilt_self, cond_false, hb, cond_true, e]; rfl
  · have h1 := r.ilt
    have h2 := r.get
    have hlt := r.lt
    have hb := room16 (m := s.length) (by omega)
    simp only [R_r_Join_15, hj, h1, cond_true, h2, r.next, hb]
    have e : ∀ w, w = S.byV (Int.ofNat a.1.length) v → List.append s [w] ++ S.byL rest (Int.ofNat a.1.length) = s ++ S.byL (v :: rest) (Int.ofNat a.1.length) := fun w hw => by
      rw [hw]; show (s ++ [_]) ++ _ = s ++ (_ :: _); rw [List.append_assoc]; rfl
    by_cases h4 : v.1 = 4
    · rw [show ieqI v.1 (Int.ofNat 4) = true by rw [ieqI_eq]; exact decide_eq_true h4, cond_true]
      have := hk (List.append s [(v.1, IntKind.i64.wrap (Int.add v.2 (Int.ofNat a.1.length)))]) (by show (s ++ [_]).length = _; rw [List.length_append, hI]; rfl)
      refine Eq.trans this ?_
      rw [e _ (by unfold S.byV; rw [if_pos h4])]
    · rw [show ieqI v.1 (Int.ofNat 4) = false by rw [ieqI_eq]; exact decide_eq_false h4, cond_false]
      have := hk (List.append s [(v.1, v.2)]) (by show (s ++ [_]).length = _; rw [List.length_append, hI]; rfl)
      refine Eq.trans this ?_
      rw [e _ (by unfold S.byV; rw [if_neg h4])]
  · rfl
theorem rj_loop11 (ha : a.1.length ≤ 400) (hb4 : b.1.length ≤ 400) (hv : ∀ n ∈ b.1, n.2.length ≤ 30) (L20 : ((List DNode) × Int × (List DVal)) → Option Rt_r_Join) :
    rounds (fun K p => R_r_Join_11 LF a b (fun q => G_r_Join_15 LF a b K LF q) L20 p) LF (Int.ofNat 0, a.1) = L20 (a.1 ++ b.1.map (S.byN (Int.ofNat a.1.length)), Int.ofNat 0, a.2) := by
  refine range0 (α := ByteArray × List (Int × Int)) (σ := List DNode) (R := Rt_r_Join) b.1 (fun i s => (i, s)) (fun i s => s.length = a.1.length + i) (fun rest i s => L20 (s ++ rest.map (S.byN (Int.ofNat a.1.length)), Int.ofNat 0, a.2)) (by unfold LF; omega) (fun K s hs => ?_) (fun K i v rest s hs r hk => ?_) a.1 rfl
  · simp only [R_r_Join_11, ilt_self, cond_false, List.map_nil, List.append_nil]
  · have h1 := r.ilt
    have h2 := r.get
    have hlt := r.lt
    have hv1 := hv v r.mem
    have hin := rj_loop15 (a := a) (b := b) K i v r.get? (by omega) v.1 s (by omega)
    simp only [R_r_Join_11, h1, cond_true, h2]
    refine Eq.trans hin ?_
    rw [r.next]
    have := hk (s ++ [(v.1, S.byL v.2 (Int.ofNat a.1.length))]) (by rw [List.length_append]; simp; omega)
    refine Eq.trans this ?_
    rw [List.map_cons, List.append_assoc]; rfl
theorem rj_loop20 (hb6 : b.2.length ≤ 60) (ha6 : a.2.length ≤ 60) (nd : List DNode) :
    rounds (fun K p => R_r_Join_20 LF a b K p) LF (nd, Int.ofNat 0, a.2) = some (((nd, a.2 ++ S.byL b.2 (Int.ofNat a.1.length)), ([], Int.ofNat 0)), ()) := by
  refine range0 (α := Int × Int) (σ := List (Int × Int)) (R := Rt_r_Join) b.2 (fun k s => (nd, k, s)) (fun k s => s.length = a.2.length + k)
    (fun rest k s => some (((nd, s ++ S.byL rest (Int.ofNat a.1.length)), ([], Int.ofNat 0)), ())) (by unfold LF; omega) (fun K s hI => ?_) (fun K k v rest s hI r hk => ?_) a.2 rfl
  · have e : s ++ S.byL [] (Int.ofNat a.1.length) = s := List.append_nil s
    simp only [R_r_Join_20, ilt_self, cond_false, e]
  · have h1 := r.ilt
    have h2 := r.get
    have hlt := r.lt
    have hb := room16 (m := s.length) (by omega)
    simp only [R_r_Join_20, h1, cond_true, h2, r.next, hb]
    have e : ∀ w, w = S.byV (Int.ofNat a.1.length) v → List.append s [w] ++ S.byL rest (Int.ofNat a.1.length) = s ++ S.byL (v :: rest) (Int.ofNat a.1.length) := fun w hw => by
      rw [hw]; show (s ++ [_]) ++ _ = s ++ (_ :: _); rw [List.append_assoc]; rfl
    by_cases h4 : v.1 = 4
    · rw [show ieqI v.1 (Int.ofNat 4) = true by rw [ieqI_eq]; exact decide_eq_true h4, cond_true]
      have := hk (List.append s [(v.1, IntKind.i64.wrap (Int.add v.2 (Int.ofNat a.1.length)))]) (by show (s ++ [_]).length = _; rw [List.length_append, hI]; rfl)
      refine Eq.trans this ?_
      rw [e _ (by unfold S.byV; rw [if_pos h4])]
    · rw [show ieqI v.1 (Int.ofNat 4) = false by rw [ieqI_eq]; exact decide_eq_false h4, cond_false]
      have := hk (List.append s [(v.1, v.2)]) (by show (s ++ [_]).length = _; rw [List.length_append, hI]; rfl)
      refine Eq.trans this ?_
      rw [e _ (by unfold S.byV; rw [if_neg h4])]
theorem ieq_t {x y : Int} (h : x = y) : ieqI x y = true := by rw [ieqI_eq]; exact decide_eq_true h
theorem ieq_f {x y : Int} (h : ¬ x = y) : ieqI x y = false := by rw [ieqI_eq]; exact decide_eq_false h
theorem ilt_t {x y : Int} (h : x < y) : iltI x y = true := by rw [iltI_eq]; exact decide_eq_true h
theorem ilt_f {x y : Int} (h : ¬ x < y) : iltI x y = false := by rw [iltI_eq]; exact decide_eq_false h
theorem F_r_Join_eq : F_r_Join LF a b = some (((S.joinB a b).1, [], (S.joinB a b).2), ()) := by
  have etaA : (a.1, a.2) = a := rfl
  have etaB : (b.1, b.2) = b := rfl
  simp only [F_r_Join, R_r_Join_in, S.joinB]
  by_cases fa : S.formed a = 0
  · have ka : ieqI (S.formed (a.1, a.2)) (Int.ofNat 0) = true := ieq_t fa
    by_cases fb : S.formed b = 0
    · have kb : ieqI (S.formed (b.1, b.2)) (Int.ofNat 0) = true := ieq_t fb
      obtain ⟨a1, a2, a3, a4, a5⟩ := formed_zero (g := a) fa
      obtain ⟨b1, b2, b3, b4, b5⟩ := formed_zero (g := b) fb
      have a1 : a.1.length ≤ 400 := a1
      have b1 : b.1.length ≤ 400 := b1
      have a2 : a.2.length ≤ 60 := a2
      have b2 : b.2.length ≤ 60 := b2
      have w1 : IntKind.i64.wrap (Int.ofNat (Nat.add a.1.length b.1.length)) = Int.ofNat (a.1.length + b.1.length) := w64 (by show _ ≤ ((a.1.length + b.1.length : Nat) : Int); omega) (by show ((a.1.length + b.1.length : Nat) : Int) ≤ _; omega)
      have w2 : IntKind.i64.wrap (Int.ofNat (Nat.add a.2.length b.2.length)) = Int.ofNat (a.2.length + b.2.length) := w64 (by show _ ≤ ((a.2.length + b.2.length : Nat) : Int); omega) (by show ((a.2.length + b.2.length : Nat) : Int) ≤ _; omega)
      rw [if_neg (by simpa using fa), if_neg (by simpa using fb)]
      by_cases h4 : 400 < a.1.length + b.1.length
      · have i1 : iltI (Int.ofNat 400) (Int.ofNat (a.1.length + b.1.length)) = true := ilt_t (by show (400 : Int) < ((a.1.length + b.1.length : Nat) : Int); omega)
        rw [if_pos (.inl h4)]
        simp only [ka, kb, Bool.not_true, cond_false, w1, i1, cond_true]; rfl
      · have i1 : iltI (Int.ofNat 400) (Int.ofNat (a.1.length + b.1.length)) = false := ilt_f (by show ¬ (400 : Int) < ((a.1.length + b.1.length : Nat) : Int); omega)
        by_cases h6 : 60 < a.2.length + b.2.length
        · have i2 : iltI (Int.ofNat 60) (Int.ofNat (a.2.length + b.2.length)) = true := ilt_t (by show (60 : Int) < ((a.2.length + b.2.length : Nat) : Int); omega)
          rw [if_pos (.inr h6)]
          simp only [ka, kb, Bool.not_true, cond_false, w1, i1, w2, i2, cond_true]; rfl
        · have i2 : iltI (Int.ofNat 60) (Int.ofNat (a.2.length + b.2.length)) = false := ilt_f (by show ¬ (60 : Int) < ((a.2.length + b.2.length : Nat) : Int); omega)
          rw [if_neg (by show ¬ (400 < a.1.length + b.1.length ∨ 60 < a.2.length + b.2.length); omega)]
          have r1 : Nat.ble (Nat.mul (Nat.add 0 a.1.length) 40) 140737488355328 = true := Nat.ble_eq_true_of_le (by show (0 + a.1.length) * 40 ≤ _; omega)
          have r2 : Nat.ble (Nat.mul (Nat.add 0 a.2.length) 16) 140737488355328 = true := Nat.ble_eq_true_of_le (by show (0 + a.2.length) * 16 ≤ _; omega)
          have e11 := rj_loop11 (a := a) (b := b) a1 b1 b3 (fun q => G_r_Join_20 LF a b LF q)
          have e20 := rj_loop20 (a := a) (b := b) b2 a2 (a.1 ++ b.1.map (S.byN (Int.ofNat a.1.length)))
          simp only [ka, kb, Bool.not_true, cond_false, w1, i1, w2, i2, r1, r2, cond_true]
          exact (e11.trans e20).trans rfl
    · have kb : ieqI (S.formed (b.1, b.2)) (Int.ofNat 0) = false := ieq_f fb
      rw [if_neg (by simpa using fa), if_pos fb]
      simp only [ka, kb, Bool.not_false, cond_true]; rfl
  · have ka : ieqI (S.formed (a.1, a.2)) (Int.ofNat 0) = false := ieq_f fa
    rw [if_pos fa]
    simp only [ka, cond_false, Bool.not_false, cond_true]; rfl
end
theorem con_r_Join : Con Try.prog id_r_Join sp_r_Join := mk_r_Join ⟨con_r_Formed, trivial⟩ fun x y hx h => ⟨LF, (F_r_Join_eq (a := x.1) (b := x.2.1)).trans h⟩
/-! ### Canon -/
section
variable {g a b : List DNode × List DVal}
theorem F_r_Canon_eq (lf : Nat) : F_r_Canon lf g = some (((S.canonB g).1, (S.canonB g).2.1, (S.canonB g).2.2), ()) := by
  simp only [F_r_Canon, R_r_Canon_in, S.canonB]
  by_cases f : S.formed g = 0
  · have k : ieqI (S.formed (g.1, g.2)) (Int.ofNat 0) = true := ieq_t f
    rw [if_pos f, k]; rfl
  · have k : ieqI (S.formed (g.1, g.2)) (Int.ofNat 0) = false := ieq_f f
    rw [if_neg f, k]; rfl
theorem F_p_Canon_eq (lf : Nat) : F_p_Canon lf g = some ((S.canonB g).1, (S.canonB g).2.1, (S.canonB g).2.2, ()) := by
  simp only [F_p_Canon, R_p_Canon_in, S.canonB]
  by_cases f : S.formed g = 0
  · have k : ieqI (S.formed (g.1, g.2)) (Int.ofNat 0) = true := ieq_t f
    have hc : S.canonO (g.1, g.2) = some (S.canonG g, S.numsG g, ()) := (canon_ok (gf_of f)).1
    rw [if_pos f, k, hc]; rfl
  · have k : ieqI (S.formed (g.1, g.2)) (Int.ofNat 0) = false := ieq_f f
    rw [if_neg f, k]; rfl
/-! ### Part -/
theorem part_formed (hf : S.formed g = 0) {v : DVal} (hv : v ∈ g.2) : S.formed ((g.1, [v]) : List DNode × List DVal) = 0 := by
  obtain ⟨f1, f2, f3, f4, f5⟩ := formed_zero hf
  exact formed_of f1 (by show 1 ≤ 60; omega) f3 f4 (fun w hw => by rw [List.mem_singleton.1 hw]; exact f5 v hv)
theorem F_r_Part_eq (lf : Nat) (k : Int) : F_r_Part lf g k = some (((S.partB g k).1, [], (S.partB g k).2), ()) := by
  simp only [F_r_Part, R_r_Part_in, S.partB]
  by_cases f : S.formed g = 0
  · have kf : ieqI (S.formed (g.1, g.2)) (Int.ofNat 0) = true := ieq_t f
    rw [if_neg (by simpa using f)]
    have f2 : g.2.length ≤ 60 := (formed_zero f).2.1
    have w1 : IntKind.i64.wrap (Int.sub (Int.ofNat g.2.length) (Int.ofNat 1)) = (g.2.length : Int) - 1 := w64 (by show _ ≤ (g.2.length : Int) - 1; omega) (by show (g.2.length : Int) - 1 ≤ _; omega)
    by_cases h0 : 0 ≤ k
    · have i0 : iltI k (Int.ofNat 0) = false := ilt_f (by show ¬ k < 0; omega)
      by_cases h1 : k < (g.2.length : Int)
      · obtain ⟨v, v1, v2, v3⟩ := jget_of (l := g.2) h0 h1
        have i1 : iltI ((g.2.length : Int) - 1) k = false := ilt_f (by omega)
        have hp : S.formed ((g.1, [((v : Int × Int).1, (v : Int × Int).2)]) : List DNode × List DVal) = 0 := part_formed f v3
        have kp := ieq_t hp
        have v1' : jget (α := DVal) g.2 k = some v := v1
        simp only [kf, Bool.not_true, cond_false, i0, Bool.not_false, cond_true, w1, i1, v1]
        have kp : ieqI (S.formed (g.1, [(v.1, v.2)])) (Int.ofNat 0) = true := kp
        rw [kp]; rfl
      · have i1 : iltI ((g.2.length : Int) - 1) k = true := ilt_t (by omega)
        have v1 : jget (α := DVal) g.2 k = none := by
          unfold jget; rw [if_pos h0]; exact List.getElem?_eq_none (by omega)
        simp only [kf, Bool.not_true, cond_false, i0, Bool.not_false, cond_true, w1, i1, v1]; rfl
    · have i0 : iltI k (Int.ofNat 0) = true := ilt_t (by show k < 0; omega)
      have v1 : jget (α := DVal) g.2 k = none := by unfold jget; rw [if_neg h0]
      simp only [kf, Bool.not_true, cond_false, i0, v1]; rfl
  · have kf : ieqI (S.formed (g.1, g.2)) (Int.ofNat 0) = false := ieq_f f
    rw [if_pos f, kf]; rfl
theorem F_p_Part_eq (lf : Nat) (k : Int) : F_p_Part lf g k = some ((S.partB g k).1, (S.partB g k).2, ()) := by
  simp only [F_p_Part, R_p_Part_in, S.partB]
  by_cases f : S.formed g = 0
  · have kf : ieqI (S.formed (g.1, g.2)) (Int.ofNat 0) = true := ieq_t f
    rw [if_neg (by simpa using f)]
    have f2 : g.2.length ≤ 60 := (formed_zero f).2.1
    have w1 : IntKind.i64.wrap (Int.sub (Int.ofNat g.2.length) (Int.ofNat 1)) = (g.2.length : Int) - 1 := w64 (by show _ ≤ (g.2.length : Int) - 1; omega) (by show (g.2.length : Int) - 1 ≤ _; omega)
    by_cases hk : 0 ≤ k ∧ k < (g.2.length : Int)
    · obtain ⟨h0, h1⟩ := hk
      obtain ⟨v, v1, v2, v3⟩ := jget_of (l := g.2) h0 h1
      have hw : S.within k (Int.ofNat 0) ((g.2.length : Int) - 1) = true := by unfold S.within; rw [decide_eq_true (show Int.ofNat 0 ≤ k from h0), decide_eq_true (by omega)]; rfl
      have w2 : IntKind.i64.wrap (Int.add k (Int.ofNat 1)) = k + 1 := w64 (n := k + 1) (by omega) (by omega)
      have hl : lchk k (k + 1) (Int.ofNat g.2.length) (Int.ofNat g.2.length) = true := lchk_iff.2 ⟨h0, by omega, by show k + 1 ≤ (g.2.length : Int); omega, Int.le_refl _⟩
      have hs : lsub g.2 k (k + 1) = [v] := by
        have hk2 : k.toNat < g.2.length := by omega
        unfold lsub
        rw [show (k + 1).toNat = k.toNat + 1 by omega, List.take_add_one, v2, List.drop_append_of_le_length (by simp; omega)]
        simp
      have hc : S.canonO ((g.1, [v]) : List DNode × List DVal) = some (S.canonG (g.1, [v]), S.numsG (g.1, [v]), ()) := (canon_ok (gf_of (part_formed f v3))).1
      have v1' : jget (α := DVal) g.2 k = some v := v1
      simp only [kf, Bool.not_true, cond_false, w1, hw, w2, hl, cond_true, hs, v1']
      rw [hc]; rfl
    · have hw : S.within k (Int.ofNat 0) ((g.2.length : Int) - 1) = false := by
        unfold S.within
        by_cases h0 : 0 ≤ k
        · rw [decide_eq_false (show ¬ k ≤ (g.2.length : Int) - 1 by omega), Bool.and_false]
        · rw [decide_eq_false (show ¬ Int.ofNat 0 ≤ k from h0), Bool.false_and]
      have v1 : jget (α := DVal) g.2 k = none := by
        unfold jget
        by_cases h0 : 0 ≤ k
        · rw [if_pos h0]; exact List.getElem?_eq_none (by omega)
        · rw [if_neg h0]
      simp only [kf, Bool.not_true, cond_false, w1, hw, Bool.not_false, cond_true, v1]; rfl
  · have kf : ieqI (S.formed (g.1, g.2)) (Int.ofNat 0) = false := ieq_f f
    rw [if_pos f, kf]; rfl
/-! ### Same -/
theorem eqVal_eq {v w : Int × Int} (h : S.eqVal v w = true) : v = w := by
  simp only [S.eqVal, Bool.and_eq_true] at h
  exact Prod.ext (of_decide_eq_true h.1) (of_decide_eq_true h.2.1)
theorem eqVals_eq : ∀ {x y : List DVal}, S.eqVals x y = true → x = y
  | [], [], _ => rfl
  | v :: x, w :: y, h => by
    simp only [S.eqVals, Bool.and_eq_true] at h
    rw [eqVal_eq h.1, eqVals_eq h.2]
  | [], _ :: _, h => by simp [S.eqVals] at h
  | _ :: _, [], h => by simp [S.eqVals] at h
theorem eqNodes_eq : ∀ {x y : List DNode}, S.eqNodes x y = true → x = y
  | [], [], _ => rfl
  | v :: x, w :: y, h => by
    simp only [S.eqNodes, S.eqNode, Bool.and_eq_true] at h
    have h1 : (v : ByteArray × List DVal).1 = (w : ByteArray × List DVal).1 := of_decide_eq_true h.1.1
    have h2 := eqVals_eq h.1.2
    have e : (v : ByteArray × List DVal) = w := Prod.ext h1 h2
    rw [eqNodes_eq h.2]
    exact congrArg (· :: y) e
  | [], _ :: _, h => by simp [S.eqNodes] at h
  | _ :: _, [], h => by simp [S.eqNodes] at h
theorem eqGraph_same (x y : List DNode × List DVal) : S.eqGraph x y = S.sameGraphs x y := by
  unfold S.sameGraphs
  by_cases h : x = y
  · rw [decide_eq_true (show (x : DGraph) = y from h), h]; exact eqGraph_self y
  · rw [decide_eq_false (show ¬ (x : DGraph) = y from h)]
    cases he : S.eqGraph x y with
    | false => rfl
    | true =>
      unfold S.eqGraph at he
      simp only [Bool.and_eq_true] at he
      exact absurd (Prod.ext (eqNodes_eq he.2) (eqVals_eq he.1)) h
theorem F_r_Same_eq (lf : Nat) : F_r_Same lf a b = some (((S.sameB a b).1, (S.sameB a b).2), ()) := by
  simp only [F_r_Same, R_r_Same_in, S.sameB]
  by_cases fa : S.formed a = 0
  · have ka : ieqI (S.formed (a.1, a.2)) (Int.ofNat 0) = true := ieq_t fa
    by_cases fb : S.formed b = 0
    · have kb : ieqI (S.formed (b.1, b.2)) (Int.ofNat 0) = true := ieq_t fb
      rw [if_neg (by simpa using fa), if_neg (by simpa using fb), ka, kb]; rfl
    · have kb : ieqI (S.formed (b.1, b.2)) (Int.ofNat 0) = false := ieq_f fb
      rw [if_neg (by simpa using fa), if_pos fb, ka, kb]; rfl
  · have ka : ieqI (S.formed (a.1, a.2)) (Int.ofNat 0) = false := ieq_f fa
    rw [if_pos fa, ka]; rfl
theorem F_p_Same_eq (lf : Nat) : F_p_Same lf a b = some ((S.sameB a b).1, (S.sameB a b).2, ()) := by
  simp only [F_p_Same, R_p_Same_in, S.sameB]
  by_cases fa : S.formed a = 0
  · by_cases fb : S.formed b = 0
    · have k1 : ieqI (S.first [S.formed (a.1, a.2), S.formed (b.1, b.2)]) (Int.ofNat 0) = true := ieq_t (by
        show S.first [S.formed a, S.formed b] = 0
        rw [fa, fb]; rfl)
      have ha : S.canonO (a.1, a.2) = some (S.canonG a, S.numsG a, ()) := (canon_ok (gf_of fa)).1
      have hb : S.canonO (b.1, b.2) = some (S.canonG b, S.numsG b, ()) := (canon_ok (gf_of fb)).1
      rw [if_neg (by simpa using fa), if_neg (by simpa using fb), k1, ha, hb, ← eqGraph_same]; rfl
    · have k2 : S.first [S.formed (a.1, a.2), S.formed (b.1, b.2)] = S.formed b := by
        show S.first [S.formed a, S.formed b] = _
        rw [fa]; simp only [S.first, if_neg fb, if_true]
      have k1 : ieqI (S.first [S.formed (a.1, a.2), S.formed (b.1, b.2)]) (Int.ofNat 0) = false := by rw [k2]; exact ieq_f fb
      rw [if_neg (by simpa using fa), if_pos fb, k1, k2]; rfl
  · have k2 : S.first [S.formed (a.1, a.2), S.formed (b.1, b.2)] = S.formed a := by
      show S.first [S.formed a, S.formed b] = _
      simp only [S.first, if_neg fa]
    have k1 : ieqI (S.first [S.formed (a.1, a.2), S.formed (b.1, b.2)]) (Int.ofNat 0) = false := by rw [k2]; exact ieq_f fa
    rw [if_pos fa, k1, k2]; rfl
end
theorem con_p_CanonB : Con Try.prog id_p_Canon sp_p_CanonB := mk_p_Canon ⟨con_p_formed, con_p_canon, trivial⟩ fun x y hx h => ⟨0, (F_p_Canon_eq (g := x.1) 0).trans h⟩
theorem con_r_Canon : Con Try.prog id_r_Canon sp_r_Canon := mk_r_Canon ⟨con_r_Formed, con_r_canon, trivial⟩ fun x y hx h => ⟨0, (F_r_Canon_eq (g := x.1) 0).trans h⟩
theorem con_p_PartB : Con Try.prog id_p_Part sp_p_PartB := mk_p_Part ⟨con_p_formed, con_p_canon, con_p_within, trivial⟩ fun x y hx h => ⟨0, (F_p_Part_eq (g := x.1) 0 x.2.1).trans h⟩
theorem con_r_Part : Con Try.prog id_r_Part sp_r_Part := mk_r_Part ⟨con_r_Formed, con_r_canon, trivial⟩ fun x y hx h => ⟨0, (F_r_Part_eq (g := x.1) 0 x.2.1).trans h⟩
theorem con_p_SameB : Con Try.prog id_p_Same sp_p_SameB := mk_p_Same ⟨con_p_formed, con_p_first, con_p_canon, con_p_equal, trivial⟩ fun x y hx h => ⟨0, (F_p_Same_eq (a := x.1) (b := x.2.1) 0).trans h⟩
theorem con_r_Same : Con Try.prog id_r_Same sp_r_Same := mk_r_Same ⟨con_r_Formed, con_r_canon, con_r_SameGraphs, trivial⟩ fun x y hx h => ⟨0, (F_r_Same_eq (a := x.1) (b := x.2.1) 0).trans h⟩
end Go.Proofs.Ytcnhjofpmpipfaa
end

/- The law of Canon, Same, Join, Part answers true on all data. -/
section
set_option linter.unusedVariables false
namespace Go.Proofs.Ytcnhjofpmpipfaa
open Go Go.Sx Go.RowKit Go.Jx
theorem si_loop (a b : List Int) (ha : a.length < LF) (hl : a.length = b.length) : rounds (fun K p => R_l_sameInts_4 LF a b K p) LF (Int.ofNat 0) = some (S.sameI a b, ()) := by
  refine (range1 (α := Int) (R := Rt_l_sameInts) a (fun rest i => some (decide (rest = b.drop i), ())) ha (fun K => ?_) (fun K i v rest r h => ?_)).trans ?_
  · simp only [R_l_sameInts_4, ilt_self, cond_false]
    rw [hl, List.drop_length]; rfl
  · have hi : i < b.length := by have := r.lt; omega
    have hj : jget b (Int.ofNat i) = some b[i] := by rw [jget_nat]; exact List.getElem?_eq_getElem hi
    have hd : b.drop i = b[i] :: b.drop (i + 1) := List.drop_eq_getElem_cons hi
    have h1 := r.ilt
    have h2 := r.get
    simp only [R_l_sameInts_4, h1, cond_true, h2, hj, r.next, h]
    rw [hd]
    by_cases e : v = b[i]
    · rw [ieq_t e]
      have : (v :: rest = b[i] :: b.drop (i + 1)) ↔ rest = b.drop (i + 1) := by rw [List.cons.injEq]; exact ⟨fun h => h.2, fun h => ⟨e, h⟩⟩
      simp only [Bool.not_true, cond_false, this]
    · rw [ieq_f e]
      have : ¬ (v :: rest = b[i] :: b.drop (i + 1)) := fun h => e (List.cons.inj h).1
      simp only [Bool.not_false, cond_true, decide_eq_false this]
  · simp only [List.drop_zero]; rfl
theorem F_l_sameInts_eq (a b : List Int) (ha : a.length < LF) : F_l_sameInts LF a b = some (S.sameI a b, ()) := by
  simp only [F_l_sameInts, R_l_sameInts_in, G_l_sameInts_4]
  by_cases hl : a.length = b.length
  · rw [ieq_t (show Int.ofNat a.length = Int.ofNat b.length by rw [hl]), Bool.not_true, cond_false]
    exact si_loop a b ha hl
  · rw [ieq_f (fun h => hl (Int.ofNat.inj h)), Bool.not_false, cond_true]
    unfold S.sameI
    rw [decide_eq_false fun h => hl (by rw [h])]
theorem con_l_sameInts : Con Try.prog id_l_sameInts sp_l_sameInts := mk_l_sameInts trivial fun x y hx h => ⟨LF, (F_l_sameInts_eq x.1 x.2.1 (wf_len hx.1)).trans h⟩
theorem sameG_refl (g : List DNode × List DVal) : S.sameGraphs g g = true := by unfold S.sameGraphs; exact decide_eq_true rfl
theorem sameI_refl (g : List Int) : S.sameI g g = true := by unfold S.sameI; exact decide_eq_true rfl
theorem F_l_PackCanons_eq (lf : Nat) (a b : DGraph) (k : Int) : F_l_PackCanons lf a b k = some (true, ()) := by
  simp only [F_l_PackCanons, R_l_PackCanons_in]
  cases S.few ((a : List DNode × List DVal).1, (a : List DNode × List DVal).2) with
  | false => rfl
  | true =>
    cases S.few ((b : List DNode × List DVal).1, (b : List DNode × List DVal).2) with
    | false => rfl
    | true =>
      simp only [Bool.not_true, cond_false, sameG_refl, sameI_refl, cond_true, ieqI_eq, decide_true]
theorem con_l_PackCanons (hs : Con Try.prog 15 sp_l_sanity) : Con Try.prog id_l_PackCanons ⟨[cGraph, cGraph, .int .i64], [(false, .bool)], fun _ => some (true, ())⟩ :=
  mk_l_PackCanons ⟨con_l_few, hs, con_p_CanonB, con_r_Canon, con_p_SameB, con_r_Same, con_p_Join, con_r_Join, con_p_PartB, con_r_Part, con_r_SameGraphs, con_l_sameInts, trivial⟩ fun x y hx h => ⟨LF, (F_l_PackCanons_eq LF x.1 x.2.1 x.2.2.1).trans h⟩
end Go.Proofs.Ytcnhjofpmpipfaa
end

/- The closed check answers yes. -/
section
set_option linter.unusedVariables false
set_option maxRecDepth 100000
namespace Go.Proofs.Ytcnhjofpmpipfaa
open Go Go.Sx Go.RowKit Go.Jx
def exN : Ex := fun _ => none
def isR (o : Option Res) : Bool := match o with
  | some r => (match runR sp_l_sanity r with
    | some y => y.1
    | none => false)
  | none => false
theorem isR_spec {o : Option Res} (h : isR o = true) : ∃ r, o = some r ∧ runR sp_l_sanity r = some (true, ()) := by
  cases o with
  | none => cases h
  | some r =>
    refine ⟨r, rfl, ?_⟩
    unfold isR at h
    cases hr : runR sp_l_sanity r with
    | none => simp only [hr] at h; cases h
    | some y =>
      simp only [hr] at h
      exact congrArg some (Prod.ext h rfl)
theorem san15 : isR (icall Try.prog ttT.get ftT.get (fun _ _ => none) exN 1000 100 (.fn 15) [] S0) = true := by kernel_rfl
end Go.Proofs.Ytcnhjofpmpipfaa
end

/- The closed check's contract. -/
section
set_option linter.unusedVariables false
namespace Go.Proofs.Ytcnhjofpmpipfaa
open Go Go.Sx Go.RowKit Go.Jx
theorem exN_ok : ExOK Try.prog exN := ⟨fun _ _ h => (nomatch h), fun _ _ h => (nomatch h), fun _ _ h => (nomatch h)⟩
theorem con_l_sanity : Con Try.prog 15 sp_l_sanity := con_of_run (lf := 1000) mixed ttOK ftOK exN_ok cal15 fun x y h => by
  obtain ⟨r, h1, h2⟩ := isR_spec san15
  exact ⟨100, 1000, r, h1, h2.trans h⟩
end Go.Proofs.Ytcnhjofpmpipfaa
end

/- PackCanons' contract with sanity. -/
section
set_option linter.unusedVariables false
namespace Go.Proofs.Ytcnhjofpmpipfaa
open Go Go.Sx Go.RowKit Go.Jx
theorem con_PackCanons : Con Try.prog id_l_PackCanons ⟨[cGraph, cGraph, .int .i64], [(false, .bool)], fun _ => some (true, ())⟩ := con_l_PackCanons con_l_sanity
end Go.Proofs.Ytcnhjofpmpipfaa
end
