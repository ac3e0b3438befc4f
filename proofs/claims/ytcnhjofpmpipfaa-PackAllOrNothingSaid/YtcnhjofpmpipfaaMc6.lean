/- Texts: Lp1, Lg4, Qsp3, Qg4, Lw1, Qp5, Lw6, Lw2, Lw4, Lw7, Lw8, Lw9, Lw10, Lw11, Lw12, Lw13, Lw14, Lw15, Lw16, Lw17, Lw18, Lw19, Lw20, Lp4, Ln3. -/
import Derived.Test.YtcnhjofpmpipfaaMc5
import Derived.Test.YtcnhjofpmpipfaaMc4
/- Comparisons, and the law's bounds. -/
section
set_option linter.unusedVariables false
set_option maxRecDepth 100000
namespace Go.Proofs.Ytcnhjofpmpipfaa
open Go Go.Sx Go.RowKit Go.Jx
theorem F_l_fewRules_eq (l : List DRule) (hl : l.length < LF) : F_l_fewRules LF l = some (S.fewRules l, ()) := by
  simp only [F_l_fewRules, R_l_fewRules_in, S.fewRules]
  refine range1 (R := Rt_l_fewRules) l (fun rest i => some (rest.all (fun r => decide (r.2.2.length ≤ 8)) && decide (l.length ≤ 8 ∨ 24 < l.length ∧ l.length ≤ 30), ())) hl (fun K => ?_) (fun K i v rest r h => ?_)
  · simp only [R_l_fewRules_2, ilt_self, cond_false, ilt_nat, List.all_nil, Bool.true_and]
    by_cases h8 : 8 < l.length <;> by_cases h24 : 24 < l.length <;> by_cases h30 : 30 < l.length <;> simp [h8, h24, h30] <;> omega
  · simp only [R_l_fewRules_2, r.ilt, r.get, r.next, h, cond_true, ilt_nat, List.all_cons]
    by_cases h8 : 8 < v.2.2.length
    · have h8' : ¬ v.2.2.length ≤ 8 := by omega
      simp [h8, h8']
    · have h8' : v.2.2.length ≤ 8 := by omega
      simp [h8, h8']
theorem con_l_fewRules : Con Try.prog id_l_fewRules sp_l_fewRules := mk_l_fewRules trivial fun x y hx h => ⟨LF, (F_l_fewRules_eq _ (wf_len hx.1)).trans h⟩
theorem F_l_few_eq (g : DGraph) (hl : g.1.length < LF) : F_l_few LF g = some (S.few g, ()) := by
  simp only [F_l_few, R_l_few_in, S.few]
  refine range1 (R := Rt_l_few) g.1 (fun rest i => some (rest.all (fun n => decide ((n.2.length ≤ 8 ∨ 30 < n.2.length) ∧ n.2.length ≤ 40)) && decide ((g.1.length ≤ 30 ∨ 400 < g.1.length ∧ g.1.length ≤ 410) ∧ (g.2.length ≤ 10 ∨ 60 < g.2.length ∧ g.2.length ≤ 70)), ())) hl (fun K => ?_) (fun K i v rest r h => ?_)
  · simp only [R_l_few_3, ilt_self, cond_false, ilt_nat, List.all_nil, Bool.true_and]
    generalize g.1.length = n
    generalize g.2.length = k
    by_cases a1 : 30 < n <;> by_cases a2 : 400 < n <;> by_cases a3 : 410 < n <;> by_cases b1 : 10 < k <;> by_cases b2 : 60 < k <;> by_cases b3 : 70 < k <;> simp [a1, a2, a3, b1, b2, b3] <;> omega
  · simp only [R_l_few_3, r.ilt, r.get, r.next, h, cond_true, ilt_nat, List.all_cons]
    generalize v.2.length = n
    generalize (rest.all fun n => decide ((n.2.length ≤ 8 ∨ 30 < n.2.length) ∧ n.2.length ≤ 40)) = w
    by_cases a1 : 8 < n
    · rw [decide_eq_true a1, cond_true]
      by_cases a2 : 30 < n
      · rw [decide_eq_true a2, Bool.not_true, cond_false]
        by_cases a3 : 40 < n
        · have e : decide ((n ≤ 8 ∨ 30 < n) ∧ n ≤ 40) = false := decide_eq_false (by omega)
          rw [e, decide_eq_true a3]; rfl
        · have e : decide ((n ≤ 8 ∨ 30 < n) ∧ n ≤ 40) = true := decide_eq_true (by omega)
          rw [e, decide_eq_false a3]; cases w <;> rfl
      · have e : decide ((n ≤ 8 ∨ 30 < n) ∧ n ≤ 40) = false := decide_eq_false (by omega)
        rw [e, decide_eq_false a2]; rfl
    · rw [decide_eq_false a1, cond_false]
      have e : decide ((n ≤ 8 ∨ 30 < n) ∧ n ≤ 40) = true := decide_eq_true (by omega)
      have a3 : ¬ 40 < n := by omega
      rw [e, decide_eq_false a3]; cases w <;> rfl
theorem con_l_few : Con Try.prog id_l_few sp_l_few := mk_l_few trivial fun x y hx h => ⟨LF, (F_l_few_eq _ (wf_len hx.1.1)).trans h⟩
theorem few_inner (l : List DForm) (K2 : Int → Option Rt_l_fewForms) (i : Nat) (f : DForm) (hf : jget l (Int.ofNat i) = some f) (hl : f.2.length < LF) :
    G_l_fewForms_8 LF l K2 LF (Int.ofNat f.2.length, Int.ofNat 0, Int.ofNat i) = cond (f.2.all fun c => decide (c.1.size ≤ 30 ∧ c.2.2.size ≤ 30)) (K2 (IntKind.i64.wrap (Int.add (Int.ofNat i) (Int.ofNat 1)))) (some (false, ())) := by
  refine range0 (σ := Unit) (R := Rt_l_fewForms) f.2 (fun k _ => (Int.ofNat f.2.length, k, Int.ofNat i)) (fun _ _ => True) (fun rest k _ => cond (rest.all fun c => decide (c.1.size ≤ 30 ∧ c.2.2.size ≤ 30)) (K2 (IntKind.i64.wrap (Int.add (Int.ofNat i) (Int.ofNat 1)))) (some (false, ()))) hl (fun K s _ => ?_) (fun K k c rest s _ r h => ?_) () trivial
  · simp only [R_l_fewForms_8, ilt_self, cond_false, List.all_nil, cond_true]
  · have h := h () trivial
    simp only [R_l_fewForms_8, hf, r.ilt, r.get, r.next, h, cond_true, ilt_nat, List.all_cons]
    by_cases a1 : 30 < c.1.size
    · have e : decide (c.1.size ≤ 30 ∧ c.2.2.size ≤ 30) = false := decide_eq_false (by omega)
      rw [e, decide_eq_true a1]; rfl
    by_cases a2 : 30 < c.2.2.size
    · have e : decide (c.1.size ≤ 30 ∧ c.2.2.size ≤ 30) = false := decide_eq_false (by omega)
      rw [e, decide_eq_false a1, decide_eq_true a2]; rfl
    · have e : decide (c.1.size ≤ 30 ∧ c.2.2.size ≤ 30) = true := decide_eq_true (by omega)
      rw [e, decide_eq_false a1, decide_eq_false a2, Bool.true_and]; rfl
theorem F_l_fewForms_eq (l : List DForm) (hl : l.length < LF) (hw : ∀ f ∈ l, f.2.length < LF) : F_l_fewForms LF l = some (S.fewForms l, ()) := by
  simp only [F_l_fewForms, R_l_fewForms_in, S.fewForms]
  refine range1 (R := Rt_l_fewForms) l (fun rest i => some (rest.all (fun f => decide (f.1.size ≤ 30 ∧ (f.2.length ≤ 6 ∨ 30 < f.2.length) ∧ f.2.length ≤ 40) && f.2.all fun c => decide (c.1.size ≤ 30 ∧ c.2.2.size ≤ 30)) && decide (l.length ≤ 6 ∨ 24 < l.length ∧ l.length ≤ 30), ())) hl (fun K => ?_) (fun K i v rest r h => ?_)
  · simp only [R_l_fewForms_2, ilt_self, cond_false, ilt_nat, List.all_nil, Bool.true_and]
    by_cases h8 : 6 < l.length <;> by_cases h24 : 24 < l.length <;> by_cases h30 : 30 < l.length <;> simp [h8, h24, h30] <;> omega
  · have hin := few_inner l K i v r.get (hw v r.mem)
    rw [r.next, h] at hin
    simp only [R_l_fewForms_2, r.ilt, r.get, cond_true, ilt_nat, List.all_cons]
    simp only [hin]
    generalize (v.2.all fun c => decide (c.1.size ≤ 30 ∧ c.2.2.size ≤ 30)) = w
    generalize v.2.length = n
    generalize v.1.size = m
    by_cases a0 : 30 < m
    · have e : decide (m ≤ 30 ∧ (n ≤ 6 ∨ 30 < n) ∧ n ≤ 40) = false := decide_eq_false (by omega)
      rw [e, decide_eq_true a0]; rfl
    rw [decide_eq_false a0, cond_false]
    by_cases a1 : 6 < n
    · rw [decide_eq_true a1, cond_true]
      by_cases a2 : 30 < n
      · rw [decide_eq_true a2, Bool.not_true, cond_false]
        by_cases a3 : 40 < n
        · have e : decide (m ≤ 30 ∧ (n ≤ 6 ∨ 30 < n) ∧ n ≤ 40) = false := decide_eq_false (by omega)
          rw [e, decide_eq_true a3]; rfl
        · have e : decide (m ≤ 30 ∧ (n ≤ 6 ∨ 30 < n) ∧ n ≤ 40) = true := decide_eq_true (by omega)
          rw [e, decide_eq_false a3]; cases w <;> rfl
      · have e : decide (m ≤ 30 ∧ (n ≤ 6 ∨ 30 < n) ∧ n ≤ 40) = false := decide_eq_false (by omega)
        rw [e, decide_eq_false a2]; rfl
    · rw [decide_eq_false a1, cond_false]
      have e : decide (m ≤ 30 ∧ (n ≤ 6 ∨ 30 < n) ∧ n ≤ 40) = true := decide_eq_true (by omega)
      have a3 : ¬ 40 < n := by omega
      rw [e, decide_eq_false a3]; cases w <;> rfl
theorem con_l_fewForms : Con Try.prog id_l_fewForms sp_l_fewForms := mk_l_fewForms trivial fun x y hx h => ⟨LF, (F_l_fewForms_eq _ (wf_len hx.1) fun f hf => wf_len (hx.1.2 f hf).2).trans h⟩
end Go.Proofs.Ytcnhjofpmpipfaa
end

/- Made by program: plain forms of functions. -/
section
set_option linter.unusedVariables false
set_option maxRecDepth 100000
noncomputable section
namespace Go.Proofs.Ytcnhjofpmpipfaa
open Go Go.Sx Go.RowKit Go.Jx
def nm_l_PackAllOrNothing : Nat → Option Nm := fun k => none
def st_l_PackAllOrNothing : Nat → Bool := fun k => false
def hd_l_PackAllOrNothing : Nat → Bool := fun k => false
abbrev Rt_l_PackAllOrNothing : Type := Bool × Unit
def sml_l_PackAllOrNothing : List (Nat × Sm) := [(13, sp_l_fewForms), (27, sp_l_fewRules), (14, sp_l_few), (15, sp_l_sanity), (28, sp_p_Convert), (29, sp_p_CheckRules), (18, sp_p_Check), (22, sp_p_Canon), (25, sp_p_Same), (30, sp_slices_Equal_Val)]
def hxl_l_PackAllOrNothing : List (Nat × Hx) := []
def cl_l_PackAllOrNothing (R : Type) (lf : Nat) : ClK R := icallK Try.prog ttT.get ftT.get (nm1 6 nm_l_PackAllOrNothing) (smL sml_l_PackAllOrNothing) (hxL hxl_l_PackAllOrNothing) lf 20 R
abbrev id_l_PackAllOrNothing : Nat := 6
def R_l_PackAllOrNothing_in (lf : Nat) (x1 : (List DForm)) (x2 : (List DForm)) (x3 : (List DRule)) (x4 : DGraph) : Option Rt_l_PackAllOrNothing := (cond (Bool.not (Go.Proofs.Ytcnhjofpmpipfaa.S.fewForms x1)) (some (Bool.true, ())) (cond (Bool.not (Go.Proofs.Ytcnhjofpmpipfaa.S.fewForms x2)) (some (Bool.true, ())) (cond (Bool.not (Go.Proofs.Ytcnhjofpmpipfaa.S.fewRules x3)) (some (Bool.true, ())) (cond (Bool.not (Go.Proofs.Ytcnhjofpmpipfaa.S.few (x4.1, x4.2))) (some (Bool.true, ())) (cond (Bool.not (ieqI (Go.Proofs.Ytcnhjofpmpipfaa.S.checkRules x1 x2 x3) (Int.ofNat 0))) (cond (Bool.not (ieqI (Go.Proofs.Ytcnhjofpmpipfaa.S.convert x1 x2 x3 (x4.1, x4.2)).2.2 (Int.ofNat 0))) (cond (Bool.and (keqI (Go.Proofs.Ytcnhjofpmpipfaa.S.convert x1 x2 x3 (x4.1, x4.2)).2.1.1 (Int.ofNat 0)) (Bool.and (keqS (Go.Proofs.Ytcnhjofpmpipfaa.S.convert x1 x2 x3 (x4.1, x4.2)).2.1.2 (S.lit [])) Bool.true)) (some ((ieqI (Int.ofNat (List.length (Go.Proofs.Ytcnhjofpmpipfaa.S.convert x1 x2 x3 (x4.1, x4.2)).1.1)) (Int.ofNat 0)), ())) (some (Bool.false, ()))) (some (Bool.false, ()))) (cond (Bool.not (ieqI (Go.Proofs.Ytcnhjofpmpipfaa.S.checkG x1 (x4.1, x4.2)) (Int.ofNat 0))) (cond (Bool.not (ieqI (Go.Proofs.Ytcnhjofpmpipfaa.S.convert x1 x2 x3 (x4.1, x4.2)).2.2 (Int.ofNat 0))) (cond (Bool.and (keqI (Go.Proofs.Ytcnhjofpmpipfaa.S.convert x1 x2 x3 (x4.1, x4.2)).2.1.1 (Int.ofNat 0)) (Bool.and (keqS (Go.Proofs.Ytcnhjofpmpipfaa.S.convert x1 x2 x3 (x4.1, x4.2)).2.1.2 (S.lit [])) Bool.true)) (some ((ieqI (Int.ofNat (List.length (Go.Proofs.Ytcnhjofpmpipfaa.S.convert x1 x2 x3 (x4.1, x4.2)).1.1)) (Int.ofNat 0)), ())) (some (Bool.false, ()))) (some (Bool.false, ()))) (cond (ieqI (Go.Proofs.Ytcnhjofpmpipfaa.S.convert x1 x2 x3 (x4.1, x4.2)).2.2 (Int.ofNat 10)) (cond (Bool.not (iltI (Go.Proofs.Ytcnhjofpmpipfaa.S.convert x1 x2 x3 (x4.1, x4.2)).2.1.1 (Int.ofNat 0))) (cond (iltI (Go.Proofs.Ytcnhjofpmpipfaa.S.convert x1 x2 x3 (x4.1, x4.2)).2.1.1 (Int.ofNat (List.length x4.1))) (cond (Bool.not (keqS (Go.Proofs.Ytcnhjofpmpipfaa.S.convert x1 x2 x3 (x4.1, x4.2)).2.1.2 (S.lit []))) (some ((ieqI (Go.IntKind.wrap Go.IntKind.i64 (Int.ofNat (Nat.add (List.length (Go.Proofs.Ytcnhjofpmpipfaa.S.convert x1 x2 x3 (x4.1, x4.2)).1.1) (List.length (Go.Proofs.Ytcnhjofpmpipfaa.S.convert x1 x2 x3 (x4.1, x4.2)).1.2)))) (Int.ofNat 0)), ())) (some (Bool.false, ()))) (some (Bool.false, ()))) (some (Bool.false, ()))) (cond (Bool.not (ieqI (Go.Proofs.Ytcnhjofpmpipfaa.S.convert x1 x2 x3 (x4.1, x4.2)).2.2 (Int.ofNat 0))) (some (Bool.false, ())) (cond (Bool.not (ieqI (Go.Proofs.Ytcnhjofpmpipfaa.S.checkG x2 ((Go.Proofs.Ytcnhjofpmpipfaa.S.convert x1 x2 x3 (x4.1, x4.2)).1.1, (Go.Proofs.Ytcnhjofpmpipfaa.S.convert x1 x2 x3 (x4.1, x4.2)).1.2)) (Int.ofNat 0))) (some (Bool.false, ())) (cond (Bool.not (ieqI (Int.ofNat (List.length (Go.Proofs.Ytcnhjofpmpipfaa.S.convert x1 x2 x3 (x4.1, x4.2)).1.1)) (Int.ofNat (List.length x4.1)))) (some (Bool.false, ())) (cond (Bool.not (Go.Proofs.Ytcnhjofpmpipfaa.S.eqVals (Go.Proofs.Ytcnhjofpmpipfaa.S.convert x1 x2 x3 (x4.1, x4.2)).1.2 x4.2)) (some (Bool.false, ())) (cond (Bool.not (Bool.and (keqI (Go.Proofs.Ytcnhjofpmpipfaa.S.convert x1 x2 x3 (x4.1, x4.2)).2.1.1 (Int.ofNat 0)) (Bool.and (keqS (Go.Proofs.Ytcnhjofpmpipfaa.S.convert x1 x2 x3 (x4.1, x4.2)).2.1.2 (S.lit [])) Bool.true))) (some (Bool.false, ())) (match (Go.Proofs.Ytcnhjofpmpipfaa.S.CanonO (x4.1, x4.2)) with | .none  => none | .some v0 => (cond (Bool.not (ieqI v0.2.2.1 (Int.ofNat 0))) (some (Bool.false, ())) (cond (iltI (Int.ofNat (List.length v0.1.1)) (Int.ofNat (List.length x4.1))) (some (Bool.true, ())) (match (Go.Proofs.Ytcnhjofpmpipfaa.S.SameO ((Go.Proofs.Ytcnhjofpmpipfaa.S.convert x1 x2 x3 (x4.1, x4.2)).1.1, (Go.Proofs.Ytcnhjofpmpipfaa.S.convert x1 x2 x3 (x4.1, x4.2)).1.2) ((Go.Proofs.Ytcnhjofpmpipfaa.S.convert x1 x2 x3 (v0.1.1, v0.1.2)).1.1, (Go.Proofs.Ytcnhjofpmpipfaa.S.convert x1 x2 x3 (v0.1.1, v0.1.2)).1.2)) with | .none  => none | .some v1 => (cond (ieqI (Go.Proofs.Ytcnhjofpmpipfaa.S.convert x1 x2 x3 (v0.1.1, v0.1.2)).2.2 (Int.ofNat 0)) (cond (ieqI v1.2.1 (Int.ofNat 0)) (some (v1.1, ())) (some (Bool.false, ()))) (some (Bool.false, ())))))))))))))))))))
theorem in_l_PackAllOrNothing (g : ElA [(.list cForm), (.list cForm), (.list cRule), cGraph] → Option Rt_l_PackAllOrNothing) (J : Nat → List Nat → NRes → Option Rt_l_PackAllOrNothing) (lf : Nat) (x1 : (List DForm)) (x2 : (List DForm)) (x3 : (List DRule)) (x4 : DGraph) : icodeT Try.prog ttT.get nm_l_PackAllOrNothing fi6.nt (cl_l_PackAllOrNothing _ lf) lf st_l_PackAllOrNothing J fi6.body [] (argGo (argV [(.list cForm), (.list cForm), (.list cRule), cGraph] (x1, x2, x3, x4, ())) 0 .leaf) S0 [] (lastK ttT.get fi6 ⟨[(.list cForm), (.list cForm), (.list cRule), cGraph], [(false, .bool)], g⟩) = R_l_PackAllOrNothing_in lf x1 x2 x3 x4 := by kernel_rfl
theorem nd_l_PackAllOrNothing : (regs fi6.body).Nodup := by decide +kernel
theorem ok_l_PackAllOrNothing : okC nm_l_PackAllOrNothing st_l_PackAllOrNothing hd_l_PackAllOrNothing fi6.body none = true := by kernel_rfl
def A_l_PackAllOrNothing (g : ElA [(.list cForm), (.list cForm), (.list cRule), cGraph] → Option Rt_l_PackAllOrNothing) (lf : Nat) : Nat → List Nat → NRes → Option Rt_l_PackAllOrNothing := atN Try.prog ttT.get nm_l_PackAllOrNothing fi6 ⟨[(.list cForm), (.list cForm), (.list cRule), cGraph], [(false, .bool)], g⟩ (cl_l_PackAllOrNothing _ lf) lf hd_l_PackAllOrNothing
def F_l_PackAllOrNothing (lf : Nat) (x1 : (List DForm)) (x2 : (List DForm)) (x3 : (List DRule)) (x4 : DGraph) : Option Rt_l_PackAllOrNothing := R_l_PackAllOrNothing_in lf x1 x2 x3 x4
theorem run_l_PackAllOrNothing (g : ElA [(.list cForm), (.list cForm), (.list cRule), cGraph] → Option Rt_l_PackAllOrNothing) (lf : Nat) (x1 : (List DForm)) (x2 : (List DForm)) (x3 : (List DRule)) (x4 : DGraph) : icodeT Try.prog ttT.get nm_l_PackAllOrNothing fi6.nt (cl_l_PackAllOrNothing _ lf) lf st_l_PackAllOrNothing (A_l_PackAllOrNothing g lf) fi6.body [] (argGo (argV [(.list cForm), (.list cForm), (.list cRule), cGraph] (x1, x2, x3, x4, ())) 0 .leaf) S0 [] (lastK ttT.get fi6 ⟨[(.list cForm), (.list cForm), (.list cRule), cGraph], [(false, .bool)], g⟩) = F_l_PackAllOrNothing lf x1 x2 x3 x4 := by
    refine (in_l_PackAllOrNothing g (A_l_PackAllOrNothing g lf) lf x1 x2 x3 x4).trans ?_
    rfl
theorem hxs_l_PackAllOrNothing : HxsOK Try.prog hxl_l_PackAllOrNothing := trivial
theorem mk_l_PackAllOrNothing {g : ElA [(.list cForm), (.list cForm), (.list cRule), cGraph] → Option Rt_l_PackAllOrNothing} (hsm : SmOK Try.prog sml_l_PackAllOrNothing) (hg : ∀ (x : ElA [(.list cForm), (.list cForm), (.list cRule), cGraph]) (y : Rt_l_PackAllOrNothing), WfA [(.list cForm), (.list cForm), (.list cRule), cGraph] x → g x = some y → ∃ lf, F_l_PackAllOrNothing lf x.1 x.2.1 x.2.2.1 x.2.2.2.1 = some y) : Con Try.prog 6 ⟨[(.list cForm), (.list cForm), (.list cRule), cGraph], [(false, .bool)], g⟩ :=
  conT (nmf := nm_l_PackAllOrNothing) (sml := sml_l_PackAllOrNothing) (hxl := hxl_l_PackAllOrNothing) (st := st_l_PackAllOrNothing) (hd := hd_l_PackAllOrNothing) 20 mixed ttOK ftOK hsm hxs_l_PackAllOrNothing cal6 rfl rfl (by kernel_rfl) (fun x => by kernel_rfl) nd_l_PackAllOrNothing ok_l_PackAllOrNothing fun x y hx hy => by
    obtain ⟨lf, h⟩ := hg x y hx hy
    exact ⟨lf, (run_l_PackAllOrNothing g lf x.1 x.2.1 x.2.2.1 x.2.2.2.1).trans h⟩
end Go.Proofs.Ytcnhjofpmpipfaa

end
end

/- What pack's undoing of rules computes: plain functions over data. -/
section
set_option linter.unusedVariables false
noncomputable section
namespace Go.Proofs.Ytcnhjofpmpipfaa
open Go Go.Sx Go.RowKit Go.Jx
namespace S
open Go.Jx.S
def bkGo (l : List DRule) (was now : List DCol) : List DGive → Nat → List DGive → Option (List DGive)
  | [], _, acc => some acc
  | g :: gs, i, acc =>
    if ¬ g.2.1 = 1 then none
    else if ¬ (at_ zGive acc (col was g.1)).2.1 = 0 then none
    else if keeps l (at_ zCol was (col was g.1)) (at_ zCol now i) = false then none
    else bkGo l was now gs (i + 1) (acc.set (col was g.1).toNat ((at_ zCol now i).1, 1, 0))
def back (l : List DRule) (r : DRule) (was now : List DCol) : DRule × Bool :=
  if ¬ was.length = now.length then (zRule, false)
  else match bkGo l was now r.2.2 0 (rep was.length zGive) with
    | none => (zRule, false)
    | some gs => ((r.2.1, r.1, gs), true)
end S
end Go.Proofs.Ytcnhjofpmpipfaa

end
end

/- Made by program: plain forms of functions. -/
section
set_option linter.unusedVariables false
set_option maxRecDepth 100000
noncomputable section
namespace Go.Proofs.Ytcnhjofpmpipfaa
open Go Go.Sx Go.RowKit Go.Jx
end Go.Proofs.Ytcnhjofpmpipfaa

end
end

/- What right classes and right rules are; plain laws about them. -/
section
set_option linter.unusedVariables false
set_option maxRecDepth 100000
namespace Go.Proofs.Ytcnhjofpmpipfaa
open Go Go.Sx Go.RowKit Go.Jx
structure ColsOK (cs : List DCol) : Prop where
  len : cs.length ≤ 30
  small : ∀ c ∈ cs, S.small c.1 = true
  one : ∀ k (h : k < cs.length), S.col (cs.take k) cs[k].1 < 0
  kind : ∀ c ∈ cs, 1 ≤ c.2.1 ∧ c.2.1 ≤ 3
  bare : ∀ c ∈ cs, ¬ c.2.1 = 3 → c.2.2 = S.lit []
structure FormsOK (l : List DForm) : Prop where
  len : l.length ≤ 24
  cls : ∀ f ∈ l, S.class_ f.1 = true
  one : ∀ k (h : k < l.length), S.form (l.take k) l[k].1 < 0
  cols : ∀ f ∈ l, ColsOK f.2
  ref : ∀ f ∈ l, ∀ c ∈ f.2, c.2.1 = 3 → c.2.2 = S.ANY ∨ 0 ≤ S.form l c.2.2
theorem lw_class_ne_any {s : ByteArray} (h : S.class_ s = true) : ¬ s = S.ANY := by
  intro e
  rw [e] at h
  exact absurd h (by decide +kernel)
theorem lw_small_ne_nil {s : ByteArray} (h : S.small s = true) : ¬ s = S.lit [] := by
  intro e
  rw [e] at h
  exact absurd h (by decide +kernel)
theorem drop_facts {α : Type} {l : List α} {k : Nat} {r : α} {rs : List α} (hd : l.drop k = r :: rs) : ∃ h : k < l.length, l[k] = r ∧ l.drop (k + 1) = rs := by
  have hk : k < l.length := by
    rcases Nat.lt_or_ge k l.length with h | h
    · exact h
    · rw [List.drop_eq_nil_of_le h] at hd; cases hd
  rw [List.drop_eq_getElem_cons hk] at hd
  exact ⟨hk, (List.cons.inj hd).1, (List.cons.inj hd).2⟩
theorem lw_ccGo (l : List DCol) : ∀ (cs : List DCol) (k : Nat), l.drop k = cs → S.ccGo l k cs = 0 → ∀ j (h : j < l.length), k ≤ j → S.small l[j].1 = true ∧ S.col (l.take j) l[j].1 < 0 ∧ S.within l[j].2.1 1 3 = true ∧ (¬ l[j].2.1 = 3 → l[j].2.2 = S.lit [])
  | [], k, hd, _ => fun j hj hk => by
    have : l.length ≤ k := by simpa using hd
    omega
  | c :: r, k, hd, h => by
    obtain ⟨hk, e1, e2⟩ := drop_facts hd
    rw [S.ccGo] at h
    cases h1 : S.small c.1 with
    | false => rw [if_pos h1] at h; exact absurd h (by decide)
    | true =>
    rw [if_neg (by simp [h1])] at h
    by_cases h2 : ¬ S.col (l.take k) c.1 < 0
    · rw [if_pos h2] at h; exact absurd h (by decide)
    rw [if_neg h2] at h
    cases h3 : S.within c.2.1 1 3 with
    | false => rw [if_pos h3] at h; exact absurd h (by decide)
    | true =>
    rw [if_neg (by simp [h3])] at h
    by_cases h4 : ¬ c.2.1 = 3 ∧ ¬ c.2.2 = S.lit []
    · rw [if_pos h4] at h; exact absurd h (by decide)
    rw [if_neg h4] at h
    intro j hj hkj
    by_cases e : j = k
    · subst e
      rw [e1]
      exact ⟨h1, Decidable.not_not.1 h2, h3, fun hn => Decidable.not_not.1 fun hh => h4 ⟨hn, hh⟩⟩
    · exact lw_ccGo l r (k + 1) e2 h j hj (by omega)
theorem colsOK {l : List DCol} (h : S.checkCols l = 0) : ColsOK l := by
  unfold S.checkCols at h
  by_cases h30 : 30 < l.length
  · rw [if_pos h30] at h; exact absurd h (by decide)
  rw [if_neg h30] at h
  have key := lw_ccGo l l 0 rfl h
  refine ⟨by omega, fun c hc => ?_, fun k hk => (key k hk (Nat.zero_le _)).2.1, fun c hc => ?_, fun c hc => ?_⟩
  all_goals
    obtain ⟨k, hk, rfl⟩ := List.mem_iff_getElem.1 hc
  · exact (key k hk (Nat.zero_le _)).1
  · simpa only [S.within, Bool.and_eq_true, decide_eq_true_eq] using (key k hk (Nat.zero_le _)).2.2.1
  · exact (key k hk (Nat.zero_le _)).2.2.2
theorem lw_cfGo2 (l : List DForm) : ∀ fs : List DForm, S.cfGo2 l fs = 0 → ∀ f ∈ fs, S.cfIn l f.2 = true
  | [], _ => fun f hf => absurd hf (by simp)
  | f :: r, h => by
    rw [S.cfGo2] at h
    by_cases hc : S.cfIn l f.2 = true
    · rw [if_pos hc] at h
      intro x hx
      rcases List.mem_cons.1 hx with e | e
      · rw [e]; exact hc
      · exact lw_cfGo2 l r h x e
    · rw [if_neg hc] at h; exact absurd h (by decide)
theorem lw_first3 {a b c : Int} (h : S.first [a, b, c] = 0) : a = 0 ∧ b = 0 ∧ c = 0 := by
  simp only [S.first] at h
  by_cases ha : a = 0
  · rw [if_pos ha] at h
    by_cases hb : b = 0
    · rw [if_pos hb] at h
      by_cases hc : c = 0
      · exact ⟨ha, hb, hc⟩
      · rw [if_neg hc] at h; exact absurd h hc
    · rw [if_neg hb] at h; exact absurd h hb
  · rw [if_neg ha] at h; exact absurd h ha
theorem lw_first2 {a b : Int} (h : S.first [a, b] = 0) : a = 0 ∧ b = 0 := by
  have := lw_first3 (c := 0) (a := a) (b := b) (by simp only [S.first] at h ⊢; simpa using h)
  exact ⟨this.1, this.2.1⟩
theorem lw_unless {x : Bool} {e : Int} (he : ¬ e = 0) (h : S.unlessE x e = 0) : x = true := by
  cases x with
  | true => rfl
  | false => exact absurd h he
theorem lw_cfGo (l : List DForm) : ∀ (fs : List DForm) (k : Nat), l.drop k = fs → S.cfGo l k fs = 0 → (∀ j (h : j < l.length), k ≤ j → S.class_ l[j].1 = true ∧ S.form (l.take j) l[j].1 < 0 ∧ S.checkCols l[j].2 = 0) ∧ S.cfGo2 l l = 0
  | [], k, hd, h => ⟨fun j hj hk => by
    have : l.length ≤ k := by simpa using hd
    omega, h⟩
  | f :: r, k, hd, h => by
    obtain ⟨hk, e1, e2⟩ := drop_facts hd
    rw [S.cfGo] at h
    by_cases he : S.first [S.unlessE (S.class_ f.1) 4, S.unlessE (decide (S.form (l.take k) f.1 < 0)) 6, S.checkCols f.2] = 0
    · rw [if_pos he] at h
      obtain ⟨q1, q2, q3⟩ := lw_first3 he
      have ih := lw_cfGo l r (k + 1) e2 h
      refine ⟨fun j hj hkj => ?_, ih.2⟩
      by_cases e : j = k
      · subst e; rw [e1]; exact ⟨lw_unless (by decide) q1, of_decide_eq_true (lw_unless (by decide) q2), q3⟩
      · exact ih.1 j hj (by omega)
    · rw [if_neg he] at h; exact absurd h he
theorem lw_cfIn (l : List DForm) : ∀ cs : List DCol, S.cfIn l cs = true → ∀ c ∈ cs, c.2.1 = 3 → c.2.2 = S.ANY ∨ 0 ≤ S.form l c.2.2
  | [], _ => fun c hc => absurd hc (by simp)
  | c :: r, h => by
    rw [S.cfIn] at h
    by_cases hc : c.2.1 = 3 ∧ ¬ c.2.2 = S.ANY ∧ S.form l c.2.2 < 0
    · rw [if_pos hc] at h; cases h
    · rw [if_neg hc] at h
      intro x hx h3
      rcases List.mem_cons.1 hx with e | e
      · rw [e] at h3 ⊢
        by_cases hA : c.2.2 = S.ANY
        · exact .inl hA
        · exact .inr (by have : ¬ S.form l c.2.2 < 0 := fun hh => hc ⟨h3, hA, hh⟩; omega)
      · exact lw_cfIn l r h x e h3
theorem formsOK {l : List DForm} (h : S.checkForms l = 0) : FormsOK l := by
  unfold S.checkForms at h
  by_cases h24 : 24 < l.length
  · rw [if_pos h24] at h; exact absurd h (by decide)
  rw [if_neg h24] at h
  obtain ⟨k1, k2⟩ := lw_cfGo l l 0 rfl h
  have k3 := lw_cfGo2 l l k2
  refine ⟨by omega, fun f hf => ?_, fun k hk => (k1 k hk (Nat.zero_le _)).2.1, fun f hf => ?_, fun f hf => lw_cfIn l f.2 (k3 f hf)⟩
  all_goals
    obtain ⟨k, hk, rfl⟩ := List.mem_iff_getElem.1 hf
  · exact (k1 k hk (Nat.zero_le _)).1
  · exact colsOK (k1 k hk (Nat.zero_le _)).2.2

theorem colsOf_ok {l : List DForm} (h : FormsOK l) {n : ByteArray} (hn : 0 ≤ S.form l n) : ColsOK (S.colsOf l n) := by
  obtain ⟨f, _, f2, f3, f4⟩ := form_get hn
  rw [f2]; exact h.cols f f3
theorem at_nat {α : Type} (d : α) {l : List α} {k : Nat} (hk : k < l.length) : S.at_ d l (k : Int) = l[k] := by
  unfold S.at_; simp [hk]
theorem at_col {l : List DCol} {n : ByteArray} (h : 0 ≤ S.col l n) : ∃ (k : Nat) (hk : k < l.length), S.col l n = k ∧ S.at_ S.zCol l (S.col l n) = l[k] ∧ l[k].1 = n := by
  have h1 := col_lt l n h
  obtain ⟨c, c1, c2, c3, c4, c5, c6⟩ := S.idx_get (p := fun c : DCol => keqS c.1 n) (l := l) h
  have e : S.col l n = ((S.col l n).toNat : Int) := by omega
  have hk : (S.col l n).toNat < l.length := by omega
  refine ⟨(S.col l n).toNat, hk, e, ?_, ?_⟩
  · unfold S.at_; rw [List.getElem?_eq_getElem hk]; rfl
  · have c2' : l[(S.col l n).toNat]? = some c := c2
    rw [List.getElem?_eq_getElem hk] at c2'
    cases c2'
    exact of_decide_eq_true c3
/-! ### Gives -/
/-- A right Give, spelt out. -/
structure GiveOK (l : List DRule) (g : DGive) (cols : List DCol) (b : DCol) : Prop where
  how : 1 ≤ g.2.1 ∧ g.2.1 ≤ 7
  src : g.2.1 ≤ 5 → 0 ≤ S.col cols g.1
  bare : 6 ≤ g.2.1 → g.1 = S.lit []
  big : -1099511627776 ≤ g.2.2 ∧ g.2.2 ≤ 1099511627776
  nought : ¬ g.2.1 = 4 → ¬ g.2.1 = 6 → g.2.2 = 0
  h1 : g.2.1 = 1 → (S.at_ S.zCol cols (S.col cols g.1)).2.1 = b.2.1 ∧ (b.2.1 = 3 → S.leads l (S.at_ S.zCol cols (S.col cols g.1)).2.2 b.2.2 = true)
  h2 : g.2.1 = 2 → (S.at_ S.zCol cols (S.col cols g.1)).2.1 = 2 ∧ b.2.1 = 1
  h3 : g.2.1 = 3 → (S.at_ S.zCol cols (S.col cols g.1)).2.1 = 1 ∧ b.2.1 = 2
  h4 : g.2.1 = 4 → (S.at_ S.zCol cols (S.col cols g.1)).2.1 = 1 ∧ b.2.1 = 1
  h5 : g.2.1 = 5 → (S.at_ S.zCol cols (S.col cols g.1)).2.1 = 3 ∧ b.2.1 = 3 ∧ S.leads l (S.at_ S.zCol cols (S.col cols g.1)).2.2 b.2.2 = true
  h6 : g.2.1 = 6 → b.2.1 = 1 ∨ (b.2.1 = 2 ∧ 0 ≤ g.2.2 ∧ g.2.2 ≤ 1)
  h7 : g.2.1 = 7 → b.2.1 = 3
theorem give_iff (l : List DRule) (g : DGive) (cols : List DCol) (b : DCol) : S.give l g cols b = 0 ↔ GiveOK l g cols b := by
  obtain ⟨gf, gh, gn⟩ := g
  have hw : ∀ n lo hi : Int, S.within n lo hi = true ↔ lo ≤ n ∧ n ≤ hi := fun n lo hi => by simp [S.within]
  have hwf : ∀ n lo hi : Int, S.within n lo hi = false ↔ ¬ (lo ≤ n ∧ n ≤ hi) := fun n lo hi => by rw [← hw]; simp
  constructor
  · intro h
    unfold S.give at h
    by_cases q1 : S.within gh 1 5 = true ∧ S.col cols gf < 0
    · rw [if_pos q1] at h; exact absurd h (by decide)
    rw [if_neg q1] at h
    split at h
    · exact absurd h (by decide)
    rename_i q2
    simp only [not_or] at q2
    obtain ⟨q2, q3, q4, q5⟩ := q2
    simp only [hw, hwf, Decidable.not_not, S.most] at q1 q2 q3 q4 q5
    unfold S.unlessE at h
    simp only [hw] at h
    generalize hA : (if 1 ≤ gh ∧ gh ≤ 5 then S.at_ S.zCol cols (S.col cols gf) else S.zCol) = a at h
    cases hf : S.fits l (gf, gh, gn) a b with
    | false => rw [hf] at h; exact absurd h (by decide)
    | true =>
    unfold S.fits at hf
    simp only at hf
    have hsrc : gh ≤ 5 → a = S.at_ S.zCol cols (S.col cols gf) := fun h => by rw [← hA, if_pos ⟨q2.1, h⟩]
    have q4' : -1099511627776 ≤ gn ∧ gn ≤ 1099511627776 := by split at q4 <;> omega
    refine ⟨q2, fun h5 => by simp only at h5 ⊢; by_cases hn : S.col cols gf < 0; exact absurd ⟨⟨q2.1, h5⟩, hn⟩ q1; omega, fun h6 => ?_, q4', fun h4 h6 => ?_, fun e => ?_, fun e => ?_, fun e => ?_, fun e => ?_, fun e => ?_, fun e => ?_, fun e => ?_⟩
    · simp only at h6 ⊢
      exact Decidable.not_not.1 fun hh => q3 ⟨by omega, hh⟩
    · simp only at h4 h6 ⊢
      rw [if_neg (by omega)] at q4; omega
    all_goals
      simp only at e ⊢
      subst e
    · rw [← hsrc (by omega)]
      simp only [if_true, Bool.and_eq_true, decide_eq_true_eq, Bool.or_eq_true] at hf
      refine ⟨hf.1, fun h3 => ?_⟩
      rcases hf.2 with hh | hh
      · exact absurd (hf.1.trans h3) hh
      · exact hh
    · rw [← hsrc (by omega)]
      simpa using hf
    · rw [← hsrc (by omega)]
      simpa using hf
    · rw [← hsrc (by omega)]
      simpa using hf
    · rw [← hsrc (by omega)]
      simpa using hf
    · simp only [show ¬ (6 : Int) = 1 from by decide, show ¬ (6 : Int) = 2 from by decide, show ¬ (6 : Int) = 3 from by decide, show ¬ (6 : Int) = 4 from by decide, show ¬ (6 : Int) = 5 from by decide, if_false, if_true, Bool.or_eq_true, Bool.and_eq_true, decide_eq_true_eq, hw] at hf
      exact hf
    · simpa using hf
  · intro h
    have e1 := h.how
    have e2 := h.src
    have e3 := h.bare
    have e4 := h.big
    have e5 := h.nought
    simp only at e1 e2 e3 e4 e5
    unfold S.give
    simp only [hw, hwf]
    rw [if_neg (fun hh => by have := e2 hh.1.2; omega)]
    rw [if_neg ?_]
    · have hf : S.fits l (gf, gh, gn) (if 1 ≤ gh ∧ gh ≤ 5 then S.at_ S.zCol cols (S.col cols gf) else S.zCol) b = true := by
        unfold S.fits
        simp only
        have h1 := h.h1; have h2 := h.h2; have h3 := h.h3; have h4 := h.h4; have h5 := h.h5; have h6 := h.h6; have h7 := h.h7
        simp only at h1 h2 h3 h4 h5 h6 h7
        have hc : gh = 1 ∨ gh = 2 ∨ gh = 3 ∨ gh = 4 ∨ gh = 5 ∨ gh = 6 ∨ gh = 7 := by omega
        rcases hc with e | e | e | e | e | e | e
        · rw [if_pos e, if_pos (by omega)]
          obtain ⟨k1, k2⟩ := h1 e
          rw [decide_eq_true k1, Bool.true_and, k1]
          by_cases hb : b.2.1 = 3
          · rw [k2 hb, Bool.or_true]
          · rw [decide_eq_true hb, Bool.true_or]
        · subst e; obtain ⟨k1, k2⟩ := h2 rfl; simp [k1, k2]
        · subst e; obtain ⟨k1, k2⟩ := h3 rfl; simp [k1, k2]
        · subst e; obtain ⟨k1, k2⟩ := h4 rfl; simp [k1, k2]
        · subst e; obtain ⟨k1, k2, k3⟩ := h5 rfl; simp [k1, k2, k3]
        · subst e
          rcases h6 rfl with k | ⟨k, k'⟩
          · simp [k]
          · simp [k, hw, k']
        · subst e; simp [h7 rfl]
      rw [hf]; rfl
    · rintro (hh | ⟨hh, hh2⟩ | hh | ⟨hh, hh2, hh3⟩)
      · exact hh e1
      · exact hh2 (e3 (by omega))
      · apply hh
        unfold S.most
        simp only
        by_cases h4 : gh = 4
        · rw [if_pos (.inl h4)]; exact e4
        by_cases h6 : gh = 6
        · rw [if_pos (.inr h6)]; exact e4
        · rw [if_neg (by omega), e5 h4 h6]; omega
      · rcases h.h6 hh with k | ⟨_, k⟩
        · omega
        · exact hh3 k
end Go.Proofs.Ytcnhjofpmpipfaa
end

/- The contracts of pack's undoing of rules. -/
section
set_option linter.unusedVariables false
set_option maxRecDepth 100000
namespace Go.Proofs.Ytcnhjofpmpipfaa
open Go Go.Sx Go.RowKit Go.Jx
end Go.Proofs.Ytcnhjofpmpipfaa
end

/- The table of numbers that canon makes. -/
section
set_option linter.unusedVariables false
namespace Go.Proofs.Ytcnhjofpmpipfaa
open Go Go.Sx Go.RowKit Go.Jx
/-- Objects with their numbers, from one on. -/
def S.tabF : Nat → List Int → List (Int × Int)
  | _, [] => []
  | i, n :: l => (n, Int.ofNat i) :: S.tabF (i + 1) l
def S.tab (o : List Int) : List (Int × Int) := S.tabF 0 o
/-- The order, with objects that are not in it put behind. -/
def S.meetL : List Int → List Int → List Int
  | o, [] => o
  | o, n :: l => if n ∈ o then S.meetL o l else S.meetL (o ++ [n]) l
theorem keqI_eq2 (a b : Int) : keqI a b = decide (a = b) := rfl
theorem numAt_cons (e : Int × Int) (es : List (Int × Int)) (k : Int) : S.numAt (e :: es) k = if k = e.1 then some e.2 else S.numAt es k := by
  show (cond (keqI k e.1) (some e.2) (S.numAt es k)) = _
  rw [keqI_eq2]
  by_cases h : k = e.1
  · rw [if_pos h, decide_eq_true h]; rfl
  · rw [if_neg h, decide_eq_false h]; rfl
theorem numSet_cons (e : Int × Int) (es : List (Int × Int)) (k v : Int) : S.numSet (e :: es) k v = if k = e.1 then (k, v) :: es else e :: S.numSet es k v := by
  show (cond (keqI k e.1) ((k, v) :: es) (e :: S.numSet es k v)) = _
  rw [keqI_eq2]
  by_cases h : k = e.1
  · rw [if_pos h, decide_eq_true h]; rfl
  · rw [if_neg h, decide_eq_false h]; rfl
theorem numAt_tabF : ∀ (o : List Int) (i : Nat) (k : Int), S.numAt (S.tabF i o) k = if k ∈ o then some (Int.ofNat (i + o.idxOf k)) else none
  | [], i, k => by simp [S.tabF]; rfl
  | n :: l, i, k => by
    simp only [S.tabF, numAt_cons]
    by_cases h : k = n
    · subst h; simp
    · rw [if_neg h, numAt_tabF l (i + 1) k]
      have h' : (n == k) = false := by simpa using fun e => h e.symm
      by_cases hm : k ∈ l
      · rw [if_pos hm, if_pos (List.mem_cons_of_mem _ hm), List.idxOf_cons, h', cond_false, Nat.add_assoc, Nat.add_comm 1]
      · rw [if_neg hm, if_neg (by simp [h, hm])]
theorem numAt_tab (o : List Int) (k : Int) : S.numAt (S.tab o) k = if k ∈ o then some (Int.ofNat (o.idxOf k)) else none := by
  unfold S.tab; rw [numAt_tabF, Nat.zero_add]
theorem numSet_tabF : ∀ (o : List Int) (i : Nat) (k : Int), k ∉ o → S.numSet (S.tabF i o) k (Int.ofNat (i + o.length)) = S.tabF i (o ++ [k])
  | [], i, k, _ => rfl
  | n :: l, i, k, h => by
    simp only [List.mem_cons, not_or] at h
    simp only [S.tabF, numSet_cons, List.cons_append, if_neg h.1]
    congr 1
    have := numSet_tabF l (i + 1) k h.2
    rw [show i + 1 + l.length = i + (n :: l).length by simp; omega] at this
    exact this
theorem numSet_tab (o : List Int) (k : Int) (h : k ∉ o) : S.numSet (S.tab o) k (Int.ofNat o.length) = S.tab (o ++ [k]) := by
  have := numSet_tabF o 0 k h
  rwa [Nat.zero_add] at this
theorem meetN_tab : ∀ (l o : List Int), (o.length + l.length) * 8 ≤ 140737488355328 → S.meetN l (S.tab o) o = some (S.tab (S.meetL o l), S.meetL o l)
  | [], o, h => rfl
  | n :: l, o, h => by
    simp only [List.length_cons] at h
    simp only [S.meetN, S.meetL, numAt_tab]
    by_cases hm : n ∈ o
    · rw [if_pos hm, if_pos hm]
      exact meetN_tab l o (by omega)
    · rw [if_neg hm, if_neg hm]
      simp only [Option.isSome_none, cond_false]
      rw [Nat.ble_eq_true_of_le (show (o.length + 1) * 8 ≤ 140737488355328 by omega), cond_true, numSet_tab o n hm]
      exact meetN_tab l (o ++ [n]) (by simp only [List.length_append, List.length_cons, List.length_nil]; omega)
theorem meetL_mem : ∀ (l o : List Int) (k : Int), k ∈ S.meetL o l ↔ k ∈ o ∨ k ∈ l
  | [], o, k => by simp [S.meetL]
  | n :: l, o, k => by
    simp only [S.meetL]
    by_cases hm : n ∈ o
    · rw [if_pos hm, meetL_mem l o k]
      constructor
      · rintro (h | h)
        · exact .inl h
        · exact .inr (List.mem_cons_of_mem _ h)
      · rintro (h | h)
        · exact .inl h
        · rcases List.mem_cons.1 h with rfl | h
          · exact .inl hm
          · exact .inr h
    · rw [if_neg hm, meetL_mem l (o ++ [n]) k]
      simp only [List.mem_append, List.mem_cons, List.not_mem_nil, or_false]
      constructor
      · rintro ((h | h) | h)
        · exact .inl h
        · exact .inr (.inl h)
        · exact .inr (.inr h)
      · rintro (h | h | h)
        · exact .inl (.inl h)
        · exact .inl (.inr h)
        · exact .inr h
theorem meetL_nodup : ∀ (l o : List Int), o.Nodup → (S.meetL o l).Nodup
  | [], o, h => h
  | n :: l, o, h => by
    simp only [S.meetL]
    by_cases hm : n ∈ o
    · rw [if_pos hm]; exact meetL_nodup l o h
    · rw [if_neg hm]
      refine meetL_nodup l _ (List.nodup_append.2 ⟨h, by simp, fun a ha b hb => ?_⟩)
      rw [List.mem_singleton.1 hb]
      exact fun e => hm (e ▸ ha)
theorem meetL_pre : ∀ (l o : List Int), ∃ t, S.meetL o l = o ++ t
  | [], o => ⟨[], (List.append_nil _).symm⟩
  | n :: l, o => by
    simp only [S.meetL]
    by_cases hm : n ∈ o
    · rw [if_pos hm]; exact meetL_pre l o
    · rw [if_neg hm]
      obtain ⟨t, ht⟩ := meetL_pre l (o ++ [n])
      exact ⟨n :: t, by rw [ht]; simp⟩
theorem meetL_len (l o : List Int) : o.length ≤ (S.meetL o l).length := by
  obtain ⟨t, ht⟩ := meetL_pre l o
  rw [ht]; simp
end Go.Proofs.Ytcnhjofpmpipfaa
end

/- Converting graphs, object by object; what is converted is right again. -/
section
set_option linter.unusedVariables false
set_option maxRecDepth 100000
namespace Go.Proofs.Ytcnhjofpmpipfaa
open Go Go.Sx Go.RowKit Go.Jx
/-- The values of an object. -/
def cvRow (ca : List DCol) (vs : List DVal) : List DGive → List DCol → Option (List DVal)
  | g :: gs, c :: cs => if (S.made g ca vs c).2 = true then (cvRow ca vs gs cs).map ((S.made g ca vs c).1 :: ·) else none
  | _, _ => some []
theorem cvIn_row (ca : List DCol) (vs : List DVal) : ∀ (gs : List DGive) (cs : List DCol) (acc : List DVal),
    (∀ ws, cvRow ca vs gs cs = some ws → S.cvIn ca vs gs cs acc = (some (acc ++ ws), S.lit [])) ∧ (cvRow ca vs gs cs = none → ∃ c ∈ cs, S.cvIn ca vs gs cs acc = (none, c.1))
  | [], cs, acc => by simp [cvRow, S.cvIn]
  | g :: gs, [], acc => by simp [cvRow, S.cvIn]
  | g :: gs, c :: cs, acc => by
    obtain ⟨i1, i2⟩ := cvIn_row ca vs gs cs (acc ++ [(S.made g ca vs c).1])
    rw [cvRow, S.cvIn]
    by_cases hf : (S.made g ca vs c).2 = true
    · rw [if_pos hf, if_pos hf]
      cases hr : cvRow ca vs gs cs with
      | none =>
        refine ⟨fun ws h => (by cases h), fun _ => ?_⟩
        obtain ⟨d, hd, e⟩ := i2 hr
        exact ⟨d, List.mem_cons_of_mem _ hd, e⟩
      | some ws =>
        refine ⟨fun ws' h => ?_, fun h => (by cases h)⟩
        cases h
        rw [i1 ws hr]
        simp
    · rw [if_neg hf, if_neg hf]
      exact ⟨fun ws h => (by cases h), fun _ => ⟨c, List.mem_cons_self, rfl⟩⟩
theorem cvRow_some {ca : List DCol} {vs : List DVal} : ∀ {gs : List DGive} {cs : List DCol} {ws : List DVal}, gs.length = cs.length → cvRow ca vs gs cs = some ws →
    ws.length = gs.length ∧ ∀ k (h1 : k < gs.length) (h2 : k < cs.length) (h3 : k < ws.length), (S.made gs[k] ca vs cs[k]).2 = true ∧ ws[k] = (S.made gs[k] ca vs cs[k]).1
  | [], [], ws, _, h => by
    simp only [cvRow, Option.some.injEq] at h
    subst h
    exact ⟨rfl, fun k h1 => (by simp at h1)⟩
  | [], _ :: _, ws, h, _ => by simp at h
  | _ :: _, [], ws, h, _ => by simp at h
  | g :: gs, c :: cs, ws, hl, h => by
    rw [cvRow] at h
    by_cases hf : (S.made g ca vs c).2 = true
    · rw [if_pos hf] at h
      cases hr : cvRow ca vs gs cs with
      | none => rw [hr] at h; cases h
      | some ws' =>
        rw [hr] at h
        simp only [Option.map_some, Option.some.injEq] at h
        subst h
        obtain ⟨k1, k2⟩ := cvRow_some (by simpa using hl) hr
        refine ⟨by simp [k1], fun k h1 h2 h3 => ?_⟩
        cases k with
        | zero => exact ⟨hf, rfl⟩
        | succ k => exact k2 k (by simpa using h1) (by simpa using h2) (by simpa using h3)
    · rw [if_neg hf] at h; cases h
/-- An object. -/
def cvNode (a b : List DForm) (l : List DRule) (n : DNode) : Option DNode :=
  (cvRow (S.colsOf a n.1) n.2 (S.ruleOf l n.1).1.2.2 (S.colsOf b (S.ruleOf l n.1).1.2.1)).map fun ws => ((S.ruleOf l n.1).1.2.1, ws)
def cvAll (a b : List DForm) (l : List DRule) : List DNode → Option (List DNode)
  | [] => some []
  | n :: ns => match cvNode a b l n with
    | none => none
    | some m => (cvAll a b l ns).map (m :: ·)
theorem cvGo_all (a b : List DForm) (l : List DRule) (roots : List DVal) : ∀ (ns : List DNode) (i : Nat) (acc : List DNode),
    (∀ ms, cvAll a b l ns = some ms → S.cvGo a b l roots i ns acc = ((acc ++ ms, roots), S.zRefusal, 0)) ∧
    (cvAll a b l ns = none → ∃ r : DRefusal, S.cvGo a b l roots i ns acc = (S.zGraph, r, 10) ∧ (i : Int) ≤ r.1 ∧ r.1 < i + ns.length ∧ ∃ n ∈ ns, ∃ c ∈ S.colsOf b (S.ruleOf l n.1).1.2.1, r.2 = c.1)
  | [], i, acc => by simp [cvAll, S.cvGo]
  | n :: ns, i, acc => by
    rw [cvAll, S.cvGo]
    obtain ⟨c1, c2⟩ := cvIn_row (S.colsOf a n.1) n.2 (S.ruleOf l n.1).1.2.2 (S.colsOf b (S.ruleOf l n.1).1.2.1) []
    unfold cvNode
    cases hr : cvRow (S.colsOf a n.1) n.2 (S.ruleOf l n.1).1.2.2 (S.colsOf b (S.ruleOf l n.1).1.2.1) with
    | none =>
      obtain ⟨c, hc, e⟩ := c2 hr
      simp only [e, Option.map_none]
      refine ⟨fun ms h => (by cases h), fun _ => ⟨_, rfl, Int.le_refl _, ?_, n, List.mem_cons_self, c, hc, rfl⟩⟩
      have e0 : Int.ofNat i = (i : Int) := rfl
      simp only [List.length_cons]
      omega
    | some ws =>
      have e := c1 ws hr
      simp only [e, Option.map_some, List.nil_append]
      obtain ⟨k1, k2⟩ := cvGo_all a b l roots ns (i + 1) (acc ++ [((S.ruleOf l n.1).1.2.1, ws)])
      refine ⟨fun ms h => ?_, fun h => ?_⟩
      · cases hq : cvAll a b l ns with
        | none => rw [hq] at h; cases h
        | some ms' =>
          rw [hq] at h
          simp only [Option.map_some, Option.some.injEq] at h
          rw [k1 ms' hq, ← h]
          simp
      · cases hq : cvAll a b l ns with
        | some ms' => rw [hq] at h; cases h
        | none =>
          obtain ⟨r, r1, r2, r3, m, hm, c, hc, r4⟩ := k2 hq
          exact ⟨r, r1, by omega, by simp only [List.length_cons]; omega, m, List.mem_cons_of_mem _ hm, c, hc, r4⟩
theorem cvAll_some {a b : List DForm} {l : List DRule} : ∀ {ns ms : List DNode}, cvAll a b l ns = some ms → ms.length = ns.length ∧ ∀ k (h : k < ns.length) (h' : k < ms.length), cvNode a b l ns[k] = some ms[k]
  | [], ms, h => by
    simp only [cvAll, Option.some.injEq] at h
    subst h
    exact ⟨rfl, fun k h => (by simp at h)⟩
  | n :: ns, ms, h => by
    rw [cvAll] at h
    cases hn : cvNode a b l n with
    | none => rw [hn] at h; cases h
    | some m =>
      rw [hn] at h
      cases hq : cvAll a b l ns with
      | none => rw [hq] at h; cases h
      | some ms' =>
        rw [hq] at h
        simp only [Option.map_some, Option.some.injEq] at h
        subst h
        obtain ⟨k1, k2⟩ := cvAll_some hq
        refine ⟨by simp [k1], fun k h1 h2 => ?_⟩
        cases k with
        | zero => exact hn
        | succ k => exact k2 k (by simpa using h1) (by simpa using h2)
theorem convert_ok {a b : List DForm} {l : List DRule} {g : DGraph} (h1 : S.checkRules a b l = 0) (h2 : S.check a g = 0) : S.convert a b l g = S.cvGo a b l g.2 0 g.1 [] := by
  unfold S.convert
  rw [if_neg (by simpa using h1), if_neg (by simpa using h2)]

/-! ### Values -/
theorem value_iff {many : Nat} (h : many ≤ 400) (v : DVal) : S.value v (Int.ofNat many) = true ↔ (v.1 = 1 ∧ -1099511627776 ≤ v.2 ∧ v.2 ≤ 1099511627776) ∨ (v.1 = 2 ∧ 0 ≤ v.2 ∧ v.2 ≤ 1) ∨ (v.1 = 3 ∧ v.2 = 0) ∨ (v.1 = 4 ∧ 0 ≤ v.2 ∧ v.2 < many) := by
  have hw : IntKind.i64.wrap (Int.sub (Int.ofNat many) (Int.ofNat 1)) = (many : Int) - 1 := by
    have : Int.sub (Int.ofNat many) (Int.ofNat 1) = (many : Int) - 1 := rfl
    rw [this]
    exact wrap64_in (by omega)
  unfold S.value
  rw [hw]
  simp only [S.within]
  by_cases h1 : v.1 = 1
  · simp [h1]
  by_cases h2 : v.1 = 2
  · simp [h2]
  by_cases h3 : v.1 = 3
  · simp [h3]
  by_cases h4 : v.1 = 4
  · simp [h4]; omega
  simp [h1, h2, h3, h4]
theorem suits_iff (g : DGraph) (c : DCol) (v : DVal) : S.suits g c v = true ↔ (c.2.1 = 1 → v.1 = 1) ∧ (c.2.1 = 2 → v.1 = 2) ∧ (¬ c.2.1 = 1 → ¬ c.2.1 = 2 → v.1 = 3 ∨ (v.1 = 4 ∧ (c.2.2 = S.ANY ∨ (S.at_ S.zNode g.1 v.2).1 = c.2.2))) := by
  unfold S.suits
  by_cases h1 : c.2.1 = 1
  · simp [h1]
  by_cases h2 : c.2.1 = 2
  · simp [h2]
  simp [h1, h2]
theorem suitsAll_iff (g : DGraph) : ∀ (cs : List DCol) (vs : List DVal), vs.length = cs.length → (S.suitsAll g cs vs = true ↔ ∀ k (h : k < cs.length) (h' : k < vs.length), S.suits g cs[k] vs[k] = true)
  | [], vs, _ => by simp [S.suitsAll]
  | c :: cs, [], h => by simp at h
  | c :: cs, v :: vs, hl => by
    rw [S.suitsAll]
    have ih := suitsAll_iff g cs vs (by simpa using hl)
    by_cases h0 : S.suits g c v = true
    · rw [if_pos h0, ih]
      constructor
      · intro h k h1 h2
        cases k with
        | zero => exact h0
        | succ k => exact h k (by simpa using h1) (by simpa using h2)
      · intro h k h1 h2
        exact h (k + 1) (by simpa using h1) (by simpa using h2)
    · rw [if_neg h0]
      exact ⟨fun h => (by cases h), fun h => absurd (h 0 (by simp) (by simp)) h0⟩
theorem typed_of {l : List DForm} {g : DGraph} : ∀ {ns : List DNode}, (∀ n ∈ ns, n.2.length = (S.colsOf l n.1).length ∧ S.suitsAll g (S.colsOf l n.1) n.2 = true) → S.typed l g ns = true
  | [], _ => rfl
  | n :: ns, h => by
    rw [S.typed]
    have h0 := h n List.mem_cons_self
    rw [if_pos h0.1, if_pos h0.2]
    exact typed_of fun m hm => h m (List.mem_cons_of_mem _ hm)
theorem formed_of {g : DGraph} (h1 : g.1.length ≤ 400) (h2 : g.2.length ≤ 60) (h3 : ∀ n ∈ g.1, n.2.length ≤ 30) (h4 : ∀ n ∈ g.1, ∀ v ∈ n.2, S.value v (Int.ofNat g.1.length) = true) (h5 : ∀ v ∈ g.2, S.value v (Int.ofNat g.1.length) = true ∧ S.refers v = true) : S.formed g = 0 := by
  unfold S.formed
  rw [if_neg (by omega), if_neg, if_neg, if_neg]
  · simp only [List.any_eq_true, not_exists, not_and, Bool.or_eq_true, Bool.not_eq_true', not_or, Bool.not_eq_false]
    exact fun v hv => h5 v hv
  · simp only [List.any_eq_true, not_exists, not_and, Bool.not_eq_true', Bool.not_eq_false]
    exact fun n hn v hv => h4 n hn v hv
  · simp only [List.any_eq_true, not_exists, not_and, decide_eq_true_eq]
    exact fun n hn => by have := h3 n hn; omega
/-- The value of a field, as it is typed. -/
structure ValOK (g : DGraph) (c : DCol) (v : DVal) : Prop where
  value : (v.1 = 1 ∧ -1099511627776 ≤ v.2 ∧ v.2 ≤ 1099511627776) ∨ (v.1 = 2 ∧ 0 ≤ v.2 ∧ v.2 ≤ 1) ∨ (v.1 = 3 ∧ v.2 = 0) ∨ (v.1 = 4 ∧ 0 ≤ v.2 ∧ v.2 < g.1.length)
  i : c.2.1 = 1 → v.1 = 1
  b : c.2.1 = 2 → v.1 = 2
  r : ¬ c.2.1 = 1 → ¬ c.2.1 = 2 → v.1 = 3 ∨ (v.1 = 4 ∧ (c.2.2 = S.ANY ∨ (S.at_ S.zNode g.1 v.2).1 = c.2.2))
theorem graph_val {l : List DForm} {g : DGraph} (h : GraphOK l g) {n : DNode} (hn : n ∈ g.1) : n.2.length = (S.colsOf l n.1).length ∧ ∀ k (h1 : k < (S.colsOf l n.1).length) (h2 : k < n.2.length), ValOK g (S.colsOf l n.1)[k] n.2[k] := by
  obtain ⟨f1, f2, f3, f4, f5⟩ := formed_zero h.formed
  obtain ⟨t1, t2⟩ := typed_len h.typed n hn
  rw [suitsAll_iff _ _ _ t1] at t2
  refine ⟨t1, fun k h1 h2 => ?_⟩
  have hv := (value_iff f1 _).1 (f4 n hn n.2[k] (List.getElem_mem h2))
  obtain ⟨s1, s2, s3⟩ := (suits_iff _ _ _).1 (t2 k h1 h2)
  exact ⟨hv, s1, s2, s3⟩
theorem src_val {l : List DForm} {g : DGraph} (h : GraphOK l g) {n : DNode} (hn : n ∈ g.1) {x : DGive} (hc : 0 ≤ S.col (S.colsOf l n.1) x.1) : ValOK g (S.at_ S.zCol (S.colsOf l n.1) (S.col (S.colsOf l n.1) x.1)) (S.src x (S.colsOf l n.1) n.2) := by
  obtain ⟨k, hk, e1, e2, e3⟩ := at_col hc
  obtain ⟨g1, g2⟩ := graph_val h hn
  have hk2 : k < n.2.length := by rw [g1]; exact hk
  have := g2 k hk hk2
  unfold S.src
  rw [e2, e1, at_nat _ hk2]
  exact this
theorem leads_iff {a b : List DForm} {l : List DRule} (hR : RulesOK a b l) (hA : FormsOK a) {p q : ByteArray} : S.leads l p q = true ↔ q = S.ANY ∨ (¬ p = S.ANY ∧ (S.ruleOf l p).2 = true ∧ (S.ruleOf l p).1.2.1 = q) := by
  unfold S.leads
  rw [Bool.or_eq_true, decide_eq_true_eq, Bool.and_eq_true, decide_eq_true_eq]
  constructor
  · rintro (h | ⟨h1, h2⟩)
    · exact .inl h
    · refine .inr ⟨fun e => ?_, h1, h2⟩
      obtain ⟨m1, m2⟩ := ruleOf_mem h1
      obtain ⟨f, _, _, f3, f4⟩ := form_get (hR.has _ m1).1
      exact lw_class_ne_any (hA.cls f f3) (by rw [f4, m2, e])
  · rintro (h | ⟨_, h1, h2⟩)
    · exact .inl h
    · exact .inr ⟨h1, h2⟩
theorem made_ok {a b : List DForm} {l : List DRule} {g : DGraph} {ms : List DNode} (hR : RulesOK a b l) (hA : FormsOK a) {ca : List DCol} {vs : List DVal} {x : DGive} {c : DCol} (hx : GiveOK l x ca c) (hck : 1 ≤ c.2.1 ∧ c.2.1 ≤ 3)
    (hv : x.2.1 ≤ 5 → ValOK g (S.at_ S.zCol ca (S.col ca x.1)) (S.src x ca vs)) (hlen : ms.length = g.1.length) (hms : ∀ i : Int, 0 ≤ i → i < g.1.length → (S.at_ S.zNode ms i).1 = (S.ruleOf l (S.at_ S.zNode g.1 i).1).1.2.1) (roots : List DVal)
    (hf : (S.made x ca vs c).2 = true) : ValOK (ms, roots) c (S.made x ca vs c).1 := by
  have hh := hx.how
  have hc : x.2.1 = 1 ∨ x.2.1 = 2 ∨ x.2.1 = 3 ∨ x.2.1 = 4 ∨ x.2.1 = 5 ∨ x.2.1 = 6 ∨ x.2.1 = 7 := by omega
  unfold S.made at hf ⊢
  have refOK : ∀ v : DVal, ValOK g (S.at_ S.zCol ca (S.col ca x.1)) v → (S.at_ S.zCol ca (S.col ca x.1)).2.1 = 3 → S.leads l (S.at_ S.zCol ca (S.col ca x.1)).2.2 c.2.2 = true → v.1 = 3 ∨ (v.1 = 4 ∧ (c.2.2 = S.ANY ∨ (S.at_ S.zNode ms v.2).1 = c.2.2)) := by
    intro v hv h3 hl
    rcases hv.r (by omega) (by omega) with k | ⟨k, k2⟩
    · exact .inl k
    · refine .inr ⟨k, ?_⟩
      rcases (leads_iff hR hA).1 hl with q | ⟨q1, q2, q3⟩
      · exact .inl q
      · right
        have hin : 0 ≤ v.2 ∧ v.2 < g.1.length := by rcases hv.value with z | z | z | z <;> omega
        rcases k2 with k2 | k2
        · exact absurd k2 q1
        · rw [hms v.2 hin.1 hin.2, k2, q3]
  rcases hc with e | e | e | e | e | e | e
  · have h1 := hx.h1 e
    have v1 := hv (by omega)
    simp only [e, show ¬ (1 : Int) = 6 from by decide, show ¬ (1 : Int) = 7 from by decide, show ¬ (1 : Int) = 2 from by decide, show ¬ (1 : Int) = 3 from by decide, show ¬ (1 : Int) = 4 from by decide, show ¬ (1 : Int) = 5 from by decide, if_false]
    exact ⟨by rw [hlen]; exact v1.value, fun h => v1.i (by omega), fun h => v1.b (by omega), fun k1 k2 => refOK _ v1 (by omega) (h1.2 (by omega))⟩
  · have h2 := hx.h2 e
    have v1 := hv (by omega)
    have vb := v1.b h2.1
    have vv : 0 ≤ (S.src x ca vs).2 ∧ (S.src x ca vs).2 ≤ 1 := by rcases v1.value with z | z | z | z <;> omega
    simp only [e, show ¬ (2 : Int) = 6 from by decide, show ¬ (2 : Int) = 7 from by decide, if_false, if_true]
    exact ⟨.inl ⟨rfl, by omega, by omega⟩, fun _ => rfl, fun h => by omega, fun h => absurd h2.2 h⟩
  · have h3 := hx.h3 e
    simp only [e, show ¬ (3 : Int) = 6 from by decide, show ¬ (3 : Int) = 7 from by decide, show ¬ (3 : Int) = 2 from by decide, if_false, if_true, S.within, Bool.and_eq_true, decide_eq_true_eq] at hf ⊢
    exact ⟨.inr (.inl ⟨rfl, hf.1, hf.2⟩), fun h => by omega, fun _ => rfl, fun _ h => absurd h3.2 h⟩
  · have h4 := hx.h4 e
    have v1 := hv (by omega)
    simp only [e, show ¬ (4 : Int) = 6 from by decide, show ¬ (4 : Int) = 7 from by decide, show ¬ (4 : Int) = 2 from by decide, show ¬ (4 : Int) = 3 from by decide, if_false, if_true]
    exact ⟨by rw [hlen]; exact v1.value, fun h => v1.i h4.1, fun h => by omega, fun h => absurd h4.2 h⟩
  · have h5 := hx.h5 e
    have v1 := hv (by omega)
    simp only [e, show ¬ (5 : Int) = 6 from by decide, show ¬ (5 : Int) = 7 from by decide, show ¬ (5 : Int) = 2 from by decide, show ¬ (5 : Int) = 3 from by decide, show ¬ (5 : Int) = 4 from by decide, if_false, if_true]
    exact ⟨by rw [hlen]; exact v1.value, fun h => by omega, fun h => by omega, fun _ _ => refOK _ v1 h5.1 h5.2.2⟩
  · have h6 := hx.h6 e
    have hb := hx.big
    simp only [e, if_true]
    by_cases hc2 : c.2.1 = 2
    · rw [if_pos hc2]
      have : 0 ≤ x.2.2 ∧ x.2.2 ≤ 1 := by rcases h6 with z | ⟨_, z⟩; omega; exact z
      exact ⟨.inr (.inl ⟨rfl, this.1, this.2⟩), fun h => by omega, fun _ => rfl, fun _ h => absurd hc2 h⟩
    · rw [if_neg hc2]
      exact ⟨.inl ⟨rfl, hb.1, hb.2⟩, fun _ => rfl, fun h => absurd h hc2, fun h => by omega⟩
  · have h7 := hx.h7 e
    simp only [e, show ¬ (7 : Int) = 6 from by decide, if_false, if_true]
    exact ⟨.inr (.inr (.inl ⟨rfl, rfl⟩)), fun h => by omega, fun h => by omega, fun _ _ => .inl rfl⟩
/-- What is converted is right. -/
theorem conv_ok {a b : List DForm} {l : List DRule} {g : DGraph} {ms : List DNode} (hA : FormsOK a) (hB : FormsOK b) (hR : RulesOK a b l) (hG : GraphOK a g) (h : cvAll a b l g.1 = some ms) : GraphOK b (ms, g.2) := by
  obtain ⟨f1, f2, f3, f4, f5⟩ := formed_zero hG.formed
  obtain ⟨k1, k2⟩ := cvAll_some h
  have node : ∀ k (hk : k < g.1.length) (hk' : k < ms.length), ms[k].1 = (S.ruleOf l g.1[k].1).1.2.1 ∧ cvRow (S.colsOf a g.1[k].1) g.1[k].2 (S.ruleOf l g.1[k].1).1.2.2 (S.colsOf b (S.ruleOf l g.1[k].1).1.2.1) = some ms[k].2 := fun k hk hk' => by
    have := k2 k hk hk'
    unfold cvNode at this
    cases hr : cvRow (S.colsOf a g.1[k].1) g.1[k].2 (S.ruleOf l g.1[k].1).1.2.2 (S.colsOf b (S.ruleOf l g.1[k].1).1.2.1) with
    | none => rw [hr] at this; cases this
    | some ws => rw [hr] at this; simp only [Option.map_some, Option.some.injEq] at this; rw [← this]; exact ⟨rfl, rfl⟩
  have hms : ∀ i : Int, 0 ≤ i → i < g.1.length → (S.at_ S.zNode ms i).1 = (S.ruleOf l (S.at_ S.zNode g.1 i).1).1.2.1 := fun i h0 h1 => by
    have e : i = (i.toNat : Int) := by omega
    have hk : i.toNat < g.1.length := by omega
    rw [e, at_nat _ (l := ms) (by rw [k1]; exact hk), at_nat _ hk]
    exact (node _ hk (by rw [k1]; exact hk)).1
  have rule : ∀ n ∈ g.1, (S.ruleOf l n.1).1 ∈ l ∧ (S.ruleOf l n.1).1.1 = n.1 := fun n hn => by
    obtain ⟨fa, _, _, a3, a4⟩ := form_get (hG.has n hn)
    exact ruleOf_mem (by rw [← a4]; exact hR.all fa a3)
  have vals : ∀ k (hk : k < g.1.length) (hk' : k < ms.length), ms[k].2.length = (S.colsOf b ms[k].1).length ∧ ∀ j (h1 : j < (S.colsOf b ms[k].1).length) (h2 : j < ms[k].2.length), ValOK (ms, g.2) (S.colsOf b ms[k].1)[j] ms[k].2[j] := fun k hk hk' => by
    obtain ⟨n1, n2⟩ := node k hk hk'
    have hn := List.getElem_mem hk
    obtain ⟨r1, r2⟩ := rule _ hn
    have hgl := hR.glen _ r1
    obtain ⟨c1, c2⟩ := cvRow_some hgl n2
    rw [n1]
    refine ⟨by rw [c1, hgl], fun j h1 h2 => ?_⟩
    have hj : j < (S.ruleOf l g.1[k].1).1.2.2.length := by rw [hgl]; exact h1
    obtain ⟨d1, d2⟩ := c2 j hj h1 h2
    have hgv := (give_iff _ _ _ _).1 (hR.gok _ r1 j hj h1)
    rw [r2] at hgv
    rw [d2]
    have hck := (colsOf_ok hB (hR.has _ r1).2).kind _ (List.getElem_mem h1)
    exact made_ok hR hA hgv hck (fun h5 => src_val hG hn (hgv.src h5)) k1 hms g.2 d1
  refine ⟨formed_of (by rw [k1]; exact f1) f2 (fun m hm => ?_) (fun m hm v hv => ?_) (fun v hv => by rw [k1]; exact f5 v hv), fun m hm => ?_, typed_of fun m hm => ?_⟩
  all_goals
    obtain ⟨k, hk', rfl⟩ := List.mem_iff_getElem.1 hm
    have hk : k < g.1.length := by rw [← k1]; exact hk'
    obtain ⟨n1, n2⟩ := node k hk hk'
    obtain ⟨v1, v2⟩ := vals k hk hk'
    have hf : 0 ≤ S.form b ms[k].1 := by rw [n1]; exact (hR.has _ (rule _ (List.getElem_mem hk)).1).2
  · rw [v1]; exact (colsOf_ok hB hf).len
  · obtain ⟨j, hj, rfl⟩ := List.mem_iff_getElem.1 hv
    have := (v2 j (by rw [← v1]; exact hj) hj).value
    exact (value_iff (by rw [k1]; exact f1) _).2 this
  · exact hf
  · refine ⟨v1, (suitsAll_iff _ _ _ v1).2 fun j h1 h2 => ?_⟩
    have := v2 j h1 h2
    exact (suits_iff _ _ _).2 ⟨this.i, this.b, this.r⟩
end Go.Proofs.Ytcnhjofpmpipfaa
end

/- Rules that undo rules. -/
section
set_option linter.unusedVariables false
set_option maxRecDepth 100000
namespace Go.Proofs.Ytcnhjofpmpipfaa
open Go Go.Sx Go.RowKit Go.Jx
theorem nodup_le {α : Type} [DecidableEq α] : ∀ (N M : List α), N.Nodup → (∀ x ∈ N, x ∈ M) → N.length ≤ M.length
  | [], M, _, _ => Nat.zero_le _
  | x :: N, M, hN, hs => by
    rw [List.nodup_cons] at hN
    have hx := hs x List.mem_cons_self
    have ih := nodup_le N (M.erase x) hN.2 fun y hy => (List.mem_erase_of_ne (fun e : y = x => hN.1 (by rw [← e]; exact hy))).2 (hs y (List.mem_cons_of_mem _ hy))
    rw [List.length_erase_of_mem hx] at ih
    have : 0 < M.length := List.length_pos_of_mem hx
    simp only [List.length_cons]
    omega
section
variable {A B : List DForm} {l b : List DRule}
end
end Go.Proofs.Ytcnhjofpmpipfaa
end

/- The walk of canon. -/
section
set_option linter.unusedVariables false
namespace Go.Proofs.Ytcnhjofpmpipfaa
open Go Go.Sx Go.RowKit Go.Jx
/-- Small graphs whose references are to objects. -/
structure GF (g : DGraph) : Prop where
  nodes : List.length (α := DNode) (g : List DNode × List DVal).1 ≤ 400
  roots : List.length (α := DVal) (g : List DNode × List DVal).2 ≤ 60
  vals : ∀ n ∈ (g : List DNode × List DVal).1, List.length (α := DVal) (n : ByteArray × List DVal).2 ≤ 30
  ref : ∀ n ∈ (g : List DNode × List DVal).1, ∀ k ∈ S.refsL (n : ByteArray × List DVal).2, 0 ≤ k ∧ k < Int.ofNat (List.length (α := DNode) (g : List DNode × List DVal).1)
  rref : ∀ k ∈ S.refsL (g : List DNode × List DVal).2, 0 ≤ k ∧ k < Int.ofNat (List.length (α := DNode) (g : List DNode × List DVal).1)
theorem refsL_len : ∀ l : List (Int × Int), (S.refsL l).length ≤ l.length
  | [] => Nat.le_refl _
  | v :: l => by
    have := refsL_len l
    simp only [S.refsL]
    split <;> simp <;> omega
/-- Lists of different objects. -/
structure OrdOK (nd : List DNode) (o : List Int) : Prop where
  nodup : o.Nodup
  lt : ∀ k ∈ o, 0 ≤ k ∧ k < Int.ofNat nd.length
theorem OrdOK.len {nd : List DNode} {o : List Int} (h : OrdOK nd o) : o.length ≤ nd.length := by
  have := nodup_le o ((List.range nd.length).map Int.ofNat) h.nodup fun k hk => by
    obtain ⟨h1, h2⟩ := h.lt k hk
    refine List.mem_map.2 ⟨k.toNat, List.mem_range.2 ?_, ?_⟩
    · have : (k.toNat : Int) = k := Int.toNat_of_nonneg h1
      have h2 : k < (nd.length : Int) := h2
      omega
    · exact Int.toNat_of_nonneg h1
  simpa using this
theorem OrdOK.meet {nd : List DNode} {o l : List Int} (h : OrdOK nd o) (hl : ∀ k ∈ l, 0 ≤ k ∧ k < Int.ofNat nd.length) : OrdOK nd (S.meetL o l) :=
  ⟨meetL_nodup l o h.nodup, fun k hk => by
    rcases (meetL_mem l o k).1 hk with h1 | h1
    · exact h.lt k h1
    · exact hl k h1⟩
/-- The order that the walk makes: each object in it hands over those to which it refers. -/
def S.walk (nd : List DNode) : Nat → List Int → Nat → List Int
  | 0, o, _ => o
  | f + 1, o, i => match o[i]? with
    | none => o
    | some k => match jget nd k with
      | none => o
      | some v => S.walk nd f (S.meetL o (S.refsL (v : ByteArray × List DVal).2)) (i + 1)
theorem walk_loop {g : DGraph} (hg : GF g) (L12 : ((List (Int × Int)) × (List Int) × Int × (List DNode)) → Option Rt_p_canon) : ∀ (f n i : Nat) (o : List Int), OrdOK (g : List DNode × List DVal).1 o → i ≤ o.length →
    List.length (α := DNode) (g : List DNode × List DVal).1 - i < f → List.length (α := DNode) (g : List DNode × List DVal).1 - i < n →
    rounds (fun K p => R_p_canon_7 LF g L12 K p) n (S.tab o, o, Int.ofNat i) = L12 (S.tab (S.walk (g : List DNode × List DVal).1 f o i), S.walk (g : List DNode × List DVal).1 f o i, Int.ofNat 0, []) ∧ OrdOK (g : List DNode × List DVal).1 (S.walk (g : List DNode × List DVal).1 f o i)
  | 0, n, i, o, ho, hi, hf, hn => by omega
  | f + 1, 0, i, o, ho, hi, hf, hn => by omega
  | f + 1, n + 1, i, o, ho, hi, hf, hn => by
    have hlen := ho.len
    show R_p_canon_7 LF g L12 (rounds (fun K p => R_p_canon_7 LF g L12 K p) n) (S.tab o, o, Int.ofNat i) = _ ∧ _
    by_cases he : i = o.length
    · have h1 : ieqI (Int.ofNat i) (Int.ofNat (List.length o)) = true := by rw [ieqI_eq, he]; exact decide_eq_true rfl
      have h2 : o[i]? = none := List.getElem?_eq_none (by omega)
      simp only [R_p_canon_7, h1, cond_true, S.walk, h2]
      exact ⟨trivial, ho⟩
    · have hlt : i < o.length := by omega
      have h1 : ieqI (Int.ofNat i) (Int.ofNat (List.length o)) = false := by rw [ieqI_eq]; exact decide_eq_false (fun e => he (Int.ofNat.inj e))
      have h2 : o[i]? = some o[i] := List.getElem?_eq_getElem hlt
      have h3 : jget o (Int.ofNat i) = some o[i] := by rw [jget_nat]; exact h2
      obtain ⟨k1, k2⟩ := ho.lt o[i] (List.getElem_mem hlt)
      obtain ⟨v, v1, v2, v3⟩ := jget_of (l := (g : List DNode × List DVal).1) k1 k2
      have e1 : Int.toNat (Int.ofNat i) = i := rfl
      have hr := hg.ref v v3
      have hv := hg.vals v v3
      have hn4 := hg.nodes
      have hm := meetN_tab (S.refsL (v : ByteArray × List DVal).2) o (by
        have := refsL_len (v : ByteArray × List DVal).2
        have hv : List.length (α := Int × Int) (v : ByteArray × List DVal).2 ≤ 30 := hv
        omega)
      have hw : IntKind.i64.wrap (Int.add (Int.ofNat i) (Int.ofNat 1)) = Int.ofNat (i + 1) := wrap_succ (by unfold LF; omega)
      have hnext := walk_loop hg L12 f n (i + 1) (S.meetL o (S.refsL (v : ByteArray × List DVal).2)) (ho.meet hr) (by have := meetL_len (S.refsL (v : ByteArray × List DVal).2) o; omega) (by omega) (by omega)
      simp only [R_p_canon_7, h1, cond_false, h3, e1, h2, v1, hm, hw, S.walk]
      exact hnext
end Go.Proofs.Ytcnhjofpmpipfaa
end

/- What canon makes of a formed graph. -/
section
set_option linter.unusedVariables false
namespace Go.Proofs.Ytcnhjofpmpipfaa
open Go Go.Sx Go.RowKit Go.Jx
def S.nodeAt (nd : List DNode) (k : Int) : DNode := (jget nd k).getD ((ByteArray.empty, []) : ByteArray × List DVal)
def S.newNode (nd : List DNode) (es : List (Int × Int)) (k : Int) : DNode := (((S.nodeAt nd k : ByteArray × List DVal).1, S.movedL es (S.nodeAt nd k : ByteArray × List DVal).2) : ByteArray × List DVal)
def S.numOr (es : List (Int × Int)) (k : Int) : Int := (S.numAt es k).getD (-1)
theorem canon_loop2 (g : DGraph) (es : List (Int × Int)) (o : List Int) (L18 : ((List (Int × Int)) × (List DNode) × Int × (List Int)) → Option Rt_p_canon) (hl : o.length * 40 ≤ 140737488355328)
    (ho : ∀ k ∈ o, 0 ≤ k ∧ k < Int.ofNat (List.length (α := DNode) (g : List DNode × List DVal).1)) :
    rounds (fun K p => R_p_canon_12 LF g K L18 p) LF (es, o, Int.ofNat 0, []) = L18 (es, o.map (S.newNode (g : List DNode × List DVal).1 es), Int.ofNat 0, []) := by
  refine (range0 (R := Rt_p_canon) (σ := List DNode) o (fun k s => (es, o, k, s)) (fun k s => s.length = k) (fun rest k s => L18 (es, s ++ rest.map (S.newNode (g : List DNode × List DVal).1 es), Int.ofNat 0, [])) (by unfold LF; omega) (fun K s hI => ?_) (fun K i v rest s hI r hk => ?_) [] rfl).trans ?_
  · simp only [R_p_canon_12, ilt_self, cond_false, List.map_nil, List.append_nil]
  · obtain ⟨k1, k2⟩ := ho v r.mem
    obtain ⟨n, n1, n2, n3⟩ := jget_of (l := (g : List DNode × List DVal).1) k1 k2
    have e1 : Int.toNat (Int.ofNat i) = i := rfl
    have hlt := r.lt
    have hb : Nat.ble (Nat.mul (Nat.add s.length 1) 40) 140737488355328 = true := Nat.ble_eq_true_of_le (by show (s.length + 1) * 40 ≤ _; rw [hI]; omega)
    simp only [R_p_canon_12, r.ilt, cond_true, r.get, e1, r.get?, n1, hb, r.next]
    have hnew : S.newNode (g : List DNode × List DVal).1 es v = (((n : ByteArray × List DVal).1, S.movedL es (n : ByteArray × List DVal).2) : ByteArray × List DVal) := by
      unfold S.newNode S.nodeAt; rw [n1]; rfl
    have := hk (s ++ [S.newNode (g : List DNode × List DVal).1 es v]) (by rw [List.length_append, hI]; rfl)
    rw [hnew] at this
    refine Eq.trans this ?_
    rw [List.map_cons, hnew]
    congr 2
    simp
  · rfl
theorem canon_loop3 (g : DGraph) (es : List (Int × Int)) (acc : List DNode) (hl : List.length (α := DNode) (g : List DNode × List DVal).1 ≤ 400) :
    rounds (fun K p => R_p_canon_18 LF g K p) LF (es, acc, Int.ofNat 0, []) = some (((acc, S.movedL es (g : List DNode × List DVal).2) : List DNode × List DVal), (((List.range (List.length (α := DNode) (g : List DNode × List DVal).1)).map fun k => S.numOr es (Int.ofNat k)), ())) := by
  have hlf : List.length (α := DNode) (g : List DNode × List DVal).1 < LF := by unfold LF; omega
  refine (range0 (R := Rt_p_canon) (σ := List Int) (α := DNode) (g : List DNode × List DVal).1 (fun k s => (es, acc, k, s)) (fun k s => s = (List.range k).map fun j => S.numOr es (Int.ofNat j))
    (fun _ _ _ => some (((acc, S.movedL es (g : List DNode × List DVal).2) : List DNode × List DVal), (((List.range (List.length (α := DNode) (g : List DNode × List DVal).1)).map fun k => S.numOr es (Int.ofNat k)), ()))) hlf (fun K s hI => ?_) (fun K i v rest s hI r hk => ?_) [] rfl)
  · simp only [R_p_canon_18, ilt_self, cond_false]
    rw [hI]
  · have hlt := r.lt
    have hb : Nat.ble (Nat.mul (Nat.add s.length 1) 8) 140737488355328 = true := Nat.ble_eq_true_of_le (by show (s.length + 1) * 8 ≤ _; rw [hI]; simp; omega)
    have hs : ∀ q, q = S.numOr es (Int.ofNat i) → s.append [q] = (List.range (i + 1)).map fun j => S.numOr es (Int.ofNat j) := fun q hq => by
      rw [hI, List.range_succ, List.map_append, hq]; rfl
    have hn : S.numAt es (Int.ofNat i) = @mfind (TC.int .i64) (TC.int .i64) (Int.ofNat i) es := rfl
    simp only [R_p_canon_18, r.ilt, cond_true, hb, r.next]
    cases hm : @mfind (TC.int .i64) (TC.int .i64) (Int.ofNat i) es with
    | none =>
      simp only [Bool.not_false, cond_true]
      exact hk _ (hs _ (by unfold S.numOr; rw [hn, hm]; rfl))
    | some q =>
      simp only [Bool.not_true, cond_false]
      exact hk _ (hs _ (by unfold S.numOr; rw [hn, hm]; rfl))
/-- The order of the objects that are reached. -/
def S.ord (g : DGraph) : List Int := S.walk (g : List DNode × List DVal).1 (List.length (α := DNode) (g : List DNode × List DVal).1 + 1) (S.meetL [] (S.refsL (g : List DNode × List DVal).2)) 0
def S.canonG (g : DGraph) : DGraph := (((S.ord g).map (S.newNode (g : List DNode × List DVal).1 (S.tab (S.ord g))), S.movedL (S.tab (S.ord g)) (g : List DNode × List DVal).2) : List DNode × List DVal)
def S.numsG (g : DGraph) : List Int := (List.range (List.length (α := DNode) (g : List DNode × List DVal).1)).map fun k => S.numOr (S.tab (S.ord g)) (Int.ofNat k)
theorem canon_ok {g : DGraph} (hg : GF g) : S.canonO g = some (S.canonG g, S.numsG g, ()) ∧ OrdOK (g : List DNode × List DVal).1 (S.ord g) := by
  have h60 : (S.refsL (g : List DNode × List DVal).2).length ≤ 60 := Nat.le_trans (refsL_len _) hg.roots
  have hm := meetN_tab (S.refsL (g : List DNode × List DVal).2) [] (by simp; omega)
  have ho0 : OrdOK (g : List DNode × List DVal).1 (S.meetL [] (S.refsL (g : List DNode × List DVal).2)) := OrdOK.meet ⟨List.nodup_nil, fun k hk => by cases hk⟩ hg.rref
  obtain ⟨w1, w2⟩ := walk_loop hg (fun q => G_p_canon_12 LF g LF q) (List.length (α := DNode) (g : List DNode × List DVal).1 + 1) LF 0 _ ho0 (Nat.zero_le _) (by omega) (by have := hg.nodes; unfold LF; omega)
  refine ⟨?_, w2⟩
  have hol := w2.len
  have hn4 := hg.nodes
  have hl40 : (S.ord g).length * 40 ≤ 140737488355328 := by
    have : (S.ord g).length ≤ List.length (α := DNode) (g : List DNode × List DVal).1 := hol
    omega
  have e2 := canon_loop2 g (S.tab (S.ord g)) (S.ord g) (fun q => G_p_canon_18 LF g LF q) hl40 w2.lt
  have e3 := canon_loop3 g (S.tab (S.ord g)) ((S.ord g).map (S.newNode (g : List DNode × List DVal).1 (S.tab (S.ord g)))) hg.nodes
  have hm : S.meetN (S.refsL (g : List DNode × List DVal).2) [] [] = some (S.tab (S.meetL [] (S.refsL (g : List DNode × List DVal).2)), S.meetL [] (S.refsL (g : List DNode × List DVal).2)) := hm
  simp only [S.canonO, F_p_canon, R_p_canon_in, hm]
  exact w1.trans (e2.trans e3)
end Go.Proofs.Ytcnhjofpmpipfaa
end

/- Canon does not depend on the numbers of objects. -/
section
set_option linter.unusedVariables false
namespace Go.Proofs.Ytcnhjofpmpipfaa
open Go Go.Sx Go.RowKit Go.Jx
/-- A value with another number. -/
def S.mvV (π : Int → Int) (v : Int × Int) : Int × Int := if v.1 = 4 then (v.1, π v.2) else v
theorem refsL_map (π : Int → Int) : ∀ l : List (Int × Int), S.refsL (l.map (S.mvV π)) = (S.refsL l).map π
  | [] => rfl
  | v :: l => by
    simp only [List.map_cons, S.refsL, S.mvV]
    by_cases h : v.1 = 4
    · simp only [if_pos h, List.map_cons, refsL_map π l]
    · simp only [if_neg h, refsL_map π l]
/-- Different numbers stay different. -/
def InjB (π : Int → Int) (n : Nat) : Prop := ∀ a b : Int, 0 ≤ a → a < Int.ofNat n → 0 ≤ b → b < Int.ofNat n → π a = π b → a = b
def Bnd (n : Nat) (l : List Int) : Prop := ∀ k ∈ l, 0 ≤ k ∧ k < Int.ofNat n
theorem mem_map_inj {π : Int → Int} {n : Nat} (hi : InjB π n) {o : List Int} (ho : Bnd n o) {k : Int} (h1 : 0 ≤ k) (h2 : k < Int.ofNat n) : π k ∈ o.map π ↔ k ∈ o := by
  constructor
  · intro h
    obtain ⟨a, ha, he⟩ := List.mem_map.1 h
    have := hi a k (ho a ha).1 (ho a ha).2 h1 h2 he
    rwa [← this]
  · exact fun h => List.mem_map_of_mem h
theorem meetL_map {π : Int → Int} {n : Nat} (hi : InjB π n) : ∀ (l o : List Int), Bnd n o → Bnd n l → S.meetL (o.map π) (l.map π) = (S.meetL o l).map π
  | [], o, ho, hl => rfl
  | k :: l, o, ho, hl => by
    obtain ⟨k1, k2⟩ := hl k List.mem_cons_self
    have hl2 : Bnd n l := fun a ha => hl a (List.mem_cons_of_mem _ ha)
    simp only [List.map_cons, S.meetL]
    by_cases hm : k ∈ o
    · rw [if_pos hm, if_pos ((mem_map_inj hi ho k1 k2).2 hm)]
      exact meetL_map hi l o ho hl2
    · rw [if_neg hm, if_neg (fun h => hm ((mem_map_inj hi ho k1 k2).1 h))]
      have := meetL_map hi l (o ++ [k]) (fun a ha => by
        rcases List.mem_append.1 ha with h | h
        · exact ho a h
        · rw [List.mem_singleton.1 h]; exact ⟨k1, k2⟩) hl2
      rw [List.map_append] at this
      exact this
theorem idxOf_map {π : Int → Int} {n : Nat} (hi : InjB π n) : ∀ (o : List Int), Bnd n o → ∀ {k : Int}, 0 ≤ k → k < Int.ofNat n → (o.map π).idxOf (π k) = o.idxOf k
  | [], ho, k, h1, h2 => rfl
  | a :: o, ho, k, h1, h2 => by
    obtain ⟨a1, a2⟩ := ho a List.mem_cons_self
    rw [List.map_cons, List.idxOf_cons, List.idxOf_cons, idxOf_map hi o (fun b hb => ho b (List.mem_cons_of_mem _ hb)) h1 h2]
    have : (π a == π k) = (a == k) := by
      by_cases e : a = k
      · subst e; simp
      · have : π a ≠ π k := fun h => e (hi a k a1 a2 h1 h2 h)
        rw [beq_false_of_ne e, beq_false_of_ne this]
    rw [this]
theorem numAt_map {π : Int → Int} {n : Nat} (hi : InjB π n) {o : List Int} (ho : Bnd n o) {k : Int} (h1 : 0 ≤ k) (h2 : k < Int.ofNat n) : S.numAt (S.tab (o.map π)) (π k) = S.numAt (S.tab o) k := by
  rw [numAt_tab, numAt_tab, idxOf_map hi o ho h1 h2]
  by_cases hm : k ∈ o
  · rw [if_pos hm, if_pos ((mem_map_inj hi ho h1 h2).2 hm)]
  · rw [if_neg hm, if_neg (fun h => hm ((mem_map_inj hi ho h1 h2).1 h))]
theorem movedL_map {π : Int → Int} {n : Nat} (hi : InjB π n) {o : List Int} (ho : Bnd n o) : ∀ (l : List (Int × Int)), Bnd n (S.refsL l) → S.movedL (S.tab (o.map π)) (l.map (S.mvV π)) = S.movedL (S.tab o) l
  | [], _ => rfl
  | v :: l, hl => by
    show S.movedV (S.tab (o.map π)) (S.mvV π v) :: S.movedL (S.tab (o.map π)) (l.map (S.mvV π)) = S.movedV (S.tab o) v :: S.movedL (S.tab o) l
    have hl2 : Bnd n (S.refsL l) := fun a ha => hl a (by
      simp only [S.refsL]; split
      · exact List.mem_cons_of_mem _ ha
      · exact ha)
    rw [movedL_map hi ho l hl2]
    congr 1
    by_cases h : v.1 = 4
    · obtain ⟨h1, h2⟩ := hl v.2 (by simp only [S.refsL, if_pos h]; exact List.mem_cons_self)
      have e : S.mvV π v = (v.1, π v.2) := if_pos h
      rw [e]
      unfold S.movedV
      show (if v.1 = 4 then (v.1, (S.numAt (S.tab (o.map π)) (π v.2)).getD 0) else _) = _
      rw [if_pos h, if_pos h, numAt_map hi ho h1 h2]
    · have e : S.mvV π v = v := if_neg h
      rw [e]
      unfold S.movedV
      rw [if_neg h, if_neg h]
end Go.Proofs.Ytcnhjofpmpipfaa
end

/- Canon of a renumbered graph. -/
section
set_option linter.unusedVariables false
namespace Go.Proofs.Ytcnhjofpmpipfaa
open Go Go.Sx Go.RowKit Go.Jx
/-- A graph whose objects have other numbers. -/
structure Ren (π : Int → Int) (x y : List DNode × List DVal) : Prop where
  len : y.1.length = x.1.length
  inj : InjB π x.1.length
  node : ∀ (k : Int) (v : ByteArray × List DVal), jget x.1 k = some v → jget y.1 (π k) = some ((v.1, List.map (α := Int × Int) (β := Int × Int) (S.mvV π) v.2) : ByteArray × List DVal)
  roots : y.2 = List.map (α := Int × Int) (β := Int × Int) (S.mvV π) x.2
theorem walk_map {π : Int → Int} {x y : List DNode × List DVal} (h : Ren π x y) (hg : GF x) : ∀ (f : Nat) (o : List Int) (i : Nat), Bnd x.1.length o → S.walk y.1 f (o.map π) i = (S.walk x.1 f o i).map π ∧ Bnd x.1.length (S.walk x.1 f o i)
  | 0, o, i, ho => ⟨rfl, ho⟩
  | f + 1, o, i, ho => by
    simp only [S.walk, List.getElem?_map]
    cases hk : o[i]? with
    | none => exact ⟨rfl, ho⟩
    | some k =>
      have hmem := List.mem_of_getElem? hk
      obtain ⟨k1, k2⟩ := ho k hmem
      obtain ⟨v, v1, v2, v3⟩ := jget_of (l := x.1) k1 k2
      have hy := h.node k v v1
      simp only [Option.map_some, v1, hy]
      have hb : Bnd x.1.length (S.refsL (v : ByteArray × List DVal).2) := hg.ref v v3
      have e : S.refsL (List.map (α := Int × Int) (β := Int × Int) (S.mvV π) (v : ByteArray × List DVal).2) = (S.refsL (v : ByteArray × List DVal).2).map π := refsL_map π _
      rw [e, meetL_map h.inj _ _ ho hb]
      exact walk_map h hg f _ (i + 1) fun a ha => by
        rcases (meetL_mem _ _ a).1 ha with h1 | h1
        · exact ho a h1
        · exact hb a h1
theorem ord_map {π : Int → Int} {x y : List DNode × List DVal} (h : Ren π x y) (hg : GF x) : S.ord y = (S.ord x).map π ∧ Bnd x.1.length (S.ord x) := by
  unfold S.ord
  have hb : Bnd x.1.length (S.refsL x.2) := hg.rref
  have e : S.refsL y.2 = (S.refsL x.2).map π := by rw [h.roots]; exact refsL_map π _
  have em : S.meetL [] (S.refsL y.2) = (S.meetL [] (S.refsL x.2)).map π := by
    rw [e]; exact meetL_map h.inj (S.refsL x.2) [] (fun a ha => by cases ha) hb
  have hb2 : Bnd x.1.length (S.meetL [] (S.refsL x.2)) := fun a ha => by
    rcases (meetL_mem _ _ a).1 ha with h1 | h1
    · cases h1
    · exact hb a h1
  have := walk_map h hg (x.1.length + 1) (S.meetL [] (S.refsL x.2)) 0 hb2
  refine ⟨?_, this.2⟩
  show S.walk y.1 (y.1.length + 1) (S.meetL [] (S.refsL y.2)) 0 = _
  rw [em, h.len]
  exact this.1
/-- Graphs that differ by numbers alone have one canonical form. -/
theorem canonG_map {π : Int → Int} {x y : List DNode × List DVal} (h : Ren π x y) (hg : GF x) : S.canonG y = S.canonG x := by
  obtain ⟨e, hb⟩ := ord_map h hg
  have hr : S.movedL (S.tab ((S.ord x).map π)) y.2 = S.movedL (S.tab (S.ord x)) x.2 := by
    rw [h.roots]; exact movedL_map h.inj hb x.2 hg.rref
  have hn : ∀ k ∈ S.ord x, S.newNode y.1 (S.tab ((S.ord x).map π)) (π k) = S.newNode x.1 (S.tab (S.ord x)) k := fun k hk => by
    obtain ⟨k1, k2⟩ := hb k hk
    obtain ⟨v, v1, v2, v3⟩ := jget_of (l := x.1) k1 k2
    have hy := h.node k v v1
    unfold S.newNode S.nodeAt
    rw [v1, hy]
    have := movedL_map h.inj hb (v : ByteArray × List DVal).2 (hg.ref v v3)
    show (((v : ByteArray × List DVal).1, S.movedL (S.tab ((S.ord x).map π)) (List.map (α := Int × Int) (β := Int × Int) (S.mvV π) (v : ByteArray × List DVal).2)) : ByteArray × List DVal) = _
    rw [this]; rfl
  show ((((S.ord y).map (S.newNode y.1 (S.tab (S.ord y))), S.movedL (S.tab (S.ord y)) y.2) : List DNode × List DVal)) = ((((S.ord x).map (S.newNode x.1 (S.tab (S.ord x))), S.movedL (S.tab (S.ord x)) x.2) : List DNode × List DVal))
  rw [e, hr, List.map_map]
  congr 1
  exact List.map_congr_left fun k hk => hn k hk
end Go.Proofs.Ytcnhjofpmpipfaa
end

/- Where all objects are reached, the canonical form is the graph with other numbers. -/
section
set_option linter.unusedVariables false
namespace Go.Proofs.Ytcnhjofpmpipfaa
open Go Go.Sx Go.RowKit Go.Jx
theorem full_mem {nd : List DNode} {o : List Int} (h : OrdOK nd o) (hl : o.length = nd.length) {k : Int} (h1 : 0 ≤ k) (h2 : k < Int.ofNat nd.length) : k ∈ o := by
  refine Classical.byContradiction fun hn => ?_
  have : OrdOK nd (k :: o) := ⟨List.nodup_cons.2 ⟨hn, h.nodup⟩, fun a ha => by
    rcases List.mem_cons.1 ha with h3 | h3
    · rw [h3]; exact ⟨h1, h2⟩
    · exact h.lt a h3⟩
  have := this.len
  simp only [List.length_cons] at this
  omega
def S.piO (o : List Int) (k : Int) : Int := Int.ofNat (o.idxOf k)
theorem movedL_pi {o : List Int} : ∀ (l : List (Int × Int)), (∀ k ∈ S.refsL l, k ∈ o) → S.movedL (S.tab o) l = l.map (S.mvV (S.piO o))
  | [], _ => rfl
  | v :: l, hl => by
    have hl2 : ∀ k ∈ S.refsL l, k ∈ o := fun a ha => hl a (by
      simp only [S.refsL]; split
      · exact List.mem_cons_of_mem _ ha
      · exact ha)
    show S.movedV (S.tab o) v :: S.movedL (S.tab o) l = S.mvV (S.piO o) v :: l.map (S.mvV (S.piO o))
    rw [movedL_pi l hl2]
    congr 1
    unfold S.movedV S.mvV
    by_cases h : v.1 = 4
    · have hm : v.2 ∈ o := hl v.2 (by simp only [S.refsL, if_pos h]; exact List.mem_cons_self)
      show (if v.1 = 4 then (v.1, (S.numAt (S.tab o) v.2).getD 0) else v) = _
      rw [if_pos h, if_pos h, numAt_tab, if_pos hm]; rfl
    · show (if v.1 = 4 then (v.1, (S.numAt (S.tab o) v.2).getD 0) else v) = _
      rw [if_neg h, if_neg h]
theorem ren_canon {x : List DNode × List DVal} (hg : GF x) (ho : OrdOK x.1 (S.ord x)) (hl : (S.ord x).length = x.1.length) : Ren (S.piO (S.ord x)) x (S.canonG x) := by
  have hall : ∀ {k : Int}, 0 ≤ k → k < Int.ofNat x.1.length → k ∈ S.ord x := fun h1 h2 => full_mem ho hl h1 h2
  have hget : ∀ {k : Int}, k ∈ S.ord x → (S.ord x)[(S.ord x).idxOf k]? = some k := fun {k} hk => by
    have h1 := List.idxOf_lt_length_of_mem hk
    rw [List.getElem?_eq_getElem h1, List.getElem_idxOf h1]
  refine ⟨?_, fun a b a1 a2 b1 b2 h => ?_, fun k v hv => ?_, ?_⟩
  · show ((S.ord x).map _).length = _
    rw [List.length_map]; exact hl
  · have h1 := hget (hall a1 a2)
    have h2 := hget (hall b1 b2)
    have h3 : (S.ord x).idxOf a = (S.ord x).idxOf b := Int.ofNat.inj h
    rw [h3, h2] at h1
    exact (Option.some.inj h1).symm
  · have hk : 0 ≤ k ∧ k < Int.ofNat x.1.length := by
      unfold jget at hv
      split at hv
      · rename_i h0
        have := (List.getElem?_eq_some_iff.1 hv).1
        refine ⟨h0, ?_⟩
        have e : (k.toNat : Int) = k := Int.toNat_of_nonneg h0
        show k < (x.1.length : Int)
        omega
      · cases hv
    have hmem : v ∈ x.1 := by
      unfold jget at hv
      rw [if_pos hk.1] at hv
      exact List.mem_of_getElem? hv
    show jget ((S.ord x).map (S.newNode x.1 (S.tab (S.ord x)))) (Int.ofNat ((S.ord x).idxOf k)) = _
    rw [jget_nat, List.getElem?_map, hget (hall hk.1 hk.2)]
    show some (S.newNode x.1 (S.tab (S.ord x)) k) = _
    unfold S.newNode S.nodeAt
    rw [hv]
    have := movedL_pi (o := S.ord x) v.2 fun a ha => hall (hg.ref v hmem a ha).1 (hg.ref v hmem a ha).2
    show some ((v.1, S.movedL (S.tab (S.ord x)) v.2) : ByteArray × List DVal) = _
    rw [this]
  · show S.movedL (S.tab (S.ord x)) x.2 = _
    exact movedL_pi x.2 fun a ha => hall (hg.rref a ha).1 (hg.rref a ha).2
end Go.Proofs.Ytcnhjofpmpipfaa
end

/- Formed graphs. -/
section
set_option linter.unusedVariables false
namespace Go.Proofs.Ytcnhjofpmpipfaa
open Go Go.Sx Go.RowKit Go.Jx
theorem refs_val {many : Nat} (h : many ≤ 400) : ∀ (l : List (Int × Int)), (∀ v ∈ l, S.value v (Int.ofNat many) = true) → ∀ k ∈ S.refsL l, 0 ≤ k ∧ k < Int.ofNat many
  | [], _, k, hk => by cases hk
  | v :: l, hv, k, hk => by
    have ih := refs_val h l fun w hw => hv w (List.mem_cons_of_mem _ hw)
    simp only [S.refsL] at hk
    split at hk
    · rename_i h4
      rcases List.mem_cons.1 hk with h1 | h1
      · subst h1
        rcases (value_iff h v).1 (hv v List.mem_cons_self) with ⟨e, _⟩ | ⟨e, _⟩ | ⟨e, _⟩ | ⟨e, a, b⟩
        · have e : v.1 = 1 := e
          omega
        · have e : v.1 = 2 := e
          omega
        · have e : v.1 = 3 := e
          omega
        · exact ⟨a, b⟩
      · exact ih k h1
    · exact ih k hk
theorem gf_of {g : DGraph} (h : S.formed g = 0) : GF g := by
  obtain ⟨f1, f2, f3, f4, f5⟩ := formed_zero h
  exact ⟨f1, f2, f3, fun n hn => refs_val f1 _ (f4 n hn), refs_val f1 _ fun v hv => (f5 v hv).1⟩
end Go.Proofs.Ytcnhjofpmpipfaa
end

/- Values that are made of renumbered ones. -/
section
set_option linter.unusedVariables false
namespace Go.Proofs.Ytcnhjofpmpipfaa
open Go Go.Sx Go.RowKit Go.Jx
/-- A way that looks at its source's number has one that is no reference. -/
theorem made_map (π : Int → Int) (x : DGive) (ca : List DCol) (vs : List DVal) (c : DCol) (s : Int × Int) (h1 : S.src x ca vs = s) (h2 : S.src x ca (List.map (α := Int × Int) (β := Int × Int) (S.mvV π) vs) = S.mvV π s)
    (h3 : x.2.1 = 2 ∨ x.2.1 = 3 ∨ x.2.1 = 4 → ¬ s.1 = 4) :
    S.made x ca (List.map (α := Int × Int) (β := Int × Int) (S.mvV π) vs) c = (S.mvV π (S.made x ca vs c).1, (S.made x ca vs c).2) := by
  unfold S.made
  rw [h1, h2]
  have hm : ¬ s.1 = 4 → S.mvV π s = s := fun h => if_neg h
  have hk : (S.mvV π s).1 = s.1 := by
    unfold S.mvV
    split <;> rfl
  by_cases e6 : x.2.1 = 6
  · rw [if_pos e6, if_pos e6]
    split
    · rfl
    · rfl
  · rw [if_neg e6, if_neg e6]
    by_cases e7 : x.2.1 = 7
    · rw [if_pos e7, if_pos e7]; rfl
    · rw [if_neg e7, if_neg e7]
      by_cases e2 : x.2.1 = 2
      · rw [if_pos e2, if_pos e2, hm (h3 (.inl e2))]; rfl
      · rw [if_neg e2, if_neg e2]
        by_cases e3 : x.2.1 = 3
        · rw [if_pos e3, if_pos e3, hm (h3 (.inr (.inl e3)))]; rfl
        · rw [if_neg e3, if_neg e3]
          by_cases e4 : x.2.1 = 4
          · rw [if_pos e4, if_pos e4, hm (h3 (.inr (.inr e4)))]
          · rw [if_neg e4, if_neg e4]
            by_cases e5 : x.2.1 = 5
            · rw [if_pos e5, if_pos e5]
              exact congrArg (fun q : Int => ((S.mvV π s, decide (q = 4)) : (Int × Int) × Bool)) hk
            · rw [if_neg e5, if_neg e5]
theorem cvRow_map (π : Int → Int) (ca : List DCol) (vs : List DVal) (h2 : ∀ x : DGive, S.src x ca (List.map (α := Int × Int) (β := Int × Int) (S.mvV π) vs) = S.mvV π (S.src x ca vs)) : ∀ (gs : List DGive) (cs : List DCol),
    (∀ x ∈ gs, x.2.1 = 2 ∨ x.2.1 = 3 ∨ x.2.1 = 4 → ¬ (S.src x ca vs : Int × Int).1 = 4) → cvRow ca (List.map (α := Int × Int) (β := Int × Int) (S.mvV π) vs) gs cs = (cvRow ca vs gs cs).map (List.map (α := Int × Int) (β := Int × Int) (S.mvV π))
  | [], cs, _ => by simp [cvRow]
  | x :: gs, [], _ => by simp [cvRow]
  | x :: gs, c :: cs, h => by
    have ih := cvRow_map π ca vs h2 gs cs fun y hy => h y (List.mem_cons_of_mem _ hy)
    have hm := made_map π x ca vs c (S.src x ca vs) rfl (h2 x) (h x List.mem_cons_self)
    simp only [cvRow, hm, ih]
    by_cases hb : (S.made x ca vs c).2 = true
    · rw [if_pos hb, if_pos hb]
      cases cvRow ca vs gs cs <;> rfl
    · rw [if_neg hb, if_neg hb]; rfl
theorem src_map (π : Int → Int) (ca : List DCol) (vs : List DVal) (x : DGive) : S.src x ca (List.map (α := Int × Int) (β := Int × Int) (S.mvV π) vs) = S.mvV π (S.src x ca vs) := by
  unfold S.src S.at_
  rw [List.getElem?_map]
  cases (vs : List (Int × Int))[(S.col ca x.1).toNat]? with
  | none => rfl
  | some v => rfl
end Go.Proofs.Ytcnhjofpmpipfaa
end

/- Converted graphs that differ by numbers. -/
section
set_option linter.unusedVariables false
namespace Go.Proofs.Ytcnhjofpmpipfaa
open Go Go.Sx Go.RowKit Go.Jx
/-- No way that looks at a number has a reference as its source. -/
def NoRef (a : List DForm) (l : List DRule) (n : DNode) : Prop := ∀ x ∈ (S.ruleOf l n.1).1.2.2, x.2.1 = 2 ∨ x.2.1 = 3 ∨ x.2.1 = 4 → ¬ (S.src x (S.colsOf a n.1) n.2 : Int × Int).1 = 4
def S.mvN (π : Int → Int) (n : ByteArray × List DVal) : ByteArray × List DVal := (n.1, List.map (α := Int × Int) (β := Int × Int) (S.mvV π) n.2)
theorem cvNode_map (π : Int → Int) (a b : List DForm) (l : List DRule) (n : ByteArray × List DVal) (h : NoRef a l n) : cvNode a b l (S.mvN π n) = (cvNode a b l n).map (S.mvN π) := by
  unfold cvNode
  have := cvRow_map π (S.colsOf a n.1) n.2 (fun x => src_map π _ _ x) (S.ruleOf l n.1).1.2.2 (S.colsOf b (S.ruleOf l n.1).1.2.1) h
  show (cvRow (S.colsOf a n.1) (List.map (α := Int × Int) (β := Int × Int) (S.mvV π) n.2) (S.ruleOf l n.1).1.2.2 (S.colsOf b (S.ruleOf l n.1).1.2.1)).map _ = _
  rw [this]
  cases cvRow (S.colsOf a n.1) n.2 (S.ruleOf l n.1).1.2.2 (S.colsOf b (S.ruleOf l n.1).1.2.1) <;> rfl
theorem jget_some {α : Type} {l : List α} {k : Int} {v : α} (h : jget l k = some v) : 0 ≤ k ∧ ∃ hi : k.toNat < l.length, l[k.toNat] = v := by
  unfold jget at h
  split at h
  · rename_i h0
    obtain ⟨hi, e⟩ := List.getElem?_eq_some_iff.1 h
    exact ⟨h0, hi, e⟩
  · cases h
theorem jget_mk {α : Type} {l : List α} {k : Int} (h0 : 0 ≤ k) (hi : k.toNat < l.length) : jget l k = some l[k.toNat] := by
  unfold jget
  rw [if_pos h0, List.getElem?_eq_getElem hi]
/-- Converted, such graphs differ by the same numbers. -/
theorem conv_ren {π : Int → Int} {a b : List DForm} {l : List DRule} {x y : List DNode × List DVal} {ms ms' : List DNode} (h : Ren π x y) (hn : ∀ n ∈ x.1, NoRef a l n) (h1 : cvAll a b l x.1 = some ms) (h2 : cvAll a b l y.1 = some ms') : Ren π (ms, x.2) (ms', y.2) := by
  obtain ⟨l1, k1⟩ := cvAll_some h1
  obtain ⟨l2, k2⟩ := cvAll_some h2
  refine ⟨by show ms'.length = ms.length; rw [l1, l2, h.len], by show InjB π ms.length; rw [l1]; exact h.inj, fun k v hv => ?_, h.roots⟩
  obtain ⟨h0, hi, e⟩ := jget_some (l := ms) hv
  have hx : k.toNat < x.1.length := by rw [← l1]; exact hi
  have hy := h.node k x.1[k.toNat] (jget_mk h0 hx)
  obtain ⟨p0, pi, pe⟩ := jget_some hy
  have hi2 : (π k).toNat < ms'.length := by rw [l2]; exact pi
  have q1 := k1 k.toNat hx hi
  have q2 := k2 (π k).toNat pi hi2
  rw [pe] at q2
  have q3 := cvNode_map π a b l x.1[k.toNat] (hn _ (List.getElem_mem hx))
  rw [q1] at q3
  have q4 : cvNode a b l (S.mvN π x.1[k.toNat]) = some ms'[(π k).toNat] := q2
  rw [q4] at q3
  have q5 := Option.some.inj q3
  show jget ms' (π k) = _
  rw [jget_mk p0 hi2, q5, e]; rfl
end Go.Proofs.Ytcnhjofpmpipfaa
end

/- Equal graphs are equal. -/
section
set_option linter.unusedVariables false
namespace Go.Proofs.Ytcnhjofpmpipfaa
open Go Go.Sx Go.RowKit Go.Jx
theorem eqVals_self : ∀ l : List DVal, S.eqVals l l = true
  | [] => rfl
  | v :: l => by
    simp only [S.eqVals, eqVals_self l, Bool.and_true]
    unfold S.eqVal
    rw [keqI_eq2, keqI_eq2]; simp
theorem eqNodes_self : ∀ l : List DNode, S.eqNodes l l = true
  | [] => rfl
  | v :: l => by
    simp only [S.eqNodes, eqNodes_self l, Bool.and_true]
    unfold S.eqNode
    rw [eqVals_self, Bool.and_true]
    show decide (_ = _) = true
    exact decide_eq_true rfl
theorem eqGraph_self (g : DGraph) : S.eqGraph g g = true := by
  unfold S.eqGraph
  rw [eqVals_self, eqNodes_self]; rfl
/-- Graphs that differ by numbers are alike. -/
theorem same_ren {π : Int → Int} {x y : List DNode × List DVal} (h : Ren π x y) (hx : S.formed x = 0) (hy : S.formed y = 0) : S.SameO x y = some (true, (0, ())) := by
  obtain ⟨e1, _⟩ := canon_ok (gf_of hx)
  obtain ⟨e2, _⟩ := canon_ok (gf_of hy)
  have e3 := canonG_map h (gf_of hx)
  have hf : S.first [S.formed x, S.formed y] = 0 := by rw [hx, hy]; rfl
  have hx2 : S.canonO (x.1, x.2) = some (S.canonG x, S.numsG x, ()) := e1
  have hy2 : S.canonO (y.1, y.2) = some (S.canonG y, S.numsG y, ()) := e2
  have hf2 : S.first (List.cons (S.formed (x.1, x.2)) (List.cons (S.formed (y.1, y.2)) [])) = 0 := hf
  have hz : ieqI 0 (Int.ofNat 0) = true := by rw [ieqI_eq]; rfl
  simp only [S.SameO, F_p_Same, R_p_Same_in, hf2, hz, Bool.not_true, cond_false, hx2, hy2]
  have := eqGraph_self (S.canonG x)
  show some (S.eqGraph (S.canonG x) (S.canonG y), (Int.ofNat 0, ())) = _
  rw [e3, this]; rfl
end Go.Proofs.Ytcnhjofpmpipfaa
end

/- Ways that look at a number have no reference as their source. -/
section
set_option linter.unusedVariables false
namespace Go.Proofs.Ytcnhjofpmpipfaa
open Go Go.Sx Go.RowKit Go.Jx
theorem noref_of {a b : List DForm} {l : List DRule} {g : DGraph} (hR : RulesOK a b l) (hG : GraphOK a g) {n : DNode} (hn : n ∈ g.1) : NoRef a l n := fun x hx hw => by
  obtain ⟨fa, _, _, a3, a4⟩ := form_get (hG.has n hn)
  obtain ⟨r1, r2⟩ := ruleOf_mem (l := l) (c := n.1) (by rw [← a4]; exact hR.all fa a3)
  obtain ⟨k, hk, rfl⟩ := List.mem_iff_getElem.1 hx
  have hgl := hR.glen _ r1
  have hgv := (give_iff _ _ _ _).1 (hR.gok _ r1 k hk (by rw [← hgl]; exact hk))
  rw [r2] at hgv
  have hv := src_val hG hn (hgv.src (by omega))
  intro h4
  rcases hw with h | h | h
  · have := hv.b (hgv.h2 h).1
    omega
  · have := hv.i (hgv.h3 h).1
    omega
  · have := hv.i (hgv.h4 h).1
    omega
end Go.Proofs.Ytcnhjofpmpipfaa
end

/- A renumbered graph is right where the graph is. -/
section
set_option linter.unusedVariables false
namespace Go.Proofs.Ytcnhjofpmpipfaa
open Go Go.Sx Go.RowKit Go.Jx
/-- Each object of the canonical form, where all are reached, is one of the graph's with other numbers. -/
theorem canon_node {x : List DNode × List DVal} (hg : GF x) (ho : OrdOK x.1 (S.ord x)) (hl : (S.ord x).length = x.1.length) : ∀ m ∈ (S.canonG x : List DNode × List DVal).1, ∃ n ∈ x.1, m = S.mvN (S.piO (S.ord x)) n := fun m hm => by
  have hall : ∀ {k : Int}, 0 ≤ k → k < Int.ofNat x.1.length → k ∈ S.ord x := fun h1 h2 => full_mem ho hl h1 h2
  obtain ⟨k, hk, rfl⟩ := List.mem_map.1 (show m ∈ (S.ord x).map (S.newNode x.1 (S.tab (S.ord x))) from hm)
  obtain ⟨k1, k2⟩ := ho.lt k hk
  obtain ⟨v, v1, v2, v3⟩ := jget_of (l := x.1) k1 k2
  refine ⟨v, v3, ?_⟩
  unfold S.newNode S.nodeAt S.mvN
  rw [v1]
  have := movedL_pi (o := S.ord x) (v : ByteArray × List DVal).2 fun a ha => hall (hg.ref v v3 a ha).1 (hg.ref v v3 a ha).2
  show (((v : ByteArray × List DVal).1, S.movedL (S.tab (S.ord x)) (v : ByteArray × List DVal).2) : ByteArray × List DVal) = _
  rw [this]
end Go.Proofs.Ytcnhjofpmpipfaa
end

/- The canonical form of a formed graph is formed. -/
section
set_option linter.unusedVariables false
namespace Go.Proofs.Ytcnhjofpmpipfaa
open Go Go.Sx Go.RowKit Go.Jx
theorem value_mv {n : Nat} (h : n ≤ 400) {π : Int → Int} (hb : ∀ k, 0 ≤ k → k < Int.ofNat n → 0 ≤ π k ∧ π k < Int.ofNat n) (v : Int × Int) (hv : S.value v (Int.ofNat n) = true) : S.value (S.mvV π v) (Int.ofNat n) = true := by
  unfold S.mvV
  by_cases h4 : v.1 = 4
  · rw [if_pos h4]
    refine (value_iff h _).2 (.inr (.inr (.inr ⟨h4, ?_⟩)))
    rcases (value_iff h v).1 hv with ⟨e, _⟩ | ⟨e, _⟩ | ⟨e, _⟩ | ⟨e, a, b⟩
    · have e : v.1 = 1 := e
      omega
    · have e : v.1 = 2 := e
      omega
    · have e : v.1 = 3 := e
      omega
    · exact hb v.2 a b
  · rw [if_neg h4]; exact hv
theorem pi_lt {x : List DNode × List DVal} (ho : OrdOK x.1 (S.ord x)) (hl : (S.ord x).length = x.1.length) : ∀ k, 0 ≤ k → k < Int.ofNat x.1.length → 0 ≤ S.piO (S.ord x) k ∧ S.piO (S.ord x) k < Int.ofNat x.1.length := fun k h1 h2 => by
  have hm := full_mem ho hl h1 h2
  have h3 := List.idxOf_lt_length_of_mem hm
  refine ⟨Int.natCast_nonneg _, ?_⟩
  show ((S.ord x).idxOf k : Int) < (x.1.length : Int)
  omega
theorem canon_formed {x : List DNode × List DVal} (hx : S.formed x = 0) (ho : OrdOK x.1 (S.ord x)) (hl : (S.ord x).length = x.1.length) : S.formed (S.canonG x) = 0 := by
  obtain ⟨f1, f2, f3, f4, f5⟩ := formed_zero hx
  have hg := gf_of hx
  have hr := ren_canon hg ho hl
  have hlen : (S.canonG x : List DNode × List DVal).1.length = x.1.length := hr.len
  have hpi := pi_lt ho hl
  refine formed_of (by rw [hlen]; exact f1) (by rw [hr.roots]; simpa using f2) (fun m hm => ?_) (fun m hm v hv => ?_) (fun v hv => ?_)
  · obtain ⟨n, hn, rfl⟩ := canon_node hg ho hl m hm
    have := f3 n hn
    show (List.map (α := Int × Int) (β := Int × Int) _ _).length ≤ 30
    rw [List.length_map]; exact this
  · obtain ⟨n, hn, rfl⟩ := canon_node hg ho hl m hm
    obtain ⟨w, hw, rfl⟩ := List.mem_map.1 (show v ∈ List.map (α := Int × Int) (β := Int × Int) (S.mvV (S.piO (S.ord x))) n.2 from hv)
    rw [hlen]
    exact value_mv f1 hpi w (f4 n hn w hw)
  · rw [hr.roots] at hv
    obtain ⟨w, hw, rfl⟩ := List.mem_map.1 hv
    obtain ⟨g1, g2⟩ := f5 w hw
    refine ⟨by rw [hlen]; exact value_mv f1 hpi w g1, ?_⟩
    have hk : (S.mvV (S.piO (S.ord x)) w).1 = (w : Int × Int).1 := by
      unfold S.mvV
      split <;> rfl
    unfold S.refers at g2 ⊢
    rw [hk]; exact g2
end Go.Proofs.Ytcnhjofpmpipfaa
end

/- The canonical form of a right graph is right. -/
section
set_option linter.unusedVariables false
namespace Go.Proofs.Ytcnhjofpmpipfaa
open Go Go.Sx Go.RowKit Go.Jx
theorem at_ren {π : Int → Int} {x y : List DNode × List DVal} (h : Ren π x y) {k : Int} (h1 : 0 ≤ k) (h2 : k < Int.ofNat x.1.length) : (S.at_ S.zNode y.1 (π k) : ByteArray × List DVal).1 = (S.at_ S.zNode x.1 k : ByteArray × List DVal).1 := by
  obtain ⟨v, v1, v2, v3⟩ := jget_of (l := x.1) h1 h2
  obtain ⟨p0, pi, pe⟩ := jget_some (h.node k v v1)
  unfold S.at_
  rw [v2, List.getElem?_eq_getElem pi, pe]; rfl
theorem canon_right {a : List DForm} {x : List DNode × List DVal} (hx : GraphOK a x) (ho : OrdOK x.1 (S.ord x)) (hl : (S.ord x).length = x.1.length) : GraphOK a (S.canonG x) := by
  have hg := gf_of hx.formed
  have hr := ren_canon hg ho hl
  refine ⟨canon_formed hx.formed ho hl, fun m hm => ?_, typed_of fun m hm => ?_⟩
  · obtain ⟨n, hn, rfl⟩ := canon_node hg ho hl m hm
    exact hx.has n hn
  · obtain ⟨n, hn, rfl⟩ := canon_node hg ho hl m hm
    obtain ⟨t1, t2⟩ := typed_len hx.typed n hn
    have t3 : (List.map (α := Int × Int) (β := Int × Int) (S.mvV (S.piO (S.ord x))) n.2).length = (S.colsOf a n.1).length := by rw [List.length_map]; exact t1
    refine ⟨t3, (suitsAll_iff _ _ _ t3).2 fun k h1 h2 => ?_⟩
    rw [suitsAll_iff _ _ _ t1] at t2
    have hk : k < n.2.length := by rw [t1]; exact h1
    have hs := (suits_iff _ _ _).1 (t2 k h1 hk)
    have hv := (graph_val hx hn).2 k h1 hk
    have e : (List.map (α := Int × Int) (β := Int × Int) (S.mvV (S.piO (S.ord x))) n.2)[k]'h2 = S.mvV (S.piO (S.ord x)) (n.2[k]'hk) := List.getElem_map _
    have hkind : (S.mvV (S.piO (S.ord x)) (n.2[k]'hk)).1 = ((n.2[k]'hk : DVal) : Int × Int).1 := by
      unfold S.mvV
      split <;> rfl
    show S.suits (S.canonG x) _ ((List.map (α := Int × Int) (β := Int × Int) (S.mvV (S.piO (S.ord x))) n.2)[k]'h2) = true
    rw [e]
    refine (suits_iff _ _ _).2 ⟨fun q => hkind.trans (hs.1 q), fun q => hkind.trans (hs.2.1 q), fun q1 q2 => ?_⟩
    rcases hs.2.2 q1 q2 with r | ⟨r, r2⟩
    · exact .inl (hkind.trans r)
    · refine .inr ⟨hkind.trans r, r2.imp id fun r3 => ?_⟩
      have e2 : (S.mvV (S.piO (S.ord x)) (n.2[k]'hk)).2 = S.piO (S.ord x) ((n.2[k]'hk : DVal) : Int × Int).2 := by
        unfold S.mvV
        rw [if_pos r]
      have hlt : 0 ≤ ((n.2[k]'hk : DVal) : Int × Int).2 ∧ ((n.2[k]'hk : DVal) : Int × Int).2 < Int.ofNat x.1.length := by
        rcases hv.value with ⟨q, _⟩ | ⟨q, _⟩ | ⟨q, _⟩ | ⟨q, w1, w2⟩
        · exact absurd (r.symm.trans q) (by decide)
        · exact absurd (r.symm.trans q) (by decide)
        · exact absurd (r.symm.trans q) (by decide)
        · exact ⟨w1, w2⟩
      rw [e2]
      exact (at_ren hr hlt.1 hlt.2).trans r3
end Go.Proofs.Ytcnhjofpmpipfaa
end

/- Convert converts all or nothing. -/
section
set_option linter.unusedVariables false
namespace Go.Proofs.Ytcnhjofpmpipfaa
open Go Go.Sx Go.RowKit Go.Jx
theorem canonO_of {g : List DNode × List DVal} (h : S.formed g = 0) : S.CanonO g = some (S.canonG g, S.numsG g, 0, ()) := by
  obtain ⟨e1, _⟩ := canon_ok (gf_of h)
  have hx2 : S.canonO (g.1, g.2) = some (S.canonG g, S.numsG g, ()) := e1
  have hf2 : S.formed (g.1, g.2) = 0 := h
  have hz : ieqI 0 (Int.ofNat 0) = true := by rw [ieqI_eq]; rfl
  simp only [S.CanonO, F_p_Canon, R_p_Canon_in, hf2, hz, Bool.not_true, cond_false, hx2]
  rfl
theorem cvAll_all {a b : List DForm} {l : List DRule} : ∀ {ns : List DNode}, (∀ n ∈ ns, ∃ m, cvNode a b l n = some m) → ∃ ms, cvAll a b l ns = some ms
  | [], _ => ⟨[], rfl⟩
  | n :: ns, h => by
    obtain ⟨m, h1⟩ := h n List.mem_cons_self
    obtain ⟨ms, k1⟩ := cvAll_all (ns := ns) fun n' hn' => h n' (List.mem_cons_of_mem _ hn')
    exact ⟨m :: ms, by rw [cvAll, h1, k1]; rfl⟩
theorem cvAll_mem {a b : List DForm} {l : List DRule} {ns ms : List DNode} (h : cvAll a b l ns = some ms) {n : DNode} (hn : n ∈ ns) : ∃ m, cvNode a b l n = some m := by
  obtain ⟨h1, h2⟩ := cvAll_some h
  obtain ⟨k, hk, rfl⟩ := List.mem_iff_getElem.1 hn
  exact ⟨_, h2 k hk (by rw [h1]; exact hk)⟩
theorem rules_of {A B : List DForm} {l : List DRule} (h0 : S.checkRules A B l = 0) : FormsOK A ∧ FormsOK B ∧ S.checkForms A = 0 ∧ S.checkForms B = 0 ∧ RulesOK A B l := by
  have hff : S.first [S.checkForms A, S.checkForms B] = 0 ∧ S.checkRules0 A B l = 0 := by
    unfold S.checkRules at h0
    by_cases hq : S.first [S.checkForms A, S.checkForms B] = 0
    · rw [if_pos hq] at h0
      exact ⟨hq, h0⟩
    · rw [if_neg hq] at h0
      exact absurd h0 hq
  obtain ⟨h1, h2⟩ := lw_first2 hff.1
  exact ⟨formsOK h1, formsOK h2, h1, h2, (rulesOK_iff _ _ _).1 hff.2⟩
theorem all_or_nothing {A B : List DForm} {l : List DRule} {g : List DNode × List DVal} (h1 : S.checkRules A B l = 0) (h2 : S.checkG A g = 0) :
    (∃ r : DRefusal, S.convert A B l g = (S.zGraph, r, 10) ∧ 0 ≤ r.1 ∧ r.1 < Int.ofNat g.1.length ∧ ¬ r.2 = S.lit []) ∨
    ∃ ms : List DNode, S.convert A B l g = ((ms, g.2), S.zRefusal, 0) ∧ S.checkG B (ms, g.2) = 0 ∧ ms.length = g.1.length ∧ S.CanonO g = some (S.canonG g, S.numsG g, 0, ()) ∧
      (¬ (S.canonG g : List DNode × List DVal).1.length < g.1.length → ∃ ms' : List DNode, S.convert A B l (S.canonG g) = ((ms', (S.canonG g : List DNode × List DVal).2), S.zRefusal, 0) ∧ S.SameO (ms, g.2) (ms', (S.canonG g : List DNode × List DVal).2) = some (true, 0, ())) := by
  obtain ⟨fA, fB, cA, cB, hR⟩ := rules_of h1
  have hgc : S.check A g = 0 := by
    unfold S.checkG at h2
    rwa [if_neg (by simpa using cA)] at h2
  have hG := (graphOK_iff _ _).1 hgc
  rw [convert_ok h1 hgc]
  obtain ⟨k1, k2⟩ := cvGo_all A B l g.2 g.1 0 []
  cases hq : cvAll A B l g.1 with
  | none =>
    left
    obtain ⟨r, e, r1, r2, n, hn, c, hc, r4⟩ := k2 hq
    refine ⟨r, e, by omega, by have : Int.ofNat g.1.length = (g.1.length : Int) := rfl; omega, ?_⟩
    obtain ⟨f, _, _, f3, f4⟩ := form_get (hG.has n hn)
    obtain ⟨m1, m2⟩ := ruleOf_mem (l := l) (c := n.1) (by rw [← f4]; exact hR.all f f3)
    have := (colsOf_ok fB (hR.has _ m1).2).small c hc
    rw [r4]
    exact lw_small_ne_nil this
  | some ms =>
    right
    have hB := conv_ok fA fB hR hG hq
    have e := k1 ms hq
    rw [List.nil_append] at e
    refine ⟨ms, e, ?_, (cvAll_some hq).1, canonO_of hG.formed, fun hl => ?_⟩
    · unfold S.checkG
      rw [if_neg (by simpa using cB)]
      exact (graphOK_iff _ _).2 hB
    · have hgf := gf_of hG.formed
      obtain ⟨_, ho⟩ := canon_ok hgf
      have hl2 : (S.ord g).length = g.1.length := by
        have a := ho.len
        have b : (S.canonG g : List DNode × List DVal).1.length = (S.ord g).length := by
          show ((S.ord g).map _).length = _
          rw [List.length_map]
        have c : ¬ (S.ord g).length < g.1.length := by rw [← b]; exact hl
        exact Nat.le_antisymm a (Nat.not_lt.1 c)
      have hC := canon_right hG ho hl2
      have hc : ∃ ms', cvAll A B l (S.canonG g : List DNode × List DVal).1 = some ms' := cvAll_all fun m hm => by
        obtain ⟨n, hn, rfl⟩ := canon_node hgf ho hl2 m hm
        obtain ⟨q, hq2⟩ := cvAll_mem hq hn
        exact ⟨_, by rw [cvNode_map _ A B l n (noref_of hR hG hn), hq2]; rfl⟩
      obtain ⟨ms', hm⟩ := hc
      have hB' := conv_ok fA fB hR hC hm
      have hr := conv_ren (ren_canon hgf ho hl2) (fun n hn => noref_of hR hG hn) hq hm
      refine ⟨ms', ?_, same_ren hr hB.formed hB'.formed⟩
      rw [convert_ok h1 ((graphOK_iff _ _).2 hC), (cvGo_all A B l _ _ 0 []).1 ms' hm, List.nil_append]
end Go.Proofs.Ytcnhjofpmpipfaa
end

/- PackAllOrNothing: the law function answers yes on all data. -/
section
set_option linter.unusedVariables false
set_option maxRecDepth 100000
namespace Go.Proofs.Ytcnhjofpmpipfaa
open Go Go.Sx Go.RowKit Go.Jx
theorem cond_true_or4 {b : Bool} {x : Option (Bool × Unit)} (h : x = some (true, ())) : cond b (some (true, ())) x = some (true, ()) := by
  cases b
  · exact h
  · rfl
theorem convert_bad {A B : List DForm} {l : List DRule} {g : DGraph} (h : ¬ S.checkRules A B l = 0 ∨ ¬ S.checkG A g = 0) : ∃ e : Int, ¬ e = 0 ∧ S.convert A B l g = (S.zGraph, S.zRefusal, e) := by
  unfold S.convert
  by_cases h1 : S.checkRules A B l = 0
  · rw [if_neg (by simpa using h1)]
    obtain ⟨_, _, cA, _, _⟩ := rules_of h1
    have hg : ¬ S.check A g = 0 := by
      rcases h with h | h
      · exact absurd h1 h
      · unfold S.checkG at h
        rwa [if_neg (by simpa using cA)] at h
    rw [if_pos hg]
    exact ⟨_, hg, rfl⟩
  · rw [if_pos h1]
    exact ⟨_, h1, rfl⟩
theorem F_l_PackAllOrNothing_eq (lf : Nat) (A B : List DForm) (l : List DRule) (g : DGraph) : F_l_PackAllOrNothing lf A B l g = some (true, ()) := by
  simp only [F_l_PackAllOrNothing, R_l_PackAllOrNothing_in, Prod.eta]
  refine cond_true_or4 (cond_true_or4 (cond_true_or4 (cond_true_or4 ?_)))
  have z1 : keqI S.zRefusal.1 (Int.ofNat 0) = true := rfl
  have z2 : keqS S.zRefusal.2 (S.lit []) = true := decide_eq_true rfl
  by_cases h1 : S.checkRules A B l = 0
  case neg =>
    obtain ⟨e, e1, e2⟩ := convert_bad (g := g) (.inl h1)
    have a1 : ieqI (S.checkRules A B l) (Int.ofNat 0) = false := by rw [ieqI_eq]; exact decide_eq_false h1
    have a2 : ieqI e (Int.ofNat 0) = false := by rw [ieqI_eq]; exact decide_eq_false e1
    rw [e2]
    simp only [a1, a2, z1, z2, Bool.not_false, cond_true, Bool.and_true]
    rfl
  by_cases h2 : S.checkG A g = 0
  case neg =>
    obtain ⟨e, e1, e2⟩ := convert_bad (l := l) (B := B) (.inr h2)
    have a0 : ieqI (S.checkRules A B l) (Int.ofNat 0) = true := by rw [ieqI_eq]; exact decide_eq_true h1
    have a1 : ieqI (S.checkG A g) (Int.ofNat 0) = false := by rw [ieqI_eq]; exact decide_eq_false h2
    have a2 : ieqI e (Int.ofNat 0) = false := by rw [ieqI_eq]; exact decide_eq_false e1
    rw [e2]
    simp only [a0, a1, a2, z1, z2, Bool.not_false, Bool.not_true, cond_true, cond_false, Bool.and_true]
    rfl
  have a0 : ieqI (S.checkRules A B l) (Int.ofNat 0) = true := by rw [ieqI_eq]; exact decide_eq_true h1
  have a1 : ieqI (S.checkG A g) (Int.ofNat 0) = true := by rw [ieqI_eq]; exact decide_eq_true h2
  simp only [a0, a1, Bool.not_true, cond_false]
  rcases all_or_nothing (B := B) (l := l) (g := g) h1 h2 with ⟨r, e, r1, r2, r3⟩ | ⟨ms, e, hB, hlen, hc, hk⟩
  · rw [e]
    have b1 : ieqI 10 (Int.ofNat 10) = true := by rw [ieqI_eq]; rfl
    have b2 : iltI r.1 (Int.ofNat 0) = false := by rw [iltI_eq]; exact decide_eq_false (Int.not_lt.2 r1)
    have b3 : iltI r.1 (Int.ofNat (List.length g.1)) = true := by rw [iltI_eq]; exact decide_eq_true r2
    have b4 : keqS r.2 (S.lit []) = false := decide_eq_false r3
    simp only [b1, b2, b3, b4, Bool.not_false, cond_true]
    rfl
  · rw [e]
    have b1 : ieqI 0 (Int.ofNat 10) = false := by rw [ieqI_eq]; rfl
    have b2 : ieqI 0 (Int.ofNat 0) = true := by rw [ieqI_eq]; rfl
    have b3 : ieqI (S.checkG B (ms, g.2)) (Int.ofNat 0) = true := by rw [ieqI_eq]; exact decide_eq_true hB
    have b4 : ieqI (Int.ofNat (List.length ms)) (Int.ofNat (List.length g.1)) = true := by rw [ieqI_eq, hlen]; exact decide_eq_true rfl
    have b5 : S.eqVals g.2 g.2 = true := eqVals_self _
    simp only [b1, b2, b3, b4, b5, z1, z2, hc, Bool.not_true, cond_false, Bool.and_true]
    by_cases hl : (S.canonG g : List DNode × List DVal).1.length < g.1.length
    · have b6 : iltI (Int.ofNat (List.length (S.canonG g : List DNode × List DVal).1)) (Int.ofNat (List.length g.1)) = true := by rw [iltI_eq]; exact decide_eq_true (Int.ofNat_lt.2 hl)
      rw [b6]; rfl
    · have b6 : iltI (Int.ofNat (List.length (S.canonG g : List DNode × List DVal).1)) (Int.ofNat (List.length g.1)) = false := by rw [iltI_eq]; exact decide_eq_false fun h => hl (Int.ofNat_lt.1 h)
      obtain ⟨ms', k1, k2⟩ := hk hl
      have k1' : S.convert A B l ((S.canonG g : List DNode × List DVal).1, (S.canonG g : List DNode × List DVal).2) = ((ms', (S.canonG g : List DNode × List DVal).2), S.zRefusal, 0) := k1
      simp only [b6, cond_false, k1, k1', k2, b2, cond_true]
theorem con_l_PackAllOrNothing (hs : Con Try.prog 15 sp_l_sanity) : Con Try.prog id_l_PackAllOrNothing sp_l_true4 := mk_l_PackAllOrNothing ⟨con_l_fewForms, con_l_fewRules, con_l_few, hs, con_p_Convert, con_p_CheckRules, con_p_Check, con_p_Canon, con_p_Same, con_slices_Equal_Val, trivial⟩ fun x y hx h => ⟨0, (F_l_PackAllOrNothing_eq _ _ _ _ _).trans h⟩
end Go.Proofs.Ytcnhjofpmpipfaa
end

/- PackAllOrNothing's contract. -/
section
set_option linter.unusedVariables false
namespace Go.Proofs.Ytcnhjofpmpipfaa
open Go Go.Sx Go.RowKit Go.Jx
theorem con_PackAllOrNothing : Con Try.prog id_l_PackAllOrNothing sp_l_true4 := con_l_PackAllOrNothing con_l_sanity
end Go.Proofs.Ytcnhjofpmpipfaa
end
