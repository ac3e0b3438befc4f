/- Texts: Qp2, Qp3, Qp4, Lp1, Qg4, Lw1, Qp5, Lw2, Lw4, Lw5, Lp3, Ln2. -/
import Derived.Test.YtcnhjofpmpipfaaBag4
/- The contracts of package pack, second part: rules. -/
section
set_option linter.unusedVariables false
set_option maxRecDepth 100000
namespace Go.Proofs.Ytcnhjofpmpipfaa
open Go Go.Sx Go.RowKit Go.Jx

theorem F_p_leads_eq (lf : Nat) (l : List DRule) (a b : ByteArray) : F_p_leads lf l a b = some (S.leads l a b, ()) := by
  simp only [F_p_leads, R_p_leads_in, S.leads, keqS]
  have ea : S.lit [65, 78, 89] = S.ANY := rfl
  rw [ea]
  by_cases h : b = S.ANY
  · simp [h]
  · rw [decide_eq_false h, cond_false, Bool.false_or]
    cases (S.ruleOf l a).2 <;> rfl
theorem con_p_leads : Con Try.prog id_p_leads sp_p_leads := mk_p_leads ⟨con_p_ruleOf, trivial⟩ fun x y _ h => ⟨0, (F_p_leads_eq _ _ _ _).trans h⟩
theorem F_p_fits_eq (lf : Nat) (l : List DRule) (g : DGive) (a b : DCol) : F_p_fits lf l g a b = some (S.fits l g a b, ()) := by
  simp only [F_p_fits, R_p_fits_in, S.fits, ieqI_eq, oL]
  generalize S.leads l a.2.2 b.2.2 = bl
  generalize S.within g.2.2 0 1 = bw
  by_cases h1 : g.2.1 = 1
  · simp only [h1, decide_true, cond_true, if_true]
    by_cases h : a.2.1 = b.2.1
    · rw [h]
      by_cases h3 : b.2.1 = 3 <;> simp [h3]
    · simp [h]
  by_cases h2 : g.2.1 = 2
  · by_cases h : a.2.1 = 2 <;> simp [h2, h]
  by_cases h3 : g.2.1 = 3
  · by_cases h : a.2.1 = 1 <;> simp [h3, h]
  by_cases h4 : g.2.1 = 4
  · by_cases h : a.2.1 = 1 <;> simp [h4, h]
  by_cases h5 : g.2.1 = 5
  · by_cases h : a.2.1 = 3 <;> by_cases h' : b.2.1 = 3 <;> simp [h5, h, h']
  by_cases h6 : g.2.1 = 6
  · by_cases h : b.2.1 = 1 <;> by_cases h' : b.2.1 = 2 <;> simp [h6, h, h']
  simp [h1, h2, h3, h4, h5, h6]
theorem con_p_fits : Con Try.prog id_p_fits sp_p_fits := mk_p_fits ⟨con_p_within, con_p_leads, trivial⟩ fun x y _ h => ⟨0, (F_p_fits_eq _ _ _ _ _).trans h⟩
theorem gv_end (lf : Nat) (l : List DRule) (g : DGive) (cols : List DCol) (b : DCol) (p : DCol) : G_p_give_13 lf l g cols b p = some (S.unlessE (S.fits l g p b) 8, ()) := by
  simp only [G_p_give_13, R_p_give_13, Prod.eta, S.unlessE]
  cases S.fits l g p b <;> rfl
theorem gv_from (lf : Nat) (l : List DRule) (g : DGive) (cols : List DCol) (b : DCol) (h : S.within g.2.1 1 5 = true → 0 ≤ S.col cols g.1) : G_p_give_11 lf l g cols b () = some (S.unlessE (S.fits l g (if S.within g.2.1 1 5 = true then S.at_ S.zCol cols (S.col cols g.1) else S.zCol) b) 8, ()) := by
  simp only [G_p_give_11, R_p_give_11, gv_end, oL]
  cases hw : S.within g.2.1 1 5 with
  | false => rfl
  | true =>
    obtain ⟨c, c1, c2, _⟩ := S.idx_get (p := fun c : DCol => keqS c.1 g.1) (l := cols) (h hw)
    have c1' : jget cols (S.col cols g.1) = some c := c1
    have c3 : S.at_ S.zCol cols (S.col cols g.1) = c := by
      unfold S.at_ S.col
      rw [c2]; rfl
    simp only [c1', cond_true, if_true, c3, Prod.eta]
theorem F_p_give_eq (lf : Nat) (l : List DRule) (g : DGive) (cols : List DCol) (b : DCol) : F_p_give lf l g cols b = some (S.give l g cols b, ()) := by
  have key : ∀ p, (S.within g.2.1 1 5 = true → 0 ≤ S.col cols g.1) → p = S.most g → G_p_give_8 lf l g cols b p = some ((if S.within g.2.1 1 7 = false ∨ (S.within g.2.1 1 5 = false ∧ ¬ g.1 = S.lit []) ∨ S.within g.2.2 (-S.most g) (S.most g) = false ∨ (g.2.1 = 6 ∧ b.2.1 = 2 ∧ S.within g.2.2 0 1 = false) then 1
  else S.unlessE (S.fits l g (if S.within g.2.1 1 5 = true then S.at_ S.zCol cols (S.col cols g.1) else S.zCol) b) 8), ()) := by
    intro p hc hp
    have hn : IntKind.i64.wrap (Int.sub 0 p) = - S.most g := by
      subst hp
      have : Int.sub 0 (S.most g) = - S.most g := Int.zero_sub _
      rw [this]
      exact wrap64_in (by unfold S.most; split <;> simp)
    simp only [G_p_give_8, R_p_give_8, gv_from lf l g cols b hc, oL, hn, keqS, ieqI_eq]
    rw [hp]
    generalize S.unlessE _ _ = u
    generalize S.within g.2.1 1 7 = b7
    generalize S.within g.2.1 1 5 = b5
    generalize S.within g.2.2 (-S.most g) (S.most g) = bm
    generalize S.within g.2.2 0 1 = b01
    by_cases h1 : g.1 = S.lit [] <;> by_cases h6 : g.2.1 = 6 <;> by_cases h2 : b.2.1 = 2 <;> cases b7 <;> cases b5 <;> cases bm <;> cases b01 <;> simp [h1, h6, h2]
  simp only [F_p_give, R_p_give_in, S.give, oL, iltI_eq, ieqI_eq]
  by_cases hc : S.within g.2.1 1 5 = true ∧ S.col cols g.1 < 0
  · rw [if_pos hc, hc.1, decide_eq_true hc.2]; rfl
  rw [if_neg hc]
  have hc' : S.within g.2.1 1 5 = true → 0 ≤ S.col cols g.1 := fun h => by
    rcases Int.lt_or_le (S.col cols g.1) 0 with h1 | h1
    · exact absurd ⟨h, h1⟩ hc
    · exact h1
  have fin : (cond (decide (g.2.1 = 4)) (G_p_give_8 lf l g cols b 1099511627776) (cond (decide (g.2.1 = 6)) (G_p_give_8 lf l g cols b 1099511627776) (G_p_give_8 lf l g cols b 0))) = G_p_give_8 lf l g cols b (S.most g) := by
    unfold S.most
    by_cases h4 : g.2.1 = 4 <;> by_cases h6 : g.2.1 = 6 <;> simp [h4, h6]
  rw [fin]
  refine Eq.trans ?_ (key _ hc' rfl)
  cases hw : S.within g.2.1 1 5 with
  | false => rfl
  | true => rw [cond_true, decide_eq_false (by have := hc' hw; omega), cond_false]
theorem con_p_give : Con Try.prog id_p_give sp_p_give := mk_p_give ⟨con_p_col, con_p_within, con_p_fits, trivial⟩ fun x y _ h => ⟨0, (F_p_give_eq _ _ _ _ _).trans h⟩

/-! ### Lists of rules -/
theorem form_get {l : List DForm} {n : ByteArray} (h : 0 ≤ S.form l n) : ∃ f, jget l (S.form l n) = some f ∧ S.colsOf l n = f.2 ∧ f ∈ l ∧ f.1 = n := by
  obtain ⟨f, f1, f2, f3, f4, f5, f6⟩ := S.idx_get (p := fun f : DForm => keqS f.1 n) (l := l) h
  refine ⟨f, f1, ?_, f4, of_decide_eq_true f3⟩
  unfold S.colsOf S.at_ S.form
  rw [f2]; rfl
theorem cr_inner (a b : List DForm) (l : List DRule) (K20 : Int → Option Rt_p_checkRules) (now was : List DCol) (gs : List DGive) (hg : gs.length < LF) (hlen : gs.length = now.length) (i : Nat) :
    G_p_checkRules_26 LF a b l K20 LF (now, was, gs, Int.ofNat 0, Int.ofNat i) = if S.crGives l was now gs = 0 then K20 (IntKind.i64.wrap (Int.add (Int.ofNat i) (Int.ofNat 1))) else some (S.crGives l was now gs, ()) := by
  refine range0 (σ := Unit) (R := Rt_p_checkRules) gs (fun k _ => (now, was, gs, k, Int.ofNat i)) (fun _ _ => True) (fun rest k _ => if S.crGives l was (now.drop k) rest = 0 then K20 (IntKind.i64.wrap (Int.add (Int.ofNat i) (Int.ofNat 1))) else some (S.crGives l was (now.drop k) rest, ())) hg (fun K s _ => ?_) (fun K k g rest s _ r h => ?_) () trivial
  · have : S.crGives l was (now.drop gs.length) [] = 0 := by unfold S.crGives; split <;> simp_all
    simp only [R_p_checkRules_26, ilt_self, cond_false, this, if_true]
  · have h := h () trivial
    have hk : k < now.length := by rw [← hlen]; exact r.lt
    have hj : jget now (Int.ofNat k) = some now[k] := by rw [jget_nat]; exact List.getElem?_eq_getElem hk
    rw [List.drop_eq_getElem_cons hk, S.crGives]
    simp only [R_p_checkRules_26, r.ilt, r.get, r.next, h, cond_true, hj, Prod.eta, ne_zero]
    by_cases h0 : S.give l g was now[k] = 0
    · rw [decide_eq_false (by simpa using h0), cond_false, if_pos h0]
    · rw [decide_eq_true h0, cond_true, if_neg h0, if_neg h0]
theorem cr_third (a b : List DForm) (l : List DRule) (hl : l.length < LF) (hw : ∀ r ∈ l, r.2.2.length < LF) (hf : ∀ r ∈ l, 0 ≤ S.form a r.1 ∧ 0 ≤ S.form b r.2.1) : G_p_checkRules_20 LF a b l LF (Int.ofNat 0) = some (S.crGo3 a b l l, ()) := by
  refine range1 (R := Rt_p_checkRules) l (fun rest i => some (S.crGo3 a b l rest, ())) hl (fun K => ?_) (fun K i v rest r h => ?_)
  · simp only [R_p_checkRules_20, ilt_self, cond_false]; rfl
  · obtain ⟨fa, a1, a2, a3, a4⟩ := form_get (hf v r.mem).1
    obtain ⟨fb, b1, b2, b3, b4⟩ := form_get (hf v r.mem).2
    simp only [R_p_checkRules_20, r.ilt, r.get, cond_true, a1, b1, ieq_nat]
    rw [S.crGo3, a2, b2]
    by_cases hlen : v.2.2.length = fb.2.length
    · rw [decide_eq_true hlen, Bool.not_true, cond_false, if_pos hlen]
      refine (cr_inner a b l K fb.2 fa.2 v.2.2 (hw v r.mem) hlen i).trans ?_
      rw [r.next, h]
      split <;> rfl
    · rw [decide_eq_false hlen, Bool.not_false, cond_true, if_neg hlen]
      rfl
theorem cr_second (a b : List DForm) (l : List DRule) (ha : a.length < LF) (hl : l.length < LF) (hw : ∀ r ∈ l, r.2.2.length < LF) (hf : ∀ r ∈ l, 0 ≤ S.form a r.1 ∧ 0 ≤ S.form b r.2.1) : G_p_checkRules_13 LF a b l LF (Int.ofNat 0) = some (S.crGo2 a b l a, ()) := by
  refine range1 (R := Rt_p_checkRules) a (fun rest i => some (S.crGo2 a b l rest, ())) ha (fun K => ?_) (fun K i v rest r h => ?_)
  · simp only [R_p_checkRules_13, ilt_self, cond_false]
    exact cr_third a b l hl hw hf
  · simp only [R_p_checkRules_13, r.ilt, r.get, r.next, h, cond_true]
    rw [S.crGo2]
    cases (S.ruleOf l v.1).2 <;> rfl
theorem F_p_checkRules_eq (a b : List DForm) (l : List DRule) (ha : a.length < LF) (hl : l.length < LF) (hw : ∀ r ∈ l, r.2.2.length < LF) : F_p_checkRules LF a b l = some (S.checkRules0 a b l, ()) := by
  simp only [F_p_checkRules, R_p_checkRules_in, S.checkRules0, ilt_nat]
  by_cases h24 : 24 < l.length
  · rw [decide_eq_true h24, cond_true, if_pos h24]; rfl
  rw [decide_eq_false h24, cond_false, if_neg h24]
  refine range0 (σ := Unit) (R := Rt_p_checkRules) l (fun i _ => i) (fun i _ => ∀ r ∈ l.take i, 0 ≤ S.form a r.1 ∧ 0 ≤ S.form b r.2.1) (fun rest i _ => some (S.crGo a b l i rest, ())) hl (fun K s hI => ?_) (fun K i v rest s hI r h => ?_) () (by simp)
  · simp only [R_p_checkRules_4, ilt_self, cond_false]
    rw [List.take_length] at hI
    rw [S.crGo]
    exact cr_second a b l ha hl hw hI
  · simp only [R_p_checkRules_4, r.ilt, r.get, r.next, cond_true, lchk_pre l (Nat.le_of_lt r.lt), lsub_pre, iltI_eq]
    rw [S.crGo]
    simp only [oL]
    by_cases h1 : S.form a v.1 < 0
    · rw [decide_eq_true h1, cond_true, if_pos h1]
    by_cases h2 : S.form b v.2.1 < 0
    · rw [decide_eq_false h1, cond_false, if_neg h1, decide_eq_true h2, cond_true, if_pos h2]
    rw [decide_eq_false h1, cond_false, if_neg h1, decide_eq_false h2, cond_false, if_neg h2]
    cases (S.ruleOf (l.take i) v.1).2 with
    | true => rfl
    | false =>
      rw [cond_false, if_neg (by simp)]
      refine h () fun q hq => ?_
      rw [r.take, List.mem_append] at hq
      rcases hq with hq | hq
      · exact hI q hq
      · simp only [List.mem_cons, List.not_mem_nil, or_false] at hq
        subst hq
        exact ⟨by omega, by omega⟩
theorem con_p_checkRules : Con Try.prog id_p_checkRules sp_p_checkRules := mk_p_checkRules ⟨con_p_form, con_p_ruleOf, con_p_give, trivial⟩ fun x y hx h => ⟨LF, (F_p_checkRules_eq _ _ _ (wf_len hx.1) (wf_len hx.2.2.1) fun r hr => wf_len (hx.2.2.1.2 r hr).2.2).trans h⟩
theorem F_p_CheckRules_eq (lf : Nat) (a b : List DForm) (l : List DRule) : F_p_CheckRules lf a b l = some (S.checkRules a b l, ()) := by
  simp only [F_p_CheckRules, R_p_CheckRules_in, S.checkRules, ne_zero]
  by_cases h0 : S.first [S.checkForms a, S.checkForms b] = 0
  · rw [decide_eq_false (by simpa using h0), cond_false, if_pos h0]
  · rw [decide_eq_true h0, cond_true, if_neg h0]
theorem con_p_CheckRules : Con Try.prog id_p_CheckRules sp_p_CheckRules := mk_p_CheckRules ⟨con_p_CheckForms, con_p_first, con_p_checkRules, trivial⟩ fun x y hx h => ⟨0, (F_p_CheckRules_eq _ _ _ _).trans h⟩
theorem F_p_made_eq (lf : Nat) (g : DGive) (cols : List DCol) (l : List DVal) (b : DCol) (h : S.madePre g cols l = true) : F_p_made lf g cols l b = some ((S.made g cols l b).1, (S.made g cols l b).2, ()) := by
  simp only [F_p_made, R_p_made_in, S.made, ieqI_eq, oL, iltI_eq]
  by_cases h6 : g.2.1 = 6
  · by_cases h2 : b.2.1 = 2 <;> simp [h6, h2]
  by_cases h7 : g.2.1 = 7
  · simp [h7]
  obtain ⟨p1, p2⟩ := of_decide_eq_true h h6 h7
  obtain ⟨v, e1, e2, e3⟩ := jget_of p1 p2
  have e4 : S.src g cols l = v := by unfold S.src S.at_; rw [e2]; rfl
  rw [e1, e4]
  by_cases h2 : g.2.1 = 2
  · simp [h2]
  by_cases h3 : g.2.1 = 3
  · simp [h3]
  by_cases h4 : g.2.1 = 4
  · simp [h4]
  by_cases h5 : g.2.1 = 5
  · simp [h5]
  simp [h6, h7, h2, h3, h4, h5]
theorem con_p_made : Con Try.prog id_p_made sp_p_made := mk_p_made ⟨con_p_col, con_p_within, trivial⟩ fun x y hx h => ⟨0, by
  have h : cond (S.madePre x.1 x.2.1 x.2.2.1) (some ((S.made x.1 x.2.1 x.2.2.1 x.2.2.2.1).1, (S.made x.1 x.2.1 x.2.2.1 x.2.2.2.1).2, ())) none = some y := h
  cases hr : S.madePre x.1 x.2.1 x.2.2.1 with
  | false => rw [hr] at h; cases h
  | true => rw [hr] at h; exact (F_p_made_eq _ _ _ _ _ hr).trans h⟩
end Go.Proofs.Ytcnhjofpmpipfaa
end

/- The contract of pack.Convert; what right rules are. -/
section
set_option linter.unusedVariables false
set_option maxRecDepth 100000
namespace Go.Proofs.Ytcnhjofpmpipfaa
open Go Go.Sx Go.RowKit Go.Jx
structure RulesOK (a b : List DForm) (l : List DRule) : Prop where
  len : l.length ≤ 24
  has : ∀ r ∈ l, 0 ≤ S.form a r.1 ∧ 0 ≤ S.form b r.2.1
  one : ∀ k (h : k < l.length), (S.ruleOf (l.take k) l[k].1).2 = false
  all : ∀ f ∈ a, (S.ruleOf l f.1).2 = true
  glen : ∀ r ∈ l, r.2.2.length = (S.colsOf b r.2.1).length
  gok : ∀ r ∈ l, ∀ k (h : k < r.2.2.length) (h' : k < (S.colsOf b r.2.1).length), S.give l r.2.2[k] (S.colsOf a r.1) (S.colsOf b r.2.1)[k] = 0
theorem crGives_iff (l : List DRule) (was : List DCol) : ∀ (now : List DCol) (gs : List DGive), gs.length = now.length → (S.crGives l was now gs = 0 ↔ ∀ k (h : k < gs.length) (h' : k < now.length), S.give l gs[k] was now[k] = 0)
  | [], [], _ => by simp [S.crGives]
  | [], g :: gs, h => by simp at h
  | c :: now, [], h => by simp at h
  | c :: now, g :: gs, h => by
    rw [S.crGives]
    have ih := crGives_iff l was now gs (by simpa using h)
    by_cases h0 : S.give l g was c = 0
    · rw [if_pos h0, ih]
      constructor
      · intro hk k h1 h2
        cases k with
        | zero => exact h0
        | succ k => exact hk k (by simpa using h1) (by simpa using h2)
      · intro hk k h1 h2
        exact hk (k + 1) (by simpa using h1) (by simpa using h2)
    · rw [if_neg h0]
      constructor
      · intro h1; exact absurd h1 h0
      · intro hk; exact absurd (hk 0 (by simp) (by simp)) h0
theorem crGo3_iff (a b : List DForm) (l : List DRule) : ∀ (rs : List DRule), S.crGo3 a b l rs = 0 ↔ ∀ r ∈ rs, r.2.2.length = (S.colsOf b r.2.1).length ∧ S.crGives l (S.colsOf a r.1) (S.colsOf b r.2.1) r.2.2 = 0
  | [] => by simp [S.crGo3]
  | r :: rs => by
    rw [S.crGo3]
    have ih := crGo3_iff a b l rs
    by_cases h1 : r.2.2.length = (S.colsOf b r.2.1).length
    · rw [if_pos h1]
      by_cases h2 : S.crGives l (S.colsOf a r.1) (S.colsOf b r.2.1) r.2.2 = 0
      · rw [if_pos h2, ih]; simp [h1, h2]
      · rw [if_neg h2]; simp [h2]
    · rw [if_neg h1]; simp [h1]
theorem crGo2_iff (a b : List DForm) (l : List DRule) : ∀ (fs : List DForm), S.crGo2 a b l fs = 0 ↔ (∀ f ∈ fs, (S.ruleOf l f.1).2 = true) ∧ S.crGo3 a b l l = 0
  | [] => by simp [S.crGo2]
  | f :: fs => by
    rw [S.crGo2]
    have ih := crGo2_iff a b l fs
    cases h1 : (S.ruleOf l f.1).2 with
    | true => rw [if_pos rfl, ih]; simp [h1]
    | false => rw [if_neg (by simp)]; simp [h1]
theorem crGo_iff (a b : List DForm) (l : List DRule) : ∀ (rest : List DRule) (k : Nat), l.drop k = rest → (S.crGo a b l k rest = 0 ↔ (∀ j (h : j < l.length), k ≤ j → 0 ≤ S.form a l[j].1 ∧ 0 ≤ S.form b l[j].2.1 ∧ (S.ruleOf (l.take j) l[j].1).2 = false) ∧ S.crGo2 a b l a = 0)
  | [], k, hd => by
    rw [S.crGo]
    have : l.length ≤ k := by simpa using hd
    constructor
    · intro h; exact ⟨fun j h1 h2 => by omega, h⟩
    · intro h; exact h.2
  | r :: rs, k, hd => by
    have hk : k < l.length := by
      rcases Nat.lt_or_ge k l.length with h | h
      · exact h
      · rw [List.drop_eq_nil_of_le h] at hd; cases hd
    have hr : l[k] = r := by rw [List.drop_eq_getElem_cons hk] at hd; exact (List.cons.inj hd).1
    have hd' : l.drop (k + 1) = rs := by rw [List.drop_eq_getElem_cons hk] at hd; exact (List.cons.inj hd).2
    have ih := crGo_iff a b l rs (k + 1) hd'
    rw [S.crGo]
    by_cases h1 : S.form a r.1 < 0
    · rw [if_pos h1]
      constructor
      · intro h; cases h
      · intro h; have := (h.1 k hk (Nat.le_refl _)).1; rw [hr] at this; omega
    by_cases h2 : S.form b r.2.1 < 0
    · rw [if_neg h1, if_pos h2]
      constructor
      · intro h; cases h
      · intro h; have := (h.1 k hk (Nat.le_refl _)).2.1; rw [hr] at this; omega
    rw [if_neg h1, if_neg h2]
    cases h3 : (S.ruleOf (l.take k) r.1).2 with
    | true =>
      rw [if_pos rfl]
      constructor
      · intro h; cases h
      · intro h; have := (h.1 k hk (Nat.le_refl _)).2.2; rw [hr, h3] at this; cases this
    | false =>
      rw [if_neg (by simp), ih]
      constructor
      · rintro ⟨h, h'⟩
        refine ⟨fun j hj hkj => ?_, h'⟩
        by_cases e : j = k
        · subst e; rw [hr]; exact ⟨by omega, by omega, h3⟩
        · exact h j hj (by omega)
      · rintro ⟨h, h'⟩
        exact ⟨fun j hj hkj => h j hj (by omega), h'⟩
theorem rulesOK_iff (a b : List DForm) (l : List DRule) : S.checkRules0 a b l = 0 ↔ RulesOK a b l := by
  unfold S.checkRules0
  by_cases h24 : 24 < l.length
  · rw [if_pos h24]
    exact ⟨fun h => (by cases h), fun h => (by have := h.len; omega)⟩
  rw [if_neg h24, crGo_iff a b l l 0 rfl, crGo2_iff, crGo3_iff]
  constructor
  · rintro ⟨h1, h2, h3⟩
    refine ⟨by omega, fun r hr => ?_, fun k hk => (h1 k hk (Nat.zero_le _)).2.2, h2, fun r hr => (h3 r hr).1, fun r hr => (crGives_iff _ _ _ _ (h3 r hr).1).1 (h3 r hr).2⟩
    obtain ⟨k, hk, rfl⟩ := List.mem_iff_getElem.1 hr
    exact ⟨(h1 k hk (Nat.zero_le _)).1, (h1 k hk (Nat.zero_le _)).2.1⟩
  · intro h
    exact ⟨fun j hj _ => ⟨(h.has _ (List.getElem_mem hj)).1, (h.has _ (List.getElem_mem hj)).2, h.one j hj⟩, h.all, fun r hr => ⟨h.glen r hr, (crGives_iff _ _ _ _ (h.glen r hr)).2 (h.gok r hr)⟩⟩
theorem ruleOf_mem {l : List DRule} {c : ByteArray} (h : (S.ruleOf l c).2 = true) : (S.ruleOf l c).1 ∈ l ∧ (S.ruleOf l c).1.1 = c := by
  unfold S.ruleOf at h ⊢
  cases hf : l.find? (fun r => keqS r.1 c) with
  | none => rw [hf] at h; cases h
  | some r =>
    have hk : keqS r.1 c = true := List.find?_some (p := fun r : DRule => keqS r.1 c) hf
    exact ⟨List.mem_of_find?_eq_some hf, of_decide_eq_true hk⟩
theorem give_pre {l : List DRule} {g : DGive} {cols : List DCol} {b : DCol} (h : S.give l g cols b = 0) : S.within g.2.1 1 7 = true ∧ (S.within g.2.1 1 5 = true → 0 ≤ S.col cols g.1) := by
  unfold S.give at h
  split at h
  · cases h
  rename_i h1
  split at h
  · cases h
  rename_i h2
  simp only [not_or] at h2
  refine ⟨by simpa using h2.1, fun hw => ?_⟩
  rcases Int.lt_or_le (S.col cols g.1) 0 with h3 | h3
  · exact absurd ⟨hw, h3⟩ h1
  · exact h3
theorem col_lt (cols : List DCol) (n : ByteArray) (h : 0 ≤ S.col cols n) : S.col cols n < cols.length := by
  obtain ⟨c, _, _, _, _, h5, _⟩ := S.idx_get (p := fun c : DCol => keqS c.1 n) (l := cols) h
  exact h5
theorem made_pre {l : List DRule} {g : DGive} {cols : List DCol} {b : DCol} {vs : List DVal} (h : S.give l g cols b = 0) (hv : vs.length = cols.length) : S.madePre g cols vs = true := by
  obtain ⟨h1, h2⟩ := give_pre h
  unfold S.madePre
  refine decide_eq_true fun h6 h7 => ?_
  have h5 : S.within g.2.1 1 5 = true := by
    simp only [S.within, Bool.and_eq_true, decide_eq_true_eq] at h1 ⊢
    omega
  have := col_lt cols g.1 (h2 h5)
  exact ⟨h2 h5, by rw [hv]; exact this⟩
theorem typed_len {l : List DForm} {g : DGraph} : ∀ {ns : List DNode}, S.typed l g ns = true → ∀ n ∈ ns, n.2.length = (S.colsOf l n.1).length ∧ S.suitsAll g (S.colsOf l n.1) n.2 = true
  | [], _, n, hn => by cases hn
  | m :: ns, h, n, hn => by
    rw [S.typed] at h
    split at h
    · rename_i h1
      split at h
      · rename_i h2
        rcases List.mem_cons.1 hn with rfl | hn
        · exact ⟨h1, h2⟩
        · exact typed_len h n hn
      · cases h
    · cases h
/-- A right graph of classes. -/
structure GraphOK (l : List DForm) (g : DGraph) : Prop where
  formed : S.formed g = 0
  has : ∀ n ∈ g.1, 0 ≤ S.form l n.1
  typed : S.typed l g g.1 = true
theorem graphOK_iff (l : List DForm) (g : DGraph) : S.check l g = 0 ↔ GraphOK l g := by
  unfold S.check
  by_cases h0 : S.formed g = 0
  · rw [if_neg (by simpa using h0)]
    cases hb : g.1.any (fun n => decide (S.form l n.1 < 0)) with
    | true =>
      rw [if_pos rfl]
      refine ⟨fun h => (by cases h), fun h => ?_⟩
      obtain ⟨n, h1, h2⟩ := List.any_eq_true.1 hb
      have := h.has n h1
      have := of_decide_eq_true h2
      omega
    | false =>
      rw [if_neg (by simp)]
      rw [List.any_eq_false] at hb
      have hh : ∀ n ∈ g.1, 0 ≤ S.form l n.1 := fun n hn => by have := hb n hn; simpa using this
      unfold S.unlessE
      cases ht : S.typed l g g.1 with
      | true => exact ⟨fun _ => ⟨h0, hh, ht⟩, fun _ => rfl⟩
      | false => exact ⟨fun h => (by cases h), fun h => (by have := h.typed; rw [ht] at this; cases this)⟩
  · rw [if_pos h0]
    exact ⟨fun h => absurd h h0, fun h => absurd h.formed h0⟩
theorem ble_mul {n b : Nat} (h : (n + 1) * b ≤ 140737488355328) : Nat.ble (Nat.mul (Nat.add n 1) b) 140737488355328 = true := Nat.ble_eq_true_of_le h
theorem cv_inner (a b : List DForm) (l : List DRule) (g : DGraph) (K9 : Int × List DNode → Option Rt_p_Convert) (colsA colsB : List DCol) (vs : List DVal) (c : ByteArray) (i : Nat) (acc : List DNode) (hB : colsB.length * 40 ≤ 140737488355328) (hacc : (acc.length + 1) * 40 ≤ 140737488355328)
    (hlen : (S.ruleOf l c).1.2.2.length = colsB.length) (hpre : ∀ k (h : k < (S.ruleOf l c).1.2.2.length), S.madePre (S.ruleOf l c).1.2.2[k] colsA vs = true) :
    G_p_Convert_15 LF a b l g K9 LF (colsA, vs, colsB, c, Int.ofNat 0, [], Int.ofNat i, Int.ofNat i, acc) = match S.cvIn colsA vs (S.ruleOf l c).1.2.2 colsB [] with
      | (some ws, _) => K9 (IntKind.i64.wrap (Int.add (Int.ofNat i) (Int.ofNat 1)), acc ++ [((S.ruleOf l c).1.2.1, ws)])
      | (none, d) => some (S.zGraph, (Int.ofNat i, d), 10, ()) := by
  have hBl : colsB.length < LF := by unfold LF; omega
  refine range0 (σ := List DVal) (R := Rt_p_Convert) colsB (fun k s => (colsA, vs, colsB, c, k, s, Int.ofNat i, Int.ofNat i, acc)) (fun k s => s.length = k) (fun rest k s => match S.cvIn colsA vs ((S.ruleOf l c).1.2.2.drop k) rest s with
      | (some ws, _) => K9 (IntKind.i64.wrap (Int.add (Int.ofNat i) (Int.ofNat 1)), acc ++ [((S.ruleOf l c).1.2.1, ws)])
      | (none, d) => some (S.zGraph, (Int.ofNat i, d), 10, ())) hBl (fun K s hI => ?_) (fun K k col rest s hI r h => ?_) [] rfl
  · have : S.cvIn colsA vs ((S.ruleOf l c).1.2.2.drop colsB.length) [] s = (some s, S.lit []) := by unfold S.cvIn; split <;> simp_all
    simp only [R_p_Convert_15, ilt_self, cond_false, this, ble_mul hacc, cond_true]
    rfl
  · have hk : k < (S.ruleOf l c).1.2.2.length := by rw [hlen]; exact r.lt
    have hj : jget (S.ruleOf l c).1.2.2 (Int.ofNat k) = some (S.ruleOf l c).1.2.2[k] := by rw [jget_nat]; exact List.getElem?_eq_getElem hk
    rw [List.drop_eq_getElem_cons hk, S.cvIn]
    simp only [R_p_Convert_15, r.ilt, r.get, r.next, cond_true, hj, Prod.eta, hpre k hk]
    cases hm : (S.made (S.ruleOf l c).1.2.2[k] colsA vs col).2 with
    | true =>
      rw [Bool.not_true, cond_false, if_pos rfl]
      have hs := h (s ++ [(S.made (S.ruleOf l c).1.2.2[k] colsA vs col).1]) (by simp [hI])
      have hb : Nat.ble (Nat.mul (Nat.add s.length 1) 16) 140737488355328 = true := ble_mul (by have := r.lt; rw [hI]; omega)
      rw [hb, cond_true]
      exact hs
    | false =>
      rw [Bool.not_false, cond_true, if_neg (by simp)]
      rfl
theorem F_p_Convert_eq (a b : List DForm) (l : List DRule) (g : DGraph) (hb : ∀ f ∈ b, f.2.length * 40 ≤ 140737488355328) : F_p_Convert LF a b l g = some ((S.convert a b l g).1, (S.convert a b l g).2.1, (S.convert a b l g).2.2, ()) := by
  have f1 : S.first [S.checkRules a b l] = S.checkRules a b l := by
    simp only [S.first]; split <;> simp_all
  simp only [F_p_Convert, R_p_Convert_in, S.convert, f1, ne_zero, Prod.eta]
  by_cases h0 : ¬ S.checkRules a b l = 0
  · rw [decide_eq_true h0, cond_true, if_pos h0]; rfl
  have h0 := Decidable.not_not.1 h0
  rw [decide_eq_false (by simpa using h0), cond_false, if_neg (by simpa using h0)]
  by_cases h1 : ¬ S.check a g = 0
  · rw [decide_eq_true h1, cond_true, if_pos h1]; rfl
  have h1 := Decidable.not_not.1 h1
  rw [decide_eq_false (by simpa using h1), cond_false, if_neg (by simpa using h1)]
  have h0' : S.checkRules0 a b l = 0 := by
    unfold S.checkRules at h0
    split at h0
    · exact h0
    · contradiction
  have hR := (rulesOK_iff a b l).1 h0'
  have hG := (graphOK_iff a g).1 h1
  obtain ⟨hn, _, _, _, _⟩ := formed_zero hG.formed
  have hnl : g.1.length < LF := by unfold LF; omega
  refine range0 (σ := List DNode) (R := Rt_p_Convert) g.1 (fun k s => (k, s)) (fun k s => s.length = k) (fun rest k s => some ((S.cvGo a b l g.2 k rest s).1, (S.cvGo a b l g.2 k rest s).2.1, (S.cvGo a b l g.2 k rest s).2.2, ())) hnl (fun K s hI => ?_) (fun K k n rest s hI r h => ?_) [] rfl
  · simp only [R_p_Convert_9, ilt_self, cond_false]; rfl
  · obtain ⟨fa, a1, a2, a3, a4⟩ := form_get (hG.has n r.mem)
    have hru : (S.ruleOf l n.1).2 = true := by rw [← a4]; exact hR.all fa a3
    obtain ⟨m1, m2⟩ := ruleOf_mem hru
    obtain ⟨fb, b1, b2, b3, b4⟩ := form_get (hR.has _ m1).2
    simp only [R_p_Convert_9, r.ilt, r.get, cond_true, a1, b1]
    have hgl := hR.glen _ m1
    have hvl : n.2.length = (S.colsOf a n.1).length := (typed_len hG.typed n r.mem).1
    refine (cv_inner a b l g K fa.2 fb.2 n.2 n.1 k s (hb fb b3) (by have := r.lt; rw [hI]; omega) (by rw [hgl, b2]) fun j hj => ?_).trans ?_
    · have := hR.gok _ m1 j hj (by rw [← hgl]; exact hj)
      rw [m2] at this
      rw [← a2]
      exact made_pre this hvl
    · rw [S.cvGo]
      simp only [a2, b2]
      cases hcv : S.cvIn fa.2 n.2 (S.ruleOf l n.1).1.2.2 fb.2 [] with
      | mk o d =>
        cases o with
        | none => rfl
        | some ws =>
          simp only
          rw [r.next]
          exact h _ (by simp [hI])
theorem con_p_Convert : Con Try.prog id_p_Convert sp_p_Convert := mk_p_Convert ⟨con_p_CheckRules, con_p_check, con_p_first, con_slices_Clone_Val, con_p_ruleOf, con_p_form, con_p_made, trivial⟩ fun x y hx h => ⟨LF, (F_p_Convert_eq _ _ _ _ fun f hf => (hx.2.1.2 f hf).2.1).trans h⟩
end Go.Proofs.Ytcnhjofpmpipfaa
end

/- The contracts of pack's chaining of rules. -/
section
set_option linter.unusedVariables false
set_option maxRecDepth 100000
namespace Go.Proofs.Ytcnhjofpmpipfaa
open Go Go.Sx Go.RowKit Go.Jx
end Go.Proofs.Ytcnhjofpmpipfaa
end

/- Comparisons, and the law's bounds. -/
section
set_option linter.unusedVariables false
set_option maxRecDepth 100000
namespace Go.Proofs.Ytcnhjofpmpipfaa
open Go Go.Sx Go.RowKit Go.Jx
theorem F_r_SameVals_eq (a b : List DVal) (hl : a.length < LF) : F_r_SameVals LF a b = some (S.sameVals a b, ()) := by
  simp only [F_r_SameVals, R_r_SameVals_in, ieq_nat, S.sameVals]
  by_cases hlen : a.length = b.length
  · rw [decide_eq_true hlen, Bool.not_true, cond_false]
    refine (range1 (R := Rt_r_SameVals) a (fun rest i => some (decide (rest = b.drop i), ())) hl (fun K => ?_) (fun K i v rest r h => ?_)).trans (by rw [List.drop_zero])
    · simp only [R_r_SameVals_4, ilt_self, cond_false]
      rw [List.drop_of_length_le (by omega), decide_eq_true rfl]
    · have hi : i < b.length := by have := r.lt; omega
      have hd : b.drop i = b[i] :: b.drop (i + 1) := List.drop_eq_getElem_cons hi
      have hb : jget b (Int.ofNat i) = some b[i] := jget_nat.trans (List.getElem?_eq_getElem hi)
      simp only [R_r_SameVals_4, r.ilt, r.get, hb, r.next, h, cond_true, hd]
      generalize b[i] = w
      obtain ⟨v1, v2⟩ := v
      obtain ⟨w1, w2⟩ := w
      simp only [keqI, Bool.and_true]
      by_cases e1 : v1 = w1 <;> by_cases e2 : v2 = w2 <;> simp [e1, e2]
  · have hn : ¬ a = b := fun e => hlen (by rw [e])
    rw [decide_eq_false hlen, Bool.not_false, cond_true, decide_eq_false hn]
theorem con_r_SameVals : Con Try.prog id_r_SameVals sp_r_SameVals := mk_r_SameVals trivial fun x y hx h => ⟨LF, (F_r_SameVals_eq _ _ (wf_len hx.1)).trans h⟩
theorem F_r_SameGraphs_eq (a b : DGraph) (hl : a.1.length < LF) : F_r_SameGraphs LF a b = some (S.sameGraphs a b, ()) := by
  simp only [F_r_SameGraphs, R_r_SameGraphs_in, ieq_nat, S.sameGraphs]
  obtain ⟨a1, a2⟩ := a
  obtain ⟨b1, b2⟩ := b
  have hs : S.sameVals a2 b2 = decide (a2 = b2) := rfl
  simp only [hs]
  by_cases hr : a2 = b2
  · rw [decide_eq_true hr, Bool.not_true, cond_false]
    by_cases hlen : a1.length = b1.length
    · rw [decide_eq_true hlen, Bool.not_true, cond_false]
      refine (range1 (R := Rt_r_SameGraphs) a1 (fun rest i => some (decide (rest = b1.drop i), ())) hl (fun K => ?_) (fun K i v rest r h => ?_)).trans (by rw [List.drop_zero]; simp [hr])
      · simp only [R_r_SameGraphs_5, ilt_self, cond_false]
        rw [List.drop_of_length_le (by omega), decide_eq_true rfl]
      · have hi : i < b1.length := by have := r.lt; dsimp only at *; omega
        have hd : b1.drop i = b1[i] :: b1.drop (i + 1) := List.drop_eq_getElem_cons hi
        have hb : jget b1 (Int.ofNat i) = some b1[i] := jget_nat.trans (List.getElem?_eq_getElem hi)
        have hg := r.get
        simp only [R_r_SameGraphs_5, r.ilt, hg, hb, r.next, h, cond_true, hd]
        generalize b1[i] = w
        obtain ⟨v1, v2⟩ := v
        obtain ⟨w1, w2⟩ := w
        simp only [keqS, S.sameVals]
        by_cases e1 : v1 = w1 <;> by_cases e2 : v2 = w2 <;> simp [e1, e2]
    · have hn : ¬ (a1, a2) = (b1, b2) := fun e => hlen (by rw [(Prod.mk.inj e).1])
      rw [decide_eq_false hlen, Bool.not_false, cond_true, decide_eq_false hn]
  · have hn : ¬ (a1, a2) = (b1, b2) := fun e => hr (Prod.mk.inj e).2
    rw [decide_eq_false hr, Bool.not_false, cond_true, decide_eq_false hn]
theorem con_r_SameGraphs : Con Try.prog id_r_SameGraphs sp_r_SameGraphs := mk_r_SameGraphs ⟨con_r_SameVals, trivial⟩ fun x y hx h => ⟨LF, (F_r_SameGraphs_eq _ _ (wf_len hx.1.1)).trans h⟩
theorem F_l_fewRules_eq (l : List DRule) (hl : l.length < LF) : F_l_fewRules LF l = some (S.fewRules l, ()) := by
  simp only [F_l_fewRules, R_l_fewRules_in, S.fewRules]
  refine range1 (R := Rt_l_fewRules) l (fun rest i => some (rest.all (fun r => decide (r.2.2.length ≤ 8)) && decide (l.length ≤ 8 ∨ 24 < l.length ∧ l.length ≤ 30), ())) hl (fun K => ?_) (fun K i v rest r h => ?_)
  · simp only [R_l_fewRules_2, ilt_self, cond_false, ilt_nat, List.all_nil, Bool.true_and]
    by_cases h8 : 8 < l.length <;> by_cases h24 : 24 < l.length <;> by_cases h30 : 30 < l.length <;> simp [h8, h24, h30] <;> omega
  · simp only [R_l_fewRules_2, r.ilt, r.get, r.next, h, cond_true, ilt_nat, List.all_cons]
    by_cases h8 : 8 < v.2.2.length
    · have h8' : ¬ v.2.2.length ≤ 8 := by omega
      simp [h8, h8']
    · have h8' : v.2.2.length ≤ 8 := by omega
      simp [h8, h8']
theorem con_l_fewRules : Con Try.prog id_l_fewRules sp_l_fewRules := mk_l_fewRules trivial fun x y hx h => ⟨LF, (F_l_fewRules_eq _ (wf_len hx.1)).trans h⟩
theorem F_l_few_eq (g : DGraph) (hl : g.1.length < LF) : F_l_few LF g = some (S.few g, ()) := by
  simp only [F_l_few, R_l_few_in, S.few]
  refine range1 (R := Rt_l_few) g.1 (fun rest i => some (rest.all (fun n => decide ((n.2.length ≤ 8 ∨ 30 < n.2.length) ∧ n.2.length ≤ 40)) && decide ((g.1.length ≤ 30 ∨ 400 < g.1.length ∧ g.1.length ≤ 410) ∧ (g.2.length ≤ 10 ∨ 60 < g.2.length ∧ g.2.length ≤ 70)), ())) hl (fun K => ?_) (fun K i v rest r h => ?_)
  · simp only [R_l_few_3, ilt_self, cond_false, ilt_nat, List.all_nil, Bool.true_and]
    generalize g.1.length = n
    generalize g.2.length = k
    by_cases a1 : 30 < n <;> by_cases a2 : 400 < n <;> by_cases a3 : 410 < n <;> by_cases b1 : 10 < k <;> by_cases b2 : 60 < k <;> by_cases b3 : 70 < k <;> simp [a1, a2, a3, b1, b2, b3] <;> omega
  · simp only [R_l_few_3, r.ilt, r.get, r.next, h, cond_true, ilt_nat, List.all_cons]
    generalize v.2.length = n
    generalize (rest.all fun n => decide ((n.2.length ≤ 8 ∨ 30 < n.2.length) ∧ n.2.length ≤ 40)) = w
    by_cases a1 : 8 < n
    · rw [decide_eq_true a1, cond_true]
      by_cases a2 : 30 < n
      · rw [decide_eq_true a2, Bool.not_true, cond_false]
        by_cases a3 : 40 < n
        · have e : decide ((n ≤ 8 ∨ 30 < n) ∧ n ≤ 40) = false := decide_eq_false (by omega)
          rw [e, decide_eq_true a3]; rfl
        · have e : decide ((n ≤ 8 ∨ 30 < n) ∧ n ≤ 40) = true := decide_eq_true (by omega)
          rw [e, decide_eq_false a3]; cases w <;> rfl
      · have e : decide ((n ≤ 8 ∨ 30 < n) ∧ n ≤ 40) = false := decide_eq_false (by omega)
        rw [e, decide_eq_false a2]; rfl
    · rw [decide_eq_false a1, cond_false]
      have e : decide ((n ≤ 8 ∨ 30 < n) ∧ n ≤ 40) = true := decide_eq_true (by omega)
      have a3 : ¬ 40 < n := by omega
      rw [e, decide_eq_false a3]; cases w <;> rfl
theorem con_l_few : Con Try.prog id_l_few sp_l_few := mk_l_few trivial fun x y hx h => ⟨LF, (F_l_few_eq _ (wf_len hx.1.1)).trans h⟩
theorem few_inner (l : List DForm) (K2 : Int → Option Rt_l_fewForms) (i : Nat) (f : DForm) (hf : jget l (Int.ofNat i) = some f) (hl : f.2.length < LF) :
    G_l_fewForms_8 LF l K2 LF (Int.ofNat f.2.length, Int.ofNat 0, Int.ofNat i) = cond (f.2.all fun c => decide (c.1.size ≤ 30 ∧ c.2.2.size ≤ 30)) (K2 (IntKind.i64.wrap (Int.add (Int.ofNat i) (Int.ofNat 1)))) (some (false, ())) := by
  refine range0 (σ := Unit) (R := Rt_l_fewForms) f.2 (fun k _ => (Int.ofNat f.2.length, k, Int.ofNat i)) (fun _ _ => True) (fun rest k _ => cond (rest.all fun c => decide (c.1.size ≤ 30 ∧ c.2.2.size ≤ 30)) (K2 (IntKind.i64.wrap (Int.add (Int.ofNat i) (Int.ofNat 1)))) (some (false, ()))) hl (fun K s _ => ?_) (fun K k c rest s _ r h => ?_) () trivial
  · simp only [R_l_fewForms_8, ilt_self, cond_false, List.all_nil, cond_true]
  · have h := h () trivial
    simp only [R_l_fewForms_8, hf, r.ilt, r.get, r.next, h, cond_true, ilt_nat, List.all_cons]
    by_cases a1 : 30 < c.1.size
    · have e : decide (c.1.size ≤ 30 ∧ c.2.2.size ≤ 30) = false := decide_eq_false (by omega)
      rw [e, decide_eq_true a1]; rfl
    by_cases a2 : 30 < c.2.2.size
    · have e : decide (c.1.size ≤ 30 ∧ c.2.2.size ≤ 30) = false := decide_eq_false (by omega)
      rw [e, decide_eq_false a1, decide_eq_true a2]; rfl
    · have e : decide (c.1.size ≤ 30 ∧ c.2.2.size ≤ 30) = true := decide_eq_true (by omega)
      rw [e, decide_eq_false a1, decide_eq_false a2, Bool.true_and]; rfl
theorem F_l_fewForms_eq (l : List DForm) (hl : l.length < LF) (hw : ∀ f ∈ l, f.2.length < LF) : F_l_fewForms LF l = some (S.fewForms l, ()) := by
  simp only [F_l_fewForms, R_l_fewForms_in, S.fewForms]
  refine range1 (R := Rt_l_fewForms) l (fun rest i => some (rest.all (fun f => decide (f.1.size ≤ 30 ∧ (f.2.length ≤ 6 ∨ 30 < f.2.length) ∧ f.2.length ≤ 40) && f.2.all fun c => decide (c.1.size ≤ 30 ∧ c.2.2.size ≤ 30)) && decide (l.length ≤ 6 ∨ 24 < l.length ∧ l.length ≤ 30), ())) hl (fun K => ?_) (fun K i v rest r h => ?_)
  · simp only [R_l_fewForms_2, ilt_self, cond_false, ilt_nat, List.all_nil, Bool.true_and]
    by_cases h8 : 6 < l.length <;> by_cases h24 : 24 < l.length <;> by_cases h30 : 30 < l.length <;> simp [h8, h24, h30] <;> omega
  · have hin := few_inner l K i v r.get (hw v r.mem)
    rw [r.next, h] at hin
    simp only [R_l_fewForms_2, r.ilt, r.get, cond_true, ilt_nat, List.all_cons]
    simp only [hin]
    generalize (v.2.all fun c => decide (c.1.size ≤ 30 ∧ c.2.2.size ≤ 30)) = w
    generalize v.2.length = n
    generalize v.1.size = m
    by_cases a0 : 30 < m
    · have e : decide (m ≤ 30 ∧ (n ≤ 6 ∨ 30 < n) ∧ n ≤ 40) = false := decide_eq_false (by omega)
      rw [e, decide_eq_true a0]; rfl
    rw [decide_eq_false a0, cond_false]
    by_cases a1 : 6 < n
    · rw [decide_eq_true a1, cond_true]
      by_cases a2 : 30 < n
      · rw [decide_eq_true a2, Bool.not_true, cond_false]
        by_cases a3 : 40 < n
        · have e : decide (m ≤ 30 ∧ (n ≤ 6 ∨ 30 < n) ∧ n ≤ 40) = false := decide_eq_false (by omega)
          rw [e, decide_eq_true a3]; rfl
        · have e : decide (m ≤ 30 ∧ (n ≤ 6 ∨ 30 < n) ∧ n ≤ 40) = true := decide_eq_true (by omega)
          rw [e, decide_eq_false a3]; cases w <;> rfl
      · have e : decide (m ≤ 30 ∧ (n ≤ 6 ∨ 30 < n) ∧ n ≤ 40) = false := decide_eq_false (by omega)
        rw [e, decide_eq_false a2]; rfl
    · rw [decide_eq_false a1, cond_false]
      have e : decide (m ≤ 30 ∧ (n ≤ 6 ∨ 30 < n) ∧ n ≤ 40) = true := decide_eq_true (by omega)
      have a3 : ¬ 40 < n := by omega
      rw [e, decide_eq_false a3]; cases w <;> rfl
theorem con_l_fewForms : Con Try.prog id_l_fewForms sp_l_fewForms := mk_l_fewForms trivial fun x y hx h => ⟨LF, (F_l_fewForms_eq _ (wf_len hx.1) fun f hf => wf_len (hx.1.2 f hf).2).trans h⟩
end Go.Proofs.Ytcnhjofpmpipfaa
end

/- Made by program: plain forms of functions. -/
section
set_option linter.unusedVariables false
set_option maxRecDepth 100000
noncomputable section
namespace Go.Proofs.Ytcnhjofpmpipfaa
open Go Go.Sx Go.RowKit Go.Jx
def nm_p_keeps : Nat → Option Nm := fun k => none
def st_p_keeps : Nat → Bool := fun k => false
def hd_p_keeps : Nat → Bool := fun k => false
abbrev Rt_p_keeps : Type := Bool × Unit
def sml_p_keeps : List (Nat × Sm) := [(139, sp_p_leads)]
def hxl_p_keeps : List (Nat × Hx) := []
def cl_p_keeps (R : Type) (lf : Nat) : ClK R := icallK Try.prog ttT.get ftT.get (nm1 116 nm_p_keeps) (smL sml_p_keeps) (hxL hxl_p_keeps) lf 20 R
abbrev id_p_keeps : Nat := 116
def R_p_keeps_in (lf : Nat) (x1 : (List DRule)) (x2 : DCol) (x3 : DCol) : Option Rt_p_keeps := (cond (Bool.not (ieqI x2.2.1 (Int.ofNat 3))) (some (Bool.true, ())) (cond (keqS x2.2.2 (S.lit [65, 78, 89])) (some ((keqS x2.2.2 x3.2.2), ())) (cond (keqS x3.2.2 (S.lit [65, 78, 89])) (some ((keqS x2.2.2 x3.2.2), ())) (some ((Go.Proofs.Ytcnhjofpmpipfaa.S.leads x1 x2.2.2 x3.2.2), ())))))
theorem in_p_keeps (g : ElA [(.list cRule), cCol, cCol] → Option Rt_p_keeps) (J : Nat → List Nat → NRes → Option Rt_p_keeps) (lf : Nat) (x1 : (List DRule)) (x2 : DCol) (x3 : DCol) : icodeT Try.prog ttT.get nm_p_keeps fi116.nt (cl_p_keeps _ lf) lf st_p_keeps J fi116.body [] (argGo (argV [(.list cRule), cCol, cCol] (x1, x2, x3, ())) 0 .leaf) S0 [] (lastK ttT.get fi116 ⟨[(.list cRule), cCol, cCol], [(false, .bool)], g⟩) = R_p_keeps_in lf x1 x2 x3 := by kernel_rfl
theorem nd_p_keeps : (regs fi116.body).Nodup := by decide +kernel
theorem ok_p_keeps : okC nm_p_keeps st_p_keeps hd_p_keeps fi116.body none = true := by kernel_rfl
def A_p_keeps (g : ElA [(.list cRule), cCol, cCol] → Option Rt_p_keeps) (lf : Nat) : Nat → List Nat → NRes → Option Rt_p_keeps := atN Try.prog ttT.get nm_p_keeps fi116 ⟨[(.list cRule), cCol, cCol], [(false, .bool)], g⟩ (cl_p_keeps _ lf) lf hd_p_keeps
def F_p_keeps (lf : Nat) (x1 : (List DRule)) (x2 : DCol) (x3 : DCol) : Option Rt_p_keeps := R_p_keeps_in lf x1 x2 x3
theorem run_p_keeps (g : ElA [(.list cRule), cCol, cCol] → Option Rt_p_keeps) (lf : Nat) (x1 : (List DRule)) (x2 : DCol) (x3 : DCol) : icodeT Try.prog ttT.get nm_p_keeps fi116.nt (cl_p_keeps _ lf) lf st_p_keeps (A_p_keeps g lf) fi116.body [] (argGo (argV [(.list cRule), cCol, cCol] (x1, x2, x3, ())) 0 .leaf) S0 [] (lastK ttT.get fi116 ⟨[(.list cRule), cCol, cCol], [(false, .bool)], g⟩) = F_p_keeps lf x1 x2 x3 := by
    refine (in_p_keeps g (A_p_keeps g lf) lf x1 x2 x3).trans ?_
    rfl
theorem hxs_p_keeps : HxsOK Try.prog hxl_p_keeps := trivial
theorem mk_p_keeps {g : ElA [(.list cRule), cCol, cCol] → Option Rt_p_keeps} (hsm : SmOK Try.prog sml_p_keeps) (hg : ∀ (x : ElA [(.list cRule), cCol, cCol]) (y : Rt_p_keeps), WfA [(.list cRule), cCol, cCol] x → g x = some y → ∃ lf, F_p_keeps lf x.1 x.2.1 x.2.2.1 = some y) : Con Try.prog 116 ⟨[(.list cRule), cCol, cCol], [(false, .bool)], g⟩ :=
  conT (nmf := nm_p_keeps) (sml := sml_p_keeps) (hxl := hxl_p_keeps) (st := st_p_keeps) (hd := hd_p_keeps) 20 mixed ttOK ftOK hsm hxs_p_keeps cal116 rfl rfl (by kernel_rfl) (fun x => by kernel_rfl) nd_p_keeps ok_p_keeps fun x y hx hy => by
    obtain ⟨lf, h⟩ := hg x y hx hy
    exact ⟨lf, (run_p_keeps g lf x.1 x.2.1 x.2.2.1).trans h⟩
def nm_p_back : Nat → Option Nm := fun k => cond (Nat.beq k 5) (some ⟨[0, 2, 3, 8, 10, 29, 30, 31], [], [], [], [], 0, 0, false⟩) (none)
def st_p_back : Nat → Bool := fun k => cond (Nat.beq k 5) true (false)
def hd_p_back : Nat → Bool := fun k => cond (Nat.beq k 5) true (false)
abbrev Rt_p_back : Type := DRule × Bool × Unit
def sml_p_back : List (Nat × Sm) := [(95, sp_p_col), (116, sp_p_keeps)]
def hxl_p_back : List (Nat × Hx) := []
def cl_p_back (R : Type) (lf : Nat) : ClK R := icallK Try.prog ttT.get ftT.get (nm1 80 nm_p_back) (smL sml_p_back) (hxL hxl_p_back) lf 20 R
abbrev id_p_back : Nat := 80
def enc_p_back_5 (x1 : (List DRule)) (x2 : DRule) (x3 : (List DCol)) (x4 : (List DCol)) (p : Int × (List DGive)) : NRes := (NRes.mk (PT.node (some (IV.lst cRule x1)) (PT.node none (PT.node (some (IV.lst cCol x4)) (PT.node none (PT.node none (PT.node (some (IV.int Go.IntKind.i64 p.1)) PT.leaf PT.leaf) PT.leaf) PT.leaf) PT.leaf) (PT.node none PT.leaf (PT.node none PT.leaf (PT.node (some (IV.lst cGive x2.2.2)) PT.leaf PT.leaf)))) (PT.node (some (IV.lst cCol x3)) (PT.node none (PT.node (some (IV.ptr 0 0)) PT.leaf PT.leaf) PT.leaf) (PT.node none (PT.node (some (IV.ptr 1 0)) PT.leaf PT.leaf) (PT.node none PT.leaf (PT.node (some (IV.int Go.IntKind.i64 (Int.ofNat (List.length x2.2.2)))) PT.leaf PT.leaf))))) (IS.mk (PT.node (some (IObj.row (List.cons (IV.str (S.lit [])) (List.cons (IV.str (S.lit [])) (List.cons IV.nilsl []))))) (PT.node (some (IObj.row (List.cons (IV.str x2.2.1) (List.cons (IV.str x2.1) (List.cons (IV.arr 2) []))))) PT.leaf PT.leaf) (PT.node (some (IObj.arr cGive p.2)) PT.leaf PT.leaf)) 3) [] 0)
def R_p_back_in (lf : Nat) (x1 : (List DRule)) (x2 : DRule) (x3 : (List DCol)) (x4 : (List DCol)) (L5 : (Int × (List DGive)) → Option Rt_p_back) : Option Rt_p_back := (cond (iltI (Int.ofNat (List.length x3)) (Int.ofNat 0)) none (cond (Nat.ble (Nat.mul (Int.toNat (Int.ofNat (List.length x3))) 32) 140737488355328) (cond (Bool.not (ieqI (Int.ofNat (List.length x3)) (Int.ofNat (List.length x4)))) (some (((S.lit []), ((S.lit []), [])), (Bool.false, ()))) (L5 ((Int.ofNat 0), (S.rep (Int.ofNat (List.length x3)) ((S.lit []), ((Int.ofNat 0), (Int.ofNat 0))))))) none))
def R_p_back_5 (lf : Nat) (x1 : (List DRule)) (x2 : DRule) (x3 : (List DCol)) (x4 : (List DCol)) (L5 : (Int × (List DGive)) → Option Rt_p_back) (p : Int × (List DGive)) : Option Rt_p_back := (cond (iltI p.1 (Int.ofNat (List.length x2.2.2))) (match (jget x2.2.2 p.1) with | .none  => none | .some v0 => (cond (Bool.not (ieqI v0.2.1 (Int.ofNat 1))) (some (((S.lit []), ((S.lit []), [])), (Bool.false, ()))) (match (jget p.2 (Go.Proofs.Ytcnhjofpmpipfaa.S.col x3 v0.1)) with | .none  => none | .some v1 => (match (GetElem?.getElem? p.2 (Int.toNat (Go.Proofs.Ytcnhjofpmpipfaa.S.col x3 v0.1))) with | .none  => none | .some v2 => (cond (Bool.not (ieqI v2.2.1 (Int.ofNat 0))) (some (((S.lit []), ((S.lit []), [])), (Bool.false, ()))) (match (jget x3 (Go.Proofs.Ytcnhjofpmpipfaa.S.col x3 v0.1)) with | .none  => none | .some v3 => (match (jget x4 p.1) with | .none  => none | .some v4 => (cond (Bool.not (Go.Proofs.Ytcnhjofpmpipfaa.S.keeps x1 (v3.1, (v3.2.1, v3.2.2)) (v4.1, (v4.2.1, v4.2.2)))) (some (((S.lit []), ((S.lit []), [])), (Bool.false, ()))) (match (jget x4 p.1) with | .none  => none | .some v5 => (match (jget p.2 (Go.Proofs.Ytcnhjofpmpipfaa.S.col x3 v0.1)) with | .none  => none | .some v6 => (match (GetElem?.getElem? p.2 (Int.toNat (Go.Proofs.Ytcnhjofpmpipfaa.S.col x3 v0.1))) with | .none  => none | .some v7 => (L5 ((Go.IntKind.wrap Go.IntKind.i64 (Int.add p.1 (Int.ofNat 1))), (List.set p.2 (Int.toNat (Go.Proofs.Ytcnhjofpmpipfaa.S.col x3 v0.1)) (v5.1, ((Int.ofNat 1), (Int.ofNat 0))))))))))))))))) (some ((x2.2.1, (x2.1, p.2)), (Bool.true, ()))))
theorem in_p_back (g : ElA [(.list cRule), cRule, (.list cCol), (.list cCol)] → Option Rt_p_back) (J : Nat → List Nat → NRes → Option Rt_p_back) (lf : Nat) (x1 : (List DRule)) (x2 : DRule) (x3 : (List DCol)) (x4 : (List DCol)) : icodeT Try.prog ttT.get nm_p_back fi80.nt (cl_p_back _ lf) lf st_p_back J fi80.body [] (argGo (argV [(.list cRule), cRule, (.list cCol), (.list cCol)] (x1, x2, x3, x4, ())) 0 .leaf) S0 [] (lastK ttT.get fi80 ⟨[(.list cRule), cRule, (.list cCol), (.list cCol)], [(false, cRule), (false, .bool)], g⟩) = R_p_back_in lf x1 x2 x3 x4 (fun q => J 5 [lf] (enc_p_back_5 x1 x2 x3 x4 q)) := by kernel_rfl
theorem st_p_back_5 (g : ElA [(.list cRule), cRule, (.list cCol), (.list cCol)] → Option Rt_p_back) (J : Nat → List Nat → NRes → Option Rt_p_back) (lf : Nat) (x1 : (List DRule)) (x2 : DRule) (x3 : (List DCol)) (x4 : (List DCol)) (m1 : Nat) (p : Int × (List DGive)) : icodeFT Try.prog ttT.get nm_p_back fi80.nt (cl_p_back _ lf) lf st_p_back J 5 fi80.body [] [m1] (enc_p_back_5 x1 x2 x3 x4 p) (lastK ttT.get fi80 ⟨[(.list cRule), cRule, (.list cCol), (.list cCol)], [(false, cRule), (false, .bool)], g⟩) = R_p_back_5 lf x1 x2 x3 x4 (fun q => J 5 [m1] (enc_p_back_5 x1 x2 x3 x4 q)) p := by kernel_rfl
theorem nd_p_back : (regs fi80.body).Nodup := by decide +kernel
theorem ok_p_back : okC nm_p_back st_p_back hd_p_back fi80.body none = true := by kernel_rfl
def A_p_back (g : ElA [(.list cRule), cRule, (.list cCol), (.list cCol)] → Option Rt_p_back) (lf : Nat) : Nat → List Nat → NRes → Option Rt_p_back := atN Try.prog ttT.get nm_p_back fi80 ⟨[(.list cRule), cRule, (.list cCol), (.list cCol)], [(false, cRule), (false, .bool)], g⟩ (cl_p_back _ lf) lf hd_p_back
def G_p_back_5 (lf : Nat) (x1 : (List DRule)) (x2 : DRule) (x3 : (List DCol)) (x4 : (List DCol)) : Nat → (Int × (List DGive)) → Option Rt_p_back := rounds fun K p => R_p_back_5 lf x1 x2 x3 x4 K p
theorem at_p_back_5 (g : ElA [(.list cRule), cRule, (.list cCol), (.list cCol)] → Option Rt_p_back) (lf : Nat) (x1 : (List DRule)) (x2 : DRule) (x3 : (List DCol)) (x4 : (List DCol)) : ∀ (n : Nat) (p : Int × (List DGive)), A_p_back g lf 5 [n] (enc_p_back_5 x1 x2 x3 x4 p) = G_p_back_5 lf x1 x2 x3 x4 n p
  | 0, p => atN_zero 5 [0] rfl _
  | n + 1, p => by
    have ih := at_p_back_5 g lf x1 x2 x3 x4 n
    refine (atN_eq (icallK_eq 20 _) nd_p_back ok_p_back 5 [n + 1] [n] rfl _).trans ((st_p_back_5 g (A_p_back g lf) lf x1 x2 x3 x4 n p).trans ?_)
    rw [(show (fun q => A_p_back g lf 5 [n] (enc_p_back_5 x1 x2 x3 x4 q)) = (fun q => G_p_back_5 lf x1 x2 x3 x4 n q) from funext ih)]
    rfl
def F_p_back (lf : Nat) (x1 : (List DRule)) (x2 : DRule) (x3 : (List DCol)) (x4 : (List DCol)) : Option Rt_p_back := R_p_back_in lf x1 x2 x3 x4 (fun q => G_p_back_5 lf x1 x2 x3 x4 lf q)
theorem run_p_back (g : ElA [(.list cRule), cRule, (.list cCol), (.list cCol)] → Option Rt_p_back) (lf : Nat) (x1 : (List DRule)) (x2 : DRule) (x3 : (List DCol)) (x4 : (List DCol)) : icodeT Try.prog ttT.get nm_p_back fi80.nt (cl_p_back _ lf) lf st_p_back (A_p_back g lf) fi80.body [] (argGo (argV [(.list cRule), cRule, (.list cCol), (.list cCol)] (x1, x2, x3, x4, ())) 0 .leaf) S0 [] (lastK ttT.get fi80 ⟨[(.list cRule), cRule, (.list cCol), (.list cCol)], [(false, cRule), (false, .bool)], g⟩) = F_p_back lf x1 x2 x3 x4 := by
    refine (in_p_back g (A_p_back g lf) lf x1 x2 x3 x4).trans ?_
    rw [(show (fun q => A_p_back g lf 5 [lf] (enc_p_back_5 x1 x2 x3 x4 q)) = (fun q => G_p_back_5 lf x1 x2 x3 x4 lf q) from funext fun q => at_p_back_5 g lf x1 x2 x3 x4 lf q)]
    rfl
theorem hxs_p_back : HxsOK Try.prog hxl_p_back := trivial
theorem mk_p_back {g : ElA [(.list cRule), cRule, (.list cCol), (.list cCol)] → Option Rt_p_back} (hsm : SmOK Try.prog sml_p_back) (hg : ∀ (x : ElA [(.list cRule), cRule, (.list cCol), (.list cCol)]) (y : Rt_p_back), WfA [(.list cRule), cRule, (.list cCol), (.list cCol)] x → g x = some y → ∃ lf, F_p_back lf x.1 x.2.1 x.2.2.1 x.2.2.2.1 = some y) : Con Try.prog 80 ⟨[(.list cRule), cRule, (.list cCol), (.list cCol)], [(false, cRule), (false, .bool)], g⟩ :=
  conT (nmf := nm_p_back) (sml := sml_p_back) (hxl := hxl_p_back) (st := st_p_back) (hd := hd_p_back) 20 mixed ttOK ftOK hsm hxs_p_back cal80 rfl rfl (by kernel_rfl) (fun x => by kernel_rfl) nd_p_back ok_p_back fun x y hx hy => by
    obtain ⟨lf, h⟩ := hg x y hx hy
    exact ⟨lf, (run_p_back g lf x.1 x.2.1 x.2.2.1 x.2.2.2.1).trans h⟩
def nm_p_Back : Nat → Option Nm := fun k => cond (Nat.beq k 6) (some ⟨[0, 2, 10, 23, 24, 25], [(10, cRule)], [], [], [], 0, 0, false⟩) (none)
def st_p_Back : Nat → Bool := fun k => cond (Nat.beq k 6) true (false)
def hd_p_Back : Nat → Bool := fun k => cond (Nat.beq k 6) true (false)
abbrev Rt_p_Back : Type := (List DRule) × Bool × Int × Unit
def sml_p_Back : List (Nat × Sm) := [(29, sp_p_CheckRules), (80, sp_p_back), (52, sp_p_form)]
def hxl_p_Back : List (Nat × Hx) := [(114, idxHx cRule)]
def cl_p_Back (R : Type) (lf : Nat) : ClK R := icallK Try.prog ttT.get ftT.get (nm1 31 nm_p_Back) (smL sml_p_Back) (hxL hxl_p_Back) lf 20 R
abbrev id_p_Back : Nat := 31
def enc_p_Back_6 (x1 : (List DForm)) (x2 : (List DForm)) (x3 : (List DRule)) (p : Int × (List DRule)) : NRes := (NRes.mk (PT.node (some (IV.lst cForm x1)) (PT.node none (PT.node none (PT.node none PT.leaf (PT.node (some (IV.lst cForm x2)) PT.leaf PT.leaf)) PT.leaf) (PT.node none (PT.node none PT.leaf (PT.node (some (IV.int Go.IntKind.i64 p.1)) PT.leaf PT.leaf)) PT.leaf)) (PT.node (some (IV.lst cRule x3)) (PT.node none (PT.node none PT.leaf (PT.node (some (IV.int Go.IntKind.i64 (Int.ofNat (List.length x2)))) PT.leaf PT.leaf)) PT.leaf) (PT.node none (PT.node (some (IV.arr 0)) PT.leaf PT.leaf) PT.leaf))) (IS.mk (PT.node (some (IObj.arr cRule p.2)) PT.leaf PT.leaf) 1) [] 0)
def R_p_Back_in (lf : Nat) (x1 : (List DForm)) (x2 : (List DForm)) (x3 : (List DRule)) (L6 : (Int × (List DRule)) → Option Rt_p_Back) : Option Rt_p_Back := (cond (Bool.not (ieqI (Go.Proofs.Ytcnhjofpmpipfaa.S.checkRules x1 x2 x3) (Int.ofNat 0))) (some ([], (Bool.false, ((Go.Proofs.Ytcnhjofpmpipfaa.S.checkRules x1 x2 x3), ())))) (L6 ((Int.ofNat 0), [])))
def R_p_Back_6 (lf : Nat) (x1 : (List DForm)) (x2 : (List DForm)) (x3 : (List DRule)) (L6 : (Int × (List DRule)) → Option Rt_p_Back) (p : Int × (List DRule)) : Option Rt_p_Back := (cond (iltI p.1 (Int.ofNat (List.length x2))) (match (jget x2 p.1) with | .none  => none | .some v0 => (match (idxO (fun v1 => (some (keqS v1.2.1 v0.1))) x3 0) with | .none  => none | .some v2 => (cond (iltI v2 (Int.ofNat 0)) (some ([], (Bool.false, ((Int.ofNat 0), ())))) (match (jget x3 v2) with | .none  => none | .some v3 => (match (jget x3 v2) with | .none  => none | .some v4 => (match (jget x1 (Go.Proofs.Ytcnhjofpmpipfaa.S.form x1 v4.1)) with | .none  => none | .some v5 => (match (cond (Go.Proofs.Ytcnhjofpmpipfaa.S.backPre (v3.1, (v3.2.1, v3.2.2)) v5.2 v0.2) (some ((Go.Proofs.Ytcnhjofpmpipfaa.S.back x3 (v3.1, (v3.2.1, v3.2.2)) v5.2 v0.2).1, ((Go.Proofs.Ytcnhjofpmpipfaa.S.back x3 (v3.1, (v3.2.1, v3.2.2)) v5.2 v0.2).2, ()))) none) with | .none  => none | .some v6 => (cond (Bool.not v6.2.1) (some ([], (Bool.false, ((Int.ofNat 0), ())))) (cond (Nat.ble (Nat.mul (Nat.add (List.length p.2) 1) 56) 140737488355328) (L6 ((Go.IntKind.wrap Go.IntKind.i64 (Int.add p.1 (Int.ofNat 1))), (List.append p.2 (List.cons (v6.1.1, (v6.1.2.1, v6.1.2.2)) [])))) none))))))))) (cond (Bool.not (ieqI (Int.ofNat (List.length p.2)) (Int.ofNat (List.length x3)))) (some ([], (Bool.false, ((Int.ofNat 0), ())))) (some (p.2, (Bool.true, ((Int.ofNat 0), ()))))))
theorem in_p_Back (g : ElA [(.list cForm), (.list cForm), (.list cRule)] → Option Rt_p_Back) (J : Nat → List Nat → NRes → Option Rt_p_Back) (lf : Nat) (x1 : (List DForm)) (x2 : (List DForm)) (x3 : (List DRule)) : icodeT Try.prog ttT.get nm_p_Back fi31.nt (cl_p_Back _ lf) lf st_p_Back J fi31.body [] (argGo (argV [(.list cForm), (.list cForm), (.list cRule)] (x1, x2, x3, ())) 0 .leaf) S0 [] (lastK ttT.get fi31 ⟨[(.list cForm), (.list cForm), (.list cRule)], [(false, (.list cRule)), (false, .bool), (false, (.int .i64))], g⟩) = R_p_Back_in lf x1 x2 x3 (fun q => J 6 [lf] (enc_p_Back_6 x1 x2 x3 q)) := by kernel_rfl
theorem st_p_Back_6 (g : ElA [(.list cForm), (.list cForm), (.list cRule)] → Option Rt_p_Back) (J : Nat → List Nat → NRes → Option Rt_p_Back) (lf : Nat) (x1 : (List DForm)) (x2 : (List DForm)) (x3 : (List DRule)) (m1 : Nat) (p : Int × (List DRule)) : icodeFT Try.prog ttT.get nm_p_Back fi31.nt (cl_p_Back _ lf) lf st_p_Back J 6 fi31.body [] [m1] (enc_p_Back_6 x1 x2 x3 p) (lastK ttT.get fi31 ⟨[(.list cForm), (.list cForm), (.list cRule)], [(false, (.list cRule)), (false, .bool), (false, (.int .i64))], g⟩) = R_p_Back_6 lf x1 x2 x3 (fun q => J 6 [m1] (enc_p_Back_6 x1 x2 x3 q)) p := by kernel_rfl
theorem nd_p_Back : (regs fi31.body).Nodup := by decide +kernel
theorem ok_p_Back : okC nm_p_Back st_p_Back hd_p_Back fi31.body none = true := by kernel_rfl
def A_p_Back (g : ElA [(.list cForm), (.list cForm), (.list cRule)] → Option Rt_p_Back) (lf : Nat) : Nat → List Nat → NRes → Option Rt_p_Back := atN Try.prog ttT.get nm_p_Back fi31 ⟨[(.list cForm), (.list cForm), (.list cRule)], [(false, (.list cRule)), (false, .bool), (false, (.int .i64))], g⟩ (cl_p_Back _ lf) lf hd_p_Back
def G_p_Back_6 (lf : Nat) (x1 : (List DForm)) (x2 : (List DForm)) (x3 : (List DRule)) : Nat → (Int × (List DRule)) → Option Rt_p_Back := rounds fun K p => R_p_Back_6 lf x1 x2 x3 K p
theorem at_p_Back_6 (g : ElA [(.list cForm), (.list cForm), (.list cRule)] → Option Rt_p_Back) (lf : Nat) (x1 : (List DForm)) (x2 : (List DForm)) (x3 : (List DRule)) : ∀ (n : Nat) (p : Int × (List DRule)), A_p_Back g lf 6 [n] (enc_p_Back_6 x1 x2 x3 p) = G_p_Back_6 lf x1 x2 x3 n p
  | 0, p => atN_zero 6 [0] rfl _
  | n + 1, p => by
    have ih := at_p_Back_6 g lf x1 x2 x3 n
    refine (atN_eq (icallK_eq 20 _) nd_p_Back ok_p_Back 6 [n + 1] [n] rfl _).trans ((st_p_Back_6 g (A_p_Back g lf) lf x1 x2 x3 n p).trans ?_)
    rw [(show (fun q => A_p_Back g lf 6 [n] (enc_p_Back_6 x1 x2 x3 q)) = (fun q => G_p_Back_6 lf x1 x2 x3 n q) from funext ih)]
    rfl
def F_p_Back (lf : Nat) (x1 : (List DForm)) (x2 : (List DForm)) (x3 : (List DRule)) : Option Rt_p_Back := R_p_Back_in lf x1 x2 x3 (fun q => G_p_Back_6 lf x1 x2 x3 lf q)
theorem run_p_Back (g : ElA [(.list cForm), (.list cForm), (.list cRule)] → Option Rt_p_Back) (lf : Nat) (x1 : (List DForm)) (x2 : (List DForm)) (x3 : (List DRule)) : icodeT Try.prog ttT.get nm_p_Back fi31.nt (cl_p_Back _ lf) lf st_p_Back (A_p_Back g lf) fi31.body [] (argGo (argV [(.list cForm), (.list cForm), (.list cRule)] (x1, x2, x3, ())) 0 .leaf) S0 [] (lastK ttT.get fi31 ⟨[(.list cForm), (.list cForm), (.list cRule)], [(false, (.list cRule)), (false, .bool), (false, (.int .i64))], g⟩) = F_p_Back lf x1 x2 x3 := by
    refine (in_p_Back g (A_p_Back g lf) lf x1 x2 x3).trans ?_
    rw [(show (fun q => A_p_Back g lf 6 [lf] (enc_p_Back_6 x1 x2 x3 q)) = (fun q => G_p_Back_6 lf x1 x2 x3 lf q) from funext fun q => at_p_Back_6 g lf x1 x2 x3 lf q)]
    rfl
theorem hxs_p_Back : HxsOK Try.prog hxl_p_Back := ⟨ixO114, trivial⟩
theorem mk_p_Back {g : ElA [(.list cForm), (.list cForm), (.list cRule)] → Option Rt_p_Back} (hsm : SmOK Try.prog sml_p_Back) (hg : ∀ (x : ElA [(.list cForm), (.list cForm), (.list cRule)]) (y : Rt_p_Back), WfA [(.list cForm), (.list cForm), (.list cRule)] x → g x = some y → ∃ lf, F_p_Back lf x.1 x.2.1 x.2.2.1 = some y) : Con Try.prog 31 ⟨[(.list cForm), (.list cForm), (.list cRule)], [(false, (.list cRule)), (false, .bool), (false, (.int .i64))], g⟩ :=
  conT (nmf := nm_p_Back) (sml := sml_p_Back) (hxl := hxl_p_Back) (st := st_p_Back) (hd := hd_p_Back) 20 mixed ttOK ftOK hsm hxs_p_Back cal31 rfl rfl (by kernel_rfl) (fun x => by kernel_rfl) nd_p_Back ok_p_Back fun x y hx hy => by
    obtain ⟨lf, h⟩ := hg x y hx hy
    exact ⟨lf, (run_p_Back g lf x.1 x.2.1 x.2.2.1).trans h⟩
end Go.Proofs.Ytcnhjofpmpipfaa

end
end

/- What right classes and right rules are; plain laws about them. -/
section
set_option linter.unusedVariables false
set_option maxRecDepth 100000
namespace Go.Proofs.Ytcnhjofpmpipfaa
open Go Go.Sx Go.RowKit Go.Jx
structure ColsOK (cs : List DCol) : Prop where
  len : cs.length ≤ 30
  small : ∀ c ∈ cs, S.small c.1 = true
  one : ∀ k (h : k < cs.length), S.col (cs.take k) cs[k].1 < 0
  kind : ∀ c ∈ cs, 1 ≤ c.2.1 ∧ c.2.1 ≤ 3
  bare : ∀ c ∈ cs, ¬ c.2.1 = 3 → c.2.2 = S.lit []
structure FormsOK (l : List DForm) : Prop where
  len : l.length ≤ 24
  cls : ∀ f ∈ l, S.class_ f.1 = true
  one : ∀ k (h : k < l.length), S.form (l.take k) l[k].1 < 0
  cols : ∀ f ∈ l, ColsOK f.2
  ref : ∀ f ∈ l, ∀ c ∈ f.2, c.2.1 = 3 → c.2.2 = S.ANY ∨ 0 ≤ S.form l c.2.2
theorem lw_class_ne_any {s : ByteArray} (h : S.class_ s = true) : ¬ s = S.ANY := by
  intro e
  rw [e] at h
  exact absurd h (by decide +kernel)
theorem drop_facts {α : Type} {l : List α} {k : Nat} {r : α} {rs : List α} (hd : l.drop k = r :: rs) : ∃ h : k < l.length, l[k] = r ∧ l.drop (k + 1) = rs := by
  have hk : k < l.length := by
    rcases Nat.lt_or_ge k l.length with h | h
    · exact h
    · rw [List.drop_eq_nil_of_le h] at hd; cases hd
  rw [List.drop_eq_getElem_cons hk] at hd
  exact ⟨hk, (List.cons.inj hd).1, (List.cons.inj hd).2⟩
theorem lw_ccGo (l : List DCol) : ∀ (cs : List DCol) (k : Nat), l.drop k = cs → S.ccGo l k cs = 0 → ∀ j (h : j < l.length), k ≤ j → S.small l[j].1 = true ∧ S.col (l.take j) l[j].1 < 0 ∧ S.within l[j].2.1 1 3 = true ∧ (¬ l[j].2.1 = 3 → l[j].2.2 = S.lit [])
  | [], k, hd, _ => fun j hj hk => by
    have : l.length ≤ k := by simpa using hd
    omega
  | c :: r, k, hd, h => by
    obtain ⟨hk, e1, e2⟩ := drop_facts hd
    rw [S.ccGo] at h
    cases h1 : S.small c.1 with
    | false => rw [if_pos h1] at h; exact absurd h (by decide)
    | true =>
    rw [if_neg (by simp [h1])] at h
    by_cases h2 : ¬ S.col (l.take k) c.1 < 0
    · rw [if_pos h2] at h; exact absurd h (by decide)
    rw [if_neg h2] at h
    cases h3 : S.within c.2.1 1 3 with
    | false => rw [if_pos h3] at h; exact absurd h (by decide)
    | true =>
    rw [if_neg (by simp [h3])] at h
    by_cases h4 : ¬ c.2.1 = 3 ∧ ¬ c.2.2 = S.lit []
    · rw [if_pos h4] at h; exact absurd h (by decide)
    rw [if_neg h4] at h
    intro j hj hkj
    by_cases e : j = k
    · subst e
      rw [e1]
      exact ⟨h1, Decidable.not_not.1 h2, h3, fun hn => Decidable.not_not.1 fun hh => h4 ⟨hn, hh⟩⟩
    · exact lw_ccGo l r (k + 1) e2 h j hj (by omega)
theorem colsOK {l : List DCol} (h : S.checkCols l = 0) : ColsOK l := by
  unfold S.checkCols at h
  by_cases h30 : 30 < l.length
  · rw [if_pos h30] at h; exact absurd h (by decide)
  rw [if_neg h30] at h
  have key := lw_ccGo l l 0 rfl h
  refine ⟨by omega, fun c hc => ?_, fun k hk => (key k hk (Nat.zero_le _)).2.1, fun c hc => ?_, fun c hc => ?_⟩
  all_goals
    obtain ⟨k, hk, rfl⟩ := List.mem_iff_getElem.1 hc
  · exact (key k hk (Nat.zero_le _)).1
  · simpa only [S.within, Bool.and_eq_true, decide_eq_true_eq] using (key k hk (Nat.zero_le _)).2.2.1
  · exact (key k hk (Nat.zero_le _)).2.2.2
theorem lw_cfGo2 (l : List DForm) : ∀ fs : List DForm, S.cfGo2 l fs = 0 → ∀ f ∈ fs, S.cfIn l f.2 = true
  | [], _ => fun f hf => absurd hf (by simp)
  | f :: r, h => by
    rw [S.cfGo2] at h
    by_cases hc : S.cfIn l f.2 = true
    · rw [if_pos hc] at h
      intro x hx
      rcases List.mem_cons.1 hx with e | e
      · rw [e]; exact hc
      · exact lw_cfGo2 l r h x e
    · rw [if_neg hc] at h; exact absurd h (by decide)
theorem lw_first3 {a b c : Int} (h : S.first [a, b, c] = 0) : a = 0 ∧ b = 0 ∧ c = 0 := by
  simp only [S.first] at h
  by_cases ha : a = 0
  · rw [if_pos ha] at h
    by_cases hb : b = 0
    · rw [if_pos hb] at h
      by_cases hc : c = 0
      · exact ⟨ha, hb, hc⟩
      · rw [if_neg hc] at h; exact absurd h hc
    · rw [if_neg hb] at h; exact absurd h hb
  · rw [if_neg ha] at h; exact absurd h ha
theorem lw_first2 {a b : Int} (h : S.first [a, b] = 0) : a = 0 ∧ b = 0 := by
  have := lw_first3 (c := 0) (a := a) (b := b) (by simp only [S.first] at h ⊢; simpa using h)
  exact ⟨this.1, this.2.1⟩
theorem lw_unless {x : Bool} {e : Int} (he : ¬ e = 0) (h : S.unlessE x e = 0) : x = true := by
  cases x with
  | true => rfl
  | false => exact absurd h he
theorem lw_cfGo (l : List DForm) : ∀ (fs : List DForm) (k : Nat), l.drop k = fs → S.cfGo l k fs = 0 → (∀ j (h : j < l.length), k ≤ j → S.class_ l[j].1 = true ∧ S.form (l.take j) l[j].1 < 0 ∧ S.checkCols l[j].2 = 0) ∧ S.cfGo2 l l = 0
  | [], k, hd, h => ⟨fun j hj hk => by
    have : l.length ≤ k := by simpa using hd
    omega, h⟩
  | f :: r, k, hd, h => by
    obtain ⟨hk, e1, e2⟩ := drop_facts hd
    rw [S.cfGo] at h
    by_cases he : S.first [S.unlessE (S.class_ f.1) 4, S.unlessE (decide (S.form (l.take k) f.1 < 0)) 6, S.checkCols f.2] = 0
    · rw [if_pos he] at h
      obtain ⟨q1, q2, q3⟩ := lw_first3 he
      have ih := lw_cfGo l r (k + 1) e2 h
      refine ⟨fun j hj hkj => ?_, ih.2⟩
      by_cases e : j = k
      · subst e; rw [e1]; exact ⟨lw_unless (by decide) q1, of_decide_eq_true (lw_unless (by decide) q2), q3⟩
      · exact ih.1 j hj (by omega)
    · rw [if_neg he] at h; exact absurd h he
theorem lw_cfIn (l : List DForm) : ∀ cs : List DCol, S.cfIn l cs = true → ∀ c ∈ cs, c.2.1 = 3 → c.2.2 = S.ANY ∨ 0 ≤ S.form l c.2.2
  | [], _ => fun c hc => absurd hc (by simp)
  | c :: r, h => by
    rw [S.cfIn] at h
    by_cases hc : c.2.1 = 3 ∧ ¬ c.2.2 = S.ANY ∧ S.form l c.2.2 < 0
    · rw [if_pos hc] at h; cases h
    · rw [if_neg hc] at h
      intro x hx h3
      rcases List.mem_cons.1 hx with e | e
      · rw [e] at h3 ⊢
        by_cases hA : c.2.2 = S.ANY
        · exact .inl hA
        · exact .inr (by have : ¬ S.form l c.2.2 < 0 := fun hh => hc ⟨h3, hA, hh⟩; omega)
      · exact lw_cfIn l r h x e h3
theorem formsOK {l : List DForm} (h : S.checkForms l = 0) : FormsOK l := by
  unfold S.checkForms at h
  by_cases h24 : 24 < l.length
  · rw [if_pos h24] at h; exact absurd h (by decide)
  rw [if_neg h24] at h
  obtain ⟨k1, k2⟩ := lw_cfGo l l 0 rfl h
  have k3 := lw_cfGo2 l l k2
  refine ⟨by omega, fun f hf => ?_, fun k hk => (k1 k hk (Nat.zero_le _)).2.1, fun f hf => ?_, fun f hf => lw_cfIn l f.2 (k3 f hf)⟩
  all_goals
    obtain ⟨k, hk, rfl⟩ := List.mem_iff_getElem.1 hf
  · exact (k1 k hk (Nat.zero_le _)).1
  · exact colsOK (k1 k hk (Nat.zero_le _)).2.2

/-! ### The first that is so -/
theorem idx_ge_zero {α : Type} {p : α → Bool} {l : List α} {x : α} (hx : x ∈ l) (hp : p x = true) : 0 ≤ S.idx p l :=
  (S.idx_nonneg p l).2 (List.any_eq_true.2 ⟨x, hx, hp⟩)
theorem idx_at_of {α : Type} {p : α → Bool} {l : List α} {k : Nat} (hk : k < l.length) (hp : p l[k] = true) (h0 : S.idx p (l.take k) < 0) : S.idx p l = k := by
  have hn := S.idx_neg h0
  rw [List.find?_eq_none] at hn
  have : l.findIdx? p = some k := by
    rw [List.findIdx?_eq_some_iff_getElem]
    refine ⟨hk, hp, fun j hj => ?_⟩
    have hj2 : j < (l.take k).length := by simp; omega
    have := hn ((l.take k)[j]) (List.getElem_mem hj2)
    rw [List.getElem_take] at this
    exact this
  unfold S.idx; rw [this]; rfl
theorem form_nat {l : List DForm} (h : FormsOK l) {k : Nat} (hk : k < l.length) : S.form l l[k].1 = k :=
  idx_at_of (p := fun f : DForm => keqS f.1 l[k].1) hk (decide_eq_true rfl) (h.one k hk)
theorem colsOf_get {l : List DForm} (h : FormsOK l) {k : Nat} (hk : k < l.length) : S.colsOf l l[k].1 = l[k].2 := by
  unfold S.colsOf S.at_
  rw [form_nat h hk]
  simp [hk]
theorem colsOf_mem {l : List DForm} (h : FormsOK l) {f : DForm} (hf : f ∈ l) : S.colsOf l f.1 = f.2 := by
  obtain ⟨k, hk, rfl⟩ := List.mem_iff_getElem.1 hf
  exact colsOf_get h hk
theorem colsOf_ok {l : List DForm} (h : FormsOK l) {n : ByteArray} (hn : 0 ≤ S.form l n) : ColsOK (S.colsOf l n) := by
  obtain ⟨f, _, f2, f3, f4⟩ := form_get hn
  rw [f2]; exact h.cols f f3
theorem col_nat {l : List DCol} (h : ColsOK l) {k : Nat} (hk : k < l.length) : S.col l l[k].1 = k :=
  idx_at_of (p := fun c : DCol => keqS c.1 l[k].1) hk (decide_eq_true rfl) (h.one k hk)
theorem at_nat {α : Type} (d : α) {l : List α} {k : Nat} (hk : k < l.length) : S.at_ d l (k : Int) = l[k] := by
  unfold S.at_; simp [hk]
theorem at_col {l : List DCol} {n : ByteArray} (h : 0 ≤ S.col l n) : ∃ (k : Nat) (hk : k < l.length), S.col l n = k ∧ S.at_ S.zCol l (S.col l n) = l[k] ∧ l[k].1 = n := by
  have h1 := col_lt l n h
  obtain ⟨c, c1, c2, c3, c4, c5, c6⟩ := S.idx_get (p := fun c : DCol => keqS c.1 n) (l := l) h
  have e : S.col l n = ((S.col l n).toNat : Int) := by omega
  have hk : (S.col l n).toNat < l.length := by omega
  refine ⟨(S.col l n).toNat, hk, e, ?_, ?_⟩
  · unfold S.at_; rw [List.getElem?_eq_getElem hk]; rfl
  · have c2' : l[(S.col l n).toNat]? = some c := c2
    rw [List.getElem?_eq_getElem hk] at c2'
    cases c2'
    exact of_decide_eq_true c3
theorem rule_of {l : List DRule} {c : ByteArray} {k : Nat} (hk : k < l.length) (hc : l[k].1 = c) (h1 : (S.ruleOf (l.take k) c).2 = false) : S.ruleOf l c = (l[k], true) := by
  unfold S.ruleOf at h1 ⊢
  have hf : l.find? (fun r : DRule => keqS r.1 c) = some l[k] := by
    rw [List.find?_eq_some_iff_getElem]
    refine ⟨decide_eq_true hc, k, hk, rfl, fun j hj => ?_⟩
    cases hq : (l.take k).find? (fun r : DRule => keqS r.1 c) with
    | some r => rw [hq] at h1; cases h1
    | none =>
      rw [List.find?_eq_none] at hq
      have hj2 : j < (l.take k).length := by simp; omega
      have := hq ((l.take k)[j]) (List.getElem_mem hj2)
      rw [List.getElem_take] at this
      simpa using this
  rw [hf]
/-! ### Gives -/
/-- A right Give, spelt out. -/
structure GiveOK (l : List DRule) (g : DGive) (cols : List DCol) (b : DCol) : Prop where
  how : 1 ≤ g.2.1 ∧ g.2.1 ≤ 7
  src : g.2.1 ≤ 5 → 0 ≤ S.col cols g.1
  bare : 6 ≤ g.2.1 → g.1 = S.lit []
  big : -1099511627776 ≤ g.2.2 ∧ g.2.2 ≤ 1099511627776
  nought : ¬ g.2.1 = 4 → ¬ g.2.1 = 6 → g.2.2 = 0
  h1 : g.2.1 = 1 → (S.at_ S.zCol cols (S.col cols g.1)).2.1 = b.2.1 ∧ (b.2.1 = 3 → S.leads l (S.at_ S.zCol cols (S.col cols g.1)).2.2 b.2.2 = true)
  h2 : g.2.1 = 2 → (S.at_ S.zCol cols (S.col cols g.1)).2.1 = 2 ∧ b.2.1 = 1
  h3 : g.2.1 = 3 → (S.at_ S.zCol cols (S.col cols g.1)).2.1 = 1 ∧ b.2.1 = 2
  h4 : g.2.1 = 4 → (S.at_ S.zCol cols (S.col cols g.1)).2.1 = 1 ∧ b.2.1 = 1
  h5 : g.2.1 = 5 → (S.at_ S.zCol cols (S.col cols g.1)).2.1 = 3 ∧ b.2.1 = 3 ∧ S.leads l (S.at_ S.zCol cols (S.col cols g.1)).2.2 b.2.2 = true
  h6 : g.2.1 = 6 → b.2.1 = 1 ∨ (b.2.1 = 2 ∧ 0 ≤ g.2.2 ∧ g.2.2 ≤ 1)
  h7 : g.2.1 = 7 → b.2.1 = 3
theorem give_iff (l : List DRule) (g : DGive) (cols : List DCol) (b : DCol) : S.give l g cols b = 0 ↔ GiveOK l g cols b := by
  obtain ⟨gf, gh, gn⟩ := g
  have hw : ∀ n lo hi : Int, S.within n lo hi = true ↔ lo ≤ n ∧ n ≤ hi := fun n lo hi => by simp [S.within]
  have hwf : ∀ n lo hi : Int, S.within n lo hi = false ↔ ¬ (lo ≤ n ∧ n ≤ hi) := fun n lo hi => by rw [← hw]; simp
  constructor
  · intro h
    unfold S.give at h
    by_cases q1 : S.within gh 1 5 = true ∧ S.col cols gf < 0
    · rw [if_pos q1] at h; exact absurd h (by decide)
    rw [if_neg q1] at h
    split at h
    · exact absurd h (by decide)
    rename_i q2
    simp only [not_or] at q2
    obtain ⟨q2, q3, q4, q5⟩ := q2
    simp only [hw, hwf, Decidable.not_not, S.most] at q1 q2 q3 q4 q5
    unfold S.unlessE at h
    simp only [hw] at h
    generalize hA : (if 1 ≤ gh ∧ gh ≤ 5 then S.at_ S.zCol cols (S.col cols gf) else S.zCol) = a at h
    cases hf : S.fits l (gf, gh, gn) a b with
    | false => rw [hf] at h; exact absurd h (by decide)
    | true =>
    unfold S.fits at hf
    simp only at hf
    have hsrc : gh ≤ 5 → a = S.at_ S.zCol cols (S.col cols gf) := fun h => by rw [← hA, if_pos ⟨q2.1, h⟩]
    have q4' : -1099511627776 ≤ gn ∧ gn ≤ 1099511627776 := by split at q4 <;> omega
    refine ⟨q2, fun h5 => by simp only at h5 ⊢; by_cases hn : S.col cols gf < 0; exact absurd ⟨⟨q2.1, h5⟩, hn⟩ q1; omega, fun h6 => ?_, q4', fun h4 h6 => ?_, fun e => ?_, fun e => ?_, fun e => ?_, fun e => ?_, fun e => ?_, fun e => ?_, fun e => ?_⟩
    · simp only at h6 ⊢
      exact Decidable.not_not.1 fun hh => q3 ⟨by omega, hh⟩
    · simp only at h4 h6 ⊢
      rw [if_neg (by omega)] at q4; omega
    all_goals
      simp only at e ⊢
      subst e
    · rw [← hsrc (by omega)]
      simp only [if_true, Bool.and_eq_true, decide_eq_true_eq, Bool.or_eq_true] at hf
      refine ⟨hf.1, fun h3 => ?_⟩
      rcases hf.2 with hh | hh
      · exact absurd (hf.1.trans h3) hh
      · exact hh
    · rw [← hsrc (by omega)]
      simpa using hf
    · rw [← hsrc (by omega)]
      simpa using hf
    · rw [← hsrc (by omega)]
      simpa using hf
    · rw [← hsrc (by omega)]
      simpa using hf
    · simp only [show ¬ (6 : Int) = 1 from by decide, show ¬ (6 : Int) = 2 from by decide, show ¬ (6 : Int) = 3 from by decide, show ¬ (6 : Int) = 4 from by decide, show ¬ (6 : Int) = 5 from by decide, if_false, if_true, Bool.or_eq_true, Bool.and_eq_true, decide_eq_true_eq, hw] at hf
      exact hf
    · simpa using hf
  · intro h
    have e1 := h.how
    have e2 := h.src
    have e3 := h.bare
    have e4 := h.big
    have e5 := h.nought
    simp only at e1 e2 e3 e4 e5
    unfold S.give
    simp only [hw, hwf]
    rw [if_neg (fun hh => by have := e2 hh.1.2; omega)]
    rw [if_neg ?_]
    · have hf : S.fits l (gf, gh, gn) (if 1 ≤ gh ∧ gh ≤ 5 then S.at_ S.zCol cols (S.col cols gf) else S.zCol) b = true := by
        unfold S.fits
        simp only
        have h1 := h.h1; have h2 := h.h2; have h3 := h.h3; have h4 := h.h4; have h5 := h.h5; have h6 := h.h6; have h7 := h.h7
        simp only at h1 h2 h3 h4 h5 h6 h7
        have hc : gh = 1 ∨ gh = 2 ∨ gh = 3 ∨ gh = 4 ∨ gh = 5 ∨ gh = 6 ∨ gh = 7 := by omega
        rcases hc with e | e | e | e | e | e | e
        · rw [if_pos e, if_pos (by omega)]
          obtain ⟨k1, k2⟩ := h1 e
          rw [decide_eq_true k1, Bool.true_and, k1]
          by_cases hb : b.2.1 = 3
          · rw [k2 hb, Bool.or_true]
          · rw [decide_eq_true hb, Bool.true_or]
        · subst e; obtain ⟨k1, k2⟩ := h2 rfl; simp [k1, k2]
        · subst e; obtain ⟨k1, k2⟩ := h3 rfl; simp [k1, k2]
        · subst e; obtain ⟨k1, k2⟩ := h4 rfl; simp [k1, k2]
        · subst e; obtain ⟨k1, k2, k3⟩ := h5 rfl; simp [k1, k2, k3]
        · subst e
          rcases h6 rfl with k | ⟨k, k'⟩
          · simp [k]
          · simp [k, hw, k']
        · subst e; simp [h7 rfl]
      rw [hf]; rfl
    · rintro (hh | ⟨hh, hh2⟩ | hh | ⟨hh, hh2, hh3⟩)
      · exact hh e1
      · exact hh2 (e3 (by omega))
      · apply hh
        unfold S.most
        simp only
        by_cases h4 : gh = 4
        · rw [if_pos (.inl h4)]; exact e4
        by_cases h6 : gh = 6
        · rw [if_pos (.inr h6)]; exact e4
        · rw [if_neg (by omega), e5 h4 h6]; omega
      · rcases h.h6 hh with k | ⟨_, k⟩
        · omega
        · exact hh3 k
end Go.Proofs.Ytcnhjofpmpipfaa
end

/- The contracts of pack's undoing of rules. -/
section
set_option linter.unusedVariables false
set_option maxRecDepth 100000
namespace Go.Proofs.Ytcnhjofpmpipfaa
open Go Go.Sx Go.RowKit Go.Jx
theorem F_p_keeps_eq (lf : Nat) (l : List DRule) (a b : DCol) : F_p_keeps lf l a b = some (S.keeps l a b, ()) := by
  simp only [F_p_keeps, R_p_keeps_in, S.keeps, ieqI_eq, oL]
  have ea : S.lit [65, 78, 89] = S.ANY := rfl
  rw [ea]
  by_cases h3 : a.2.1 = 3
  · by_cases ha : a.2.2 = S.ANY
    · simp [h3, ha, keqS]
    · by_cases hb : b.2.2 = S.ANY
      · simp [h3, ha, hb, keqS]
      · simp [h3, ha, hb, keqS]
  · simp [h3]
theorem con_p_keeps : Con Try.prog id_p_keeps sp_p_keeps := mk_p_keeps ⟨con_p_leads, trivial⟩ fun x y _ h => ⟨0, (F_p_keeps_eq _ _ _ _).trans h⟩
theorem F_p_back_eq (l : List DRule) (r : DRule) (was now : List DCol) (hw : was.length * 40 ≤ 140737488355328) (hr : r.2.2.length < LF) (hp : S.backPre r was now = true) : F_p_back LF l r was now = some ((S.back l r was now).1, (S.back l r was now).2, ()) := by
  unfold S.backPre at hp
  rw [Bool.and_eq_true] at hp
  obtain ⟨hlen, hp⟩ := hp
  have hlen := of_decide_eq_true hlen
  rw [List.all_eq_true] at hp
  have h0 : iltI (Int.ofNat was.length) (Int.ofNat 0) = false := by rw [iltI_eq]; simp
  have hb : Nat.ble (Nat.mul (Int.toNat (Int.ofNat was.length)) 32) 140737488355328 = true := Nat.ble_eq_true_of_le (by show was.length * 32 ≤ _; omega)
  have fin : ∀ o : Option (List DGive), (match o with | none => some (S.zRule, false, ()) | some gs => some ((r.2.1, r.1, gs), true, ())) =
      some ((match o with | none => (S.zRule, false) | some gs => ((r.2.1, r.1, gs), true) : DRule × Bool).1, (match o with | none => (S.zRule, false) | some gs => ((r.2.1, r.1, gs), true) : DRule × Bool).2, ()) := by
    intro o; cases o <;> rfl
  simp only [F_p_back, R_p_back_in, h0, hb, cond_false, cond_true, ieq_nat, S.back]
  by_cases he : was.length = now.length
  case neg => rw [decide_eq_false he, Bool.not_false, cond_true, if_pos he]; rfl
  rw [decide_eq_true he, Bool.not_true, cond_false, if_neg (by simpa using he)]
  refine Eq.trans ?_ (fin _)
  refine range0 (σ := List DGive) (R := Rt_p_back) r.2.2 (fun k s => (k, s)) (fun _ s => s.length = was.length) (fun rest k s => match S.bkGo l was now rest k s with | none => some (S.zRule, false, ()) | some gs => some ((r.2.1, r.1, gs), true, ())) hr (fun K s hI => ?_) (fun K k g rest s hI rr h => ?_) _ (by unfold S.rep; simp)
  · simp only [R_p_back_5, ilt_self, cond_false, S.bkGo]
  · rw [S.bkGo]
    simp only [R_p_back_5, rr.ilt, rr.get, cond_true]
    by_cases h1 : g.2.1 = 1
    case neg => rw [ieqI_eq, decide_eq_false (by exact h1), Bool.not_false, cond_true, if_pos h1]; rfl
    rw [ieqI_eq, decide_eq_true (by exact h1), Bool.not_true, cond_false, if_neg (by simpa using h1)]
    have hc := of_decide_eq_true (hp g rr.mem) h1
    have hcl := col_lt was g.1 hc
    obtain ⟨v, e1, e2, e3⟩ := jget_of (l := s) hc (by rw [hI]; exact hcl)
    obtain ⟨c, c1, c2, c3⟩ := jget_of (l := was) hc hcl
    have hk : k < now.length := by have := rr.lt; omega
    have d1 : jget now (Int.ofNat k) = some now[k] := by rw [jget_nat]; exact List.getElem?_eq_getElem hk
    have a1 : S.at_ S.zGive s (S.col was g.1) = v := by unfold S.at_; rw [e2]; rfl
    have a2 : S.at_ S.zCol was (S.col was g.1) = c := by unfold S.at_; rw [c2]; rfl
    have a3 : S.at_ S.zCol now (k : Int) = now[k] := by unfold S.at_; simp [hk]
    simp only [e1, e2, c1, d1, a1, a2, a3, Prod.eta]
    by_cases hv : v.2.1 = 0
    case neg => rw [ieqI_eq, decide_eq_false (by exact hv), Bool.not_false, cond_true, if_pos hv]; rfl
    rw [ieqI_eq, decide_eq_true (by exact hv), Bool.not_true, cond_false, if_neg (by simpa using hv)]
    cases hkp : S.keeps l c now[k] with
    | false => rfl
    | true =>
      rw [Bool.not_true, cond_false, if_neg (by simp), rr.next]
      exact h _ (by simp [hI])
theorem con_p_back : Con Try.prog id_p_back sp_p_back := mk_p_back ⟨con_p_col, con_p_keeps, trivial⟩ fun x y hx h => ⟨LF, by
  have h : cond (S.backPre x.2.1 x.2.2.1 x.2.2.2.1) (some ((S.back x.1 x.2.1 x.2.2.1 x.2.2.2.1).1, (S.back x.1 x.2.1 x.2.2.1 x.2.2.2.1).2, ())) none = some y := h
  cases hr : S.backPre x.2.1 x.2.2.1 x.2.2.2.1 with
  | false => rw [hr] at h; cases h
  | true => rw [hr] at h; exact (F_p_back_eq _ _ _ _ hx.2.2.1.1 (wf_len hx.2.1.2.2) hr).trans h⟩
theorem back_pre {a b : List DForm} {l : List DRule} (hR : RulesOK a b l) {r : DRule} (hr : r ∈ l) : S.backPre r (S.colsOf a r.1) (S.colsOf b r.2.1) = true := by
  unfold S.backPre
  rw [Bool.and_eq_true]
  refine ⟨decide_eq_true (Nat.le_of_eq (hR.glen r hr)), ?_⟩
  rw [List.all_eq_true]
  intro g hg
  refine decide_eq_true fun h1 => ?_
  obtain ⟨k, hk, rfl⟩ := List.mem_iff_getElem.1 hg
  have hgk := hR.gok r hr k hk (by rw [← hR.glen r hr]; exact hk)
  exact (give_pre hgk).2 (by rw [h1]; rfl)
theorem F_p_Back_eq (a b : List DForm) (l : List DRule) (hb : b.length < LF) : F_p_Back LF a b l = some ((S.Back a b l).1, (S.Back a b l).2.1, (S.Back a b l).2.2, ()) := by
  simp only [F_p_Back, R_p_Back_in, S.Back, ieqI_eq, oL]
  by_cases h0 : S.checkRules a b l = 0
  case neg => rw [decide_eq_false h0, Bool.not_false, cond_true, if_pos h0]
  rw [decide_eq_true h0, Bool.not_true, cond_false, if_neg (by simpa using h0)]
  have h00 : S.checkRules0 a b l = 0 := by
    unfold S.checkRules at h0
    split at h0
    · exact h0
    · contradiction
  have hR := (rulesOK_iff a b l).1 h00
  have hff : S.first [S.checkForms a, S.checkForms b] = 0 := by
    unfold S.checkRules at h0
    by_cases hf : S.first [S.checkForms a, S.checkForms b] = 0
    · exact hf
    · rw [if_neg hf] at h0; exact absurd h0 hf
  have hB := formsOK (lw_first2 hff).2
  have h24 := hB.len
  have hfirst : ∀ f ∈ b, S.colsOf b f.1 = f.2 := fun f hf => colsOf_mem hB hf
  have fin : ∀ o : Option (List DRule), (match o with | none => some (([] : List DRule), false, (0 : Int), ()) | some out => if ¬ out.length = l.length then some ([], false, 0, ()) else some (out, true, 0, ())) =
      some ((match o with | none => ([], false, 0) | some out => if ¬ out.length = l.length then ([], false, 0) else (out, true, 0) : List DRule × Bool × Int).1, (match o with | none => ([], false, 0) | some out => if ¬ out.length = l.length then ([], false, 0) else (out, true, 0) : List DRule × Bool × Int).2.1,
        (match o with | none => ([], false, 0) | some out => if ¬ out.length = l.length then ([], false, 0) else (out, true, 0) : List DRule × Bool × Int).2.2, ()) := by
    intro o
    cases o with
    | none => rfl
    | some out =>
      by_cases h : out.length = l.length
      · simp only [if_neg (show ¬ ¬ out.length = l.length from fun hh => hh h)]
      · simp only [if_pos h]
  refine Eq.trans ?_ (fin _)
  refine range0 (σ := List DRule) (R := Rt_p_Back) b (fun k s => (k, s)) (fun k s => s.length = k) (fun rest k s => match S.bkAll a l rest s with | none => some (([] : List DRule), false, (0 : Int), ()) | some out => if ¬ out.length = l.length then some ([], false, 0, ()) else some (out, true, 0, ())) hb (fun K s hI => ?_) (fun K k f rest s hI r h => ?_) [] rfl
  · simp only [R_p_Back_6, ilt_self, cond_false, S.bkAll, ieq_nat]
    by_cases he : s.length = l.length
    · rw [decide_eq_true he, Bool.not_true, cond_false, if_neg (by simpa using he)]; rfl
    · rw [decide_eq_false he, Bool.not_false, cond_true, if_pos he]; rfl
  · rw [S.bkAll]
    simp only [R_p_Back_6, r.ilt, r.get, cond_true]
    rw [idxO_idx (l := l) (fun q : DRule => keqS q.2.1 f.1) fun x _ => rfl]
    simp only [iltI_eq]
    by_cases hi : S.idx (fun q : DRule => keqS q.2.1 f.1) l < 0
    · rw [decide_eq_true (by exact hi), cond_true, if_pos hi]; rfl
    rw [decide_eq_false (by exact hi), cond_false, if_neg hi]
    obtain ⟨q, q1, q2, q3, q4, _, _⟩ := S.idx_get (p := fun q : DRule => keqS q.2.1 f.1) (l := l) (by omega)
    have q3 : q.2.1 = f.1 := of_decide_eq_true q3
    have e : S.at_ S.zRule l (S.idx (fun q : DRule => keqS q.2.1 f.1) l) = q := by unfold S.at_; rw [q2]; rfl
    obtain ⟨fa, a1, a2, a3, a4⟩ := form_get (hR.has q q4).1
    have hpre := back_pre hR q4
    rw [q3, hfirst f r.mem, a2] at hpre
    have hbl : Nat.ble (Nat.mul (Nat.add s.length 1) 56) 140737488355328 = true := ble_mul (by have := r.lt; rw [hI]; omega)
    simp only [q1, e, a1, a2, Prod.eta, hpre, cond_true, hbl]
    cases hk : (S.back l q fa.2 f.2).2 with
    | false => rfl
    | true =>
      rw [Bool.not_true, cond_false, r.next, if_pos rfl]
      exact h _ (by simp [hI])
theorem con_p_Back : Con Try.prog id_p_Back sp_p_Back := mk_p_Back ⟨con_p_CheckRules, con_p_back, con_p_form, trivial⟩ fun x y hx h => ⟨LF, (F_p_Back_eq _ _ _ (wf_len hx.2.1)).trans h⟩
end Go.Proofs.Ytcnhjofpmpipfaa
end

/- Converting graphs, object by object; what is converted is right again. -/
section
set_option linter.unusedVariables false
set_option maxRecDepth 100000
namespace Go.Proofs.Ytcnhjofpmpipfaa
open Go Go.Sx Go.RowKit Go.Jx
/-- The values of an object. -/
def cvRow (ca : List DCol) (vs : List DVal) : List DGive → List DCol → Option (List DVal)
  | g :: gs, c :: cs => if (S.made g ca vs c).2 = true then (cvRow ca vs gs cs).map ((S.made g ca vs c).1 :: ·) else none
  | _, _ => some []
theorem cvIn_row (ca : List DCol) (vs : List DVal) : ∀ (gs : List DGive) (cs : List DCol) (acc : List DVal),
    (∀ ws, cvRow ca vs gs cs = some ws → S.cvIn ca vs gs cs acc = (some (acc ++ ws), S.lit [])) ∧ (cvRow ca vs gs cs = none → ∃ c ∈ cs, S.cvIn ca vs gs cs acc = (none, c.1))
  | [], cs, acc => by simp [cvRow, S.cvIn]
  | g :: gs, [], acc => by simp [cvRow, S.cvIn]
  | g :: gs, c :: cs, acc => by
    obtain ⟨i1, i2⟩ := cvIn_row ca vs gs cs (acc ++ [(S.made g ca vs c).1])
    rw [cvRow, S.cvIn]
    by_cases hf : (S.made g ca vs c).2 = true
    · rw [if_pos hf, if_pos hf]
      cases hr : cvRow ca vs gs cs with
      | none =>
        refine ⟨fun ws h => (by cases h), fun _ => ?_⟩
        obtain ⟨d, hd, e⟩ := i2 hr
        exact ⟨d, List.mem_cons_of_mem _ hd, e⟩
      | some ws =>
        refine ⟨fun ws' h => ?_, fun h => (by cases h)⟩
        cases h
        rw [i1 ws hr]
        simp
    · rw [if_neg hf, if_neg hf]
      exact ⟨fun ws h => (by cases h), fun _ => ⟨c, List.mem_cons_self, rfl⟩⟩
theorem cvRow_some {ca : List DCol} {vs : List DVal} : ∀ {gs : List DGive} {cs : List DCol} {ws : List DVal}, gs.length = cs.length → cvRow ca vs gs cs = some ws →
    ws.length = gs.length ∧ ∀ k (h1 : k < gs.length) (h2 : k < cs.length) (h3 : k < ws.length), (S.made gs[k] ca vs cs[k]).2 = true ∧ ws[k] = (S.made gs[k] ca vs cs[k]).1
  | [], [], ws, _, h => by
    simp only [cvRow, Option.some.injEq] at h
    subst h
    exact ⟨rfl, fun k h1 => (by simp at h1)⟩
  | [], _ :: _, ws, h, _ => by simp at h
  | _ :: _, [], ws, h, _ => by simp at h
  | g :: gs, c :: cs, ws, hl, h => by
    rw [cvRow] at h
    by_cases hf : (S.made g ca vs c).2 = true
    · rw [if_pos hf] at h
      cases hr : cvRow ca vs gs cs with
      | none => rw [hr] at h; cases h
      | some ws' =>
        rw [hr] at h
        simp only [Option.map_some, Option.some.injEq] at h
        subst h
        obtain ⟨k1, k2⟩ := cvRow_some (by simpa using hl) hr
        refine ⟨by simp [k1], fun k h1 h2 h3 => ?_⟩
        cases k with
        | zero => exact ⟨hf, rfl⟩
        | succ k => exact k2 k (by simpa using h1) (by simpa using h2) (by simpa using h3)
    · rw [if_neg hf] at h; cases h
theorem cvRow_none {ca : List DCol} {vs : List DVal} : ∀ {gs : List DGive} {cs : List DCol}, cvRow ca vs gs cs = none ↔ ∃ (k : Nat) (h1 : k < gs.length) (h2 : k < cs.length), (S.made gs[k] ca vs cs[k]).2 = false
  | [], cs => by simp [cvRow]
  | g :: gs, [] => by simp [cvRow]
  | g :: gs, c :: cs => by
    rw [cvRow]
    have ih := cvRow_none (ca := ca) (vs := vs) (gs := gs) (cs := cs)
    by_cases hf : (S.made g ca vs c).2 = true
    · rw [if_pos hf, Option.map_eq_none_iff, ih]
      constructor
      · rintro ⟨k, h1, h2, h3⟩
        exact ⟨k + 1, by simpa using h1, by simpa using h2, h3⟩
      · rintro ⟨k, h1, h2, h3⟩
        cases k with
        | zero => simp only [List.getElem_cons_zero] at h3; rw [hf] at h3; cases h3
        | succ k => exact ⟨k, by simpa using h1, by simpa using h2, h3⟩
    · rw [if_neg hf]
      exact ⟨fun _ => ⟨0, by simp, by simp, by simpa using hf⟩, fun _ => rfl⟩
theorem cvRow_congr {ca ca' : List DCol} {vs vs' : List DVal} : ∀ {gs gs' : List DGive} {cs : List DCol}, gs.length = gs'.length →
    (∀ k (h1 : k < gs.length) (h1' : k < gs'.length) (h2 : k < cs.length), S.made gs[k] ca vs cs[k] = S.made gs'[k] ca' vs' cs[k]) → cvRow ca vs gs cs = cvRow ca' vs' gs' cs
  | [], [], cs, _, _ => by simp [cvRow]
  | [], _ :: _, cs, h, _ => by simp at h
  | _ :: _, [], cs, h, _ => by simp at h
  | g :: gs, g' :: gs', [], _, _ => by simp [cvRow]
  | g :: gs, g' :: gs', c :: cs, hl, h => by
    have h0 := h 0 (by simp) (by simp) (by simp)
    simp only [List.getElem_cons_zero] at h0
    have ih := cvRow_congr (ca := ca) (ca' := ca') (vs := vs) (vs' := vs') (gs := gs) (gs' := gs') (cs := cs) (by simpa using hl) fun k h1 h1' h2 => h (k + 1) (by simpa using h1) (by simpa using h1') (by simpa using h2)
    rw [cvRow, cvRow, ih, h0]
/-- An object. -/
def cvNode (a b : List DForm) (l : List DRule) (n : DNode) : Option DNode :=
  (cvRow (S.colsOf a n.1) n.2 (S.ruleOf l n.1).1.2.2 (S.colsOf b (S.ruleOf l n.1).1.2.1)).map fun ws => ((S.ruleOf l n.1).1.2.1, ws)
def cvAll (a b : List DForm) (l : List DRule) : List DNode → Option (List DNode)
  | [] => some []
  | n :: ns => match cvNode a b l n with
    | none => none
    | some m => (cvAll a b l ns).map (m :: ·)
theorem cvGo_all (a b : List DForm) (l : List DRule) (roots : List DVal) : ∀ (ns : List DNode) (i : Nat) (acc : List DNode),
    (∀ ms, cvAll a b l ns = some ms → S.cvGo a b l roots i ns acc = ((acc ++ ms, roots), S.zRefusal, 0)) ∧
    (cvAll a b l ns = none → ∃ r : DRefusal, S.cvGo a b l roots i ns acc = (S.zGraph, r, 10) ∧ (i : Int) ≤ r.1 ∧ r.1 < i + ns.length ∧ ∃ n ∈ ns, ∃ c ∈ S.colsOf b (S.ruleOf l n.1).1.2.1, r.2 = c.1)
  | [], i, acc => by simp [cvAll, S.cvGo]
  | n :: ns, i, acc => by
    rw [cvAll, S.cvGo]
    obtain ⟨c1, c2⟩ := cvIn_row (S.colsOf a n.1) n.2 (S.ruleOf l n.1).1.2.2 (S.colsOf b (S.ruleOf l n.1).1.2.1) []
    unfold cvNode
    cases hr : cvRow (S.colsOf a n.1) n.2 (S.ruleOf l n.1).1.2.2 (S.colsOf b (S.ruleOf l n.1).1.2.1) with
    | none =>
      obtain ⟨c, hc, e⟩ := c2 hr
      simp only [e, Option.map_none]
      refine ⟨fun ms h => (by cases h), fun _ => ⟨_, rfl, Int.le_refl _, ?_, n, List.mem_cons_self, c, hc, rfl⟩⟩
      have e0 : Int.ofNat i = (i : Int) := rfl
      simp only [List.length_cons]
      omega
    | some ws =>
      have e := c1 ws hr
      simp only [e, Option.map_some, List.nil_append]
      obtain ⟨k1, k2⟩ := cvGo_all a b l roots ns (i + 1) (acc ++ [((S.ruleOf l n.1).1.2.1, ws)])
      refine ⟨fun ms h => ?_, fun h => ?_⟩
      · cases hq : cvAll a b l ns with
        | none => rw [hq] at h; cases h
        | some ms' =>
          rw [hq] at h
          simp only [Option.map_some, Option.some.injEq] at h
          rw [k1 ms' hq, ← h]
          simp
      · cases hq : cvAll a b l ns with
        | some ms' => rw [hq] at h; cases h
        | none =>
          obtain ⟨r, r1, r2, r3, m, hm, c, hc, r4⟩ := k2 hq
          exact ⟨r, r1, by omega, by simp only [List.length_cons]; omega, m, List.mem_cons_of_mem _ hm, c, hc, r4⟩
theorem cvAll_some {a b : List DForm} {l : List DRule} : ∀ {ns ms : List DNode}, cvAll a b l ns = some ms → ms.length = ns.length ∧ ∀ k (h : k < ns.length) (h' : k < ms.length), cvNode a b l ns[k] = some ms[k]
  | [], ms, h => by
    simp only [cvAll, Option.some.injEq] at h
    subst h
    exact ⟨rfl, fun k h => (by simp at h)⟩
  | n :: ns, ms, h => by
    rw [cvAll] at h
    cases hn : cvNode a b l n with
    | none => rw [hn] at h; cases h
    | some m =>
      rw [hn] at h
      cases hq : cvAll a b l ns with
      | none => rw [hq] at h; cases h
      | some ms' =>
        rw [hq] at h
        simp only [Option.map_some, Option.some.injEq] at h
        subst h
        obtain ⟨k1, k2⟩ := cvAll_some hq
        refine ⟨by simp [k1], fun k h1 h2 => ?_⟩
        cases k with
        | zero => exact hn
        | succ k => exact k2 k (by simpa using h1) (by simpa using h2)
theorem convert_ok {a b : List DForm} {l : List DRule} {g : DGraph} (h1 : S.checkRules a b l = 0) (h2 : S.check a g = 0) : S.convert a b l g = S.cvGo a b l g.2 0 g.1 [] := by
  unfold S.convert
  rw [if_neg (by simpa using h1), if_neg (by simpa using h2)]

/-! ### Values -/
theorem value_iff {many : Nat} (h : many ≤ 400) (v : DVal) : S.value v (Int.ofNat many) = true ↔ (v.1 = 1 ∧ -1099511627776 ≤ v.2 ∧ v.2 ≤ 1099511627776) ∨ (v.1 = 2 ∧ 0 ≤ v.2 ∧ v.2 ≤ 1) ∨ (v.1 = 3 ∧ v.2 = 0) ∨ (v.1 = 4 ∧ 0 ≤ v.2 ∧ v.2 < many) := by
  have hw : IntKind.i64.wrap (Int.sub (Int.ofNat many) (Int.ofNat 1)) = (many : Int) - 1 := by
    have : Int.sub (Int.ofNat many) (Int.ofNat 1) = (many : Int) - 1 := rfl
    rw [this]
    exact wrap64_in (by omega)
  unfold S.value
  rw [hw]
  simp only [S.within]
  by_cases h1 : v.1 = 1
  · simp [h1]
  by_cases h2 : v.1 = 2
  · simp [h2]
  by_cases h3 : v.1 = 3
  · simp [h3]
  by_cases h4 : v.1 = 4
  · simp [h4]; omega
  simp [h1, h2, h3, h4]
theorem suits_iff (g : DGraph) (c : DCol) (v : DVal) : S.suits g c v = true ↔ (c.2.1 = 1 → v.1 = 1) ∧ (c.2.1 = 2 → v.1 = 2) ∧ (¬ c.2.1 = 1 → ¬ c.2.1 = 2 → v.1 = 3 ∨ (v.1 = 4 ∧ (c.2.2 = S.ANY ∨ (S.at_ S.zNode g.1 v.2).1 = c.2.2))) := by
  unfold S.suits
  by_cases h1 : c.2.1 = 1
  · simp [h1]
  by_cases h2 : c.2.1 = 2
  · simp [h2]
  simp [h1, h2]
theorem suitsAll_iff (g : DGraph) : ∀ (cs : List DCol) (vs : List DVal), vs.length = cs.length → (S.suitsAll g cs vs = true ↔ ∀ k (h : k < cs.length) (h' : k < vs.length), S.suits g cs[k] vs[k] = true)
  | [], vs, _ => by simp [S.suitsAll]
  | c :: cs, [], h => by simp at h
  | c :: cs, v :: vs, hl => by
    rw [S.suitsAll]
    have ih := suitsAll_iff g cs vs (by simpa using hl)
    by_cases h0 : S.suits g c v = true
    · rw [if_pos h0, ih]
      constructor
      · intro h k h1 h2
        cases k with
        | zero => exact h0
        | succ k => exact h k (by simpa using h1) (by simpa using h2)
      · intro h k h1 h2
        exact h (k + 1) (by simpa using h1) (by simpa using h2)
    · rw [if_neg h0]
      exact ⟨fun h => (by cases h), fun h => absurd (h 0 (by simp) (by simp)) h0⟩
theorem typed_of {l : List DForm} {g : DGraph} : ∀ {ns : List DNode}, (∀ n ∈ ns, n.2.length = (S.colsOf l n.1).length ∧ S.suitsAll g (S.colsOf l n.1) n.2 = true) → S.typed l g ns = true
  | [], _ => rfl
  | n :: ns, h => by
    rw [S.typed]
    have h0 := h n List.mem_cons_self
    rw [if_pos h0.1, if_pos h0.2]
    exact typed_of fun m hm => h m (List.mem_cons_of_mem _ hm)
theorem formed_of {g : DGraph} (h1 : g.1.length ≤ 400) (h2 : g.2.length ≤ 60) (h3 : ∀ n ∈ g.1, n.2.length ≤ 30) (h4 : ∀ n ∈ g.1, ∀ v ∈ n.2, S.value v (Int.ofNat g.1.length) = true) (h5 : ∀ v ∈ g.2, S.value v (Int.ofNat g.1.length) = true ∧ S.refers v = true) : S.formed g = 0 := by
  unfold S.formed
  rw [if_neg (by omega), if_neg, if_neg, if_neg]
  · simp only [List.any_eq_true, not_exists, not_and, Bool.or_eq_true, Bool.not_eq_true', not_or, Bool.not_eq_false]
    exact fun v hv => h5 v hv
  · simp only [List.any_eq_true, not_exists, not_and, Bool.not_eq_true', Bool.not_eq_false]
    exact fun n hn v hv => h4 n hn v hv
  · simp only [List.any_eq_true, not_exists, not_and, decide_eq_true_eq]
    exact fun n hn => by have := h3 n hn; omega
/-- The value of a field, as it is typed. -/
structure ValOK (g : DGraph) (c : DCol) (v : DVal) : Prop where
  value : (v.1 = 1 ∧ -1099511627776 ≤ v.2 ∧ v.2 ≤ 1099511627776) ∨ (v.1 = 2 ∧ 0 ≤ v.2 ∧ v.2 ≤ 1) ∨ (v.1 = 3 ∧ v.2 = 0) ∨ (v.1 = 4 ∧ 0 ≤ v.2 ∧ v.2 < g.1.length)
  i : c.2.1 = 1 → v.1 = 1
  b : c.2.1 = 2 → v.1 = 2
  r : ¬ c.2.1 = 1 → ¬ c.2.1 = 2 → v.1 = 3 ∨ (v.1 = 4 ∧ (c.2.2 = S.ANY ∨ (S.at_ S.zNode g.1 v.2).1 = c.2.2))
theorem graph_val {l : List DForm} {g : DGraph} (h : GraphOK l g) {n : DNode} (hn : n ∈ g.1) : n.2.length = (S.colsOf l n.1).length ∧ ∀ k (h1 : k < (S.colsOf l n.1).length) (h2 : k < n.2.length), ValOK g (S.colsOf l n.1)[k] n.2[k] := by
  obtain ⟨f1, f2, f3, f4, f5⟩ := formed_zero h.formed
  obtain ⟨t1, t2⟩ := typed_len h.typed n hn
  rw [suitsAll_iff _ _ _ t1] at t2
  refine ⟨t1, fun k h1 h2 => ?_⟩
  have hv := (value_iff f1 _).1 (f4 n hn n.2[k] (List.getElem_mem h2))
  obtain ⟨s1, s2, s3⟩ := (suits_iff _ _ _).1 (t2 k h1 h2)
  exact ⟨hv, s1, s2, s3⟩
theorem src_val {l : List DForm} {g : DGraph} (h : GraphOK l g) {n : DNode} (hn : n ∈ g.1) {x : DGive} (hc : 0 ≤ S.col (S.colsOf l n.1) x.1) : ValOK g (S.at_ S.zCol (S.colsOf l n.1) (S.col (S.colsOf l n.1) x.1)) (S.src x (S.colsOf l n.1) n.2) := by
  obtain ⟨k, hk, e1, e2, e3⟩ := at_col hc
  obtain ⟨g1, g2⟩ := graph_val h hn
  have hk2 : k < n.2.length := by rw [g1]; exact hk
  have := g2 k hk hk2
  unfold S.src
  rw [e2, e1, at_nat _ hk2]
  exact this
theorem leads_iff {a b : List DForm} {l : List DRule} (hR : RulesOK a b l) (hA : FormsOK a) {p q : ByteArray} : S.leads l p q = true ↔ q = S.ANY ∨ (¬ p = S.ANY ∧ (S.ruleOf l p).2 = true ∧ (S.ruleOf l p).1.2.1 = q) := by
  unfold S.leads
  rw [Bool.or_eq_true, decide_eq_true_eq, Bool.and_eq_true, decide_eq_true_eq]
  constructor
  · rintro (h | ⟨h1, h2⟩)
    · exact .inl h
    · refine .inr ⟨fun e => ?_, h1, h2⟩
      obtain ⟨m1, m2⟩ := ruleOf_mem h1
      obtain ⟨f, _, _, f3, f4⟩ := form_get (hR.has _ m1).1
      exact lw_class_ne_any (hA.cls f f3) (by rw [f4, m2, e])
  · rintro (h | ⟨_, h1, h2⟩)
    · exact .inl h
    · exact .inr ⟨h1, h2⟩
theorem made_ok {a b : List DForm} {l : List DRule} {g : DGraph} {ms : List DNode} (hR : RulesOK a b l) (hA : FormsOK a) {ca : List DCol} {vs : List DVal} {x : DGive} {c : DCol} (hx : GiveOK l x ca c) (hck : 1 ≤ c.2.1 ∧ c.2.1 ≤ 3)
    (hv : x.2.1 ≤ 5 → ValOK g (S.at_ S.zCol ca (S.col ca x.1)) (S.src x ca vs)) (hlen : ms.length = g.1.length) (hms : ∀ i : Int, 0 ≤ i → i < g.1.length → (S.at_ S.zNode ms i).1 = (S.ruleOf l (S.at_ S.zNode g.1 i).1).1.2.1) (roots : List DVal)
    (hf : (S.made x ca vs c).2 = true) : ValOK (ms, roots) c (S.made x ca vs c).1 := by
  have hh := hx.how
  have hc : x.2.1 = 1 ∨ x.2.1 = 2 ∨ x.2.1 = 3 ∨ x.2.1 = 4 ∨ x.2.1 = 5 ∨ x.2.1 = 6 ∨ x.2.1 = 7 := by omega
  unfold S.made at hf ⊢
  have refOK : ∀ v : DVal, ValOK g (S.at_ S.zCol ca (S.col ca x.1)) v → (S.at_ S.zCol ca (S.col ca x.1)).2.1 = 3 → S.leads l (S.at_ S.zCol ca (S.col ca x.1)).2.2 c.2.2 = true → v.1 = 3 ∨ (v.1 = 4 ∧ (c.2.2 = S.ANY ∨ (S.at_ S.zNode ms v.2).1 = c.2.2)) := by
    intro v hv h3 hl
    rcases hv.r (by omega) (by omega) with k | ⟨k, k2⟩
    · exact .inl k
    · refine .inr ⟨k, ?_⟩
      rcases (leads_iff hR hA).1 hl with q | ⟨q1, q2, q3⟩
      · exact .inl q
      · right
        have hin : 0 ≤ v.2 ∧ v.2 < g.1.length := by rcases hv.value with z | z | z | z <;> omega
        rcases k2 with k2 | k2
        · exact absurd k2 q1
        · rw [hms v.2 hin.1 hin.2, k2, q3]
  rcases hc with e | e | e | e | e | e | e
  · have h1 := hx.h1 e
    have v1 := hv (by omega)
    simp only [e, show ¬ (1 : Int) = 6 from by decide, show ¬ (1 : Int) = 7 from by decide, show ¬ (1 : Int) = 2 from by decide, show ¬ (1 : Int) = 3 from by decide, show ¬ (1 : Int) = 4 from by decide, show ¬ (1 : Int) = 5 from by decide, if_false]
    exact ⟨by rw [hlen]; exact v1.value, fun h => v1.i (by omega), fun h => v1.b (by omega), fun k1 k2 => refOK _ v1 (by omega) (h1.2 (by omega))⟩
  · have h2 := hx.h2 e
    have v1 := hv (by omega)
    have vb := v1.b h2.1
    have vv : 0 ≤ (S.src x ca vs).2 ∧ (S.src x ca vs).2 ≤ 1 := by rcases v1.value with z | z | z | z <;> omega
    simp only [e, show ¬ (2 : Int) = 6 from by decide, show ¬ (2 : Int) = 7 from by decide, if_false, if_true]
    exact ⟨.inl ⟨rfl, by omega, by omega⟩, fun _ => rfl, fun h => by omega, fun h => absurd h2.2 h⟩
  · have h3 := hx.h3 e
    simp only [e, show ¬ (3 : Int) = 6 from by decide, show ¬ (3 : Int) = 7 from by decide, show ¬ (3 : Int) = 2 from by decide, if_false, if_true, S.within, Bool.and_eq_true, decide_eq_true_eq] at hf ⊢
    exact ⟨.inr (.inl ⟨rfl, hf.1, hf.2⟩), fun h => by omega, fun _ => rfl, fun _ h => absurd h3.2 h⟩
  · have h4 := hx.h4 e
    have v1 := hv (by omega)
    simp only [e, show ¬ (4 : Int) = 6 from by decide, show ¬ (4 : Int) = 7 from by decide, show ¬ (4 : Int) = 2 from by decide, show ¬ (4 : Int) = 3 from by decide, if_false, if_true]
    exact ⟨by rw [hlen]; exact v1.value, fun h => v1.i h4.1, fun h => by omega, fun h => absurd h4.2 h⟩
  · have h5 := hx.h5 e
    have v1 := hv (by omega)
    simp only [e, show ¬ (5 : Int) = 6 from by decide, show ¬ (5 : Int) = 7 from by decide, show ¬ (5 : Int) = 2 from by decide, show ¬ (5 : Int) = 3 from by decide, show ¬ (5 : Int) = 4 from by decide, if_false, if_true]
    exact ⟨by rw [hlen]; exact v1.value, fun h => by omega, fun h => by omega, fun _ _ => refOK _ v1 h5.1 h5.2.2⟩
  · have h6 := hx.h6 e
    have hb := hx.big
    simp only [e, if_true]
    by_cases hc2 : c.2.1 = 2
    · rw [if_pos hc2]
      have : 0 ≤ x.2.2 ∧ x.2.2 ≤ 1 := by rcases h6 with z | ⟨_, z⟩; omega; exact z
      exact ⟨.inr (.inl ⟨rfl, this.1, this.2⟩), fun h => by omega, fun _ => rfl, fun _ h => absurd hc2 h⟩
    · rw [if_neg hc2]
      exact ⟨.inl ⟨rfl, hb.1, hb.2⟩, fun _ => rfl, fun h => absurd h hc2, fun h => by omega⟩
  · have h7 := hx.h7 e
    simp only [e, show ¬ (7 : Int) = 6 from by decide, if_false, if_true]
    exact ⟨.inr (.inr (.inl ⟨rfl, rfl⟩)), fun h => by omega, fun h => by omega, fun _ _ => .inl rfl⟩
/-- What is converted is right. -/
theorem conv_ok {a b : List DForm} {l : List DRule} {g : DGraph} {ms : List DNode} (hA : FormsOK a) (hB : FormsOK b) (hR : RulesOK a b l) (hG : GraphOK a g) (h : cvAll a b l g.1 = some ms) : GraphOK b (ms, g.2) := by
  obtain ⟨f1, f2, f3, f4, f5⟩ := formed_zero hG.formed
  obtain ⟨k1, k2⟩ := cvAll_some h
  have node : ∀ k (hk : k < g.1.length) (hk' : k < ms.length), ms[k].1 = (S.ruleOf l g.1[k].1).1.2.1 ∧ cvRow (S.colsOf a g.1[k].1) g.1[k].2 (S.ruleOf l g.1[k].1).1.2.2 (S.colsOf b (S.ruleOf l g.1[k].1).1.2.1) = some ms[k].2 := fun k hk hk' => by
    have := k2 k hk hk'
    unfold cvNode at this
    cases hr : cvRow (S.colsOf a g.1[k].1) g.1[k].2 (S.ruleOf l g.1[k].1).1.2.2 (S.colsOf b (S.ruleOf l g.1[k].1).1.2.1) with
    | none => rw [hr] at this; cases this
    | some ws => rw [hr] at this; simp only [Option.map_some, Option.some.injEq] at this; rw [← this]; exact ⟨rfl, rfl⟩
  have hms : ∀ i : Int, 0 ≤ i → i < g.1.length → (S.at_ S.zNode ms i).1 = (S.ruleOf l (S.at_ S.zNode g.1 i).1).1.2.1 := fun i h0 h1 => by
    have e : i = (i.toNat : Int) := by omega
    have hk : i.toNat < g.1.length := by omega
    rw [e, at_nat _ (l := ms) (by rw [k1]; exact hk), at_nat _ hk]
    exact (node _ hk (by rw [k1]; exact hk)).1
  have rule : ∀ n ∈ g.1, (S.ruleOf l n.1).1 ∈ l ∧ (S.ruleOf l n.1).1.1 = n.1 := fun n hn => by
    obtain ⟨fa, _, _, a3, a4⟩ := form_get (hG.has n hn)
    exact ruleOf_mem (by rw [← a4]; exact hR.all fa a3)
  have vals : ∀ k (hk : k < g.1.length) (hk' : k < ms.length), ms[k].2.length = (S.colsOf b ms[k].1).length ∧ ∀ j (h1 : j < (S.colsOf b ms[k].1).length) (h2 : j < ms[k].2.length), ValOK (ms, g.2) (S.colsOf b ms[k].1)[j] ms[k].2[j] := fun k hk hk' => by
    obtain ⟨n1, n2⟩ := node k hk hk'
    have hn := List.getElem_mem hk
    obtain ⟨r1, r2⟩ := rule _ hn
    have hgl := hR.glen _ r1
    obtain ⟨c1, c2⟩ := cvRow_some hgl n2
    rw [n1]
    refine ⟨by rw [c1, hgl], fun j h1 h2 => ?_⟩
    have hj : j < (S.ruleOf l g.1[k].1).1.2.2.length := by rw [hgl]; exact h1
    obtain ⟨d1, d2⟩ := c2 j hj h1 h2
    have hgv := (give_iff _ _ _ _).1 (hR.gok _ r1 j hj h1)
    rw [r2] at hgv
    rw [d2]
    have hck := (colsOf_ok hB (hR.has _ r1).2).kind _ (List.getElem_mem h1)
    exact made_ok hR hA hgv hck (fun h5 => src_val hG hn (hgv.src h5)) k1 hms g.2 d1
  refine ⟨formed_of (by rw [k1]; exact f1) f2 (fun m hm => ?_) (fun m hm v hv => ?_) (fun v hv => by rw [k1]; exact f5 v hv), fun m hm => ?_, typed_of fun m hm => ?_⟩
  all_goals
    obtain ⟨k, hk', rfl⟩ := List.mem_iff_getElem.1 hm
    have hk : k < g.1.length := by rw [← k1]; exact hk'
    obtain ⟨n1, n2⟩ := node k hk hk'
    obtain ⟨v1, v2⟩ := vals k hk hk'
    have hf : 0 ≤ S.form b ms[k].1 := by rw [n1]; exact (hR.has _ (rule _ (List.getElem_mem hk)).1).2
  · rw [v1]; exact (colsOf_ok hB hf).len
  · obtain ⟨j, hj, rfl⟩ := List.mem_iff_getElem.1 hv
    have := (v2 j (by rw [← v1]; exact hj) hj).value
    exact (value_iff (by rw [k1]; exact f1) _).2 this
  · exact hf
  · refine ⟨v1, (suitsAll_iff _ _ _ v1).2 fun j h1 h2 => ?_⟩
    have := v2 j h1 h2
    exact (suits_iff _ _ _).2 ⟨this.i, this.b, this.r⟩
end Go.Proofs.Ytcnhjofpmpipfaa
end

/- Rules that undo rules. -/
section
set_option linter.unusedVariables false
set_option maxRecDepth 100000
namespace Go.Proofs.Ytcnhjofpmpipfaa
open Go Go.Sx Go.RowKit Go.Jx
theorem nodup_le {α : Type} [DecidableEq α] : ∀ (N M : List α), N.Nodup → (∀ x ∈ N, x ∈ M) → N.length ≤ M.length
  | [], M, _, _ => Nat.zero_le _
  | x :: N, M, hN, hs => by
    rw [List.nodup_cons] at hN
    have hx := hs x List.mem_cons_self
    have ih := nodup_le N (M.erase x) hN.2 fun y hy => (List.mem_erase_of_ne (fun e : y = x => hN.1 (by rw [← e]; exact hy))).2 (hs y (List.mem_cons_of_mem _ hy))
    rw [List.length_erase_of_mem hx] at ih
    have : 0 < M.length := List.length_pos_of_mem hx
    simp only [List.length_cons]
    omega
/-- A list that holds all of a set, and has no more, holds each once. -/
theorem inj_of_len {α β : Type} [DecidableEq β] {f : α → β} {l : List α} {N : List β} (hN : N.Nodup) (hs : ∀ x ∈ N, ∃ a ∈ l, f a = x) (hl : l.length ≤ N.length) {i j : Nat} (hi : i < l.length) (hj : j < l.length) (e : f l[i] = f l[j]) : i = j := by
  rcases Decidable.em (i = j) with h | h
  · exact h
  exfalso
  have key := nodup_le N ((l.eraseIdx j).map f) hN fun x hx => by
    obtain ⟨a, ha, rfl⟩ := hs x hx
    obtain ⟨m, hm, rfl⟩ := List.mem_iff_getElem.1 ha
    by_cases hmj : m = j
    · subst hmj
      rw [← e]
      exact List.mem_map_of_mem (List.mem_eraseIdx_iff_getElem.2 ⟨i, hi, h, rfl⟩)
    · exact List.mem_map_of_mem (List.mem_eraseIdx_iff_getElem.2 ⟨m, hm, hmj, rfl⟩)
  rw [List.length_map, List.length_eraseIdx_of_lt hj] at key
  omega
theorem names_nodup {l : List DForm} (h : FormsOK l) : (l.map fun f => f.1).Nodup := by
  rw [List.nodup_iff_pairwise_ne, List.pairwise_iff_getElem]
  intro i j hi hj hij e
  simp only [List.length_map] at hi hj
  simp only [List.getElem_map] at e
  have h1 := form_nat h hi
  have h2 := form_nat h hj
  rw [e, h2] at h1
  omega
theorem classes_nodup {a b : List DForm} {l : List DRule} (h : RulesOK a b l) : (l.map fun r => r.1).Nodup := by
  rw [List.nodup_iff_pairwise_ne, List.pairwise_iff_getElem]
  intro i j hi hj hij e
  simp only [List.length_map] at hi hj
  simp only [List.getElem_map] at e
  have h1 := h.one j hj
  unfold S.ruleOf at h1
  cases hf : (l.take j).find? (fun r : DRule => keqS r.1 l[j].1) with
  | some r => rw [hf] at h1; cases h1
  | none =>
    rw [List.find?_eq_none] at hf
    have hi2 : i < (l.take j).length := by simp; omega
    have := hf ((l.take j)[i]) (List.getElem_mem hi2)
    rw [List.getElem_take] at this
    exact this (decide_eq_true e)
theorem rules_len {a b : List DForm} {l : List DRule} (hA : FormsOK a) (h : RulesOK a b l) : l.length = a.length := by
  have h1 := nodup_le _ (a.map fun f => f.1) (classes_nodup h) fun x hx => by
    obtain ⟨r, hr, rfl⟩ := List.mem_map.1 hx
    obtain ⟨f, _, _, f3, f4⟩ := form_get (h.has r hr).1
    exact List.mem_map.2 ⟨f, f3, f4⟩
  have h2 := nodup_le _ (l.map fun r => r.1) (names_nodup hA) fun x hx => by
    obtain ⟨f, hf, rfl⟩ := List.mem_map.1 hx
    obtain ⟨m1, m2⟩ := ruleOf_mem (h.all f hf)
    exact List.mem_map.2 ⟨_, m1, m2⟩
  simp only [List.length_map] at h1 h2
  omega

/-! ### One rule -/
def bkK (was : List DCol) (g : DGive) : Nat := (S.col was g.1).toNat
theorem at_set_ne {acc : List DGive} {k m : Nat} {x : DGive} (h : m ≠ k) : S.at_ S.zGive (acc.set k x) (m : Int) = S.at_ S.zGive acc (m : Int) := by
  unfold S.at_; simp only [Int.toNat_natCast]; rw [List.getElem?_set_ne (Ne.symm h)]
theorem at_set_eq {acc : List DGive} {k : Nat} {x : DGive} (h : k < acc.length) : S.at_ S.zGive (acc.set k x) (k : Int) = x := by
  unfold S.at_; simp only [Int.toNat_natCast]; rw [List.getElem?_set_self h]; rfl
theorem bkGo_some {l : List DRule} {was now : List DCol} : ∀ {rest : List DGive} {i : Nat} {acc gs : List DGive}, S.bkGo l was now rest i acc = some gs → (∀ g ∈ rest, g.2.1 = 1 → 0 ≤ S.col was g.1) → acc.length = was.length →
    gs.length = acc.length ∧ (∀ k : Nat, k < acc.length → ¬ (S.at_ S.zGive acc k).2.1 = 0 → S.at_ S.zGive gs k = S.at_ S.zGive acc k) ∧
    (∀ m (h : m < rest.length), rest[m].2.1 = 1 ∧ 0 ≤ S.col was rest[m].1 ∧ S.keeps l (S.at_ S.zCol was (S.col was rest[m].1)) (S.at_ S.zCol now ((i + m : Nat) : Int)) = true ∧ (S.at_ S.zGive acc (bkK was rest[m])).2.1 = 0 ∧
      S.at_ S.zGive gs (bkK was rest[m]) = ((S.at_ S.zCol now ((i + m : Nat) : Int)).1, 1, 0)) ∧
    (∀ m m' (h : m < rest.length) (h' : m' < rest.length), m < m' → bkK was rest[m] ≠ bkK was rest[m'])
  | [], i, acc, gs, h, _, _ => by
    simp only [S.bkGo, Option.some.injEq] at h
    subst h
    exact ⟨rfl, fun k _ _ => rfl, fun m h => (by simp at h), fun m m' h => (by simp at h)⟩
  | g :: rest, i, acc, gs, h, hp, hl => by
    rw [S.bkGo] at h
    by_cases h1 : g.2.1 = 1
    case neg => rw [if_pos h1] at h; cases h
    rw [if_neg (by simpa using h1)] at h
    have hc := hp g List.mem_cons_self h1
    have hcl := col_lt was g.1 hc
    have hk : ((bkK was g : Nat) : Int) = S.col was g.1 := by unfold bkK; omega
    have hkl : bkK was g < acc.length := by rw [hl]; omega
    by_cases h2 : (S.at_ S.zGive acc (S.col was g.1)).2.1 = 0
    case neg => rw [if_pos h2] at h; cases h
    rw [if_neg (by simpa using h2)] at h
    cases h3 : S.keeps l (S.at_ S.zCol was (S.col was g.1)) (S.at_ S.zCol now (i : Int)) with
    | false => rw [if_pos h3] at h; cases h
    | true =>
    rw [if_neg (by simp [h3])] at h
    obtain ⟨q1, q2, q3, q4⟩ := bkGo_some h (fun g' hg' => hp g' (List.mem_cons_of_mem _ hg')) (by simpa using hl)
    have hset : (S.col was g.1).toNat = bkK was g := rfl
    rw [hset] at q1 q2 q3
    simp only [List.length_set] at q1 q2
    have hne : ∀ m (hm : m < rest.length), bkK was rest[m] ≠ bkK was g := fun m hm e => by
      have := (q3 m hm).2.2.2.1
      rw [e, at_set_eq hkl] at this
      exact absurd this (show ¬ (1 : Int) = 0 by decide)
    refine ⟨q1, fun k hkk hn => ?_, fun m hm => ?_, fun m m' hm hm' hlt => ?_⟩
    · have hkne : k ≠ bkK was g := fun e => by
        apply hn
        rw [e, hk]; exact h2
      rw [q2 k hkk (by rw [at_set_ne hkne]; exact hn), at_set_ne hkne]
    · cases m with
      | zero =>
        refine ⟨h1, hc, h3, by simp only [List.getElem_cons_zero]; rw [hk]; exact h2, ?_⟩
        simp only [List.getElem_cons_zero, Nat.add_zero]
        rw [q2 _ hkl (by rw [at_set_eq hkl]; show ¬ (1 : Int) = 0; decide), at_set_eq hkl]
      | succ m =>
        have hm' : m < rest.length := by simpa using hm
        obtain ⟨z1, z2, z3, z4, z5⟩ := q3 m hm'
        have e : i + 1 + m = i + (m + 1) := by omega
        rw [e] at z3 z5
        simp only [List.getElem_cons_succ]
        refine ⟨z1, z2, z3, ?_, z5⟩
        rw [at_set_ne (hne m hm')] at z4
        exact z4
    · cases m' with
      | zero => omega
      | succ m' =>
        have hm2 : m' < rest.length := by simpa using hm'
        cases m with
        | zero => simp only [List.getElem_cons_zero, List.getElem_cons_succ]; exact (hne m' hm2).symm
        | succ m => simp only [List.getElem_cons_succ]; exact q4 m m' (by simpa using hm) hm2 (by omega)
theorem bkGo_of {l : List DRule} {was now : List DCol} : ∀ {rest : List DGive} {i : Nat} {acc : List DGive}, acc.length = was.length → (∀ m (h : m < rest.length), rest[m].2.1 = 1 ∧ 0 ≤ S.col was rest[m].1 ∧ S.keeps l (S.at_ S.zCol was (S.col was rest[m].1)) (S.at_ S.zCol now ((i + m : Nat) : Int)) = true ∧ (S.at_ S.zGive acc (bkK was rest[m])).2.1 = 0) →
    (∀ m m' (h : m < rest.length) (h' : m' < rest.length), m < m' → bkK was rest[m] ≠ bkK was rest[m']) → ∃ gs, S.bkGo l was now rest i acc = some gs
  | [], i, acc, _, _, _ => ⟨acc, by rw [S.bkGo]⟩
  | g :: rest, i, acc, hl, h, hi => by
    obtain ⟨h1, h2, h3, h4⟩ := h 0 (by simp)
    simp only [List.getElem_cons_zero, Nat.add_zero] at h1 h2 h3 h4
    have hk : ((bkK was g : Nat) : Int) = S.col was g.1 := by unfold bkK; omega
    rw [hk] at h4
    obtain ⟨gs, e⟩ := bkGo_of (l := l) (was := was) (now := now) (rest := rest) (i := i + 1) (acc := acc.set (bkK was g) ((S.at_ S.zCol now i).1, 1, 0)) (by simpa using hl) (fun m hm => by
      obtain ⟨z1, z2, z3, z4⟩ := h (m + 1) (by simpa using hm)
      simp only [List.getElem_cons_succ] at z1 z2 z3 z4
      have e : i + 1 + m = i + (m + 1) := by omega
      rw [e]
      refine ⟨z1, z2, z3, ?_⟩
      have hne := hi 0 (m + 1) (by simp) (by simpa using hm) (by omega)
      simp only [List.getElem_cons_zero, List.getElem_cons_succ] at hne
      rw [at_set_ne (Ne.symm hne)]
      exact z4) fun m m' hm hm' hlt => by
        have := hi (m + 1) (m' + 1) (by simpa using hm) (by simpa using hm') (by omega)
        simpa using this
    refine ⟨gs, ?_⟩
    rw [S.bkGo, if_neg (by simpa using h1), if_neg (by simpa using h4), if_neg (by simp [h3])]
    exact e
/-- q undoes r. -/
structure Und (A B : List DForm) (l : List DRule) (r q : DRule) : Prop where
  cls : q.1 = r.2.1
  to : q.2.1 = r.1
  n1 : r.2.2.length = (S.colsOf A r.1).length
  n2 : r.2.2.length = (S.colsOf B r.2.1).length
  n3 : q.2.2.length = r.2.2.length
  how : ∀ i (h : i < r.2.2.length), r.2.2[i].2.1 = 1
  fwd : ∀ i (h : i < r.2.2.length), ∃ (k : Nat) (h1 : k < (S.colsOf A r.1).length) (h2 : k < q.2.2.length) (h3 : i < (S.colsOf B r.2.1).length), S.col (S.colsOf A r.1) r.2.2[i].1 = k ∧ q.2.2[k] = ((S.colsOf B r.2.1)[i].1, 1, 0) ∧ S.keeps l (S.colsOf A r.1)[k] (S.colsOf B r.2.1)[i] = true
  bwd : ∀ k (h : k < (S.colsOf A r.1).length), ∃ (i : Nat) (h1 : i < r.2.2.length), S.col (S.colsOf A r.1) r.2.2[i].1 = k
theorem und_of {A B : List DForm} {l : List DRule} (hR : RulesOK A B l) {r : DRule} (hr : r ∈ l) (h : (S.back l r (S.colsOf A r.1) (S.colsOf B r.2.1)).2 = true) : Und A B l r (S.back l r (S.colsOf A r.1) (S.colsOf B r.2.1)).1 := by
  have hgl := hR.glen r hr
  unfold S.back at h ⊢
  by_cases hlen : (S.colsOf A r.1).length = (S.colsOf B r.2.1).length
  case neg => rw [if_pos hlen] at h; cases h
  rw [if_neg (by simpa using hlen)] at h ⊢
  cases hg : S.bkGo l (S.colsOf A r.1) (S.colsOf B r.2.1) r.2.2 0 (Go.Jx.S.rep (S.colsOf A r.1).length S.zGive) with
  | none => rw [hg] at h; cases h
  | some gs =>
  have hp : ∀ g ∈ r.2.2, g.2.1 = 1 → 0 ≤ S.col (S.colsOf A r.1) g.1 := fun g hg h1 => by
    obtain ⟨k, hk, rfl⟩ := List.mem_iff_getElem.1 hg
    have := hR.gok r hr k hk (by rw [← hgl]; exact hk)
    exact (give_pre this).2 (by rw [h1]; rfl)
  have hrl : (Go.Jx.S.rep (S.colsOf A r.1).length S.zGive).length = (S.colsOf A r.1).length := by unfold Go.Jx.S.rep; simp
  obtain ⟨q1, q2, q3, q4⟩ := bkGo_some hg hp hrl
  rw [hrl] at q1
  have fwd : ∀ i (h : i < r.2.2.length), ∃ (k : Nat) (h1 : k < (S.colsOf A r.1).length) (h2 : k < gs.length) (h3 : i < (S.colsOf B r.2.1).length), S.col (S.colsOf A r.1) r.2.2[i].1 = k ∧ gs[k] = ((S.colsOf B r.2.1)[i].1, 1, 0) ∧ S.keeps l (S.colsOf A r.1)[k] (S.colsOf B r.2.1)[i] = true ∧ k = bkK (S.colsOf A r.1) r.2.2[i] := fun i hi => by
    obtain ⟨z1, z2, z3, z4, z5⟩ := q3 i hi
    have hcl := col_lt _ _ z2
    have hk : ((bkK (S.colsOf A r.1) r.2.2[i] : Nat) : Int) = S.col (S.colsOf A r.1) r.2.2[i].1 := by unfold bkK; omega
    have hka : bkK (S.colsOf A r.1) r.2.2[i] < (S.colsOf A r.1).length := by omega
    have hi3 : i < (S.colsOf B r.2.1).length := by rw [← hgl]; exact hi
    refine ⟨_, hka, by rw [q1]; exact hka, hi3, hk.symm, ?_, ?_, rfl⟩
    · rw [Nat.zero_add, at_nat _ hi3, at_nat _ (by rw [q1]; exact hka)] at z5
      exact z5
    · rw [Nat.zero_add, at_nat _ hi3, ← hk, at_nat _ hka] at z3
      exact z3
  refine ⟨rfl, rfl, by rw [hgl, hlen], hgl, by rw [hgl, ← hlen]; exact q1, fun i hi => (q3 i hi).1, fun i hi => ?_, fun k hk => ?_⟩
  · obtain ⟨k, h1, h2, h3, h4, h5, h6, _⟩ := fwd i hi
    exact ⟨k, h1, h2, h3, h4, h5, h6⟩
  · -- the places that are filled are all
    rcases Decidable.em (∃ (i : Nat) (h1 : i < r.2.2.length), S.col (S.colsOf A r.1) r.2.2[i].1 = k) with hh | hh
    · exact hh
    exfalso
    have hnd : (r.2.2.map (bkK (S.colsOf A r.1))).Nodup := by
      rw [List.nodup_iff_pairwise_ne, List.pairwise_iff_getElem]
      intro i j hi hj hij
      simp only [List.getElem_map]
      simp only [List.length_map] at hi hj
      exact q4 i j hi hj hij
    have hk2 : k ∉ r.2.2.map (bkK (S.colsOf A r.1)) := fun hm => by
      obtain ⟨g, hg, e⟩ := List.mem_map.1 hm
      obtain ⟨i, hi, rfl⟩ := List.mem_iff_getElem.1 hg
      obtain ⟨k', _, _, _, h4, _, _, h7⟩ := fwd i hi
      exact hh ⟨i, hi, by rw [h4, h7, e]⟩
    have key := nodup_le (k :: r.2.2.map (bkK (S.colsOf A r.1))) (List.range (S.colsOf A r.1).length) (List.nodup_cons.2 ⟨hk2, hnd⟩) fun x hx => by
      rw [List.mem_range]
      rcases List.mem_cons.1 hx with e | e
      · rw [e]; exact hk
      · obtain ⟨g, hg, e⟩ := List.mem_map.1 e
        obtain ⟨i, hi, rfl⟩ := List.mem_iff_getElem.1 hg
        obtain ⟨k', h1, _, _, _, _, _, h7⟩ := fwd i hi
        rw [← e, ← h7]; exact h1
    simp only [List.length_cons, List.length_map, List.length_range] at key
    omega

/-! ### All rules -/
theorem bkAll_some {A : List DForm} {l : List DRule} : ∀ {fs : List DForm} {acc out : List DRule}, S.bkAll A l fs acc = some out → out.length = acc.length + fs.length ∧ (∀ k (h : k < acc.length) (h' : k < out.length), out[k] = acc[k]) ∧
    ∀ k (h : k < fs.length) (h' : acc.length + k < out.length), ∃ r ∈ l, r.2.1 = fs[k].1 ∧ (S.back l r (S.colsOf A r.1) fs[k].2).2 = true ∧ out[acc.length + k] = (S.back l r (S.colsOf A r.1) fs[k].2).1
  | [], acc, out, h => by
    simp only [S.bkAll, Option.some.injEq] at h
    subst h
    exact ⟨by simp, fun k _ _ => rfl, fun k h => (by simp at h)⟩
  | f :: fs, acc, out, h => by
    rw [S.bkAll] at h
    by_cases hi : Go.Jx.S.idx (fun r : DRule => keqS r.2.1 f.1) l < 0
    · simp only [if_pos hi] at h; cases h
    simp only [if_neg hi] at h
    obtain ⟨r, r1, r2, r3, r4, _, _⟩ := Go.Jx.S.idx_get (p := fun r : DRule => keqS r.2.1 f.1) (l := l) (by omega)
    have r3 : r.2.1 = f.1 := of_decide_eq_true r3
    have e : S.at_ S.zRule l (Go.Jx.S.idx (fun r : DRule => keqS r.2.1 f.1) l) = r := by unfold S.at_; rw [r2]; rfl
    rw [e] at h
    by_cases hb : (S.back l r (S.colsOf A r.1) f.2).2 = true
    case neg => rw [if_neg hb] at h; cases h
    rw [if_pos hb] at h
    obtain ⟨k1, k2, k3⟩ := bkAll_some h
    simp only [List.length_append, List.length_cons, List.length_nil] at k1 k2 k3
    refine ⟨by simp only [List.length_cons]; omega, fun k h1 h2 => ?_, fun k h1 h2 => ?_⟩
    · rw [k2 k (by omega) h2, List.getElem_append_left h1]
    · cases k with
      | zero =>
        refine ⟨r, r4, r3, hb, ?_⟩
        simp only [Nat.add_zero]
        rw [k2 acc.length (by omega) h2, List.getElem_append_right (Nat.le_refl _)]
        simp
      | succ k =>
        have h1' : k < fs.length := by simpa using h1
        obtain ⟨r', a1, a2, a3, a4⟩ := k3 k h1' (by omega)
        refine ⟨r', a1, a2, a3, ?_⟩
        simp only [List.getElem_cons_succ]
        rw [← a4]
        congr 1
        omega
theorem bkAll_of {A : List DForm} {l : List DRule} : ∀ {fs : List DForm} {acc : List DRule}, (∀ f ∈ fs, (∃ r ∈ l, r.2.1 = f.1) ∧ ∀ r ∈ l, r.2.1 = f.1 → (S.back l r (S.colsOf A r.1) f.2).2 = true) → ∃ out, S.bkAll A l fs acc = some out ∧ out.length = acc.length + fs.length
  | [], acc, _ => ⟨acc, by rw [S.bkAll], by simp⟩
  | f :: fs, acc, h => by
    obtain ⟨⟨r0, r01, r02⟩, h2⟩ := h f List.mem_cons_self
    have hi : 0 ≤ Go.Jx.S.idx (fun r : DRule => keqS r.2.1 f.1) l := idx_ge_zero (p := fun r : DRule => keqS r.2.1 f.1) r01 (decide_eq_true r02)
    obtain ⟨r, r1, r2, r3, r4, _, _⟩ := Go.Jx.S.idx_get (p := fun r : DRule => keqS r.2.1 f.1) (l := l) hi
    have r3 : r.2.1 = f.1 := of_decide_eq_true r3
    have e : S.at_ S.zRule l (Go.Jx.S.idx (fun r : DRule => keqS r.2.1 f.1) l) = r := by unfold S.at_; rw [r2]; rfl
    obtain ⟨out, o1, o2⟩ := bkAll_of (A := A) (l := l) (fs := fs) (acc := acc ++ [(S.back l r (S.colsOf A r.1) f.2).1]) fun f' hf' => h f' (List.mem_cons_of_mem _ hf')
    refine ⟨out, ?_, by simp only [List.length_append, List.length_cons, List.length_nil] at o2 ⊢; omega⟩
    rw [S.bkAll]
    simp only [if_neg (show ¬ Go.Jx.S.idx (fun r : DRule => keqS r.2.1 f.1) l < 0 by omega)]
    rw [e, if_pos (h2 r r4 r3)]
    exact o1
structure BackOK (A B : List DForm) (l b : List DRule) : Prop where
  fa : FormsOK A
  fb : FormsOK B
  ca : S.checkForms A = 0
  cb : S.checkForms B = 0
  ra : RulesOK A B l
  len : b.length = l.length
  lenB : b.length = B.length
  cls : ∀ k (h : k < B.length) (h' : k < b.length), b[k].1 = B[k].1
  und : ∀ q ∈ b, ∃ r ∈ l, Und A B l r q
  inj : ∀ r ∈ l, ∀ r' ∈ l, r.2.1 = r'.2.1 → r = r'
theorem backOK {A B : List DForm} {l b : List DRule} (h : S.Back A B l = (b, true, 0)) : BackOK A B l b := by
  unfold S.Back at h
  by_cases h0 : S.checkRules A B l = 0
  case neg => rw [if_pos h0] at h; exact absurd (Prod.mk.inj (Prod.mk.inj h).2).1 (by decide)
  rw [if_neg (by simpa using h0)] at h
  have hff : S.first [S.checkForms A, S.checkForms B] = 0 ∧ S.checkRules0 A B l = 0 := by
    unfold S.checkRules at h0
    by_cases hf : S.first [S.checkForms A, S.checkForms B] = 0
    · rw [if_pos hf] at h0; exact ⟨hf, h0⟩
    · rw [if_neg hf] at h0; exact absurd h0 hf
  obtain ⟨ca, cb⟩ := lw_first2 hff.1
  have hR := (rulesOK_iff _ _ _).1 hff.2
  have hA := formsOK ca
  have hB := formsOK cb
  cases hk : S.bkAll A l B [] with
  | none => rw [hk] at h; exact absurd (Prod.mk.inj (Prod.mk.inj h).2).1 (by decide)
  | some out =>
  rw [hk] at h
  by_cases hl : out.length = l.length
  case neg =>
    simp only [if_pos (show ¬ out.length = l.length from hl)] at h
    exact absurd (Prod.mk.inj (Prod.mk.inj h).2).1 (by decide)
  simp only [if_neg (show ¬ ¬ out.length = l.length from fun hh => hh hl)] at h
  obtain rfl := (Prod.mk.inj h).1
  obtain ⟨k1, _, k3⟩ := bkAll_some hk
  simp only [List.length_nil, Nat.zero_add] at k1 k3
  have ent : ∀ k (h1 : k < B.length) (h2 : k < out.length), ∃ r ∈ l, r.2.1 = B[k].1 ∧ Und A B l r out[k] := fun k h1 h2 => by
    obtain ⟨r, r1, r2, r3, r4⟩ := k3 k h1 h2
    have hc : S.colsOf B r.2.1 = B[k].2 := by rw [r2]; exact colsOf_get hB h1
    rw [← hc] at r3 r4
    exact ⟨r, r1, r2, by rw [r4]; exact und_of hR r1 r3⟩
  refine ⟨hA, hB, ca, cb, hR, hl, k1, fun k h1 h2 => ?_, fun q hq => ?_, fun r hr r' hr' e => ?_⟩
  · obtain ⟨r, _, r2, u⟩ := ent k h1 h2
    rw [u.cls, r2]
  · obtain ⟨k, hk2, rfl⟩ := List.mem_iff_getElem.1 hq
    obtain ⟨r, r1, _, u⟩ := ent k (by rw [← k1]; exact hk2) hk2
    exact ⟨r, r1, u⟩
  · obtain ⟨i, hi, rfl⟩ := List.mem_iff_getElem.1 hr
    obtain ⟨j, hj, rfl⟩ := List.mem_iff_getElem.1 hr'
    have := inj_of_len (f := fun r : DRule => r.2.1) (l := l) (names_nodup hB) (fun x hx => by
      obtain ⟨f, hf, rfl⟩ := List.mem_map.1 hx
      obtain ⟨k, hk2, rfl⟩ := List.mem_iff_getElem.1 hf
      obtain ⟨r, r1, r2, _⟩ := ent k hk2 (by rw [k1]; exact hk2)
      exact ⟨r, r1, r2⟩) (by simp only [List.length_map]; omega) hi hj e
    subst this; rfl
section
variable {A B : List DForm} {l b : List DRule}
theorem und_ex (h : BackOK A B l b) {r : DRule} (hr : r ∈ l) : ∃ q ∈ b, Und A B l r q := by
  obtain ⟨f, _, _, f3, f4⟩ := form_get (h.ra.has r hr).2
  obtain ⟨k, hk, rfl⟩ := List.mem_iff_getElem.1 f3
  have hk2 : k < b.length := by rw [h.lenB]; exact hk
  obtain ⟨r', r1, u⟩ := h.und _ (List.getElem_mem hk2)
  have : r = r' := h.inj r hr r' r1 (by rw [← u.cls, h.cls k hk hk2, f4])
  exact ⟨_, List.getElem_mem hk2, this ▸ u⟩
theorem ruleOf_back (h : BackOK A B l b) {q : DRule} (hq : q ∈ b) : S.ruleOf b q.1 = (q, true) := by
  obtain ⟨i, hi, rfl⟩ := List.mem_iff_getElem.1 hq
  refine rule_of hi rfl ?_
  unfold S.ruleOf
  cases hf : (b.take i).find? (fun r : DRule => keqS r.1 b[i].1) with
  | none => rfl
  | some r =>
    have hk : keqS r.1 b[i].1 = true := List.find?_some (p := fun r : DRule => keqS r.1 b[i].1) hf
    have hm := List.mem_of_find?_eq_some hf
    obtain ⟨j, hj, rfl⟩ := List.mem_iff_getElem.1 hm
    simp only [List.length_take] at hj
    rw [List.getElem_take] at hk
    have hj2 : j < b.length := by omega
    have hjB : j < B.length := by rw [← h.lenB]; exact hj2
    have hiB : i < B.length := by rw [← h.lenB]; exact hi
    have e : b[j].1 = b[i].1 := of_decide_eq_true hk
    rw [h.cls j hjB hj2, h.cls i hiB hi] at e
    have h1 := form_nat h.fb hjB
    have h2 := form_nat h.fb hiB
    rw [e, h2] at h1
    omega
/-- A field that keeps its class leads back. -/
theorem leads_back (h : BackOK A B l b) {c d : DCol} (hk : S.keeps l c d = true) (h3 : c.2.1 = 3) : S.leads b d.2.2 c.2.2 = true ∧ (c.2.2 = S.ANY ↔ d.2.2 = S.ANY) := by
  unfold S.keeps at hk
  rw [if_neg (by simpa using h3)] at hk
  by_cases ha : c.2.2 = S.ANY ∨ d.2.2 = S.ANY
  · rw [if_pos ha] at hk
    have e := of_decide_eq_true hk
    have hc : c.2.2 = S.ANY := by rcases ha with q | q; exact q; rw [e]; exact q
    refine ⟨?_, by rw [e]⟩
    unfold S.leads
    rw [decide_eq_true hc]; rfl
  · rw [if_neg ha] at hk
    rw [not_or] at ha
    refine ⟨?_, ⟨fun e => absurd e ha.1, fun e => absurd e ha.2⟩⟩
    rcases (leads_iff h.ra h.fa).1 hk with e | ⟨_, k2, k3⟩
    · exact absurd e ha.2
    obtain ⟨m1, m2⟩ := ruleOf_mem k2
    obtain ⟨q, q1, u⟩ := und_ex h m1
    have hr := ruleOf_back h q1
    rw [u.cls, k3] at hr
    unfold S.leads
    rw [hr]
    simp only [Bool.true_and, Bool.or_eq_true, decide_eq_true_eq]
    right
    rw [u.to, m2]
theorem keeps_back (h : BackOK A B l b) {c d : DCol} (hk : S.keeps l c d = true) (he : c.2.1 = d.2.1) : S.keeps b d c = true := by
  unfold S.keeps
  by_cases h3 : d.2.1 = 3
  · obtain ⟨k1, k2⟩ := leads_back h hk (he.trans h3)
    rw [if_neg (by simpa using h3)]
    by_cases ha : d.2.2 = S.ANY ∨ c.2.2 = S.ANY
    · rw [if_pos ha]
      have hd : d.2.2 = S.ANY := by rcases ha with q | q; exact q; exact k2.1 q
      exact decide_eq_true (by rw [hd, k2.2 hd])
    · rw [if_neg ha]; exact k1
  · rw [if_pos h3]
theorem kinds (h : BackOK A B l b) {r : DRule} (hr : r ∈ l) {q : DRule} (u : Und A B l r q) {i k : Nat} (hi : i < r.2.2.length) (hk : k < (S.colsOf A r.1).length) (hi2 : i < (S.colsOf B r.2.1).length) (e : S.col (S.colsOf A r.1) r.2.2[i].1 = k) : (S.colsOf A r.1)[k].2.1 = (S.colsOf B r.2.1)[i].2.1 := by
  have hg := (give_iff _ _ _ _).1 (h.ra.gok r hr i hi hi2)
  have := (hg.h1 (u.how i hi)).1
  rw [e, at_nat _ hk] at this
  exact this
theorem rules_back (h : BackOK A B l b) : RulesOK B A b := by
  refine ⟨by rw [h.lenB]; exact h.fb.len, fun q hq => ?_, fun k hk => ?_, fun f hf => ?_, fun q hq => ?_, fun q hq k hk hk' => ?_⟩
  · obtain ⟨r, hr, u⟩ := h.und q hq
    rw [u.cls, u.to]
    exact ⟨(h.ra.has r hr).2, (h.ra.has r hr).1⟩
  · have hkB : k < B.length := by rw [← h.lenB]; exact hk
    unfold S.ruleOf
    cases hf : (b.take k).find? (fun r : DRule => keqS r.1 b[k].1) with
    | none => rfl
    | some r =>
      exfalso
      have hkq : keqS r.1 b[k].1 = true := List.find?_some (p := fun r : DRule => keqS r.1 b[k].1) hf
      have hm := List.mem_of_find?_eq_some hf
      obtain ⟨j, hj, rfl⟩ := List.mem_iff_getElem.1 hm
      simp only [List.length_take] at hj
      rw [List.getElem_take] at hkq
      have hj2 : j < b.length := by omega
      have hjB : j < B.length := by rw [← h.lenB]; exact hj2
      have e : b[j].1 = b[k].1 := of_decide_eq_true hkq
      rw [h.cls j hjB hj2, h.cls k hkB hk] at e
      have h1 := form_nat h.fb hjB
      have h2 := form_nat h.fb hkB
      rw [e, h2] at h1
      omega
  · obtain ⟨k, hk, rfl⟩ := List.mem_iff_getElem.1 hf
    have hk2 : k < b.length := by rw [h.lenB]; exact hk
    have := ruleOf_back h (List.getElem_mem hk2)
    rw [h.cls k hk hk2] at this
    rw [this]
  · obtain ⟨r, hr, u⟩ := h.und q hq
    rw [u.n3, u.n1, u.to]
  · obtain ⟨r, hr, u⟩ := h.und q hq
    have hkA : k < (S.colsOf A r.1).length := by rw [← u.n1, ← u.n3]; exact hk
    obtain ⟨i, hi, e⟩ := u.bwd k hkA
    obtain ⟨k', h1, h2, h3, h4, h5, h6⟩ := u.fwd i hi
    have hkk : k' = k := by rw [e] at h4; omega
    subst hkk
    have hkind := kinds h hr u hi hkA h3 e
    rw [give_iff]
    have hcols : S.colsOf B q.1 = S.colsOf B r.2.1 := by rw [u.cls]
    have hb' : (S.colsOf A q.2.1)[k'] = (S.colsOf A r.1)[k'] := by congr 1; rw [u.to]
    rw [hcols, hb', h5]
    have cB := colsOf_ok h.fb (h.ra.has r hr).2
    have hcn := col_nat cB h3
    have hat : S.at_ S.zCol (S.colsOf B r.2.1) (S.col (S.colsOf B r.2.1) (S.colsOf B r.2.1)[i].1) = (S.colsOf B r.2.1)[i] := by rw [hcn, at_nat _ h3]
    refine ⟨⟨by simp only; omega, by simp only; omega⟩, fun _ => by simp only; omega, fun hh => by simp only at hh; omega, ⟨by simp only; omega, by simp only; omega⟩, fun _ _ => rfl, fun _ => ?_, fun hh => by simp only at hh; omega, fun hh => by simp only at hh; omega, fun hh => by simp only at hh; omega, fun hh => by simp only at hh; omega, fun hh => by simp only at hh; omega, fun hh => by simp only at hh; omega⟩
    simp only
    rw [hat]
    exact ⟨hkind.symm, fun hk3 => (leads_back h h6 hk3).1⟩
theorem back_back (h : BackOK A B l b) : ∃ again, S.Back B A b = (again, true, 0) := by
  have hR := rules_back h
  have hlA := rules_len h.fa h.ra
  have hk : S.checkRules B A b = 0 := by
    unfold S.checkRules
    rw [if_pos (show S.first [S.checkForms B, S.checkForms A] = 0 by simp only [S.first, h.ca, h.cb, if_true])]
    exact (rulesOK_iff _ _ _).2 hR
  obtain ⟨out, o1, o2⟩ := bkAll_of (A := B) (l := b) (fs := A) (acc := []) fun f hf => by
    refine ⟨?_, fun q hq e => ?_⟩
    · obtain ⟨m1, m2⟩ := ruleOf_mem (h.ra.all f hf)
      obtain ⟨q, q1, u⟩ := und_ex h m1
      exact ⟨q, q1, by rw [u.to, m2]⟩
    · obtain ⟨r, hr, u⟩ := h.und q hq
      have er : r.1 = f.1 := by rw [← u.to, e]
      have hcf : f.2 = S.colsOf A r.1 := by rw [er]; exact (colsOf_mem h.fa hf).symm
      rw [hcf]
      have hcols : S.colsOf B q.1 = S.colsOf B r.2.1 := by rw [u.cls]
      rw [hcols]
      have cB := colsOf_ok h.fb (h.ra.has r hr).2
      unfold S.back
      rw [if_neg (by rw [← u.n1, ← u.n2]; simp)]
      have ent : ∀ m (hm : m < q.2.2.length), ∃ (i : Nat) (hi : i < r.2.2.length) (hmA : m < (S.colsOf A r.1).length) (hiB : i < (S.colsOf B r.2.1).length), S.col (S.colsOf A r.1) r.2.2[i].1 = m ∧ q.2.2[m] = ((S.colsOf B r.2.1)[i].1, 1, 0) ∧ S.keeps l (S.colsOf A r.1)[m] (S.colsOf B r.2.1)[i] = true := fun m hm => by
        have hmA : m < (S.colsOf A r.1).length := by rw [← u.n1, ← u.n3]; exact hm
        obtain ⟨i, hi, e⟩ := u.bwd m hmA
        obtain ⟨k', h1, h2, h3, h4, h5, h6⟩ := u.fwd i hi
        have hkk : k' = m := by rw [e] at h4; omega
        subst hkk
        exact ⟨i, hi, hmA, h3, h4, h5, h6⟩
      obtain ⟨gs, hg⟩ := bkGo_of (l := b) (was := S.colsOf B r.2.1) (now := S.colsOf A r.1) (rest := q.2.2) (i := 0) (acc := Go.Jx.S.rep (S.colsOf B r.2.1).length S.zGive) (by unfold Go.Jx.S.rep; simp) (fun m hm => by
        obtain ⟨i, hi, hmA, hiB, e1, e2, e3⟩ := ent m hm
        rw [e2]
        simp only
        rw [col_nat cB hiB, at_nat _ hiB, Nat.zero_add, at_nat _ hmA]
        refine ⟨trivial, by omega, keeps_back h e3 (kinds h hr u hi hmA hiB e1), ?_⟩
        unfold bkK
        simp only
        rw [col_nat cB hiB, Int.toNat_natCast]
        have hrep : i < (Go.Jx.S.rep (S.colsOf B r.2.1).length S.zGive).length := by unfold Go.Jx.S.rep; simpa using hiB
        rw [at_nat _ hrep]
        have hm2 : (Go.Jx.S.rep (S.colsOf B r.2.1).length S.zGive)[i] ∈ List.replicate (S.colsOf B r.2.1).length S.zGive := List.getElem_mem (l := Go.Jx.S.rep (S.colsOf B r.2.1).length S.zGive) hrep
        rw [List.eq_of_mem_replicate hm2]; rfl) fun m m' hm hm' hlt he => by
          obtain ⟨i, hi, hmA, hiB, e1, e2, _⟩ := ent m hm
          obtain ⟨i', hi', hmA', hiB', e1', e2', _⟩ := ent m' hm'
          unfold bkK at he
          rw [e2, e2'] at he
          simp only at he
          rw [col_nat cB hiB, col_nat cB hiB', Int.toNat_natCast, Int.toNat_natCast] at he
          subst he
          rw [e1] at e1'
          omega
      rw [hg]
  simp only [List.length_nil, Nat.zero_add] at o2
  refine ⟨out, ?_⟩
  unfold S.Back
  rw [if_neg (by simpa using hk), o1]
  simp only
  rw [if_neg (fun hh => hh (by rw [o2, ← hlA, h.len]))]
end
end Go.Proofs.Ytcnhjofpmpipfaa
end

/- Back of Back; converting there and back. -/
section
set_option linter.unusedVariables false
set_option maxRecDepth 100000
namespace Go.Proofs.Ytcnhjofpmpipfaa
open Go Go.Sx Go.RowKit Go.Jx
theorem made_one {x : DGive} (h : x.2.1 = 1) (ca : List DCol) (vs : List DVal) (c : DCol) : S.made x ca vs c = (S.src x ca vs, true) := by
  unfold S.made
  simp [h]
theorem cvRow_ones {ca : List DCol} {vs : List DVal} {gs : List DGive} {cs : List DCol} (h : ∀ i (h : i < gs.length), gs[i].2.1 = 1) : ∃ ws, cvRow ca vs gs cs = some ws := by
  cases hr : cvRow ca vs gs cs with
  | some ws => exact ⟨ws, rfl⟩
  | none =>
    obtain ⟨k, h1, h2, h3⟩ := cvRow_none.1 hr
    rw [made_one (h k h1)] at h3
    cases h3
section
variable {A B : List DForm} {l b : List DRule}
theorem und_at {r q : DRule} (u : Und A B l r q) (cB : ColsOK (S.colsOf B r.2.1)) {k : Nat} (hk : k < q.2.2.length) : ∃ (i : Nat) (hi : i < r.2.2.length) (hkA : k < (S.colsOf A r.1).length) (hiB : i < (S.colsOf B r.2.1).length), S.col (S.colsOf A r.1) r.2.2[i].1 = k ∧ q.2.2[k].2.1 = 1 ∧ S.col (S.colsOf B r.2.1) q.2.2[k].1 = i ∧ q.2.2[k].1 = (S.colsOf B r.2.1)[i].1 := by
  have hkA : k < (S.colsOf A r.1).length := by rw [← u.n1, ← u.n3]; exact hk
  obtain ⟨i, hi, e⟩ := u.bwd k hkA
  obtain ⟨k', h1, h2, h3, h4, h5, h6⟩ := u.fwd i hi
  have hkk : k' = k := by rw [e] at h4; omega
  subst hkk
  exact ⟨i, hi, hkA, h3, h4, by rw [h5], by rw [h5]; exact col_nat cB h3, by rw [h5]⟩
/-- There and back, for an object. -/
theorem node_both (h : BackOK A B l b) {g : DGraph} (hg : GraphOK A g) {n : DNode} (hn : n ∈ g.1) : ∃ m, cvNode A B l n = some m ∧ cvNode B A b m = some n := by
  obtain ⟨f, _, _, f3, f4⟩ := form_get (hg.has n hn)
  obtain ⟨m1, m2⟩ := ruleOf_mem (l := l) (c := n.1) (by rw [← f4]; exact h.ra.all f f3)
  obtain ⟨q, q1, u⟩ := und_ex h m1
  have cB := colsOf_ok h.fb (h.ra.has _ m1).2
  have hv := (graph_val hg hn).1
  revert u cB m1
  generalize hr : (S.ruleOf l n.1).1 = r at *
  intro m1 u cB
  obtain ⟨ws, hws⟩ := cvRow_ones (ca := S.colsOf A n.1) (vs := n.2) (gs := r.2.2) (cs := S.colsOf B r.2.1) u.how
  obtain ⟨w1, w2⟩ := cvRow_some u.n2 hws
  refine ⟨(r.2.1, ws), by unfold cvNode; rw [hr, hws]; rfl, ?_⟩
  have hq := ruleOf_back h q1
  rw [u.cls] at hq
  have qhow : ∀ k (hk : k < q.2.2.length), q.2.2[k].2.1 = 1 := fun k hk => by
    obtain ⟨_, _, _, _, _, e2, _⟩ := und_at u cB hk
    exact e2
  obtain ⟨vs, hvs⟩ := cvRow_ones (ca := S.colsOf B r.2.1) (vs := ws) (gs := q.2.2) (cs := S.colsOf A q.2.1) qhow
  have hql : q.2.2.length = (S.colsOf A q.2.1).length := by rw [u.n3, u.n1, u.to]
  obtain ⟨v1, v2⟩ := cvRow_some hql hvs
  unfold cvNode
  simp only [hq, hvs, Option.map_some, Option.some.injEq]
  refine Prod.ext (by rw [u.to, m2]) (List.ext_getElem (by rw [v1, u.n3, u.n1, hv, m2]) fun k hk1 hk2 => ?_)
  have hkq : k < q.2.2.length := by rw [← v1]; exact hk1
  obtain ⟨_, e⟩ := v2 k hkq (by rw [← hql]; exact hkq) hk1
  obtain ⟨i, hi, hkA, hiB, e1, e2, e3, _⟩ := und_at u cB hkq
  have hiw : i < ws.length := by rw [w1]; exact hi
  obtain ⟨_, e4⟩ := w2 i hi hiB hiw
  rw [e, made_one e2]
  unfold S.src
  rw [e3, at_nat _ hiw, e4, made_one (u.how i hi)]
  unfold S.src
  rw [← m2, e1, at_nat _ hk2]
theorem all_both {A B : List DForm} {l b : List DRule} : ∀ {ns : List DNode}, (∀ n ∈ ns, ∃ m, cvNode A B l n = some m ∧ cvNode B A b m = some n) → ∃ ms, cvAll A B l ns = some ms ∧ cvAll B A b ms = some ns
  | [], _ => ⟨[], rfl, rfl⟩
  | n :: ns, h => by
    obtain ⟨m, h1, h2⟩ := h n List.mem_cons_self
    obtain ⟨ms, k1, k2⟩ := all_both (ns := ns) fun n' hn' => h n' (List.mem_cons_of_mem _ hn')
    exact ⟨m :: ms, by rw [cvAll, h1, k1]; rfl, by rw [cvAll, h2, k2]; rfl⟩
theorem cvAll_congr {A B : List DForm} {l l' : List DRule} : ∀ {ns : List DNode}, (∀ n ∈ ns, cvNode A B l n = cvNode A B l' n) → cvAll A B l ns = cvAll A B l' ns
  | [], _ => rfl
  | n :: ns, h => by rw [cvAll, cvAll, h n List.mem_cons_self, cvAll_congr fun m hm => h m (List.mem_cons_of_mem _ hm)]
/-- Undone twice, an object is converted as by the rules. -/
theorem node_again {again : List DRule} (h : BackOK A B l b) (h' : BackOK B A b again) {g : DGraph} (hg : GraphOK A g) {n : DNode} (hn : n ∈ g.1) : cvNode A B again n = cvNode A B l n := by
  obtain ⟨f, _, _, f3, f4⟩ := form_get (hg.has n hn)
  obtain ⟨m1, m2⟩ := ruleOf_mem (l := l) (c := n.1) (by rw [← f4]; exact h.ra.all f f3)
  obtain ⟨q, q1, u⟩ := und_ex h m1
  have cB := colsOf_ok h.fb (h.ra.has _ m1).2
  revert u cB m1
  generalize hr : (S.ruleOf l n.1).1 = r at *
  intro m1 u cB
  obtain ⟨s, s1, v⟩ := und_ex h' q1
  have hs := ruleOf_back h' s1
  have hsn : s.1 = n.1 := by rw [v.cls, u.to, m2]
  have hsr : s.2.1 = r.2.1 := by rw [v.to, u.cls]
  rw [hsn] at hs
  unfold cvNode
  rw [hs, hr]
  simp only [hsr]
  congr 1
  have cA : ColsOK (S.colsOf A q.2.1) := by rw [u.to]; exact colsOf_ok h.fa (h.ra.has _ m1).1
  refine cvRow_congr (by rw [v.n3, u.n3]) fun i h1 h1' h2 => ?_
  obtain ⟨k, hk, hiB, hkA, e1, e2, e3, e4⟩ := und_at v cA h1
  obtain ⟨i', hi', hkA', hiB', d1, d2, d3, d4⟩ := und_at u cB hk
  have hii : i' = i := by
    rw [← u.cls, e1] at d3
    omega
  subst hii
  rw [made_one e2, made_one (u.how _ hi')]
  congr 1
  unfold S.src
  congr 1
  rw [u.to, m2] at e3
  rw [m2] at d1
  rw [e3, d1]
/-- The law of undoing. -/
theorem back_again {g : DGraph} (hb : S.Back A B l = (b, true, 0)) : ∃ again, S.Back B A b = (again, true, 0) ∧ S.checkRules B A b = 0 ∧ again.length = l.length ∧ (S.checkG A g = 0 →
    (S.convert A B l g).2.2 = 0 ∧ (S.convert B A b (S.convert A B l g).1).2.2 = 0 ∧ (S.convert A B again g).2.2 = 0 ∧ (S.convert B A b (S.convert A B l g).1).1 = g ∧ (S.convert A B l g).1 = (S.convert A B again g).1) := by
  have h := backOK hb
  obtain ⟨again, ha⟩ := back_back h
  have h' := backOK ha
  have two : ∀ {x y : Int}, x = 0 → y = 0 → S.first [x, y] = 0 := fun hx hy => by subst hx; subst hy; rfl
  have kBA : S.checkRules B A b = 0 := by
    unfold S.checkRules
    rw [if_pos (two h.cb h.ca)]
    exact (rulesOK_iff _ _ _).2 (rules_back h)
  have kAB : S.checkRules A B l = 0 := by
    unfold S.checkRules
    rw [if_pos (two h.ca h.cb)]
    exact (rulesOK_iff _ _ _).2 h.ra
  have kAB' : S.checkRules A B again = 0 := by
    unfold S.checkRules
    rw [if_pos (two h.ca h.cb)]
    exact (rulesOK_iff _ _ _).2 (rules_back h')
  refine ⟨again, ha, kBA, by rw [h'.len, h.len], fun hc => ?_⟩
  have hgc : S.check A g = 0 := by
    unfold S.checkG at hc
    rwa [if_neg (by simpa using h.ca)] at hc
  have hG := (graphOK_iff _ _).1 hgc
  obtain ⟨ms, c1, c2⟩ := all_both (ns := g.1) fun n hn => node_both h hG hn
  have c3 : cvAll A B again g.1 = some ms := by rw [cvAll_congr fun n hn => node_again h h' hG hn]; exact c1
  have hG2 := conv_ok h.fa h.fb h.ra hG c1
  have hgc2 : S.check B (ms, g.2) = 0 := (graphOK_iff _ _).2 hG2
  rw [convert_ok kAB hgc, convert_ok kAB' hgc, (cvGo_all A B l g.2 g.1 0 []).1 ms c1, (cvGo_all A B again g.2 g.1 0 []).1 ms c3]
  simp only [List.nil_append]
  rw [convert_ok kBA hgc2, (cvGo_all B A b g.2 ms 0 []).1 g.1 c2]
  exact ⟨trivial, rfl, trivial, rfl, trivial⟩
end
end Go.Proofs.Ytcnhjofpmpipfaa
end

/- PackBackAgain: the law function answers yes on all data. -/
section
set_option linter.unusedVariables false
set_option maxRecDepth 100000
namespace Go.Proofs.Ytcnhjofpmpipfaa
open Go Go.Sx Go.RowKit Go.Jx
theorem cond_true_or' {b : Bool} {x : Option (Bool × Unit)} (h : x = some (true, ())) : cond b (some (true, ())) x = some (true, ()) := by
  cases b
  · exact h
  · rfl
theorem back_nil (A B : List DForm) (l : List DRule) : (S.Back A B l).1 = [] ∨ (S.Back A B l).2 = (true, 0) := by
  unfold S.Back
  by_cases h : S.checkRules A B l = 0
  · rw [if_neg (by simpa using h)]
    cases S.bkAll A l B [] with
    | none => left; rfl
    | some out =>
      by_cases he : out.length = l.length
      · right; simp only [if_neg (show ¬ ¬ out.length = l.length from fun hh => hh he)]
      · left; simp only [if_pos (show ¬ out.length = l.length from he)]
  · left; rw [if_pos h]
theorem F_l_PackBackAgain_eq (lf : Nat) (A B : List DForm) (l : List DRule) (g : DGraph) : F_l_PackBackAgain lf A B l g = some (true, ()) := by
  simp only [F_l_PackBackAgain, R_l_PackBackAgain_in, Prod.eta, ieqI_eq, oL, ieq_nat]
  refine cond_true_or' (cond_true_or' (cond_true_or' (cond_true_or' ?_)))
  rcases back_nil A B l with h | h
  · have e0 : decide (Int.ofNat (List.length (S.Back A B l).1) = 0) = true := by rw [h]; rfl
    by_cases hq : (S.Back A B l).2 = (true, 0)
    case neg =>
      rw [e0]
      by_cases h1 : (S.Back A B l).2.2 = 0
      · cases h2 : (S.Back A B l).2.1 with
        | true => exact absurd (Prod.ext h2 h1) hq
        | false => rw [decide_eq_true h1]; rfl
      · rw [decide_eq_false h1]; rfl
    have hb : S.Back A B l = ([], true, 0) := Prod.ext h hq
    obtain ⟨again, k1, k2, k3, k4⟩ := back_again (g := g) hb
    rw [hb]
    simp only [k1, k2, k3]
    by_cases hg : S.checkG A g = 0
    case neg => rw [decide_eq_false hg]; simp
    obtain ⟨q1, q2, q3, q4, q5⟩ := k4 hg
    have s1 : S.sameGraphs (S.convert B A [] (S.convert A B l g).1).1 g = true := decide_eq_true q4
    have s2 : S.sameGraphs (S.convert A B l g).1 (S.convert A B again g).1 = true := decide_eq_true q5
    simp [hg, q1, q2, q3, s1, s2]
  · have hb : S.Back A B l = ((S.Back A B l).1, true, 0) := Prod.ext rfl h
    obtain ⟨again, k1, k2, k3, k4⟩ := back_again (g := g) hb
    revert k1 k2 k3 k4
    generalize (S.Back A B l).1 = b
    intro k1 k2 k3 k4
    rw [h]
    simp only [k1, k2, k3]
    by_cases hg : S.checkG A g = 0
    case neg => rw [decide_eq_false hg]; simp
    obtain ⟨q1, q2, q3, q4, q5⟩ := k4 hg
    have s1 : S.sameGraphs (S.convert B A b (S.convert A B l g).1).1 g = true := decide_eq_true q4
    have s2 : S.sameGraphs (S.convert A B l g).1 (S.convert A B again g).1 = true := decide_eq_true q5
    simp [hg, q1, q2, q3, s1, s2]
theorem con_l_PackBackAgain (hs : Con Try.prog 15 sp_l_sanity) : Con Try.prog id_l_PackBackAgain sp_l_true4 := mk_l_PackBackAgain ⟨con_l_fewForms, con_l_few, con_l_fewRules, hs, con_r_SameGraphs, con_p_Back, con_p_Check, con_p_Convert, con_p_CheckRules, trivial⟩ fun x y hx h => ⟨0, (F_l_PackBackAgain_eq _ _ _ _ _).trans h⟩
end Go.Proofs.Ytcnhjofpmpipfaa
end

/- PackBackAgain's contract. -/
section
set_option linter.unusedVariables false
namespace Go.Proofs.Ytcnhjofpmpipfaa
open Go Go.Sx Go.RowKit Go.Jx
theorem con_PackBackAgain : Con Try.prog id_l_PackBackAgain sp_l_true4 := con_l_PackBackAgain con_l_sanity
end Go.Proofs.Ytcnhjofpmpipfaa
end
