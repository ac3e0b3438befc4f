/- The interpreter's run of a region that draws its order: it is right. -/
import Derived.Test.YtcnhjofpmpipfaaIxl
set_option linter.unusedVariables false
namespace Go.Ix
open Go Go.Sx Go.RowKit
universe u

theorem newBits_spec {n n' : Nat} (h : n ≤ n') (id : Nat) : (newBits n n').testBit id = true ↔ n ≤ id ∧ id < n' := by
  unfold newBits
  have e : 2 ^ n' - 2 ^ n = 2 ^ n * (2 ^ (n' - n) - 1) := by
    rw [Nat.mul_sub, Nat.mul_one, ← Nat.pow_add, show n + (n' - n) = n' by omega]
  rw [e, Nat.testBit_two_pow_mul, Nat.testBit_two_pow_sub_one]
  simp only [Bool.and_eq_true, decide_eq_true_eq]
  omega
theorem bit_small {x n id : Nat} (hx : x < 2 ^ n) (h : x.testBit id = true) : id < n := by
  rcases Nat.lt_or_ge id n with h' | h'
  · exact h'
  · have := Nat.testBit_lt_two_pow (Nat.lt_of_lt_of_le hx (Nat.pow_le_pow_right (by omega) h'))
    rw [this] at h; cases h
def sA (rs : List Rec) (S : IS) (i : Nat) : IS := match rs[i]? with | some r => r.S | none => S
def wfA (rs : List Rec) (S : IS) (i : Nat) : Nat := match rs[i]? with | some r => r.wr ||| newBits r.S.next (sA rs S (i + 1)).next | none => 0
theorem ichk_spec : ∀ {rs : List Rec} {S : IS} {bs : List Nat} {acc : List (Nat × Nat)}, ichk rs S bs acc = true → ∀ (i : Nat) (r : Rec), rs[i]? = some r →
    (r.S.next ≤ (sA rs S (i + 1)).next ∧ r.rd < 2 ^ r.S.next ∧ r.wr < 2 ^ r.S.next) ∧
    (∀ m x, acc[m]? = some x → (bs.getD i 0).testBit m = false → x.2 &&& (r.rd ||| wfA rs S i) = 0 ∧ x.1 &&& wfA rs S i = 0) ∧
    (∀ k q, k < i → rs[k]? = some q → (bs.getD i 0).testBit (acc.length + k) = false → wfA rs S k &&& (r.rd ||| wfA rs S i) = 0 ∧ q.rd &&& wfA rs S i = 0)
  | [], S, bs, acc, h, i, r, hr => by simp at hr
  | r0 :: l, S, bs, acc, h, i, r, hr => by
    have hs1 : sA (r0 :: l) S 1 = headS l S := by cases l <;> rfl
    unfold ichk at h
    simp only [Bool.and_eq_true] at h
    rw [← hs1] at h
    obtain ⟨⟨⟨⟨h1, h2⟩, h3⟩, h4⟩, h5⟩ := h
    have hw0 : wfA (r0 :: l) S 0 = r0.wr ||| newBits r0.S.next (sA (r0 :: l) S 1).next := rfl
    have hwS : ∀ i, wfA (r0 :: l) S (i + 1) = wfA l S i := fun i => rfl
    cases i with
    | zero =>
      simp only [List.getElem?_cons_zero, Option.some.injEq] at hr
      subst hr
      refine ⟨⟨Nat.le_of_ble_eq_true h1, by simpa using h2, by simpa using h3⟩, fun m x hx hb => ?_, fun k q hk => absurd hk (by omega)⟩
      have := pairOK_spec h4 m x hx (by rw [Nat.zero_add]; cases bs with | nil => simp | cons b bs => simpa [List.headD] using hb)
      rw [hw0]; exact this
    | succ i =>
      have hr' : l[i]? = some r := by simpa using hr
      obtain ⟨k1, k2, k3⟩ := ichk_spec h5 i r hr'
      have hbs : bs.tail.getD i 0 = bs.getD (i + 1) 0 := by cases bs <;> simp
      rw [hbs] at k2 k3
      refine ⟨k1, fun m x hx hb => ?_, fun k q hk hq hb => ?_⟩
      · rw [hwS]
        have hm : m < acc.length := by
          rcases Nat.lt_or_ge m acc.length with h | h
          · exact h
          · rw [List.getElem?_eq_none h] at hx; cases hx
        exact k2 m x (by rw [List.getElem?_append_left hm]; exact hx) hb
      · rw [hwS]
        cases k with
        | zero =>
          simp only [List.getElem?_cons_zero, Option.some.injEq] at hq
          subst hq
          rw [hw0]
          exact k2 acc.length (r0.rd, _) (by simp) (by simpa using hb)
        | succ k =>
          rw [hwS]
          exact k3 k q (by omega) (by simpa using hq) (by rw [show (acc ++ [(r0.rd, r0.wr ||| newBits r0.S.next (sA (r0 :: l) S 1).next)]).length + k = acc.length + (k + 1) by simp; omega]; exact hb)
def orRd : List Rec → Nat
  | [] => 0
  | r :: l => r.rd ||| orRd l
def orWr : List Rec → Nat
  | [] => 0
  | r :: l => r.wr ||| orWr l
theorem orRd_spec {T : Nat → Prop} : ∀ {rs : List Rec}, tin T (orRd rs) → ∀ (i : Nat) (r : Rec), rs[i]? = some r → tin T r.rd
  | [], h, i, r, hr => by simp at hr
  | r0 :: l, h, i, r, hr => by
    obtain ⟨h1, h2⟩ := tin_or h
    cases i with
    | zero => simp only [List.getElem?_cons_zero, Option.some.injEq] at hr; subst hr; exact h1
    | succ i => exact orRd_spec h2 i r (by simpa using hr)
theorem orWr_spec {T : Nat → Prop} : ∀ {rs : List Rec}, tin T (orWr rs) → ∀ (i : Nat) (r : Rec), rs[i]? = some r → tin T r.wr
  | [], h, i, r, hr => by simp at hr
  | r0 :: l, h, i, r, hr => by
    obtain ⟨h1, h2⟩ := tin_or h
    cases i with
    | zero => simp only [List.getElem?_cons_zero, Option.some.injEq] at hr; subst hr; exact h1
    | succ i => exact orWr_spec h2 i r (by simpa using hr)
def iany (P : Program) (tt : Nat → Option TI) (nt : Nat) (cl : Cl) (ops : List Oper) (fr : PT IV) (S : IS) : Option FRes :=
  match irecs P tt nt cl ops ops fr S with
  | none => none
  | some q => cond (ichk q.l q.S (befs ops []) []) (some ⟨q.fr, q.S, orRd q.l, orWr q.l⟩) none
section
variable {P : Program} {tt : Nat → Option TI} {T : TW} {E : Env} {S : IS} {nt : Nat} {fr : PT IV} {a : Act} {cl : Cl} {F : Fence} {Q : Exit → Act → World → Prop}
theorem mem_zip {α : Type u} {l : List α} {i : Nat} {x : α} (h : l[i]? = some x) : (x, i) ∈ l.zipIdx := by
  obtain ⟨hi, rfl⟩ := List.getElem?_eq_some_iff.1 h
  rw [List.mem_iff_getElem?]
  exact ⟨i, by simp [hi]⟩
theorem reg_of {ops : List Oper} {q : Recs} (hfr : ClFr cl) (hok : regOK ops = true) (h : irecs P tt nt cl ops ops fr S = some q) (hc : ichk q.l q.S (befs ops []) [] = true) :
    Reg P tt nt cl ops q.frA q.SA q.vA q.rdA q.wrA q.runA (fun i => (befs ops []).getD i 0) (fun i id => (q.wrA i).testBit id || (Nat.ble (q.SA i).next id && Nat.blt id (q.SA (i + 1)).next)) := by
  obtain ⟨s1, s2, s3, s4⟩ := irecs_spec hfr h
  obtain ⟨b1, b2, b3⟩ := befs_spec ops []
  have hS : ∀ i, sA q.l q.S i = q.SA i := fun i => rfl
  have hget : ∀ i, i < ops.length → ∃ r, q.l[i]? = some r := fun i hi => ⟨_, List.getElem?_eq_getElem (by rw [s1]; exact hi)⟩
  have hSA : ∀ {i r}, q.l[i]? = some r → q.SA i = r.S ∧ q.rdA i = r.rd ∧ q.wrA i = r.wr := fun h => by
    simp [Recs.SA, Recs.rdA, Recs.wrA, h]
  have hmono : ∀ i, i < ops.length → (q.SA i).next ≤ (q.SA (i + 1)).next := fun i hi => by
    obtain ⟨r, hr⟩ := hget i hi
    obtain ⟨⟨k1, k2, k3⟩, _⟩ := ichk_spec hc i r hr
    rw [(hSA hr).1]; exact k1
  have hsmall : ∀ i, i < ops.length → ∀ id, (q.rdA i).testBit id = true ∨ (q.wrA i).testBit id = true → id < (q.SA i).next := fun i hi id hb => by
    obtain ⟨r, hr⟩ := hget i hi
    obtain ⟨⟨k1, k2, k3⟩, _⟩ := ichk_spec hc i r hr
    obtain ⟨e1, e2, e3⟩ := hSA hr
    rw [e2, e3] at hb; rw [e1]
    rcases hb with hb | hb
    · exact bit_small k2 hb
    · exact bit_small k3 hb
  have hwrs : ∀ i id, i < ops.length → (((q.wrA i).testBit id || (Nat.ble (q.SA i).next id && Nat.blt id (q.SA (i + 1)).next)) = true ↔ (q.wrA i).testBit id = true ∨ ((q.SA i).next ≤ id ∧ id < (q.SA (i + 1)).next)) := fun i id hi => by
    simp
  have hwf : ∀ i id, i < ops.length → (((q.wrA i).testBit id || (Nat.ble (q.SA i).next id && Nat.blt id (q.SA (i + 1)).next)) = true ↔ (wfA q.l q.S i).testBit id = true) := fun i id hi => by
    obtain ⟨r, hr⟩ := hget i hi
    obtain ⟨e1, e2, e3⟩ := hSA hr
    rw [hwrs i id hi]
    have : wfA q.l q.S i = r.wr ||| newBits r.S.next (q.SA (i + 1)).next := by simp only [wfA, hr]; rfl
    rw [this, Nat.testBit_or, Bool.or_eq_true, e3, e1]
    have hm := hmono i hi
    rw [e1] at hm
    rw [newBits_spec hm]
  simp only [regOK, Bool.and_eq_true] at hok
  refine ⟨s4, hmono, hsmall, hwrs, fun i o ho e he hb => ?_, fun i o j ho hb => ?_, fun i j oi oj hij hoi hoj hb => ?_, fun i hi id hid hw => ?_⟩
  · have h1 := (List.all_eq_true.1 hok.1) (o, i) (mem_zip ho)
    have h2 := (List.all_eq_true.1 h1) e (by simpa using he)
    simp only [hb, Bool.not_true, Bool.false_or] at h2
    simpa using h2
  · have h1 := b3 i o ho
    simp only [List.length_nil, Nat.zero_add] at h1
    rw [h1] at hb
    obtain ⟨e, e1, e2, e3⟩ := befOf_spec hb
    refine ⟨e, e1, e2, ?_⟩
    rcases e3 with e3 | e3
    · exact .inl e3
    · right
      simp only [List.getD_eq_getElem?_getD, List.getElem?_take] at e3 ⊢
      split at e3
      · exact e3
      · simp at e3
  · have hjl : j < ops.length := (List.getElem?_eq_some_iff.1 hoj).1
    have hil : i < ops.length := by omega
    refine ⟨?_, ?_⟩
    · have h1 := (List.all_eq_true.1 hok.2) (oj, j) (mem_zip hoj)
      have h2 := (List.all_eq_true.1 h1) (oi, i) (mem_zip hoi)
      have hlt : Nat.blt i j = true := by simpa using hij
      simp only [hlt, Bool.not_true, Bool.false_or, hb] at h2
      exact h2
    · obtain ⟨rj, hrj⟩ := hget j hjl
      obtain ⟨_, _, kj⟩ := ichk_spec hc j rj hrj
      obtain ⟨ri, hri⟩ := hget i hil
      obtain ⟨e1, e2, e3⟩ := hSA hrj
      obtain ⟨f1, f2, f3⟩ := hSA hri
      obtain ⟨c1, c2⟩ := kj i ri hij hri (by simpa using hb)
      have hno : ∀ id, (wfA q.l q.S j).testBit id = false → ((q.wrA j).testBit id || (Nat.ble (q.SA j).next id && Nat.blt id (q.SA (j + 1)).next)) = false := fun id hf => by
        cases hh : ((q.wrA j).testBit id || (Nat.ble (q.SA j).next id && Nat.blt id (q.SA (j + 1)).next)) with
        | false => rfl
        | true => rw [(hwf j id hjl).1 hh] at hf; cases hf
      refine ⟨fun id hid => ?_, fun id hid => ?_⟩
      · have h1 := and_zero c1 id ((hwf i id hil).1 hid)
        rw [Nat.testBit_or, Bool.or_eq_false_iff] at h1
        exact ⟨hno id h1.2, by rw [e2]; exact h1.1⟩
      · rw [f2] at hid
        exact hno id (and_zero c2 id hid)
  · obtain ⟨t1, t2, t3, t4⟩ := s4 i _ (List.getElem?_eq_getElem hi)
    cases hr : q.runA i with
    | true => exact (istep_fr hfr _ (t2 hr)).2 id hid hw
    | false => rw [(t3 hr).2]
theorem iany_sound {ops : List Oper} {rid : Nat} {q : FRes} (hm : P.follows .mixedOrders = true) (hF : F.plain = Fence.wide) (hcl : ClOK P cl) (hfr : ClFr cl) (htt : TT P tt) (hok : regOK ops = true) (p : Pre T E S) (hf : FR E nt fr a.tmps) (h : iany P tt nt cl ops fr S = some q) (hrd : tin T.r q.rd) (hwr : tin T.w q.wr)
    (hQ : ∀ E' a', FR E' nt q.fr a'.tmps → a'.defers = a.defers → Post T E S E' q.S → Fresh E S E' → Q .normal a' E'.w) : (Code.region rid ops.toArray true).wpIn F 0 P Q a E.w := by
  unfold iany at h
  split at h
  · cases h
  rename_i g hg
  cases hc : ichk g.l g.S (befs ops []) [] with
  | false => rw [hc] at h; cases h
  | true =>
  rw [hc, cond_true] at h
  cases h
  have R := reg_of hfr hok hg hc
  obtain ⟨s1, s2, s3, s4⟩ := irecs_spec hfr hg
  have hend : g.frA ops.length = g.fr ∧ g.SA ops.length = g.S := by
    have : g.l[ops.length]? = none := List.getElem?_eq_none (by rw [s1]; exact Nat.le_refl _)
    simp [Recs.frA, Recs.SA, this]
  refine wpIn_region_any hm ?_
  obtain ⟨q1, q2⟩ := Post.idle (w' := { E.w with drawn := E.w.drawn + 1 }) p ⟨rfl, rfl, rfl, Nat.le_refl _, fun _ _ _ => rfl⟩
  have p1 := q1.pre p
  have hf1 := hf.mono (q1.env p)
  have hbit : ∀ i, i < ops.length → ∃ r, g.l[i]? = some r ∧ g.rdA i = r.rd ∧ g.wrA i = r.wr := fun i hi => by
    have hi' : i < g.l.length := by rw [s1]; exact hi
    exact ⟨_, List.getElem?_eq_getElem hi', by simp [Recs.rdA, hi'], by simp [Recs.wrA, hi']⟩
  have I0 := R.inv_start (T := T) (a := a) (E0 := E.at_ { E.w with drawn := E.w.drawn + 1 }) (by rw [s3]; exact p1) (by rw [s2]; exact hf1)
  have hA := R.any_sound (T := T) (E0 := E.at_ { E.w with drawn := E.w.drawn + 1 }) (Q := Q) (ds := a.defers) hF hcl htt
    (fun j hj id hb => by obtain ⟨r, h1, h2, h3⟩ := hbit j hj; rw [h2] at hb; exact orRd_spec hrd j r h1 id hb)
    (fun j hj id hb => by obtain ⟨r, h1, h2, h3⟩ := hbit j hj; rw [h3] at hb; exact orWr_spec hwr j r h1 id hb)
    (by rw [s3]; exact p.nw) (by rw [s3]; exact p.bnd)
    (fun E' a' k1 k2 k3 k4 k5 k6 => by
      rw [hend.1] at k1
      rw [hend.2] at k3 k4 k5
      rw [s3] at k4 k6
      have hmono : S.next ≤ g.S.next := by
        have := R.mono_le (Nat.zero_le ops.length) (Nat.le_refl _)
        rwa [hend.2, s3] at this
      have hp : Post T (E.at_ { E.w with drawn := E.w.drawn + 1 }) S E' g.S := ⟨k3, k4, k5, hmono⟩
      exact hQ E' a' k1 k2 (Post.trans p q1 q2 hp) (q2.trans k6 (Nat.le_refl _)))
    ops.toArray.size (List.range ops.length) (Array.replicate ops.length false) (E.at_ { E.w with drawn := E.w.drawn + 1 }) a (by simp) List.nodup_range (fun i => by
      rw [List.mem_range]
      exact ⟨fun h => ⟨h, getD_replicate_false _ _⟩, fun h => h.1⟩) (by simp) (fun i o ho hi => by
        rw [getD_replicate_false] at hi; cases hi) I0 rfl
  have e : (E.at_ { E.w with drawn := E.w.drawn + 1 }).w = { E.w with drawn := E.w.drawn + 1 } := rfl
  rw [e] at hA
  simpa using hA
end
end Go.Ix
