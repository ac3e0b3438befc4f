/- A region that draws its order: whatever order, it comes to what one behind the other comes to. -/
import Derived.Test.YtcnhjofpmpipfaaIxh
import Derived.OrdersIn
set_option linter.unusedVariables false
namespace Go.Ix
open Go Go.Sx Go.RowKit
universe u

/-- One more than the last of those below k that are in D and write; 0: none does. -/
def ix (D wt : Nat → Bool) : Nat → Nat
  | 0 => 0
  | k + 1 => if D k = true ∧ wt k = true then k + 1 else ix D wt k
theorem ix_hit {D wt : Nat → Bool} {k : Nat} (h : D k = true ∧ wt k = true) : ix D wt (k + 1) = k + 1 := if_pos h
theorem ix_miss {D wt : Nat → Bool} {k : Nat} (h : ¬ (D k = true ∧ wt k = true)) : ix D wt (k + 1) = ix D wt k := if_neg h
theorem ix_agree {D wt : Nat → Bool} {j : Nat} (h1 : ∀ i, i < j → wt i = true → D i = true) : ∀ n, j ≤ n → (∀ i, j ≤ i → i < n → wt i = true → D i = false) → ix D wt n = ix (fun _ => true) wt j := by
  have low : ∀ k, k ≤ j → ix D wt k = ix (fun _ => true) wt k := by
    intro k
    induction k with
    | zero => intro _; rfl
    | succ k ih =>
      intro hk
      by_cases hw : wt k = true
      · rw [ix_hit ⟨h1 k (by omega) hw, hw⟩, ix_hit ⟨rfl, hw⟩]
      · rw [ix_miss (fun h => hw h.2), ix_miss (fun h => hw h.2)]; exact ih (by omega)
  intro n
  induction n with
  | zero => intro hj _; have e : j = 0 := by omega
            subst e; rfl
  | succ n ih =>
    intro hj h2
    by_cases he : j = n + 1
    · rw [← he]; exact low j (Nat.le_refl _)
    · rw [ix_miss (fun h => by
        have := h2 n (by omega) (by omega) h.2
        rw [this] at h; exact absurd h.1 (by simp))]
      exact ih (by omega) fun i a b c => h2 i a (by omega) c
theorem ix_all_le (wt : Nat → Bool) : ∀ j, ix (fun _ => true) wt j ≤ j
  | 0 => Nat.le_refl _
  | j + 1 => by
    unfold ix
    split
    · exact Nat.le_refl _
    · exact Nat.le_succ_of_le (ix_all_le wt j)
theorem ix_le (D wt : Nat → Bool) : ∀ j, ix D wt j ≤ j
  | 0 => Nat.le_refl _
  | j + 1 => by
    unfold ix
    split
    · exact Nat.le_refl _
    · exact Nat.le_succ_of_le (ix_le D wt j)
theorem ix_set {D D' wt : Nat → Bool} {j : Nat} (hD : ∀ i, D' i = true ↔ D i = true ∨ i = j) : ∀ n, (wt j = true → ∀ i, j < i → i < n → wt i = true → D i = false) → ix D' wt n = if j < n ∧ wt j = true then j + 1 else ix D wt n := by
  intro n
  induction n with
  | zero => intro _; rfl
  | succ n ih =>
    intro h2
    have ih := ih fun a i b c d => h2 a i b (by omega) d
    by_cases hj : n = j
    · subst hj
      by_cases hw : wt n = true
      · rw [ix_hit ⟨(hD n).2 (.inr rfl), hw⟩, if_pos ⟨by omega, hw⟩]
      · rw [ix_miss (fun h => hw h.2), if_neg (fun h => hw h.2), ih, if_neg (fun h => hw h.2), ix_miss (fun h => hw h.2)]
    · have hdd : D' n = true ↔ D n = true := ⟨fun h => ((hD n).1 h).resolve_right hj, fun h => (hD n).2 (.inl h)⟩
      by_cases hb : D n = true ∧ wt n = true
      · rw [ix_hit ⟨hdd.2 hb.1, hb.2⟩]
        have hc : ¬ (j < n + 1 ∧ wt j = true) := fun hc => by
          have := h2 hc.2 n (by omega) (by omega) hb.2
          rw [this] at hb; exact absurd hb.1 (by simp)
        rw [if_neg hc, ix_hit hb]
      · rw [ix_miss (fun h => hb ⟨hdd.1 h.1, h.2⟩), ih]
        by_cases hc : j < n ∧ wt j = true
        · rw [if_pos hc, if_pos ⟨by omega, hc.2⟩]
        · rw [if_neg hc, if_neg (fun h => hc ⟨by omega, h.2⟩), ix_miss hb]

/-- Only the ids below k. -/
def Env.bel (E : Env) (k : Nat) : Env := { E with A := fun id => E.A id ∧ id < k }
theorem Env.bel_le {E E' : Env} (h : E.Le E') (k : Nat) : (E.bel k).Le (E'.bel k) :=
  ⟨fun id ha => let ⟨a, b, c⟩ := h.alw id ha.1; ⟨⟨a, ha.2⟩, b, c⟩, h.tr⟩
theorem Env.bel_mono (E : Env) {k k' : Nat} (h : k ≤ k') : (E.bel k).Le (E.bel k') := ⟨fun id ha => ⟨⟨ha.1, Nat.lt_of_lt_of_le ha.2 h⟩, rfl, rfl⟩, Tr.refl _ _⟩
theorem Env.bel_self (E : Env) (k : Nat) : (E.bel k).Le E := ⟨fun id ha => ⟨ha.1, rfl, rfl⟩, Tr.refl _ _⟩
theorem OR.bel {E : Env} {id k k' : Nat} {o : IObj} (h : k ≤ k') (ho : OR (E.bel k) id o) : OR (E.bel k') id o := by
  cases o with
  | dead => trivial
  | row cs => obtain ⟨cells, t, h1, h2, h3, h4⟩ := ho; exact ⟨cells, t, h1, h2, h3, h4.mono (E.bel_mono h)⟩
  | map es => obtain ⟨ents, c, h1, h2, h3⟩ := ho; exact ⟨ents, c, h1, h2.mono (E.bel_mono h), h3.mono (E.bel_mono h)⟩
  | iter s p => exact ho
  | defs on => exact ho
  | loop st pend nt fr ps assign body D => obtain ⟨fn, tmps, h1, h2, h3⟩ := ho; exact ⟨fn, tmps, h1, h2.mono (E.bel_mono h), ((E.bel_mono h).alw _ h3).1⟩
theorem OR.of_bel {E : Env} {id k : Nat} {o : IObj} (ho : OR (E.bel k) id o) : OR E id o := by
  cases o with
  | dead => trivial
  | row cs => obtain ⟨cells, t, h1, h2, h3, h4⟩ := ho; exact ⟨cells, t, h1, h2, h3, h4.mono (E.bel_self k)⟩
  | map es => obtain ⟨ents, c, h1, h2, h3⟩ := ho; exact ⟨ents, c, h1, h2.mono (E.bel_self k), h3.mono (E.bel_self k)⟩
  | iter s p => exact ho
  | defs on => exact ho
  | loop st pend nt fr ps assign body D => obtain ⟨fn, tmps, h1, h2, h3⟩ := ho; exact ⟨fn, tmps, h1, h2.mono (E.bel_self k), ((E.bel_self k).alw _ h3).1⟩
/-- From one environment to another where the block is the same. -/
theorem OR.mv {E E' : Env} (e : E.Le E') {id : Nat} {o : IObj} (hρ : E'.ρ id = E.ρ id) (hκ : E'.κ id = E.κ id) (hs : E'.w.heap[E.ρ id]? = E.w.heap[E.ρ id]?) (h : OR E id o) : OR E' id o := by
  cases o with
  | dead => trivial
  | row cs => obtain ⟨cells, t, h1, h2, h3, h4⟩ := h; exact ⟨cells, t, by rw [hρ, hs, h1], by rw [hκ, h2], h3, h4.mono e⟩
  | map es => obtain ⟨ents, c, h1, h2, h3⟩ := h; exact ⟨ents, c, by rw [hρ, hs, h1], h2.mono e, h3.mono e⟩
  | iter s p => show _ = _; rw [hρ, hs]; exact h
  | defs on => show _ = _; rw [hρ, hs]; exact h
  | loop st pend nt fr ps assign body D =>
    obtain ⟨fn, tmps, h1, h2, h3⟩ := h
    obtain ⟨b1, b2, _⟩ := e.alw D h3
    exact ⟨fn, tmps, by rw [hρ, hs, h1, b2], h2.mono e, b1⟩

/-- The course of a region's operations, one behind the other, and why their order does not matter. -/
structure Reg (P : Program) (tt : Nat → Option TI) (nt : Nat) (cl : Cl) (ops : List Oper) (fr : Nat → PT IV) (S : Nat → IS) (v : Nat → IV) (rd wr : Nat → Nat) (run : Nat → Bool) (B : Nat → Nat) (Wr : Nat → Nat → Bool) : Prop where
  step : ∀ i o, ops[i]? = some o → run i = wantI ops nt (fr i) o.guard ∧ (run i = true → istep P tt nt cl (fr i) (S i) o = some ⟨v i, S (i + 1), rd i, wr i⟩) ∧
    (run i = false → v i = .tup [] ∧ S (i + 1) = S i) ∧ fr (i + 1) = putD o.dst (v i) (fr i)
  mono : ∀ i, i < ops.length → (S i).next ≤ (S (i + 1)).next
  small : ∀ i, i < ops.length → ∀ id, (rd i).testBit id = true ∨ (wr i).testBit id = true → id < (S i).next
  wrs : ∀ i id, i < ops.length → (Wr i id = true ↔ (wr i).testBit id = true ∨ ((S i).next ≤ id ∧ id < (S (i + 1)).next))
  back : ∀ (i : Nat) (o : Oper), ops[i]? = some o → ∀ e ∈ o.after, Region.binds .any e = true → e.on < i
  bef : ∀ (i : Nat) (o : Oper) (j : Nat), ops[i]? = some o → (B i).testBit j = true → ∃ e, e ∈ o.after ∧ Region.binds .any e = true ∧ (j = e.on ∨ (B e.on).testBit j = true)
  free : ∀ (i j : Nat) (oi oj : Oper), i < j → ops[i]? = some oi → ops[j]? = some oj → (B j).testBit i = false →
    oi.apart ops.toArray oj = true ∧ (∀ id, Wr i id = true → Wr j id = false ∧ (rd j).testBit id = false) ∧ (∀ id, (rd i).testBit id = true → Wr j id = false)
  frame : ∀ i, i < ops.length → ∀ id, id < (S i).next → (wr i).testBit id = false → (S (i + 1)).H id = (S i).H id
namespace Reg
section
variable {P : Program} {tt : Nat → Option TI} {nt : Nat} {cl : Cl} {ops : List Oper} {fr : Nat → PT IV} {S : Nat → IS} {v : Nat → IV} {rd wr : Nat → Nat} {run : Nat → Bool} {B : Nat → Nat} {Wr : Nat → Nat → Bool}
variable {F : Fence} {Q : Exit → Act → World → Prop} {T : TW} {E0 : Env}

theorem mono_le (R : Reg P tt nt cl ops fr S v rd wr run B Wr) : ∀ {i j : Nat}, i ≤ j → j ≤ ops.length → (S i).next ≤ (S j).next := by
  intro i j hij
  induction j with
  | zero => intro _; rw [show i = 0 by omega]; exact Nat.le_refl _
  | succ j ih =>
    intro hj
    by_cases h : i = j + 1
    · rw [h]; exact Nat.le_refl _
    · exact Nat.le_trans (ih (by omega) (by omega)) (R.mono j (by omega))
/-- Who writes a slot. -/
def wtS (ops : List Oper) (t i : Nat) : Bool := match dstAt ops i with | some d => Nat.beq d t | none => false
theorem wtS_iff {t i : Nat} : wtS ops t i = true ↔ dstAt ops i = some t := by
  unfold wtS
  cases h : dstAt ops i with
  | none => simp
  | some d => simp
theorem slot_at (R : Reg P tt nt cl ops fr S v rd wr run B Wr) (t : Nat) : ∀ j, j ≤ ops.length → slot (fr j) t = slot (fr (ix (fun _ => true) (wtS ops t) j)) t
  | 0, _ => rfl
  | j + 1, hj => by
    obtain ⟨_, _, _, h4⟩ := R.step j _ (List.getElem?_eq_getElem (by omega))
    have hd : dstAt ops j = (ops[j]'(by omega)).dst := by rw [dstAt_eq, List.getElem?_eq_getElem (by omega)]; rfl
    by_cases hw : wtS ops t j = true
    · rw [ix_hit ⟨rfl, hw⟩]
    · rw [ix_miss (fun h => hw h.2), ← R.slot_at t j (by omega), h4]
      have hne : (ops[j]'(by omega)).dst ≠ some t := fun e => hw (wtS_iff.2 (hd.trans e))
      cases e : (ops[j]'(by omega)).dst with
      | none => rfl
      | some d => rw [e] at hne; unfold putD; rw [slot_set, if_neg (fun h => hne (by rw [h]))]
theorem heap_at (R : Reg P tt nt cl ops fr S v rd wr run B Wr) (id : Nat) : ∀ j, j ≤ ops.length → id < (S j).next → (S j).H id = (S (ix (fun _ => true) (fun i => Wr i id) j)).H id
  | 0, _, _ => rfl
  | j + 1, hj, hid => by
    by_cases hw : Wr j id = true
    · rw [ix_hit (wt := fun i => Wr i id) ⟨rfl, hw⟩]
    · rw [ix_miss (wt := fun i => Wr i id) (fun h => hw h.2)]
      have h1 : ¬ ((wr j).testBit id = true ∨ ((S j).next ≤ id ∧ id < (S (j + 1)).next)) := fun h => hw ((R.wrs j id (by omega)).2 h)
      have h2 : id < (S j).next := by
        rcases Nat.lt_or_ge id (S j).next with h | h
        · exact h
        · exact absurd (.inr ⟨h, hid⟩) h1
      have h3 : (wr j).testBit id = false := by
        cases h : (wr j).testBit id with
        | false => rfl
        | true => exact absurd (.inl h) h1
      rw [R.frame j (by omega) id h2 h3]
      exact R.heap_at id j (by omega) h2

/-- What holds when those in D have been carried out. -/
structure Inv (ops : List Oper) (nt : Nat) (fr : Nat → PT IV) (S : Nat → IS) (Wr : Nat → Nat → Bool) (T : TW) (E0 : Env) (D : Nat → Bool) (E : Env) (a : Act) : Prop where
  objs : ∀ id, T.r id → E.A id → ∀ o, (S (ix D (fun i => Wr i id) ops.length)).H id = some o → OR (E.bel (S (ix D (fun i => Wr i id) ops.length)).next) id o
  own : ∀ id, T.r id → E.A id → Live (fun id => (S (ix D (fun i => Wr i id) ops.length)).H id) id → E.ρ id ∈ E.m
  inj : ∀ i j, T.r i → T.r j → E.A i → E.A j → Live (fun id => (S (ix D (fun i => Wr i id) ops.length)).H id) i → Live (fun id => (S (ix D (fun i => Wr i id) ops.length)).H id) j → E.ρ i = E.ρ j → i = j
  lo : ∀ b ∈ E.m, b < E.w.heap.size
  ids : ∀ id, E.A id → E0.A id ∨ ∃ i, i < ops.length ∧ D i = true ∧ (S i).next ≤ id ∧ id < (S (i + 1)).next
  stp : Stp T.w E0 (S 0).H E (fun id => (S (ix D (fun i => Wr i id) ops.length)).H id)
  size : a.tmps.size = nt
  slots : ∀ t, t < nt → VR (E.bel (S (ix D (wtS ops t) ops.length)).next) (slot (fr (ix D (wtS ops t) ops.length)) t) (a.tmps.getD t undef)
/-- Whatever the next operation reads or writes has just been written by those ahead of it. -/
structure Nx (ops : List Oper) (D : Nat → Bool) (B : Nat → Nat) (j : Nat) : Prop where
  lt : j < ops.length
  not : D j = false
  ahead : ∀ i, (B j).testBit i = true → D i = true
  closed : ∀ i, i < ops.length → D i = true → ∀ k, (B i).testBit k = true → D k = true
theorem ix_here {D : Nat → Bool} {j : Nat} {wt : Nat → Bool} (N : Nx ops D B j) (h1 : ∀ i, i < j → wt i = true → (B j).testBit i = true) (h2 : ∀ i, j < i → i < ops.length → wt i = true → (B i).testBit j = true) (hj : wt j = true → False ∨ True) :
    (∀ i, j < i → i < ops.length → wt i = true → D i = false) ∧ (D j = false → ix D wt ops.length = ix (fun _ => true) wt j) := by
  have ha : ∀ i, j < i → i < ops.length → wt i = true → D i = false := fun i hi hl hw => by
    cases hd : D i with
    | false => rfl
    | true =>
      have := N.closed i hl hd j (h2 i hi hl hw)
      rw [N.not] at this; cases this
  refine ⟨ha, fun hn => ?_⟩
  refine ix_agree (fun i hi hw => N.ahead i (h1 i hi hw)) _ (Nat.le_of_lt N.lt) fun i hi hl hw => ?_
  rcases Nat.lt_or_ge j i with h | h
  · exact ha i h hl hw
  · rw [show i = j by omega]; exact hn
theorem look_here (R : Reg P tt nt cl ops fr S v rd wr run B Wr) {D : Nat → Bool} {j : Nat} {oj : Oper} (N : Nx ops D B j) (hj : ops[j]? = some oj) {t : Nat} (ht : t ∈ oj.looksAt ops.toArray ∨ oj.dst = some t) :
    (∀ i, j < i → i < ops.length → wtS ops t i = true → D i = false) ∧ ix D (wtS ops t) ops.length = ix (fun _ => true) (wtS ops t) j := by
  have hw : ∀ i, wtS ops t i = true → ∃ oi, ops[i]? = some oi ∧ oi.dst = some t := fun i h => by
    have := wtS_iff.1 h
    rw [dstAt_eq] at this
    cases ho : ops[i]? with
    | none => rw [ho] at this; cases this
    | some oi => rw [ho] at this; exact ⟨oi, rfl, this⟩
  have h := ix_here (wt := wtS ops t) N (fun i hi h => by
    cases hb : (B j).testBit i with
    | true => rfl
    | false =>
      obtain ⟨oi, h1, h2⟩ := hw i h
      obtain ⟨k1, k2, k3⟩ := Oper.apart_spec (R.free i j oi oj hi h1 hj hb).1
      rcases ht with ht | ht
      · exact absurd ht (k1 t h2)
      · exact absurd ht (k2 t h2)) (fun i hi hl h => by
    cases hb : (B i).testBit j with
    | true => rfl
    | false =>
      obtain ⟨oi, h1, h2⟩ := hw i h
      obtain ⟨k1, k2, k3⟩ := Oper.apart_spec (R.free j i oj oi hi hj h1 hb).1
      rcases ht with ht | ht
      · exact absurd ht (k3 t h2)
      · exact absurd h2 (k2 t ht)) (fun _ => .inr trivial)
  exact ⟨h.1, h.2 N.not⟩
theorem touch_here (R : Reg P tt nt cl ops fr S v rd wr run B Wr) {D : Nat → Bool} {j : Nat} {oj : Oper} (N : Nx ops D B j) (hj : ops[j]? = some oj) {id : Nat} (ht : (rd j).testBit id = true ∨ Wr j id = true) :
    (∀ i, j < i → i < ops.length → Wr i id = true → D i = false) ∧ ix D (fun i => Wr i id) ops.length = ix (fun _ => true) (fun i => Wr i id) j := by
  have h := ix_here (wt := fun i => Wr i id) N (fun i hi h => by
    cases hb : (B j).testBit i with
    | true => rfl
    | false =>
      have hl : i < ops.length := Nat.lt_trans hi N.lt
      obtain ⟨_, k2, k3⟩ := R.free i j _ oj hi (List.getElem?_eq_getElem hl) hj hb
      obtain ⟨k4, k5⟩ := k2 id h
      rcases ht with ht | ht
      · rw [k5] at ht; cases ht
      · rw [k4] at ht; cases ht) (fun i hi hl h => by
    cases hb : (B i).testBit j with
    | true => rfl
    | false =>
      obtain ⟨_, k2, k3⟩ := R.free j i oj _ hi hj (List.getElem?_eq_getElem hl) hb
      rcases ht with ht | ht
      · have := k3 id ht; rw [this] at h; cases h
      · have := (k2 id ht).1; rw [this] at h; cases h) (fun _ => .inr trivial)
  exact ⟨h.1, h.2 N.not⟩
end
end Reg
end Go.Ix
