/- An interpreter over values of its own, and how these stand for the machine's: values, objects, states. -/
import Derived.Test.YtcnhjofpmpipfaaMap
set_option linter.unusedVariables false
namespace Go.Ix
open Go Go.Sx Go.RowKit
universe u

/-! ### A map from numbers, as a tree -/
inductive PT (α : Type u) : Type u
  | leaf
  | node (v : Option α) (l r : PT α)
def PT.get {α : Type u} : PT α → Nat → Option α
  | .leaf, _ => none
  | .node v l r, n => cond (Nat.beq n 0) v (cond (Nat.beq (n % 2) 1) (l.get (n / 2)) (r.get ((n - 1) / 2)))
def PT.one {α : Type u} (x : α) : Nat → Nat → PT α
  | 0, _ => .node (some x) .leaf .leaf
  | f + 1, n => cond (Nat.beq n 0) (.node (some x) .leaf .leaf) (cond (Nat.beq (n % 2) 1) (.node none (PT.one x f (n / 2)) .leaf) (.node none .leaf (PT.one x f ((n - 1) / 2))))
def PT.set {α : Type u} (x : α) : PT α → Nat → PT α
  | .leaf, n => PT.one x n n
  | .node v l r, n => cond (Nat.beq n 0) (.node (some x) l r) (cond (Nat.beq (n % 2) 1) (.node v (l.set x (n / 2)) r) (.node v l (r.set x ((n - 1) / 2))))
theorem beq_t {a b : Nat} (h : a = b) : Nat.beq a b = true := by subst h; exact Nat.beq_refl a
theorem beq_f {a b : Nat} (h : a ≠ b) : Nat.beq a b = false := by
  cases e : Nat.beq a b with
  | false => rfl
  | true => exact absurd (Nat.eq_of_beq_eq_true e) h
theorem PT.get_one {α : Type u} (x : α) : ∀ (f n k : Nat), n ≤ f → (PT.one x f n).get k = if k = n then some x else none
  | 0, n, k, h => by
    obtain rfl : n = 0 := by omega
    by_cases hk : k = 0
    · subst hk; rfl
    · simp only [PT.one, PT.get, beq_f hk, cond_false, if_neg hk]
      cases Nat.beq (k % 2) 1 <;> rfl
  | f + 1, n, k, h => by
    by_cases hn : n = 0
    · subst hn
      by_cases hk : k = 0
      · subst hk; rfl
      · simp only [PT.one, PT.get, beq_f hk, cond_false, if_neg hk, Nat.beq_refl, cond_true]
        cases Nat.beq (k % 2) 1 <;> rfl
    · by_cases h2 : n % 2 = 1
      · simp only [PT.one, beq_f hn, cond_false, beq_t h2, cond_true, PT.get]
        by_cases hk : k = 0
        · subst hk; rw [if_neg (Ne.symm hn)]; rfl
        · by_cases hk2 : k % 2 = 1
          · simp only [beq_f hk, beq_t hk2, cond_false, cond_true]
            rw [PT.get_one x f _ _ (by omega)]
            by_cases e : k = n
            · subst e; simp
            · rw [if_neg e, if_neg (by omega)]
          · simp only [beq_f hk, beq_f hk2, cond_false]
            rw [if_neg (by omega)]
      · simp only [PT.one, beq_f hn, cond_false, beq_f h2, PT.get]
        by_cases hk : k = 0
        · subst hk; rw [if_neg (Ne.symm hn)]; rfl
        · by_cases hk2 : k % 2 = 1
          · simp only [beq_f hk, beq_t hk2, cond_false, cond_true]
            rw [if_neg (by omega)]
          · simp only [beq_f hk, beq_f hk2, cond_false]
            rw [PT.get_one x f _ _ (by omega)]
            by_cases e : k = n
            · subst e; simp
            · rw [if_neg e, if_neg (by omega)]
theorem PT.get_set {α : Type u} (x : α) : ∀ (t : PT α) (n k : Nat), (t.set x n).get k = if k = n then some x else t.get k
  | .leaf, n, k => by simp only [PT.set, PT.get_one x n n k (Nat.le_refl _)]; rfl
  | .node v l r, n, k => by
    by_cases hn : n = 0
    · subst hn
      by_cases hk : k = 0
      · subst hk; rfl
      · simp only [PT.set, PT.get, Nat.beq_refl, cond_true, beq_f hk, cond_false, if_neg hk]
    · by_cases h2 : n % 2 = 1
      · simp only [PT.set, beq_f hn, cond_false, beq_t h2, cond_true, PT.get]
        by_cases hk : k = 0
        · subst hk; rw [if_neg (Ne.symm hn)]; simp
        · by_cases hk2 : k % 2 = 1
          · simp only [beq_f hk, beq_t hk2, cond_false, cond_true, PT.get_set x l]
            by_cases e : k = n
            · subst e; simp
            · rw [if_neg e, if_neg (by omega)]
          · simp only [beq_f hk, beq_f hk2, cond_false]
            rw [if_neg (by omega)]
      · simp only [PT.set, beq_f hn, cond_false, beq_f h2, PT.get]
        by_cases hk : k = 0
        · subst hk; rw [if_neg (Ne.symm hn)]; simp
        · by_cases hk2 : k % 2 = 1
          · simp only [beq_f hk, beq_t hk2, cond_false, cond_true]
            rw [if_neg (by omega)]
          · simp only [beq_f hk, beq_f hk2, cond_false, PT.get_set x r]
            by_cases e : k = n
            · subst e; simp
            · rw [if_neg e, if_neg (by omega)]

/-! ### Values and objects -/
inductive IV : Type 1
  | bool (b : Bool)
  | int (k : IntKind) (n : Int)
  | str (s : ByteArray)
  | dsl (α : Type) (i : Dat α) (l : List α)
  | dptr (α : Type) (i : Dat α) (x : α) (off : Nat)
  | nilsl
  | sl (id off len s : Nat) (cap : Option Nat)
  | nilptr
  | ptr (id off : Nat)
  | nilmap
  | map (id : Nat)
  | nilfn
  | fn (f : Nat) (caps : List IV)
  | yield (id : Nat)
  | nili
  | iface (t : Nat) (v : IV)
  | agg (cs : List IV)
  | tup (vs : List IV)
inductive IObj : Type 1
  | dead
  | row (cs : List IV)
  | map (es : List (IV × IV))
  | iter (s : ByteArray) (p : Nat)
  | defs (on : Bool)
  | loop (st : LoopState) (pend : Option Code) (nt : Nat) (fr : PT IV) (ps : List Nat) (assign body : Code) (D : Nat)
def IObj.live : IObj → Bool
  | .dead => false
  | _ => true
def slot (fr : PT IV) (t : Nat) : IV := match fr.get t with | some v => v | none => .tup []
def cellsOf : IV → List IV
  | .agg cs => cs
  | v => [v]
/-- The value of one cell. -/
def one1 : IV → Bool
  | .agg _ => false
  | .tup _ => false
  | _ => true

/-- Where the objects lie: A the known ones, ρ their blocks, κ how many cells these have; m the blocks that are ours. -/
structure Env where
  ρ : Nat → Nat
  κ : Nat → Nat
  A : Nat → Prop
  m : List Nat
  w : World
structure Env.Le (E E' : Env) : Prop where
  alw : ∀ id, E.A id → E'.A id ∧ E'.ρ id = E.ρ id ∧ E'.κ id = E.κ id
  tr : Tr E.m E.w E'.m E'.w
theorem Env.Le.refl (E : Env) : E.Le E := ⟨fun _ h => ⟨h, rfl, rfl⟩, Tr.refl _ _⟩
theorem Env.Le.trans {a b c : Env} (h : a.Le b) (k : b.Le c) : a.Le c :=
  ⟨fun id ha => let ⟨h1, h2, h3⟩ := h.alw id ha; let ⟨k1, k2, k3⟩ := k.alw id h1; ⟨k1, k2.trans h2, k3.trans h3⟩, h.tr.trans k.tr⟩

inductive VR (E : Env) : IV → Value → Prop
  | bool (b : Bool) : VR E (.bool b) (.bool b)
  | int (k : IntKind) (n : Int) : VR E (.int k n) (.int k n)
  | str (s : ByteArray) : VR E (.str s) (.string s)
  | dsl {α : Type} {i : Dat α} {l : List α} {a : Option Addr} {cap : Nat} (h : SL E.m E.w a cap l) : VR E (.dsl α i l) (.slice a l.length cap)
  | dptr {α : Type} {i : Dat α} {x : α} {off : Nat} {ad : Addr} (h : At E.m E.w ad x) : VR E (.dptr α i x off) (.pointer (some ⟨ad.block, ad.off + off, none⟩))
  | nilsl : VR E .nilsl (.slice none 0 0)
  | sl {id off len s : Nat} {c : Option Nat} (cap : Nat) (hA : E.A id) (h1 : len ≤ cap) (h2 : cap < 9223372036854775808) (h3 : off + cap * s ≤ E.κ id) (h4 : ∀ x, c = some x → cap = x) (h5 : c = none → off + cap * s = E.κ id) :
      VR E (.sl id off len s c) (.slice (some ⟨E.ρ id, off, none⟩) len cap)
  | nilptr : VR E .nilptr (.pointer none)
  | ptr {id off : Nat} (hA : E.A id) : VR E (.ptr id off) (.pointer (some ⟨E.ρ id, off, none⟩))
  | nilmap : VR E .nilmap (.map none)
  | map {id : Nat} (hA : E.A id) : VR E (.map id) (.map (some (E.ρ id)))
  | nilfn : VR E .nilfn .nilFunc
  | fn {f : Nat} {cs : List IV} {us : List Value} (hl : cs.length = us.length) (h : ∀ i (h : i < cs.length) (h' : i < us.length), VR E cs[i] us[i]) : VR E (.fn f cs) (.func (.func f) #[] us.toArray)
  | yield {id : Nat} (hA : E.A id) : VR E (.yield id) (.func (.yield (E.ρ id)) #[] #[])
  | nili : VR E .nili .nilIface
  | iface {t : Nat} {v : IV} {u : Value} (h : VR E v u) : VR E (.iface t v) (.iface t u)
  | agg {cs : List IV} {us : List Value} (hl : cs.length = us.length) (h : ∀ i (h : i < cs.length) (h' : i < us.length), VR E cs[i] us[i]) : VR E (.agg cs) (.agg us.toArray)
  | tup {cs : List IV} {us : List Value} (hl : cs.length = us.length) (h : ∀ i (h : i < cs.length) (h' : i < us.length), VR E cs[i] us[i]) : VR E (.tup cs) (.tuple us.toArray)
theorem VR.mono {E E' : Env} (e : E.Le E') {v : IV} {u : Value} (h : VR E v u) : VR E' v u := by
  induction h with
  | bool b => exact .bool b
  | int k n => exact .int k n
  | str s => exact .str s
  | dsl h => exact .dsl (h.mono e.tr)
  | dptr h => exact .dptr (h.mono e.tr)
  | nilsl => exact .nilsl
  | sl cap hA h1 h2 h3 h4 h5 =>
    obtain ⟨a1, a2, a3⟩ := e.alw _ hA
    rw [← a2]; exact .sl cap a1 h1 h2 (by rw [a3]; exact h3) h4 (by rw [a3]; exact h5)
  | nilptr => exact .nilptr
  | ptr hA => obtain ⟨a1, a2, _⟩ := e.alw _ hA; rw [← a2]; exact .ptr a1
  | nilmap => exact .nilmap
  | map hA => obtain ⟨a1, a2, _⟩ := e.alw _ hA; rw [← a2]; exact .map a1
  | nilfn => exact .nilfn
  | fn hl _ ih => exact .fn hl ih
  | yield hA => obtain ⟨a1, a2, _⟩ := e.alw _ hA; rw [← a2]; exact .yield a1
  | nili => exact .nili
  | iface _ ih => exact .iface ih
  | agg hl _ ih => exact .agg hl ih
  | tup hl _ ih => exact .tup hl ih
/-- Lists of values. -/
def VRs (E : Env) (cs : List IV) (us : List Value) : Prop := cs.length = us.length ∧ ∀ i (h : i < cs.length) (h' : i < us.length), VR E cs[i] us[i]
theorem VRs.mono {E E' : Env} (e : E.Le E') {cs : List IV} {us : List Value} (h : VRs E cs us) : VRs E' cs us := ⟨h.1, fun i a b => (h.2 i a b).mono e⟩
theorem VRs.nil {E : Env} : VRs E [] [] := ⟨rfl, fun i h => by simp at h⟩
theorem VRs.cons {E : Env} {v : IV} {u : Value} {cs : List IV} {us : List Value} (h : VR E v u) (k : VRs E cs us) : VRs E (v :: cs) (u :: us) :=
  ⟨by simp [k.1], fun i a b => by
    cases i with
    | zero => exact h
    | succ i => exact k.2 i (by simpa using a) (by simpa using b)⟩
theorem VRs.inv {E : Env} {v : IV} {cs : List IV} {us : List Value} (h : VRs E (v :: cs) us) : ∃ u us', us = u :: us' ∧ VR E v u ∧ VRs E cs us' := by
  cases us with
  | nil => have := h.1; simp at this
  | cons u us => exact ⟨u, us, rfl, h.2 0 (by simp) (by simp), by have := h.1; simpa using this, fun i a b => h.2 (i + 1) (by simpa using a) (by simpa using b)⟩
theorem VRs.append {E : Env} {cs ds : List IV} {us vs : List Value} (h : VRs E cs us) (k : VRs E ds vs) : VRs E (cs ++ ds) (us ++ vs) :=
  ⟨by simp [h.1, k.1], fun i a b => by
    have hl := h.1
    by_cases hi : i < cs.length
    · rw [List.getElem_append_left hi, List.getElem_append_left (by omega)]; exact h.2 i hi (by omega)
    · rw [List.getElem_append_right (by omega), List.getElem_append_right (by omega)]
      have := k.2 (i - cs.length) (by simp at a; omega) (by simp at b; omega)
      simpa [hl] using this⟩
theorem VRs.take {E : Env} {cs : List IV} {us : List Value} (h : VRs E cs us) (n : Nat) : VRs E (cs.take n) (us.take n) :=
  ⟨by simp [h.1], fun i a b => by simp only [List.getElem_take]; exact h.2 i (by simp at a; omega) (by simp at b; omega)⟩
theorem VRs.drop {E : Env} {cs : List IV} {us : List Value} (h : VRs E cs us) (n : Nat) : VRs E (cs.drop n) (us.drop n) :=
  ⟨by simp [h.1], fun i a b => by simp only [List.getElem_drop]; exact h.2 (n + i) (by simp at a; omega) (by simp at b; omega)⟩
theorem VRs.get {E : Env} {cs : List IV} {us : List Value} (h : VRs E cs us) {i : Nat} {v : IV} (hv : cs[i]? = some v) : ∃ u, us[i]? = some u ∧ VR E v u := by
  obtain ⟨hi, rfl⟩ := List.getElem?_eq_some_iff.1 hv
  exact ⟨us[i]'(by rw [← h.1]; exact hi), List.getElem?_eq_getElem _, h.2 i hi _⟩
theorem VR.cells {E : Env} {v : IV} {u : Value} (h : VR E v u) : VRs E (cellsOf v) u.cells.toList := by
  cases h with
  | agg hl h => exact ⟨hl, h⟩
  | _ => refine VRs.cons ?_ VRs.nil; constructor <;> assumption
theorem VR.one {E : Env} {v : IV} {u : Value} (h : VR E v u) : Sx.one u = one1 v := by cases h <;> rfl
theorem VRs.ones {E : Env} : ∀ {cs : List IV} {us : List Value}, VRs E cs us → us.all Sx.one = cs.all one1
  | [], us, h => by have := h.1; cases us <;> simp at this; rfl
  | v :: cs, us, h => by
    obtain ⟨u, us, rfl, h1, h2⟩ := h.inv
    simp [h1.one, h2.ones]

/-- A frame's slots. -/
structure FR (E : Env) (n : Nat) (fr : PT IV) (tmps : Array Value) : Prop where
  size : tmps.size = n
  get : ∀ t, t < n → VR E (slot fr t) (tmps.getD t undef)
theorem FR.mono {E E' : Env} (e : E.Le E') {n : Nat} {fr : PT IV} {tmps : Array Value} (h : FR E n fr tmps) : FR E' n fr tmps := ⟨h.size, fun t ht => (h.get t ht).mono e⟩
theorem slot_set (x : IV) (fr : PT IV) (n k : Nat) : slot (fr.set x n) k = if k = n then x else slot fr k := by
  unfold slot; rw [PT.get_set]
  by_cases h : k = n
  · rw [if_pos h, if_pos h]
  · rw [if_neg h, if_neg h]
theorem FR.put {E : Env} {n : Nat} {fr : PT IV} {tmps : Array Value} (h : FR E n fr tmps) {d : Nat} {x : IV} {u : Value} (hx : VR E x u) : FR E n (fr.set x d) (tmps.setIfInBounds d u) :=
  ⟨by simp [h.size], fun t ht => by
    rw [slot_set]
    by_cases e : t = d
    · subst e; simp [h.size, ht]; exact hx
    · rw [if_neg e]
      have := h.get t ht
      simpa [Array.getD_eq_getD_getElem?, Array.getElem?_setIfInBounds_ne (Ne.symm e)] using this⟩

/-- What an object stands for. -/
def OR (E : Env) (id : Nat) : IObj → Prop
  | .dead => True
  | .row cs => ∃ cells t, E.w.heap[E.ρ id]? = some (.cells cells t (0, 0)) ∧ cells.size = E.κ id ∧ cs.length ≤ cells.size ∧ VRs E cs (cells.toList.take cs.length)
  | .map es => ∃ ents clock, E.w.heap[E.ρ id]? = some (.map ents clock) ∧ VRs E (es.map (·.1)) (ents.toList.map (·.key)) ∧ VRs E (es.map (·.2)) (ents.toList.map (·.val))
  | .iter s p => E.w.heap[E.ρ id]? = some (.stringIter s p)
  | .defs on => E.w.heap[E.ρ id]? = some (.deferred (if on then some [] else none))
  | .loop st pend nt fr ps assign body D => ∃ fn tmps, E.w.heap[E.ρ id]? = some (.loop { state := st, pending := pend, fn, tmps, params := ps.toArray, assign, body, defers := E.ρ D }) ∧ FR E nt fr tmps ∧ E.A D
theorem OR.lt {E : Env} {id : Nat} {o : IObj} (h : OR E id o) (hl : o.live = true) : E.ρ id < E.w.heap.size := by
  cases o with
  | dead => cases hl
  | row cs => obtain ⟨_, _, h, _⟩ := h; exact heap_lt h
  | map es => obtain ⟨_, _, h, _⟩ := h; exact heap_lt h
  | iter s p => exact heap_lt h
  | defs on => exact heap_lt h
  | loop => obtain ⟨_, _, h, _⟩ := h; exact heap_lt h
theorem OR.mono {E E' : Env} (e : E.Le E') {id : Nat} {o : IObj} (hA : E.A id) (hs : E'.w.heap[E.ρ id]? = E.w.heap[E.ρ id]?) (h : OR E id o) : OR E' id o := by
  obtain ⟨a1, a2, a3⟩ := e.alw id hA
  cases o with
  | dead => trivial
  | row cs => obtain ⟨cells, t, h1, h2, h3, h4⟩ := h; exact ⟨cells, t, by rw [a2, hs, h1], by rw [a3, h2], h3, h4.mono e⟩
  | map es => obtain ⟨ents, c, h1, h2, h3⟩ := h; exact ⟨ents, c, by rw [a2, hs, h1], h2.mono e, h3.mono e⟩
  | iter s p => show _ = _; rw [a2, hs]; exact h
  | defs on => show _ = _; rw [a2, hs]; exact h
  | loop st pend nt fr ps assign body D =>
    obtain ⟨fn, tmps, h1, h2, h3⟩ := h
    obtain ⟨b1, b2, _⟩ := e.alw D h3
    exact ⟨fn, tmps, by rw [a2, hs, h1, b2], h2.mono e, b1⟩

def up {α : Type u} (f : Nat → α) (i : Nat) (x : α) : Nat → α := fun k => if k = i then x else f k
theorem up_self {α : Type u} (f : Nat → α) (i : Nat) (x : α) : up f i x i = x := by simp [up]
theorem up_ne {α : Type u} (f : Nat → α) {i k : Nat} (x : α) (h : k ≠ i) : up f i x k = f k := by simp [up, h]
/-- Which objects may be read, and which may be written. -/
structure TW where
  r : Nat → Prop
  w : Nat → Prop
  sub : ∀ id, w id → r id
abbrev Heap := Nat → Option IObj
def Live (H : Heap) (id : Nat) : Prop := ∃ o, H id = some o ∧ o.live = true
/-- The objects of T stand for what lies in the world. -/
structure St (T : Nat → Prop) (E : Env) (H : Heap) : Prop where
  objs : ∀ id, T id → E.A id → ∀ o, H id = some o → OR E id o
  own : ∀ id, T id → E.A id → Live H id → E.ρ id ∈ E.m
  inj : ∀ i j, T i → T j → E.A i → E.A j → Live H i → Live H j → E.ρ i = E.ρ j → i = j
  lo : ∀ b ∈ E.m, b < E.w.heap.size
/-- From one state to a later one. -/
structure Stp (T : Nat → Prop) (E : Env) (H : Heap) (E' : Env) (H' : Heap) : Prop where
  os : E'.w.os = E.w.os
  tape : E'.w.tape = E.w.tape
  output : E'.w.output = E.w.output
  size : E.w.heap.size ≤ E'.w.heap.size
  same : ∀ b, b < E.w.heap.size → (∀ id, T id → E.A id → Live H id → E.ρ id ≠ b) → E'.w.heap[b]? = E.w.heap[b]?
  alw : ∀ id, E.A id → E'.A id ∧ E'.ρ id = E.ρ id ∧ E'.κ id = E.κ id
  new : ∀ id, E'.A id → ¬ E.A id → Live H' id → E.w.heap.size ≤ E'.ρ id ∨ ∃ j, T j ∧ E.A j ∧ Live H j ∧ E'.ρ id = E.ρ j
  old : ∀ id, T id → E.A id → Live H' id → Live H id
  memo : ∀ b ∈ E'.m, b ∈ E.m ∨ E.w.heap.size ≤ b
  mem : ∀ b ∈ E.m, b ∈ E'.m
theorem Stp.refl (T : Nat → Prop) (E : Env) (H : Heap) : Stp T E H E H :=
  ⟨rfl, rfl, rfl, Nat.le_refl _, fun _ _ _ => rfl, fun _ h => ⟨h, rfl, rfl⟩, fun _ h k => absurd h k, fun _ _ _ h => h, fun _ h => .inl h, fun _ h => h⟩
theorem Stp.le {T : TW} {E E' : Env} {H H' : Heap} (st : St T.r E H) (h : Stp T.w E H E' H') : E.Le E' :=
  ⟨h.alw, ⟨fun b hb hm => ⟨fun h' => by
    rcases h.memo b h' with h1 | h1
    · exact hm h1
    · omega, h.same b hb fun id hT hA hL e => hm (e ▸ st.own id (T.sub _ hT) hA hL)⟩⟩⟩
theorem Stp.trans {T : Nat → Prop} {E E' E'' : Env} {H H' H'' : Heap} (hT : ∀ id, E'.A id → ¬ E.A id → T id) (h : Stp T E H E' H') (k : Stp T E' H' E'' H'') : Stp T E H E'' H'' := by
  refine ⟨k.os.trans h.os, k.tape.trans h.tape, k.output.trans h.output, Nat.le_trans h.size k.size, fun b hb hn => ?_, fun id ha => ?_, fun id ha hn hL => ?_, fun id ht ha hL => h.old id ht ha (k.old id ht (h.alw id ha).1 hL), fun b hb => ?_, fun b hb => k.mem b (h.mem b hb)⟩
  · refine (k.same b (Nat.lt_of_lt_of_le hb h.size) fun id ht ha hL e => ?_).trans (h.same b hb hn)
    by_cases hA : E.A id
    · exact hn id ht hA (h.old id ht hA hL) ((h.alw id hA).2.1 ▸ e)
    · rcases h.new id ha hA hL with h1 | ⟨j, j1, j2, j3, j4⟩
      · omega
      · exact hn j j1 j2 j3 (j4 ▸ e)
  · obtain ⟨a1, a2, a3⟩ := h.alw id ha
    obtain ⟨b1, b2, b3⟩ := k.alw id a1
    exact ⟨b1, b2.trans a2, b3.trans a3⟩
  · by_cases hA : E'.A id
    · obtain ⟨b1, b2, b3⟩ := k.alw id hA
      rw [b2]
      exact h.new id hA hn (k.old id (hT id hA hn) hA hL)
    · rcases k.new id ha hA hL with h1 | ⟨j, j1, j2, j3, j4⟩
      · exact .inl (Nat.le_trans h.size h1)
      · by_cases hj : E.A j
        · exact .inr ⟨j, j1, hj, h.old j j1 hj j3, by rw [j4]; exact (h.alw j hj).2.1⟩
        · rw [j4]; exact h.new j j2 hj j3
  · rcases k.memo b hb with h1 | h1
    · exact h.memo b h1
    · exact .inr (Nat.le_trans h.size h1)
end Go.Ix
