/- What the functions of package pack compute, as plain functions: checks. -/
import Derived.Test.YtcnhjofpmpipfaaTy
set_option linter.unusedVariables false
namespace Pk
open Go.Sx

def within (n lo hi : Int) : Bool := decide (lo ≤ n) && decide (n ≤ hi)
def unlessE (b : Bool) (e : Int) : Int := if b then 0 else e
def firstGo : List Int → Int
  | [] => 0
  | e :: l => if e ≠ 0 then e else firstGo l
def first (l : List Int) : Int := firstGo l
def idxGo {α : Type} (p : α → Bool) : Nat → List α → Int
  | _, [] => -1
  | k, x :: l => if p x = true then (k : Int) else idxGo p (k + 1) l
def idx {α : Type} (l : List α) (p : α → Bool) : Int := idxGo p 0 l
def findP {α : Type} (x : α) (f : α → ByteArray) (name : ByteArray) : Bool := decide (f x = name)
def find {α : Type} (l : List α) (name : ByteArray) (f : α → ByteArray) : Int := idx l (fun x => findP x f name)
def formName (f : Form) : ByteArray := f.Name
def colName (f : Col) : ByteArray := f.Name
def form (l : List Form) (name : ByteArray) : Int := find l name (fun x => formName x)
def col (l : List Col) (name : ByteArray) : Int := find l name (fun x => colName x)
def contains {α : Type} (l : List α) (p : α → Bool) : Bool := decide (0 ≤ idx l p)
def sidxGo (v : ByteArray) : Nat → List ByteArray → Int
  | _, [] => -1
  | k, x :: l => if v = x then (k : Int) else sidxGo v (k + 1) l
def sidx (l : List ByteArray) (v : ByteArray) : Int := sidxGo v 0 l
def shas (l : List ByteArray) (v : ByteArray) : Bool := decide (0 ≤ sidx l v)

theorem idxGo_lt {α : Type} (p : α → Bool) : ∀ (l : List α) (k : Nat), idxGo p k l < k + l.length
  | [], k => by simp [idxGo]; omega
  | x :: l, k => by
    unfold idxGo; split
    · simp; omega
    · have := idxGo_lt p l (k + 1); simp at this ⊢; omega
theorem idx_lt {α : Type} (l : List α) (p : α → Bool) : idx l p < l.length := by
  have := idxGo_lt p l 0; simpa [idx] using this
theorem idxGo_ge {α : Type} (p : α → Bool) : ∀ (l : List α) (k : Nat), idxGo p k l = -1 ∨ (k : Int) ≤ idxGo p k l
  | [], k => by simp [idxGo]
  | x :: l, k => by
    unfold idxGo; split
    · exact .inr (Int.le_refl _)
    · rcases idxGo_ge p l (k + 1) with h | h
      · exact .inl h
      · exact .inr (by omega)
theorem idx_ge {α : Type} (l : List α) (p : α → Bool) : -1 ≤ idx l p := by
  rcases idxGo_ge p l 0 with h | h <;> simp only [idx] <;> omega
theorem form_lt (l : List Form) (n : ByteArray) : form l n < l.length := idx_lt l _
theorem col_lt (l : List Col) (n : ByteArray) : col l n < l.length := idx_lt l _

/-! values and graphs -/
def value (v : Val) (many : Int) : Bool :=
  if v.Kind = 1 then within v.N (-1099511627776) 1099511627776
  else if v.Kind = 2 then within v.N 0 1
  else if v.Kind = 3 then decide (v.N = 0)
  else if v.Kind = 4 then within v.N 0 (many - 1)
  else false
theorem value_ref {v : Val} {many : Int} (h : value v many = true) (hk : v.Kind = 4) : 0 ≤ v.N ∧ v.N < many := by
  simp [value, hk, within] at h; omega
def refers (v : Val) : Bool := decide (v.Kind = 3) || decide (v.Kind = 4)
def badVal (v : Val) (g : Graph) : Bool := !value v g.Nodes.length
def badRoot (v : Val) (bad : Val → Bool) : Bool := bad v || !refers v
def formedGo3 (g : Graph) : List Node → Int
  | [] => unlessE (!contains g.Roots (fun v => badRoot v (fun v => badVal v g))) 2
  | n :: l => if contains n.Vals (fun v => badVal v g) = true then 2 else formedGo3 g l
def formedGo (g : Graph) : List Node → Int
  | [] => formedGo3 g g.Nodes
  | n :: l => if (30 : Int) < n.Vals.length then 3 else formedGo g l
def formed (g : Graph) : Int :=
  if (400 : Int) < g.Nodes.length then 3 else if (60 : Int) < g.Roots.length then 3 else formedGo g g.Nodes
def strANY : ByteArray := ⟨#[65, 78, 89]⟩
def suits (g : Graph) (c : Col) (v : Val) : Bool :=
  if c.Kind = 1 then decide (v.Kind = 1)
  else if c.Kind = 2 then decide (v.Kind = 2)
  else decide (v.Kind = 3) || (decide (v.Kind = 4) && (decide (c.Class = strANY) || decide ((g.Nodes[v.N.toNat]?.getD default).Class = c.Class)))
def typedIn (g : Graph) (vs : List Val) : Nat → List Col → Bool
  | _, [] => true
  | k, c :: l => if suits g c (vs[k]?.getD default) = true then typedIn g vs (k + 1) l else false
def typedGo (l : List Form) (g : Graph) : List Node → Bool
  | [] => true
  | n :: r =>
    let cols := (l[(form l n.Class).toNat]?.getD default).Cols
    if (n.Vals.length : Int) = cols.length then (if typedIn g n.Vals 0 cols = true then typedGo l g r else false) else false
def typed (l : List Form) (g : Graph) : Bool := typedGo l g g.Nodes
def unknown (n : Node) (l : List Form) : Bool := decide (form l n.Class < 0)
def check (l : List Form) (g : Graph) : Int :=
  let e := formed g
  if e ≠ 0 then e else if contains g.Nodes (fun n => unknown n l) = true then 4 else unlessE (typed l g) 8

theorem idxGo_neg {α : Type} (p : α → Bool) : ∀ (l : List α) (k : Nat), idxGo p k l < 0 ↔ ∀ x ∈ l, p x = false
  | [], k => by simp [idxGo]
  | x :: l, k => by
    unfold idxGo
    cases h : p x with
    | true => simp [h]
    | false => simp [h, idxGo_neg p l (k + 1)]
theorem contains_false {α : Type} (l : List α) (p : α → Bool) : contains l p = false ↔ ∀ x ∈ l, p x = false := by
  rw [← idxGo_neg p l 0]; exact ⟨fun h => Int.not_le.1 (of_decide_eq_false h), fun h => decide_eq_false (Int.not_le.2 h)⟩
theorem contains_any {α : Type} (l : List α) (p : α → Bool) : contains l p = l.any p := by
  cases h : contains l p with
  | false => rw [contains_false] at h; symm; rw [List.any_eq_false]; intro x hx; simp [h x hx]
  | true =>
    symm; rw [List.any_eq_true]
    apply Classical.byContradiction; intro hn
    have : contains l p = false := (contains_false l p).2 fun x hx => by
      cases hp : p x with
      | false => rfl
      | true => exact absurd ⟨x, hx, hp⟩ hn
    rw [this] at h; cases h
theorem formedGo3_zero (g : Graph) : ∀ l, formedGo3 g l = 0 → (∀ n ∈ l, ∀ v ∈ n.Vals, value v g.Nodes.length = true) ∧ (∀ v ∈ g.Roots, value v g.Nodes.length = true ∧ refers v = true)
  | [], h => by
    refine ⟨by simp, fun v hv => ?_⟩
    cases hc : contains g.Roots (fun v => badRoot v (fun v => badVal v g)) with
    | true => simp [formedGo3, hc, unlessE] at h
    | false =>
      have := (contains_false _ _).1 hc v hv
      simp [badRoot, badVal] at this; exact this
  | n :: l, h => by
    unfold formedGo3 at h
    split at h
    · cases h
    · rename_i hc
      obtain ⟨h1, h2⟩ := formedGo3_zero g l h
      refine ⟨fun m hm => ?_, h2⟩
      simp only [List.mem_cons] at hm
      rcases hm with rfl | hm
      · have := (contains_false m.Vals (fun v => badVal v g)).1 (by simpa using hc)
        intro v hv; have := this v hv; simpa [badVal] using this
      · exact h1 m hm
theorem formedGo_zero (g : Graph) : ∀ l, formedGo g l = 0 → (∀ n ∈ l, n.Vals.length ≤ 30) ∧ formedGo3 g g.Nodes = 0
  | [], h => ⟨by simp, h⟩
  | n :: l, h => by
    unfold formedGo at h
    split at h
    · cases h
    · rename_i hc
      obtain ⟨h1, h2⟩ := formedGo_zero g l h
      refine ⟨fun m hm => ?_, h2⟩
      simp only [List.mem_cons] at hm
      rcases hm with rfl | hm
      · omega
      · exact h1 m hm
structure Formed (g : Graph) : Prop where
  nodes : g.Nodes.length ≤ 400
  roots : g.Roots.length ≤ 60
  lens : ∀ n ∈ g.Nodes, n.Vals.length ≤ 30
  vals : ∀ n ∈ g.Nodes, ∀ v ∈ n.Vals, value v g.Nodes.length = true
  rvals : ∀ v ∈ g.Roots, value v g.Nodes.length = true ∧ refers v = true
theorem formed_zero {g : Graph} (h : formed g = 0) : Formed g := by
  unfold formed at h
  split at h
  · cases h
  · split at h
    · cases h
    · obtain ⟨h1, h2⟩ := formedGo_zero g _ h
      obtain ⟨h3, h4⟩ := formedGo3_zero g _ h2
      exact ⟨by omega, by omega, h1, h3, h4⟩
theorem known_of {l : List Form} {ns : List Node} (h : contains ns (fun n => unknown n l) = false) : ∀ n ∈ ns, 0 ≤ form l n.Class := fun n hn => by
  have := (contains_false _ _).1 h n hn
  simpa [unknown] using this

/-! names -/
open Go
def runeGo (s : ByteArray) (p : I32 → Bool) (t : Bool) : Nat → Nat → Int
  | 0, _ => -1
  | f + 1, pos => if pos < s.size then (if p ⟨(Utf8.decode s pos).1⟩ = t then (pos : Int) else runeGo s p t f (pos + (Utf8.decode s pos).2)) else -1
def runeIdxT (s : ByteArray) (p : I32 → Bool) (t : Bool) : Int := runeGo s p t s.size 0
def runeIdx (s : ByteArray) (p : I32 → Bool) : Int := runeIdxT s p true
theorem runeGo_end {s : ByteArray} {p : I32 → Bool} {t : Bool} {f pos : Nat} (h : ¬ pos < s.size) : runeGo s p t f pos = -1 := by
  cases f <;> simp [runeGo, h]
def badRune (r : Int) (lo hi : UInt8) : Bool :=
  !((decide ((lo.toNat : Int) ≤ r) && decide (r ≤ hi.toNat)) || (decide (48 ≤ r) && decide (r ≤ 57)) || decide (r = 95))
def named (s : ByteArray) (lo hi : UInt8) : Bool :=
  if s = ⟨#[]⟩ then false
  else if (20 : Int) < s.size then false
  else if ((byteAt s 0).toNat : Int) < lo.toNat then false
  else if (hi.toNat : Int) < (byteAt s 0).toNat then false
  else decide (runeIdx s (fun (r : I32) => badRune r.v lo hi) < 0)
def classWords : List ByteArray := [⟨#[73, 78, 84, 69, 71, 69, 82]⟩, ⟨#[66, 79, 79, 76, 69, 65, 78]⟩, ⟨#[65, 78, 89]⟩, ⟨#[78, 79, 78, 69]⟩]
def smallWords : List ByteArray := [⟨#[116, 114, 117, 101]⟩, ⟨#[102, 97, 108, 115, 101]⟩, ⟨#[118, 111, 105, 100]⟩, ⟨#[99, 117, 114, 114, 101, 110, 116]⟩, ⟨#[114, 101, 115, 117, 108, 116]⟩]
def classB (s : ByteArray) : Bool := named s 65 90 && !shas classWords s
def smallB (s : ByteArray) : Bool := named s 97 122 && !shas smallWords s

/-! forms -/
def checkColsGo (l : List Col) : Nat → List Col → Int
  | _, [] => 0
  | k, c :: r =>
    if smallB c.Name = false then 4
    else if 0 ≤ col (l.take k) c.Name then 6
    else if within c.Kind 1 3 = false then 1
    else if ¬ c.Kind = 3 ∧ ¬ c.Class = ⟨#[]⟩ then 1
    else checkColsGo l (k + 1) r
def checkCols (l : List Col) : Int := if (30 : Int) < l.length then 3 else checkColsGo l 0 l
def cfIn (l : List Form) : List Col → Bool
  | [] => true
  | c :: r => if c.Kind = 3 ∧ ¬ c.Class = strANY ∧ form l c.Class < 0 then false else cfIn l r
def cfGo2 (l : List Form) : List Form → Int
  | [] => 0
  | f :: r => if cfIn l f.Cols = true then cfGo2 l r else 5
def cfGo (l : List Form) : Nat → List Form → Int
  | _, [] => cfGo2 l l
  | k, f :: r =>
    let e := first [unlessE (classB f.Name) 4, unlessE (decide (form (l.take k) f.Name < 0)) 6, checkCols f.Cols]
    if e ≠ 0 then e else cfGo l (k + 1) r
def checkForms (l : List Form) : Int := if (24 : Int) < l.length then 3 else cfGo l 0 l
def checkG (l : List Form) (g : Graph) : Int := if checkForms l ≠ 0 then checkForms l else check l g
end Pk
