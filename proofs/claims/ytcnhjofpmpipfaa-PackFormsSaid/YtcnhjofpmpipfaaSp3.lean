/- What the reference's checks compute; the laws' limits; equality. -/
import Derived.Test.YtcnhjofpmpipfaaSp2
set_option linter.unusedVariables false
namespace Go.Sx
theorem get_lt {α : Type} {l : List α} {k : Nat} (h : k < l.length) : ∃ u, l[k]? = some u := ⟨_, List.getElem?_eq_getElem h⟩
end Go.Sx
namespace Pk
open Go.Sx
theorem take_all {α : Type} {l : List α} {p : α → Prop} {k : Nat} {u : α} (h : ∀ n ∈ l.take k, p n) (hx : l[k]? = some u) (hu : p u) : ∀ n ∈ l.take (k + 1), p n := fun n hn => by
  rw [List.take_add_one, hx] at hn
  rcases List.mem_append.1 hn with h1 | h1
  · exact h n h1
  · simp at h1; subst h1; exact hu
theorem take_full {α : Type} {l : List α} {p : α → Prop} {k : Nat} (h : ∀ n ∈ l.take k, p n) (hk : l.length ≤ k) : ∀ n ∈ l, p n := fun n hn => h n (by rw [List.take_of_length_le hk]; exact hn)

theorem within313 : within 3 1 3 = true := rfl
/-- Names no longer than memory. -/
def Short (l : List Form) : Prop := ∀ f ∈ l, f.Name.size < 4611686018427387904 ∧ ∀ c ∈ f.Cols, c.Name.size < 4611686018427387904
def rcfCols (f : Form) : Nat → List Col → Int
  | _, [] => 0
  | k, c :: l =>
    if rsmallNamed c.Name = false then 4
    else if rcol f c.Name < k then 6
    else if within c.Kind 1 3 = false then 1
    else if ¬ c.Kind = 3 ∧ ¬ c.Class = ⟨#[]⟩ then 1
    else rcfCols f (k + 1) l
def rcfIn (l : List Form) : List Col → Bool
  | [] => true
  | c :: r => if c.Kind = 3 ∧ ¬ c.Class = strANY ∧ rform l c.Class < 0 then false else rcfIn l r
def rcfEnd (l : List Form) : List Form → Int
  | [] => 0
  | f :: r => if rcfIn l f.Cols = true then rcfEnd l r else 5
def rcfGo (l : List Form) : Nat → List Form → Int
  | _, [] => rcfEnd l l
  | k, f :: r =>
    if rclassed f.Name = false then 4
    else if rform l f.Name < k then 6
    else if (30 : Int) < f.Cols.length then 3
    else if rcfCols f 0 f.Cols ≠ 0 then rcfCols f 0 f.Cols
    else rcfGo l (k + 1) r
def rcheckForms (l : List Form) : Int := if (24 : Int) < l.length then 3 else rcfGo l 0 l
def rvalsIn (n : Nat) : List Val → Bool
  | [] => true
  | v :: l => if value v n = true then rvalsIn n l else false
def rroots (n : Nat) : List Val → Int
  | [] => 0
  | v :: l => if value v n = false then 2 else if ¬ v.Kind = 3 ∧ ¬ v.Kind = 4 then 2 else rroots n l
def rformedGo2 (g : Graph) : List Node → Int
  | [] => rroots g.Nodes.length g.Roots
  | n :: l => if rvalsIn g.Nodes.length n.Vals = true then rformedGo2 g l else 2
def rformedGo (g : Graph) : List Node → Int
  | [] => rformedGo2 g g.Nodes
  | n :: l => if (30 : Int) < n.Vals.length then 3 else rformedGo g l
def rformed (g : Graph) : Int := if (400 : Int) < g.Nodes.length then 3 else if (60 : Int) < g.Roots.length then 3 else rformedGo g g.Nodes
def rfits (c : Col) (v : Val) (g : Graph) : Bool :=
  if c.Kind = 1 then decide (v.Kind = 1)
  else if c.Kind = 2 then decide (v.Kind = 2)
  else if v.Kind = 3 then true
  else decide (v.Kind = 4) && (decide (c.Class = strANY) || decide ((g.Nodes[v.N.toNat]?.getD default).Class = c.Class))
def rfitsIn (g : Graph) (vs : List Val) : Nat → List Col → Bool
  | _, [] => true
  | k, c :: l => if rfits c (vs[k]?.getD default) g = true then rfitsIn g vs (k + 1) l else false
def rckGo2 (l : List Form) (g : Graph) : List Node → Int
  | [] => 0
  | n :: r =>
    if ((l[(rform l n.Class).toNat]?.getD default).Cols.length : Int) = n.Vals.length then
      (if rfitsIn g n.Vals 0 (l[(rform l n.Class).toNat]?.getD default).Cols = true then rckGo2 l g r else 8)
    else 8
def rckGo (l : List Form) (g : Graph) : List Node → Int
  | [] => rckGo2 l g g.Nodes
  | n :: r => if rform l n.Class < 0 then 4 else rckGo l g r
def rcheck (l : List Form) (g : Graph) : Int := if rcheckForms l ≠ 0 then rcheckForms l else if rformed g ≠ 0 then rformed g else rckGo l g g.Nodes
theorem rcolGo_range (name : ByteArray) : ∀ (l : List Col) (k : Nat), -1 ≤ rcolGo name k l ∧ rcolGo name k l < k + l.length
  | [], k => by simp [rcolGo]; omega
  | c :: l, k => by
    have := rcolGo_range name l (k + 1)
    simp only [rcolGo, List.length_cons]; split <;> omega
theorem rformGo_range (name : ByteArray) : ∀ (l : List Form) (k : Nat), -1 ≤ rformGo name k l ∧ rformGo name k l < k + l.length
  | [], k => by simp [rformGo]; omega
  | c :: l, k => by
    have := rformGo_range name l (k + 1)
    simp only [rformGo, List.length_cons]; split <;> omega
theorem rform_lt (l : List Form) (s : ByteArray) : -1 ≤ rform l s ∧ rform l s < l.length := by
  have := rformGo_range s l 0
  simp only [rform]; omega
theorem rcol_lt (f : Form) (s : ByteArray) : -1 ≤ rcol f s ∧ rcol f s < f.Cols.length := by
  have := rcolGo_range s f.Cols 0
  simp only [rcol]; omega
theorem rvalsIn_all {n : Nat} : ∀ {l : List Val}, rvalsIn n l = true → ∀ v ∈ l, value v n = true
  | [], _, v, hv => by simp at hv
  | x :: l, h, v, hv => by
    simp only [rvalsIn] at h
    split at h
    · rcases List.mem_cons.1 hv with rfl | hv
      · assumption
      · exact rvalsIn_all h v hv
    · cases h
theorem rroots_all {n : Nat} : ∀ {l : List Val}, rroots n l = 0 → ∀ v ∈ l, value v n = true ∧ (v.Kind = 3 ∨ v.Kind = 4)
  | [], _, v, hv => by simp at hv
  | x :: l, h, v, hv => by
    simp only [rroots] at h
    split at h
    · cases h
    · split at h
      · cases h
      · rcases List.mem_cons.1 hv with rfl | hv
        · rename_i h1 h2
          exact ⟨by simpa using h1, by omega⟩
        · exact rroots_all h v hv
theorem rformedGo2_zero {g : Graph} : ∀ {l : List Node}, rformedGo2 g l = 0 → (∀ n ∈ l, ∀ v ∈ n.Vals, value v g.Nodes.length = true) ∧ rroots g.Nodes.length g.Roots = 0
  | [], h => ⟨fun n hn => by simp at hn, h⟩
  | x :: l, h => by
    simp only [rformedGo2] at h
    split at h
    · obtain ⟨h1, h2⟩ := rformedGo2_zero h
      refine ⟨fun n hn => ?_, h2⟩
      rcases List.mem_cons.1 hn with rfl | hn
      · exact rvalsIn_all (by assumption)
      · exact h1 n hn
    · cases h
theorem rformedGo_zero {g : Graph} : ∀ {l : List Node}, rformedGo g l = 0 → (∀ n ∈ l, n.Vals.length ≤ 30) ∧ rformedGo2 g g.Nodes = 0
  | [], h => ⟨fun n hn => by simp at hn, h⟩
  | x :: l, h => by
    simp only [rformedGo] at h
    split at h
    · cases h
    · obtain ⟨h1, h2⟩ := rformedGo_zero h
      refine ⟨fun n hn => ?_, h2⟩
      rcases List.mem_cons.1 hn with rfl | hn
      · omega
      · exact h1 n hn
/-- What a graph is that the reference finds well formed. -/
structure RFormed (g : Graph) : Prop where
  nodes : g.Nodes.length ≤ 400
  roots : g.Roots.length ≤ 60
  cols : ∀ n ∈ g.Nodes, n.Vals.length ≤ 30
  vals : ∀ n ∈ g.Nodes, ∀ v ∈ n.Vals, value v g.Nodes.length = true
  root : ∀ v ∈ g.Roots, value v g.Nodes.length = true ∧ (v.Kind = 3 ∨ v.Kind = 4)
theorem rformed_zero {g : Graph} (h : rformed g = 0) : RFormed g := by
  simp only [rformed] at h
  split at h
  · cases h
  · split at h
    · cases h
    · obtain ⟨h1, h2⟩ := rformedGo_zero h
      obtain ⟨h3, h4⟩ := rformedGo2_zero h2
      exact ⟨by omega, by omega, h1, h3, rroots_all h4⟩

def ffIn : List Col → Bool
  | [] => true
  | c :: l => if (30 : Int) < c.Name.size then false else if (30 : Int) < c.Class.size then false else ffIn l
def ffGo (l0 : List Form) : List Form → Bool
  | [] => decide ((l0.length : Int) ≤ 6) || (decide ((24 : Int) < l0.length) && decide ((l0.length : Int) ≤ 30))
  | f :: l =>
    if (30 : Int) < f.Name.size then false
    else if (6 : Int) < f.Cols.length ∧ (f.Cols.length : Int) ≤ 30 then false
    else if (40 : Int) < f.Cols.length then false
    else if ffIn f.Cols = true then ffGo l0 l else false
def fewForms (l : List Form) : Bool := ffGo l l
def fewGo (g : Graph) : List Node → Bool
  | [] => (decide ((g.Nodes.length : Int) ≤ 30) || (decide ((400 : Int) < g.Nodes.length) && decide ((g.Nodes.length : Int) ≤ 410))) && (decide ((g.Roots.length : Int) ≤ 10) || (decide ((60 : Int) < g.Roots.length) && decide ((g.Roots.length : Int) ≤ 70)))
  | n :: l =>
    if (8 : Int) < n.Vals.length ∧ (n.Vals.length : Int) ≤ 30 then false
    else if (40 : Int) < n.Vals.length then false
    else fewGo g l
def few (g : Graph) : Bool := fewGo g g.Nodes
theorem ffIn_all : ∀ {l : List Col}, ffIn l = true → ∀ c ∈ l, c.Name.size ≤ 30 ∧ c.Class.size ≤ 30
  | [], _, c, hc => by simp at hc
  | x :: l, h, c, hc => by
    simp only [ffIn] at h
    split at h
    · cases h
    · split at h
      · cases h
      · rcases List.mem_cons.1 hc with rfl | hc
        · omega
        · exact ffIn_all h c hc
theorem ffGo_all {l0 : List Form} : ∀ {l : List Form}, ffGo l0 l = true → l0.length ≤ 30 ∧ ∀ f ∈ l, f.Name.size ≤ 30 ∧ f.Cols.length ≤ 40 ∧ ∀ c ∈ f.Cols, c.Name.size ≤ 30 ∧ c.Class.size ≤ 30
  | [], h => by
    simp only [ffGo, Bool.or_eq_true, Bool.and_eq_true, decide_eq_true_iff] at h
    exact ⟨by omega, fun f hf => by simp at hf⟩
  | x :: l, h => by
    simp only [ffGo] at h
    repeat' split at h
    all_goals try cases h
    rename_i h1 h2 h3 h4
    obtain ⟨h5, h6⟩ := ffGo_all h
    refine ⟨h5, fun f hf => ?_⟩
    rcases List.mem_cons.1 hf with rfl | hf
    · exact ⟨by omega, by omega, ffIn_all h4⟩
    · exact h6 f hf
theorem fewForms_short {l : List Form} (h : fewForms l = true) : Short l := fun f hf => by
  obtain ⟨_, h1⟩ := ffGo_all h
  obtain ⟨h2, _, h3⟩ := h1 f hf
  exact ⟨by omega, fun c hc => by have := h3 c hc; omega⟩
def sgGo : List Node → List Node → Bool
  | [], _ => true
  | _, [] => true
  | n :: l, m :: r => if sameVals n.Vals m.Vals = false then false else if n.Class = m.Class then sgGo l r else false
def sameGraphs (a b : Graph) : Bool :=
  if sameVals a.Roots b.Roots = false then false else if (a.Nodes.length : Int) = b.Nodes.length then sgGo a.Nodes b.Nodes else false
end Pk
