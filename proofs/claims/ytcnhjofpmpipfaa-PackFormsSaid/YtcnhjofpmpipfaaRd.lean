/- From a reading as data to values of one's own types. -/
import Derived.Test.YtcnhjofpmpipfaaSx
import Derived.ProofKit
import Derived.Deep.Slices
import Derived.Lib.SmallJoins
set_option linter.unusedVariables false
namespace Go.Sx
open Go Go.ChangeShapes Go.RowKit
open Go.Sx.Dat (enc)

/-- Cells that read as data. -/
def TR (P : Program) (W : World) (T : TypeId) (cs : List Value) : Prop :=
  ∃ (H : Type) (en : TypeId × Value → H) (fuel : Nat) (x : DataW H × List MemPlace), DataW.trod en P W 0 (fun _ => true) true fuel T cs = some x
structure Rd (P : Program) (α : Type) [Dat α] (T : TypeId) : Prop where
  sz : P.cellsOf T = Dat.sz α
  rd : ∀ W cs, TR P W T cs → ∃ x : α, enc [] W cs x
section
variable {P : Program} {W : World} {T : TypeId} {cs : List Value}
theorem TR.string (hT : P.underlying T = some .string) (h : TR P W T cs) : ∃ s : ByteArray, cs = [.string s] := by
  obtain ⟨H, en, fuel, x, h⟩ := h
  obtain ⟨s, h1, _⟩ := DataW.trod_string hT h
  exact ⟨s, h1⟩
theorem TR.int {k : IntKind} (hT : P.underlying T = some (.int k)) (h : TR P W T cs) : ∃ n, cs = [.int k n] ∧ (Lit.int k n).wf = true := by
  obtain ⟨H, en, fuel, x, h⟩ := h
  obtain ⟨n, h1, _, h2⟩ := DataW.trod_int hT h
  exact ⟨n, h1, h2⟩
theorem TR.bool (hT : P.underlying T = some .bool) (h : TR P W T cs) : ∃ b, cs = [.bool b] := by
  obtain ⟨H, en, fuel, x, h⟩ := h
  obtain ⟨n, h1, _⟩ := DataW.trod_bool hT h
  exact ⟨n, h1⟩
theorem TR.fields {fs : Array Field} (hT : P.underlying T = some (.struct fs)) (h : TR P W T cs) : cs.length = P.cellsOf T ∧ ∀ (i : Nat) (f : Field), fs[i]? = some f → TR P W f.type ((cs.drop f.offset).take (P.cellsOf f.type)) := by
  obtain ⟨H, en, fuel, x, h⟩ := h
  obtain ⟨xs, n, rfl, rfl, h1, h2, h3⟩ := DataW.trod_struct hT h
  refine ⟨h1, fun i f hf => ?_⟩
  have hi : i < xs.length := by rw [h2]; exact (Array.getElem?_eq_some_iff.1 hf).1
  exact ⟨H, en, n, xs[i], by rw [h3 i f hf, List.getElem?_eq_getElem hi]⟩
theorem TR.slice {α : Type} [Dat α] {e : TypeId} (hT : P.underlying T = some (.slice e)) (he : Rd P α e) (hpos : 0 < Dat.sz α) (h : TR P W T cs) : ∃ (a : Option Addr) (cap : Nat) (l : List α), cs = [.slice a l.length cap] ∧ SL [] W a cap l := by
  obtain ⟨H, en, fuel, x, h⟩ := h
  rcases Go.Deep.open_slice hT h with ⟨rfl, _⟩ | ⟨a, len, cap, m, n, D, Pl, rfl, _, hl, hm, hmm, _, hi⟩
  · exact ⟨none, 0, [], rfl, ⟨by simp, .inl rfl⟩⟩
  have hlm : len ≤ m := by rw [hmm]; simp; exact hl
  have hx : ∀ i, i < len → ∃ (x : α) (cs' : List Value), enc [] W cs' x ∧ W.cells? 0 (a.add (i * P.cellsOf e)) (P.cellsOf e) = some cs' := fun i hil => by
    obtain ⟨cs', h1, h2⟩ := hi i (by omega)
    obtain ⟨x, hx⟩ := he.rd W cs' ⟨H, en, n, _, h2⟩
    exact ⟨x, cs', hx, h1⟩
  have hlist : ∀ k, k ≤ len → ∃ l : List α, l.length = k ∧ ∀ i (h : i < l.length), ∃ cs', enc [] W cs' l[i] ∧ W.cells? 0 (a.add (i * P.cellsOf e)) (P.cellsOf e) = some cs' := fun k => by
    induction k with
    | zero => intro _; exact ⟨[], rfl, fun i h => by simp at h⟩
    | succ k ih =>
      intro hk
      obtain ⟨l, h1, h2⟩ := ih (by omega)
      obtain ⟨x, cs', h3, h4⟩ := hx k (by omega)
      refine ⟨l ++ [x], by simp [h1], fun i hi => ?_⟩
      by_cases hlt : i < l.length
      · rw [List.getElem_append_left hlt]; exact h2 i hlt
      · have : i = l.length := by simp at hi; omega
        subst this
        rw [List.getElem_append_right (Nat.le_refl _)]
        simp only [Nat.sub_self, List.getElem_cons_zero]
        exact ⟨cs', h3, by rw [h1]; exact h4⟩
  obtain ⟨l, hlen, hall⟩ := hlist len (Nat.le_refl _)
  subst hlen
  refine ⟨some a, cap, l, rfl, ⟨hl, by unfold maxLen at hm; omega⟩, ?_⟩
  cases l with
  | nil => exact .inl rfl
  | cons x0 l =>
  right
  obtain ⟨cs0, _, k1⟩ := hall 0 (by simp)
  obtain ⟨_, _, k3⟩ := World.cells?_some k1
  have k4 := k3 0 (by rw [he.sz]; exact hpos)
  have hlen0 : 0 < cs0.length := by
    obtain ⟨_, k2, _⟩ := World.cells?_some k1
    rw [k2, he.sz]; exact hpos
  rw [List.getElem?_eq_getElem hlen0] at k4
  have ha0 : a.add (0 * P.cellsOf e) = a := by simp [Addr.add]
  rw [ha0] at k4
  have ha1 : a.add 0 = a := by simp [Addr.add]
  rw [ha1] at k4
  unfold World.cell? at k4
  split at k4 <;> try cases k4
  rename_i cells t fz hc
  obtain ⟨ab, ao, asp⟩ := a
  cases asp with
  | some p => simp at k4
  | none =>
  refine ⟨ab, ao, cells, t, fz, rfl, by simp, hc, fun i hi => ?_⟩
  obtain ⟨cs', h1, h2⟩ := hall i hi
  refine ⟨cs', h1, fun j hj => ?_⟩
  obtain ⟨_, _, h3⟩ := World.cells?_some h2
  have h4 := h3 j (by rw [he.sz]; exact hj)
  rw [← h4]
  have e1 : (Addr.add ⟨ab, ao, none⟩ (i * P.cellsOf e)).add j = ⟨ab, ao + i * Dat.sz α + j, none⟩ := by
    rw [he.sz]
    unfold Addr.add
    by_cases hz : i * Dat.sz α = 0
    · rw [if_pos hz]
      by_cases hj0 : j = 0
      · rw [if_pos hj0]; simp [hz, hj0]
      · rw [if_neg hj0]; simp [hz]
    · rw [if_neg hz]
      by_cases hj0 : j = 0
      · rw [if_pos hj0]; simp [hj0]
      · rw [if_neg hj0]
  rw [e1]
  simp [World.cell?, hc]
theorem TR.of {H : Type} {en : TypeId × Value → H} {v : Value} {d : DataW H} {ps : List MemPlace} (h : DataW.Trod en P W 0 (fun _ => true) true T v d ps) : TR P W T v.cells.toList := by
  obtain ⟨fuel, h⟩ := h
  exact ⟨H, en, fuel, _, h⟩

end
end Go.Sx
