/- The arguments' types, read. -/
import Derived.Test.YtcnhjofpmpipfaaRd
import Derived.Test.YtcnhjofpmpipfaaTy
set_option linter.unusedVariables false
namespace Go.Sx
theorem Ty.cells {P : Program} {T : TypeId} {d : TypeDesc} {size bytes : Nat} {zero : Value} (h : Ty P T d size bytes zero) : P.cellsOf T = size := by
  obtain ⟨i, h1, h2, _⟩ := h.inf
  simp [Program.cellsOf, h1, h2]
theorem TR.fld {P : Program} {W : World} {T : TypeId} {cs : List Value} {fs : Array Field} {d : TypeDesc} {e bt off n i : Nat} {z : Value} (h : TR P W T cs) (hT : P.underlying T = some (.struct fs)) (he : Ty P e d n bt z) (hf : (fs[i]?).map (fun f => (f.type, f.offset)) = some (e, off)) : TR P W e ((cs.drop off).take n) := by
  cases hx : fs[i]? with
  | none => rw [hx] at hf; cases hf
  | some f =>
    rw [hx] at hf
    simp only [Option.map_some, Option.some.injEq, Prod.mk.injEq] at hf
    have := (h.fields hT).2 i f hx
    rw [hf.1, hf.2, he.cells] at this
    exact this
theorem len1 {cs : List Value} (h : cs.length = 1) : ∃ a, cs = [a] := by
  match cs, h with
  | [a], _ => exact ⟨a, rfl⟩
theorem len2 {cs : List Value} (h : cs.length = 2) : ∃ a b, cs = [a, b] := by
  match cs, h with
  | [a, b], _ => exact ⟨a, b, rfl⟩
theorem len3 {cs : List Value} (h : cs.length = 3) : ∃ a b c, cs = [a, b, c] := by
  match cs, h with
  | [a, b, c], _ => exact ⟨a, b, c, rfl⟩
end Go.Sx
namespace Go.Proofs.Ytcnhjofpmpipfaa
open Go Go.Sx
open Go.Sx.Dat (enc)
theorem rdCol : Rd Try.prog Pk.Col 93 := ⟨ty93.cells, fun W cs h => by
  obtain ⟨hl, _⟩ := h.fields ty93.und
  rw [ty93.cells] at hl
  obtain ⟨a, b, c, rfl⟩ := len3 hl
  have f0 : TR Try.prog W 9 [a] := h.fld ty93.und (i := 0) ty9 rfl
  have f1 : TR Try.prog W 3 [b] := h.fld ty93.und (i := 1) ty3 rfl
  have f2 : TR Try.prog W 9 [c] := h.fld ty93.und (i := 2) ty9 rfl
  obtain ⟨s0, e0⟩ := f0.string ty9.und
  obtain ⟨n1, e1, _⟩ := f1.int ty3.und
  obtain ⟨s2, e2⟩ := f2.string ty9.und
  cases e0; cases e1; cases e2
  exact ⟨⟨s0, n1, s2⟩, rfl⟩⟩
theorem rdVal : Rd Try.prog Pk.Val 51 := ⟨ty51.cells, fun W cs h => by
  obtain ⟨hl, _⟩ := h.fields ty51.und
  rw [ty51.cells] at hl
  obtain ⟨a, b, rfl⟩ := len2 hl
  have f0 : TR Try.prog W 3 [a] := h.fld ty51.und (i := 0) ty3 rfl
  have f1 : TR Try.prog W 3 [b] := h.fld ty51.und (i := 1) ty3 rfl
  obtain ⟨n0, e0, _⟩ := f0.int ty3.und
  obtain ⟨n1, e1, _⟩ := f1.int ty3.und
  cases e0; cases e1
  exact ⟨⟨n0, n1⟩, rfl⟩⟩
theorem rdGive : Rd Try.prog Pk.Give 97 := ⟨ty97.cells, fun W cs h => by
  obtain ⟨hl, _⟩ := h.fields ty97.und
  rw [ty97.cells] at hl
  obtain ⟨a, b, c, rfl⟩ := len3 hl
  have f0 : TR Try.prog W 9 [a] := h.fld ty97.und (i := 0) ty9 rfl
  have f1 : TR Try.prog W 3 [b] := h.fld ty97.und (i := 1) ty3 rfl
  have f2 : TR Try.prog W 3 [c] := h.fld ty97.und (i := 2) ty3 rfl
  obtain ⟨s0, e0⟩ := f0.string ty9.und
  obtain ⟨n1, e1, _⟩ := f1.int ty3.und
  obtain ⟨n2, e2, _⟩ := f2.int ty3.und
  cases e0; cases e1; cases e2
  exact ⟨⟨s0, n1, n2⟩, rfl⟩⟩
theorem rdForm : Rd Try.prog Pk.Form 91 := ⟨ty91.cells, fun W cs h => by
  obtain ⟨hl, _⟩ := h.fields ty91.und
  rw [ty91.cells] at hl
  obtain ⟨a, b, rfl⟩ := len2 hl
  have f0 : TR Try.prog W 9 [a] := h.fld ty91.und (i := 0) ty9 rfl
  have f1 : TR Try.prog W 89 [b] := h.fld ty91.und (i := 1) ty89 rfl
  obtain ⟨s0, e0⟩ := f0.string ty9.und
  obtain ⟨a1, c1, l1, e1, h1⟩ := f1.slice ty89.und rdCol (by decide)
  cases e0; cases e1
  exact ⟨⟨s0, l1⟩, a1, c1, rfl, h1⟩⟩
theorem rdNode : Rd Try.prog Pk.Node 49 := ⟨ty49.cells, fun W cs h => by
  obtain ⟨hl, _⟩ := h.fields ty49.und
  rw [ty49.cells] at hl
  obtain ⟨a, b, rfl⟩ := len2 hl
  have f0 : TR Try.prog W 9 [a] := h.fld ty49.und (i := 0) ty9 rfl
  have f1 : TR Try.prog W 24 [b] := h.fld ty49.und (i := 1) ty24 rfl
  obtain ⟨s0, e0⟩ := f0.string ty9.und
  obtain ⟨a1, c1, l1, e1, h1⟩ := f1.slice ty24.und rdVal (by decide)
  cases e0; cases e1
  exact ⟨⟨s0, l1⟩, a1, c1, rfl, h1⟩⟩
theorem rdRule : Rd Try.prog Pk.Rule 100 := ⟨ty100.cells, fun W cs h => by
  obtain ⟨hl, _⟩ := h.fields ty100.und
  rw [ty100.cells] at hl
  obtain ⟨a, b, c, rfl⟩ := len3 hl
  have f0 : TR Try.prog W 9 [a] := h.fld ty100.und (i := 0) ty9 rfl
  have f1 : TR Try.prog W 9 [b] := h.fld ty100.und (i := 1) ty9 rfl
  have f2 : TR Try.prog W 98 [c] := h.fld ty100.und (i := 2) ty98 rfl
  obtain ⟨s0, e0⟩ := f0.string ty9.und
  obtain ⟨s1, e1⟩ := f1.string ty9.und
  obtain ⟨a2, c2, l2, e2, h2⟩ := f2.slice ty98.und rdGive (by decide)
  cases e0; cases e1; cases e2
  exact ⟨⟨s0, s1, l2⟩, a2, c2, rfl, h2⟩⟩
theorem rdGraph : Rd Try.prog Pk.Graph 26 := ⟨ty26.cells, fun W cs h => by
  obtain ⟨hl, _⟩ := h.fields ty26.und
  rw [ty26.cells] at hl
  obtain ⟨a, b, rfl⟩ := len2 hl
  have f0 : TR Try.prog W 23 [a] := h.fld ty26.und (i := 0) ty23 rfl
  have f1 : TR Try.prog W 24 [b] := h.fld ty26.und (i := 1) ty24 rfl
  obtain ⟨a0, c0, l0, e0, h0⟩ := f0.slice ty23.und rdNode (by decide)
  obtain ⟨a1, c1, l1, e1, h1⟩ := f1.slice ty24.und rdVal (by decide)
  cases e0; cases e1
  exact ⟨⟨l0, l1⟩, a0, c0, a1, c1, rfl, h0, h1⟩⟩
end Go.Proofs.Ytcnhjofpmpipfaa
