/- Elements of a slice of our own: their places; a store into one. -/
import Derived.Test.YtcnhjofpmpipfaaMap
set_option linter.unusedVariables false
namespace Go.Sx
open Go Go.RowKit
open Go.Sx.Dat (enc)
theorem putL_ge : ∀ (vs : List Value) (o : Nat) (cs : List Value) (j : Nat), o + vs.length ≤ j → (putL cs o vs)[j]? = cs[j]?
  | [], _, _, _, _ => rfl
  | v :: vs, o, cs, j, h => by
    simp only [List.length_cons] at h
    unfold putL
    rw [putL_ge vs (o + 1) _ j (by omega), List.getElem?_set_ne (by omega)]
section
variable {P : Program} {n : Nat} {σ : Nat → Value} {w : World} {Q : Exit → Act → World → Prop} {ops : Array Oper} {rest : List Oper}
variable {d : Nat} {ty T E : TypeId} {D : TypeDesc} {size bytes : Nat} {zero : Value} {pos : String} {aft : Array Edge} {g : Option (Nat × Bool)} {x y z : Operand}
variable {α : Type} [Dat α] {m M : List Nat} {a : Option Addr} {cap : Nat} {l : List α}
theorem Go.Sx.Own.place (ho : Go.Sx.Own m M w a cap l) {j : Nat} (hj : j < l.length) : ∃ β, a = some ⟨β, 0, none⟩ := by
  rcases ho with ⟨_, _, rfl⟩ | ⟨g, cells, rfl, _⟩
  · simp at hj
  · exact ⟨g, rfl⟩
theorem op_indexO {j : Nat} {kk : IntKind} {E' : TypeDesc} {s2 b2 : Nat} {z2 : Value} (hT : Ty P T (.slice E) size bytes zero) (hE : Ty P E E' s2 b2 z2) (hsz : s2 = Dat.sz α)
    (hg : wantF ops σ n g = true) (hx : (okO n x && okO n y) = true) (ex : ev σ x = .slice a l.length cap) (ey : ev σ y = .int kk (j : Nat)) (ho : Go.Sx.Own m M w a cap l) (h1 : j < l.length)
    (k : ∀ β, a = some ⟨β, 0, none⟩ → wpList P ops Q rest (Fr n (upd σ d (.pointer (some ⟨β, j * Dat.sz α, none⟩)))) w) : wpList P ops Q (⟨some d, .indexAddr T x y, ty, pos, aft, g⟩ :: rest) (Fr n σ) w := by
  simp only [Bool.and_eq_true] at hx
  obtain ⟨β, ha⟩ := Go.Sx.Own.place ho h1
  refine op_val hg ?_ (k β ha)
  subst ha; subst hsz
  have h2 : (0 : Int) ≤ j := by omega
  have h3 : (j : Int) < l.length := by omega
  simp only [execOp, eval_Fr hx.1, eval_Fr hx.2, ex, ey, Instr.indexAt, asIntOf, Sem.run_bind, Sem.run_pure, Result.andThen_ok, run_underlying hT.und, h2, h3, and_self, if_true, run_sizeOf hE, add_spot ⟨β, 0, none⟩ rfl]
  simp
theorem op_setO {β j off : Nat} {u u' : α} {v : Value} {vs : List Value} (hT : Ty P T D size bytes zero) (hg : wantF ops σ n g = true) (hx : (okO n x && okO n y) = true) (ex : ev σ x = .pointer (some ⟨β, j * Dat.sz α + off, none⟩)) (ey : ev σ y = v)
    (ho : Go.Sx.Own m M w a cap l) (ha : a = some ⟨β, 0, none⟩) (hj : l[j]? = some u) (hv : v.cells.toList = vs) (hl : (Nat.beq vs.length size && Nat.ble (off + size) (Dat.sz α) && vs.all one) = true)
    (hnew : ∀ cs w', enc (m ++ M) w' cs u → enc (m ++ M) w' (putL cs off vs) u')
    (k : ∀ w', Upd [β] w w' → w'.heap.size = w.heap.size → Go.Sx.Own m M w' a cap (l.set j u') → wpList P ops Q rest (Fr n σ) w') : wpList P ops Q (⟨none, .store T x y, ty, pos, aft, g⟩ :: rest) (Fr n σ) w := by
  simp only [Bool.and_eq_true] at hx hl
  have hvl : vs.length = size := Nat.eq_of_beq_eq_true hl.1.1
  have hle : off + size ≤ Dat.sz α := Nat.le_of_ble_eq_true hl.1.2
  obtain ⟨hjl, hju⟩ := List.getElem?_eq_some_iff.1 hj
  rcases ho with ⟨_, _, rfl⟩ | ⟨g0, cells, h0, h1, h2, h3, h4, h5, h6⟩
  · simp at hjl
  · rw [ha] at h0
    obtain rfl : β = g0 := by simpa using h0
    have hmul : (j + 1) * Dat.sz α ≤ cap * Dat.sz α := Nat.mul_le_mul_right _ (by omega)
    have hs1 : (j + 1) * Dat.sz α = j * Dat.sz α + Dat.sz α := Nat.succ_mul _ _
    subst hv
    obtain ⟨w', e1, e2, e3, e4⟩ := run_storeAt (P := P) hT h3 (v := v) (o := j * Dat.sz α + off) (by simpa using hvl) (by omega) hl.2
    refine op_skip hg (by simp only [execOp, eval_Fr hx.1, eval_Fr hx.2, ex, ey, e1, Sem.run_bind, Sem.run_pure, Result.andThen_ok]) (k w' e3 e4 ?_)
    have htr : Tr (m ++ M) w (m ++ M) w' := (e3.evo (fun b hb => by simp at hb; subst hb; exact h1)).tr M
    refine .inr ⟨β, _, ha, h1, h2, e2, by rw [putL_length, h4], ⟨by simpa using h5.1, h5.2⟩, fun i hi => ?_⟩
    simp only [List.length_set] at hi
    obtain ⟨cs, c1, c2⟩ := h6 i hi
    have c1' := Dat.mono c1 htr
    by_cases hij : i = j
    · subst hij
      rw [List.getElem_set_self]
      rw [hju] at c1'
      refine ⟨_, hnew _ _ c1', fun q hq => ?_⟩
      have hcl := Dat.len c1'
      rcases Nat.lt_or_ge q off with hq1 | hq1
      · rw [putL_lt _ _ _ _ (by omega), putL_lt _ _ _ _ hq1]; exact c2 q hq
      · rcases Nat.lt_or_ge q (off + size) with hq2 | hq2
        · obtain ⟨r, rfl⟩ : ∃ r, q = off + r := ⟨q - off, by omega⟩
          rw [← Nat.add_assoc, putL_in _ _ _ _ (by omega) (by omega), putL_in _ _ _ _ (by omega) (by omega)]
        · rw [putL_ge _ _ _ _ (by omega), putL_ge _ _ _ _ (by omega)]; exact c2 q hq
    · rw [List.getElem_set_ne (by omega)]
      refine ⟨cs, c1', fun q hq => ?_⟩
      rw [← c2 q hq]
      rcases Nat.lt_or_gt_of_ne hij with hlt | hlt
      · have h7 : (i + 1) * Dat.sz α ≤ j * Dat.sz α := Nat.mul_le_mul_right _ hlt
        have h8 : (i + 1) * Dat.sz α = i * Dat.sz α + Dat.sz α := Nat.succ_mul _ _
        rw [putL_lt _ _ _ _ (by omega)]
      · have h7 : (j + 1) * Dat.sz α ≤ i * Dat.sz α := Nat.mul_le_mul_right _ hlt
        rw [putL_ge _ _ _ _ (by omega)]
end
end Go.Sx
