/- append onto a slice of our own: the run and the rule. -/
import Derived.Test.YtcnhjofpmpipfaaApp
namespace Go.Sx
open Go Go.RowKit
open Go.Sx.Dat (enc)

theorem putL_lt : ∀ (vs : List Value) (o : Nat) (cs : List Value) (j : Nat), j < o → (putL cs o vs)[j]? = cs[j]?
  | [], _, _, _, _ => rfl
  | v :: vs, o, cs, j, h => by
    unfold putL
    rw [putL_lt vs (o + 1) _ j (by omega), List.getElem?_set_ne (by omega)]
theorem putL_in : ∀ (vs : List Value) (o : Nat) (cs : List Value) (j : Nat), j < vs.length → o + vs.length ≤ cs.length → (putL cs o vs)[o + j]? = vs[j]?
  | [], _, _, _, h, _ => by simp at h
  | v :: vs, o, cs, 0, _, h => by
    unfold putL
    rw [putL_lt vs (o + 1) _ (o + 0) (by omega)]
    simp only [List.length_cons] at h
    simp only [Nat.add_zero, List.getElem?_cons_zero]
    rw [List.getElem?_set_self (by omega)]
  | v :: vs, o, cs, j + 1, h, h' => by
    unfold putL
    have := putL_in vs (o + 1) (cs.set o v) j (by simpa using h) (by simp only [List.length_cons, List.length_set] at h' ⊢; omega)
    rw [show o + (j + 1) = o + 1 + j by omega, this]; simp

/-- The elements of two lists of cells, one behind the other. -/
theorem elems_append {α : Type} [Dat α] {M : List Nat} {w : World} {l xs : List α} {cells fl : List Value} (hlen : cells.length = l.length * Dat.sz α)
    (h1 : ∀ i (h : i < l.length), ∃ cs, enc M w cs l[i] ∧ ∀ j, j < Dat.sz α → cells[i * Dat.sz α + j]? = cs[j]?)
    (h2 : ∀ i (h : i < xs.length), ∃ cs, enc M w cs xs[i] ∧ ∀ j, j < Dat.sz α → fl[i * Dat.sz α + j]? = cs[j]?) (tl : List Value) (hfl : fl.length = xs.length * Dat.sz α) :
    ∀ i (h : i < (l ++ xs).length), ∃ cs, enc M w cs (l ++ xs)[i] ∧ ∀ j, j < Dat.sz α → (cells ++ fl ++ tl)[i * Dat.sz α + j]? = cs[j]? := by
  intro i hi
  rcases Nat.lt_or_ge i l.length with h | h
  · obtain ⟨cs, hc, hj⟩ := h1 i h
    refine ⟨cs, by rwa [List.getElem_append_left h], fun j hj' => ?_⟩
    have hb' : i * Dat.sz α + j < l.length * Dat.sz α := by
      have := Nat.mul_le_mul_right (Dat.sz α) (show i + 1 ≤ l.length by omega)
      rw [Nat.add_mul, Nat.one_mul] at this; omega
    rw [List.append_assoc, List.getElem?_append_left (by omega)]
    exact hj j hj'
  · have hi' : i - l.length < xs.length := by simp at hi; omega
    obtain ⟨cs, hc, hj⟩ := h2 (i - l.length) hi'
    refine ⟨cs, by rwa [List.getElem_append_right h], fun j hj' => ?_⟩
    have e : i * Dat.sz α = l.length * Dat.sz α + (i - l.length) * Dat.sz α := by rw [← Nat.add_mul]; congr 1; omega
    have hb' : (i - l.length) * Dat.sz α + j < xs.length * Dat.sz α := by
      have := Nat.mul_le_mul_right (Dat.sz α) (show (i - l.length) + 1 ≤ xs.length by omega)
      rw [Nat.add_mul, Nat.one_mul] at this; omega
    rw [List.append_assoc, List.getElem?_append_right (by omega), List.getElem?_append_left (by omega)]
    rw [show i * Dat.sz α + j - cells.length = (i - l.length) * Dat.sz α + j by omega]
    exact hj j hj'

theorem run_askRoom {P : Program} {w : World} (k : Nat) : (askRoom k).run P w = .ok () w := by
  unfold askRoom; split <;> rfl

theorem Own.flat {α : Type} [Dat α] {m M : List Nat} {w : World} {a : Option Addr} {cap : Nat} {l : List α} (h : Own m M w a cap l) :
    ∃ fl : List Value, fl.length = l.length * Dat.sz α ∧ (∀ P : Program, ∀ w1 : World, w1.heap = w.heap → (Builtin.firstCells (Dat.sz α) l.length (.slice a l.length cap)).run P w1 = .ok fl.toArray w1) ∧
      ∀ i (h : i < l.length), ∃ cs, enc (m ++ M) w cs l[i] ∧ ∀ j, j < Dat.sz α → fl[i * Dat.sz α + j]? = cs[j]? := by
  rcases h with ⟨rfl, rfl, rfl⟩ | ⟨g, cells, rfl, _, _, ⟨t, hh⟩, h4, h5, h6⟩
  · exact ⟨[], by simp, fun _ _ _ => rfl, fun i h => by simp at h⟩
  · have hle : l.length * Dat.sz α ≤ cells.length := by rw [h4]; exact Nat.mul_le_mul_right _ h5.1
    have hfl : (cells.take (l.length * Dat.sz α)).length = l.length * Dat.sz α := by rw [List.length_take]; omega
    refine ⟨cells.take (l.length * Dat.sz α), hfl, fun P w1 hw => ?_, fun i hi => ?_⟩
    · have := run_loadCellsFrom (P := P) (w := w1) (ad := ⟨g, 0, none⟩) (cells.take (l.length * Dat.sz α)) 0 #[] (fun j hj => by
        rw [hfl] at hj
        rw [add_spot _ rfl, List.getElem?_take, if_pos hj]; simp [World.cell?, hw, hh])
      rw [hfl] at this
      simpa [Builtin.firstCells, loadCells] using this
    · obtain ⟨cs, he, hcs⟩ := h6 i hi
      refine ⟨cs, he, fun j hj => ?_⟩
      have hb' : i * Dat.sz α + j < l.length * Dat.sz α := by
        have := Nat.mul_le_mul_right (Dat.sz α) (show i + 1 ≤ l.length by omega)
        rw [Nat.add_mul, Nat.one_mul] at this; omega
      rw [List.getElem?_take, if_pos hb', hcs j hj]

theorem run_append {α : Type} [Dat α] {P : Program} {w : World} {T T2 E ty : TypeId} {E' : TypeDesc} {size bytes size2 bytes2 s2 b2 : Nat} {zero zero2 z2 : Value} {m M : List Nat} {a a2 : Option Addr} {cap cap2 : Nat} {l xs : List α}
    (hT : Ty P T (.slice E) size bytes zero) {D2x : TypeId} (hT2 : Ty P T2 (.slice D2x) size2 bytes2 zero2) (hE : Ty P E E' s2 b2 z2) (hsz : s2 = Dat.sz α) (hz : z2.cells.size = Dat.sz α)
    (ho : Own m M w a cap l) (hs : SL (m ++ M) w a2 cap2 xs) (hM : Lo M w) (hroom : (l.length + xs.length) * b2 ≤ 140737488355328) (hb2 : 0 < b2) :
    ∃ a' cap' w' m', (Builtin.append_ #[T, T2] ty #[.slice a l.length cap, .slice a2 xs.length cap2]).run P w = .ok (.slice a' (l ++ xs).length cap') w' ∧
      Own m' M w' a' cap' (l ++ xs) ∧ Evo m w m' w' ∧ Upd (blk a) w w' ∧ (∀ b ∈ blk a', b ∈ blk a ∨ w.heap.size ≤ b) ∧ (∀ b ∈ m, b ∈ m') := by
  subst hsz
  obtain ⟨fl, hfl, hone, hrun, hel⟩ := hs.flat
  obtain ⟨i, hi, his, hib, hiz⟩ := hE.inf
  have hsz' : (sizeOf E).run P w = .ok (Dat.sz α) w := run_sizeOf hE
  have hlen : (l ++ xs).length = l.length + xs.length := List.length_append
  have hun : ∀ w, (underlying T2).run P w = .ok (.slice D2x) w := fun w => run_underlying hT2.und w
  by_cases hfit : l.length + xs.length ≤ cap
  · -- there is room
    rcases ho with ⟨rfl, rfl, rfl⟩ | ⟨g, cells, rfl, hgm, hgM, hbox, hcl, hlc, hall⟩
    · have hx : xs = [] := by simpa using hfit
      subst hx
      refine ⟨none, 0, w, m, ?_, .inl ⟨rfl, rfl, rfl⟩, Evo.refl _ _, Upd.refl _ _, by simp [blk], fun _ h => h⟩
      simp only [Builtin.append_, List.getElem?_toArray, List.getElem?_cons_zero, List.getElem?_cons_succ, Sem.run_bind, run_underlying hT.und, run_underlying hT2.und, Result.andThen_ok, run_sizeOf hE, Sem.run_pure, Builtin.lenOf]
      simp only [List.length_nil] at hrun
      simp only [List.length_nil, Nat.add_zero, Nat.le_refl, if_true, Bool.not_false, Bool.false_eq_true, if_false, Sem.run_bind, Sem.run_pure, Result.andThen_ok]
      simp only [List.length_nil, Nat.add_zero, Nat.le_refl, if_true, Bool.not_false, Bool.false_eq_true, if_false, Sem.run_bind, Sem.run_pure, Result.andThen_ok, hrun P w rfl]
      simp [Sem.run_pure]
    · have hfit' : l.length * Dat.sz α + fl.length ≤ cells.length := by
        rw [hfl, hcl, ← Nat.add_mul]; exact Nat.mul_le_mul_right _ hfit
      obtain ⟨w', h1, h2, h3, h4⟩ := run_store (P := P) fl (l.length * Dat.sz α) 0 hbox (by omega) hone
      have hev : Evo m w m w' := h3.evo (by simp [hgm])
      refine ⟨some ⟨g, 0, none⟩, cap, w', m, ?_, .inr ⟨g, _, rfl, hgm, hgM, h2, by rw [putL_length]; exact hcl, ⟨by omega, hlc.2⟩, fun i hi => ?_⟩, hev, h3, fun b hb => .inl hb, fun _ h => h⟩
      · simp only [Builtin.append_, List.getElem?_toArray, List.getElem?_cons_zero, List.getElem?_cons_succ, Sem.run_bind, run_underlying hT.und, run_underlying hT2.und, Result.andThen_ok, run_sizeOf hE, Sem.run_pure, Builtin.lenOf]
        simp only [hfit, if_true, Bool.not_false, Bool.false_eq_true, if_false, Sem.run_bind, Sem.run_pure, Result.andThen_ok]
        simp only [hfit, if_true, Bool.not_false, Bool.false_eq_true, if_false, Sem.run_bind, Sem.run_pure, Result.andThen_ok, hrun P w rfl]
        rw [show (⟨g, 0, none⟩ : Addr).add (l.length * Dat.sz α) = ⟨g, l.length * Dat.sz α, none⟩ from by rw [add_spot _ rfl]; simp, h1]
        simp [Sem.run_pure]
      · rcases Nat.lt_or_ge i l.length with h | h
        · obtain ⟨cs, hc, hj⟩ := hall i h
          refine ⟨cs, by rw [List.getElem_append_left h]; exact Dat.mono hc (hev.tr M), fun j hj' => ?_⟩
          have hb' : i * Dat.sz α + j < l.length * Dat.sz α := by
            have := Nat.mul_le_mul_right (Dat.sz α) (show i + 1 ≤ l.length by omega)
            rw [Nat.add_mul, Nat.one_mul] at this; omega
          rw [putL_lt _ _ _ _ (by omega)]; exact hj j hj'
        · have hi' : i - l.length < xs.length := by simp at hi; omega
          obtain ⟨cs, hc, hj⟩ := hel (i - l.length) hi'
          refine ⟨cs, by rw [List.getElem_append_right h]; exact Dat.mono hc (hev.tr M), fun j hj' => ?_⟩
          have e : i * Dat.sz α = l.length * Dat.sz α + (i - l.length) * Dat.sz α := by rw [← Nat.add_mul]; congr 1; omega
          have hb' : (i - l.length) * Dat.sz α + j < xs.length * Dat.sz α := by
            have := Nat.mul_le_mul_right (Dat.sz α) (show (i - l.length) + 1 ≤ xs.length by omega)
            rw [Nat.add_mul, Nat.one_mul] at this; omega
          rw [show i * Dat.sz α + j = (l.length * Dat.sz α + 0) + ((i - l.length) * Dat.sz α + j) by omega, putL_in _ _ _ _ (by omega) (by omega)]
          exact hj j hj'
  · -- a new array
    obtain ⟨fo, hfo, hruno, helo⟩ := ho.flat
    have hnb : (l.length + xs.length) * i.bytes ≤ 140737488355328 := by rw [hib]; exact hroom
    have h48 : ¬ (Builtin.nextslicecap (l.length + xs.length) cap * i.bytes > 2 ^ 48) := by
      have := growslice_fits (need := l.length + xs.length) (old := cap) (bytes := i.bytes) (by omega) hnb
      have e : (2 : Nat) ^ 48 = 281474976710656 := by decide
      rw [e]; omega
    have hti : ∀ w, (typeInfo E).run P w = .ok i w := fun w => by simp [typeInfo, go_sem, hi]
    have hov : ¬ (((l.length + xs.length : Nat) : Int) > IntKind.i64.max ∧ (False ∨ i.bytes = 0)) := by
      rintro ⟨_, h | h⟩
      · exact h
      · omega
    let nc := (Question.appendCap (l.length + xs.length) cap E).cut (w.tape w.drawn (Question.appendCap (l.length + xs.length) cap E))
    have hnc : l.length + xs.length ≤ nc := Nat.le_add_right _ _
    have hneed : l.length + xs.length < 2 ^ 63 := by
      have : (l.length + xs.length) * 1 ≤ (l.length + xs.length) * i.bytes := Nat.mul_le_mul_left _ (by omega)
      have e : (2 : Nat) ^ 63 = 9223372036854775808 := by decide
      rw [e]; omega
    have hnc2 : nc < 9223372036854775808 := by
      have h1 : nc = l.length + xs.length + (w.tape w.drawn (Question.appendCap (l.length + xs.length) cap E)) % (2 ^ 63 - (l.length + xs.length)) := rfl
      have h2 := Nat.mod_lt (w.tape w.drawn (Question.appendCap (l.length + xs.length) cap E)) (show 2 ^ 63 - (l.length + xs.length) > 0 by omega)
      have e : (2 : Nat) ^ 63 = 9223372036854775808 := by decide
      rw [e] at h1 h2 hneed; omega
    let tl := (Builtin.zeroCells z2.cells (nc - (l.length + xs.length))).toList
    have htl : tl.length = (nc - (l.length + xs.length)) * Dat.sz α := by simp [tl, Builtin.zeroCells, hz]
    let w' : World := { w with drawn := w.drawn + 1, heap := w.heap.push (.cells (fo ++ fl ++ tl).toArray E) }
    have hu : Upd [] w w' := ⟨rfl, rfl, rfl, by simp [w'], fun b hb _ => by
      show (w.heap.push _)[b]? = _
      rw [Array.getElem?_push, if_neg (by omega)]⟩
    have hev : Evo m w (w.heap.size :: m) w' := hu.evoN rfl (by simp [w'])
    have hbox : Box w' w.heap.size (fo ++ fl ++ tl) := ⟨E, by simp [w']⟩
    refine ⟨some ⟨w.heap.size, 0, none⟩, nc, w', w.heap.size :: m, ?_, .inr ⟨w.heap.size, fo ++ fl ++ tl, rfl, by simp, fun h => Nat.lt_irrefl _ (hM _ h), hbox, ?_, ⟨by omega, hnc2⟩, ?_⟩, hev, hu.mono (by simp), by simp [blk], fun b hb => by simp [hb]⟩
    · have hch : (choose (Question.appendCap (l.length + xs.length) cap E)).run P w = .ok nc { w with drawn := w.drawn + 1 } := rfl
      have ho1 := hruno P { w with drawn := w.drawn + 1 } rfl
      have hn1 := hrun P { w with drawn := w.drawn + 1 } rfl
      have hcat : fo.toArray ++ fl.toArray ++ Builtin.zeroCells z2.cells (nc - (l.length + xs.length)) = (fo ++ fl ++ tl).toArray := by
        simp [tl]
      simp only [Builtin.append_, List.getElem?_toArray, List.getElem?_cons_zero, List.getElem?_cons_succ, Sem.run_bind, run_underlying hT.und, run_underlying hT2.und, Result.andThen_ok, run_sizeOf hE, Sem.run_pure, Builtin.lenOf]
      simp only [hfit, Bool.not_false, Bool.false_eq_true, if_false, Sem.run_bind, Sem.run_pure, Result.andThen_ok, hti, hov, h48]
      simp only [hfit, Bool.not_false, Bool.false_eq_true, if_false, if_true, Sem.run_bind, Sem.run_pure, Result.andThen_ok, hti, hov, h48, hch, run_askRoom, ho1, hn1, run_zeroValue hE, newRow, hcat]
      rw [hlen]; rfl
    · simp only [List.length_append, hfo, hfl, htl]
      rw [← Nat.add_mul, ← Nat.add_mul]; congr 1; omega
    · refine elems_append hfo (fun i hi => ?_) (fun i hi => ?_) tl hfl
      · obtain ⟨cs, hc, hj⟩ := helo i hi; exact ⟨cs, Dat.mono hc (hev.tr M), hj⟩
      · obtain ⟨cs, hc, hj⟩ := hel i hi; exact ⟨cs, Dat.mono hc (hev.tr M), hj⟩

section
variable {P : Program} {n : Nat} {σ : Nat → Value} {w : World} {Q : Exit → Act → World → Prop} {ops : Array Oper} {rest : List Oper}
variable {d : Nat} {ty : TypeId} {pos : String} {aft : Array Edge} {g : Option (Nat × Bool)}
variable {T T2 E D2x : TypeId} {E' : TypeDesc} {size bytes size2 bytes2 s2 b2 : Nat} {zero zero2 z2 : Value} {x y z : Operand}

theorem op_append {α : Type} [Dat α] {m M : List Nat} {a a2 : Option Addr} {cap cap2 : Nat} {l xs : List α}
    (hT : Ty P T (.slice E) size bytes zero) (hT2 : Ty P T2 (.slice D2x) size2 bytes2 zero2) (hE : Ty P E E' s2 b2 z2) (hsz : s2 = Dat.sz α) (hz : z2.cells.size = Dat.sz α) (hb2 : Nat.blt 0 b2 = true)
    (hg : wantF ops σ n g = true) (hx : (okO n x && okO n y) = true) (ex : ev σ x = .slice a l.length cap) (ey : ev σ y = .slice a2 xs.length cap2)
    (ho : Own m M w a cap l) (hs : SL (m ++ M) w a2 cap2 xs) (hM : Lo M w) (hroom : (l.length + xs.length) * b2 ≤ 140737488355328)
    (k : ∀ a' cap' w' m', Own m' M w' a' cap' (l ++ xs) → Evo m w m' w' → Upd (blk a) w w' → (∀ b ∈ blk a', b ∈ blk a ∨ w.heap.size ≤ b) → (∀ b ∈ m, b ∈ m') →
      wpList P ops Q rest (Fr n (upd σ d (.slice a' (l ++ xs).length cap'))) w') :
    wpList P ops Q (⟨some d, .call ⟨.builtin .append, #[x, y], #[T, T2]⟩, ty, pos, aft, g⟩ :: rest) (Fr n σ) w := by
  simp only [Bool.and_eq_true] at hx
  obtain ⟨a', cap', w', m', h1, h2, h3, h4, h5, h6⟩ := run_append (ty := ty) hT hT2 hE hsz hz ho hs hM hroom (by simpa using hb2)
  have he : (#[x, y].map (Fr n σ).eval) = #[Value.slice a l.length cap, Value.slice a2 xs.length cap2] := by simp [eval_Fr hx.1, eval_Fr hx.2, ex, ey]
  exact op_val hg (by simp only [execOp, resolve, he, invoke, builtin, Sem.run_bind, Sem.run_pure, Result.andThen_ok, h1]) (k a' cap' w' m' h2 h3 h4 h5 h6)

/-- A fresh block of elements, as data. -/
theorem SL.of_box {α : Type} [Dat α] {M : List Nat} {β : Nat} {cs : List Value} {l : List α} (hb : Box w β cs) (hβ : β ∉ M) (hl : cs.length = l.length * Dat.sz α) (h63 : l.length < 9223372036854775808)
    (h : ∀ i (h : i < l.length), ∃ ds, enc M w ds l[i] ∧ ∀ j, j < Dat.sz α → cs[i * Dat.sz α + j]? = ds[j]?) : SL M w (some ⟨β, 0, none⟩) l.length l := by
  obtain ⟨t, hh⟩ := hb
  refine ⟨⟨Nat.le_refl _, h63⟩, .inr ⟨β, 0, cs.toArray, t, (0, 0), rfl, hβ, hh, fun i hi => ?_⟩⟩
  obtain ⟨ds, h1, h2⟩ := h i hi
  exact ⟨ds, h1, fun j hj => by rw [← h2 j hj]; simp⟩
theorem SL.of_box1 {α : Type} [Dat α] {M : List Nat} {β : Nat} {cs : List Value} {u : α} (hb : Box w β cs) (hβ : β ∉ M) (h : enc M w cs u) : SL M w (some ⟨β, 0, none⟩) 1 [u] :=
  SL.of_box hb hβ (by simp [Dat.len h]) (by simp) (fun i hi => by
    have : i = 0 := by simpa using hi
    subst this; exact ⟨cs, h, fun j _ => by simp⟩)

theorem Lo.fresh {M : List Nat} {β : Nat} (h : Lo M w) (hb : w.heap.size = β) : β ∉ M := fun hm => by have := h β hm; omega
/-- A list of cells that reads as a list of elements. -/
def EncL {α : Type} [Dat α] (M : List Nat) (w : World) : List Value → List α → Prop
  | cs, [] => cs = []
  | cs, u :: l => ∃ ds rest, cs = ds ++ rest ∧ enc M w ds u ∧ EncL M w rest l
theorem EncL.spec {α : Type} [Dat α] {M : List Nat} : ∀ {l : List α} {cs : List Value}, EncL M w cs l → cs.length = l.length * Dat.sz α ∧
    ∀ i (h : i < l.length), ∃ ds, enc M w ds l[i] ∧ ∀ j, j < Dat.sz α → cs[i * Dat.sz α + j]? = ds[j]?
  | [], cs, h => by
    have : cs = [] := h
    subst this; exact ⟨by simp, fun i h => by simp at h⟩
  | u :: l, cs, ⟨ds, rest, h1, h2, h3⟩ => by
    subst h1
    obtain ⟨h4, h5⟩ := EncL.spec h3
    have hd := Dat.len h2
    refine ⟨by simp only [List.length_append, hd, h4, List.length_cons, Nat.add_mul, Nat.one_mul]; omega, fun i hi => ?_⟩
    cases i with
    | zero => exact ⟨ds, h2, fun j hj => by rw [Nat.zero_mul, Nat.zero_add, List.getElem?_append_left (by omega)]⟩
    | succ i =>
      obtain ⟨es, h6, h7⟩ := h5 i (by simpa using hi)
      refine ⟨es, h6, fun j hj => ?_⟩
      rw [Nat.add_mul, Nat.one_mul, List.getElem?_append_right (by omega), ← h7 j hj]
      congr 1; omega
theorem SL.of_boxL {α : Type} [Dat α] {M : List Nat} {β : Nat} {cs : List Value} {l : List α} (hb : Box w β cs) (hβ : β ∉ M) (h63 : l.length < 9223372036854775808) (h : EncL M w cs l) : SL M w (some ⟨β, 0, none⟩) l.length l :=
  SL.of_box hb hβ h.spec.1 h63 h.spec.2
end
end Go.Sx
