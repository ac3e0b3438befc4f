/- Struct literals, slice literals, append onto a slice of our own. -/
import Derived.Test.YtcnhjofpmpipfaaOps
import Derived.Laws.Append
namespace Go.Sx
open Go Go.RowKit
open Go.Sx.Dat (enc)

/-! ### Struct literals -/
def fillL (pl : List (Nat × Nat)) : List Value → List (Nat × Value) → Option (List Value)
  | cells, [] => some cells
  | cells, (i, v) :: rest =>
    match pl[i]? with
    | none => none
    | some (off, size) => cond (Nat.beq v.cells.toList.length size && Nat.ble (off + size) cells.length) (fillL pl (putL cells off v.cells.toList) rest) none

theorem putL_toArray : ∀ (vs : List Value) (o : Nat) (cs : List Value),
    (vs.zipIdx.foldl (fun (cs : Array Value) (p : Value × Nat) => cs.setIfInBounds (o + p.2) p.1) cs.toArray) = (putL cs o vs).toArray := by
  have key : ∀ (vs : List Value) (o k : Nat) (cs : List Value),
      ((vs.zipIdx k).foldl (fun (cs : Array Value) (p : Value × Nat) => cs.setIfInBounds (o + p.2) p.1) cs.toArray) = (putL cs (o + k) vs).toArray := by
    intro vs
    induction vs with
    | nil => intro o k cs; rfl
    | cons v vs ih =>
      intro o k cs
      simp only [List.zipIdx_cons, List.foldl_cons, putL, List.setIfInBounds_toArray]
      rw [ih, Nat.add_assoc]
  intro vs o cs
  simpa using key vs o 0 cs

theorem putL_length : ∀ (vs : List Value) (o : Nat) (cs : List Value), (putL cs o vs).length = cs.length
  | [], _, _ => rfl
  | v :: vs, o, cs => by simp [putL, putL_length vs]

theorem fill_eq (place : Nat → Option (Nat × Nat)) (pl : List (Nat × Nat)) (hp : ∀ i, place i = pl[i]?) : ∀ (parts : List (Nat × Value)) (cells r : List Value), fillL pl cells parts = some r →
    Instr.fill place cells.toArray parts = some r.toArray
  | [], cells, r, h => by simp only [fillL, Option.some.injEq] at h; subst h; rfl
  | (i, v) :: rest, cells, r, h => by
    unfold fillL at h
    unfold Instr.fill
    rw [hp]
    split at h
    · cases h
    · rename_i off size he
      rw [he]
      cases hc : (Nat.beq v.cells.toList.length size && Nat.ble (off + size) cells.length) with
      | false => rw [hc] at h; cases h
      | true =>
        rw [hc] at h
        simp only [Bool.and_eq_true] at hc
        have h1 := Nat.eq_of_beq_eq_true hc.1
        have h2 := Nat.le_of_ble_eq_true hc.2
        have h1' : v.cells.size = size := by simpa using h1
        simp only
        rw [if_neg (by rw [h1']; simp; omega)]
        have := putL_toArray v.cells.toList off cells
        rw [← Array.foldl_toList, Array.toList_zipIdx, this]
        exact fill_eq place pl hp rest _ _ h

/-- The places of a struct's fields. -/
def Szs (P : Program) (T : TypeId) (pl : List (Nat × Nat)) : Prop := ∃ fs, P.underlying T = some (.struct fs) ∧ ∀ w, (fs.mapM fun f => (do pure (f.offset, ← sizeOf f.type) : Sem (Nat × Nat))).run P w = .ok pl.toArray w

section
variable {P : Program} {n : Nat} {σ : Nat → Value} {w : World} {Q : Exit → Act → World → Prop} {ops : Array Oper} {rest : List Oper}
variable {d : Nat} {ty : TypeId} {pos : String} {aft : Array Edge} {g : Option (Nat × Bool)}
variable {T T' E : TypeId} {D : TypeDesc} {size bytes : Nat} {zero : Value} {x y z : Operand}

def pev (σ : Nat → Value) (l : List (Nat × Operand)) : List (Nat × Value) := l.map fun p => (p.1, ev σ p.2)
def okPs (n : Nat) : List (Nat × Operand) → Bool
  | [] => true
  | x :: l => cond (okO n x.2) (okPs n l) false
theorem pev_Fr {l : List (Nat × Operand)} (h : okPs n l = true) : l.toArray.map (fun p => (p.1, (Fr n σ).eval p.2)) = (pev σ l).toArray := by
  simp only [List.map_toArray, pev]
  congr 1
  apply List.map_congr_left
  intro p hp
  rw [eval_Fr]
  induction l with
  | nil => simp at hp
  | cons y l ih =>
    have hy : okO n y.2 = true ∧ okPs n l = true := by
      unfold okPs at h; cases h' : okO n y.2 <;> simp [h'] at h <;> simp [h]
    simp only [List.mem_cons] at hp
    rcases hp with rfl | hp
    · exact hy.1
    · exact ih hy.2 hp

theorem op_build {l : List (Nat × Operand)} {pl : List (Nat × Nat)} {zs r : List Value} {ps : List (Nat × Value)} (hT : Ty P T D size bytes zero) (hS : Szs P T pl) (hz : zero.cells.toList = zs)
    (hg : wantF ops σ n g = true) (hx : okPs n l = true) (hp : pev σ l = ps) (hf : fillL pl zs ps = some r)
    (k : wpList P ops Q rest (Fr n (upd σ d (.agg r.toArray))) w) : wpList P ops Q (⟨some d, .build T l.toArray, ty, pos, aft, g⟩ :: rest) (Fr n σ) w := by
  subst hz; subst hp
  obtain ⟨fs, h1, h2⟩ := hS
  refine op_val hg ?_ k
  have h3 := fill_eq (fun i => pl.toArray[i]?) pl (by simp) _ _ _ hf
  have h3' : Instr.fill (fun x => pl.toArray[x]?) zero.cells (pev σ l) = some r.toArray := by simpa using h3
  simp only [execOp, pev_Fr hx, Instr.build, Sem.run_bind, run_zeroValue hT, Result.andThen_ok, run_underlying h1, h2 w, h3', Sem.run_pure]

def zerosL (zs : List Value) (m : Nat) : List Value := (List.range m).map fun i => zs[i % zs.length]!
theorem op_buildSlice {l : List (Nat × Operand)} {len : Nat} {E' : TypeDesc} {s2 b2 : Nat} {z2 : Value} {zs r : List Value} {ps : List (Nat × Value)} (hT : Ty P T (.slice E) size bytes zero) (hE : Ty P E E' s2 b2 z2) (hz : z2.cells.toList = zs)
    (hs : (Nat.ble (len * s2) 16777216 && Nat.blt 0 (len * s2)) = true)
    (hg : wantF ops σ n g = true) (hx : okPs n l = true) (hp : pev σ l = ps) (hf : fillL ((List.range len).map fun i => (i * s2, s2)) (zerosL zs (len * s2)) ps = some r)
    (k : ∀ β w', w.heap.size = β → Upd [] w w' → w'.heap.size = β + 1 → Box w' β r → wpList P ops Q rest (Fr n (upd σ d (.slice (some ⟨β, 0, none⟩) len len))) w') :
    wpList P ops Q (⟨some d, .buildSlice T len l.toArray, ty, pos, aft, g⟩ :: rest) (Fr n σ) w := by
  subst hz; subst hp
  simp only [Bool.and_eq_true] at hs
  have hs1 := Nat.le_of_ble_eq_true hs.1
  have hs2 : 0 < len * s2 := by have := hs.2; simpa using this
  refine op_val (w' := { w with heap := w.heap.push (.cells r.toArray E) }) hg ?_ (k _ _ rfl (Upd.push _ _) (by simp) (by simpa using Box.push w r E))
  have hfill : Instr.fill (fun i => some (i * s2, s2)) (zerosL z2.cells.toList (len * s2)).toArray (pev σ l) = some r.toArray := by
    have hin : ∀ p ∈ pev σ l, p.1 < len := by
      intro p hp
      have : ∀ (ps : List (Nat × Value)) (cs r : List Value), fillL ((List.range len).map fun i => (i * s2, s2)) cs ps = some r → ∀ p ∈ ps, p.1 < len := by
        intro ps
        induction ps with
        | nil => intro _ _ _ p hp; simp at hp
        | cons q ps ih =>
          intro cs r h p hp
          obtain ⟨i, v⟩ := q
          unfold fillL at h
          split at h
          · cases h
          · rename_i off sz he
            simp only [List.mem_cons] at hp
            rcases hp with rfl | hp
            · simp only [List.getElem?_map, Option.map_eq_some_iff] at he
              obtain ⟨a, ha, _⟩ := he
              rcases Nat.lt_or_ge i len with h' | h'
              · exact h'
              · rw [List.getElem?_eq_none (by simpa using h')] at ha; cases ha
            · cases hc : (Nat.beq v.cells.toList.length sz && Nat.ble (off + sz) cs.length) with
              | false => rw [hc] at h; cases h
              | true => rw [hc] at h; exact ih _ _ h p hp
      exact this _ _ _ hf p hp
    have e : ∀ (ps : List (Nat × Value)) (cs : Array Value), (∀ p ∈ ps, p.1 < len) → Instr.fill (fun i => some (i * s2, s2)) cs ps = Instr.fill (fun i => ((List.range len).map fun i => (i * s2, s2))[i]?) cs ps := by
      intro ps
      induction ps with
      | nil => intro _ _; rfl
      | cons q ps ih =>
        intro cs h
        obtain ⟨i, v⟩ := q
        have hi : i < len := h (i, v) (by simp)
        unfold Instr.fill
        have : ((List.range len).map fun i => (i * s2, s2))[i]? = some (i * s2, s2) := by simp [hi]
        simp only [this]
        split
        · rfl
        · exact ih _ (fun p hp => h p (by simp [hp]))
    rw [e _ _ hin]
    exact fill_eq _ _ (fun _ => rfl) _ _ _ hf
  have hz : ((Array.range (len * s2)).map fun x => z2.cells[x % z2.cells.size]!) = (zerosL z2.cells.toList (len * s2)).toArray := by
    apply Array.ext
    · simp [zerosL]
    · intro i h1 h2; simp [zerosL, getElem!_def]
  simp only [execOp, pev_Fr hx, Instr.buildSlice, Sem.run_bind, run_underlying hT.und, Sem.run_pure, Result.andThen_ok, run_sizeOf hE]
  rw [if_neg (by omega), if_neg (by omega)]
  simp only [Sem.run_bind, run_zeroValue hE, Result.andThen_ok, Sem.run_pure, hz, hfill, newRow]
  rfl
end

/-! ### append -/
/-- A slice of our own: we may append to it. -/
def Own {α : Type} [Dat α] (m M : List Nat) (w : World) (a : Option Addr) (cap : Nat) (l : List α) : Prop :=
  (a = none ∧ cap = 0 ∧ l = []) ∨
  ∃ g cells, a = some ⟨g, 0, none⟩ ∧ g ∈ m ∧ g ∉ M ∧ Box w g cells ∧ cells.length = cap * Dat.sz α ∧ (l.length ≤ cap ∧ cap < 9223372036854775808) ∧
    ∀ i (h : i < l.length), ∃ cs, enc (m ++ M) w cs l[i] ∧ ∀ j, j < Dat.sz α → cells[i * Dat.sz α + j]? = cs[j]?

def blk : Option Addr → List Nat
  | none => []
  | some a => [a.block]

theorem Own.nil {α : Type} [Dat α] {m M : List Nat} {w : World} : Own m M w none 0 ([] : List α) := .inl ⟨rfl, rfl, rfl⟩
theorem Own.lt {α : Type} [Dat α] {m M : List Nat} {w : World} {a : Option Addr} {cap : Nat} {l : List α} (h : Own m M w a cap l) : ∀ b ∈ blk a, b < w.heap.size := by
  rcases h with ⟨rfl, _, _⟩ | ⟨g, cells, rfl, _, _, hb, _⟩
  · simp [blk]
  · simp only [blk, List.mem_singleton]; rintro b rfl; exact hb.lt
theorem Own.mem {α : Type} [Dat α] {m M : List Nat} {w : World} {a : Option Addr} {cap : Nat} {l : List α} (h : Own m M w a cap l) : ∀ b ∈ blk a, b ∈ m := by
  rcases h with ⟨rfl, _, _⟩ | ⟨g, cells, rfl, hm, _⟩
  · simp [blk]
  · simp only [blk, List.mem_singleton]; rintro b rfl; exact hm
/-- It stays ours while other blocks turn. -/
theorem Own.mono {α : Type} [Dat α] {m m' M : List Nat} {w w' : World} {a : Option Addr} {cap : Nat} {l : List α} {S : List Nat} (h : Own m M w a cap l) (u : Upd S w w') (hS : ∀ b ∈ blk a, b ∉ S)
    (e : Evo m w m' w') (hm : ∀ b ∈ blk a, b ∈ m') : Own m' M w' a cap l := by
  rcases h with h | ⟨g, cells, rfl, h1, h2, h3, h4, h5, h6⟩
  · exact .inl h
  · refine .inr ⟨g, cells, rfl, hm g (by simp [blk]), h2, h3.mono u (hS g (by simp [blk])), h4, h5, fun i hi => ?_⟩
    obtain ⟨cs, hc, hj⟩ := h6 i hi
    exact ⟨cs, Dat.mono hc (e.tr M), hj⟩
/-- It is handed over: nothing will be appended to it any more. -/
theorem Own.shut {α : Type} [Dat α] {m M : List Nat} {w : World} {a : Option Addr} {cap : Nat} {l : List α} (h : Own m M w a cap l) {N : List Nat} (hN : ∀ b ∈ N, b ∈ m ++ M) (hg : ∀ b ∈ blk a, b ∉ N) : SL N w a cap l := by
  rcases h with ⟨rfl, rfl, rfl⟩ | ⟨g, cells, rfl, h1, h2, h3, h4, h5, h6⟩
  · exact SL.nil
  · obtain ⟨t, hh⟩ := h3
    refine ⟨h5, .inr ⟨g, 0, cells.toArray, t, (0, 0), rfl, hg g (by simp [blk]), hh, fun i hi => ?_⟩⟩
    obtain ⟨cs, hc, hj⟩ := h6 i hi
    exact ⟨cs, Dat.mono hc (Tr.sub w hN), fun j hj' => by rw [← hj j hj']; simp⟩
theorem Own.shutM {α : Type} [Dat α] {m M : List Nat} {w : World} {a : Option Addr} {cap : Nat} {l : List α} (h : Own m M w a cap l) : SL M w a cap l :=
  h.shut (fun b hb => by simp [hb]) (by
    rcases h with ⟨rfl, _, _⟩ | ⟨g, cells, rfl, _, h2, _⟩
    · simp [blk]
    · simp only [blk, List.mem_singleton]; rintro b rfl; exact h2)

/-- The cells of a slice as one list. -/
theorem SL.flat {α : Type} [Dat α] {M : List Nat} {w : World} {a : Option Addr} {cap : Nat} {l : List α} (h : SL M w a cap l) :
    ∃ fl : List Value, fl.length = l.length * Dat.sz α ∧ fl.all one = true ∧ (∀ P : Program, ∀ w1 : World, w1.heap = w.heap → (Builtin.firstCells (Dat.sz α) l.length (.slice a l.length cap)).run P w1 = .ok fl.toArray w1) ∧
      ∀ i (h : i < l.length), ∃ cs, enc M w cs l[i] ∧ ∀ j, j < Dat.sz α → fl[i * Dat.sz α + j]? = cs[j]? := by
  obtain ⟨hc, h⟩ := h
  rcases h with rfl | ⟨b, off, cells, t, fz, rfl, hb, hh, hall⟩
  · refine ⟨[], by simp, rfl, fun P w1 hw => ?_, fun i h => by simp at h⟩
    cases a with
    | none => rfl
    | some a => simp [Builtin.firstCells, loadCells, loadCellsFrom, Sem.run_pure]
  · have hlen : off + l.length * Dat.sz α ≤ cells.size ∨ l.length * Dat.sz α = 0 := by
      rcases Nat.eq_zero_or_pos (l.length * Dat.sz α) with h0 | h0
      · exact .inr h0
      · left
        have hl : 0 < l.length := Nat.pos_of_mul_pos_right h0
        have hs : 0 < Dat.sz α := Nat.pos_of_mul_pos_left h0
        obtain ⟨cs, he, hcs⟩ := hall (l.length - 1) (by omega)
        have h1 := hcs (Dat.sz α - 1) (by omega)
        rw [List.getElem?_eq_getElem (by rw [Dat.len he]; omega)] at h1
        have h2 := (Array.getElem?_eq_some_iff.1 h1).1
        have : (l.length - 1) * Dat.sz α + Dat.sz α = l.length * Dat.sz α := by rw [Nat.sub_mul, Nat.one_mul]; have := Nat.le_mul_of_pos_left (Dat.sz α) hl; omega
        omega
    have hfl : ((cells.toList.drop off).take (l.length * Dat.sz α)).length = l.length * Dat.sz α := by
      simp only [List.length_take, List.length_drop, Array.length_toList]; omega
    have hget : ∀ k, k < l.length * Dat.sz α → ((cells.toList.drop off).take (l.length * Dat.sz α))[k]? = cells[off + k]? := by
      intro k hk; rw [List.getElem?_take, if_pos hk, List.getElem?_drop]; simp
    refine ⟨(cells.toList.drop off).take (l.length * Dat.sz α), hfl, ?_, fun P w1 hw => ?_, fun i hi => ?_⟩
    · rw [List.all_eq_true]
      intro v hv
      obtain ⟨k, hk, rfl⟩ := List.getElem_of_mem hv
      rw [hfl] at hk
      have hs : 0 < Dat.sz α := Nat.pos_of_ne_zero fun h => by rw [h] at hk; simp at hk
      have hq : k / Dat.sz α < l.length := (Nat.div_lt_iff_lt_mul hs).2 hk
      obtain ⟨cs, he, hcs⟩ := hall (k / Dat.sz α) hq
      have h1 := hcs (k % Dat.sz α) (Nat.mod_lt _ hs)
      rw [show off + k / Dat.sz α * Dat.sz α + k % Dat.sz α = off + k by have := Nat.div_add_mod k (Dat.sz α); rw [Nat.mul_comm] at this; omega, ← hget k hk] at h1
      rw [List.getElem?_eq_getElem (by omega)] at h1
      have h2 := Dat.ones he
      rw [List.all_eq_true] at h2
      exact h2 _ (List.mem_of_getElem? h1.symm)
    · have := run_loadCellsFrom (P := P) (w := w1) (ad := ⟨b, off, none⟩) ((cells.toList.drop off).take (l.length * Dat.sz α)) 0 #[] (fun j hj => by
        rw [hfl] at hj
        rw [add_spot _ rfl, hget j hj]; simp [World.cell?, hw, hh])
      rw [hfl] at this
      simpa [Builtin.firstCells, loadCells] using this
    · obtain ⟨cs, he, hcs⟩ := hall i hi
      refine ⟨cs, he, fun j hj => ?_⟩
      have hb' : i * Dat.sz α + j < l.length * Dat.sz α := by
        have := Nat.mul_le_mul_right (Dat.sz α) (show i + 1 ≤ l.length by omega)
        rw [Nat.add_mul, Nat.one_mul] at this; omega
      rw [hget _ hb', ← hcs j hj, Nat.add_assoc]
end Go.Sx
