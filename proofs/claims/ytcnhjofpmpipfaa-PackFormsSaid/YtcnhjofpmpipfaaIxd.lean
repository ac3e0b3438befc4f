/- The interpreter's operations: slices, places, append, strings, maps, iterators. -/
import Derived.Test.YtcnhjofpmpipfaaIxc
import Derived.Laws.BytesString
set_option linter.unusedVariables false
namespace Go.Ix
open Go Go.Sx Go.RowKit
universe u

section
variable {P : Program} {tt : Nat → Option TI} {T : TW} {E : Env} {S : IS}

/-! ### Slice literals -/
theorem run_buildSlice {w : World} {T E : TypeId} {D : TypeDesc} {size bytes s2 b2 len : Nat} {zero z2 : Value} {E' : TypeDesc} {zs r : List Value} {ps : List (Nat × Value)} (hT : Ty P T (.slice E) size bytes zero) (hE : Ty P E E' s2 b2 z2) (hz : z2.cells.toList = zs)
    (hs : (Nat.ble (len * s2) 16777216 && Nat.blt 0 (len * s2)) = true) (hf : fillL ((List.range len).map fun i => (i * s2, s2)) (zerosL zs (len * s2)) ps = some r) :
    (Instr.buildSlice T len ps.toArray).run P w = .ok (.slice (some ⟨w.heap.size, 0, none⟩) len len) { w with heap := w.heap.push (.cells r.toArray E) } := by
  subst hz
  simp only [Bool.and_eq_true] at hs
  have hs1 := Nat.le_of_ble_eq_true hs.1
  have hs2 : 0 < len * s2 := by have := hs.2; simpa using this
  have hin : ∀ (ps : List (Nat × Value)) (cs r : List Value), fillL ((List.range len).map fun i => (i * s2, s2)) cs ps = some r → ∀ p ∈ ps, p.1 < len := by
    intro ps
    induction ps with
    | nil => intro _ _ _ p hp; simp at hp
    | cons q ps ih =>
      intro cs r h p hp
      obtain ⟨i, v⟩ := q
      unfold fillL at h
      split at h
      · cases h
      · rename_i off sz he
        simp only [List.mem_cons] at hp
        rcases hp with rfl | hp
        · simp only [List.getElem?_map, Option.map_eq_some_iff] at he
          obtain ⟨a, ha, _⟩ := he
          rcases Nat.lt_or_ge i len with h' | h'
          · exact h'
          · rw [List.getElem?_eq_none (by simpa using h')] at ha; cases ha
        · cases hc : (Nat.beq v.cells.toList.length sz && Nat.ble (off + sz) cs.length) with
          | false => rw [hc] at h; cases h
          | true => rw [hc] at h; exact ih _ _ h p hp
  have e : ∀ (ps : List (Nat × Value)) (cs : Array Value), (∀ p ∈ ps, p.1 < len) → Instr.fill (fun i => some (i * s2, s2)) cs ps = Instr.fill (fun i => ((List.range len).map fun i => (i * s2, s2))[i]?) cs ps := by
    intro ps
    induction ps with
    | nil => intro _ _; rfl
    | cons q ps ih =>
      intro cs h
      obtain ⟨i, v⟩ := q
      have hi : i < len := h (i, v) (by simp)
      unfold Instr.fill
      have : ((List.range len).map fun i => (i * s2, s2))[i]? = some (i * s2, s2) := by simp [hi]
      simp only [this]
      split
      · rfl
      · exact ih _ (fun p hp => h p (by simp [hp]))
  have hfill : Instr.fill (fun i => some (i * s2, s2)) (zerosL z2.cells.toList (len * s2)).toArray ps = some r.toArray := by
    rw [e _ _ (hin _ _ _ hf)]
    exact fill_eq _ _ (fun _ => rfl) _ _ _ hf
  have hz : ((Array.range (len * s2)).map fun x => z2.cells[x % z2.cells.size]!) = (zerosL z2.cells.toList (len * s2)).toArray := by
    apply Array.ext
    · simp [zerosL]
    · intro i h1 h2; simp [zerosL, getElem!_def]
  simp only [Instr.buildSlice, Sem.run_bind, run_underlying hT.und, Sem.run_pure, Result.andThen_ok, Sx.run_sizeOf hE]
  rw [if_neg (by omega), if_neg (by omega)]
  simp only [Sem.run_bind, Sx.run_zeroValue hE, Result.andThen_ok, Sem.run_pure, hz, hfill, newRow]
  rfl
theorem run_buildSlice0 {w : World} {T E : TypeId} {size bytes s2 b2 : Nat} {zero z2 : Value} {E' : TypeDesc} (hT : Ty P T (.slice E) size bytes zero) (hE : Ty P E E' s2 b2 z2) :
    (Instr.buildSlice T 0 #[]).run P w = .ok (.slice (some ⟨w.heap.size, 0, none⟩) 0 0) { w with heap := w.heap.push (.cells #[] E) } := by
  simp only [Instr.buildSlice, Sem.run_bind, run_underlying hT.und, Sem.run_pure, Result.andThen_ok, Sx.run_sizeOf hE, Nat.zero_mul]
  rw [if_neg (by omega), if_pos trivial]
  simp only [Sem.run_bind, Sem.run_pure, Result.andThen_ok]
  simp [Instr.fill, newRow, Sem.run_bind]
  rw [show Array.map (fun x => (default : Value)) (Array.range 0) = #[] from Array.eq_empty_of_size_eq_zero (by simp)]
def repI (zs : List IV) : Nat → List IV
  | 0 => []
  | n + 1 => zs ++ repI zs n
theorem repI_length (zs : List IV) : ∀ n, (repI zs n).length = n * zs.length
  | 0 => by simp [repI]
  | n + 1 => by simp [repI, repI_length zs n, Nat.add_mul, Nat.add_comm]
theorem repI_get (zs : List IV) : ∀ (n i : Nat), i < n * zs.length → (repI zs n)[i]? = zs[i % zs.length]?
  | 0, i, h => by simp at h
  | n + 1, i, h => by
    unfold repI
    by_cases hi : i < zs.length
    · rw [List.getElem?_append_left hi, Nat.mod_eq_of_lt hi]
    · rw [List.getElem?_append_right (by omega), repI_get zs n _ (by rw [Nat.add_mul, Nat.one_mul] at h; omega)]
      rw [Nat.mod_eq_sub_mod (Nat.le_of_not_lt hi)]
theorem zeros_rel {zs : List IV} {us : List Value} {n : Nat} (h : VRs E zs us) (hz : 0 < us.length) : VRs E (repI zs n) (zerosL us (n * us.length)) := by
  refine ⟨by rw [repI_length, h.1]; simp [zerosL], fun i a b => ?_⟩
  rw [repI_length] at a
  have hm : i % zs.length < zs.length := Nat.mod_lt _ (by rw [h.1]; exact hz)
  have e1 := repI_get zs n i a
  rw [List.getElem?_eq_getElem (by rw [repI_length]; exact a), List.getElem?_eq_getElem hm] at e1
  have e1 := Option.some.inj e1
  rw [e1]
  have := h.2 (i % zs.length) hm (by rw [← h.1]; exact hm)
  have hm' : i % us.length < us.length := Nat.mod_lt _ hz
  simpa [zerosL, h.1, getElem!_def, List.getElem?_eq_getElem hm'] using this
def ibuildSlice (tt : Nat → Option TI) (S : IS) (ty len : Nat) (ps : List (Nat × IV)) : Option Res :=
  match tt ty with
  | none => none
  | some ti => match ti.und with
    | .slice e => match tt e with
      | none => none
      | some te => match len, ps with
        | 0, [] => some ⟨.sl S.next 0 0 te.sz (some 0), S.new (.row []), 0, 0⟩
        | _, _ => match ofVs te.zero.cells.toList with
          | none => none
          | some zs => cond (Nat.beq zs.length te.sz && Nat.ble (len * te.sz) 16777216 && Nat.blt 0 (len * te.sz))
            (match fillI ((List.range len).map fun i => (i * te.sz, te.sz)) (repI zs len) ps with
            | none => none
            | some r => some ⟨.sl S.next 0 len te.sz (some len), S.new (.row r), 0, 0⟩) none
    | _ => none
theorem ibuildSlice_sound {ty len : Nat} {ps : List (Nat × IV)} {qs : List (Nat × Value)} {r : Res} (htt : TT P tt) (p : Pre T E S) (h : ibuildSlice tt S ty len ps = some r) (hp : VPs E ps qs) : Good P T E S (Instr.buildSlice ty len qs.toArray) r := by
  unfold ibuildSlice at h
  split at h
  · cases h
  rename_i ti hti
  have hty := htt _ _ hti
  split at h <;> try cases h
  rename_i e he
  rw [he] at hty
  split at h
  · cases h
  rename_i te hte
  have hE := htt _ _ hte
  split at h
  · cases h
    cases qs with
    | cons _ _ => exact hp.elim
    | nil =>
    obtain ⟨E', h1, h2, h3, h4, h5, h6⟩ := new_row (t := e) p VRs.nil
    refine ⟨.slice (some ⟨E'.ρ S.next, 0, none⟩) 0 0, E', ?_, .sl 0 h4 (Nat.le_refl _) (by omega) (by simp) (fun x hx => by cases hx; rfl) (fun hx => by cases hx), h5, h6⟩
    rw [h1, h2]; exact run_buildSlice0 hty hE
  · rename_i hne
    split at h
    · cases h
    rename_i zs hzs
    cases hb : (Nat.beq zs.length te.sz && Nat.ble (len * te.sz) 16777216 && Nat.blt 0 (len * te.sz)) with
    | false => rw [hb] at h; cases h
    | true =>
    rw [hb, cond_true] at h
    simp only [Bool.and_eq_true] at hb
    obtain ⟨⟨b1, b2⟩, b3⟩ := hb
    have hl := Nat.eq_of_beq_eq_true b1
    split at h <;> cases h
    rename_i r hr
    have hz := ofVs_sound E hzs
    have hzl : te.zero.cells.toList.length = te.sz := by rw [← hz.1, hl]
    have b3' : 0 < len * te.sz := by simpa using b3
    have hs0 : 0 < te.sz := Nat.pos_of_mul_pos_left b3'
    have hz2 := zeros_rel (n := len) hz (by rw [hzl]; exact hs0)
    rw [hzl] at hz2
    obtain ⟨ur, hu1, hu2⟩ := fill_rel hp hz2 hr
    obtain ⟨E', h1, h2, h3, h4, h5, h6⟩ := new_row (t := e) p hu2
    have hrl : ur.length = len * te.sz := by
      have : ∀ (pl : List (Nat × Nat)) (qs : List (Nat × Value)) (cs r : List Value), fillL pl cs qs = some r → r.length = cs.length := by
        intro pl qs
        induction qs with
        | nil => intro cs r h; simp [fillL] at h; rw [h]
        | cons q qs ih =>
          intro cs r h
          obtain ⟨i, v⟩ := q
          unfold fillL at h
          split at h
          · cases h
          · rename_i off sz he
            cases hc : (Nat.beq v.cells.toList.length sz && Nat.ble (off + sz) cs.length) with
            | false => rw [hc] at h; cases h
            | true => rw [hc, cond_true] at h; rw [ih _ _ h, putL_length]
      rw [this _ _ _ _ hu1]; simp [zerosL]
    have hlen : len ≤ 16777216 := by
      have := Nat.le_of_ble_eq_true b2
      have := Nat.le_mul_of_pos_right len hs0
      omega
    refine ⟨.slice (some ⟨E'.ρ S.next, 0, none⟩) len len, E', ?_, .sl len h4 (Nat.le_refl _) (by omega) (by rw [h3, hrl]; simp) (fun x hx => by cases hx; rfl) (fun hx => by cases hx), h5, h6⟩
    rw [h1, h2]
    exact run_buildSlice (D := .bool) hty hE rfl (by simp [b2]; omega) hu1

/-! ### Places -/
def ifield (tt : Nat → Option TI) (S : IS) (ty f : Nat) : IV → Option Res
  | .ptr id off => match tt ty with
    | none => none
    | some ti => match ti.und with
      | .struct fs => match fs.toList[f]? with
        | none => none
        | some F => match tt F.type with
          | none => none
          | some tf => cond (Nat.blt 0 tf.sz) (some ⟨.ptr id (off + F.offset), S, 0, 0⟩) none
      | _ => none
  | _ => none
theorem ifield_sound {ty f : Nat} {x : IV} {ux : Value} {r : Res} (htt : TT P tt) (p : Pre T E S) (h : ifield tt S ty f x = some r) (hx : VR E x ux) : Good P T E S (Instr.fieldAt ty ux f) r := by
  unfold ifield at h
  split at h <;> try cases h
  rename_i id off
  cases hx with
  | ptr hA =>
  split at h
  · cases h
  rename_i ti hti
  have hty := htt _ _ hti
  split at h <;> try cases h
  rename_i fs hfs
  rw [hfs] at hty
  split at h
  · cases h
  rename_i F hF
  split at h
  · cases h
  rename_i tf htf
  have hf := htt _ _ htf
  cases hb : Nat.blt 0 tf.sz with
  | false => rw [hb] at h; cases h
  | true =>
    rw [hb, cond_true] at h; cases h
    have hpos : 0 < tf.sz := by simpa using hb
    obtain ⟨k, hk⟩ : ∃ k, tf.sz = k + 1 := ⟨tf.sz - 1, by omega⟩
    rw [hk] at hf
    exact Good.same p (Fld.mk hty (by simpa using hF) hf ⟨E.ρ id, off, none⟩ E.w rfl) (.ptr hA)
def iindexAddr (tt : Nat → Option TI) (S : IS) (ty : Nat) : IV → IV → Option Res
  | .sl id off len s c, .int k i => match tt ty with
    | none => none
    | some ti => match ti.und with
      | .slice e => match tt e with
        | none => none
        | some te => match i with
          | .ofNat n => cond (Nat.beq te.sz s && Nat.blt n len) (some ⟨.ptr id (off + n * s), S, 0, 0⟩) none
          | _ => none
      | _ => none
  | .ptr id off, .int k i => match tt ty with
    | none => none
    | some ti => match ti.und with
      | .array len e => match tt e with
        | none => none
        | some te => match i with
          | .ofNat n => cond (Nat.blt n len) (some ⟨.ptr id (off + n * te.sz), S, 0, 0⟩) none
          | _ => none
      | _ => none
  | _, _ => none
theorem iindexAddr_sound {ty : Nat} {x y : IV} {ux uy : Value} {r : Res} (htt : TT P tt) (p : Pre T E S) (h : iindexAddr tt S ty x y = some r) (hx : VR E x ux) (hy : VR E y uy) : Good P T E S (Instr.indexAt ty ux uy) r := by
  unfold iindexAddr at h
  split at h <;> try cases h
  · rename_i id off len s c k i
    cases hy
    cases hx with
    | sl cap hA h1 h2 h3 h4 h5 =>
    split at h
    · cases h
    rename_i ti hti
    have hty := htt _ _ hti
    split at h <;> try cases h
    rename_i e he
    rw [he] at hty
    split at h
    · cases h
    rename_i te hte
    have hE := htt _ _ hte
    split at h <;> try cases h
    rename_i n
    cases hb : (Nat.beq te.sz s && Nat.blt n len) with
    | false => rw [hb] at h; cases h
    | true =>
      rw [hb, cond_true] at h; cases h
      simp only [Bool.and_eq_true] at hb
      have hs := Nat.eq_of_beq_eq_true hb.1
      have hn : n < len := by simpa using hb.2
      refine Good.same p (u := .pointer (some ⟨E.ρ id, off + n * s, none⟩)) ?_ (.ptr hA)
      have g1 : (0 : Int) ≤ Int.ofNat n := Int.natCast_nonneg n
      have g2 : (Int.ofNat n : Int) < len := by show (n : Int) < len; omega
      have g3 : (Int.ofNat n).toNat = n := rfl
      simp only [Instr.indexAt, asIntOf, Sem.run_bind, Sem.run_pure, Result.andThen_ok, run_underlying hty.und, g1, g2, and_self, if_true, Sx.run_sizeOf hE, add_spot ⟨E.ρ id, off, none⟩ rfl, hs, g3]
  · rename_i id off k i
    cases hy
    cases hx with
    | ptr hA =>
    split at h
    · cases h
    rename_i ti hti
    have hty := htt _ _ hti
    split at h <;> try cases h
    rename_i len e he
    rw [he] at hty
    split at h
    · cases h
    rename_i te hte
    have hE := htt _ _ hte
    split at h <;> try cases h
    rename_i n
    cases hb : (Nat.blt n len) with
    | false => rw [hb] at h; cases h
    | true =>
      rw [hb, cond_true] at h; cases h
      have hn : n < len := by simpa using hb
      refine Good.same p (u := .pointer (some ⟨E.ρ id, off + n * te.sz, none⟩)) ?_ (.ptr hA)
      have g1 : (0 : Int) ≤ Int.ofNat n := Int.natCast_nonneg n
      have g2 : (Int.ofNat n : Int) < len := by show (n : Int) < len; omega
      have g3 : (Int.ofNat n).toNat = n := rfl
      simp only [Instr.indexAt, asIntOf, Sem.run_bind, Sem.run_pure, Result.andThen_ok, run_underlying hty.und, Instr.sureAddr, g1, g2, and_self, if_true, Sx.run_sizeOf hE, add_spot ⟨E.ρ id, off, none⟩ rfl, g3]

/-! ### Slices of slices -/
def bnd : Option IV → Nat → Option Nat
  | none, d => some d
  | some (.int _ (.ofNat n)), _ => some n
  | _, _ => none
def VO (E : Env) : Option IV → Option Value → Prop
  | none, none => True
  | some x, some u => VR E x u
  | _, _ => False
theorem run_bound {w : World} {x : IV} {u : Value} {d n y : Nat} {code : BoundsCode} (h : bnd (some x) d = some n) (hx : VR E x u) (hn : n ≤ y) : (Instr.sliceBound u y code).run P w = .ok n w := by
  unfold bnd at h
  split at h <;> try cases h
  · rename_i he; cases he
  · rename_i k m _ he
    cases he
    cases hx
    have g1 : (0 : Int) ≤ Int.ofNat n ∧ (Int.ofNat n : Int) ≤ y := ⟨Int.natCast_nonneg n, by show (n : Int) ≤ y; omega⟩
    simp only [Instr.sliceBound, asIntOf, Sem.run_bind, Sem.run_pure, Result.andThen_ok, g1, and_self, if_true]
    rfl
def islice (tt : Nat → Option TI) (S : IS) (ty : Nat) (lo hi mx : Option IV) : IV → Option Res
  | .sl id off len s c => match tt ty with
    | none => none
    | some ti => match ti.und with
      | .slice e => match tt e with
        | none => none
        | some te => match bnd lo 0, bnd hi len with
          | some l, some h => match mx with
            | none => cond (Nat.beq te.sz s && Nat.ble l h && Nat.ble h len)
              (match c with
              | some c => some ⟨.sl id (cond (Nat.beq c l) off (off + l * s)) (h - l) s (some (c - l)), S, 0, 0⟩
              | none => cond (Nat.blt l len || Nat.beq l 0) (some ⟨.sl id (off + l * s) (h - l) s none, S, 0, 0⟩) none) none
            | some mx => match hi, bnd (some mx) 0 with
              | some _, some m => cond (Nat.beq te.sz s && Nat.ble l h && Nat.ble h m && Nat.ble m len)
                  (some ⟨.sl id (cond (Nat.beq m l) off (off + l * s)) (h - l) s (some (m - l)), S, 0, 0⟩) none
              | _, _ => none
          | _, _ => none
      | _ => none
  | _ => none
theorem run_sliceAt {w : World} {ty e : TypeId} {size bytes s b2 : Nat} {zero z2 : Value} {D : TypeDesc} {a : Addr} {len cap l h d1 d2 : Nat} {lo hi : Option IV} {ulo uhi : Option Value} (hT : Ty P ty (.slice e) size bytes zero) (hE : Ty P e D s b2 z2)
    (hl : bnd lo 0 = some l) (hh : bnd hi len = some h) (vl : VO E lo ulo) (vh : VO E hi uhi) (h1 : l ≤ h) (h2 : h ≤ len) (h3 : len ≤ cap) :
    (Instr.sliceAt ty (.slice (some a) len cap) ulo uhi none).run P w = .ok (.slice (some (if cap = l then a else a.add (l * s))) (h - l) (cap - l)) w := by
  have hb : (Instr.sliceBounds true len cap ulo uhi none).run P w = .ok (l, h, cap) w := by
    simp only [Instr.sliceBounds, Sem.run_bind, Sem.run_pure, Result.andThen_ok]
    cases uhi with
    | none =>
      cases hi with
      | some _ => exact vh.elim
      | none =>
        have : len = h := by simpa [bnd] using hh
        subst this
        simp only [Sem.run_bind, Sem.run_pure, Result.andThen_ok]
        cases ulo with
        | none =>
          cases lo with
          | some _ => exact vl.elim
          | none => have : 0 = l := by simpa [bnd] using hl
                    subst this; simp only [Sem.run_bind, Sem.run_pure, Result.andThen_ok]
        | some u =>
          cases lo with
          | none => exact vl.elim
          | some x => simp only [Sem.run_bind, run_bound (P := P) hl vl h1, Result.andThen_ok, Sem.run_pure]
    | some u2 =>
      cases hi with
      | none => exact vh.elim
      | some x2 =>
        have e2 : ∀ code, (Instr.sliceBound u2 cap code).run P w = .ok h w := fun code => run_bound hh vh (by omega)
        simp only [Sem.run_bind, e2, Result.andThen_ok]
        cases ulo with
        | none =>
          cases lo with
          | some _ => exact vl.elim
          | none => have : 0 = l := by simpa [bnd] using hl
                    subst this; simp only [Sem.run_bind, Sem.run_pure, Result.andThen_ok]
        | some u =>
          cases lo with
          | none => exact vl.elim
          | some x => simp only [Sem.run_bind, run_bound (P := P) hl vl h1, Result.andThen_ok, Sem.run_pure]
  simp only [Instr.sliceAt, Sem.run_bind, run_underlying hT.und, Result.andThen_ok, Instr.slice, hb, Sx.run_sizeOf hE, Sem.run_pure]
  split <;> rfl
theorem run_sliceAt3 {w : World} {ty e : TypeId} {size bytes s b2 : Nat} {zero z2 : Value} {D : TypeDesc} {a : Addr} {len cap l h m : Nat} {lo : Option IV} {ulo : Option Value} {x2 x3 : IV} {u2 u3 : Value} (hT : Ty P ty (.slice e) size bytes zero) (hE : Ty P e D s b2 z2)
    (hl : bnd lo 0 = some l) (hh : bnd (some x2) len = some h) (hm : bnd (some x3) 0 = some m) (vl : VO E lo ulo) (vh : VR E x2 u2) (vm : VR E x3 u3) (h1 : l ≤ h) (h2 : h ≤ m) (h3 : m ≤ cap) :
    (Instr.sliceAt ty (.slice (some a) len cap) ulo (some u2) (some u3)).run P w = .ok (.slice (some (if m = l then a else a.add (l * s))) (h - l) (m - l)) w := by
  have hb : (Instr.sliceBounds true len cap ulo (some u2) (some u3)).run P w = .ok (l, h, m) w := by
    simp only [Instr.sliceBounds, Sem.run_bind, run_bound (P := P) hm vm h3, run_bound (P := P) hh vh h2, Sem.run_pure, Result.andThen_ok]
    cases ulo with
    | none =>
      cases lo with
      | some _ => exact vl.elim
      | none => have : 0 = l := by simpa [bnd] using hl
                subst this; simp only [Sem.run_bind, Sem.run_pure, Result.andThen_ok]
    | some u =>
      cases lo with
      | none => exact vl.elim
      | some x => simp only [Sem.run_bind, run_bound (P := P) hl vl h1, Result.andThen_ok, Sem.run_pure]
  simp only [Instr.sliceAt, Sem.run_bind, run_underlying hT.und, Result.andThen_ok, Instr.slice, hb, Sx.run_sizeOf hE, Sem.run_pure]
  split <;> rfl
theorem islice_sound {ty : Nat} {lo hi mx : Option IV} {ulo uhi umx : Option Value} {x : IV} {ux : Value} {r : Res} (htt : TT P tt) (p : Pre T E S) (h : islice tt S ty lo hi mx x = some r) (hx : VR E x ux) (vl : VO E lo ulo) (vh : VO E hi uhi) (vm : VO E mx umx) :
    Good P T E S (Instr.sliceAt ty ux ulo uhi umx) r := by
  unfold islice at h
  split at h <;> try cases h
  rename_i id off len s c
  cases hx with
  | sl cap hA h1 h2 h3 h4 h5 =>
  split at h
  · cases h
  rename_i ti hti
  have hty := htt _ _ hti
  split at h <;> try cases h
  rename_i e he
  rw [he] at hty
  split at h
  · cases h
  rename_i te hte
  have hE := htt _ _ hte
  split at h <;> try cases h
  rename_i l hh hl' hh'
  split at h
  · cases umx with
    | some _ => exact vm.elim
    | none =>
    cases hb : (Nat.beq te.sz s && Nat.ble l hh && Nat.ble hh len) with
    | false => rw [hb] at h; cases h
    | true =>
    rw [hb, cond_true] at h
    simp only [Bool.and_eq_true] at hb
    have hs := Nat.eq_of_beq_eq_true hb.1.1
    have b1 := Nat.le_of_ble_eq_true hb.1.2
    have b2 := Nat.le_of_ble_eq_true hb.2
    have hrun := run_sliceAt (P := P) (E := E) (w := E.w) (a := ⟨E.ρ id, off, none⟩) (d1 := 0) (d2 := 0) hty hE hl' hh' vl vh b1 b2 h1
    rw [hs] at hrun
    have hcl : l ≤ cap := by omega
    have hmul : cap * s = l * s + (cap - l) * s := by rw [← Nat.add_mul]; congr 1; omega
    split at h
    · rename_i c0
      cases h
      have hc := h4 _ rfl
      subst hc
      refine Good.same p hrun ?_
      by_cases hcl2 : cap = l
      · rw [if_pos hcl2, beq_t hcl2, cond_true]
        exact .sl _ hA (by omega) (by omega) (by subst hcl2; simp; omega) (fun x hx => by cases hx; rfl) (fun hx => by cases hx)
      · rw [if_neg hcl2, beq_f hcl2, cond_false, add_spot _ rfl]
        exact .sl _ hA (by omega) (by omega) (by omega) (fun x hx => by cases hx; rfl) (fun hx => by cases hx)
    · cases hb2 : (Nat.blt l len || Nat.beq l 0) with
      | false => rw [hb2] at h; cases h
      | true =>
        rw [hb2, cond_true] at h; cases h
        refine Good.same p hrun ?_
        have h5' := h5 rfl
        simp only [Bool.or_eq_true] at hb2
        have hadd : (if cap = l then (⟨E.ρ id, off, none⟩ : Addr) else (⟨E.ρ id, off, none⟩ : Addr).add (l * s)) = ⟨E.ρ id, off + l * s, none⟩ := by
          rcases hb2 with hb2 | hb2
          · have : l < len := by simpa using hb2
            rw [if_neg (by omega), add_spot _ rfl]
          · have : l = 0 := Nat.eq_of_beq_eq_true hb2
            subst this
            split <;> simp [add_spot]
        rw [hadd]
        exact .sl _ hA (by omega) (by omega) (by omega) (fun x hx => by cases hx) (fun _ => by omega)
  · rename_i mx'
    split at h <;> try cases h
    rename_i x2 m hm'
    cases umx with
    | none => exact vm.elim
    | some u3 =>
    cases uhi with
    | none => exact vh.elim
    | some u2 =>
    cases hb : (Nat.beq te.sz s && Nat.ble l hh && Nat.ble hh m && Nat.ble m len) with
    | false => rw [hb] at h; cases h
    | true =>
    rw [hb, cond_true] at h; cases h
    simp only [Bool.and_eq_true] at hb
    have hs := Nat.eq_of_beq_eq_true hb.1.1.1
    have b1 := Nat.le_of_ble_eq_true hb.1.1.2
    have b2 := Nat.le_of_ble_eq_true hb.1.2
    have b3 := Nat.le_of_ble_eq_true hb.2
    have hrun := run_sliceAt3 (P := P) (E := E) (w := E.w) (a := ⟨E.ρ id, off, none⟩) (len := len) hty hE hl' hh' hm' vl vh vm b1 b2 (show m ≤ cap by omega)
    rw [hs] at hrun
    refine Good.same p hrun ?_
    have hmul : m * s = l * s + (m - l) * s := by rw [← Nat.add_mul]; congr 1; omega
    have hmul2 : m * s ≤ cap * s := Nat.mul_le_mul_right _ (by omega)
    by_cases hml : m = l
    · rw [if_pos hml, beq_t hml, cond_true]
      exact .sl _ hA (by omega) (by omega) (by subst hml; simp; omega) (fun x hx => by cases hx; rfl) (fun hx => by cases hx)
    · rw [if_neg hml, beq_f hml, cond_false, add_spot _ rfl]
      exact .sl _ hA (by omega) (by omega) (by omega) (fun x hx => by cases hx; rfl) (fun hx => by cases hx)
end
end Go.Ix
