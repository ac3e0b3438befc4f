/- Maps from numbers to numbers, as lists of pairs. -/
import Derived.Test.YtcnhjofpmpipfaaIn
import Derived.WideMake
set_option linter.unusedVariables false
namespace Go.Sx
open Go Go.RowKit

def getI (l : List (Int × Int)) (k : Int) : Option Int := match l with
  | [] => none
  | p :: l => if k = p.1 then some p.2 else getI l k
def encI (p : Int × Int) : Value × Value := (.int .i64 p.1, .int .i64 p.2)
/-- A block holds a map. -/
def MapI (w : World) (b : Nat) (l : List (Int × Int)) : Prop := ∃ es clock, w.heap[b]? = some (.map es clock) ∧ es.toList.map (fun e => (e.key, e.val)) = l.map encI
theorem MapI.lt {w : World} {b : Nat} {l : List (Int × Int)} (h : MapI w b l) : b < w.heap.size := by obtain ⟨_, _, h, _⟩ := h; exact heap_lt h
theorem MapI.mono {S : List Nat} {w w' : World} {b : Nat} {l : List (Int × Int)} (h : MapI w b l) (u : Upd S w w') (hs : b ∉ S) : MapI w' b l := by
  have hl := h.lt
  obtain ⟨es, c, h1, h2⟩ := h
  exact ⟨es, c, (u.same b hl hs).trans h1, h2⟩
theorem MapI.mono0 {w w' : World} {b : Nat} {l : List (Int × Int)} (h : MapI w b l) (u : Upd [] w w') : MapI w' b l := h.mono u (by simp)
theorem findNow_int {kk : IntKind} {k : Int} : ∀ (es : List MapEntry) (l : List (Int × Int)) (i : Nat), es.map (fun e => (e.key, e.val)) = l.map encI →
    ∃ r, Instr.findNow (.int kk) (.int .i64 k) es i = some r ∧ r.map (·.2) = (getI l k).map (Value.int .i64)
  | [], [], i, _ => ⟨none, rfl, rfl⟩
  | [], p :: l, i, h => by simp at h
  | e :: es, [], i, h => by simp at h
  | e :: es, p :: l, i, h => by
    simp only [List.map_cons, List.cons.injEq, encI, Prod.mk.injEq] at h
    obtain ⟨⟨hk, hv⟩, ht⟩ := h
    simp only [Instr.findNow, hk, Instr.sameNow, if_true, getI]
    by_cases hp : k = p.1
    · subst hp; exact ⟨some (i, e.val), by simp, by simp [hv]⟩
    · obtain ⟨r, h1, h2⟩ := findNow_int es l (i + 1) ht
      have : (k == p.1) = false := by simpa using hp
      exact ⟨r, by rw [this]; exact h1, by rw [if_neg hp]; exact h2⟩
section
variable {P : Program} {n : Nat} {σ : Nat → Value} {w : World} {Q : Exit → Act → World → Prop} {ops : Array Oper} {rest : List Oper}
variable {d : Nat} {ty T : TypeId} {pos : String} {aft : Array Edge} {g : Option (Nat × Bool)} {x y z : Operand} {K E : TypeId} {kk ke : IntKind}
theorem run_findKey {k : Int} {es : List MapEntry} {l : List (Int × Int)} (hK : P.underlying K = some (.int kk)) (h : es.map (fun e => (e.key, e.val)) = l.map encI) :
    ∃ r, (Instr.findKey K (.int .i64 k) es).run P w = .ok r w ∧ r.map (·.2) = (getI l k).map (Value.int .i64) := by
  obtain ⟨r, h1, h2⟩ := findNow_int (kk := kk) (k := k) es l 0 h
  exact ⟨r, by simp only [Instr.findKey, Sem.run_bind, run_underlying hK, Result.andThen_ok, h1, Sem.run_pure], h2⟩
theorem run_checkKeyAt {e : Bool} {k : Int} (m : Nat) (hK : P.underlying K = some (.int kk)) : (Instr.checkKey e (m + 1) K (.int .i64 k)).run P w = .ok () w := by
  simp only [Instr.checkKey, Sem.run_bind, run_underlying hK, Result.andThen_ok, Sem.run_pure]
theorem run_checkKey {e : Bool} {k : Int} (hK : P.underlying K = some (.int kk)) : (Instr.checkKey e 10000 K (.int .i64 k)).run P w = .ok () w := run_checkKeyAt 9999 hK
theorem run_getMap {b : Nat} {es : Array MapEntry} {c : Nat} (h : w.heap[b]? = some (.map es c)) : (getObj b).run P w = .ok (.map es c) w := by simp [getObj, Sem.run, h]
theorem run_lookup {b : Nat} {l : List (Int × Int)} {k : Int} {sz by' : Nat} {ok : Bool} (hT : P.underlying T = some (.map K E)) (hK : P.underlying K = some (.int kk)) (hE : Ty P E (.int .i64) sz by' (.int .i64 0)) (hm : MapI w b l) :
    (Instr.lookup T (.map (some b)) (.int .i64 k) ok).run P w = .ok (if ok then .tuple #[.int .i64 ((getI l k).getD 0), .bool (getI l k).isSome] else .int .i64 ((getI l k).getD 0)) w := by
  obtain ⟨es, c, h1, h2⟩ := hm
  obtain ⟨r, h3, h4⟩ := run_findKey (P := P) (w := w) (K := K) (k := k) hK h2
  simp only [Instr.lookup, Sem.run_bind, run_underlying hT, Result.andThen_ok, run_getMap h1, Sem.run_pure, run_checkKey hK, h3]
  cases hr : r with
  | none =>
    rw [hr] at h4
    cases hg : getI l k with
    | none => simp only [Sem.run_bind, run_zeroValue hE, Sem.run_pure, Result.andThen_ok]; cases ok <;> rfl
    | some v => rw [hg] at h4; simp at h4
  | some p =>
    rw [hr] at h4
    cases hg : getI l k with
    | none => rw [hg] at h4; simp at h4
    | some v =>
      rw [hg] at h4; simp only [Option.map_some, Option.some.injEq] at h4
      obtain ⟨p1, p2⟩ := p
      simp only at h4; subst h4
      simp only [Sem.run_pure, Result.andThen_ok]; cases ok <;> rfl
theorem op_lookup2 {b : Nat} {l : List (Int × Int)} {k : Int} {sz by' : Nat} (hT : P.underlying T = some (.map K E)) (hK : P.underlying K = some (.int kk)) (hE : Ty P E (.int .i64) sz by' (.int .i64 0)) (hg : wantF ops σ n g = true) (hx : (okO n x && okO n y) = true)
    (ex : ev σ x = .map (some b)) (ey : ev σ y = .int .i64 k) (hm : MapI w b l)
    (h : wpList P ops Q rest (Fr n (upd σ d (.tuple #[.int .i64 ((getI l k).getD 0), .bool (getI l k).isSome]))) w) : wpList P ops Q (⟨some d, .lookup T x y true, ty, pos, aft, g⟩ :: rest) (Fr n σ) w := by
  simp only [Bool.and_eq_true] at hx
  exact op_val hg (by simp only [execOp, eval_Fr hx.1, eval_Fr hx.2, ex, ey, run_lookup hT hK hE hm, Sem.run_bind, Sem.run_pure, Result.andThen_ok, if_true]) h
theorem op_lookup1 {b : Nat} {l : List (Int × Int)} {k : Int} {sz by' : Nat} (hT : P.underlying T = some (.map K E)) (hK : P.underlying K = some (.int kk)) (hE : Ty P E (.int .i64) sz by' (.int .i64 0)) (hg : wantF ops σ n g = true) (hx : (okO n x && okO n y) = true)
    (ex : ev σ x = .map (some b)) (ey : ev σ y = .int .i64 k) (hm : MapI w b l)
    (h : wpList P ops Q rest (Fr n (upd σ d (.int .i64 ((getI l k).getD 0)))) w) : wpList P ops Q (⟨some d, .lookup T x y false, ty, pos, aft, g⟩ :: rest) (Fr n σ) w := by
  simp only [Bool.and_eq_true] at hx
  exact op_val hg (by simp only [execOp, eval_Fr hx.1, eval_Fr hx.2, ex, ey, run_lookup hT hK hE hm, Sem.run_bind, Sem.run_pure, Result.andThen_ok, Bool.false_eq_true, if_false]) h
theorem run_mapPush {b : Nat} {l : List (Int × Int)} {k v : Int} (hT : P.underlying T = some (.map K E)) (hK : P.underlying K = some (.int kk)) (hm : MapI w b l) (hn : getI l k = none) :
    ∃ o, (Instr.mapUpdate T (.map (some b)) (.int .i64 k) (.int .i64 v)).run P w = .ok () (w.putObj b o) ∧ MapI (w.putObj b o) b (l ++ [(k, v)]) := by
  have hl := hm.lt
  obtain ⟨es, c, h1, h2⟩ := hm
  obtain ⟨r, h3, h4⟩ := run_findKey (P := P) (w := w) (K := K) (k := k) hK h2
  rw [hn] at h4
  have hr : r = none := by cases r <;> simp at h4 ⊢
  subst hr
  refine ⟨.map (es.push { key := .int .i64 k, val := .int .i64 v, born := c }) (c + 1), ?_, _, _, World.putObj_heap_same hl, by simp [h2, encI]⟩
  simp only [Instr.mapUpdate, Sem.run_bind, run_underlying hT, Result.andThen_ok, run_getMap h1, run_checkKey hK, h3]
  simp [setObj, Sem.run, h1, World.putObj]
theorem op_mapPush {b : Nat} {l : List (Int × Int)} {k v : Int} (hT : P.underlying T = some (.map K E)) (hK : P.underlying K = some (.int kk)) (hg : wantF ops σ n g = true) (hx : (okO n x && okO n y && okO n z) = true)
    (ex : ev σ x = .map (some b)) (ey : ev σ y = .int .i64 k) (ez : ev σ z = .int .i64 v) (hm : MapI w b l) (hn : getI l k = none)
    (h : ∀ w', Upd [b] w w' → w'.heap.size = w.heap.size → MapI w' b (l ++ [(k, v)]) → wpList P ops Q rest (Fr n σ) w') : wpList P ops Q (⟨none, .mapUpdate T x y z, ty, pos, aft, g⟩ :: rest) (Fr n σ) w := by
  simp only [Bool.and_eq_true] at hx
  obtain ⟨o, h1, h2⟩ := run_mapPush (P := P) (T := T) (v := v) hT hK hm hn
  exact op_skip hg (by simp only [execOp, eval_Fr hx.1.1, eval_Fr hx.1.2, eval_Fr hx.2, ex, ey, ez, h1, Sem.run_bind, Sem.run_pure, Result.andThen_ok]) (h _ (Upd.putObj _ _ _) (by simp) h2)
theorem op_makeMap (hg : wantF ops σ n g = true) (h : ∀ β w', w.heap.size = β → Upd [] w w' → w'.heap.size = β + 1 → MapI w' β [] → wpList P ops Q rest (Fr n (upd σ d (.map (some β)))) w') :
    wpList P ops Q (⟨some d, .makeMap T none, ty, pos, aft, g⟩ :: rest) (Fr n σ) w :=
  op_val hg (by simp only [execOp, Option.map_none, run_makeMap_plain, Sem.run_bind, Sem.run_pure, Result.andThen_ok]) (h _ _ rfl (Upd.alloc _ _) (by simp) ⟨#[], 0, World.alloc_heap_new _ _, rfl⟩)
theorem getI_append (l : List (Int × Int)) (k a b : Int) : getI (l ++ [(a, b)]) k = match getI l k with | some v => some v | none => if k = a then some b else none := by
  induction l with
  | nil => simp [getI]
  | cons p l ih =>
    simp only [List.cons_append, getI]
    split
    · rfl
    · exact ih
end
end Go.Sx
