/- The runs of single operations, and the rules of the walk for each. -/
import Derived.Test.YtcnhjofpmpipfaaSx
namespace Go.Sx
open Go Go.RowKit
open Go.Sx.Dat (enc)

/-- What the program's table says of a type. -/
structure Ty (P : Program) (T : TypeId) (d : TypeDesc) (size bytes : Nat) (zero : Value) : Prop where
  und : P.underlying T = some d
  inf : ∃ i, P.info? T = some i ∧ i.size = size ∧ i.bytes = bytes ∧ i.zero = some zero

theorem Ty.mk' {P : Program} {T : TypeId} {d : TypeDesc} {size bytes : Nat} {zero : Value} (h1 : P.underlying T = some d) (h2 : (P.info? T).map (fun i => (i.size, i.bytes, i.zero)) = some (size, bytes, some zero)) : Ty P T d size bytes zero := by
  refine ⟨h1, ?_⟩
  cases h : P.info? T with
  | none => rw [h] at h2; cases h2
  | some i =>
    rw [h] at h2
    simp only [Option.map_some, Option.some.injEq, Prod.mk.injEq] at h2
    exact ⟨i, rfl, h2⟩
def notAgg : TypeDesc → Bool
  | .struct _ => false
  | .array _ _ => false
  | _ => true

def putL : List Value → Nat → List Value → List Value
  | cs, _, [] => cs
  | cs, o, v :: vs => putL (cs.set o v) (o + 1) vs

section
variable {P : Program} {w : World} {T : TypeId} {D : TypeDesc} {size bytes : Nat} {zero : Value}

theorem run_isAgg (h : Ty P T D size bytes zero) : (isAgg T).run P w = .ok (!notAgg D) w := by
  cases D <;> simp [isAgg, go_sem, run_underlying h.und, notAgg]
theorem run_sizeOf (h : Ty P T D size bytes zero) : (sizeOf T).run P w = .ok size w := by
  obtain ⟨i, h1, h2, _, _⟩ := h.inf
  simp [sizeOf, go_sem, typeInfo, h1, h2]
theorem run_typeInfo (h : Ty P T D size bytes zero) : ∃ i, (typeInfo T).run P w = .ok i w ∧ i.size = size ∧ i.bytes = bytes ∧ i.zero = some zero := by
  obtain ⟨i, h1, h2⟩ := h.inf
  exact ⟨i, by simp [go_sem, typeInfo, h1], h2⟩
theorem run_zeroValue (h : Ty P T D size bytes zero) : (zeroValue T).run P w = .ok zero w := by
  obtain ⟨i, h1, _, _, h2⟩ := h.inf
  simp [zeroValue, go_sem, typeInfo, h1, h2]
theorem run_load1 (h : Ty P T D size bytes zero) (hd : notAgg D = true) {ad : Addr} {v : Value} (hc : w.cell? ad = some v) :
    (Instr.loadAt T (.pointer (some ad))).run P w = .ok v w := by
  simp [Instr.loadAt, Instr.sureAddr, loadVar, go_sem, run_isAgg h, hd, load, Sem.run, hc]

theorem add_spot (ad : Addr) (h : ad.spot = none) (j : Nat) : ad.add j = ⟨ad.block, ad.off + j, none⟩ := by
  cases ad; simp only at h; subst h
  unfold Addr.add; split
  · subst_vars; rfl
  · rfl
theorem run_loadCellsFrom {ad : Addr} : ∀ (cs : List Value) (i : Nat) (acc : Array Value), (∀ j, j < cs.length → w.cell? (ad.add (i + j)) = cs[j]?) →
    (loadCellsFrom ad i cs.length acc).run P w = .ok (acc ++ cs.toArray) w
  | [], i, acc, _ => by simp [loadCellsFrom, go_sem]
  | c :: cs, i, acc, h => by
    have h0 := h 0 (by simp)
    have ih := run_loadCellsFrom cs (i + 1) (acc.push c) (fun j hj => by
      have := h (j + 1) (by simp; omega)
      rw [show i + 1 + j = i + (j + 1) by omega, this]; simp)
    simp only [List.length_cons, loadCellsFrom]
    simp only [Nat.add_zero, List.getElem?_cons_zero] at h0
    simp [go_sem, load, Sem.run, h0, ih]
theorem run_loadAgg (h : Ty P T D size bytes zero) (hd : notAgg D = false) {ad : Addr} (hs : ad.spot = none) {cs : List Value} (hl : cs.length = size)
    (hc : ∀ j, j < size → w.cell? ⟨ad.block, ad.off + j, none⟩ = cs[j]?) :
    (Instr.loadAt T (.pointer (some ad))).run P w = .ok (.agg cs.toArray) w := by
  subst hl
  have := run_loadCellsFrom (P := P) (w := w) (ad := ad) cs 0 #[] (fun j hj => by rw [add_spot ad hs]; simpa using hc j hj)
  simp [Instr.loadAt, Instr.sureAddr, loadVar, go_sem, run_isAgg h, run_sizeOf h, hd, loadCells, this]

/-- What a new block turns. -/
theorem Upd.push (w : World) (o : Obj) : Upd [] w { w with heap := w.heap.push o } :=
  ⟨rfl, rfl, rfl, by simp, fun b hb _ => by
    show (w.heap.push o)[b]? = _
    rw [Array.getElem?_push, if_neg (by omega)]⟩
theorem Box.push (w : World) (cs : List Value) (t : TypeId) : Box { w with heap := w.heap.push (.cells cs.toArray t) } w.heap.size cs :=
  ⟨t, by simp⟩

theorem run_store {β : Nat} : ∀ (vs : List Value) {w : World} {cs : List Value} (o i : Nat), Box w β cs → o + i + vs.length ≤ cs.length → vs.all one = true →
    ∃ w', (storeCells ⟨β, o, none⟩ vs i).run P w = .ok () w' ∧ Box w' β (putL cs (o + i) vs) ∧ Upd [β] w w' ∧ w'.heap.size = w.heap.size
  | [], w, cs, o, i, hb, _, _ => ⟨w, by simp [storeCells, go_sem], hb, Upd.refl _ _, rfl⟩
  | v :: vs, w, cs, o, i, hb, hl, ho => by
    simp only [List.all_cons, Bool.and_eq_true, List.length_cons] at ho hl
    have hlt := hb.lt
    obtain ⟨t, hh⟩ := hb
    have hc : w.cell? ⟨β, o + i, none⟩ = cs[o + i]? := by simp [World.cell?, hh]
    have hcv : cs[o + i]? = some cs[o + i] := by rw [List.getElem?_eq_getElem (by omega)]
    have hfz : w.frozen? ⟨β, o + i, none⟩ = false := by simp [World.frozen?, hh]
    have hb1 : Box (w.setCell ⟨β, o + i, none⟩ v) β (cs.set (o + i) v) := by
      refine ⟨t, ?_⟩
      simp [World.setCell, Array.getElem?_modify, hh]
    have hu : Upd [β] w (w.setCell ⟨β, o + i, none⟩ v) := by
      refine ⟨rfl, rfl, rfl, by simp [World.setCell], fun b hb hm => ?_⟩
      simp only [World.setCell, Array.getElem?_modify]
      rw [if_neg]; simp at hm; omega
    obtain ⟨w', h1, h2, h3, h4⟩ := run_store vs o (i + 1) hb1 (by simp; omega) ho.2
    refine ⟨w', ?_, ?_, hu.trans h3, ?_⟩
    · have e : (⟨β, o, none⟩ : Addr).add i = ⟨β, o + i, none⟩ := add_spot _ rfl _
      have hst : (store ⟨β, o + i, none⟩ v).run P w = .ok () (w.setCell ⟨β, o + i, none⟩ v) := by
        have hv1 := ho.1
        cases v with
        | agg _ => simp [one] at hv1
        | tuple _ => simp [one] at hv1
        | _ => simp only [store, Sem.run, hc, hcv, hfz]; rfl
      simp only [storeCells, e, Sem.run_bind]
      rw [hst]
      exact h1
    · simpa [putL, Nat.add_assoc] using h2
    · rw [h4]; simp [World.setCell]
theorem run_storeAt (h : Ty P T D size bytes zero) {β o : Nat} {cs : List Value} {v : Value} (hb : Box w β cs) (hv : v.cells.size = size) (hl : o + size ≤ cs.length)
    (ho : v.cells.toList.all one = true) :
    ∃ w', (Instr.storeAt T (.pointer (some ⟨β, o, none⟩)) v).run P w = .ok () w' ∧ Box w' β (putL cs o v.cells.toList) ∧ Upd [β] w w' ∧ w'.heap.size = w.heap.size := by
  obtain ⟨w', h1, h2⟩ := run_store (P := P) v.cells.toList o 0 hb (by simp; omega) ho
  refine ⟨w', ?_, h2⟩
  simp only [Instr.storeAt, Instr.sureAddr, storeVar, Sem.run_bind, Sem.run_pure, Result.andThen_ok, run_sizeOf h, hv, ne_eq, not_true_eq_false, if_false, h1]
end

section
variable {P : Program} {n : Nat} {σ : Nat → Value} {w : World} {Q : Exit → Act → World → Prop} {ops : Array Oper} {rest : List Oper}
variable {d : Nat} {ty : TypeId} {pos : String} {aft : Array Edge} {g : Option (Nat × Bool)}
variable {T T' E : TypeId} {D : TypeDesc} {size bytes : Nat} {zero : Value} {x y z : Operand}

theorem op_move {v : Value} (hg : wantF ops σ n g = true) (hx : okO n x = true) (ex : ev σ x = v) (k : wpList P ops Q rest (Fr n (upd σ d v)) w) :
    wpList P ops Q (⟨some d, .move x, ty, pos, aft, g⟩ :: rest) (Fr n σ) w :=
  op_val hg (by simp only [execOp, eval_Fr hx, ex, Sem.run_pure]) k
theorem op_assign {v : Value} (hg : wantF ops σ n g = true) (hx : okO n x = true) (ex : ev σ x = v) (k : wpList P ops Q rest (Fr n (upd σ d v)) w) :
    wpList P ops Q (⟨some d, .assign x, ty, pos, aft, g⟩ :: rest) (Fr n σ) w :=
  op_val hg (by simp only [execOp, eval_Fr hx, ex, Sem.run_pure]) k
theorem op_pickT {v : Value} (hg : wantF ops σ n g = true) (hx : (okO n x && okO n y && okO n z) = true) (ex : ev σ x = .bool true) (ey : ev σ y = v) (k : wpList P ops Q rest (Fr n (upd σ d v)) w) :
    wpList P ops Q (⟨some d, .pick x y z, ty, pos, aft, g⟩ :: rest) (Fr n σ) w := by
  simp only [Bool.and_eq_true] at hx
  exact op_val hg (by simp only [execOp, eval_Fr hx.1.1, eval_Fr hx.1.2, eval_Fr hx.2, ex, ey, asBool, Sem.run_bind, Sem.run_pure, Result.andThen_ok, if_true, if_false, Bool.false_eq_true]) k
theorem op_pickF {v : Value} (hg : wantF ops σ n g = true) (hx : (okO n x && okO n y && okO n z) = true) (ex : ev σ x = .bool false) (ey : ev σ z = v) (k : wpList P ops Q rest (Fr n (upd σ d v)) w) :
    wpList P ops Q (⟨some d, .pick x y z, ty, pos, aft, g⟩ :: rest) (Fr n σ) w := by
  simp only [Bool.and_eq_true] at hx
  exact op_val hg (by simp only [execOp, eval_Fr hx.1.1, eval_Fr hx.1.2, eval_Fr hx.2, ex, ey, asBool, Sem.run_bind, Sem.run_pure, Result.andThen_ok, if_true, if_false, Bool.false_eq_true]) k
theorem toList_beq (a b : ByteArray) : (a.toList == b.toList) = decide (a = b) := by
  rw [Bool.eq_iff_iff]
  simp only [beq_iff_eq, decide_eq_true_eq, ByteArray.toList_eq]
  constructor
  · intro h; cases a; cases b; simp only at h; rename_i x y; cases x; cases y; simp only at h; rw [h]
  · rintro rfl; rfl
theorem run_equalIn_bool {dd : Nat} {a b : Bool} (hT : P.underlying T = some .bool) : (Op.equalIn (dd + 1) T (.bool a) (.bool b)).run P w = .ok (a == b) w := by
  simp only [Op.equalIn, Sem.run_bind, run_underlying hT, Sem.run_pure, Result.andThen_ok]
theorem run_equal_bool {a b : Bool} (hT : P.underlying T = some .bool) : (Op.equal T (.bool a) (.bool b)).run P w = .ok (a == b) w :=
  run_equalIn_bool (dd := 9999) hT
theorem op_bin {op : BinOp} {u v r : Value} (hg : wantF ops σ n g = true) (hx : (okO n x && okO n y) = true) (ex : ev σ x = u) (ey : ev σ y = v)
    (h1 : (binOp op T u v).run P w = .ok r w) (h0 : (eqGuard op T x y u v).run P w = .ok () w)
    (k : wpList P ops Q rest (Fr n (upd σ d r)) w) : wpList P ops Q (⟨some d, .binOp op T x y T', ty, pos, aft, g⟩ :: rest) (Fr n σ) w := by
  simp only [Bool.and_eq_true] at hx
  refine op_val hg ?_ k
  simp only [execOp, eval_Fr hx.1, eval_Fr hx.2, ex, ey, Sem.run_bind, h0, Result.andThen_ok, h1, Sem.run_pure]
theorem guard_off {op : BinOp} {u v : Value} (h : op ≠ .eql) (h' : op ≠ .neq) : (eqGuard op T x y u v).run P w = .ok () w := by
  cases op <;> first | contradiction | rfl
theorem guard_int {op : BinOp} {a b : Int} {kk kk' : IntKind} : (eqGuard op T x y (.int kk a) (.int kk' b)).run P w = .ok () w := by
  cases op <;> rfl
theorem guard_str {op : BinOp} {a b : ByteArray} : (eqGuard op T x y (.string a) (.string b)).run P w = .ok () w := by
  cases op <;> rfl
theorem guard_bool {op : BinOp} {a b : Bool} : (eqGuard op T x y (.bool a) (.bool b)).run P w = .ok () w := by
  cases op <;> rfl
theorem op_lss {a b : Int} {kk : IntKind} (hg : wantF ops σ n g = true) (hx : (okO n x && okO n y) = true) (ex : ev σ x = .int kk a) (ey : ev σ y = .int kk b)
    (k : wpList P ops Q rest (Fr n (upd σ d (.bool (decide (a < b))))) w) : wpList P ops Q (⟨some d, .binOp .lss T x y T', ty, pos, aft, g⟩ :: rest) (Fr n σ) w :=
  op_bin hg hx ex ey (by simp only [binOp, ne_eq, not_true_eq_false, if_false, Op.intCmp, Sem.run_pure]) guard_int k
theorem op_leq {a b : Int} {kk : IntKind} (hg : wantF ops σ n g = true) (hx : (okO n x && okO n y) = true) (ex : ev σ x = .int kk a) (ey : ev σ y = .int kk b)
    (k : wpList P ops Q rest (Fr n (upd σ d (.bool (decide (a ≤ b))))) w) : wpList P ops Q (⟨some d, .binOp .leq T x y T', ty, pos, aft, g⟩ :: rest) (Fr n σ) w :=
  op_bin hg hx ex ey (by simp only [binOp, ne_eq, not_true_eq_false, if_false, Op.intCmp, Sem.run_pure]) guard_int k
theorem op_gtr {a b : Int} {kk : IntKind} (hg : wantF ops σ n g = true) (hx : (okO n x && okO n y) = true) (ex : ev σ x = .int kk a) (ey : ev σ y = .int kk b)
    (k : wpList P ops Q rest (Fr n (upd σ d (.bool (decide (b < a))))) w) : wpList P ops Q (⟨some d, .binOp .gtr T x y T', ty, pos, aft, g⟩ :: rest) (Fr n σ) w :=
  op_bin hg hx ex ey (by simp only [binOp, ne_eq, not_true_eq_false, if_false, Op.intCmp, Sem.run_pure]) guard_int k
theorem op_geq {a b : Int} {kk : IntKind} (hg : wantF ops σ n g = true) (hx : (okO n x && okO n y) = true) (ex : ev σ x = .int kk a) (ey : ev σ y = .int kk b)
    (k : wpList P ops Q rest (Fr n (upd σ d (.bool (decide (b ≤ a))))) w) : wpList P ops Q (⟨some d, .binOp .geq T x y T', ty, pos, aft, g⟩ :: rest) (Fr n σ) w :=
  op_bin hg hx ex ey (by simp only [binOp, ne_eq, not_true_eq_false, if_false, Op.intCmp, Sem.run_pure]) guard_int k
theorem op_eq {a b : Int} {kk : IntKind} (hg : wantF ops σ n g = true) (hx : (okO n x && okO n y) = true) (ex : ev σ x = .int kk a) (ey : ev σ y = .int kk b)
    (k : wpList P ops Q rest (Fr n (upd σ d (.bool (decide (a = b))))) w) : wpList P ops Q (⟨some d, .binOp .eql T x y T', ty, pos, aft, g⟩ :: rest) (Fr n σ) w :=
  op_bin hg hx ex ey (by simp only [binOp, ne_eq, not_true_eq_false, if_false, Op.intCmp, Sem.run_pure]; congr 2) guard_int k
theorem op_neq {a b : Int} {kk : IntKind} (hg : wantF ops σ n g = true) (hx : (okO n x && okO n y) = true) (ex : ev σ x = .int kk a) (ey : ev σ y = .int kk b)
    (k : wpList P ops Q rest (Fr n (upd σ d (.bool (decide (a ≠ b))))) w) : wpList P ops Q (⟨some d, .binOp .neq T x y T', ty, pos, aft, g⟩ :: rest) (Fr n σ) w :=
  op_bin hg hx ex ey (by simp only [binOp, ne_eq, not_true_eq_false, if_false, Op.intCmp, Sem.run_pure]; congr 2; rw [Bool.eq_iff_iff]; simp) guard_int k
theorem wrap64_in {a : Int} (h : -9223372036854775808 ≤ a ∧ a < 9223372036854775808) : IntKind.i64.wrap a = a := by
  simp only [IntKind.wrap, IntKind.min, IntKind.bits, IntKind.signed]
  simp
  omega
theorem op_add {a b : Int} (hg : wantF ops σ n g = true) (hx : (okO n x && okO n y) = true) (ex : ev σ x = .int .i64 a) (ey : ev σ y = .int .i64 b) (hr : -9223372036854775808 ≤ a + b ∧ a + b < 9223372036854775808)
    (k : wpList P ops Q rest (Fr n (upd σ d (.int .i64 (a + b)))) w) : wpList P ops Q (⟨some d, .binOp .add T x y T', ty, pos, aft, g⟩ :: rest) (Fr n σ) w :=
  op_bin hg hx ex ey (by simp only [binOp, ne_eq, not_true_eq_false, if_false, Op.intArith, Sem.run_pure, wrap64_in hr]) guard_int k
theorem op_sub {a b : Int} (hg : wantF ops σ n g = true) (hx : (okO n x && okO n y) = true) (ex : ev σ x = .int .i64 a) (ey : ev σ y = .int .i64 b) (hr : -9223372036854775808 ≤ a - b ∧ a - b < 9223372036854775808)
    (k : wpList P ops Q rest (Fr n (upd σ d (.int .i64 (a - b)))) w) : wpList P ops Q (⟨some d, .binOp .sub T x y T', ty, pos, aft, g⟩ :: rest) (Fr n σ) w :=
  op_bin hg hx ex ey (by simp only [binOp, ne_eq, not_true_eq_false, if_false, Op.intArith, Sem.run_pure, wrap64_in hr]) guard_int k
theorem op_mul {a b : Int} (hg : wantF ops σ n g = true) (hx : (okO n x && okO n y) = true) (ex : ev σ x = .int .i64 a) (ey : ev σ y = .int .i64 b) (hr : -9223372036854775808 ≤ a * b ∧ a * b < 9223372036854775808)
    (k : wpList P ops Q rest (Fr n (upd σ d (.int .i64 (a * b)))) w) : wpList P ops Q (⟨some d, .binOp .mul T x y T', ty, pos, aft, g⟩ :: rest) (Fr n σ) w :=
  op_bin hg hx ex ey (by simp only [binOp, ne_eq, not_true_eq_false, if_false, Op.intArith, Sem.run_pure, wrap64_in hr]) guard_int k

theorem op_eqS {a b : ByteArray} (hg : wantF ops σ n g = true) (hx : (okO n x && okO n y) = true) (ex : ev σ x = .string a) (ey : ev σ y = .string b)
    (k : wpList P ops Q rest (Fr n (upd σ d (.bool (decide (a = b))))) w) : wpList P ops Q (⟨some d, .binOp .eql T x y T', ty, pos, aft, g⟩ :: rest) (Fr n σ) w :=
  op_bin hg hx ex ey (by simp only [binOp, Op.stringOp, Sem.run_pure, toList_beq]) guard_str k
theorem op_neqS {a b : ByteArray} (hg : wantF ops σ n g = true) (hx : (okO n x && okO n y) = true) (ex : ev σ x = .string a) (ey : ev σ y = .string b)
    (k : wpList P ops Q rest (Fr n (upd σ d (.bool (decide (a ≠ b))))) w) : wpList P ops Q (⟨some d, .binOp .neq T x y T', ty, pos, aft, g⟩ :: rest) (Fr n σ) w :=
  op_bin hg hx ex ey (by simp only [binOp, Op.stringOp, Sem.run_pure, toList_beq, decide_not]) guard_str k
theorem op_addS {a b : ByteArray} (hg : wantF ops σ n g = true) (hx : (okO n x && okO n y) = true) (ex : ev σ x = .string a) (ey : ev σ y = .string b) (hr : a.size + b.size < 9223372036854775808)
    (k : wpList P ops Q rest (Fr n (upd σ d (.string (a ++ b)))) w) : wpList P ops Q (⟨some d, .binOp .add T x y T', ty, pos, aft, g⟩ :: rest) (Fr n σ) w :=
  op_bin hg hx ex ey (by
    have : ¬ (((a.size + b.size : Nat) : Int) > IntKind.i64.max) := by
      have e : IntKind.i64.max = 9223372036854775807 := by decide
      rw [e]; omega
    simp only [binOp, Op.stringOp, this, if_false, Sem.run_pure]) guard_str k
theorem op_eqB {a b : Bool} (hT : P.underlying T = some .bool) (hg : wantF ops σ n g = true) (hx : (okO n x && okO n y) = true) (ex : ev σ x = .bool a) (ey : ev σ y = .bool b)
    (k : wpList P ops Q rest (Fr n (upd σ d (.bool (decide (a = b))))) w) : wpList P ops Q (⟨some d, .binOp .eql T x y T', ty, pos, aft, g⟩ :: rest) (Fr n σ) w :=
  op_bin hg hx ex ey (by simp only [binOp, Sem.run_bind, run_equal_bool hT, Sem.run_pure, Result.andThen_ok]; cases a <;> cases b <;> rfl) guard_bool k
theorem op_neqB {a b : Bool} (hT : P.underlying T = some .bool) (hg : wantF ops σ n g = true) (hx : (okO n x && okO n y) = true) (ex : ev σ x = .bool a) (ey : ev σ y = .bool b)
    (k : wpList P ops Q rest (Fr n (upd σ d (.bool (decide (¬ a = b))))) w) : wpList P ops Q (⟨some d, .binOp .neq T x y T', ty, pos, aft, g⟩ :: rest) (Fr n σ) w :=
  op_bin hg hx ex ey (by simp only [binOp, Sem.run_bind, run_equal_bool hT, Sem.run_pure, Result.andThen_ok]; cases a <;> cases b <;> rfl) guard_bool k
theorem bsz {s : ByteArray} (h : ¬ s = ⟨#[]⟩) : 0 < s.size := by
  rcases Nat.eq_zero_or_pos s.size with h0 | h0
  · exact absurd (ByteArray.ext (Array.eq_empty_of_size_eq_zero h0)) h
  · exact h0
theorem op_quo {a b : Int} (hg : wantF ops σ n g = true) (hx : (okO n x && okO n y) = true) (ex : ev σ x = .int .i64 a) (ey : ev σ y = .int .i64 b) (h0 : 0 ≤ a) (h1 : a < 9223372036854775808) (hb : 0 < b)
    (k : wpList P ops Q rest (Fr n (upd σ d (.int .i64 (a / b)))) w) : wpList P ops Q (⟨some d, .binOp .quo T x y T', ty, pos, aft, g⟩ :: rest) (Fr n σ) w :=
  op_bin hg hx ex ey (by
    have e : a.tdiv b = a / b := Int.tdiv_eq_ediv_of_nonneg h0
    have hle : a / b ≤ a := Int.ediv_le_self _ h0
    have hge : 0 ≤ a / b := Int.ediv_nonneg h0 (by omega)
    simp only [binOp, ne_eq, not_true_eq_false, if_false, Op.intDiv, if_neg (show ¬ b = 0 by omega), Sem.run_pure, e]
    rw [wrap64_in ⟨by omega, by omega⟩]) guard_int k
theorem op_rem {a b : Int} (hg : wantF ops σ n g = true) (hx : (okO n x && okO n y) = true) (ex : ev σ x = .int .i64 a) (ey : ev σ y = .int .i64 b) (h0 : 0 ≤ a) (hb : 0 < b)
    (k : wpList P ops Q rest (Fr n (upd σ d (.int .i64 (a % b)))) w) : wpList P ops Q (⟨some d, .binOp .rem T x y T', ty, pos, aft, g⟩ :: rest) (Fr n σ) w :=
  op_bin hg hx ex ey (by
    have e : a.tmod b = a % b := Int.tmod_eq_emod_of_nonneg h0
    simp only [binOp, ne_eq, not_true_eq_false, if_false, Op.intDiv, if_neg (show ¬ b = 0 by omega), Sem.run_pure, e]) guard_int k
theorem op_notB {b : Bool} (hg : wantF ops σ n g = true) (hx : okO n x = true) (ex : ev σ x = .bool b)
    (k : wpList P ops Q rest (Fr n (upd σ d (.bool (!b)))) w) : wpList P ops Q (⟨some d, .unOp .not T x, ty, pos, aft, g⟩ :: rest) (Fr n σ) w :=
  op_val hg (by simp only [execOp, eval_Fr hx, ex, Op.unary, Sem.run_bind, Sem.run_pure, Result.andThen_ok]) k
theorem op_notD {p : Prop} [Decidable p] (hg : wantF ops σ n g = true) (hx : okO n x = true) (ex : ev σ x = .bool (decide p))
    (k : wpList P ops Q rest (Fr n (upd σ d (.bool (decide (¬ p))))) w) : wpList P ops Q (⟨some d, .unOp .not T x, ty, pos, aft, g⟩ :: rest) (Fr n σ) w :=
  op_notB hg hx ex (by rw [← decide_not]; exact k)
theorem op_neg {a : Int} (hg : wantF ops σ n g = true) (hx : okO n x = true) (ex : ev σ x = .int .i64 a) (hr : -9223372036854775808 ≤ 0 - a ∧ 0 - a < 9223372036854775808)
    (k : wpList P ops Q rest (Fr n (upd σ d (.int .i64 (-a)))) w) : wpList P ops Q (⟨some d, .unOp .neg T x, ty, pos, aft, g⟩ :: rest) (Fr n σ) w :=
  op_val hg (by simp only [execOp, eval_Fr hx, ex, Op.unary, Op.intArith, Sem.run_bind, Sem.run_pure, Result.andThen_ok, wrap64_in hr]; rw [show (0 : Int) - a = -a by omega]) k

/-! lengths, extracts, functions -/
theorem op_len {a : Option Addr} {l c : Nat} (hT : Ty P T (.slice E) size bytes zero) (hg : wantF ops σ n g = true) (hx : okO n x = true) (ex : ev σ x = .slice a l c)
    (k : wpList P ops Q rest (Fr n (upd σ d (.int .i64 l))) w) : wpList P ops Q (⟨some d, .call ⟨.builtin .len, #[x], #[T]⟩, ty, pos, aft, g⟩ :: rest) (Fr n σ) w :=
  op_val hg (by
    have h1 : (#[x].map (Fr n σ).eval) = #[Value.slice a l c] := by simp [eval_Fr hx, ex]
    simp only [execOp, resolve, h1, invoke, builtin, Builtin.len_, Sem.run_bind, Sem.run_pure, Result.andThen_ok, List.getElem?_toArray, List.getElem?_cons_zero, run_underlying hT.und, goInt]) k
theorem op_lenS {s : ByteArray} (hT : P.underlying T = some .string) (hg : wantF ops σ n g = true) (hx : okO n x = true) (ex : ev σ x = .string s)
    (k : wpList P ops Q rest (Fr n (upd σ d (.int .i64 s.size))) w) : wpList P ops Q (⟨some d, .call ⟨.builtin .len, #[x], #[T]⟩, ty, pos, aft, g⟩ :: rest) (Fr n σ) w :=
  op_val hg (by
    have h1 : (#[x].map (Fr n σ).eval) = #[Value.string s] := by simp [eval_Fr hx, ex]
    simp only [execOp, resolve, h1, invoke, builtin, Builtin.len_, Sem.run_bind, Sem.run_pure, Result.andThen_ok, List.getElem?_toArray, List.getElem?_cons_zero, run_underlying hT, goInt]) k
theorem op_extract {vs : Array Value} {i : Nat} {v : Value} (hg : wantF ops σ n g = true) (hx : okO n x = true) (ex : ev σ x = .tuple vs) (hi : vs.toList[i]? = some v)
    (k : wpList P ops Q rest (Fr n (upd σ d v)) w) : wpList P ops Q (⟨some d, .extract x i, ty, pos, aft, g⟩ :: rest) (Fr n σ) w :=
  op_val hg (by
    have hi' : vs[i]? = some v := by simpa using hi
    simp only [execOp, eval_Fr hx, ex, Instr.extract, hi', Sem.run_bind, Sem.run_pure, Result.andThen_ok]) k
def evs (σ : Nat → Value) (l : List Operand) : List Value := l.map (ev σ)
def okOs (n : Nat) : List Operand → Bool
  | [] => true
  | x :: l => cond (okO n x) (okOs n l) false
theorem evs_Fr {l : List Operand} (h : okOs n l = true) : l.toArray.map (Fr n σ).eval = (evs σ l).toArray := by
  simp only [List.map_toArray, evs]
  congr 1
  apply List.map_congr_left
  intro x hx
  apply eval_Fr
  induction l with
  | nil => simp at hx
  | cons y l ih =>
    have hy : okO n y = true ∧ okOs n l = true := by
      unfold okOs at h; cases h' : okO n y <;> simp [h'] at h <;> simp [h]
    simp only [List.mem_cons] at hx
    rcases hx with rfl | hx
    · exact hy.1
    · exact ih hy.2 hx
theorem op_makeFunc {fn : Fn} {cs : List Operand} {vs : List Value} (hg : wantF ops σ n g = true) (hx : okOs n cs = true) (ec : evs σ cs = vs)
    (k : wpList P ops Q rest (Fr n (upd σ d (.func fn #[] vs.toArray))) w) : wpList P ops Q (⟨some d, .makeFunc fn #[] cs.toArray, ty, pos, aft, g⟩ :: rest) (Fr n σ) w :=
  op_val hg (by simp only [execOp, evs_Fr hx, ec, Instr.makeFunc, Sem.run_bind, Sem.run_pure, Result.andThen_ok]; simp) k

/-! calls -/
def Callable (P : Program) (f : Nat) : Prop := ∃ fn, P.funcs[f]? = some fn ∧ fn.body.isSome = true ∧ (fn.name == "runtime.NumGoroutine") = false

theorem op_call {f : Nat} {l : List Operand} {args : List Value} {ts : Array TypeId} {R : Value → World → Prop} (hF : Callable P f)
    (hg : wantF ops σ n g = true) (hx : okOs n l = true) (ea : evs σ l = args) (hc : Calls P f args.toArray w (Ret R)) (k : ∀ v w', R v w' → wpList P ops Q rest (Fr n (upd σ d v)) w') :
    wpList P ops Q (⟨some d, .call ⟨.value (.func f), l.toArray, ts⟩, ty, pos, aft, g⟩ :: rest) (Fr n σ) w :=
  op_enter hg (by
    obtain ⟨fn, hf, hb, hn⟩ := hF
    have hb' : fn.body.isNone = false := by cases h : fn.body <;> simp [h] at hb ⊢
    simp only [execOp, resolve, Act.eval, Deferred.ofValue, invoke, callFunc, evs_Fr hx, ea, Sem.run_bind, Sem.run_pure, Result.andThen_ok, run_program, hf, hb', hn, Bool.false_eq_true, if_false]
    simp) hc k
/-- A call of a function value. -/
theorem op_callV {f : Nat} {xo : Operand} {l : List Operand} {args : List Value} {caps : Array Value} {ts : Array TypeId} {R : Value → World → Prop} (hF : Callable P f)
    (hg : wantF ops σ n g = true) (hx : (okO n xo && okOs n l) = true) (ef : ev σ xo = .func (.func f) #[] caps) (ea : evs σ l ++ caps.toList = args) (hc : Calls P f args.toArray w (Ret R)) (k : ∀ v w', R v w' → wpList P ops Q rest (Fr n (upd σ d v)) w') :
    wpList P ops Q (⟨some d, .call ⟨.value xo, l.toArray, ts⟩, ty, pos, aft, g⟩ :: rest) (Fr n σ) w := by
  simp only [Bool.and_eq_true] at hx
  refine op_enter (args := args.toArray) hg ?_ hc k
  obtain ⟨fn, hf, hb, hn⟩ := hF
  have hb' : fn.body.isNone = false := by cases h : fn.body <;> simp [h] at hb ⊢
  simp only [execOp, resolve, eval_Fr hx.1, ef, Deferred.ofValue, invoke, callFunc, evs_Fr hx.2, ← ea, Sem.run_bind, Sem.run_pure, Result.andThen_ok, run_program, hf, hb', hn, Bool.false_eq_true, if_false]
  simp

/-! memory -/
theorem op_loadC {ad : Addr} {v : Value} (hT : Ty P T D size bytes zero) (hd : notAgg D = true) (hg : wantF ops σ n g = true) (hx : okO n x = true) (ex : ev σ x = .pointer (some ad)) (hc : w.cell? ad = some v)
    (k : wpList P ops Q rest (Fr n (upd σ d v)) w) : wpList P ops Q (⟨some d, .load T x, ty, pos, aft, g⟩ :: rest) (Fr n σ) w :=
  op_val hg (by simp only [execOp, eval_Fr hx, ex, run_load1 hT hd hc, Sem.run_bind, Sem.run_pure, Result.andThen_ok]) k
theorem op_loadB {β o : Nat} {cs : List Value} {v : Value} (hT : Ty P T D size bytes zero) (hd : notAgg D = true) (hg : wantF ops σ n g = true) (hx : okO n x = true) (ex : ev σ x = .pointer (some ⟨β, o, none⟩)) (hb : Box w β cs) (hc : cs[o]? = some v)
    (k : wpList P ops Q rest (Fr n (upd σ d v)) w) : wpList P ops Q (⟨some d, .load T x, ty, pos, aft, g⟩ :: rest) (Fr n σ) w :=
  op_loadC hT hd hg hx ex ((hb.cell o).trans hc) k
def takeL : Nat → Nat → List Value → List Value
  | _, 0, _ => []
  | _, _ + 1, [] => []
  | 0, m + 1, v :: l => v :: takeL 0 m l
  | o + 1, m + 1, _ :: l => takeL o (m + 1) l
theorem takeL_get : ∀ (o m : Nat) (l : List Value) (j : Nat), o + m ≤ l.length → j < m → l[o + j]? = (takeL o m l)[j]?
  | o, 0, l, j, _, h => by omega
  | o, m + 1, [], j, h, _ => by simp at h
  | 0, m + 1, v :: l, 0, h, _ => by simp [takeL]
  | 0, m + 1, v :: l, j + 1, h, h' => by
    have := takeL_get 0 m l j (by simp at h; omega) (by omega)
    simp only [Nat.zero_add] at this
    simp [takeL, this]
  | o + 1, m + 1, v :: l, j, h, h' => by
    have := takeL_get o (m + 1) l j (by simp at h; omega) h'
    rw [show o + 1 + j = (o + j) + 1 by omega]
    simp [takeL, this]
theorem takeL_len : ∀ (o m : Nat) (l : List Value), o + m ≤ l.length → (takeL o m l).length = m
  | o, 0, l, _ => by simp [takeL]
  | o, m + 1, [], h => by simp at h
  | 0, m + 1, v :: l, h => by simp [takeL, takeL_len 0 m l (by simp at h; omega)]
  | o + 1, m + 1, v :: l, h => by simp [takeL, takeL_len o (m + 1) l (by simp at h; omega)]
theorem op_loadBA {β o : Nat} {cs ds : List Value} (hT : Ty P T D size bytes zero) (hd : notAgg D = false) (hg : wantF ops σ n g = true) (hx : okO n x = true) (ex : ev σ x = .pointer (some ⟨β, o, none⟩)) (hb : Box w β cs)
    (hl : Nat.ble (o + size) cs.length = true) (hds : takeL o size cs = ds) (k : wpList P ops Q rest (Fr n (upd σ d (.agg ds.toArray))) w) : wpList P ops Q (⟨some d, .load T x, ty, pos, aft, g⟩ :: rest) (Fr n σ) w := by
  have hl' := Nat.le_of_ble_eq_true hl
  subst hds
  exact op_val hg (by
    simp only [execOp, eval_Fr hx, ex, Sem.run_bind, Sem.run_pure, Result.andThen_ok]
    rw [run_loadAgg hT hd rfl (takeL_len _ _ _ hl') (fun j hj => by rw [hb.cell]; exact takeL_get _ _ _ _ hl' hj)]
    rfl) k
/-- Cells that read so. -/
structure CA (M : List Nat) (w : World) (ad : Addr) (cs : List Value) : Prop where
  spot : ad.spot = none
  out : ad.block ∉ M
  lt : ad.block < w.heap.size
  cell : ∀ j, j < cs.length → w.cell? ⟨ad.block, ad.off + j, none⟩ = cs[j]?
theorem CA.mono {M M' : List Nat} {w w' : World} {ad : Addr} {cs : List Value} (h : CA M w ad cs) (t : Tr M w M' w') : CA M' w' ad cs := by
  obtain ⟨h5, h6⟩ := t.keep _ h.lt h.out
  refine ⟨h.spot, h5, t.lt h.lt h.out, fun j hj => ?_⟩
  rw [← h.cell j hj]
  simp only [World.cell?, h6]
theorem At.open {α : Type} [Dat α] {M : List Nat} {w : World} {ad : Addr} {u : α} (h : At M w ad u) : ∃ cs, enc M w cs u ∧ CA M w ad cs := by
  obtain ⟨h0, h1, h2, cs, h3, h4⟩ := h
  exact ⟨cs, h3, h0, h1, h2, fun j hj => h4 j (by rw [← Dat.len h3]; exact hj)⟩
theorem op_loadA {M : List Nat} {ad : Addr} {o : Nat} {cs : List Value} {v : Value} (hT : Ty P T D size bytes zero) (hd : notAgg D = true) (hg : wantF ops σ n g = true) (hx : okO n x = true) (ex : ev σ x = .pointer (some ⟨ad.block, ad.off + o, none⟩)) (hb : CA M w ad cs) (hc : cs[o]? = some v)
    (k : wpList P ops Q rest (Fr n (upd σ d v)) w) : wpList P ops Q (⟨some d, .load T x, ty, pos, aft, g⟩ :: rest) (Fr n σ) w :=
  op_loadC hT hd hg hx ex ((hb.cell o (by
    rcases Nat.lt_or_ge o cs.length with h | h
    · exact h
    · rw [List.getElem?_eq_none h] at hc; cases hc)).trans hc) k
theorem op_loadA0 {M : List Nat} {ad : Addr} {cs : List Value} {v : Value} (hT : Ty P T D size bytes zero) (hd : notAgg D = true) (hg : wantF ops σ n g = true) (hx : okO n x = true) (ex : ev σ x = .pointer (some ad)) (hb : CA M w ad cs) (hc : cs[0]? = some v)
    (k : wpList P ops Q rest (Fr n (upd σ d v)) w) : wpList P ops Q (⟨some d, .load T x, ty, pos, aft, g⟩ :: rest) (Fr n σ) w := by
  refine op_loadA (o := 0) hT hd hg hx ?_ hb hc k
  rw [ex]; have := hb.spot; cases ad; simp only at this; subst this; rfl
theorem op_loadAA {M : List Nat} {ad : Addr} {cs : List Value} (hT : Ty P T D size bytes zero) (hd : notAgg D = false) (hg : wantF ops σ n g = true) (hx : okO n x = true) (ex : ev σ x = .pointer (some ad)) (hb : CA M w ad cs)
    (hl : Nat.beq cs.length size = true) (k : wpList P ops Q rest (Fr n (upd σ d (.agg cs.toArray))) w) : wpList P ops Q (⟨some d, .load T x, ty, pos, aft, g⟩ :: rest) (Fr n σ) w := by
  have hl' := Nat.eq_of_beq_eq_true hl
  exact op_val hg (by
    simp only [execOp, eval_Fr hx, ex, Sem.run_bind, Sem.run_pure, Result.andThen_ok]
    rw [run_loadAgg hT hd hb.spot hl' (fun j hj => hb.cell j (by omega))]
    rfl) k
/-- Where a field lies. -/
def Fld (P : Program) (S f off : Nat) : Prop := ∀ (ad : Addr) (w : World), ad.spot = none → (Instr.fieldAt S (.pointer (some ad)) f).run P w = .ok (.pointer (some ⟨ad.block, ad.off + off, none⟩)) w
theorem Fld.mk {S f : Nat} {fs : Array Field} {F : Field} {D' : TypeDesc} {k b' : Nat} {z' : Value} (hS : Ty P S (.struct fs) size bytes zero) (hf : fs[f]? = some F) (hF : Ty P F.type D' (k + 1) b' z') : Fld P S f F.offset := by
  intro ad w hs
  simp only [Instr.fieldAt, Sem.run_bind, run_underlying hS.und, Sem.run_pure, Result.andThen_ok, hf, Instr.sureAddr, fieldPlace, run_sizeOf hF, add_spot ad hs]
  simp
theorem op_field {S f off : Nat} {ad : Addr} (hF : Fld P S f off) (hg : wantF ops σ n g = true) (hx : okO n x = true) (ex : ev σ x = .pointer (some ad)) (hs : ad.spot = none)
    (k : wpList P ops Q rest (Fr n (upd σ d (.pointer (some ⟨ad.block, ad.off + off, none⟩)))) w) : wpList P ops Q (⟨some d, .fieldAddr S x f, ty, pos, aft, g⟩ :: rest) (Fr n σ) w :=
  op_val hg (by simp only [execOp, eval_Fr hx, ex, hF ad w hs, Sem.run_bind, Sem.run_pure, Result.andThen_ok]) k
theorem op_fieldB {S f off β o : Nat} (hF : Fld P S f off) (hg : wantF ops σ n g = true) (hx : okO n x = true) (ex : ev σ x = .pointer (some ⟨β, o, none⟩))
    (k : wpList P ops Q rest (Fr n (upd σ d (.pointer (some ⟨β, o + off, none⟩)))) w) : wpList P ops Q (⟨some d, .fieldAddr S x f, ty, pos, aft, g⟩ :: rest) (Fr n σ) w :=
  op_field (ad := ⟨β, o, none⟩) hF hg hx ex rfl k
theorem run_indexAt {α : Type} [Dat α] {M : List Nat} {a : Option Addr} {cap : Nat} {l : List α} {i : Int} {kk : IntKind} {E' : TypeDesc} {s2 b2 : Nat} {z2 : Value} (hT : Ty P T (.slice E) size bytes zero) (hE : Ty P E E' s2 b2 z2) (hsz : s2 = Dat.sz α)
    (hs : SL M w a cap l) (h0 : 0 ≤ i) (h1 : i < l.length) :
    ∃ ad, (Instr.indexAt T (.slice a l.length cap) (.int kk i)).run P w = .ok (.pointer (some ad)) w ∧ At M w ad (l[i.toNat]'(by omega)) := by
  obtain ⟨b, off, ha, hat⟩ := hs.at (i := i.toNat) (by omega)
  refine ⟨_, ?_, hat⟩
  subst ha; subst hsz
  simp only [Instr.indexAt, asIntOf, Sem.run_bind, Sem.run_pure, Result.andThen_ok, run_underlying hT.und, h0, h1, and_self, if_true, run_sizeOf hE, add_spot ⟨b, off, none⟩ rfl]
theorem op_index {α : Type} [Dat α] {M : List Nat} {a : Option Addr} {cap : Nat} {l : List α} {i : Int} {kk : IntKind} {E' : TypeDesc} {s2 b2 : Nat} {z2 : Value} (hT : Ty P T (.slice E) size bytes zero) (hE : Ty P E E' s2 b2 z2) (hsz : s2 = Dat.sz α)
    (hg : wantF ops σ n g = true) (hx : (okO n x && okO n y) = true) (ex : ev σ x = .slice a l.length cap) (ey : ev σ y = .int kk i) (hs : SL M w a cap l) (h0 : 0 ≤ i) (h1 : i < l.length)
    (k : ∀ ad cs, enc M w cs (l[i.toNat]'(by omega)) → CA M w ad cs → wpList P ops Q rest (Fr n (upd σ d (.pointer (some ad)))) w) : wpList P ops Q (⟨some d, .indexAddr T x y, ty, pos, aft, g⟩ :: rest) (Fr n σ) w := by
  simp only [Bool.and_eq_true] at hx
  obtain ⟨ad, hr, hat⟩ := run_indexAt (kk := kk) hT hE hsz hs h0 h1
  obtain ⟨cs, h2, h3⟩ := hat.open
  exact op_val hg (by simp only [execOp, eval_Fr hx.1, eval_Fr hx.2, ex, ey, hr, Sem.run_bind, Sem.run_pure, Result.andThen_ok]) (k ad cs h2 h3)
theorem op_indexI {α : Type} [Dat α] {M : List Nat} {a : Option Addr} {cap : Nat} {l : List α} {i : Int} {kk : IntKind} {E' : TypeDesc} {s2 b2 : Nat} {z2 : Value} (hT : Ty P T (.slice E) size bytes zero) (hE : Ty P E E' s2 b2 z2) (hsz : s2 = Dat.sz α)
    (hg : wantF ops σ n g = true) (hx : (okO n x && okO n y) = true) (ex : ev σ x = .slice a l.length cap) (ey : ev σ y = .int kk i) (hs : SL M w a cap l) (h0 : 0 ≤ i) (h1 : i < l.length)
    (k : ∀ ad cs u, l[i.toNat]? = some u → enc M w cs u → CA M w ad cs → wpList P ops Q rest (Fr n (upd σ d (.pointer (some ad)))) w) : wpList P ops Q (⟨some d, .indexAddr T x y, ty, pos, aft, g⟩ :: rest) (Fr n σ) w :=
  op_index hT hE hsz hg hx ex ey hs h0 h1 fun ad cs => k ad cs _ (List.getElem?_eq_getElem _)
theorem op_indexN {α : Type} [Dat α] {M : List Nat} {a : Option Addr} {cap : Nat} {l : List α} {j : Nat} {kk : IntKind} {E' : TypeDesc} {s2 b2 : Nat} {z2 : Value} (hT : Ty P T (.slice E) size bytes zero) (hE : Ty P E E' s2 b2 z2) (hsz : s2 = Dat.sz α)
    (hg : wantF ops σ n g = true) (hx : (okO n x && okO n y) = true) (ex : ev σ x = .slice a l.length cap) (ey : ev σ y = .int kk (j : Nat)) (hs : SL M w a cap l) (h1 : j < l.length)
    (k : ∀ ad cs u, l[j]? = some u → enc M w cs u → CA M w ad cs → wpList P ops Q rest (Fr n (upd σ d (.pointer (some ad)))) w) : wpList P ops Q (⟨some d, .indexAddr T x y, ty, pos, aft, g⟩ :: rest) (Fr n σ) w :=
  op_indexI (i := (j : Int)) hT hE hsz hg hx ex ey hs (by omega) (by omega) (by simpa using k)
theorem op_alloc {zs : List Value} (hT : Ty P T D size bytes zero) (hz : zero.cells.toList = zs) (hg : wantF ops σ n g = true)
    (k : ∀ β w', w.heap.size = β → Upd [] w w' → w'.heap.size = β + 1 → Box w' β zs → wpList P ops Q rest (Fr n (upd σ d (.pointer (some ⟨β, 0, none⟩)))) w') : wpList P ops Q (⟨some d, .alloc T, ty, pos, aft, g⟩ :: rest) (Fr n σ) w := by
  subst hz
  refine op_val (w' := { w with heap := w.heap.push (.cells zero.cells T) }) hg ?_ (k _ _ rfl (Upd.push _ _) (by simp) (by simpa using Box.push w zero.cells.toList T))
  simp only [execOp, Instr.alloc, Sem.run_bind, run_zeroValue hT, Result.andThen_ok, Sem.run_pure, newVar, newRow]
  rfl
theorem op_box {v : Value} {zs : List Value} (hg : wantF ops σ n g = true) (hx : okO n x = true) (ex : ev σ x = v) (hz : v.cells.toList = zs)
    (k : ∀ β w', w.heap.size = β → Upd [] w w' → w'.heap.size = β + 1 → Box w' β zs → wpList P ops Q rest (Fr n (upd σ d (.pointer (some ⟨β, 0, none⟩)))) w') : wpList P ops Q (⟨some d, .box T x, ty, pos, aft, g⟩ :: rest) (Fr n σ) w := by
  subst hz
  refine op_val (w' := { w with heap := w.heap.push (.cells v.cells T) }) hg ?_ (k _ _ rfl (Upd.push _ _) (by simp) (by simpa using Box.push w v.cells.toList T))
  simp only [execOp, eval_Fr hx, ex, Instr.box, Sem.run_bind, Result.andThen_ok, Sem.run_pure, newVar, newRow]
  rfl
theorem op_store {β o : Nat} {cs vs cs' : List Value} {v : Value} (hT : Ty P T D size bytes zero) (hg : wantF ops σ n g = true) (hx : (okO n x && okO n y) = true) (ex : ev σ x = .pointer (some ⟨β, o, none⟩)) (ey : ev σ y = v) (hb : Box w β cs)
    (hv : v.cells.toList = vs) (hl : (Nat.beq vs.length size && Nat.ble (o + size) cs.length && vs.all one) = true)
    (hc : putL cs o vs = cs') (k : ∀ w', Upd [β] w w' → w'.heap.size = w.heap.size → Box w' β cs' → wpList P ops Q rest (Fr n σ) w') : wpList P ops Q (⟨none, .store T x y, ty, pos, aft, g⟩ :: rest) (Fr n σ) w := by
  simp only [Bool.and_eq_true] at hx hl
  subst hv; subst hc
  obtain ⟨w', h1, h2, h3, h4⟩ := run_storeAt (P := P) hT hb (v := v) (by have := Nat.eq_of_beq_eq_true hl.1.1; simpa using this) (Nat.le_of_ble_eq_true hl.1.2) hl.2
  exact op_skip hg (by simp only [execOp, eval_Fr hx.1, eval_Fr hx.2, ex, ey, h1, Sem.run_bind, Sem.run_pure, Result.andThen_ok]) (k w' h3 h4 h2)
end
end Go.Sx
