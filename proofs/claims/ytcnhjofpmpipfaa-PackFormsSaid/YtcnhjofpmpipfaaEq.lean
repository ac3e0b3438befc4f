/- Comparing structs cell by cell; a few small rules. -/
import Derived.Test.YtcnhjofpmpipfaaOwn
set_option linter.unusedVariables false
namespace Go.Sx
open Go Go.RowKit
open Go.Sx.Dat (enc)

/-- Comparing two values of a type answers this, and leaves the world as it is. -/
def EqV (P : Program) (T : TypeId) (u v : Value) (r : Bool) : Prop := ∀ dd w, (Op.equalIn (dd + 1) T u v).run P w = .ok r w
section
variable {P : Program} {T T1 T2 T3 : TypeId} {kk : IntKind}
theorem EqV.int {D : IntKind} {a b : Int} (h : P.underlying T = some (.int D)) : EqV P T (.int kk a) (.int kk b) (decide (a = b)) := fun dd w => by
  simp only [Op.equalIn, Sem.run_bind, run_underlying h, Result.andThen_ok, if_true, Sem.run_pure]; rfl
theorem EqV.str {a b : ByteArray} (h : P.underlying T = some .string) : EqV P T (.string a) (.string b) (decide (a = b)) := fun dd w => by
  simp only [Op.equalIn, Sem.run_bind, run_underlying h, Result.andThen_ok, if_true, Sem.run_pure]
  congr 1
  rw [Bool.eq_iff_iff, decide_eq_true_iff]
  show (a.data == b.data) = true ↔ _
  rw [ByteArray.ext_iff]; simp
theorem EqV.bool {a b : Bool} (h : P.underlying T = some .bool) : EqV P T (.bool a) (.bool b) (decide (a = b)) := fun dd w => by
  simp only [Op.equalIn, Sem.run_bind, run_underlying h, Result.andThen_ok, if_true, Sem.run_pure]; cases a <;> cases b <;> rfl
end
theorem run_part {P : Program} {T : TypeId} {D : TypeDesc} {size bytes off : Nat} {zero v : Value} {cs : Array Value} {w : World} (h : Ty P T D size bytes zero) (hd : notAgg D = true) (hc : cs[off]? = some v) : (part T cs off).run P w = .ok v w := by
  simp only [part, Sem.run_bind, run_isAgg h, hd, Result.andThen_ok, hc, Sem.run_pure, Bool.not_true, Bool.false_eq_true, if_false]
/-- One field of a struct that is compared. -/
structure FldE (P : Program) (f : Field) (o : Nat) (k : Nat) : Prop where
  name : f.name ≠ "_"
  off : f.offset = o
  ty : f.type = k
  scal : ∃ D s b z, Ty P k D s b z ∧ notAgg D = true
theorem FldE.part {P : Program} {f : Field} {o k : Nat} {xs : Array Value} {a : Value} {w : World} (hf : FldE P f o k) (ha : xs[o]? = some a) : (part f.type xs f.offset).run P w = .ok a w := by
  obtain ⟨D, s, b, z, hT, hd⟩ := hf.scal
  rw [hf.off, hf.ty]; exact run_part hT hd ha
theorem FldE.eqv {P : Program} {f : Field} {o k : Nat} {a b : Value} {r : Bool} {w : World} {dd : Nat} (hf : FldE P f o k) (he : EqV P k a b r) : (Op.equalIn (dd + 1) f.type a b).run P w = .ok r w := by
  rw [hf.ty]; exact he dd w
section
variable {P : Program} {T T1 T2 T3 : TypeId} {f1 f2 f3 : Field} {a1 a2 a3 b1 b2 b3 : Value} {r1 r2 r3 : Bool} {w : World}
theorem run_equal2 (hT : P.underlying T = some (.struct #[f1, f2])) (hst : P.stoodInHeld T = false) (h1 : FldE P f1 0 T1) (h2 : FldE P f2 1 T2) (e1 : EqV P T1 a1 b1 r1) (e2 : EqV P T2 a2 b2 r2) :
    (Op.equal T (.agg #[a1, a2]) (.agg #[b1, b2])).run P w = .ok (r1 && r2) w := by
  unfold Op.equal
  show (Op.equalIn (9998 + 1 + 1) T _ _).run P w = _
  rw [Op.equalIn]
  cases r1 <;> cases r2 <;> simp only [Sem.run_bind, run_underlying hT, Result.andThen_ok, run_program, Sem.run_pure, hst, Bool.false_eq_true, if_false, if_true, ne_eq, h1.name, h2.name, not_false_eq_true, List.forIn_toArray, List.forIn_cons, List.forIn_nil, h1.part (a := a1) (xs := #[a1, a2]) rfl, h1.part (a := b1) (xs := #[b1, b2]) rfl, h2.part (a := a2) (xs := #[a1, a2]) rfl, h2.part (a := b2) (xs := #[b1, b2]) rfl, h1.eqv e1, h2.eqv e2, Bool.not_true, Bool.not_false, Bool.and_true, Bool.and_false]
theorem run_equal3 (hT : P.underlying T = some (.struct #[f1, f2, f3])) (hst : P.stoodInHeld T = false) (h1 : FldE P f1 0 T1) (h2 : FldE P f2 1 T2) (h3 : FldE P f3 2 T3) (e1 : EqV P T1 a1 b1 r1) (e2 : EqV P T2 a2 b2 r2) (e3 : EqV P T3 a3 b3 r3) :
    (Op.equal T (.agg #[a1, a2, a3]) (.agg #[b1, b2, b3])).run P w = .ok (r1 && (r2 && r3)) w := by
  unfold Op.equal
  show (Op.equalIn (9998 + 1 + 1) T _ _).run P w = _
  rw [Op.equalIn]
  cases r1 <;> cases r2 <;> cases r3 <;> simp only [Sem.run_bind, run_underlying hT, Result.andThen_ok, run_program, Sem.run_pure, hst, Bool.false_eq_true, if_false, if_true, ne_eq, h1.name, h2.name, h3.name, not_false_eq_true, List.forIn_toArray, List.forIn_cons, List.forIn_nil, h1.part (a := a1) (xs := #[a1, a2, a3]) rfl, h1.part (a := b1) (xs := #[b1, b2, b3]) rfl, h2.part (a := a2) (xs := #[a1, a2, a3]) rfl, h2.part (a := b2) (xs := #[b1, b2, b3]) rfl, h3.part (a := a3) (xs := #[a1, a2, a3]) rfl, h3.part (a := b3) (xs := #[b1, b2, b3]) rfl, h1.eqv e1, h2.eqv e2, h3.eqv e3, Bool.not_true, Bool.not_false, Bool.and_true, Bool.and_false]
end
section
variable {P : Program} {n : Nat} {σ : Nat → Value} {w : World} {Q : Exit → Act → World → Prop} {ops : Array Oper} {rest : List Oper}
variable {d : Nat} {ty T T' : TypeId} {pos : String} {aft : Array Edge} {g : Option (Nat × Bool)} {x y : Operand}
/-- What the table says of a type whose values are compared. -/
def EqT (P : Program) (T : TypeId) (xs ys : List Value) (r : Bool) : Prop := P.eqGuardType P.depth T = false ∧ ∀ w, (Op.equal T (.agg xs.toArray) (.agg ys.toArray)).run P w = .ok r w
theorem guard_agg {op : BinOp} {xs ys : Array Value} (h : P.eqGuardType P.depth T = false) : (eqGuard op T x y (.agg xs) (.agg ys)).run P w = .ok () w := by
  cases op <;> simp [eqGuard, go_sem, h]
theorem op_eqA {xs ys : List Value} {r : Bool} (hE : EqT P T xs ys r) (hg : wantF ops σ n g = true) (hx : (okO n x && okO n y) = true) (ex : ev σ x = .agg xs.toArray) (ey : ev σ y = .agg ys.toArray)
    (k : wpList P ops Q rest (Fr n (upd σ d (.bool r))) w) : wpList P ops Q (⟨some d, .binOp .eql T x y T', ty, pos, aft, g⟩ :: rest) (Fr n σ) w :=
  op_bin hg hx ex ey (by simp only [binOp, Sem.run_bind, hE.2, Sem.run_pure, Result.andThen_ok]) (guard_agg hE.1) k
theorem op_neqA {xs ys : List Value} {p : Prop} [Decidable p] (hE : EqT P T xs ys (decide p)) (hg : wantF ops σ n g = true) (hx : (okO n x && okO n y) = true) (ex : ev σ x = .agg xs.toArray) (ey : ev σ y = .agg ys.toArray)
    (k : wpList P ops Q rest (Fr n (upd σ d (.bool (decide (¬ p))))) w) : wpList P ops Q (⟨some d, .binOp .neq T x y T', ty, pos, aft, g⟩ :: rest) (Fr n σ) w :=
  op_bin hg hx ex ey (by simp only [binOp, Sem.run_bind, hE.2, Sem.run_pure, Result.andThen_ok, decide_not]) (guard_agg hE.1) k
end
end Go.Sx
