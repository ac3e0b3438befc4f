/- Regions that draw their order, all of whose operations are quiet: the rules. -/
import Derived.Test.YtcnhjofpmpipfaaApp2
namespace Go.Sx
open Go Go.RowKit
open Go.Sx.Dat (enc)

section
variable {P : Program} {n : Nat} {σ : Nat → Value} {w : World} {ops : Array Oper} {rest : List Oper} {Qp : Act → Prop}
variable {d : Nat} {op : Op} {ty : TypeId} {pos : String} {aft : Array Edge} {g : Option (Nat × Bool)}

theorem Fr_inj {d n : Nat} {σ : Nat → Value} {u v : Value} (hd : d < n) (h : Fr n (upd σ d u) = Fr n (upd σ d v)) : u = v := by
  have h1 := congrArg (fun a => a.tmps.getD d undef) h
  simp only [Fr_getD hd] at h1
  simpa [upd] using h1

/-- What the rule of a plain operation shows, as a quiet step. -/
def QOne (n : Nat) (σ : Nat → Value) (d : Nat) (v : Value) (w1 : World) : Exit → Act → World → Prop := fun e a' w' => e = .normal ∧ a' = Fr n (upd σ d v) ∧ w' = w1

theorem q1 {v : Value} {w1 : World} : wpList P ops (QOne n σ d v w1) [] (Fr n (upd σ d v)) w1 := ⟨rfl, rfl, rfl⟩
def plainOp : Op → Bool
  | .move _ | .assign _ | .pick .. | .load .. | .build .. | .binOp .. | .unOp .. | .convert .. | .makeInterface .. | .makeFunc .. | .slice .. | .fieldAddr .. | .field .. | .indexAddr .. | .index .. | .lookup .. | .extract .. | .typeAssert .. => true
  | .call ⟨.builtin .len, _, _⟩ | .call ⟨.builtin .cap, _, _⟩ | .call ⟨.builtin .max, _, _⟩ | .call ⟨.builtin .min, _, _⟩ => true
  | _ => false
theorem run_v {s : Sem Value} {x : Next} {w' : World} (h : (do pure (.value (← s)) : Sem Next).run P w = .ok x w') : ∃ u, x = .value u := by
  simp only [Sem.run_bind] at h
  cases hs : s.run P w with
  | ok u w1 => rw [hs] at h; simp only [Result.andThen_ok, Sem.run_pure, Result.ok.injEq] at h; exact ⟨u, h.1.symm⟩
  | halt x w1 => rw [hs] at h; cases h
theorem plain_value {ρ : Operand → Value} {x : Next} {w' : World} (hp : plainOp op = true) (h : (execOp ρ ⟨some d, op, ty, pos, aft, g⟩).run P w = .ok x w') : ∃ u, x = .value u := by
  cases op with
  | call c =>
    obtain ⟨cal, args, ats⟩ := c
    cases cal with
    | builtin b =>
      cases b <;> first | (exfalso; simp [plainOp] at hp; done) | (simp only [execOp, resolve, Sem.run_bind, Sem.run_pure, Result.andThen_ok, invoke, builtin] at h; exact run_v (by simpa only [Sem.run_bind, Sem.run_pure] using h))
    | _ => simp [plainOp] at hp
  | move x => simp only [execOp, Sem.run_pure, Result.ok.injEq] at h; exact ⟨_, h.1.symm⟩
  | assign x => simp only [execOp, Sem.run_pure, Result.ok.injEq] at h; exact ⟨_, h.1.symm⟩
  | pick c a b =>
    simp only [execOp, Sem.run_bind] at h
    cases hs : (asBool (ρ c)).run P w with
    | ok u w1 => rw [hs] at h; simp only [Result.andThen_ok, Sem.run_pure, Result.ok.injEq] at h; exact ⟨_, h.1.symm⟩
    | halt x w1 => rw [hs] at h; cases h
  | _ => first | (exfalso; simp [plainOp] at hp; done) | exact run_v h
theorem q_val {v : Value} (hp : plainOp op = true) (hd : Nat.blt d n = true) (hg : wantF ops σ n g = true)
    (h : ∀ w1, Upd0 w w1 → wpList P ops (QOne n σ d v w1) [⟨some d, op, ty, pos, aft, g⟩] (Fr n σ) w1)
    (k : wpQuiet P ops (Upd0 w) Qp rest (Fr n (upd σ d v))) : wpQuiet P ops (Upd0 w) Qp (⟨some d, op, ty, pos, aft, g⟩ :: rest) (Fr n σ) := by
  have hd' : d < n := by simpa using hd
  refine wpQuiet_step fun K hK => ?_
  rw [want_of (o := ⟨some d, op, ty, pos, aft, g⟩) hg, if_pos rfl]
  refine ⟨v, fun w1 hw1 => ?_, by show K ((Fr n σ).put (some d) v); rw [Fr_put]; exact hK _ k⟩
  have h1 := h w1 hw1
  unfold wpList at h1
  rw [want_of (o := ⟨some d, op, ty, pos, aft, g⟩) hg, if_pos rfl] at h1
  rcases h1 with h1 | ⟨_, a, w', h1, _⟩
  · unfold Oper.quietAt
    unfold Oper.wp at h1
    cases hr : (execOp (Fr n σ).eval ⟨some d, op, ty, pos, aft, g⟩).run P w1 with
    | ok x w' =>
      rw [hr] at h1
      cases x with
      | value u =>
        rw [Oper.upon_value, Fr_put] at h1
        obtain ⟨_, h2, h3⟩ := h1
        exact ⟨h3, Fr_inj hd' h2⟩
      | skip =>
        rw [Oper.upon_skip, Fr_put] at h1
        obtain ⟨_, h2, h3⟩ := h1
        exact ⟨h3, (Fr_inj hd' h2).symm⟩
      | _ => obtain ⟨u, hu⟩ := plain_value hp hr; cases hu
    | halt x w' => rw [hr] at h1; cases x <;> first | exact h1.elim | (obtain ⟨h2, _⟩ := h1; cases h2)
  · cases h1

theorem q_call {f : Nat} {l : List Operand} {args : List Value} {ts : Array TypeId} {v : Value} (hF : Callable P f) (hg : wantF ops σ n g = true) (hx : okOs n l = true) (ea : evs σ l = args)
    (hc : ∀ w1, Upd0 w w1 → Calls P f args.toArray w1 (Ret fun v' w' => v' = v ∧ Upd [] w1 w'))
    (k : wpQuiet P ops (Upd0 w) Qp rest (Fr n (upd σ d v))) : wpQuiet P ops (Upd0 w) Qp (⟨some d, .call ⟨.value (.func f), l.toArray, ts⟩, ty, pos, aft, g⟩ :: rest) (Fr n σ) := by
  refine wpQuiet_step fun K hK => ?_
  rw [want_of (o := ⟨some d, _, ty, pos, aft, g⟩) hg, if_pos rfl]
  refine ⟨v, fun w1 hw1 => ?_, by show K ((Fr n σ).put (some d) v); rw [Fr_put]; exact hK _ k⟩
  have hr : (execOp (Fr n σ).eval ⟨some d, .call ⟨.value (.func f), l.toArray, ts⟩, ty, pos, aft, g⟩).run P w1 = .ok (.enter f args.toArray) w1 := by
    obtain ⟨fn, hf, hb, hn⟩ := hF
    have hb' : fn.body.isNone = false := by cases h : fn.body <;> simp [h] at hb ⊢
    simp only [execOp, resolve, Act.eval, Deferred.ofValue, invoke, callFunc, evs_Fr hx, ea, Sem.run_bind, Sem.run_pure, Result.andThen_ok, run_program, hf, hb', hn, Bool.false_eq_true, if_false]
    simp
  unfold Oper.quietAt
  rw [hr]
  refine ⟨rfl, (hc w1 hw1).mono fun e w' he => ?_⟩
  cases e with
  | returned v' => obtain ⟨h1, h2⟩ := he; exact ⟨by rw [h1], hw1.trans h2⟩
  | _ => exact he.elim
theorem q_callV {f : Nat} {xo : Operand} {caps : Array Value} {l : List Operand} {args : List Value} {ts : Array TypeId} {v : Value} (hF : Callable P f) (hg : wantF ops σ n g = true) (hx : (okO n xo && okOs n l) = true) (ef : ev σ xo = .func (.func f) #[] caps) (ea : evs σ l ++ caps.toList = args)
    (hc : ∀ w1, Upd0 w w1 → Calls P f args.toArray w1 (Ret fun v' w' => v' = v ∧ Upd [] w1 w'))
    (k : wpQuiet P ops (Upd0 w) Qp rest (Fr n (upd σ d v))) : wpQuiet P ops (Upd0 w) Qp (⟨some d, .call ⟨.value xo, l.toArray, ts⟩, ty, pos, aft, g⟩ :: rest) (Fr n σ) := by
  simp only [Bool.and_eq_true] at hx
  refine wpQuiet_step fun K hK => ?_
  rw [want_of (o := ⟨some d, _, ty, pos, aft, g⟩) hg, if_pos rfl]
  refine ⟨v, fun w1 hw1 => ?_, by show K ((Fr n σ).put (some d) v); rw [Fr_put]; exact hK _ k⟩
  have hr : (execOp (Fr n σ).eval ⟨some d, .call ⟨.value xo, l.toArray, ts⟩, ty, pos, aft, g⟩).run P w1 = .ok (.enter f args.toArray) w1 := by
    obtain ⟨fn, hf, hb, hn⟩ := hF
    have hb' : fn.body.isNone = false := by cases h : fn.body <;> simp [h] at hb ⊢
    simp only [execOp, resolve, eval_Fr hx.1, ef, Deferred.ofValue, invoke, callFunc, evs_Fr hx.2, ← ea, Sem.run_bind, Sem.run_pure, Result.andThen_ok, run_program, hf, hb', hn, Bool.false_eq_true, if_false]
    simp
  unfold Oper.quietAt
  rw [hr]
  refine ⟨rfl, (hc w1 hw1).mono fun e w' he => ?_⟩
  cases e with
  | returned v' => obtain ⟨h1, h2⟩ := he; exact ⟨by rw [h1], hw1.trans h2⟩
  | _ => exact he.elim
theorem q_not (hg : skipF ops σ n g = true) (k : wpQuiet P ops (Upd0 w) Qp rest (Fr n (upd σ d undef))) :
    wpQuiet P ops (Upd0 w) Qp (⟨some d, op, ty, pos, aft, g⟩ :: rest) (Fr n σ) :=
  wpQuiet_step fun K hK => by rw [skip_of (o := ⟨some d, op, ty, pos, aft, g⟩) hg, if_neg (by simp)]; show K ((Fr n σ).put (some d) undef); rw [Fr_put]; exact hK _ k
theorem q_part {p : Prop} [Decidable p] {l : List Oper} (t : Nat) (h : σ t = .bool (decide p)) (ht : p → wpQuiet P ops (Upd0 w) Qp l (Fr n (upd σ t (.bool true))))
    (hf : ¬ p → wpQuiet P ops (Upd0 w) Qp l (Fr n (upd σ t (.bool false)))) : wpQuiet P ops (Upd0 w) Qp l (Fr n σ) := by
  by_cases hp : p
  · have := ht hp; rwa [upd_self (by simpa [hp] using h)] at this
  · have := hf hp; rwa [upd_self (by simpa [hp] using h)] at this
theorem q_partN {p : Prop} [Decidable p] {l : List Oper} (t : Nat) (h : σ t = .bool (decide (¬ p))) (ht : ¬ p → wpQuiet P ops (Upd0 w) Qp l (Fr n (upd σ t (.bool true))))
    (hf : p → wpQuiet P ops (Upd0 w) Qp l (Fr n (upd σ t (.bool false)))) : wpQuiet P ops (Upd0 w) Qp l (Fr n σ) :=
  q_part t h ht fun h => hf (Decidable.not_not.1 h)
theorem q_partNB {b : Bool} {l : List Oper} (t : Nat) (h : σ t = .bool (!b)) (ht : b = false → wpQuiet P ops (Upd0 w) Qp l (Fr n (upd σ t (.bool true))))
    (hf : b = true → wpQuiet P ops (Upd0 w) Qp l (Fr n (upd σ t (.bool false)))) : wpQuiet P ops (Upd0 w) Qp l (Fr n σ) := by
  cases b
  · have := ht rfl; rwa [upd_self (show σ t = .bool true from h)] at this
  · have := hf rfl; rwa [upd_self (show σ t = .bool false from h)] at this
theorem q_partB {b : Bool} {l : List Oper} (t : Nat) (h : σ t = .bool b) (ht : b = true → wpQuiet P ops (Upd0 w) Qp l (Fr n (upd σ t (.bool true))))
    (hf : b = false → wpQuiet P ops (Upd0 w) Qp l (Fr n (upd σ t (.bool false)))) : wpQuiet P ops (Upd0 w) Qp l (Fr n σ) := by
  cases b
  · have := hf rfl; rwa [upd_self h] at this
  · have := ht rfl; rwa [upd_self h] at this

/-- The place of an element, whatever the world. -/
theorem SL.idx {α : Type} [Dat α] {M : List Nat} {a : Option Addr} {cap : Nat} {l : List α} {i : Int} {T E : TypeId} {E' : TypeDesc} {size bytes s2 b2 : Nat} {zero z2 : Value} (hs : SL M w a cap l) (hT : Ty P T (.slice E) size bytes zero) (hE : Ty P E E' s2 b2 z2) (hsz : s2 = Dat.sz α)
    (h0 : 0 ≤ i) (h1 : i < l.length) :
    ∃ ad cs u, l[i.toNat]? = some u ∧ enc M w cs u ∧ CA M w ad cs ∧ ∀ (kk : IntKind) (w1 : World), (Instr.indexAt T (.slice a l.length cap) (.int kk i)).run P w1 = .ok (.pointer (some ad)) w1 := by
  obtain ⟨b, off, ha, hat⟩ := hs.at (i := i.toNat) (by omega)
  obtain ⟨cs, h2, h3⟩ := hat.open
  refine ⟨_, cs, _, List.getElem?_eq_getElem _, h2, h3, fun kk w1 => ?_⟩
  subst ha; subst hsz
  simp only [Instr.indexAt, asIntOf, Sem.run_bind, Sem.run_pure, Result.andThen_ok, run_underlying hT.und, h0, h1, and_self, if_true, run_sizeOf hE, add_spot ⟨b, off, none⟩ rfl]
theorem SL.idxN {α : Type} [Dat α] {M : List Nat} {a : Option Addr} {cap : Nat} {l : List α} {j : Nat} {T E : TypeId} {E' : TypeDesc} {size bytes s2 b2 : Nat} {zero z2 : Value} (hs : SL M w a cap l) (hT : Ty P T (.slice E) size bytes zero) (hE : Ty P E E' s2 b2 z2) (hsz : s2 = Dat.sz α)
    (h1 : j < l.length) :
    ∃ ad cs u, l[j]? = some u ∧ enc M w cs u ∧ CA M w ad cs ∧ ∀ (kk : IntKind) (w1 : World), (Instr.indexAt T (.slice a l.length cap) (.int kk (j : Nat))).run P w1 = .ok (.pointer (some ad)) w1 := by
  have := hs.idx (i := (j : Int)) hT hE hsz (by omega) (by omega)
  simpa using this
theorem op_indexR {Q : Exit → Act → World → Prop} {T : TypeId} {x y : Operand} {a : Option Addr} {c l : Nat} {i : Int} {kk : IntKind} {ad : Addr} (hr : ∀ (kk : IntKind) (w1 : World), (Instr.indexAt T (.slice a l c) (.int kk i)).run P w1 = .ok (.pointer (some ad)) w1)
    (hg : wantF ops σ n g = true) (hx : (okO n x && okO n y) = true) (ex : ev σ x = .slice a l c) (ey : ev σ y = .int kk i)
    (k : wpList P ops Q rest (Fr n (upd σ d (.pointer (some ad)))) w) : wpList P ops Q (⟨some d, .indexAddr T x y, ty, pos, aft, g⟩ :: rest) (Fr n σ) w := by
  simp only [Bool.and_eq_true] at hx
  exact op_val hg (by simp only [execOp, eval_Fr hx.1, eval_Fr hx.2, ex, ey, hr, Sem.run_bind, Sem.run_pure, Result.andThen_ok]) k

/-! slices of slices -/
theorem SL.take {α : Type} [Dat α] {M : List Nat} {a : Option Addr} {cap : Nat} {l : List α} (h : SL M w a cap l) (k : Nat) : SL M w a cap (l.take k) := by
  obtain ⟨hc, h⟩ := h
  refine ⟨⟨Nat.le_trans (by simp; omega) hc.1, hc.2⟩, ?_⟩
  rcases h with rfl | ⟨b, off, cells, t, fz, ha, hb, hh, hall⟩
  · exact .inl (by simp)
  · refine .inr ⟨b, off, cells, t, fz, ha, hb, hh, fun i hi => ?_⟩
    have hi' : i < l.length := by simp at hi; omega
    obtain ⟨cs, h1, h2⟩ := hall i hi'
    exact ⟨cs, by rwa [List.getElem_take], h2⟩
theorem run_sliceTo {T E : TypeId} {size bytes s2 b2 : Nat} {zero z2 : Value} {E' : TypeDesc} {a : Option Addr} {len cap k : Nat} {kk : IntKind} (hT : Ty P T (.slice E) size bytes zero) (hE : Ty P E E' s2 b2 z2) (hk : k ≤ cap) :
    (Instr.sliceAt T (.slice a len cap) none (some (.int kk (k : Nat))) none).run P w = .ok (.slice a k cap) w := by
  have e : a.map (fun ad => ad.add (0 * s2)) = a := by
    cases a with
    | none => rfl
    | some ad => simp [Addr.add]
  have h1 : (0 : Int) ≤ (k : Nat) ∧ ((k : Nat) : Int) ≤ cap := ⟨by omega, by omega⟩
  simp only [Instr.sliceAt, Sem.run_bind, run_underlying hT.und, Result.andThen_ok, Instr.slice, Instr.sliceBounds, Instr.sliceBound, asIntOf, Sem.run_pure, h1, and_self, if_true, run_sizeOf hE, e]
  simp
theorem op_sliceTo {Q : Exit → Act → World → Prop} {α : Type} {T E : TypeId} {size bytes s2 b2 : Nat} {zero z2 : Value} {E' : TypeDesc} {x y : Operand} {a : Option Addr} {cap k : Nat} {l : List α} {kk : IntKind} (hT : Ty P T (.slice E) size bytes zero) (hE : Ty P E E' s2 b2 z2)
    (hg : wantF ops σ n g = true) (hx : (okO n x && okO n y) = true) (ex : ev σ x = .slice a l.length cap) (ey : ev σ y = .int kk (k : Nat)) (hk : k ≤ l.length) (hc : l.length ≤ cap)
    (kt : wpList P ops Q rest (Fr n (upd σ d (.slice a (l.take k).length cap))) w) : wpList P ops Q (⟨some d, .slice T x none (some y) none, ty, pos, aft, g⟩ :: rest) (Fr n σ) w := by
  simp only [Bool.and_eq_true] at hx
  have e : (l.take k).length = k := by simp; omega
  rw [e] at kt
  exact op_val hg (by simp only [execOp, eval_Fr hx.1, ex, Option.map_none, Option.map_some, eval_Fr hx.2, ey, run_sliceTo hT hE (Nat.le_trans hk hc), Sem.run_bind, Sem.run_pure, Result.andThen_ok]) kt
theorem SL.spot {α : Type} [Dat α] {M : List Nat} {a : Option Addr} {cap : Nat} {l : List α} (h : SL M w a cap l) (hl : l ≠ []) : ∀ ad, a = some ad → ad.spot = none := by
  obtain ⟨_, h | ⟨b, off, cells, t, fz, ha, _⟩⟩ := h
  · exact absurd h hl
  · rintro ad h; rw [ha] at h; cases h; rfl

/-! strings and conversions -/
def byteAt (s : ByteArray) (i : Nat) : UInt8 := s.data.toList.getD i 0
theorem run_indexS {T : TypeId} {s : ByteArray} {i : Int} {kk : IntKind} (hT : P.underlying T = some .string) (h0 : 0 ≤ i) (h1 : i < s.size) :
    (Instr.index T (.string s) (.int kk i)).run P w = .ok (.int .u8 (byteAt s i.toNat).toNat) w := by
  have h2 : i.toNat < s.size := by omega
  have h3 : s[i.toNat]? = some (byteAt s i.toNat) := by
    have h4 : i.toNat < s.data.size := h2
    rw [getElem?_pos s i.toNat h2]
    congr 1
    simp only [byteAt, List.getD_eq_getElem?_getD]
    rw [List.getElem?_eq_getElem (by simpa using h4)]
    rfl
  simp only [Instr.index, asIntOf, Sem.run_bind, Sem.run_pure, Result.andThen_ok, run_underlying hT, h0, if_true, h3]
theorem op_indexS {Q : Exit → Act → World → Prop} {T : TypeId} {x y : Operand} {s : ByteArray} {i : Int} {kk : IntKind} (hT : P.underlying T = some .string) (hg : wantF ops σ n g = true) (hx : (okO n x && okO n y) = true) (ex : ev σ x = .string s) (ey : ev σ y = .int kk i)
    (h0 : 0 ≤ i) (h1 : i < s.size) (k : wpList P ops Q rest (Fr n (upd σ d (.int .u8 (byteAt s i.toNat).toNat))) w) : wpList P ops Q (⟨some d, .index T x y, ty, pos, aft, g⟩ :: rest) (Fr n σ) w := by
  simp only [Bool.and_eq_true] at hx
  exact op_val hg (by simp only [execOp, eval_Fr hx.1, eval_Fr hx.2, ex, ey, run_indexS hT h0 h1, Sem.run_bind, Sem.run_pure, Result.andThen_ok]) k
theorem op_indexSN {Q : Exit → Act → World → Prop} {T : TypeId} {x y : Operand} {s : ByteArray} {j : Nat} {kk : IntKind} (hT : P.underlying T = some .string) (hg : wantF ops σ n g = true) (hx : (okO n x && okO n y) = true) (ex : ev σ x = .string s) (ey : ev σ y = .int kk (j : Int))
    (h1 : j < s.size) (k : wpList P ops Q rest (Fr n (upd σ d (.int .u8 (byteAt s j).toNat))) w) : wpList P ops Q (⟨some d, .index T x y, ty, pos, aft, g⟩ :: rest) (Fr n σ) w :=
  op_indexS hT hg hx ex ey (by omega) (by omega) (by simpa using k)
theorem run_convert_int {S D : TypeId} {ks kd kx : IntKind} {a : Int} (hS : P.underlying S = some (.int ks)) (hD : P.underlying D = some (.int kd)) : (convert S D (.int kx a)).run P w = .ok (.int kd (kd.wrap a)) w := by
  simp only [convert, Sem.run_bind, run_underlying hS, run_underlying hD, Result.andThen_ok, Conv.intToInt, Sem.run_pure]
theorem op_conv {Q : Exit → Act → World → Prop} {S D : TypeId} {ks kd kx : IntKind} {x : Operand} {a b : Int} (hS : P.underlying S = some (.int ks)) (hD : P.underlying D = some (.int kd)) (hw : kd.wrap a = b) (hg : wantF ops σ n g = true) (hx : okO n x = true) (ex : ev σ x = .int kx a)
    (k : wpList P ops Q rest (Fr n (upd σ d (.int kd b))) w) : wpList P ops Q (⟨some d, .convert S D x, ty, pos, aft, g⟩ :: rest) (Fr n σ) w := by
  subst hw
  exact op_val hg (by simp only [execOp, eval_Fr hx, ex, run_convert_int hS hD, Sem.run_bind, Sem.run_pure, Result.andThen_ok]) k
def wide : IntKind → Bool
  | .i64 => true
  | .u64 => true
  | .i32 => true
  | _ => false
theorem wrap_u8 {kd : IntKind} (h : wide kd = true) (b : UInt8) : kd.wrap (b.toNat : Int) = b.toNat := by
  have := b.toNat_lt
  cases kd <;> first | (exfalso; simp [wide] at h; done) | (simp only [IntKind.wrap, IntKind.bits, IntKind.signed]; simp; omega)
theorem op_convU8 {Q : Exit → Act → World → Prop} {S D : TypeId} {ks kd kx : IntKind} {x : Operand} {b : UInt8} (hS : P.underlying S = some (.int ks)) (hD : P.underlying D = some (.int kd)) (hk : wide kd = true) (hg : wantF ops σ n g = true) (hx : okO n x = true) (ex : ev σ x = .int kx b.toNat)
    (k : wpList P ops Q rest (Fr n (upd σ d (.int kd b.toNat))) w) : wpList P ops Q (⟨some d, .convert S D x, ty, pos, aft, g⟩ :: rest) (Fr n σ) w :=
  op_conv hS hD (wrap_u8 hk b) hg hx ex k

/-! ranging over a string -/
def IterS (w : World) (β : Nat) (s : ByteArray) (p : Nat) : Prop := w.heap[β]? = some (.stringIter s p)
theorem IterS.lt {w : World} {β : Nat} {s : ByteArray} {p : Nat} (h : IterS w β s p) : β < w.heap.size := heap_lt h
theorem IterS.mono {S : List Nat} {w w' : World} {β : Nat} {s : ByteArray} {p : Nat} (h : IterS w β s p) (u : Upd S w w') (hs : β ∉ S) : IterS w' β s p := (u.same β h.lt hs).trans h
theorem IterS.mono0 {w w' : World} {β : Nat} {s : ByteArray} {p : Nat} (h : IterS w β s p) (u : Upd [] w w') : IterS w' β s p := h.mono u (by simp)
theorem op_rangeS {Q : Exit → Act → World → Prop} {T : TypeId} {x : Operand} {s : ByteArray} (hT : P.underlying T = some .string) (hg : wantF ops σ n g = true) (hx : okO n x = true) (ex : ev σ x = .string s)
    (k : ∀ β w', w.heap.size = β → Upd [] w w' → w'.heap.size = β + 1 → IterS w' β s 0 → wpList P ops Q rest (Fr n (upd σ d (.pointer (some ⟨β, 0, none⟩)))) w') : wpList P ops Q (⟨some d, .range T x, ty, pos, aft, g⟩ :: rest) (Fr n σ) w := by
  refine op_val (w' := { w with heap := w.heap.push (.stringIter s 0) }) hg ?_ (k _ _ rfl (Upd.push _ _) (by simp) (by simp [IterS]))
  simp only [execOp, eval_Fr hx, ex, Instr.range, Sem.run_bind, run_underlying hT, Result.andThen_ok, Sem.run_pure]
  rfl
theorem op_nextY {Q : Exit → Act → World → Prop} {x : Operand} {β p : Nat} {s : ByteArray} (hi : IterS w β s p) (hp : p < s.size) (hg : wantF ops σ n g = true) (hx : okO n x = true) (ex : ev σ x = .pointer (some ⟨β, 0, none⟩))
    (k : ∀ w', Upd [β] w w' → w'.heap.size = w.heap.size → IterS w' β s (p + (Utf8.decode s p).2) → wpList P ops Q rest (Fr n (upd σ d (.tuple #[.bool true, .int .i64 p, .int .i32 (Utf8.decode s p).1]))) w') :
    wpList P ops Q (⟨some d, .next x true, ty, pos, aft, g⟩ :: rest) (Fr n σ) w := by
  refine op_val (w' := { w with heap := w.heap.setIfInBounds β (.stringIter s (p + (Utf8.decode s p).2)) }) hg ?_ (k _ ⟨rfl, rfl, rfl, by simp, fun b hb hm => ?_⟩ (by simp) ?_)
  · simp only [execOp, eval_Fr hx, ex, Instr.next, Sem.run_bind, getObj, Sem.run, show w.heap[β]? = some (.stringIter s p) from hi, Result.andThen_ok, hp, if_true, setObj, Sem.run_pure, goInt]
  · simp only [List.mem_singleton] at hm
    simp only [Array.getElem?_setIfInBounds]
    rw [if_neg (by omega)]
  · simp [IterS, hi.lt]
theorem op_nextN {Q : Exit → Act → World → Prop} {x : Operand} {β p : Nat} {s : ByteArray} (hi : IterS w β s p) (hp : ¬ p < s.size) (hg : wantF ops σ n g = true) (hx : okO n x = true) (ex : ev σ x = .pointer (some ⟨β, 0, none⟩))
    (k : wpList P ops Q rest (Fr n (upd σ d (.tuple #[.bool false]))) w) :
    wpList P ops Q (⟨some d, .next x true, ty, pos, aft, g⟩ :: rest) (Fr n σ) w :=
  op_val hg (by simp only [execOp, eval_Fr hx, ex, Instr.next, Sem.run_bind, getObj, Sem.run, show w.heap[β]? = some (.stringIter s p) from hi, Result.andThen_ok, hp, if_false, Sem.run_pure]) k
theorem decode_width (s : ByteArray) (p : Nat) : 1 ≤ (Utf8.decode s p).2 := by
  unfold Utf8.decode
  simp only []
  repeat' split
  all_goals simp
end
/-- A rune. -/
structure I32 where
  v : Int
  deriving DecidableEq, Inhabited
instance : Dat I32 where
  sz := 1
  enc _ _ cs x := cs = [.int .i32 x.v]
  len h := by rw [h]; rfl
  mono h _ := h
  ones h := by rw [h]; rfl
/-- A function value that computes g, on the x of D: called with an x (one argument; agg: a struct), in whatever later world. -/
def FH {α β : Type} [Dat α] (P : Program) (fid : Nat) (caps : List Value) (agg : Bool) (rv : β → Value) (g : α → β) (D : α → Prop) (M : List Nat) (w : World) : Prop :=
  ∀ w1 cs x, Upd0 w w1 → D x → enc M w1 cs x → Calls P fid (cond agg [.agg cs.toArray] cs ++ caps).toArray w1 (Ret fun v w' => v = rv (g x) ∧ Upd [] w1 w')
theorem FH.mono {α β : Type} [Dat α] {P : Program} {fid : Nat} {caps : List Value} {agg : Bool} {rv : β → Value} {g : α → β} {D : α → Prop} {M : List Nat} {w w' : World} (h : FH P fid caps agg rv g D M w) (u : Upd0 w w') : FH P fid caps agg rv g D M w' :=
  fun w1 cs x hu hD he => h w1 cs x (u.trans hu) hD he
/-- Of two arguments. -/
def FH2 {α β γ : Type} [Dat α] [Dat β] (P : Program) (fid : Nat) (caps : List Value) (agg agg' : Bool) (rv : γ → Value) (g : α → β → γ) (D : α → β → Prop) (M : List Nat) (w : World) : Prop :=
  ∀ w1 cs x ds y, Upd0 w w1 → D x y → enc M w1 cs x → enc M w1 ds y → Calls P fid (cond agg [.agg cs.toArray] cs ++ (cond agg' [.agg ds.toArray] ds ++ caps)).toArray w1 (Ret fun v w' => v = rv (g x y) ∧ Upd [] w1 w')
theorem FH2.mono {α β γ : Type} [Dat α] [Dat β] {P : Program} {fid : Nat} {caps : List Value} {agg agg' : Bool} {rv : γ → Value} {g : α → β → γ} {D : α → β → Prop} {M : List Nat} {w w' : World} (h : FH2 P fid caps agg agg' rv g D M w) (u : Upd0 w w') : FH2 P fid caps agg agg' rv g D M w' :=
  fun w1 cs x ds y hu hD he he' => h w1 cs x ds y (u.trans hu) hD he he'
theorem FH.up {α β : Type} [Dat α] {P : Program} {fid : Nat} {caps : List Value} {agg : Bool} {rv : β → Value} {g : α → β} {D : α → Prop} {M : List Nat} {w : World} (h : FH P fid caps agg rv g D M w) (m : List Nat) : FH P fid caps agg rv g D (m ++ M) w :=
  fun w1 cs x hu hD he => h w1 cs x hu hD (Dat.mono he (Tr.sub _ (fun b hb => List.mem_append_right _ hb)))
theorem FH2.up {α β γ : Type} [Dat α] [Dat β] {P : Program} {fid : Nat} {caps : List Value} {agg agg' : Bool} {rv : γ → Value} {g : α → β → γ} {D : α → β → Prop} {M : List Nat} {w : World} (h : FH2 P fid caps agg agg' rv g D M w) (m : List Nat) : FH2 P fid caps agg agg' rv g D (m ++ M) w :=
  fun w1 cs x ds y hu hD he he' => h w1 cs x ds y hu hD (Dat.mono he (Tr.sub _ (fun b hb => List.mem_append_right _ hb))) (Dat.mono he' (Tr.sub _ (fun b hb => List.mem_append_right _ hb)))
end Go.Sx
