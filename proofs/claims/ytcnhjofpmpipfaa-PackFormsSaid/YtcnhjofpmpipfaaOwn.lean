/- Results that lie in memory; own slices, more. -/
import Derived.Test.YtcnhjofpmpipfaaTail
namespace Go.Sx
open Go Go.RowKit
open Go.Sx.Dat (enc)

section
variable {P : Program} {n : Nat} {σ : Nat → Value} {w : World} {Q : Exit → Act → World → Prop} {ops : Array Oper} {rest : List Oper}
variable {d : Nat} {ty : TypeId} {pos : String} {aft : Array Edge} {g : Option (Nat × Bool)}

def oneRes (tmps : Array Value) : ResultVar → Sem Value
  | .tmp t => pure (tmps.getD t undef)
  | .cell a t => do loadVar t (← asAddr (tmps.getD a undef))
def ResOk (P : Program) (n : Nat) (σ : Nat → Value) (w : World) : List ResultVar → List Value → Prop
  | [], [] => True
  | r :: rs, v :: vs => (oneRes (Fr n σ).tmps r).run P w = .ok v w ∧ ResOk P n σ w rs vs
  | _, _ => False
def tupOf : List Value → Value
  | [v] => v
  | vs => .tuple vs.toArray
theorem resOk_mapM {tmps : Array Value} : ∀ (rs : List ResultVar) (vs : List Value), ResOk P n σ w rs vs → tmps = (Fr n σ).tmps → (rs.mapM (oneRes tmps)).run P w = .ok vs w
  | [], [], _, _ => rfl
  | r :: rs, v :: vs, h, e => by
    subst e
    have ih := resOk_mapM rs vs h.2 rfl
    simp only [List.mapM_cons, Sem.run_bind, h.1, Result.andThen_ok, ih, Sem.run_pure]
  | [], _ :: _, h, _ => h.elim
  | _ :: _, [], h, _ => h.elim
theorem resOk_length : ∀ (rs : List ResultVar) (vs : List Value), ResOk P n σ w rs vs → rs.length = vs.length
  | [], [], _ => rfl
  | _ :: rs, _ :: vs, h => by simp [resOk_length rs vs h.2]
  | [], _ :: _, h => h.elim
  | _ :: _, [], h => h.elim
theorem run_map {α β : Type} (f : α → β) (s : Sem α) (P : Program) (w : World) : (f <$> s).run P w = (s.run P w).andThen fun a w' => .ok (f a) w' := by
  have e : f <$> s = (s >>= fun a => pure (f a)) := rfl
  rw [e, Sem.run_bind]; rfl
theorem results_ok {fn : Func} {rs : List ResultVar} {vs : List Value} (hr : fn.results = rs.toArray) (h : ResOk P n σ w rs vs) : (results fn (Fr n σ).tmps).run P w = .ok (tupOf vs) w := by
  have hm := resOk_mapM (tmps := (Fr n σ).tmps) rs vs h rfl
  have e : results fn (Fr n σ).tmps = (do
      let vs ← rs.toArray.mapM (oneRes (Fr n σ).tmps)
      pure (if h : vs.size = 1 then vs[0] else .tuple vs)) := by
    unfold results; rw [hr]; rfl
  rw [e, List.mapM_toArray]
  simp only [Sem.run_bind, run_map, hm, Result.andThen_ok, Sem.run_pure]
  cases vs with
  | nil => simp [tupOf]
  | cons v vs => cases vs <;> simp [tupOf]
theorem retG {fn : Func} {rs : List ResultVar} {vs : List Value} {R : Value → World → Prop} (hr : fn.results = rs.toArray) (h : ResOk P n σ w rs vs) (hR : R (tupOf vs) w) : bodyPost P fn (Ret R) .ret (Fr n σ) w :=
  bodyPost_ret (results_ok hr h) rfl hR
theorem resT {t : Nat} {v : Value} (ht : Nat.blt t n = true) (h : σ t = v) : (oneRes (Fr n σ).tmps (.tmp t)).run P w = .ok v w := by
  simp only [oneRes, Fr_getD (show t < n by simpa using ht), h, Sem.run_pure]
theorem resC {t T β size bytes : Nat} {D : TypeDesc} {zero : Value} {cs ds : List Value} (hT : Ty P T D size bytes zero) (hd : notAgg D = false) (ht : Nat.blt t n = true) (h : σ t = .pointer (some ⟨β, 0, none⟩)) (hb : Box w β cs) (hl : Nat.ble (0 + size) cs.length = true) (hds : takeL 0 size cs = ds) :
    (oneRes (Fr n σ).tmps (.cell t T)).run P w = .ok (.agg ds.toArray) w := by
  have hl' := Nat.le_of_ble_eq_true hl
  subst hds
  have := run_loadAgg (ad := ⟨β, 0, none⟩) hT hd rfl (takeL_len _ _ _ hl') (fun j hj => by rw [hb.cell]; exact takeL_get _ _ _ _ hl' hj)
  simp only [Instr.loadAt, Instr.sureAddr, Sem.run_bind, Sem.run_pure, Result.andThen_ok] at this
  simp only [oneRes, Fr_getD (show t < n by simpa using ht), h, asAddr, Sem.run_bind, Sem.run_pure, Result.andThen_ok, this]

/-- An own slice stays ours behind a step that turned none of its block. -/
theorem Own.step {α : Type} [Dat α] {m m' M : List Nat} {w' : World} {a : Option Addr} {cap : Nat} {l : List α} {S : List Nat} (h : Own m M w a cap l) (u : Upd S w w') (hS : ∀ b ∈ blk a, b ∉ S)
    (e : Evo m w m' w') (hm : ∀ b ∈ m, b ∈ m') : Own m' M w' a cap l := h.mono u hS e fun b hb => hm b (h.mem b hb)
theorem Own.lt63 {α : Type} [Dat α] {m M : List Nat} {a : Option Addr} {cap : Nat} {l : List α} (h : Own m M w a cap l) : l.length < 9223372036854775808 := by
  rcases h with ⟨_, _, rfl⟩ | ⟨g, cells, rfl, _, _, _, _, h5, _⟩
  · simp
  · omega
def rmv (m : List Nat) (a : Option Addr) : List Nat := m.filter fun b => decide (b ∉ blk a)
theorem rmv_sub {m : List Nat} {a : Option Addr} : ∀ b ∈ rmv m a, b ∈ m := fun b hb => (List.mem_filter.1 hb).1
theorem mem_rmv {m : List Nat} {a : Option Addr} {b : Nat} (h : b ∈ m) (hn : b ∉ blk a) : b ∈ rmv m a := List.mem_filter.2 ⟨h, by simpa using hn⟩
/-- It is handed over, and no longer ours. -/
theorem Own.give {α : Type} [Dat α] {m M : List Nat} {a : Option Addr} {cap : Nat} {l : List α} (h : Own m M w a cap l) : SL (rmv m a ++ M) w a cap l :=
  h.shut (fun b hb => by
    rcases List.mem_append.1 hb with h1 | h1
    · exact List.mem_append.2 (.inl (rmv_sub b h1))
    · exact List.mem_append.2 (.inr h1)) (fun b hb hm => by
    rcases List.mem_append.1 hm with h1 | h1
    · have := (List.mem_filter.1 h1).2; simp at this; exact this hb
    · rcases h with ⟨rfl, _, _⟩ | ⟨g, cells, rfl, _, h2, _⟩
      · simp [blk] at hb
      · simp only [blk, List.mem_singleton] at hb; subst hb; exact h2 h1)
/-- Any other own slice, once one is handed over. -/
theorem Own.other {α : Type} [Dat α] {m M : List Nat} {a a2 : Option Addr} {cap : Nat} {l : List α} (h : Own m M w a cap l) (hd : ∀ b ∈ blk a, b ∉ blk a2) : Own (rmv m a2) M w a cap l :=
  h.mono (Upd.refl [] w) (by simp) ((Evo.refl m w).drop rmv_sub) fun b hb => mem_rmv (h.mem b hb) (hd b hb)

/-! bytes and wide numbers -/
theorem wrapU64_in {a : Int} (h0 : 0 ≤ a) (h1 : a < 18446744073709551616) : IntKind.u64.wrap a = a := by
  simp only [IntKind.wrap, IntKind.bits, IntKind.signed]; simp; omega
theorem wrapU8_nat (k : Nat) : IntKind.u8.wrap (k : Int) = ((UInt8.ofNat k).toNat : Int) := by
  simp only [IntKind.wrap, IntKind.bits, IntKind.signed]; simp
theorem wrapU8_int {a : Int} (h : 0 ≤ a) : IntKind.u8.wrap a = ((UInt8.ofNat a.toNat).toNat : Int) := by
  have := wrapU8_nat a.toNat
  rwa [Int.toNat_of_nonneg h] at this
theorem op_convU64 {Q : Exit → Act → World → Prop} {S D : TypeId} {ks kx : IntKind} {x : Operand} {a : Int} (hS : P.underlying S = some (.int ks)) (hD : P.underlying D = some (.int .u64)) (hg : wantF ops σ n g = true) (hx : okO n x = true) (ex : ev σ x = .int kx a) (h0 : 0 ≤ a) (h1 : a < 18446744073709551616)
    (k : wpList P ops Q rest (Fr n (upd σ d (.int .u64 a))) w) : wpList P ops Q (⟨some d, .convert S D x, ty, pos, aft, g⟩ :: rest) (Fr n σ) w :=
  op_conv hS hD (wrapU64_in h0 h1) hg hx ex k
theorem op_convI64 {Q : Exit → Act → World → Prop} {S D : TypeId} {ks kx : IntKind} {x : Operand} {a : Int} (hS : P.underlying S = some (.int ks)) (hD : P.underlying D = some (.int .i64)) (hg : wantF ops σ n g = true) (hx : okO n x = true) (ex : ev σ x = .int kx a) (hr : -9223372036854775808 ≤ a ∧ a < 9223372036854775808)
    (k : wpList P ops Q rest (Fr n (upd σ d (.int .i64 a))) w) : wpList P ops Q (⟨some d, .convert S D x, ty, pos, aft, g⟩ :: rest) (Fr n σ) w :=
  op_conv hS hD (wrap64_in hr) hg hx ex k
theorem op_convByte {Q : Exit → Act → World → Prop} {S D : TypeId} {ks kx : IntKind} {x : Operand} {a : Int} (hS : P.underlying S = some (.int ks)) (hD : P.underlying D = some (.int .u8)) (hg : wantF ops σ n g = true) (hx : okO n x = true) (ex : ev σ x = .int kx a) (h0 : 0 ≤ a)
    (k : wpList P ops Q rest (Fr n (upd σ d (.int .u8 (UInt8.ofNat a.toNat).toNat))) w) : wpList P ops Q (⟨some d, .convert S D x, ty, pos, aft, g⟩ :: rest) (Fr n σ) w :=
  op_conv hS hD (wrapU8_int h0) hg hx ex k
theorem op_orU8 {Q : Exit → Act → World → Prop} {T T' : TypeId} {x y : Operand} {a b : UInt8} (hg : wantF ops σ n g = true) (hx : (okO n x && okO n y) = true) (ex : ev σ x = .int .u8 a.toNat) (ey : ev σ y = .int .u8 b.toNat)
    (k : wpList P ops Q rest (Fr n (upd σ d (.int .u8 (a ||| b).toNat))) w) : wpList P ops Q (⟨some d, .binOp .or T x y T', ty, pos, aft, g⟩ :: rest) (Fr n σ) w :=
  op_bin hg hx ex ey (by
    simp only [binOp, ne_eq, not_true_eq_false, if_false, Op.intBits, Sem.run_pure]
    congr 2
    have e1 : BitVec.ofInt 8 (a.toNat : Int) = a.toBitVec := by apply BitVec.eq_of_toNat_eq; simp
    have e2 : BitVec.ofInt 8 (b.toNat : Int) = b.toBitVec := by apply BitVec.eq_of_toNat_eq; simp
    show IntKind.u8.wrap ((BitVec.ofInt 8 (a.toNat : Int) ||| BitVec.ofInt 8 (b.toNat : Int)).toNat : Int) = _
    rw [e1, e2, wrapU8_nat]
    congr 2
    apply UInt8.toNat_inj.1
    simp) guard_int k
theorem op_shr {Q : Exit → Act → World → Prop} {T T' : TypeId} {x y : Operand} {a b dv : Int} {kk yk : IntKind} (hg : wantF ops σ n g = true) (hx : (okO n x && okO n y) = true) (ex : ev σ x = .int kk a) (ey : ev σ y = .int yk b) (hb : 0 ≤ b) (hdv : (2 : Int) ^ (min b.toNat kk.bits) = dv)
    (k : wpList P ops Q rest (Fr n (upd σ d (.int kk (a / dv)))) w) : wpList P ops Q (⟨some d, .binOp .shr T x y T', ty, pos, aft, g⟩ :: rest) (Fr n σ) w := by
  subst hdv
  refine op_bin hg hx ex ey ?_ guard_int k
  simp only [binOp, Op.shift]
  rw [if_neg (by omega)]
  simp only [Sem.run_pure]
  rw [Int.fdiv_eq_ediv_of_nonneg _ (Int.pow_nonneg (by omega))]
theorem op_nilS {Q : Exit → Act → World → Prop} {T T' E : TypeId} {x y : Operand} {a : Option Addr} {l c : Nat} {size bytes : Nat} {zero : Value} (hT : Ty P T (.slice E) size bytes zero) (hg : wantF ops σ n g = true) (hx : (okO n x && okO n y) = true) (ex : ev σ x = .slice a l c) (ey : ev σ y = .slice none 0 0)
    (k : wpList P ops Q rest (Fr n (upd σ d (.bool a.isNone))) w) : wpList P ops Q (⟨some d, .binOp .eql T x y T', ty, pos, aft, g⟩ :: rest) (Fr n σ) w :=
  op_bin hg hx ex ey (by
    have h : ∀ dd, (Op.equalIn (dd + 1) T (.slice a l c) (.slice none 0 0)).run P w = .ok a.isNone w := fun dd => by
      cases a <;> simp [Op.equalIn, Sem.run_bind, run_underlying hT.und]
    have h' : (Op.equal T (.slice a l c) (.slice none 0 0)).run P w = .ok a.isNone w := h 9999
    simp only [binOp, Sem.run_bind, h', Sem.run_pure, Result.andThen_ok]) rfl k
theorem SL.isNone {α : Type} [Dat α] {M : List Nat} {a : Option Addr} {cap : Nat} {l : List α} (h : SL M w a cap l) (ha : a.isNone = true) : l = [] := by
  obtain ⟨_, h | ⟨b, off, cells, t, fz, h, _⟩⟩ := h
  · exact h
  · subst h; cases ha
theorem op_buildSlice0 {Q : Exit → Act → World → Prop} {α : Type} [Dat α] {m M : List Nat} {T E : TypeId} {size bytes s2 b2 : Nat} {zero z2 : Value} {E' : TypeDesc} (hT : Ty P T (.slice E) size bytes zero) (hE : Ty P E E' s2 b2 z2) (hg : wantF ops σ n g = true) (hM : Lo M w)
    (k : ∀ β w', w.heap.size = β → Upd [] w w' → w'.heap.size = β + 1 → Own (β :: m) M w' (some ⟨β, 0, none⟩) 0 ([] : List α) → wpList P ops Q rest (Fr n (upd σ d (.slice (some ⟨β, 0, none⟩) 0 0))) w') :
    wpList P ops Q (⟨some d, .buildSlice T 0 #[], ty, pos, aft, g⟩ :: rest) (Fr n σ) w := by
  refine op_val (w' := { w with heap := w.heap.push (.cells #[] E) }) hg ?_ (k _ _ rfl (Upd.push _ _) (by simp) (.inr ⟨w.heap.size, [], rfl, by simp, fun h => Nat.lt_irrefl _ (hM _ h), by simpa using Box.push w [] E, by simp, ⟨by simp, by omega⟩, fun i hi => by simp at hi⟩))
  simp only [execOp, Instr.buildSlice, Sem.run_bind, run_underlying hT.und, Sem.run_pure, Result.andThen_ok, run_sizeOf hE, Nat.zero_mul]
  rw [if_neg (by omega), if_pos trivial]
  simp only [Sem.run_bind, Sem.run_pure, Result.andThen_ok]
  simp [Instr.fill, newRow, Sem.run_bind]
  rw [show Array.map (fun x => (default : Value)) (Array.range 0) = #[] from Array.eq_empty_of_size_eq_zero (by simp)]

def sbytes (s : ByteArray) : List UInt8 := s.data.toList
theorem bytes_length (s : ByteArray) : (sbytes s).length = s.size := Array.length_toList
theorem bytes_get {s : ByteArray} {k : Nat} (h : k < s.size) : (sbytes s)[k]? = some (byteAt s k) := by
  have h1 : k < s.data.toList.length := by rw [Array.length_toList]; exact h
  simp only [sbytes, byteAt, List.getD_eq_getElem?_getD, List.getElem?_eq_getElem h1, Option.getD_some]
theorem op_max {Q : Exit → Act → World → Prop} {x y : Operand} {a b : Int} {kk : IntKind} {ts : Array TypeId} (hg : wantF ops σ n g = true) (hx : (okO n x && okO n y) = true) (ex : ev σ x = .int kk a) (ey : ev σ y = .int kk b)
    (k : wpList P ops Q rest (Fr n (upd σ d (.int kk (if a < b then b else a)))) w) : wpList P ops Q (⟨some d, .call ⟨.builtin .max, #[x, y], ts⟩, ty, pos, aft, g⟩ :: rest) (Fr n σ) w := by
  simp only [Bool.and_eq_true] at hx
  have he : (#[x, y].map (Fr n σ).eval) = #[Value.int kk a, Value.int kk b] := by simp [eval_Fr hx.1, eval_Fr hx.2, ex, ey]
  exact op_val hg (by simp only [execOp, resolve, he, invoke, builtin, Builtin.max_, List.foldlM_cons, List.foldlM_nil, Builtin.max2, Sem.run_bind, Sem.run_pure, Result.andThen_ok]) k
theorem op_maxR {Q : Exit → Act → World → Prop} {x y : Operand} {a b : Int} {kk : IntKind} {ts : Array TypeId} (hg : wantF ops σ n g = true) (hx : (okO n x && okO n y) = true) (ex : ev σ x = .int kk a) (ey : ev σ y = .int kk b) (h : a ≤ b)
    (k : wpList P ops Q rest (Fr n (upd σ d (.int kk b))) w) : wpList P ops Q (⟨some d, .call ⟨.builtin .max, #[x, y], ts⟩, ty, pos, aft, g⟩ :: rest) (Fr n σ) w :=
  op_max hg hx ex ey (by have e : (if a < b then b else a) = b := by split <;> omega
                         rw [e]; exact k)
theorem op_min {Q : Exit → Act → World → Prop} {x y : Operand} {a b : Int} {kk : IntKind} {ts : Array TypeId} (hg : wantF ops σ n g = true) (hx : (okO n x && okO n y) = true) (ex : ev σ x = .int kk a) (ey : ev σ y = .int kk b)
    (k : wpList P ops Q rest (Fr n (upd σ d (.int kk (if b < a then b else a)))) w) : wpList P ops Q (⟨some d, .call ⟨.builtin .min, #[x, y], ts⟩, ty, pos, aft, g⟩ :: rest) (Fr n σ) w := by
  simp only [Bool.and_eq_true] at hx
  have he : (#[x, y].map (Fr n σ).eval) = #[Value.int kk a, Value.int kk b] := by simp [eval_Fr hx.1, eval_Fr hx.2, ex, ey]
  exact op_val hg (by simp only [execOp, resolve, he, invoke, builtin, Builtin.min_, List.foldlM_cons, List.foldlM_nil, Builtin.min2, Sem.run_bind, Sem.run_pure, Result.andThen_ok]) k
end
end Go.Sx
