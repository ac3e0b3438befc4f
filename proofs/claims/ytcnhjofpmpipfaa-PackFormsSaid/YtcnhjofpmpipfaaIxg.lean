/- The interpreter's operations: one function for all that are no calls of functions. -/
import Derived.Test.YtcnhjofpmpipfaaIxf
set_option linter.unusedVariables false
namespace Go.Ix
open Go Go.Sx Go.RowKit
universe u

/-! ### Operands -/
def evo (nt : Nat) (fr : PT IV) : Operand → Option IV
  | .tmp t => cond (Nat.blt t nt) (some (slot fr t)) none
  | .const v => ofV v
  | .func f => some (.fn f [])
  | .global _ => none
def evL (nt : Nat) (fr : PT IV) : List Operand → Option (List IV)
  | [] => some []
  | x :: l => match evo nt fr x with
    | some v => match evL nt fr l with
      | some vs => some (v :: vs)
      | none => none
    | none => none
def evP (nt : Nat) (fr : PT IV) : List (Nat × Operand) → Option (List (Nat × IV))
  | [] => some []
  | x :: l => match evo nt fr x.2 with
    | some v => match evP nt fr l with
      | some vs => some ((x.1, v) :: vs)
      | none => none
    | none => none
def evM (nt : Nat) (fr : PT IV) : Option Operand → Option (Option IV)
  | none => some none
  | some x => match evo nt fr x with
    | some v => some (some v)
    | none => none
section
variable {P : Program} {tt : Nat → Option TI} {T : TW} {E : Env} {S : IS} {nt : Nat} {fr : PT IV} {a : Act}
theorem evo_sound {x : Operand} {v : IV} (hf : FR E nt fr a.tmps) (h : evo nt fr x = some v) : VR E v (a.eval x) := by
  cases x with
  | tmp t =>
    simp only [evo] at h
    cases hb : Nat.blt t nt with
    | false => rw [hb] at h; cases h
    | true => rw [hb, cond_true] at h; cases h; exact hf.get t (by simpa using hb)
  | const c => exact ofV_sound E h
  | func f => cases h; exact .fn (us := []) rfl (fun i h => by simp at h)
  | global g => cases h
/-- The operands that are read. -/
def OK (E : Env) (nt : Nat) (fr : PT IV) (a : Act) (l : List Operand) : Prop := ∀ x ∈ l, ∀ v, evo nt fr x = some v → VR E v (a.eval x)
theorem OK.of {l : List Operand} (hf : FR E nt fr a.tmps) : OK E nt fr a l := fun x _ v h => evo_sound hf h
theorem OK.mono {E' : Env} (e : E.Le E') {l : List Operand} (h : OK E nt fr a l) : OK E' nt fr a l := fun x hx v hv => (h x hx v hv).mono e
theorem evL_sound : ∀ {l : List Operand} {vs : List IV}, OK E nt fr a l → evL nt fr l = some vs → VRs E vs (l.map a.eval)
  | [], vs, hf, h => by cases h; exact VRs.nil
  | x :: l, vs, hf, h => by
    unfold evL at h
    split at h <;> try cases h
    rename_i v hv
    split at h <;> cases h
    rename_i vs hvs
    exact VRs.cons (hf x List.mem_cons_self v hv) (evL_sound (fun y hy => hf y (List.mem_cons_of_mem _ hy)) hvs)
theorem evP_sound : ∀ {l : List (Nat × Operand)} {vs : List (Nat × IV)}, OK E nt fr a (l.map (·.2)) → evP nt fr l = some vs → VPs E vs (l.map fun p => (p.1, a.eval p.2))
  | [], vs, hf, h => by cases h; trivial
  | x :: l, vs, hf, h => by
    unfold evP at h
    split at h <;> try cases h
    rename_i v hv
    split at h <;> cases h
    rename_i vs hvs
    exact ⟨rfl, hf _ (by simp) v hv, evP_sound (fun y hy => hf y (by simp only [List.map_cons]; exact List.mem_cons_of_mem _ hy)) hvs⟩
theorem evM_sound {x : Option Operand} {v : Option IV} (hf : OK E nt fr a x.toList) (h : evM nt fr x = some v) : VO E v (x.map a.eval) := by
  cases x with
  | none => cases h; trivial
  | some x =>
    simp only [evM] at h
    split at h <;> cases h
    rename_i v hv
    exact hf x (by simp) v hv

/-! ### Whatever asks the world for nothing -/
def evV (nt : Nat) (fr : PT IV) : Operand → Option Value
  | .tmp t => cond (Nat.blt t nt) (toV (slot fr t)) none
  | .const v => some v
  | .func f => some (.func (.func f) #[] #[])
  | .global _ => none
def evG (nt : Nat) (fr : PT IV) (x : Operand) : Value := match evV nt fr x with | some v => v | none => .tuple #[]
def noSel : Op → Bool
  | .select _ _ => false
  | _ => true
def icalm (P : Program) (nt : Nat) (fr : PT IV) (S : IS) (o : Oper) : Option Res :=
  cond (noSel o.op && o.op.operands.toList.all (fun x => (evV nt fr x).isSome))
    (match calm P (execOp (evG nt fr) o) with
    | some (.value u) => match ofV u with
      | some v => some ⟨v, S, 0, 0⟩
      | none => none
    | _ => none) none
/-- What an operation shows, whichever. -/
def ResOK (P : Program) (T : TW) (E : Env) (S : IS) (s : Sem Next) (r : Res) : Prop :=
  ∃ N u E', s.run P E.w = .ok N E'.w ∧ (N = .value u ∨ N = .skip ∧ u = undef) ∧ VR E' r.v u ∧ Post T E S E' r.S ∧ Fresh E S E'
theorem Good.res {e : Sem Value} {r : Res} (h : Good P T E S e r) : ResOK P T E S (do pure (.value (← e))) r := by
  obtain ⟨u, E', h1, h2, h3, h4⟩ := h
  exact ⟨.value u, u, E', by simp only [Sem.run_bind, h1, Result.andThen_ok, Sem.run_pure], .inl rfl, h2, h3, h4⟩
theorem GoodU.res {e : Sem Unit} {r : Res} (h : GoodU P T E S e r) : ResOK P T E S (do e; pure .skip) r := by
  obtain ⟨E', h1, h2, h3, h4⟩ := h
  refine ⟨.skip, undef, E', by simp only [Sem.run_bind, h1, Result.andThen_ok, Sem.run_pure], .inr ⟨rfl, rfl⟩, ?_, h3, h4⟩
  rw [h2]; exact .tup (us := []) rfl (fun i h => by simp at h)
theorem icalm_sound {o : Oper} {r : Res} (p : Pre T E S) (hf : OK E nt fr a o.op.operands.toList) (h : icalm P nt fr S o = some r) : ResOK P T E S (execOp a.eval o) r := by
  unfold icalm at h
  cases hb : (noSel o.op && o.op.operands.toList.all (fun x => (evV nt fr x).isSome)) with
  | false => rw [hb] at h; cases h
  | true =>
  rw [hb, cond_true] at h
  simp only [Bool.and_eq_true] at hb
  have he : execOp a.eval o = execOp (evG nt fr) o := by
    refine execOp_congr o (fun cs b e => by rw [e] at hb; exact absurd hb.1 (by simp [noSel])) fun x hx => ?_
    have h1 := (List.all_eq_true.1 hb.2) x (by simpa using hx)
    unfold evG
    cases hv : evV nt fr x with
    | none => rw [hv] at h1; cases h1
    | some v =>
      cases x with
      | tmp t =>
        simp only [evV] at hv
        cases hbb : Nat.blt t nt with
        | false => rw [hbb] at hv; cases hv
        | true => rw [hbb, cond_true] at hv; exact toV_sound hv (hf (.tmp t) (by simpa using hx) _ (by simp only [evo, hbb, cond_true]))
      | const c => cases hv; rfl
      | func f => cases hv; rfl
      | global g => cases hv
  rw [he]
  split at h <;> try cases h
  rename_i u hu
  split at h <;> cases h
  rename_i v hv
  exact ⟨.value u, u, E, calm_sound hu E.w, .inl rfl, ofV_sound E hv, Post.refl p, Fresh.refl E S⟩

/-! ### Numbers -/
def iltI : Int → Int → Bool
  | .ofNat m, .ofNat n => Nat.blt m n
  | .ofNat _, .negSucc _ => false
  | .negSucc _, .ofNat _ => true
  | .negSucc m, .negSucc n => Nat.blt n m
theorem iltI_eq (a b : Int) : iltI a b = decide (a < b) := by
  cases a with
  | ofNat m =>
    cases b with
    | ofNat n => simp only [iltI]; rw [Bool.eq_iff_iff]; simp
    | negSucc n => symm; simp only [iltI]; simp; omega
  | negSucc m =>
    cases b with
    | ofNat n => symm; simp only [iltI]; simp; omega
    | negSucc n => simp only [iltI]; rw [Bool.eq_iff_iff]; simp; omega
def ieqI : Int → Int → Bool
  | .ofNat m, .ofNat n => Nat.beq m n
  | .negSucc m, .negSucc n => Nat.beq m n
  | _, _ => false
theorem ieqI_eq (a b : Int) : ieqI a b = decide (a = b) := by
  have hn : ∀ m n : Nat, Nat.beq m n = decide (m = n) := fun m n => by
    rw [Bool.eq_iff_iff]; simp
  cases a with
  | ofNat m =>
    cases b with
    | ofNat n => simp only [ieqI, hn]; exact decide_eq_decide.2 ⟨fun h => by rw [h], fun h => Int.ofNat.inj h⟩
    | negSucc n => symm; simp only [ieqI]; exact decide_eq_false (fun h => by cases h)
  | negSucc m =>
    cases b with
    | ofNat n => symm; simp only [ieqI]; exact decide_eq_false (fun h => by cases h)
    | negSucc n => simp only [ieqI, hn]; exact decide_eq_decide.2 ⟨fun h => by rw [h], fun h => Int.negSucc.inj h⟩
def ibin : BinOp → IntKind → Int → Int → Option IV
  | .lss, _, a, b => some (.bool (iltI a b))
  | .gtr, _, a, b => some (.bool (iltI b a))
  | .leq, _, a, b => some (.bool (!iltI b a))
  | .geq, _, a, b => some (.bool (!iltI a b))
  | .eql, _, a, b => some (.bool (ieqI a b))
  | .neq, _, a, b => some (.bool (!ieqI a b))
  | .add, k, a, b => some (.int k (k.wrap (a + b)))
  | .sub, k, a, b => some (.int k (k.wrap (a - b)))
  | .mul, k, a, b => some (.int k (k.wrap (a * b)))
  | _, _, _, _ => none
theorem ibin_sound {w : World} {op : BinOp} {k : IntKind} {x y : Int} {v : IV} {ty : TypeId} (h : ibin op k x y = some v) : ∃ u, (binOp op ty (.int k x) (.int k y)).run P w = .ok u w ∧ VR E v u := by
  have hle : ∀ a b : Int, (!iltI b a) = decide (a ≤ b) := fun a b => by
    rw [iltI_eq, ← decide_not]; exact decide_eq_decide.2 (by omega)
  have hne : ∀ a b : Int, (!ieqI a b) = (a != b) := fun a b => by
    rw [ieqI_eq]; rw [Bool.eq_iff_iff]; simp
  cases op with
  | lss => cases h; exact ⟨.bool (decide (x < y)), by simp only [binOp, ne_eq, not_true_eq_false, if_false, Op.intCmp, Sem.run_pure], by rw [iltI_eq]; exact .bool _⟩
  | gtr => cases h; exact ⟨.bool (decide (x > y)), by simp only [binOp, ne_eq, not_true_eq_false, if_false, Op.intCmp, Sem.run_pure], by rw [iltI_eq]; exact .bool _⟩
  | leq => cases h; exact ⟨.bool (decide (x ≤ y)), by simp only [binOp, ne_eq, not_true_eq_false, if_false, Op.intCmp, Sem.run_pure], by rw [hle]; exact .bool _⟩
  | geq => cases h; exact ⟨.bool (decide (x ≥ y)), by simp only [binOp, ne_eq, not_true_eq_false, if_false, Op.intCmp, Sem.run_pure], by rw [hle]; exact .bool _⟩
  | eql => cases h; exact ⟨.bool (x == y), by simp only [binOp, ne_eq, not_true_eq_false, if_false, Op.intCmp, Sem.run_pure], by rw [show ieqI x y = (x == y) from by rw [ieqI_eq]; rfl]; exact .bool _⟩
  | neq => cases h; exact ⟨.bool (x != y), by simp only [binOp, ne_eq, not_true_eq_false, if_false, Op.intCmp, Sem.run_pure], by rw [hne]; exact .bool _⟩
  | add => cases h; exact ⟨_, by simp only [binOp, ne_eq, not_true_eq_false, if_false, Op.intArith, Sem.run_pure], .int _ _⟩
  | sub => cases h; exact ⟨_, by simp only [binOp, ne_eq, not_true_eq_false, if_false, Op.intArith, Sem.run_pure], .int _ _⟩
  | mul => cases h; exact ⟨_, by simp only [binOp, ne_eq, not_true_eq_false, if_false, Op.intArith, Sem.run_pure], .int _ _⟩
  | _ => cases h

/-! ### All of them -/
def oget {α β : Type (u + 1)} (x : Option α) (f : α → Option β) : Option β := match x with | some a => f a | none => none
theorem oget_some {α β : Type (u + 1)} {x : Option α} {f : α → Option β} {b : β} (h : oget x f = some b) : ∃ a, x = some a ∧ f a = some b := by
  cases x with
  | none => cases h
  | some a => exact ⟨a, rfl, h⟩
def isSl : TypeDesc → Bool
  | .slice _ => true
  | _ => false
def ibinop (P : Program) (nt : Nat) (fr : PT IV) (S : IS) (o : Oper) (op : BinOp) (sl : Bool) : IV → IV → Option Res
  | .int k a, .int k' b => cond (decide (k = k')) (match ibin op k a b with | some v => some ⟨v, S, 0, 0⟩ | none => icalm P nt fr S o) (icalm P nt fr S o)
  | .sl _ _ _ _ _, .nilsl => cond sl (match op with
    | .eql => some ⟨.bool false, S, 0, 0⟩
    | .neq => some ⟨.bool true, S, 0, 0⟩
    | _ => none) none
  | _, _ => icalm P nt fr S o
def iop (P : Program) (tt : Nat → Option TI) (nt : Nat) (fr : PT IV) (S : IS) (o : Oper) : Option Res :=
  match o.op with
  | .move x => oget (evo nt fr x) fun v => some ⟨v, S, 0, 0⟩
  | .assign x => oget (evo nt fr x) fun v => some ⟨v, S, 0, 0⟩
  | .pick c x y => oget (evo nt fr c) fun c => match c with
    | .bool b => oget (evo nt fr (cond b x y)) fun v => some ⟨v, S, 0, 0⟩
    | _ => none
  | .alloc T => ialloc tt S T
  | .box T x => oget (evo nt fr x) fun v => ibox S v
  | .build T ps => oget (evP nt fr ps.toList) fun l => ibuild tt S T l
  | .buildSlice T len ps => oget (evP nt fr ps.toList) fun l => ibuildSlice tt S T len l
  | .load T x => oget (evo nt fr x) fun v => iload tt S T v
  | .store T x y => oget (evo nt fr x) fun v => oget (evo nt fr y) fun u => istore tt S T v u
  | .binOp op T x y _ => oget (evo nt fr x) fun v => oget (evo nt fr y) fun u => match tt T with
    | some ti => ibinop P nt fr S o op (isSl ti.und) v u
    | none => none
  | .convert src dst x => oget (evo nt fr x) fun v => match v with
    | .sl id off len s c => istr tt S src dst (.sl id off len s c)
    | _ => icalm P nt fr S o
  | .makeInterface T x => oget (evo nt fr x) fun v => imakeIface tt S T v
  | .makeFunc (.func f) first caps => match first.toList with
    | [] => oget (evL nt fr caps.toList) fun vs => some ⟨.fn f vs, S, 0, 0⟩
    | _ => none
  | .makeMap T none => imakeMap S
  | .slice T x lo hi mx => oget (evo nt fr x) fun v => match v with
    | .sl id off len s c => oget (evM nt fr lo) fun lo => oget (evM nt fr hi) fun hi => oget (evM nt fr mx) fun mx => islice tt S T lo hi mx (.sl id off len s c)
    | _ => icalm P nt fr S o
  | .fieldAddr T x f => oget (evo nt fr x) fun v => ifield tt S T f v
  | .indexAddr T x y => oget (evo nt fr x) fun v => oget (evo nt fr y) fun u => iindexAddr tt S T v u
  | .lookup T x y ok => oget (evo nt fr x) fun v => oget (evo nt fr y) fun u => match v with
    | .map id => ilookup tt S T (.map id) u ok
    | _ => icalm P nt fr S o
  | .mapUpdate T x y z => oget (evo nt fr x) fun v => oget (evo nt fr y) fun u => oget (evo nt fr z) fun t => imapUpdate tt S T v u t
  | .insert T x y z => oget (evo nt fr x) fun v => oget (evo nt fr y) fun u => oget (evo nt fr z) fun t => imapUpdate tt S T v u t
  | .range T x => oget (evo nt fr x) fun v => irange tt S T v
  | .next x b => oget (evo nt fr x) fun v => inext S v b
  | .typeAssert x xT asserted ok => oget (evo nt fr x) fun v => match v with
    | .iface t y => iassert tt S xT asserted ok (.iface t y)
    | _ => icalm P nt fr S o
  | .extract x i => oget (evo nt fr x) fun v => iextract S i v
  | .call ⟨.builtin .append, args, ts⟩ => match args.toList, ts.toList with
    | [x, y], [t1, t2] => oget (evo nt fr x) fun v => oget (evo nt fr y) fun u => iappend tt S t1 t2 v u
    | _, _ => none
  | .call ⟨.builtin .len, args, ts⟩ => match args.toList, ts.toList with
    | [x], [t1] => oget (evo nt fr x) fun v => match v with
      | .sl id off len s c => ilen tt S t1 (.sl id off len s c)
      | .map id => ilen tt S t1 (.map id)
      | _ => icalm P nt fr S o
    | _, _ => none
  | .call ⟨.builtin .max, _, _⟩ => icalm P nt fr S o
  | .call ⟨.builtin .min, _, _⟩ => icalm P nt fr S o
  | .unOp _ _ _ => icalm P nt fr S o
  | .index _ _ _ => icalm P nt fr S o
  | _ => none
theorem run_eqNil {w : World} {ty : TypeId} {e : TypeId} {a : Addr} {l c : Nat} (hT : P.underlying ty = some (.slice e)) : (Op.equal ty (.slice (some a) l c) (.slice none 0 0)).run P w = .ok false w := by
  have h : ∀ dd, (Op.equalIn (dd + 1) ty (.slice (some a) l c) (.slice none 0 0)).run P w = .ok false w := fun dd => by
    simp [Op.equalIn, Sem.run_bind, run_underlying hT]
  exact h 9999
theorem ret_ok {v : IV} {u : Value} {s : Sem Next} {rd wr : Nat} (p : Pre T E S) (h : s.run P E.w = .ok (.value u) E.w) (hv : VR E v u) : ResOK P T E S s ⟨v, S, rd, wr⟩ :=
  ⟨.value u, u, E, h, .inl rfl, hv, Post.refl p, Fresh.refl E S⟩
theorem ibinop_sound {o : Oper} {op : BinOp} {ty ty' : TypeId} {sl : Bool} {x y : Operand} {v u : IV} {r : Res} (hop : o.op = .binOp op ty x y ty') (p : Pre T E S) (hf : OK E nt fr a o.op.operands.toList) (hT : sl = true → ∃ e, P.underlying ty = some (.slice e)) (h : ibinop P nt fr S o op sl v u = some r)
    (hv : VR E v (a.eval x)) (hu : VR E u (a.eval y)) : ResOK P T E S (execOp a.eval o) r := by
  have hcalm : icalm P nt fr S o = some r → ResOK P T E S (execOp a.eval o) r := fun h => icalm_sound p hf h
  unfold ibinop at h
  split at h
  · rename_i k x1 k' y1
    cases hk : decide (k = k') with
    | false => rw [hk, cond_false] at h; exact hcalm h
    | true =>
    rw [hk, cond_true] at h
    have hk := of_decide_eq_true hk
    subst hk
    split at h
    · rename_i v hb
      cases h
      obtain ⟨z, h1, h2⟩ := ibin_sound (P := P) (E := E) (w := E.w) (ty := ty) hb
      refine ret_ok p ?_ h2
      generalize he1 : a.eval x = e1 at hv
      generalize he2 : a.eval y = e2 at hu
      cases hv; cases hu
      simp only [execOp, hop, he1, he2, Sem.run_bind, guard_int, Result.andThen_ok, h1, Sem.run_pure]
    · exact hcalm h
  · rename_i id off len s c
    cases hsl : sl with
    | false => rw [hsl] at h; cases h
    | true =>
    rw [hsl, cond_true] at h
    obtain ⟨e, hty⟩ := hT hsl
    generalize he1 : a.eval x = e1 at hv
    generalize he2 : a.eval y = e2 at hu
    cases hu
    cases hv with
    | sl cap hA h1 h2 h3 h4 h5 =>
    split at h <;> cases h
    · refine ret_ok p (u := .bool false) ?_ (.bool _)
      have hg : (eqGuard .eql ty x y (.slice (some ⟨E.ρ id, off, none⟩) len cap) (.slice none 0 0)).run P E.w = .ok () E.w := rfl
      simp only [execOp, hop, he1, he2, Sem.run_bind, hg, Result.andThen_ok, binOp, run_eqNil hty, Sem.run_pure]
    · refine ret_ok p (u := .bool true) ?_ (.bool _)
      have hg : (eqGuard .neq ty x y (.slice (some ⟨E.ρ id, off, none⟩) len cap) (.slice none 0 0)).run P E.w = .ok () E.w := rfl
      simp only [execOp, hop, he1, he2, Sem.run_bind, hg, Result.andThen_ok, binOp, run_eqNil hty, Sem.run_pure, Bool.not_false]
  · exact hcalm h
theorem iop_sound {o : Oper} {r : Res} (htt : TT P tt) (p : Pre T E S) (hf : OK E nt fr a o.op.operands.toList) (h : iop P tt nt fr S o = some r) (hrd : tin T.r r.rd) (hwr : tin T.w r.wr) : ResOK P T E S (execOp a.eval o) r := by
  have hcalm : icalm P nt fr S o = some r → ResOK P T E S (execOp a.eval o) r := fun h => icalm_sound p hf h
  obtain ⟨dst, op, ty, pos, aft, g⟩ := o
  have gx : ∀ {x v}, x ∈ op.operands.toList → evo nt fr x = some v → VR E v (a.eval x) := fun hm h => hf _ hm _ h
  cases op with
  | move x =>
    obtain ⟨v, h1, h2⟩ := oget_some h
    cases h2
    exact ret_ok p (by simp only [execOp, Sem.run_pure]) (gx (by simp [Op.operands]) h1)
  | assign x =>
    obtain ⟨v, h1, h2⟩ := oget_some h
    cases h2
    exact ret_ok p (by simp only [execOp, Sem.run_pure]) (gx (by simp [Op.operands]) h1)
  | pick c x y =>
    obtain ⟨v, h1, h2⟩ := oget_some h
    split at h2 <;> try cases h2
    rename_i b
    obtain ⟨u, h3, h4⟩ := oget_some h2
    cases h4
    have hc := gx (by simp [Op.operands]) h1
    generalize he : a.eval c = e at hc
    cases hc
    refine ret_ok p (u := a.eval (cond b x y)) ?_ (gx (by cases b <;> simp [Op.operands]) h3)
    simp only [execOp, he, asBool, Sem.run_bind, Sem.run_pure, Result.andThen_ok]
    cases b <;> rfl
  | alloc e => exact (ialloc_sound htt p h).res
  | box e x =>
    obtain ⟨v, h1, h2⟩ := oget_some h
    exact (ibox_sound p h2 (gx (by simp [Op.operands]) h1)).res
  | build t ps =>
    obtain ⟨l, h1, h2⟩ := oget_some h
    have := ibuild_sound htt p h2 (evP_sound (fun y hy => hf y (by simpa [Op.operands] using hy)) h1)
    have e : ps.map (fun (i, x) => (i, a.eval x)) = (ps.toList.map fun p => (p.1, a.eval p.2)).toArray := by
      apply Array.ext <;> simp
    have := this.res
    rw [← e] at this
    exact this
  | buildSlice t n ps =>
    obtain ⟨l, h1, h2⟩ := oget_some h
    have := ibuildSlice_sound htt p h2 (evP_sound (fun y hy => hf y (by simpa [Op.operands] using hy)) h1)
    have e : ps.map (fun (i, x) => (i, a.eval x)) = (ps.toList.map fun p => (p.1, a.eval p.2)).toArray := by
      apply Array.ext <;> simp
    have := this.res
    rw [← e] at this
    exact this
  | load t x =>
    obtain ⟨v, h1, h2⟩ := oget_some h
    exact (iload_sound htt p h2 hrd (gx (by simp [Op.operands]) h1)).res
  | store t x y =>
    obtain ⟨v, h1, h2⟩ := oget_some h
    obtain ⟨u, h3, h4⟩ := oget_some h2
    exact (istore_sound htt p h4 hwr (gx (by simp [Op.operands]) h1) (gx (by simp [Op.operands]) h3)).res
  | binOp op t x y t' =>
    obtain ⟨v, h1, h2⟩ := oget_some h
    obtain ⟨u, h3, h4⟩ := oget_some h2
    split at h4 <;> try cases h4
    rename_i ti hti
    refine ibinop_sound (a := a) rfl p hf (fun hs => ?_) h4 (gx (by simp [Op.operands]) h1) (gx (by simp [Op.operands]) h3)
    have hu := (htt _ _ hti).und
    cases hd : ti.und <;> rw [hd] at hs <;> first | cases hs | skip
    rename_i e
    rw [hd] at hu
    exact ⟨e, hu⟩
  | convert src dst x =>
    obtain ⟨v, h1, h2⟩ := oget_some h
    split at h2
    · exact (istr_sound htt p h2 hrd (gx (by simp [Op.operands]) h1)).res
    · exact hcalm h2
  | makeInterface t x =>
    obtain ⟨v, h1, h2⟩ := oget_some h
    exact (imakeIface_sound htt p h2 (gx (by simp [Op.operands]) h1)).res
  | makeFunc fn first caps =>
    cases fn <;> try cases h
    rename_i f
    simp only [iop] at h
    split at h <;> try cases h
    rename_i hfirst
    obtain ⟨vs, h1, h2⟩ := oget_some h
    cases h2
    have hr := evL_sound (l := caps.toList) (fun y hy => hf y (by simp only [Op.operands, Array.toList_append]; exact List.mem_append_right _ hy)) h1
    refine ret_ok p (u := .func (.func f) #[] (caps.toList.map a.eval).toArray) ?_ (.fn hr.1 hr.2)
    have e1 : first = #[] := by
      apply Array.toList_inj.1; simpa using hfirst
    have e2 : caps.map a.eval = (caps.toList.map a.eval).toArray := by apply Array.ext <;> simp
    simp only [execOp, Instr.makeFunc, Sem.run_bind, Sem.run_pure, Result.andThen_ok, e1, e2]
    simp
  | makeMap t rsv =>
    cases rsv with
    | some _ => cases h
    | none => exact (imakeMap_sound p h).res
  | slice t x lo hi mx =>
    obtain ⟨v, h1, h2⟩ := oget_some h
    split at h2
    · obtain ⟨l, h3, h4⟩ := oget_some h2
      obtain ⟨m, h5, h6⟩ := oget_some h4
      obtain ⟨n, h7, h8⟩ := oget_some h6
      exact (islice_sound htt p h8 (gx (by simp [Op.operands]) h1) (evM_sound (fun y hy => hf y (by cases lo <;> simp at hy; subst hy; simp [Op.operands])) h3) (evM_sound (fun y hy => hf y (by cases hi <;> simp at hy; subst hy; simp [Op.operands])) h5) (evM_sound (fun y hy => hf y (by cases mx <;> simp at hy; subst hy; simp [Op.operands])) h7)).res
    · exact hcalm h2
  | fieldAddr t x f =>
    obtain ⟨v, h1, h2⟩ := oget_some h
    exact (ifield_sound htt p h2 (gx (by simp [Op.operands]) h1)).res
  | indexAddr t x y =>
    obtain ⟨v, h1, h2⟩ := oget_some h
    obtain ⟨u, h3, h4⟩ := oget_some h2
    exact (iindexAddr_sound htt p h4 (gx (by simp [Op.operands]) h1) (gx (by simp [Op.operands]) h3)).res
  | lookup t x y ok =>
    obtain ⟨v, h1, h2⟩ := oget_some h
    obtain ⟨u, h3, h4⟩ := oget_some h2
    split at h4
    · exact (ilookup_sound htt p h4 hrd (gx (by simp [Op.operands]) h1) (gx (by simp [Op.operands]) h3)).res
    · exact hcalm h4
  | mapUpdate t x y z =>
    obtain ⟨v, h1, h2⟩ := oget_some h
    obtain ⟨u, h3, h4⟩ := oget_some h2
    obtain ⟨s, h5, h6⟩ := oget_some h4
    exact (imapUpdate_sound htt p h6 hwr (gx (by simp [Op.operands]) h1) (gx (by simp [Op.operands]) h3) (gx (by simp [Op.operands]) h5)).res
  | insert t x y z =>
    obtain ⟨v, h1, h2⟩ := oget_some h
    obtain ⟨u, h3, h4⟩ := oget_some h2
    obtain ⟨s, h5, h6⟩ := oget_some h4
    exact (imapUpdate_sound htt p h6 hwr (gx (by simp [Op.operands]) h1) (gx (by simp [Op.operands]) h3) (gx (by simp [Op.operands]) h5)).res
  | range t x =>
    obtain ⟨v, h1, h2⟩ := oget_some h
    exact (irange_sound htt p h2 (gx (by simp [Op.operands]) h1)).res
  | next x b =>
    obtain ⟨v, h1, h2⟩ := oget_some h
    exact (inext_sound p h2 hrd hwr (gx (by simp [Op.operands]) h1)).res
  | typeAssert x xT asserted ok =>
    obtain ⟨v, h1, h2⟩ := oget_some h
    split at h2
    · exact (iassert_sound htt p h2 (gx (by simp [Op.operands]) h1)).res
    · exact hcalm h2
  | extract x i =>
    obtain ⟨v, h1, h2⟩ := oget_some h
    exact (iextract_sound p h2 (gx (by simp [Op.operands]) h1)).res
  | unOp _ _ _ => exact hcalm h
  | index _ _ _ => exact hcalm h
  | call c =>
    obtain ⟨callee, args, ts⟩ := c
    cases callee with
    | builtin b =>
      cases b <;> first | (cases h; done) | skip
      case max => exact hcalm h
      case min => exact hcalm h
      case len =>
        simp only [iop] at h
        split at h <;> try cases h
        rename_i x t1 ha ht
        obtain ⟨v, h1, h2⟩ := oget_some h
        have e1 : args = #[x] := by apply Array.toList_inj.1; simpa using ha
        have e2 : ts = #[t1] := by apply Array.toList_inj.1; simpa using ht
        subst e1; subst e2
        have hrun : ∀ {r}, ilen tt S t1 v = some r → tin T.r r.rd → ResOK P T E S (execOp a.eval ⟨dst, .call ⟨.builtin .len, #[x], #[t1]⟩, ty, pos, aft, g⟩) r := fun hh hr => by
          have := (ilen_sound (tr := ty) htt p hh hr (gx (by simp [Op.operands, Call.operands]) h1)).res
          simpa [ResOK, execOp, resolve, invoke, builtin, Sem.run_bind, Sem.run_pure, Result.andThen_ok] using this
        split at h2
        · exact hrun h2 hrd
        · exact hrun h2 hrd
        · exact hcalm h2
      case append =>
        simp only [iop] at h
        split at h <;> try cases h
        rename_i x y t1 t2 ha ht
        obtain ⟨v, h1, h2⟩ := oget_some h
        obtain ⟨u, h3, h4⟩ := oget_some h2
        have e1 : args = #[x, y] := by apply Array.toList_inj.1; simpa using ha
        have e2 : ts = #[t1, t2] := by apply Array.toList_inj.1; simpa using ht
        subst e1; subst e2
        have := (iappend_sound (tr := ty) htt p h4 hrd hwr (gx (by simp [Op.operands, Call.operands]) h1) (gx (by simp [Op.operands, Call.operands]) h3)).res
        simpa [ResOK, execOp, resolve, invoke, builtin, Sem.run_bind, Sem.run_pure, Result.andThen_ok] using this
    | _ => cases h
  | _ => cases h
end
end Go.Ix
