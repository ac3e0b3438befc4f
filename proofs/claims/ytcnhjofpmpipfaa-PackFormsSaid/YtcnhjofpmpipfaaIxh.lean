/- The interpreter's steps: calls; the operations of a region, one behind the other. -/
import Derived.Test.YtcnhjofpmpipfaaIxg
set_option linter.unusedVariables false
namespace Go.Ix
open Go Go.Sx Go.RowKit
universe u

inductive Tgt
  | fn (f : Nat)
  | yield (id : Nat)
abbrev Cl := Tgt → List IV → IS → Option Res
def istep (P : Program) (tt : Nat → Option TI) (nt : Nat) (cl : Cl) (fr : PT IV) (S : IS) (o : Oper) : Option Res :=
  match o.op with
  | .call ⟨.value x, args, _⟩ => oget (evo nt fr x) fun v => oget (evL nt fr args.toList) fun vs => match v with
    | .fn f caps => cl (.fn f) (vs ++ caps) S
    | .yield id => cl (.yield id) vs S
    | _ => none
  | _ => iop P tt nt fr S o
def RetE (T : TW) (E : Env) (S : IS) (r : Res) : Ending → World → Prop := fun e w' => ∃ u E', e = .returned u ∧ E'.w = w' ∧ VR E' r.v u ∧ Post T E S E' r.S ∧ Fresh E S E'
/-- What a way of calling promises. -/
structure ClOK (P : Program) (cl : Cl) : Prop where
  fn : ∀ f vs S r, cl (.fn f) vs S = some r → ∀ (T : TW) (E : Env) (us : List Value), Pre T E S → tin T.r r.rd → tin T.w r.wr → VRs E vs us → Callable P f ∧ CallsIn Fence.wide 0 P f us.toArray E.w (RetE T E S r)
  yl : ∀ id vs S r, cl (.yield id) vs S = some r → ∀ (T : TW) (E : Env) (us : List Value), Pre T E S → tin T.r r.rd → tin T.w r.wr → VRs E vs us → E.A id → YieldAt Fence.wide 0 P (E.ρ id) us.toArray E.w (RetE T E S r)
section
variable {P : Program} {tt : Nat → Option TI} {T : TW} {E : Env} {S : IS} {nt : Nat} {fr : PT IV} {a : Act} {cl : Cl} {F : Fence} {Q : Exit → Act → World → Prop}

theorem iop_noDef {o : Oper} {r : Res} (h : iop P tt nt fr S o = some r) : noDef o = true := by
  obtain ⟨dst, op, ty, pos, aft, g⟩ := o
  cases op <;> first | rfl | cases h
theorem istep_sound {o : Oper} {r : Res} (hF : F.plain = Fence.wide) (hcl : ClOK P cl) (htt : TT P tt) (p : Pre T E S) (hf : OK E nt fr a o.op.operands.toList) (h : istep P tt nt cl fr S o = some r) (hrd : tin T.r r.rd) (hwr : tin T.w r.wr)
    {K : Act → World → Prop} (hK : ∀ u E', VR E' r.v u → Post T E S E' r.S → Fresh E S E' → K (a.put o.dst u) E'.w) : o.wpIn F 0 P a E.w K Q := by
  refine ⟨fun f _ => fn_of hF f, ?_⟩
  have hiop : iop P tt nt fr S o = some r → o.uponIn F 0 P a K Q ((o.semAt F.round a.eval).run P E.w) := fun h => by
    rw [sem_of (iop_noDef h)]
    obtain ⟨N, u, E', h1, h2, h3, h4, h5⟩ := iop_sound htt p hf h hrd hwr
    rw [h1]
    rcases h2 with rfl | ⟨rfl, rfl⟩
    · exact hK u E' h3 h4 h5
    · exact hK undef E' h3 h4 h5
  unfold istep at h
  split at h
  · rename_i x args ts hop
    obtain ⟨v, h1, h2⟩ := oget_some h
    obtain ⟨vs, h3, h4⟩ := oget_some h2
    have hnd : noDef o = true := by obtain ⟨dst, op, ty, pos, aft, g⟩ := o; simp only at hop; subst hop; rfl
    rw [sem_of hnd]
    have ho : ∀ y, y = x ∨ y ∈ args.toList → y ∈ o.op.operands.toList := fun y hy => by
      rw [hop]
      simp only [Op.operands, Call.operands]
      rcases hy with rfl | hy
      · simp
      · simp only [Array.toList_append]; exact List.mem_append_right _ hy
    have gv := hf x (ho x (.inl rfl)) v h1
    have gs := evL_sound (l := args.toList) (fun y hy => hf y (ho y (.inr hy))) h3
    have e2 : args.map a.eval = (args.toList.map a.eval).toArray := by apply Array.ext <;> simp
    have hcont : ∀ e w', RetE T E S r e w' → (match e, w' with
        | .returned v, w'' => K (a.put o.dst v) w''
        | .panicked chain, w'' => Q (.panic chain) a w''
        | .outgrown, _ => LetsOut Q) := fun e w' hq => by
      obtain ⟨u, E', rfl, rfl, k1, k2, k3⟩ := hq
      exact hK u E' k1 k2 k3
    split at h4
    · rename_i f caps
      generalize he : a.eval x = ex at gv
      cases gv with
      | fn hl hh =>
      rename_i us
      have gc : VRs E caps us := ⟨hl, hh⟩
      obtain ⟨hF2, hc⟩ := hcl.fn f _ S r h4 T E _ p hrd hwr (gs.append gc)
      obtain ⟨fn, hfn, hb, hn⟩ := hF2
      have hb' : fn.body.isNone = false := by cases h : fn.body <;> simp [h] at hb ⊢
      have hrun : (execOp a.eval o).run P E.w = .ok (.enter f (args.toList.map a.eval ++ us).toArray) E.w := by
        obtain ⟨dst, op, ty, pos, aft, g⟩ := o
        simp only at hop
        subst hop
        simp only [execOp, resolve, he, Deferred.ofValue, invoke, callFunc, e2, Sem.run_bind, Sem.run_pure, Result.andThen_ok, run_program, hfn, hb', hn, Bool.false_eq_true, if_false]
        simp
      rw [hrun]
      exact ⟨fun h0 => (by rw [depth_of hF] at h0; cases h0), (callsIn_of (m := 0) hF (callsIn_wide.1 hc)).mono fun e w' hq => by
        have := hcont e w' hq
        cases e <;> exact this⟩
    · rename_i id
      generalize he : a.eval x = ex at gv
      cases gv with
      | yield hA =>
      obtain ⟨fn, tmps, assign, body, hr, hR⟩ := hcl.yl id _ S r h4 T E _ p hrd hwr gs hA
      have hrun : (execOp a.eval o).run P E.w = .ok (.round (E.ρ id) fn tmps assign body) E.w := by
        obtain ⟨dst, op, ty, pos, aft, g⟩ := o
        simp only at hop
        subst hop
        have h2 : (Deferred.ofValue (.func (.yield (E.ρ id)) #[] #[]) (args.toList.map a.eval).toArray).run P E.w = .ok { target := .fn (.yield (E.ρ id)) #[], args := (args.toList.map a.eval).toArray } E.w := by
          simp only [Deferred.ofValue, Sem.run_pure]; simp
        simp only [execOp, resolve, he, e2, Sem.run_bind, h2, Result.andThen_ok, invoke, hr]
      rw [hrun]
      have hR2 : RoundIn F 0 P (E.ρ id) fn tmps assign body E.w (RetE T E S r) := by
        have h1 : RoundIn F.plain 0 P (E.ρ id) fn tmps assign body E.w (RetE T E S r) := by rw [hF]; exact hR
        exact h1
      exact ⟨fun h0 => (by rw [depth_of hF] at h0; cases h0), hR2.mono fun e w' hq => by
        have := hcont e w' hq
        cases e <;> exact this⟩
    · cases h4
  · exact hiop h

/-! ### Guards -/
def wantI (ops : List Oper) (nt : Nat) (fr : PT IV) : Option (Nat × Bool) → Bool
  | none => true
  | some (j, want) => match dstAt ops j with
    | none => false
    | some t => cond (Nat.blt t nt) (match slot fr t with
      | .bool b => cond want b (!b)
      | _ => false) false
/-- The slot that a guard reads. -/
def guardSlot (ops : List Oper) : Option (Nat × Bool) → Option Nat
  | none => none
  | some (j, _) => dstAt ops j
theorem want_eq {ops : List Oper} {o : Oper} (hs : a.tmps.size = nt) (hf : ∀ t, guardSlot ops o.guard = some t → t < nt → VR E (slot fr t) (a.tmps.getD t undef)) : Region.wanted o (yielded ops.toArray a.tmps) = wantI ops nt fr o.guard := by
  unfold Region.wanted wantI
  cases hg : o.guard with
  | none => rfl
  | some q =>
    obtain ⟨j, want⟩ := q
    simp only
    have e : (ops.toArray[j]?).bind (·.dst) = dstAt ops j := by rw [dstAt_eq]; simp
    unfold yielded
    rw [e]
    cases hd : dstAt ops j with
    | none => simp
    | some t =>
      simp only [Option.bind_some]
      by_cases ht : t < nt
      · have hb : Nat.blt t nt = true := by simpa using ht
        rw [hb, cond_true]
        have h1 := hf t (by rw [hg]; exact hd) ht
        have h2 : a.tmps[t]? = some (a.tmps.getD t undef) := by
          rw [Array.getElem?_eq_getElem (by rw [hs]; exact ht)]; simp [Array.getD_eq_getD_getElem?, hs, ht]
        rw [h2]
        generalize a.tmps.getD t undef = u at h1
        generalize slot fr t = x at h1
        cases h1 <;> first | (simp; done) | skip
        rename_i b
        cases want <;> cases b <;> rfl
      · have hb : Nat.blt t nt = false := by
          cases h : Nat.blt t nt with
          | false => rfl
          | true => exact absurd (by simpa using h) ht
        rw [hb, cond_false]
        rw [Array.getElem?_eq_none (by rw [hs]; omega)]
        simp
def putD : Option Tmp → IV → PT IV → PT IV
  | none, _, fr => fr
  | some d, v, fr => fr.set v d
theorem FR.putD {d : Option Tmp} {v : IV} {u : Value} (h : FR E nt fr a.tmps) (hv : VR E v u) : FR E nt (putD d v fr) (a.put d u).tmps := by
  cases d with
  | none => exact h
  | some d => exact h.put hv

/-! ### One behind the other -/
structure FRes : Type 1 where
  fr : PT IV
  S : IS
  rd : Nat
  wr : Nat
def iseq (P : Program) (tt : Nat → Option TI) (nt : Nat) (cl : Cl) (ops : List Oper) : List Oper → PT IV → IS → Option FRes
  | [], fr, S => some ⟨fr, S, 0, 0⟩
  | o :: l, fr, S => cond (wantI ops nt fr o.guard)
    (match istep P tt nt cl fr S o with
    | none => none
    | some r => match iseq P tt nt cl ops l (putD o.dst r.v fr) r.S with
      | none => none
      | some q => some ⟨q.fr, q.S, r.rd ||| q.rd, r.wr ||| q.wr⟩)
    (iseq P tt nt cl ops l (putD o.dst (.tup []) fr) S)
theorem iseq_sound {ops : List Oper} (hF : F.plain = Fence.wide) (hcl : ClOK P cl) (htt : TT P tt) : ∀ (l : List Oper) (fr : PT IV) (S : IS) (E : Env) (a : Act) (q : FRes), Pre T E S → FR E nt fr a.tmps → iseq P tt nt cl ops l fr S = some q → tin T.r q.rd → tin T.w q.wr →
    (∀ E' a', FR E' nt q.fr a'.tmps → a'.defers = a.defers → Post T E S E' q.S → Fresh E S E' → Q .normal a' E'.w) → wpListIn F 0 P ops.toArray Q l a E.w
  | [], fr, S, E, a, q, p, hf, h, hrd, hwr, hQ => by
    cases h
    exact hQ E a hf rfl (Post.refl p) (Fresh.refl E S)
  | o :: l, fr, S, E, a, q, p, hf, h, hrd, hwr, hQ => by
    unfold iseq at h
    have hw := want_eq (ops := ops) (o := o) hf.size (fun t _ ht => hf.get t ht)
    unfold wpListIn
    rw [hw]
    have hput : ∀ u, (a.put o.dst u).defers = a.defers := fun u => by cases o.dst <;> rfl
    cases hg : wantI ops nt fr o.guard with
    | true =>
      rw [hg, cond_true] at h
      rw [if_pos rfl]
      split at h
      · cases h
      rename_i r hr
      split at h <;> cases h
      rename_i q hq
      obtain ⟨t1, t2⟩ := tin_or hrd
      obtain ⟨t3, t4⟩ := tin_or hwr
      refine istep_sound hF hcl htt p (OK.of hf) hr t1 t3 fun u E' k1 k2 k3 => ?_
      have p' := k2.pre p
      exact iseq_sound hF hcl htt l _ _ E' _ q p' (FR.putD (hf.mono (k2.env p)) k1) hq t2 t4 fun E'' a' m1 m2 m3 m4 => hQ E'' a' m1 (m2.trans (hput u)) (Post.trans p k2 k3 m3) (k3.trans m4 k2.le)
    | false =>
      rw [hg, cond_false] at h
      rw [if_neg (by simp)]
      refine ⟨fun f _ => fn_of hF f, ?_⟩
      exact iseq_sound hF hcl htt l _ _ E _ q p (FR.putD hf (.tup (us := []) rfl (fun i h => by simp at h))) h hrd hwr fun E'' a' m1 m2 m3 m4 => hQ E'' a' m1 (m2.trans (hput undef)) m3 m4
end
end Go.Ix
