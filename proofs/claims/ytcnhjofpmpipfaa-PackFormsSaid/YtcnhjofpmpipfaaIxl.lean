/- The interpreter's run of a region that draws its order; what operations leave alone. -/
import Derived.Test.YtcnhjofpmpipfaaIxk
set_option linter.unusedVariables false
namespace Go.Ix
open Go Go.Sx Go.RowKit
universe u

/-! ### What is left alone -/
def FrR (S : IS) (r : Res) : Prop := S.next ≤ r.S.next ∧ ∀ id, id < S.next → r.wr.testBit id = false → r.S.H id = S.H id
def FrO (S : IS) (x : Option Res) : Prop := ∀ r, x = some r → FrR S r
def ClFr (cl : Cl) : Prop := ∀ tgt vs S, FrO S (cl tgt vs S)
theorem FrO.none {S : IS} : FrO S none := fun r h => by cases h
theorem FrO.same {S : IS} {v : IV} {rd wr : Nat} : FrO S (some ⟨v, S, rd, wr⟩) := fun r h => by cases h; exact ⟨Nat.le_refl _, fun _ _ _ => rfl⟩
theorem FrO.new {S : IS} {v : IV} {o : IObj} {rd wr : Nat} : FrO S (some ⟨v, S.new o, rd, wr⟩) := fun r h => by
  cases h
  refine ⟨Nat.le_succ _, fun id hid _ => ?_⟩
  rw [IS.H_new, up_ne _ _ (by omega)]
theorem bit_ne {id k : Nat} (h : (2 ^ id).testBit k = false) : k ≠ id := fun e => by subst e; simp [Nat.testBit_two_pow_self] at h
theorem FrO.set {S : IS} {v : IV} {o : IObj} {rd id : Nat} : FrO S (some ⟨v, S.set id o, rd, 2 ^ id⟩) := fun r h => by
  cases h
  refine ⟨Nat.le_refl _, fun k hk hb => ?_⟩
  rw [IS.H_set, up_ne _ _ (bit_ne hb)]
theorem FrO.mv {S : IS} {v : IV} {o o' : IObj} {rd id : Nat} : FrO S (some ⟨v, (S.set id o').new o, rd, 2 ^ id⟩) := fun r h => by
  cases h
  refine ⟨Nat.le_succ _, fun k hk hb => ?_⟩
  rw [IS.H_new, up_ne _ _ (show k ≠ (S.set id o').next from Nat.ne_of_lt hk), IS.H_set, up_ne _ _ (bit_ne hb)]
theorem FrO.cond {S : IS} {c : Bool} {x y : Option Res} (h : FrO S x) (k : FrO S y) : FrO S (cond c x y) := by cases c; exact k; exact h
theorem FrO.oget {S : IS} {α : Type 1} {x : Option α} {f : α → Option Res} (h : ∀ a, FrO S (f a)) : FrO S (oget x f) := by
  cases x with
  | none => exact FrO.none
  | some a => exact h a
section
variable {P : Program} {tt : Nat → Option TI} {T : TW} {E : Env} {S : IS} {nt : Nat} {fr : PT IV} {a : Act} {cl : Cl} {F : Fence} {Q : Exit → Act → World → Prop}
theorem iload_fr {ty : TypeId} {x : IV} : FrO S (iload tt S ty x) := by unfold iload; repeat' (first | exact FrO.none | exact FrO.same | apply FrO.cond | split)
theorem istore_fr {ty : TypeId} {x y : IV} : FrO S (istore tt S ty x y) := by unfold istore; repeat' (first | exact FrO.none | exact FrO.set | apply FrO.cond | split)
theorem ialloc_fr {ty : TypeId} : FrO S (ialloc tt S ty) := by unfold ialloc; repeat' (first | exact FrO.none | exact FrO.new | apply FrO.cond | split)
theorem ibox_fr {v : IV} : FrO S (ibox S v) := FrO.new
theorem ibuild_fr {ty : TypeId} {ps} : FrO S (ibuild tt S ty ps) := by unfold ibuild; repeat' (first | exact FrO.none | exact FrO.same | apply FrO.cond | split)
theorem ibuildSlice_fr {ty n : Nat} {ps} : FrO S (ibuildSlice tt S ty n ps) := by unfold ibuildSlice; repeat' (first | exact FrO.none | exact FrO.new | apply FrO.cond | split)
theorem ifield_fr {ty f : Nat} {x : IV} : FrO S (ifield tt S ty f x) := by unfold ifield; repeat' (first | exact FrO.none | exact FrO.same | apply FrO.cond | split)
theorem iindexAddr_fr {ty : Nat} {x y : IV} : FrO S (iindexAddr tt S ty x y) := by unfold iindexAddr; repeat' (first | exact FrO.none | exact FrO.same | apply FrO.cond | split)
theorem islice_fr {ty : Nat} {lo hi mx : Option IV} {x : IV} : FrO S (islice tt S ty lo hi mx x) := by unfold islice; repeat' (first | exact FrO.none | exact FrO.same | apply FrO.cond | split)
theorem iappend_fr {t1 t2 : Nat} {x y : IV} : FrO S (iappend tt S t1 t2 x y) := by unfold iappend; repeat' (first | exact FrO.none | exact FrO.same | exact FrO.new | exact FrO.set | exact FrO.mv | apply FrO.cond | split)
theorem ilen_fr {ty : Nat} {x : IV} : FrO S (ilen tt S ty x) := by unfold ilen; repeat' (first | exact FrO.none | exact FrO.same | apply FrO.cond | split)
theorem istr_fr {s d : Nat} {x : IV} : FrO S (istr tt S s d x) := by unfold istr; repeat' (first | exact FrO.none | exact FrO.same | apply FrO.cond | split)
theorem ilookup_fr {ty : Nat} {x k : IV} {ok : Bool} : FrO S (ilookup tt S ty x k ok) := by unfold ilookup; repeat' (first | exact FrO.none | exact FrO.same | apply FrO.cond | split)
theorem imapUpdate_fr {ty : Nat} {x k v : IV} : FrO S (imapUpdate tt S ty x k v) := by unfold imapUpdate; repeat' (first | exact FrO.none | exact FrO.set | apply FrO.cond | split)
theorem irange_fr {ty : Nat} {x : IV} : FrO S (irange tt S ty x) := by unfold irange; repeat' (first | exact FrO.none | exact FrO.new | apply FrO.cond | split)
theorem inext_fr {x : IV} {b : Bool} : FrO S (inext S x b) := by unfold inext; repeat' (first | exact FrO.none | exact FrO.same | exact FrO.set | apply FrO.cond | split)
theorem iextract_fr {x : IV} {i : Nat} : FrO S (iextract S i x) := by unfold iextract; repeat' (first | exact FrO.none | exact FrO.same | apply FrO.cond | split)
theorem imakeIface_fr {ty : Nat} {x : IV} : FrO S (imakeIface tt S ty x) := by unfold imakeIface; repeat' (first | exact FrO.none | exact FrO.same | apply FrO.cond | split)
theorem iassert_fr {t1 t2 : Nat} {ok : Bool} {x : IV} : FrO S (iassert tt S t1 t2 ok x) := by unfold iassert; repeat' (first | exact FrO.none | exact FrO.same | apply FrO.cond | split)
theorem icalm_fr {o : Oper} : FrO S (icalm P nt fr S o) := by unfold icalm; repeat' (first | exact FrO.none | exact FrO.same | apply FrO.cond | split)
theorem ibinop_fr {o : Oper} {op : BinOp} {sl : Bool} {x y : IV} : FrO S (ibinop P nt fr S o op sl x y) := by unfold ibinop; repeat' (first | exact FrO.none | exact FrO.same | exact icalm_fr | apply FrO.cond | split)
theorem iop_fr {o : Oper} : FrO S (iop P tt nt fr S o) := by
  unfold iop
  repeat' (first | exact FrO.none | exact FrO.same | exact iload_fr | exact istore_fr | exact ialloc_fr | exact ibox_fr | exact ibuild_fr | exact ibuildSlice_fr | exact ifield_fr | exact iindexAddr_fr | exact islice_fr | exact iappend_fr | exact ilen_fr | exact istr_fr | exact ilookup_fr | exact imapUpdate_fr
                 | exact irange_fr | exact inext_fr | exact iextract_fr | exact imakeIface_fr | exact iassert_fr | exact icalm_fr | exact ibinop_fr | exact FrO.new | (apply FrO.oget; intro _) | apply FrO.cond | split)
theorem istep_fr (hcl : ClFr cl) {o : Oper} : FrO S (istep P tt nt cl fr S o) := by
  unfold istep
  repeat' (first | exact FrO.none | exact hcl _ _ _ | exact iop_fr | (apply FrO.oget; intro _) | split)

/-! ### The course -/
structure Rec : Type 1 where
  fr : PT IV
  S : IS
  v : IV
  rd : Nat
  wr : Nat
  run : Bool
structure Recs : Type 1 where
  l : List Rec
  fr : PT IV
  S : IS
def irecs (P : Program) (tt : Nat → Option TI) (nt : Nat) (cl : Cl) (ops : List Oper) : List Oper → PT IV → IS → Option Recs
  | [], fr, S => some ⟨[], fr, S⟩
  | o :: l, fr, S => cond (wantI ops nt fr o.guard)
    (match istep P tt nt cl fr S o with
    | none => none
    | some r => match irecs P tt nt cl ops l (putD o.dst r.v fr) r.S with
      | none => none
      | some q => some ⟨⟨fr, S, r.v, r.rd, r.wr, true⟩ :: q.l, q.fr, q.S⟩)
    (match irecs P tt nt cl ops l (putD o.dst (.tup []) fr) S with
    | none => none
    | some q => some ⟨⟨fr, S, .tup [], 0, 0, false⟩ :: q.l, q.fr, q.S⟩)
def Recs.frA (q : Recs) (i : Nat) : PT IV := match q.l[i]? with | some r => r.fr | none => q.fr
def Recs.SA (q : Recs) (i : Nat) : IS := match q.l[i]? with | some r => r.S | none => q.S
def Recs.vA (q : Recs) (i : Nat) : IV := match q.l[i]? with | some r => r.v | none => .tup []
def Recs.rdA (q : Recs) (i : Nat) : Nat := match q.l[i]? with | some r => r.rd | none => 0
def Recs.wrA (q : Recs) (i : Nat) : Nat := match q.l[i]? with | some r => r.wr | none => 0
def Recs.runA (q : Recs) (i : Nat) : Bool := match q.l[i]? with | some r => r.run | none => false
theorem irecs_spec (hcl : ClFr cl) {ops : List Oper} : ∀ {l : List Oper} {fr : PT IV} {S : IS} {q : Recs}, irecs P tt nt cl ops l fr S = some q → q.l.length = l.length ∧ q.frA 0 = fr ∧ q.SA 0 = S ∧
    ∀ i o, l[i]? = some o → q.runA i = wantI ops nt (q.frA i) o.guard ∧ (q.runA i = true → istep P tt nt cl (q.frA i) (q.SA i) o = some ⟨q.vA i, q.SA (i + 1), q.rdA i, q.wrA i⟩) ∧
      (q.runA i = false → q.vA i = .tup [] ∧ q.SA (i + 1) = q.SA i) ∧ q.frA (i + 1) = putD o.dst (q.vA i) (q.frA i)
  | [], fr, S, q, h => by cases h; exact ⟨rfl, rfl, rfl, fun i o h => by simp at h⟩
  | o :: l, fr, S, q, h => by
    unfold irecs at h
    cases hw : wantI ops nt fr o.guard with
    | true =>
      rw [hw, cond_true] at h
      split at h
      · cases h
      rename_i r hr
      split at h <;> cases h
      rename_i q hq
      obtain ⟨h1, h2, h3, h4⟩ := irecs_spec hcl hq
      refine ⟨by simp [h1], rfl, rfl, fun i o' ho => ?_⟩
      cases i with
      | zero =>
        simp only [List.getElem?_cons_zero, Option.some.injEq] at ho
        subst ho
        have e1 : (Recs.mk (⟨fr, S, r.v, r.rd, r.wr, true⟩ :: q.l) q.fr q.S).SA 1 = r.S := h3
        have e2 : (Recs.mk (⟨fr, S, r.v, r.rd, r.wr, true⟩ :: q.l) q.fr q.S).frA 1 = putD o.dst r.v fr := h2
        refine ⟨hw.symm, fun _ => ?_, fun h => absurd (show true = false from h) (by simp), e2⟩
        show istep P tt nt cl fr S o = some ⟨r.v, _, r.rd, r.wr⟩
        rw [e1]; exact hr
      | succ i => exact h4 i o' (by simpa using ho)
    | false =>
      rw [hw, cond_false] at h
      split at h <;> cases h
      rename_i q hq
      obtain ⟨h1, h2, h3, h4⟩ := irecs_spec hcl hq
      refine ⟨by simp [h1], rfl, rfl, fun i o' ho => ?_⟩
      cases i with
      | zero =>
        simp only [List.getElem?_cons_zero, Option.some.injEq] at ho
        subst ho
        have e1 : (Recs.mk (⟨fr, S, .tup [], 0, 0, false⟩ :: q.l) q.fr q.S).SA 1 = S := h3
        have e2 : (Recs.mk (⟨fr, S, .tup [], 0, 0, false⟩ :: q.l) q.fr q.S).frA 1 = putD o.dst (.tup []) fr := h2
        exact ⟨hw.symm, fun h => absurd (show false = true from h) (by simp), fun _ => ⟨rfl, e1⟩, e2⟩
      | succ i => exact h4 i o' (by simpa using ho)

/-! ### The check of the order -/
def befOf (o : Oper) (acc : List Nat) : Nat := o.after.toList.foldl (fun s e => cond (Region.binds .any e) (s ||| 2 ^ e.on ||| acc.getD e.on 0) s) 0
def befs : List Oper → List Nat → List Nat
  | [], acc => acc
  | o :: l, acc => befs l (acc ++ [befOf o acc])
theorem befOf_spec {o : Oper} {acc : List Nat} {j : Nat} (h : (befOf o acc).testBit j = true) : ∃ e, e ∈ o.after ∧ Region.binds .any e = true ∧ (j = e.on ∨ (acc.getD e.on 0).testBit j = true) := by
  have : ∀ (l : List Edge) (s : Nat), (l.foldl (fun s e => cond (Region.binds .any e) (s ||| 2 ^ e.on ||| acc.getD e.on 0) s) s).testBit j = true → s.testBit j = true ∨ ∃ e, e ∈ l ∧ Region.binds .any e = true ∧ (j = e.on ∨ (acc.getD e.on 0).testBit j = true) := by
    intro l
    induction l with
    | nil => intro s h; exact .inl h
    | cons e l ih =>
      intro s h
      rcases ih _ h with h1 | ⟨e', h1, h2, h3⟩
      · dsimp only at h1
        cases hb : Region.binds .any e with
        | false => rw [hb, cond_false] at h1; exact .inl h1
        | true =>
          rw [hb, cond_true] at h1
          simp only [Nat.testBit_or, Bool.or_eq_true] at h1
          rcases h1 with (h1 | h1) | h1
          · exact .inl h1
          · refine .inr ⟨e, List.mem_cons_self, hb, .inl ?_⟩
            rw [Nat.testBit_two_pow] at h1
            exact (of_decide_eq_true h1).symm
          · exact .inr ⟨e, List.mem_cons_self, hb, .inr h1⟩
      · exact .inr ⟨e', List.mem_cons_of_mem _ h1, h2, h3⟩
  rcases this _ _ h with h | ⟨e, h1, h2⟩
  · simp at h
  · exact ⟨e, Array.mem_toList_iff.1 h1, h2⟩
theorem befs_spec : ∀ (l : List Oper) (acc : List Nat), (∀ i, i < acc.length → (befs l acc).getD i 0 = acc.getD i 0) ∧ (befs l acc).length = acc.length + l.length ∧
    ∀ i o, l[i]? = some o → (befs l acc).getD (acc.length + i) 0 = befOf o ((befs l acc).take (acc.length + i))
  | [], acc => ⟨fun _ _ => rfl, by simp [befs], fun i o h => by simp at h⟩
  | o :: l, acc => by
    obtain ⟨h1, h2, h3⟩ := befs_spec l (acc ++ [befOf o acc])
    unfold befs
    have hl : (acc ++ [befOf o acc]).length = acc.length + 1 := by simp
    refine ⟨fun i hi => ?_, by rw [h2, hl]; simp; omega, fun i o' ho => ?_⟩
    · rw [h1 i (by omega)]
      simp [List.getD_eq_getElem?_getD, List.getElem?_append_left hi]
    · cases i with
      | zero =>
        simp only [List.getElem?_cons_zero, Option.some.injEq] at ho
        subst ho
        rw [Nat.add_zero, h1 acc.length (by omega)]
        have e : (befs l (acc ++ [befOf o acc])).take acc.length = acc := by
          apply List.ext_getElem?
          intro i
          rw [List.getElem?_take]
          by_cases hi : i < acc.length
          · rw [if_pos hi]
            have := h1 i (by omega)
            simp only [List.getD_eq_getElem?_getD] at this
            rw [List.getElem?_eq_getElem (by omega), List.getElem?_append_left hi, List.getElem?_eq_getElem hi] at this
            rw [List.getElem?_eq_getElem (by omega), List.getElem?_eq_getElem hi]
            simpa using this
          · rw [if_neg hi, List.getElem?_eq_none (by omega)]
        rw [e]; simp [List.getD_eq_getElem?_getD]
      | succ i =>
        have := h3 i o' (by simpa using ho)
        rw [hl] at this
        rw [show acc.length + (i + 1) = acc.length + 1 + i by omega]
        exact this
/-- What may be seen in the operations alone: edges go back; what is not ordered reads and writes other slots. -/
def regOK (ops : List Oper) : Bool :=
  (ops.zipIdx.all fun p => p.1.after.toList.all fun e => !Region.binds .any e || Nat.blt e.on p.2) &&
  (ops.zipIdx.all fun p => ops.zipIdx.all fun q => !Nat.blt q.2 p.2 || ((befs ops []).getD p.2 0).testBit q.2 || q.1.apart ops.toArray p.1)
def pairOK (b rd wf : Nat) : List (Nat × Nat) → Nat → Bool
  | [], _ => true
  | x :: l, i => cond (b.testBit i) (pairOK b rd wf l (i + 1)) (Nat.beq (x.2 &&& (rd ||| wf)) 0 && Nat.beq (x.1 &&& wf) 0 && pairOK b rd wf l (i + 1))
theorem and_zero {a b : Nat} (h : a &&& b = 0) (i : Nat) (ha : a.testBit i = true) : b.testBit i = false := by
  have : (a &&& b).testBit i = false := by rw [h]; simp
  rw [Nat.testBit_and, ha] at this; simpa using this
theorem pairOK_spec {b rd wf : Nat} : ∀ {l : List (Nat × Nat)} {k : Nat}, pairOK b rd wf l k = true → ∀ i x, l[i]? = some x → b.testBit (k + i) = false → (x.2 &&& (rd ||| wf) = 0) ∧ (x.1 &&& wf = 0)
  | [], k, h, i, x, hx, hb => by simp at hx
  | y :: l, k, h, i, x, hx, hb => by
    unfold pairOK at h
    have hrest : pairOK b rd wf l (k + 1) = true := by
      cases hc : b.testBit k with
      | true => rw [hc, cond_true] at h; exact h
      | false => rw [hc, cond_false] at h; simp only [Bool.and_eq_true] at h; exact h.2
    cases i with
    | zero =>
      simp only [List.getElem?_cons_zero, Option.some.injEq] at hx
      subst hx
      rw [Nat.add_zero] at hb
      rw [hb, cond_false] at h
      simp only [Bool.and_eq_true] at h
      exact ⟨Nat.eq_of_beq_eq_true h.1.1, Nat.eq_of_beq_eq_true h.1.2⟩
    | succ i => exact pairOK_spec hrest i x (by simpa using hx) (by rw [show k + 1 + i = k + (i + 1) by omega]; exact hb)
def newBits (n n' : Nat) : Nat := 2 ^ n' - 2 ^ n
def headS (l : List Rec) (S : IS) : IS := match l with | [] => S | q :: _ => q.S
def ichk : List Rec → IS → List Nat → List (Nat × Nat) → Bool
  | [], _, _, _ => true
  | r :: l, S, bs, acc =>
    let n' := (headS l S).next
    let wf := r.wr ||| newBits r.S.next n'
    Nat.ble r.S.next n' && Nat.blt r.rd (2 ^ r.S.next) && Nat.blt r.wr (2 ^ r.S.next) && pairOK (bs.headD 0) r.rd wf acc 0 && ichk l S bs.tail (acc ++ [(r.rd, wf)])
end
end Go.Ix
