/- The interpreter's calls, closed; what it finds, the machine finds. -/
import Derived.Test.YtcnhjofpmpipfaaIxo
set_option linter.unusedVariables false
namespace Go.Ix
open Go Go.Sx Go.RowKit
universe u

/-! ### What code leaves alone -/
def FrX (S S' : IS) (wr : Nat) : Prop := S.next ≤ S'.next ∧ ∀ id, id < S.next → wr.testBit id = false → S'.H id = S.H id
theorem FrX.refl (S : IS) (wr : Nat) : FrX S S wr := ⟨Nat.le_refl _, fun _ _ _ => rfl⟩
theorem FrX.trans {S S1 S2 : IS} {w1 w2 : Nat} (h : FrX S S1 w1) (k : FrX S1 S2 w2) : FrX S S2 (w1 ||| w2) :=
  ⟨Nat.le_trans h.1 k.1, fun id hid hb => by
    simp only [Nat.testBit_or, Bool.or_eq_false_iff] at hb
    rw [k.2 id (Nat.lt_of_lt_of_le hid h.1) hb.2, h.2 id hid hb.1]⟩
theorem FrX.set (S : IS) (id : Nat) (o : IObj) : FrX S (S.set id o) (2 ^ id) :=
  ⟨Nat.le_refl _, fun k hk hb => by rw [IS.H_set, up_ne _ _ (bit_ne hb)]⟩
theorem FrX.new (S : IS) (o : IObj) (wr : Nat) : FrX S (S.new o) wr :=
  ⟨Nat.le_succ _, fun k hk hb => by rw [IS.H_new, up_ne _ _ (by omega)]⟩
theorem FrX.newTrans {S S' : IS} {o : IObj} {wr : Nat} (k : FrX (S.new o) S' wr) : FrX S S' wr := by
  have := (FrX.new S o 0).trans k
  rwa [Nat.zero_or] at this
theorem FrX.comm {S S' : IS} {a b : Nat} (h : FrX S S' (a ||| b)) : FrX S S' (b ||| a) := by rwa [Nat.or_comm]
section
variable {P : Program} {tt : Nat → Option TI} {T : TW} {nt lf : Nat} {cl : Cl} {F : Fence} {round : Option Nat}
theorem iseq_fr (hcl : ClFr cl) {ops : List Oper} : ∀ {l : List Oper} {fr : PT IV} {S : IS} {q : FRes}, iseq P tt nt cl ops l fr S = some q → FrX S q.S q.wr
  | [], fr, S, q, h => by cases h; exact FrX.refl _ _
  | o :: l, fr, S, q, h => by
    unfold iseq at h
    cases hw : wantI ops nt fr o.guard with
    | true =>
      rw [hw, cond_true] at h
      split at h
      · cases h
      rename_i r hr
      split at h <;> cases h
      rename_i q hq
      exact FrX.trans (istep_fr hcl _ hr) (iseq_fr hcl hq)
    | false => rw [hw, cond_false] at h; exact iseq_fr hcl h
theorem irecs_fr (hcl : ClFr cl) {ops : List Oper} : ∀ {l : List Oper} {fr : PT IV} {S : IS} {q : Recs}, irecs P tt nt cl ops l fr S = some q → FrX S q.S (orWr q.l)
  | [], fr, S, q, h => by cases h; exact FrX.refl _ _
  | o :: l, fr, S, q, h => by
    unfold irecs at h
    cases hw : wantI ops nt fr o.guard with
    | true =>
      rw [hw, cond_true] at h
      split at h
      · cases h
      rename_i r hr
      split at h <;> cases h
      rename_i q hq
      exact FrX.trans (istep_fr hcl _ hr) (irecs_fr hcl hq)
    | false =>
      rw [hw, cond_false] at h
      split at h <;> cases h
      rename_i q hq
      have := irecs_fr hcl hq
      show FrX S q.S (0 ||| orWr q.l)
      rw [Nat.zero_or]; exact this
theorem iany_fr (hcl : ClFr cl) {ops : List Oper} {fr : PT IV} {S : IS} {q : FRes} (h : iany P tt nt cl ops fr S = some q) : FrX S q.S q.wr := by
  unfold iany at h
  split at h
  · cases h
  rename_i q0 hq
  cases hc : ichk q0.l q0.S (befs ops []) [] with
  | true => rw [hc, cond_true] at h; cases h; exact irecs_fr hcl hq
  | false => rw [hc] at h; cases h
theorem ifin_fr (hcl : ClFr cl) {f : Nat} {caps : List IV} {S : IS} {id : Nat} {fr : PT IV} {ds : List Nat} {rd : Nat} {r : CRes} (h : ifin cl f caps S id fr ds rd = some r) : FrX S r.S r.wr := by
  unfold ifin at h
  split at h
  · cases h
  rename_i r1 hr1
  have h1 : FrX S r1.S r1.wr := hcl _ _ _ _ hr1
  split at h <;> try cases h
  split at h
  · cases h
  · split at h
    · cases h; exact FrX.trans h1 (FrX.set _ _ _)
    · split at h <;> cases h
      exact FrX.trans h1 (FrX.set _ _ _)
theorem icode_fr (hcl : ClFr cl) : ∀ (c : Code) {fr : PT IV} {S : IS} {ds : List Nat} {r : CRes}, icode P tt nt cl lf round c fr S ds = some r → FrX S r.S r.wr := by
  intro c
  induction c with
  | skip => intro fr S ds r h; cases h; exact FrX.refl _ _
  | label l => intro fr S ds r h; cases h; exact FrX.refl _ _
  | exit id => intro fr S ds r h; cases h; exact FrX.refl _ _
  | goto l => intro fr S ds r h; cases h; exact FrX.refl _ _
  | ret => intro fr S ds r h; cases h; exact FrX.refl _ _
  | refuse _ => intro fr S ds r h; cases h
  | region id ops draw =>
    intro fr S ds r h
    simp only [icode] at h
    split at h <;> cases h
    rename_i q hq
    cases draw with
    | true => rw [cond_true] at hq; exact iany_fr hcl hq
    | false => rw [cond_false] at hq; exact iseq_fr hcl hq
  | seq x y ihx ihy =>
    intro fr S ds r h
    simp only [icode] at h
    split at h
    · cases h
    rename_i r1 hr1
    split at h
    · split at h <;> cases h
      rename_i q hq
      exact FrX.trans (ihx hr1) (ihy hq)
    · cases h; exact ihx hr1
  | cond c x y ihx ihy =>
    intro fr S ds r h
    simp only [icode] at h
    split at h <;> try cases h
    rename_i b hb
    cases b with
    | true => exact ihx h
    | false => exact ihy h
  | block id c ih =>
    intro fr S ds r h
    simp only [icode] at h
    split at h
    · cases h
    rename_i r1 hr1
    split at h
    · rename_i id' he
      cases hid : Nat.beq id' id with
      | true => rw [hid, cond_true] at h; cases h; exact (ih hr1 : FrX S r1.S r1.wr)
      | false => rw [hid, cond_false] at h; cases h; exact ih hr1
    · cases h; exact ih hr1
  | scope c ih =>
    intro fr S ds r h
    simp only [icode] at h
    split at h
    · cases h
    rename_i r1 hr1
    split at h
    · cases h
    · cases h; exact ih hr1
  | loop c ih =>
    intro fr S ds r h
    simp only [icode] at h
    have key : ∀ (j : Nat) (fr : PT IV) (S : IS) (ds : List Nat) (r : CRes), iiter (icode P tt nt cl lf round c) j fr S ds = some r → FrX S r.S r.wr := by
      intro j
      induction j with
      | zero => intro fr S ds r h; cases h
      | succ j ihj =>
        intro fr S ds r h
        unfold iiter at h
        split at h
        · cases h
        rename_i r1 hr1
        split at h
        · split at h <;> cases h
          rename_i q hq
          exact FrX.trans (ih hr1) (ihj _ _ _ _ hq)
        · cases h; exact ih hr1
    exact key _ _ _ _ _ h
  | rangeFunc g ps assign body ih1 ih2 =>
    intro fr S ds r h
    simp only [icode] at h
    split at h <;> try cases h
    split at h
    · exact FrX.newTrans (FrX.newTrans (ifin_fr hcl h))
    · split at h <;> try cases h
      exact FrX.newTrans (ifin_fr hcl h)

/-! ### Rounds -/
def setPs : List Nat → List IV → PT IV → PT IV
  | t :: ts, v :: vs, fr => setPs ts vs (fr.set v t)
  | _, _, fr => fr
theorem setPs_FR {E : Env} : ∀ {ps : List Nat} {vs : List IV} {us : List Value} {fr : PT IV} {tmps : Array Value}, VRs E vs us → FR E nt fr tmps → FR E nt (setPs ps vs fr) ((ps.zip us).foldl (fun tmps (t, a) => tmps.setIfInBounds t a) tmps)
  | [], vs, us, fr, tmps, hv, hf => by simpa [setPs] using hf
  | t :: ps, [], us, fr, tmps, hv, hf => by
    have := hv.1
    cases us with
    | nil => simpa [setPs] using hf
    | cons u us => simp at this
  | t :: ps, v :: vs, us, fr, tmps, hv, hf => by
    obtain ⟨u, us, rfl, h1, h2⟩ := hv.inv
    simp only [setPs, List.zip_cons_cons, List.foldl_cons]
    exact setPs_FR h2 (hf.put h1)
def endOf : IEx → Option Code
  | .normal => none
  | .ret => some .ret
  | .exit id => some (.exit id)
  | .goto l => some (.goto l)
def iround (P : Program) (tt : Nat → Option TI) (cl : Cl) (lf : Nat) (id : Nat) (vs : List IV) (S : IS) : Option Res :=
  match S.heap.get id with
  | some (.loop .ready _ nt fr ps assign body _) => cond (Nat.beq vs.length ps.length && codeOK assign && codeOK body)
    (match icode P tt nt cl lf (some id) assign (setPs ps vs fr) S [] with
    | none => none
    | some r1 => match r1.e with
      | .normal => match r1.S.heap.get id with
        | some (.loop .ready pend nt2 fr2 ps2 as2 bd2 D2) => match icode P tt nt cl lf (some id) body r1.fr (r1.S.set id (.loop .busy pend nt2 fr2 ps2 as2 bd2 D2)) r1.ds with
          | none => none
          | some r2 => match r2.S.heap.get id with
            | some (.loop _ _ nt3 fr3 ps3 as3 bd3 D3) => some ⟨.bool (endOf r2.e).isNone, r2.S.set id (.loop (if (endOf r2.e).isNone then .ready else .done) (endOf r2.e) nt3 fr3 ps3 as3 bd3 D3), 2 ^ id ||| (r1.rd ||| r2.rd), (r1.wr ||| 2 ^ id) ||| (r2.wr ||| 2 ^ id)⟩
            | _ => none
        | _ => none
      | _ => none) none
  | _ => none
theorem iround_fr (hcl : ClFr cl) {id : Nat} {vs : List IV} {S : IS} : FrO S (iround P tt cl lf id vs S) := by
  intro r h
  unfold iround at h
  split at h <;> try cases h
  rename_i x nt fr ps assign body y hobj
  cases hb : (Nat.beq vs.length ps.length && codeOK assign && codeOK body) with
  | false => rw [hb] at h; cases h
  | true =>
  rw [hb, cond_true] at h
  split at h
  · cases h
  rename_i r1 hr1
  split at h <;> try cases h
  split at h <;> try cases h
  split at h
  · cases h
  rename_i r2 hr2
  split at h <;> cases h
  exact FrX.trans (FrX.trans (icode_fr hcl _ hr1) (FrX.set _ _ _)) (FrX.trans (icode_fr hcl _ hr2) (FrX.set _ _ _))
theorem iround_sound (hm : P.follows .mixedOrders = true) (hcl : ClOK P cl) (hfr : ClFr cl) (htt : TT P tt) {id : Nat} {vs : List IV} {S : IS} {r : Res} (h : iround P tt cl lf id vs S = some r)
    (T : TW) (E : Env) (us : List Value) (p : Pre T E S) (hrd : tin T.r r.rd) (hwr : tin T.w r.wr) (hv : VRs E vs us) (hA : E.A id) : YieldAt Fence.wide 0 P (E.ρ id) us.toArray E.w (RetE T E S r) := by
  unfold iround at h
  split at h <;> try cases h
  rename_i pd nt fr ps assign body D hobj
  cases hb : (Nat.beq vs.length ps.length && codeOK assign && codeOK body) with
  | false => rw [hb] at h; cases h
  | true =>
  rw [hb, cond_true] at h
  simp only [Bool.and_eq_true] at hb
  obtain ⟨⟨hb1, hb2⟩, hb3⟩ := hb
  have hlen := Nat.eq_of_beq_eq_true hb1
  split at h
  · cases h
  rename_i r1 hr1
  split at h <;> try cases h
  rename_i he1
  split at h <;> try cases h
  rename_i pend nt2 fr2 ps2 as2 bd2 D2 hobj1
  split at h
  · cases h
  rename_i r2 hr2
  split at h <;> cases h
  rename_i st3 pd3 nt3 fr3 ps3 as3 bd3 D3 hobj2
  obtain ⟨t1, t2⟩ := tin_or hrd
  obtain ⟨t3, t4⟩ := tin_or t2
  obtain ⟨v1, v2⟩ := tin_or hwr
  obtain ⟨v3, v4⟩ := tin_or v1
  obtain ⟨v5, _⟩ := tin_or v2
  obtain ⟨fn, tmps, g1, g2, g3⟩ := p.st.objs id (tin_bit t1) hA _ hobj
  have hy := run_yield (P := P) (args := us.toArray) g1 (by simp only [List.size_toArray]; rw [← hv.1, hlen])
  have hz : (ps.toArray.zip us.toArray).foldl (fun tmps (t, a) => tmps.setIfInBounds t a) tmps = (ps.zip us).foldl (fun tmps (t, a) => tmps.setIfInBounds t a) tmps := by
    simp [List.zip_toArray]
  refine ⟨fn, _, assign, body, hy, roundIn_of_wpIn trivial ?_⟩
  have hFp : (Fence.wide.inRound (E.ρ id)).plain = Fence.wide := rfl
  refine icode_sound (T := T) (E := E) (a := { tmps := _, defers := [] }) (S := S) (ds := []) (round := some id) hm hFp hcl hfr htt assign hb2 p ?_ ⟨rfl, fun D hD => by cases hD⟩ ⟨rfl, hA⟩ hr1 t3 v3 ?_
  · have := setPs_FR (ps := ps) hv g2
    rw [← hz] at this; exact this
  intro E1 a1 k1 k2 k3 k4
  rw [he1]
  have p1 := k3.pre p
  have hle1 := k3.env p
  obtain ⟨a1', a2', a3'⟩ := hle1.alw id hA
  obtain ⟨fn1, tmps1, g1', g2', g3'⟩ := p1.st.objs id (tin_bit t1) a1' _ hobj1
  rw [a2'] at g1'
  have hbg := run_beginRound (P := P) g1' rfl
  have hL : Live r1.S.H id := ⟨_, hobj1, rfl⟩
  have hu1 : Upd [E1.ρ id] E1.w (E1.w.putObj (E.ρ id) (.loop { state := .busy, pending := pend, fn := fn1, tmps := tmps1, params := ps2.toArray, assign := as2, body := bd2, defers := E1.ρ D2 })) := by rw [a2']; exact Upd.putObj _ _ _
  obtain ⟨q1, q2⟩ := Post.write p1 (o' := .loop .busy pend nt2 fr2 ps2 as2 bd2 D2) (tin_bit v4) a1' hL hu1
    ⟨fn1, tmps1, by
      rw [show (E1.at_ (E1.w.putObj (E.ρ id) (.loop { state := .busy, pending := pend, fn := fn1, tmps := tmps1, params := ps2.toArray, assign := as2, body := bd2, defers := E1.ρ D2 }))).ρ id = E.ρ id from a2']
      exact World.putObj_heap_same (heap_lt g1'), FR.mono (Env.at_le p1.st (tin_bit v4) a1' hL hu1) g2', g3'⟩
  have p2 := q1.pre p1
  have hle2 := q1.env p1
  have q3 := Post.trans p k3 k4 q1
  have q4 := k4.trans q2 k3.le
  refine ⟨_, hbg, ?_⟩
  obtain ⟨E2, hE2⟩ : ∃ E2, E1.at_ (E1.w.putObj (E.ρ id) (.loop { state := .busy, pending := pend, fn := fn1, tmps := tmps1, params := ps2.toArray, assign := as2, body := bd2, defers := E1.ρ D2 })) = E2 := ⟨_, rfl⟩
  have hw2 : E1.w.putObj (E.ρ id) (.loop { state := .busy, pending := pend, fn := fn1, tmps := tmps1, params := ps2.toArray, assign := as2, body := bd2, defers := E1.ρ D2 }) = E2.w := by rw [← hE2]; rfl
  have hleE2 : E.Le E2 := by rw [← hE2]; exact hle1.trans hle2
  rw [hE2] at p2 hle2 q3 q4
  show body.wpIn _ 0 P _ a1 (E1.w.putObj (E.ρ id) (.loop { state := .busy, pending := pend, fn := fn1, tmps := tmps1, params := ps2.toArray, assign := as2, body := bd2, defers := E1.ρ D2 }))
  rw [hw2]
  obtain ⟨b1, b2, b3⟩ := hleE2.alw id hA
  refine icode_sound (T := T) (E := E2) (a := a1) (round := some id) hm hFp hcl hfr htt body hb3 p2 (k1.mono hle2) (k2.mono hle2) ⟨by show some (E.ρ id) = some (E2.ρ id); rw [b2], b1⟩ hr2 t4 v5 ?_
  intro E3 a3 m1 m2 m3 m4
  have p3 := m3.pre p2
  have hle3 := hleE2.trans (m3.env p2)
  obtain ⟨c1, c2, c3⟩ := hle3.alw id hA
  obtain ⟨fn3, tmps3, g13, g23, g33⟩ := p3.st.objs id (tin_bit t1) c1 _ hobj2
  rw [c2] at g13
  have hend := fun j => run_endRound (P := P) j g13
  have hL3 : Live r2.S.H id := ⟨_, hobj2, rfl⟩
  have q5 := Post.trans p q3 q4 m3
  have q6 := q4.trans m4 q3.le
  have fin : ∀ (st : LoopState) (pe : Option Code), RetE T E S ⟨.bool pe.isNone, r2.S.set id (.loop st pe nt3 fr3 ps3 as3 bd3 D3), 2 ^ id ||| (r1.rd ||| r2.rd), (r1.wr ||| 2 ^ id) ||| (r2.wr ||| 2 ^ id)⟩ (.returned (.bool pe.isNone)) (E3.w.putObj (E.ρ id) (.loop { state := st, pending := pe, fn := fn3, tmps := tmps3, params := ps3.toArray, assign := as3, body := bd3, defers := E3.ρ D3 })) := fun st pe => by
    have hu3 : Upd [E3.ρ id] E3.w (E3.w.putObj (E.ρ id) (.loop { state := st, pending := pe, fn := fn3, tmps := tmps3, params := ps3.toArray, assign := as3, body := bd3, defers := E3.ρ D3 })) := by rw [c2]; exact Upd.putObj _ _ _
    obtain ⟨z1, z2⟩ := Post.write p3 (o' := .loop st pe nt3 fr3 ps3 as3 bd3 D3) (tin_bit v4) c1 hL3 hu3
      ⟨fn3, tmps3, by
        rw [show (E3.at_ (E3.w.putObj (E.ρ id) (.loop { state := st, pending := pe, fn := fn3, tmps := tmps3, params := ps3.toArray, assign := as3, body := bd3, defers := E3.ρ D3 }))).ρ id = E.ρ id from c2]
        exact World.putObj_heap_same (heap_lt g13), FR.mono (Env.at_le p3.st (tin_bit v4) c1 hL3 hu3) g23, g33⟩
    exact ⟨_, _, rfl, rfl, .bool _, Post.trans p q5 q6 z1, q6.trans z2 q5.le⟩
  cases he : r2.e with
  | normal => exact ⟨_, _, hend none, by simpa [he, endOf] using fin .ready none⟩
  | ret => exact ⟨_, _, hend (some .ret), by simpa [he, endOf] using fin .done (some .ret)⟩
  | exit i => exact ⟨_, _, hend (some (.exit i)), by simpa [he, endOf] using fin .done (some (.exit i))⟩
  | goto l => exact ⟨_, _, hend (some (.goto l)), by simpa [he, endOf] using fin .done (some (.goto l))⟩

/-! ### Calls -/
def ileave (tt : Nat → Option TI) (nt : Nat) (res : List ResultVar) (S0 : IS) (r : CRes) : Option Res :=
  match imarks r.ds r.S with
  | none => none
  | some (S', wr) => match ires tt nt r.fr S' res with
    | none => none
    | some (vs, rd) => some (igc S0 ⟨tupI vs, S', r.rd ||| rd, r.wr ||| wr⟩)
def IEx.leaves : IEx → Bool
  | .normal => true
  | .ret => true
  | _ => false
def icall (P : Program) (tt : Nat → Option TI) (ft : Nat → Option FI) (lf : Nat) : Nat → Cl
  | 0, _, _, _ => none
  | n + 1, tgt, vs, S => match tgt with
    | .yield id => iround P tt (icall P tt ft lf n) lf id vs S
    | .fn f => match ft f with
      | none => none
      | some fi => cond (Nat.ble vs.length fi.nt) (match icode P tt fi.nt (icall P tt ft lf n) lf none fi.body (argGo vs 0 .leaf) S [] with
        | none => none
        | some r => cond r.e.leaves (ileave tt fi.nt fi.res S r) none) none
theorem imarks_fr : ∀ {ds : List Nat} {S S' : IS} {wr : Nat}, imarks ds S = some (S', wr) → FrX S S' wr
  | [], S, S', wr, h => by cases h; exact FrX.refl _ _
  | D :: ds, S, S', wr, h => by
    unfold imarks at h
    split at h <;> try cases h
    split at h <;> cases h
    rename_i S' wr hm
    exact FrX.trans (FrX.set _ _ _) (imarks_fr hm)
theorem ileave_fr {res : List ResultVar} {S0 : IS} {r : CRes} (h0 : FrX S0 r.S r.wr) : FrO S0 (ileave tt nt res S0 r) := by
  intro q h
  unfold ileave at h
  split at h
  · cases h
  rename_i S' wr hm
  split at h <;> cases h
  exact igc_fr (FrX.trans h0 (imarks_fr hm))
variable {ft : Nat → Option FI}
theorem icall_fr : ∀ n, ClFr (icall P tt ft lf n)
  | 0 => fun tgt vs S => FrO.none
  | n + 1 => fun tgt vs S => by
    unfold icall
    cases tgt with
    | yield id => exact iround_fr (icall_fr n)
    | fn f =>
      simp only
      split
      · exact FrO.none
      apply FrO.cond
      · split
        · exact FrO.none
        rename_i r hr
        apply FrO.cond
        · exact ileave_fr (icode_fr (icall_fr n) _ hr)
        · exact FrO.none
      · exact FrO.none
theorem icall_ok (hm : P.follows .mixedOrders = true) (htt : TT P tt) (hft : FT P ft) : ∀ n, ClOK P (icall P tt ft lf n)
  | 0 => ⟨fun _ _ _ _ h => (by cases h), fun _ _ _ _ h => (by cases h)⟩
  | n + 1 => by
    refine ⟨fun f vs S r h T E us p hrd hwr hv => ?_, fun id vs S r h T E us p hrd hwr hv hA => ?_⟩
    · unfold icall at h
      simp only at h
      split at h
      · cases h
      rename_i fi hfi
      cases hb : Nat.ble vs.length fi.nt with
      | false => rw [hb] at h; cases h
      | true =>
      rw [hb, cond_true] at h
      split at h
      · cases h
      rename_i r1 hr1
      cases hl : r1.e.leaves with
      | false => rw [hl] at h; cases h
      | true =>
      rw [hl, cond_true] at h
      unfold ileave at h
      split at h
      · cases h
      rename_i S' wr hmk
      split at h <;> cases h
      rename_i vs' rd' hres
      obtain ⟨fn, f1, f2, f3, f4, f5, f6⟩ := hft f fi hfi
      refine ⟨⟨fn, f1, by rw [f2]; rfl, f5⟩, ?_⟩
      obtain ⟨T', p', t1, t2, hback⟩ := igc_sound p hrd hwr
      obtain ⟨u1, u2⟩ := tin_or t1
      obtain ⟨u3, u4⟩ := tin_or t2
      refine callsIn_of_wp_marks f1 f2 trivial ?_
      refine icode_sound (T := T') (E := E) (S := S) (ds := []) (round := none) hm rfl (icall_ok hm htt hft n) (icall_fr n) htt fi.body f6 p' ?_ ⟨rfl, fun D hD => by cases hD⟩ rfl hr1 u1 u3 ?_
      · have := FR.enter (nt := fi.nt) hv (Nat.le_of_ble_eq_true hb)
        rw [f3]; exact this
      intro E1 a1 k1 k2 k3 k4
      have hlv : LeavesInM Fence.wide 0 P fn a1.tmps (RetE T E S (igc S ⟨tupI vs', S', r1.rd ||| rd', r1.wr ||| wr⟩)) a1.defers .returning E1.w := by
        refine marks_sound (k3.pre p') k2 hmk u4 fun E2 m1 m2 => ?_
        have p2 := m1.pre (k3.pre p')
        obtain ⟨us', h1, h2⟩ := ires_run htt p2 (k1.mono (m1.env (k3.pre p'))) hres u2
        have h3 := results_run (P := P) (w := E2.w) f4 h1
        refine ⟨tupOf us', h3, ?_⟩
        exact hback _ _ ⟨_, E2, rfl, rfl, tup_rel h2, Post.trans p' k3 k4 m1, k4.trans m2 k3.le⟩
      cases he : r1.e with
      | normal => rw [he] at *; exact hlv
      | ret => exact hlv
      | exit i => rw [he] at hl; cases hl
      | goto l => rw [he] at hl; cases hl
    · unfold icall at h
      simp only at h
      exact iround_sound hm (icall_ok hm htt hft n) (icall_fr n) htt h T E us p hrd hwr hv hA

/-! ### A call in any world -/
/-- What the values are that hold no blocks. -/
inductive Plain : IV → Value → Prop
  | bool (b : Bool) : Plain (.bool b) (.bool b)
  | int (k : IntKind) (n : Int) : Plain (.int k n) (.int k n)
  | str (s : ByteArray) : Plain (.str s) (.string s)
  | nil : Plain (.tup []) (.tuple #[])
theorem Plain.of {E : Env} {v : IV} {u u' : Value} (h : Plain v u) (k : VR E v u') : u' = u := by
  cases h <;> cases k
  · rfl
  · rfl
  · rfl
  · rename_i us hl hh
    cases us with
    | nil => rfl
    | cons _ _ => simp at hl
def S0 : IS := ⟨.leaf, 0⟩
def E0 (w : World) : Env := ⟨fun _ => 0, fun _ => 0, fun _ => False, [], w⟩
def T0 : TW := ⟨fun _ => True, fun _ => True, fun _ h => h⟩
theorem pre0 (w : World) : Pre T0 (E0 w) S0 :=
  ⟨⟨fun id _ h => h.elim, fun id _ h => h.elim, fun i j _ _ h => h.elim, fun b h => by cases h⟩, fun id h => h.elim, fun id _ => trivial⟩
theorem icall_closed (hm : P.follows .mixedOrders = true) (htt : TT P tt) (hft : FT P ft) {n f : Nat} {r : Res} {u : Value} (h : icall P tt ft lf n (.fn f) [] S0 = some r) (hu : Plain r.v u) (w : World) :
    Callable P f ∧ Calls P f #[] w (Ret fun v w' => v = u ∧ Upd [] w w') := by
  obtain ⟨h1, h2⟩ := (icall_ok (lf := lf) hm htt hft n).fn f [] S0 r h T0 (E0 w) [] (pre0 w) (fun _ _ => trivial) (fun _ _ => trivial) VRs.nil
  refine ⟨h1, (callsIn_wide.1 h2).mono fun e w' hR => ?_⟩
  obtain ⟨v, E', rfl, rfl, k1, k2, k3⟩ := hR
  exact ⟨hu.of k1, k2.stp.os, k2.stp.tape, k2.stp.output, k2.stp.size, fun b hb _ => k2.stp.same b hb fun id _ hA _ => hA.elim⟩
end
end Go.Ix
