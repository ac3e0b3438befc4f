/- Texts: Jn, Jo, Jp, Jq, Jr, Js, Jt, Jrd, Jrw, Jtab, Xty, Xrd, Ju, Jw, Jv, Jy. -/
import Derived.Test.YtanenikkloolfaaGreatDoorMx2
import Derived.RangeFuncLeaves
import Derived.RangeFuncNested
import Derived.Scope
import Derived.SizedLaws
import Derived.ProofKit
import Derived.Deep.Slices
import Derived.Lib.SmallJoins
import Derived.Carry
import Derived.Test.YtanenikkloolfaaGreatDoorProg
import Derived.KernelRfl
import Derived.Test.YtanenikkloolfaaGreatDoorRows
import Derived.OpenShut
import Derived.LaidMore
import Derived.Lay
set_option linter.unusedVariables false
section
namespace Go.Jx
open Go Go.Sx Go.RowKit
universe u

section
variable {F : Fence} {n : Nat} {P : Program} {Q : Exit -> Act -> World -> Prop} {a : Act} {w : World}
theorem qe8 {b : Frame} {k : List Item} {cs : List Frame} {c : Code} : step P (lone (b.atR a (.code (.scope c) :: k)) cs w) = .next (lone (b.atR a (.code c :: .inScope c :: k)) cs w) :=
 step_lone_go (by simp [stepG, stepG.exec, Frame.atR])
theorem q1i {b : Frame} {k : List Item} {cs : List Frame} {c : Code} : step P (lone (b.atR a (.inScope c :: k)) cs w) = .next (lone (b.atR a k) cs w) :=
 step_lone_go (by simp [stepG, stepG.exec, Frame.atR])
theorem qy3 {c : Code} (h : c.wpIn F n P (Exit.noGoto Q) a w) : (Code.scope c).wpIn F n P Q a w := by
 intro b k cs hro hb hr
 have h0 : (lone (b.atR a (.code (.scope c) :: k)) cs w).fenced P F := fenced_calm hb hr rfl
 obtain ⟨e, a₁, w₁, hq, harr⟩ := h b (.inScope c :: k) cs hro hb hr
 cases e with
 | normal => exact ⟨.normal, a₁, w₁, hq, .head h0 qe8 (StepsIn.trans harr (.one (fenced_calm hb hr rfl) q1i))⟩
 | exit id' =>
   have hx : exitTo id' (.inScope c :: k) = exitTo id' k := by simp [exitTo]
   exact ⟨.exit id', a₁, w₁, hq, fun k' hk => .head h0 qe8 (harr.1 k' (by rw [hx]; exact hk)),
     fun hr' hk => let ⟨k₁, h1, h2⟩ := harr.2 hr' (by rw [hx]; exact hk); ⟨k₁, h1, .head h0 qe8 h2⟩⟩
 | goto l => exact hq.elim
 | ret => exact ⟨_, a₁, w₁, hq, .of_steps (.one h0 qe8) harr⟩
 | panic ch => exact ⟨_, a₁, w₁, hq, .of_steps (.one h0 qe8) harr⟩
 | outgrown => exact ⟨_, a₁, w₁, hq, .of_steps (.one h0 qe8) harr⟩
theorem qun {c : Code} (I : Nat -> Act -> World -> Prop) (round : ∀ j a w, I (j + 1) a w -> c.wpIn F n P (Exit.then (fun a' w' => I j a' w') Q) a w) (h0 : ∀ a w, ¬ I 0 a w) :
   ∀ j a w, I j a w -> (Code.loop c).wpIn F n P Q a w := by
 intro j a w hI b k cs hro hb hr
 have key : ∀ j a w, I j a w -> ∃ e a' w', Q e a' w' /\ ArrivesIn (Machine.fenced P F) P (lone (b.atR a (.code c :: .inLoop c :: k)) cs w) b k cs e a' w' := by
   intro j
   induction j with
   | zero => intro a w hI; exact absurd hI (h0 a w)
   | succ j ih =>
     intro a w hI
     obtain ⟨e, a₁, w₁, hq, harr⟩ := round j a w hI b (.inLoop c :: k) cs hro hb hr
     cases e with
     | normal =>
       obtain ⟨e₂, a₂, w₂, hq₂, harr₂⟩ := ih a₁ w₁ hq
       exact ⟨e₂, a₂, w₂, hq₂, .of_steps (StepsIn.trans harr (.one (fenced_calm hb hr rfl) stepR_inLoop)) harr₂⟩
     | exit id => exact ⟨_, a₁, w₁, hq, .pass (x := .inLoop c) rfl (fun _ _ => .inl (by simp)) harr⟩
     | goto l => exact ⟨_, a₁, w₁, hq, .pass (x := .inLoop c) rfl (fun _ _ => .inl (by simp)) harr⟩
     | ret => exact ⟨_, a₁, w₁, hq, .pass (x := .inLoop c) rfl (fun _ _ => .inl (by simp)) harr⟩
     | panic ch => exact ⟨_, a₁, w₁, hq, .pass (x := .inLoop c) rfl (fun _ _ => .inl (by simp)) harr⟩
     | outgrown => exact ⟨_, a₁, w₁, hq, .pass (x := .inLoop c) rfl (fun _ _ => .inl (by simp)) harr⟩
 obtain ⟨e, a', w', hq, harr⟩ := key j a w hI
 exact ⟨e, a', w', hq, .of_steps (.one (fenced_calm hb hr rfl) stepR_loop) harr⟩
end

inductive IEx
 | normal
 | exit (id : Nat)
 | goto (l : Nat)
 | ret
def exOf : IEx -> Exit
 | .normal => .normal
 | .exit id => .exit id
 | .goto l => .goto l
 | .ret => .ret
structure CRes : Type where
 e : IEx
 fr : PT IV
 S : IS
 ds : List Nat
 rd : Nat
 wr : Nat
def CRes.or (r : CRes) (rd wr : Nat) : CRes := ⟨r.e, r.fr, r.S, r.ds, rd ||| r.rd, wr ||| r.wr⟩
def iiter (f : PT IV -> IS -> List Nat -> Option CRes) : Nat -> PT IV -> IS -> List Nat -> Option CRes
 | 0, _, _, _ => none
 | n + 1, fr, S, ds => match f fr S ds with
   | none => none
   | some r => match r.e with
     | .normal => match iiter f n r.fr r.S r.ds with
       | none => none
       | some q => some (q.or r.rd r.wr)
     | _ => some r
def subm (a b : Nat) : Bool := Nat.beq (a ||| b) b
theorem qpo {T : Nat -> Prop} {a b : Nat} (h : subm a b = true) (ht : tin T b) : tin T a := fun j hj => ht j (by
 have e : a ||| b = b := Nat.eq_of_beq_eq_true h
 rw [<- e, Nat.testBit_or, hj]; rfl)
def qbc (f : PT IV -> IS -> List Nat -> Option CRes) (mr mw : Nat) : Nat -> PT IV -> IS -> List Nat -> Option CRes
 | 0, _, _, _ => none
 | n + 1, fr, S, ds => match f fr S ds with
   | none => none
   | some r => cond (subm r.rd mr && subm r.wr mw) (match r.e with
     | .normal => qbc f mr mw n r.fr r.S r.ds
     | e => some ⟨e, r.fr, r.S, r.ds, mr, mw⟩) none
def fk : Code -> Option Nat
 | .region id _ _ => some id
 | .seq x y => match fk x with | some k => some k | none => fk y
 | .cond _ x _ => fk x
 | .block _ c => fk c
 | .scope c => fk c
 | .loop c => fk c
 | _ => none
def loopM (nm : Nat -> Option Nm) (c : Code) : Option (Nat × Nat) := match fk c with
 | some k => match nm k with
   | some m => some (m.lr, m.lw)
   | none => none
 | none => none
def qg3 : Code -> Option IEx
 | .ret => some .ret
 | .exit id => some (.exit id)
 | .goto l => some (.goto l)
 | _ => none
def ifin (cl : Cl) (f : Nat) (caps : List IV) (S : IS) (id : Nat) (fr : PT IV) (ds : List Nat) (rd : Nat) : Option CRes :=
 match cl (.fn f) (.yield id :: caps) S with
 | none => none
 | some r => match r.S.heap.get id with
   | some (.loop st pend nt fr2 ps assign body D) => match st with
     | .busy => none
     | _ => match pend with
       | none => some ⟨.normal, fr, r.S.set id (.loop .exhausted pend nt fr2 ps assign body D), ds, rd ||| (r.rd ||| 2 ^ id), r.wr ||| 2 ^ id⟩
       | some c => match qg3 c with
         | none => none
         | some e => some ⟨e, fr, r.S.set id (.loop .exhausted pend nt fr2 ps assign body D), ds, rd ||| (r.rd ||| 2 ^ id), r.wr ||| 2 ^ id⟩
   | _ => none
def mb (B a : Nat) : Nat := cond (Nat.beq B 0) 0 a
def mbR (B : Nat) (r : CRes) : CRes := ⟨r.e, r.fr, r.S, r.ds, mb B r.rd, mb B r.wr⟩
def mbO (B : Nat) : Option CRes -> Option CRes
 | none => none
 | some r => some (mbR B r)
theorem qcp {B : Nat} {x : Option CRes} {r : CRes} (h : mbO B x = some r) : ∃ r0, x = some r0 /\ r = mbR B r0 := by
 cases x with
 | none => cases h
 | some r0 => cases h; exact ⟨r0, rfl, rfl⟩
theorem qw0 {B a : Nat} {T : Nat -> Prop} (hT : ∀ id, B <= id -> T id) (h : tin T (mb B a)) : tin T a := by
 unfold mb at h
 cases hb : Nat.beq B 0 with
 | true =>
   have : B = 0 := Nat.eq_of_beq_eq_true hb
   subst this
   exact fun j _ => hT j (Nat.zero_le _)
 | false => rw [hb] at h; exact h
def frzF (nm : Nat -> Option Nm) : Bool := match nm 999999 with
 | some _ => true
 | none => false
def mB (nm : Nat -> Option Nm) (B : Nat) : Nat := cond (frzF nm) 0 B
theorem qfc {nm : Nat -> Option Nm} {B a : Nat} {T : Nat -> Prop} (hT : ∀ id, B <= id -> T id) (hz : frzF nm = true -> ∀ id, T id) (h : tin T (mb (mB nm B) a)) : tin T a := by
 unfold mB at h
 cases hf : frzF nm with
 | true => rw [hf, cond_true] at h; exact qw0 (B := 0) (fun id _ => hz hf id) h
 | false => rw [hf, cond_false] at h; exact qw0 hT h
def icode (P : Program) (tt : Nat -> Option TI) (nm : Nat -> Option Nm) (B : Nat) (nt : Nat) (cl : Cl) (lf : Nat) (round : Option Nat) : Code -> PT IV -> IS -> List Nat -> Option CRes
 | .skip, fr, S, ds => some ⟨.normal, fr, S, ds, 0, 0⟩
 | .label _, fr, S, ds => some ⟨.normal, fr, S, ds, 0, 0⟩
 | .exit id, fr, S, ds => some ⟨.exit id, fr, S, ds, 0, 0⟩
 | .goto l, fr, S, ds => some ⟨.goto l, fr, S, ds, 0, 0⟩
 | .ret, fr, S, ds => some ⟨.ret, fr, S, ds, 0, 0⟩
 | .refuse _, _, _, _ => none
 | .region id ops draw, fr, S, ds => mbO (mB nm B) (match inorm nt (nm id) B fr S ds with
   | none => none
   | some x => match cond draw (iany P tt nt cl ops.toList x.fr x.S) (iseq P tt nt cl ops.toList ops.toList x.fr x.S) with
     | none => none
     | some q => some ⟨.normal, q.fr, q.S, x.ds, q.rd, x.wr ||| q.wr⟩)
 | .seq x y, fr, S, ds => match icode P tt nm B nt cl lf round x fr S ds with
   | none => none
   | some r => match r.e with
     | .normal => match icode P tt nm B nt cl lf round y r.fr r.S r.ds with
       | none => none
       | some q => some (q.or r.rd r.wr)
     | _ => some r
 | .cond c x y, fr, S, ds => match evo nt fr c with
   | some (.bool b) => cond b (icode P tt nm B nt cl lf round x fr S ds) (icode P tt nm B nt cl lf round y fr S ds)
   | _ => none
 | .block id c, fr, S, ds => match icode P tt nm B nt cl lf round c fr S ds with
   | none => none
   | some r => match r.e with
     | .exit id' => cond (Nat.beq id' id) (some ⟨.normal, r.fr, r.S, r.ds, r.rd, r.wr⟩) (some r)
     | _ => some r
 | .scope c, fr, S, ds => match icode P tt nm B nt cl lf round c fr S ds with
   | none => none
   | some r => match r.e with
     | .goto _ => none
     | _ => some r
 | .loop c, fr, S, ds => match loopM nm c with
   | some m => mbO (mB nm B) (qbc (icode P tt nm B nt cl lf round c) m.1 m.2 lf fr S ds)
   | none => iiter (icode P tt nm B nt cl lf round c) lf fr S ds
 | .rangeFunc g ps assign body, fr, S, ds => mbO (mB nm B) (match evo nt fr g with
   | some (.fn f caps) => match round with
     | none => ifin cl f caps ((S.new (.defs true)).new (.loop .ready none nt fr ps.toList assign body S.next)) (S.next + 1) fr (S.next :: ds) 0
     | some l => match S.heap.get l with
       | some (.loop _ _ _ _ _ _ _ D) => ifin cl f caps (S.new (.loop .ready none nt fr ps.toList assign body D)) S.next fr ds (2 ^ l)
       | _ => none
   | _ => none)
def qan : Code -> Bool
 | .region _ ops draw => !draw || regOK ops.toList
 | .seq x y => qan x && qan y
 | .cond _ x y => qan x && qan y
 | .block _ c => qan c
 | .scope c => qan c
 | .loop c => qan c
 | .rangeFunc _ _ x y => qan x && qan y
 | _ => true
def RD (B : Nat) (E : Env) (F : Fence) : Option Nat -> Prop
 | none => F.round = none
 | some l => F.round = some (E.ρ l) /\ E.A l /\ l < B
def hasRF : Code -> Bool
 | .rangeFunc .. => true
 | .seq x y => hasRF x || hasRF y
 | .cond _ x y => hasRF x || hasRF y
 | .block _ c => hasRF c
 | .scope c => hasRF c
 | .loop c => hasRF c
 | _ => false
theorem RD.monoB {B : Nat} {T : TW} {E E' : Env} {S S' : IS} (k : PostB B T E S E' S') {F : Fence} {r : Option Nat} (h : RD B E F r) : RD B E' F r := by
 cases r with
 | none => exact h
 | some l => obtain ⟨a, b, _⟩ := k.alw l h.2.2 h.2.1; exact ⟨by rw [h.1, b], a, h.2.2⟩
section
variable {P : Program} {tt : Nat -> Option TI} {T : TW} {nt lf : Nat} {cl : Cl} {F : Fence} {round : Option Nat} {nm : Nat -> Option Nm} {B : Nat}

theorem jump_wp {E : Env} {c : Code} {e : IEx} {a : Act} {w : World} {Q : Exit -> Act -> World -> Prop} (h : qg3 c = some e) (hQ : Q (exOf e) a w) : c.wpIn F 0 P Q a w := by
 cases c <;> try cases h
 · exact wpIn_exit hQ
 · exact wpIn_goto hQ
 · exact wpIn_ret hQ
theorem qut {Q : Exit -> Act -> World -> Prop} {f : Nat} {caps : List IV} {S S0 : IS} {id : Nat} {fr : PT IV} {ds : List Nat} {rd : Nat} {r : CRes} {E E0 : Env} {us : List Value} {a : Act} {l : Nat} (hF : F.plain = Fence.wide) (hcl : ClOK P cl) (p0 : Pre T E0 S0) (p : Pre T E S) (hp : Post T E0 S0 E S) (hfr : Fresh E0 S0 E)
   (h : ifin cl f caps S id fr ds rd = some r) (hrd : tin T.r r.rd) (hwr : tin T.w r.wr) (hA : E.A id) (hl : E.ρ id = l) (hv : VRs E caps us)
   (hfn : qag P f -> True) (hQ : ∀ E', E.Le E' -> Post T E0 S0 E' r.S -> Fresh E0 S0 E' -> Q (exOf r.e) a E'.w) (he : r.fr = fr /\ r.ds = ds -> True) :
   qag P f /\ CallsIn F 0 P f (#[.func (.yield l) #[] #[]] ++ us.toArray) E.w (rangePost F 0 P l Q a) := by
 unfold ifin at h
 split at h
 · cases h
 rename_i r1 hr1
 split at h <;> try cases h
 rename_i st pend nt2 fr2 ps assign body D hobj
 -- the common part
 have main : ∀ (r : CRes), st ≠ .busy -> r.S = r1.S.set id (.loop .exhausted pend nt2 fr2 ps assign body D) -> tin T.r (r1.rd ||| 2 ^ id) -> tin T.w (r1.wr ||| 2 ^ id) -> (∀ E', E.Le E' -> Post T E0 S0 E' r.S -> Fresh E0 S0 E' -> (match pend with | none => Q .normal a E'.w | some c => c.wpIn F 0 P Q a E'.w)) ->
     qag P f /\ CallsIn F 0 P f (#[.func (.yield l) #[] #[]] ++ us.toArray) E.w (rangePost F 0 P l Q a) := by
   intro r hst hrS hrd hwr hQ
   obtain ⟨t1, t2⟩ := qai hrd
   obtain ⟨t3, t4⟩ := qai hwr
   obtain ⟨hC, hcall⟩ := hcl.fn f _ S r1 hr1 T E (.func (.yield (E.ρ id)) #[] #[] :: us) p t1 t3 (VRs.cons (.yield hA) hv)
   refine ⟨hC, ?_⟩
   have e1 : (Value.func (.yield (E.ρ id)) #[] #[] :: us).toArray = #[.func (.yield l) #[] #[]] ++ us.toArray := by rw [hl]; simp
   rw [e1] at hcall
   refine (qm5 (m := 0) hF (callsIn_wide.1 hcall)).mono fun e w' hq => ?_
   obtain ⟨u, E1, rfl, rfl, k1, k2, k3⟩ := hq
   have p1 := k2.pre p
   have hle := k2.env p
   obtain ⟨a1, a2, a3⟩ := hle.alw id hA
   obtain ⟨fn, tmps, g1, g2, g3⟩ := p1.st.objs id (qac t2) a1 _ hobj
   rw [a2, hl] at g1
   have hend := run_endLoop (P := P) g1 (by simpa using hst)
   have hlt := qam g1
   have hL : Live E1 r1.S.H id := ⟨p1.st.blk id (qac t2) a1 _ hobj rfl, _, hobj, rfl⟩
   obtain ⟨q1, q2⟩ := Post.write p1 (o' := .loop .exhausted pend nt2 fr2 ps assign body D) (qac t4) a1 hL (w' := E1.w.putObj l (.loop { state := .exhausted, pending := pend, fn, tmps, params := ps.toArray, assign, body, defers := E1.ρ D })) (by rw [a2, hl]; exact Upd.putObj _ _ _)
     ⟨fn, tmps, by
       show _ = _
       rw [show (E1.at_ (E1.w.putObj l (.loop { state := .exhausted, pending := pend, fn, tmps, params := ps.toArray, assign, body, defers := E1.ρ D }))).ρ id = l from a2.trans hl]
       exact World.putObj_heap_same hlt, FR.mono (Env.at_le p1.st (qac t4) a1 hL (by rw [a2, hl]; exact Upd.putObj _ _ _)) g2, g3⟩
   have hall := Post.trans p0 hp hfr (Post.trans p k2 k3 q1)
   have hfall := hfr.trans (k3.trans q2 k2.le) hp.le
   have hleall : E.Le _ := hle.trans (q1.env p1)
   refine ⟨pend, _, hend, ?_⟩
   have := hQ _ hleall (by rw [hrS]; exact hall) hfall
   cases pend with
   | none => exact this
   | some c => exact this
 split at h
 · cases h
 · rename_i hst
   cases pend with
   | none =>
     simp only at h
     cases h
     obtain ⟨_, t2⟩ := qai hrd
     exact main ⟨.normal, fr, r1.S.set id (.loop .exhausted none nt2 fr2 ps assign body D), ds, 0, 0⟩ (fun e => hst e) rfl t2 hwr hQ
   | some c =>
     simp only at h
     cases he2 : qg3 c with
     | none => rw [he2] at h; cases h
     | some e =>
     rw [he2] at h
     cases h
     obtain ⟨_, t2⟩ := qai hrd
     exact main ⟨e, fr, r1.S.set id (.loop .exhausted (some c) nt2 fr2 ps assign body D), ds, 0, 0⟩ (fun e => hst e) rfl t2 hwr (fun E' k1 k2 k3 => jump_wp (E := E') he2 (hQ E' k1 k2 k3))
theorem q3r {f : Nat} (h : qag P f) (args : Array Value) (w : World) : (callFunc f args).run P w = .ok (.enter f args) w := by
 obtain ⟨fn, hf, hb, hn⟩ := h
 have hb' : fn.body.isNone = false := by cases h : fn.body <;> simp [h] at hb ⊢
 simp only [callFunc, Sem.run_bind, run_program, Result.andThen_ok, hf, hb', hn, Bool.false_eq_true, if_false, Sem.run_pure]
theorem qe0 {N : Nat} (hz : frzF nm = true -> ∀ id, T.w id) (hm : P.follows .mixedOrders = true) (hF : F.plain = Fence.wide) (hcl : ClOK P cl) (hfr : ClFr cl) (htt : TT P tt) : ∀ (c : Code), qan c = true -> ∀ {fr : PT IV} {S : IS} {ds : List Nat} {E : Env} {a : Act} {r : CRes} {Q : Exit -> Act -> World -> Prop},
   Pre T E S -> B <= S.next -> (∀ id, B <= id -> T.w id) -> FR E nt fr a.tmps -> DS N E ds a.defers -> (hasRF c = true -> RD B E F round) -> icode P tt nm B nt cl lf round c fr S ds = some r -> tin T.r r.rd -> tin T.w r.wr ->
   (∀ E' a', FR E' nt r.fr a'.tmps -> DS N E' r.ds a'.defers -> PostB B T E S E' r.S -> Q (exOf r.e) a' E'.w) -> c.wpIn F 0 P Q a E.w := by
 intro c
 induction c with
 | skip => intro hok fr S ds E a r Q p hB hT hf hd hrd h t1 t2 hQ; cases h; exact wpIn_skip (hQ E a hf hd (PostB.refl hB hT p))
 | label l => intro hok fr S ds E a r Q p hB hT hf hd hrd h t1 t2 hQ; cases h; exact wpIn_label (hQ E a hf hd (PostB.refl hB hT p))
 | exit id => intro hok fr S ds E a r Q p hB hT hf hd hrd h t1 t2 hQ; cases h; exact wpIn_exit (hQ E a hf hd (PostB.refl hB hT p))
 | goto l => intro hok fr S ds E a r Q p hB hT hf hd hrd h t1 t2 hQ; cases h; exact wpIn_goto (hQ E a hf hd (PostB.refl hB hT p))
 | ret => intro hok fr S ds E a r Q p hB hT hf hd hrd h t1 t2 hQ; cases h; exact wpIn_ret (hQ E a hf hd (PostB.refl hB hT p))
 | refuse _ => intro hok fr S ds E a r Q p hB hT hf hd hrd h t1 t2 hQ; cases h
 | region id ops draw =>
   intro hok fr S ds E a r Q p hB hT hf hd hrd h t1 t2 hQ
   simp only [icode] at h
   have h0 := qcp h; clear h; obtain ⟨r, h, rfl⟩ := h0
   replace t1 : tin T.r r.rd := qfc (fun id hi => T.sub _ (hT id hi)) (fun hf id => T.sub _ (hz hf id)) t1
   replace t2 : tin T.w r.wr := qfc hT hz t2
   replace hQ : ∀ E' a', FR E' nt r.fr a'.tmps -> DS N E' r.ds a'.defers -> PostB B T E S E' r.S -> Q (exOf r.e) a' E'.w := hQ
   split at h
   · cases h
   rename_i x hx
   split at h <;> cases h
   rename_i q hq
   obtain ⟨u1, u2⟩ := qai t2
   obtain ⟨E1, e1, n1, n2, n3⟩ := q3b (a := a) p hB hT hf hd hx u1
   have p1 := n1.pre hT p
   have hcont : ∀ E' a', FR E' nt q.fr a'.tmps -> a'.defers = a.defers -> Post T E1 x.S E' q.S -> Fresh E1 x.S E' -> Q .normal a' E'.w := by
     intro E' a' k1 k2 k3 k4
     exact hQ E' a' k1 (by rw [k2]; exact n3.mono (k3.env p1) k3.stp.size) (n1.trans (PostB.of n1.le hT k3 k4))
   rw [<- e1]
   cases draw with
   | true =>
     rw [cond_true] at hq
     have := qz3 (rid := id) (Q := Q) hm hF hcl hfr htt (by simpa [qan] using hok) p1 n2 hq t1 u2 hcont
     simpa using this
   | false =>
     rw [cond_false] at hq
     refine wpIn_region_list ?_
     have := qo4 (Q := Q) (ops := ops.toList) hF hcl htt ops.toList x.fr x.S E1 a q p1 n2 hq t1 u2 hcont
     simpa using this
 | seq x y ihx ihy =>
   intro hok fr S ds E a r Q p hB hT hf hd hrd h t1 t2 hQ
   simp only [qan, Bool.and_eq_true] at hok
   simp only [icode] at h
   split at h
   · cases h
   rename_i r1 hr1
   split at h
   · rename_i he
     split at h <;> cases h
     rename_i q hq
     obtain ⟨u1, u2⟩ := qai t1
     obtain ⟨u3, u4⟩ := qai t2
     refine wpIn_seq (ihx hok.1 p hB hT hf hd (fun h => hrd (by simp [hasRF, h])) hr1 u1 u3 fun E' a' k1 k2 k3 => ?_)
     rw [he]
     exact ihy hok.2 (k3.pre hT p) k3.le hT k1 k2 (fun h => (hrd (by simp [hasRF, h])).monoB k3) hq u2 u4 fun E'' a'' m1 m2 m3 => hQ E'' a'' m1 m2 (k3.trans m3)
   · rename_i hne
     cases h
     refine wpIn_seq (ihx hok.1 p hB hT hf hd (fun h => hrd (by simp [hasRF, h])) hr1 t1 t2 fun E' a' k1 k2 k3 => ?_)
     have := hQ E' a' k1 k2 k3
     cases he : r.e with
     | normal => exact absurd he hne
     | _ => rw [he] at this; exact this
 | cond c x y ihx ihy =>
   intro hok fr S ds E a r Q p hB hT hf hd hrd h t1 t2 hQ
   simp only [qan, Bool.and_eq_true] at hok
   simp only [icode] at h
   split at h <;> try cases h
   rename_i b hb
   have hv := qmk hf hb
   generalize he : a.eval c = e at hv
   cases hv
   cases b with
   | true => exact wpIn_cond_true he (ihx hok.1 p hB hT hf hd (fun h => hrd (by simp [hasRF, h])) h t1 t2 hQ)
   | false => exact wpIn_cond_false he (ihy hok.2 p hB hT hf hd (fun h => hrd (by simp [hasRF, h])) h t1 t2 hQ)
 | block id c ih =>
   intro hok fr S ds E a r Q p hB hT hf hd hrd h t1 t2 hQ
   simp only [icode] at h
   split at h
   · cases h
   rename_i r1 hr1
   split at h
   · rename_i id' he
     cases hid : Nat.beq id' id with
     | true =>
       rw [hid, cond_true] at h
       cases h
       have hid := Nat.eq_of_beq_eq_true hid
       refine wpIn_block (ih hok p hB hT hf hd hrd hr1 t1 t2 fun E' a' k1 k2 k3 => ?_)
       rw [he]
       simp only [exOf, Exit.inBlock, hid, if_true]
       exact hQ E' a' k1 k2 k3
     | false =>
       rw [hid, cond_false] at h
       cases h
       have hid : ¬ id' = id := fun e => by rw [beq_t e] at hid; cases hid
       refine wpIn_block (ih hok p hB hT hf hd hrd hr1 t1 t2 fun E' a' k1 k2 k3 => ?_)
       have := hQ E' a' k1 k2 k3
       rw [he] at this ⊢
       simp only [exOf, Exit.inBlock, hid, if_false]
       exact this
   · rename_i hne
     cases h
     refine wpIn_block (ih hok p hB hT hf hd hrd hr1 t1 t2 fun E' a' k1 k2 k3 => ?_)
     have := hQ E' a' k1 k2 k3
     cases he : r.e with
     | exit id' => exact absurd he (hne id')
     | _ => rw [he] at this; exact this
 | scope c ih =>
   intro hok fr S ds E a r Q p hB hT hf hd hrd h t1 t2 hQ
   simp only [icode] at h
   split at h
   · cases h
   rename_i r1 hr1
   split at h
   · cases h
   · rename_i hne
     cases h
     refine qy3 (ih hok p hB hT hf hd hrd hr1 t1 t2 fun E' a' k1 k2 k3 => ?_)
     have := hQ E' a' k1 k2 k3
     cases he : r.e with
     | goto l => exact absurd he (hne l)
     | _ => rw [he] at this; exact this
 | loop c ih =>
   intro hok fr S ds E a r Q p hB hT hf hd hrd h t1 t2 hQ
   simp only [icode] at h
   split at h
   · rename_i m hm'
     have h0 := qcp h; clear h; obtain ⟨r, h, rfl⟩ := h0
     replace t1 : tin T.r r.rd := qfc (fun id hi => T.sub _ (hT id hi)) (fun hf id => T.sub _ (hz hf id)) t1
     replace t2 : tin T.w r.wr := qfc hT hz t2
     replace hQ : ∀ E' a', FR E' nt r.fr a'.tmps -> DS N E' r.ds a'.defers -> PostB B T E S E' r.S -> Q (exOf r.e) a' E'.w := hQ
     refine qun (fun j a w => ∃ (fr : PT IV) (S1 : IS) (ds : List Nat) (E1 : Env) (r : CRes), qbc (icode P tt nm B nt cl lf round c) m.1 m.2 j fr S1 ds = some r /\ Pre T E1 S1 /\ B <= S1.next /\ FR E1 nt fr a.tmps /\ DS N E1 ds a.defers /\ (hasRF c = true -> RD B E1 F round) /\ tin T.r r.rd /\ tin T.w r.wr /\ E1.w = w /\
       (∀ E' a', FR E' nt r.fr a'.tmps -> DS N E' r.ds a'.defers -> PostB B T E1 S1 E' r.S -> Q (exOf r.e) a' E'.w)) ?_ (fun a w hI => by obtain ⟨_, _, _, _, _, h, _⟩ := hI; cases h) lf a E.w ⟨fr, S, ds, E, r, h, p, hB, hf, hd, hrd, t1, t2, rfl, hQ⟩
     rintro j a w ⟨fr, S1, ds, E1, r, h, p, hB, hf, hd, hrd, t1, t2, rfl, hQ⟩
     have hmask : ∀ (j : Nat) (fr : PT IV) (S1 : IS) (ds : List Nat) (r : CRes), qbc (icode P tt nm B nt cl lf round c) m.1 m.2 j fr S1 ds = some r -> r.rd = m.1 /\ r.wr = m.2 := by
       intro j
       induction j with
       | zero => intro fr S1 ds r h; cases h
       | succ j ihj =>
         intro fr S1 ds r h
         unfold qbc at h
         split at h
         · cases h
         rename_i r1 hr1
         cases hb : (subm r1.rd m.1 && subm r1.wr m.2) with
         | false => rw [hb] at h; cases h
         | true =>
         rw [hb, cond_true] at h
         split at h
         · exact ihj _ _ _ _ h
         · cases h; exact ⟨rfl, rfl⟩
     obtain ⟨g1, g2⟩ := hmask _ _ _ _ _ h
     unfold qbc at h
     split at h
     · cases h
     rename_i r1 hr1
     cases hb : (subm r1.rd m.1 && subm r1.wr m.2) with
     | false => rw [hb] at h; cases h
     | true =>
     rw [hb, cond_true] at h
     simp only [Bool.and_eq_true] at hb
     rw [g1] at t1
     rw [g2] at t2
     have u1 := qpo hb.1 t1
     have u3 := qpo hb.2 t2
     split at h
     · rename_i he
       refine ih hok p hB hT hf hd hrd hr1 u1 u3 fun E' a' k1 k2 k3 => ?_
       rw [he]
       exact ⟨_, _, _, E', r, h, k3.pre hT p, k3.le, k1, k2, fun h => (hrd h).monoB k3, by rw [g1]; exact t1, by rw [g2]; exact t2, rfl, fun E'' a'' m1 m2 m3 => hQ E'' a'' m1 m2 (k3.trans m3)⟩
     · rename_i hne
       cases h
       refine ih hok p hB hT hf hd hrd hr1 u1 u3 fun E' a' k1 k2 k3 => ?_
       have := hQ E' a' k1 k2 k3
       cases he : r1.e with
       | normal => exact absurd he hne
       | _ => rw [he] at this; exact this
   refine qun (fun j a w => ∃ (fr : PT IV) (S1 : IS) (ds : List Nat) (E1 : Env) (r : CRes), iiter (icode P tt nm B nt cl lf round c) j fr S1 ds = some r /\ Pre T E1 S1 /\ B <= S1.next /\ FR E1 nt fr a.tmps /\ DS N E1 ds a.defers /\ (hasRF c = true -> RD B E1 F round) /\ tin T.r r.rd /\ tin T.w r.wr /\ E1.w = w /\
     (∀ E' a', FR E' nt r.fr a'.tmps -> DS N E' r.ds a'.defers -> PostB B T E1 S1 E' r.S -> Q (exOf r.e) a' E'.w)) ?_ (fun a w hI => by obtain ⟨_, _, _, _, _, h, _⟩ := hI; cases h) lf a E.w ⟨fr, S, ds, E, r, h, p, hB, hf, hd, hrd, t1, t2, rfl, hQ⟩
   rintro j a w ⟨fr, S1, ds, E1, r, h, p, hB, hf, hd, hrd, t1, t2, rfl, hQ⟩
   unfold iiter at h
   split at h
   · cases h
   rename_i r1 hr1
   split at h
   · rename_i he
     split at h <;> cases h
     rename_i q hq
     obtain ⟨u1, u2⟩ := qai t1
     obtain ⟨u3, u4⟩ := qai t2
     refine ih hok p hB hT hf hd hrd hr1 u1 u3 fun E' a' k1 k2 k3 => ?_
     rw [he]
     exact ⟨_, _, _, E', q, hq, k3.pre hT p, k3.le, k1, k2, fun h => (hrd h).monoB k3, u2, u4, rfl, fun E'' a'' m1 m2 m3 => hQ E'' a'' m1 m2 (k3.trans m3)⟩
   · rename_i hne
     cases h
     refine ih hok p hB hT hf hd hrd hr1 t1 t2 fun E' a' k1 k2 k3 => ?_
     have := hQ E' a' k1 k2 k3
     cases he : r.e with
     | normal => exact absurd he hne
     | _ => rw [he] at this; exact this
 | rangeFunc g ps assign body ih1 ih2 =>
   intro hok fr S ds E a r Q p hB hT hf hd hrd h t1 t2 hQ
   simp only [icode] at h
   have h0 := qcp h; clear h; obtain ⟨r, h, rfl⟩ := h0
   replace t1 : tin T.r r.rd := qfc (fun id hi => T.sub _ (hT id hi)) (fun hf id => T.sub _ (hz hf id)) t1
   replace t2 : tin T.w r.wr := qfc hT hz t2
   replace hQ : ∀ E' a', FR E' nt r.fr a'.tmps -> DS N E' r.ds a'.defers -> PostB B T E S E' r.S -> Q (exOf r.e) a' E'.w := hQ
   split at h <;> try cases h
   rename_i f caps hg
   have hv := qmk hf hg
   generalize he : a.eval g = eg at hv
   cases hv with
   | fn hl hh =>
   rename_i us
   have hcaps : VRs E caps us := ⟨hl, hh⟩
   have hres : ∀ (l : Nat) (w : World), (resolve a.eval (rangeCall g l) 0).run P w = .ok { target := .fn (.func f) us.toArray, args := #[.func (.yield l) #[] #[]] } w := fun l w => by
     simp only [resolve, he]
     simp [go_sem, Deferred.ofValue, Act.eval]
   have hinv : qag P f -> ∀ (l : Nat) (w : World), (invoke (.fn (.func f) us.toArray) #[.func (.yield l) #[] #[]]).run P w = .ok (.enter f (#[.func (.yield l) #[] #[]] ++ us.toArray)) w := fun hC l w => by
     simp only [invoke]; exact q3r hC _ w
   have hdep : ∀ {x}, F.depth.isSome = true -> x := fun h0 => by rw [qe2 hF] at h0; cases h0
   split at h
   · -- an outermost loop
     have hround : F.round = none := hrd rfl
     refine wpIn_rangeFunc fun fn hfn => ?_
     obtain ⟨q1, q2⟩ := Post.new p (k := 0) (hd := .tuple #[]) (o := .defs true) (w' := E.w.alloc (.deferred (some []))) (Upd.alloc _ _) (by simp) (by
       show _ = _
       simp only [Env.with_, qad]; exact World.alloc_heap_new E.w _)
     have p1 := q1.pre p
     have hρ1 : (E.with_ S.next 0 (.tuple #[]) (E.w.alloc (.deferred (some [])))).ρ S.next = E.w.heap.size := qad _ _ _
     have hA1 : (E.with_ S.next 0 (.tuple #[]) (E.w.alloc (.deferred (some [])))).A S.next := Or.inr rfl
     obtain ⟨E1, hE1⟩ : ∃ E1, E.with_ S.next 0 (.tuple #[]) (E.w.alloc (.deferred (some []))) = E1 := ⟨_, rfl⟩
     rw [hE1] at q1 q2 p1 hρ1 hA1
     have hw1 : E1.w = E.w.alloc (.deferred (some [])) := by rw [<- hE1]; rfl
     have hne : ¬ E1.A (S.next + 1) := fun h => Nat.lt_irrefl _ (p1.bnd _ h)
     obtain ⟨W2, hW2⟩ : ∃ W2, E1.w.alloc (.loop { state := .ready, pending := none, fn, tmps := a.tmps, params := ps, assign, body, defers := E.w.heap.size }) = W2 := ⟨_, rfl⟩
     have u2 : Upd [] E1.w W2 := by rw [<- hW2]; exact Upd.alloc _ _
     have hle2 := Env.with_le (k := 0) (hd := .tuple #[]) hne u2
     obtain ⟨q3, q4⟩ := Post.new p1 (k := 0) (hd := .tuple #[]) (o := .loop .ready none nt fr ps.toList assign body S.next) (w' := W2) u2 (by rw [<- hW2]; simp) ⟨fn, a.tmps, by
         rw [show (E1.with_ (S.new (.defs true)).next 0 (.tuple #[]) W2).ρ (S.new (.defs true)).next = E1.w.heap.size from qad _ _ _]
         show W2.heap[E1.w.heap.size]? = _
         rw [show W2.heap[E1.w.heap.size]? = some (.loop { state := .ready, pending := none, fn, tmps := a.tmps, params := ps, assign, body, defers := E.w.heap.size }) from by rw [<- hW2]; exact World.alloc_heap_new _ _]
         rw [show (E1.with_ (S.new (.defs true)).next 0 (.tuple #[]) W2).ρ S.next = E.w.heap.size from ((hle2.alw _ hA1).2.1).trans hρ1], (hf.mono (q1.env p)).mono hle2, (hle2.alw _ hA1).1⟩
     have p2 := q3.pre p1
     have q5 := Post.trans p q1 q2 q3
     have q6 := q2.trans q4 q1.le
     obtain ⟨E2, hE2⟩ : ∃ E2, E1.with_ (S.new (.defs true)).next 0 (.tuple #[]) W2 = E2 := ⟨_, rfl⟩
     have hρ2 : E2.ρ (S.next + 1) = E.w.heap.size + 1 := by
       rw [<- hE2]
       have : (E1.with_ (S.new (.defs true)).next 0 (.tuple #[]) W2).ρ (S.next + 1) = E1.w.heap.size := qad _ _ _
       rw [this, hw1]; simp
     have hA2 : E2.A (S.next + 1) := by rw [<- hE2]; exact Or.inr rfl
     have hρD : E2.ρ S.next = E.w.heap.size := by rw [<- hE2]; exact ((hle2.alw _ hA1).2.1).trans hρ1
     have hAD : E2.A S.next := by rw [<- hE2]; exact (hle2.alw _ hA1).1
     rw [hE2] at q3 q4 p2 q5 q6
     have hw2 : E2.w = W2 := by rw [<- hE2]; rfl
     have hc2 : VRs E2 caps us := hcaps.mono (q5.env p)
     have hfin := qut (Q := Q) (a := { a with defers := [({ target := .collected E.w.heap.size, args := #[] } : Deferred)] ++ a.defers }) (l := E.w.heap.size + 1) hF hcl p p2 q5 q6 h t1 t2 hA2 hρ2 hc2 (fun _ => trivial) (fun E' k1 k2 k3 => by
       have hrf : r.fr = fr /\ r.ds = S.next :: ds := by
         unfold ifin at h
         split at h
         · cases h
         split at h <;> try cases h
         split at h
         · cases h
         · split at h
           · cases h; exact ⟨rfl, rfl⟩
           · split at h <;> cases h; exact ⟨rfl, rfl⟩
       refine hQ E' _ (by rw [hrf.1]; exact hf.mono (k2.env p)) ?_ (PostB.of hB hT k2 k3)
       rw [hrf.2]
       have hsz := k2.stp.size
       obtain ⟨d1, d2, hid, d3, d4, d5⟩ := hd.mono (k2.env p) k2.stp.size
       obtain ⟨b1, b2, _⟩ := k1.alw _ hAD
       refine ⟨d1, fun D hD => ?_, hid, ?_, d4, d5⟩
       · rcases List.mem_cons.1 hD with h | h
         · rw [h, b2, hρD]; exact ⟨b1, hd.le⟩
         · exact d2 D h
       · simp only [List.map_cons, List.cons_append, List.nil_append, b2, hρD, d3]) (fun _ => trivial)
     refine ⟨E.w.heap.size + 1, [{ target := .collected E.w.heap.size, args := #[] }], W2, _, W2, f, _, W2, ?_, hres _ _, fun _ _ => fn_of hF _, hinv hfin.1 _ _, hdep, ?_⟩
     · rw [hround]
       have := run_enterLoop_outer (P := P) (w := E.w) fn a.tmps ps assign body
       rw [this, <- hW2, hw1]
     · have := hfin.2
       rw [hw2] at this
       exact this
   · -- within a round
     rename_i l0
     split at h <;> try cases h
     rename_i st0 pd0 nt0 fr0 ps0 as0 bd0 D hobj
     have hround : F.round = some (E.ρ l0) := (hrd rfl).1
     have hA0 := (hrd rfl).2.1
     have hrd0 : tin T.r (2 ^ l0) := by
       unfold ifin at h
       split at h
       · cases h
       split at h <;> try cases h
       split at h
       · cases h
       · split at h
         · cases h; exact (qai t1).1
         · split at h <;> cases h; exact (qai t1).1
     obtain ⟨fn0, tmps0, g1, g2, g3⟩ := p.st.objs l0 (qac hrd0) hA0 _ hobj
     refine wpIn_rangeFunc fun fn hfn => ?_
     have hne : ¬ E.A S.next := fun h => Nat.lt_irrefl _ (p.bnd _ h)
     obtain ⟨W2, hW2⟩ : ∃ W2, E.w.alloc (.loop { state := .ready, pending := none, fn, tmps := a.tmps, params := ps, assign, body, defers := E.ρ D }) = W2 := ⟨_, rfl⟩
     have u2 : Upd [] E.w W2 := by rw [<- hW2]; exact Upd.alloc _ _
     have hle2 := Env.with_le (k := 0) (hd := .tuple #[]) hne u2
     obtain ⟨q3, q4⟩ := Post.new p (k := 0) (hd := .tuple #[]) (o := .loop .ready none nt fr ps.toList assign body D) (w' := W2) u2 (by rw [<- hW2]; simp) ⟨fn, a.tmps, by
         rw [show (E.with_ S.next 0 (.tuple #[]) W2).ρ S.next = E.w.heap.size from qad _ _ _]
         show W2.heap[E.w.heap.size]? = _
         rw [show W2.heap[E.w.heap.size]? = some (.loop { state := .ready, pending := none, fn, tmps := a.tmps, params := ps, assign, body, defers := E.ρ D }) from by rw [<- hW2]; exact World.alloc_heap_new _ _]
         rw [show (E.with_ S.next 0 (.tuple #[]) W2).ρ D = E.ρ D from (hle2.alw _ g3).2.1], hf.mono hle2, (hle2.alw _ g3).1⟩
     have p2 := q3.pre p
     obtain ⟨E2, hE2⟩ : ∃ E2, E.with_ S.next 0 (.tuple #[]) W2 = E2 := ⟨_, rfl⟩
     have hρ2 : E2.ρ S.next = E.w.heap.size := by rw [<- hE2]; exact qad _ _ _
     have hA2 : E2.A S.next := by rw [<- hE2]; exact Or.inr rfl
     rw [hE2] at q3 q4 p2
     have hw2 : E2.w = W2 := by rw [<- hE2]; rfl
     have hc2 : VRs E2 caps us := hcaps.mono (q3.env p)
     have hfin := qut (Q := Q) (a := { a with defers := [] ++ a.defers }) (l := E.w.heap.size) hF hcl p p2 q3 q4 h t1 t2 hA2 hρ2 hc2 (fun _ => trivial) (fun E' k1 k2 k3 => by
       have hrf : r.fr = fr /\ r.ds = ds := by
         unfold ifin at h
         split at h
         · cases h
         split at h <;> try cases h
         split at h
         · cases h
         · split at h
           · cases h; exact ⟨rfl, rfl⟩
           · split at h <;> cases h; exact ⟨rfl, rfl⟩
       refine hQ E' _ (by rw [hrf.1]; exact hf.mono (k2.env p)) ?_ (PostB.of hB hT k2 k3)
       rw [hrf.2]
       exact hd.mono (k2.env p) k2.stp.size) (fun _ => trivial)
     refine ⟨E.w.heap.size, [], W2, _, W2, f, _, W2, ?_, hres _ _, fun _ _ => fn_of hF _, hinv hfin.1 _ _, hdep, ?_⟩
     · rw [hround]
       have := run_enterLoop_inner (P := P) g1 fn a.tmps ps assign body
       rw [this, <- hW2]
     · have := hfin.2
       rw [hw2] at this
       exact this
end
end Go.Jx
end

section
namespace Go.Jx
open Go Go.Sx Go.RowKit
universe u

structure FI where
 nt : Nat
 res : List ResultVar
 body : Code
def FT (P : Program) (ft : Nat -> Option FI) : Prop := ∀ f fi, ft f = some fi -> ∃ fn, P.funcs[f]? = some fn /\ fn.body = some fi.body /\ fn.ntmps = fi.nt /\ fn.results = fi.res.toArray /\ (fn.name == "runtime.NumGoroutine") = false /\ qan fi.body = true

def argGo : List IV -> Nat -> PT IV -> PT IV
 | [], _, fr => fr
 | v :: vs, i, fr => argGo vs (i + 1) (fr.set v i)
theorem qq7 : ∀ (vs : List IV) (i : Nat) (fr : PT IV) (t : Nat), slot (argGo vs i fr) t = if t < i then slot fr t else if t < i + vs.length then vs.getD (t - i) .unk else slot fr t
 | [], i, fr, t => by
   simp only [argGo, List.length_nil, Nat.add_zero]
   by_cases h : t < i
   · rw [if_pos h]
   · rw [if_neg h, if_neg h]
 | v :: vs, i, fr, t => by
   unfold argGo
   rw [qq7 vs (i + 1)]
   simp only [List.length_cons]
   by_cases h1 : t < i
   · rw [if_pos (by omega), if_pos h1, qby, if_neg (by omega)]
   · rw [if_neg h1]
     by_cases h2 : t = i
     · subst h2
       rw [if_pos (by omega), if_pos (by omega), qby, if_pos rfl]
       simp
     · rw [if_neg (by omega)]
       by_cases h3 : t < i + 1 + vs.length
       · rw [if_pos h3, if_pos (by omega)]
         have : t - i = (t - (i + 1)) + 1 := by omega
         rw [this]; simp
       · rw [if_neg h3, if_neg (by omega), qby, if_neg h2]
theorem FR.enter {E : Env} {nt : Nat} {vs : List IV} {us : List Value} (h : VRs E vs us) (hl : vs.length <= nt) : FR E nt (argGo vs 0 .leaf) (us.toArray ++ Array.replicate (nt - us.toArray.size) undef) := by
 have hl2 := h.1
 refine ⟨by simp; omega, fun t ht => ?_⟩
 rw [qq7, if_neg (by omega), Nat.zero_add, Nat.sub_zero]
 by_cases hv : t < vs.length
 · rw [if_pos hv]
   have := h.2 t hv (by omega)
   have e1 : vs.getD t .unk = vs[t] := by simp [List.getD_eq_getElem?_getD, hv]
   have e2 : (us.toArray ++ Array.replicate (nt - us.toArray.size) undef).getD t undef = us[t]'(by omega) := by
     rw [Array.getD_eq_getD_getElem?, Array.getElem?_append_left (by simp; omega)]
     simp [show t < us.length by omega]
   rw [e1, e2]; exact this
 · rw [if_neg hv]
   have e2 : (us.toArray ++ Array.replicate (nt - us.toArray.size) undef).getD t undef = undef := by
     rw [Array.getD_eq_getD_getElem?, Array.getElem?_append_right (by simp; omega)]
     rw [Array.getElem?_replicate]
     split <;> rfl
   rw [e2]
   exact .unk _

section
variable {P : Program} {tt : Nat -> Option TI} {T : TW} {E : Env} {S : IS} {nt : Nat} {fr : PT IV}
theorem q4r {ty : TypeId} {id off : Nat} {ux : Value} {r : Res} (htt : TT P tt) (p : Pre T E S) (h : iload tt S ty (.ptr id off) = some r) (hr : tin T.r r.rd) (hx : VR E (.ptr id off) ux) : ∃ u, (do loadVar ty (<- asAddr ux)).run P E.w = .ok u E.w /\ VR E r.v u := by
 simp only [iload] at h
 cases hx with
 | ptr hA =>
 have hconv : ∀ u, (Instr.loadAt ty (.pointer (some ⟨E.ρ id, off, none⟩))).run P E.w = .ok u E.w -> (do loadVar ty (<- asAddr (.pointer (some ⟨E.ρ id, off, none⟩)))).run P E.w = .ok u E.w := fun u hu => by
   simp only [Instr.loadAt, Instr.sureAddr, Sem.run_bind, Sem.run_pure, Result.andThen_ok] at hu
   simp only [asAddr, Sem.run_bind, Sem.run_pure, Result.andThen_ok, hu]
 split at h
 · cases h
 rename_i ti hti
 have hty := htt _ _ hti
 split at h <;> try cases h
 rotate_left
 · rename_i jj hcs
   cases hb : (Nat.beq off 1 && qat ti.und) with
   | false => rw [hb] at h; cases h
   | true =>
     rw [hb, cond_true] at h; cases h
     simp only [Bool.and_eq_true] at hb
     have h1 := Nat.eq_of_beq_eq_true hb.1
     subst h1
     obtain ⟨q, v, k1, k2, k3⟩ := p.st.objs id (qac hr) hA _ hcs
     exact ⟨v, hconv v (qe3 hty hb.2 ((qix k1 1).trans rfl)), k3⟩
 rename_i cs hcs
 cases hag : qat ti.und with
 | true =>
   rw [hag, cond_true] at h
   split at h <;> cases h
   rename_i v hv
   obtain ⟨cells, t, h1, h2, h3, h4⟩ := qcd p (qac hr) hA hcs
   obtain ⟨u, h5, h6⟩ := qqz h1 h4 hv
   exact ⟨u, hconv u (qe3 hty hag h5), h6⟩
 | false =>
   rw [hag, cond_false] at h
   cases hb : Nat.ble (off + ti.sz) cs.length with
   | false => rw [hb] at h; cases h
   | true =>
     rw [hb, cond_true] at h
     cases h
     have hle := Nat.le_of_ble_eq_true hb
     obtain ⟨cells, t, h1, h2, h3, h4⟩ := qcd p (qac hr) hA hcs
     have h5 := (h4.drop off).take ti.sz
     have hlen : (((cells.toList.take cs.length).drop off).take ti.sz).length = ti.sz := by simp; omega
     refine ⟨.agg (((cells.toList.take cs.length).drop off).take ti.sz).toArray, hconv _ (qho hty hag rfl hlen fun j hj => ?_), .agg h5.1 h5.2⟩
     have hc : E.w.cell? ⟨E.ρ id, off + j, none⟩ = cells.toList[off + j]? := by simp [World.cell?, h1]
     rw [hc, List.getElem?_take, if_pos hj, List.getElem?_drop, List.getElem?_take, if_pos (show off + j < cs.length by omega)]
def ires (tt : Nat -> Option TI) (nt : Nat) (fr : PT IV) (S : IS) : List ResultVar -> Option (List IV × Nat)
 | [] => some ([], 0)
 | .tmp t :: l => cond (Nat.blt t nt) (match ires tt nt fr S l with
   | some (vs, rd) => some (slot fr t :: vs, rd)
   | none => none) none
 | .cell t ty :: l => cond (Nat.blt t nt) (match (match slot fr t with | .ptr id off => iload tt S ty (.ptr id off) | _ => none) with
   | some r => match ires tt nt fr S l with
     | some (vs, rd) => some (r.v :: vs, r.rd ||| rd)
     | none => none
   | none => none) none
theorem qil (htt : TT P tt) (p : Pre T E S) {tmps : Array Value} (hf : FR E nt fr tmps) : ∀ {l : List ResultVar} {vs : List IV} {rd : Nat}, ires tt nt fr S l = some (vs, rd) -> tin T.r rd -> ∃ us, (l.mapM (qhl tmps)).run P E.w = .ok us E.w /\ VRs E vs us
 | [], vs, rd, h, hr => by cases h; exact ⟨[], rfl, VRs.nil⟩
 | .tmp t :: l, vs, rd, h, hr => by
   unfold ires at h
   cases hb : Nat.blt t nt with
   | false => rw [hb] at h; cases h
   | true =>
   rw [hb, cond_true] at h
   split at h <;> cases h
   rename_i vs rd hvs
   obtain ⟨us, h1, h2⟩ := qil htt p hf hvs hr
   refine ⟨tmps.getD t undef :: us, ?_, VRs.cons (hf.get t (by simpa using hb)) h2⟩
   simp only [List.mapM_cons, Sem.run_bind, qhl, Sem.run_pure, Result.andThen_ok, h1]
 | .cell t ty :: l, vs, rd, h, hr => by
   unfold ires at h
   cases hb : Nat.blt t nt with
   | false => rw [hb] at h; cases h
   | true =>
   rw [hb, cond_true] at h
   split at h <;> try cases h
   rename_i r hl
   split at h <;> cases h
   rename_i vs rd hvs
   obtain ⟨t1, t2⟩ := qai hr
   obtain ⟨us, h1, h2⟩ := qil htt p hf hvs t2
   split at hl <;> try cases hl
   rename_i id off hsl
   have hft := hf.get t (by simpa using hb)
   rw [hsl] at hft
   obtain ⟨u, k1, k2⟩ := q4r htt p hl t1 hft
   refine ⟨u :: us, ?_, VRs.cons k2 h2⟩
   have k1' : (qhl tmps (.cell t ty)).run P E.w = .ok u E.w := k1
   simp only [List.mapM_cons, Sem.run_bind, k1', Result.andThen_ok, h1, Sem.run_pure]
def tupI : List IV -> IV
 | [v] => v
 | vs => .tup vs
theorem qt3 {fn : Func} {rs : List ResultVar} {tmps : Array Value} {us : List Value} {w : World} (hr : fn.results = rs.toArray) (h : (rs.mapM (qhl tmps)).run P w = .ok us w) : (results fn tmps).run P w = .ok (tupOf us) w := by
 have e : results fn tmps = (do
     let vs <- rs.toArray.mapM (qhl tmps)
     pure (if h : vs.size = 1 then vs[0] else .tuple vs)) := by
   unfold results; rw [hr]; rfl
 rw [e, List.mapM_toArray]
 simp only [Sem.run_bind, qrx, h, Result.andThen_ok, Sem.run_pure]
 cases us with
 | nil => simp [tupOf]
 | cons v vs => cases vs <;> simp [tupOf]
theorem qsg {vs : List IV} {us : List Value} (h : VRs E vs us) : VR E (tupI vs) (tupOf us) := by
 cases vs with
 | nil => have := h.1; cases us <;> simp at this; exact .tup (us := []) rfl (fun i h => by simp at h)
 | cons v vs =>
   obtain ⟨u, us, rfl, h1, h2⟩ := h.inv
   cases vs with
   | nil => have := h2.1; cases us <;> simp at this; exact h1
   | cons v2 vs =>
     obtain ⟨u2, us, rfl, h3, h4⟩ := h2.inv
     exact .tup h.1 h.2

def qdf : List Nat -> IS -> Option (IS × Nat)
 | [], S => some (S, 0)
 | D :: ds, S => match S.heap.get D with
   | some (.defs true) => match qdf ds (S.set D (.defs false)) with
     | some (S', wr) => some (S', 2 ^ D ||| wr)
     | none => none
   | _ => none
structure Env.Lc (E E' : Env) : Prop where
 alw : ∀ id, E.A id -> E'.A id /\ E'.ρ id = E.ρ id /\ E'.κ id = E.κ id /\ E'.hd id = E.hd id /\ E'.hb id = E.hb id
 kc : ∀ (b : Nat) (cells : Array Value) (t : TypeId) (fz : Nat × Nat), b ∉ E.m -> E.w.heap[b]? = some (.cells cells t fz) -> b ∉ E'.m /\ E'.w.heap[b]? = some (.cells cells t fz)
theorem VR.lc {E E' : Env} (e : E.Lc E') {v : IV} {u : Value} (h : VR E v u) : VR E' v u := by
 induction h with
 | unk u => exact .unk u
 | bool b => exact .bool b
 | int k n h => exact .int k n h
 | str s h => exact .str s h
 | lst0 h => exact .lst0 h
 | lst us h1 h2 h3 hb hh hc _ ih =>
   obtain ⟨k1, k2⟩ := e.kc _ _ _ _ hb hh
   exact .lst us h1 h2 h3 k1 k2 hc ih
 | eptr us hb hh hc _ ih =>
   obtain ⟨k1, k2⟩ := e.kc _ _ _ _ hb hh
   exact .eptr us k1 k2 hc ih
 | arr hA hh => obtain ⟨a1, a2, a3, a4, a5⟩ := e.alw _ hA; exact .arr a1 (a4.trans hh)
 | aptr hA => obtain ⟨a1, a2, _⟩ := e.alw _ hA; rw [<- a2]; exact .aptr a1
 | nilsl => exact .nilsl
 | sl cap hA h1 h2 h3 h4 h5 =>
   obtain ⟨a1, a2, a3, _⟩ := e.alw _ hA
   rw [<- a2]; exact .sl cap a1 h1 h2 (by rw [a3]; exact h3) h4 (by rw [a3]; exact h5)
 | nilptr => exact .nilptr
 | gp hg => exact .gp hg
 | ptr hA => obtain ⟨a1, a2, _⟩ := e.alw _ hA; rw [<- a2]; exact .ptr a1
 | nilmap => exact .nilmap
 | map hA => obtain ⟨a1, a2, _⟩ := e.alw _ hA; rw [<- a2]; exact .map a1
 | nilfn => exact .nilfn
 | fn hl _ ih => exact .fn hl ih
 | yield hA => obtain ⟨a1, a2, _⟩ := e.alw _ hA; rw [<- a2]; exact .yield a1
 | nili => exact .nili
 | iface _ ih => exact .iface ih
 | agg hl _ ih => exact .agg hl ih
 | tup hl _ ih => exact .tup hl ih
theorem VRs.lc {E E' : Env} (e : E.Lc E') {cs : List IV} {us : List Value} (h : VRs E cs us) : VRs E' cs us := ⟨h.1, fun i a b => (h.2 i a b).lc e⟩
theorem FR.lc {E E' : Env} (e : E.Lc E') {n : Nat} {fr : PT IV} {tmps : Array Value} (h : FR E n fr tmps) : FR E' n fr tmps := ⟨h.size, fun t ht => (h.get t ht).lc e⟩
theorem ARel.lc {E E' : Env} (e : E.Lc E') {c : TC} {l : List (El c)} {cells : Array Value} (h : ARel E c l cells) : ARel E' c l cells := by
 obtain ⟨us, h1, h2⟩ := h; exact ⟨us, h1, fun i a j b => (h2 i a j b).lc e⟩
theorem OR.lc {E E' : Env} (e : E.Lc E') {id : Nat} {o : IObj} (hA : E.A id) (hB : o.blk = true -> E.hb id = true) (hs : o.live = true -> E.hb id = true -> E'.w.heap[E.ρ id]? = E.w.heap[E.ρ id]?) (h : OR E id o) : OR E' id o := by
 obtain ⟨a1, a2, a3, a4, a5⟩ := e.alw id hA
 cases o with
 | dead => trivial
 | frz c l => show VR E' (.lst c l) (E'.hd id); rw [a4]; exact VR.lc e h
 | row cs => obtain ⟨cells, t, h1, h2, h3, h4⟩ := h; exact ⟨cells, t, by rw [a2, hs rfl (hB rfl), h1], by rw [a3, h2], h3, h4.lc e⟩
 | arr c l =>
   obtain ⟨a, cap, h1, h2, h3, h4, h5⟩ := h
   refine ⟨a, cap, by rw [a4, h1], h2, h3, h4, ?_⟩
   rcases h5 with ⟨h5, h6⟩ | ⟨h5, h6, cells, t, h7, h8, h9⟩
   · exact .inl ⟨by rw [a5, h5], h6⟩
   · exact .inr ⟨by rw [a5, h5], by rw [a2, h6], cells, t, by rw [a2, hs rfl h5, h7], h8, h9.lc e⟩
 | map es => obtain ⟨ents, c, h1, h2, h3⟩ := h; exact ⟨ents, c, by rw [a2, hs rfl (hB rfl), h1], h2.lc e, h3.lc e⟩
 | tmap k v es => obtain ⟨ents, c, h1, h2, h3⟩ := h; exact ⟨ents, c, by rw [a2, hs rfl (hB rfl), h1], h2.lc e, h3.lc e⟩
 | iter s p => show _ /\ _; rw [a2, hs rfl (hB rfl)]; exact h
 | defs on => show _ = _; rw [a2, hs rfl (hB rfl)]; exact h
 | bld j => obtain ⟨p, v, h1, h2, h3⟩ := h; exact ⟨p, v, by rw [a2, hs rfl (hB rfl), h1], by rw [a2]; exact h2, h3.lc e⟩
 | loop st pend nt fr ps assign body D =>
   obtain ⟨fn, tmps, h1, h2, h3⟩ := h
   obtain ⟨b1, b2, _⟩ := e.alw D h3
   exact ⟨fn, tmps, by rw [a2, hs rfl (hB rfl), h1, b2], h2.lc e, b1⟩
theorem qy2 {B : Nat} {E0 : Env} {S0' : IS} {b : Nat} (p : Pre T E S) (hB : E0.w.heap.size <= b) (hm : b ∉ E.m) (hh : E.w.heap[b]? = some (.deferred (some []))) (k : PostB B T E0 S0' E S) :
   PostB B T E0 S0' (E.at_ (E.w.putObj b (.deferred none))) S /\ Pre T (E.at_ (E.w.putObj b (.deferred none))) S /\ E.Lc (E.at_ (E.w.putObj b (.deferred none))) := by
 have hlc : E.Lc (E.at_ (E.w.putObj b (.deferred none))) := ⟨fun id h => ⟨h, rfl, rfl, rfl, rfl⟩, fun b' cells t fz h1 h2 => ⟨h1, by
   show (E.w.putObj b (.deferred none)).heap[b']? = _
   rw [World.putObj_heap_other (fun e => by rw [e] at h2; rw [hh] at h2; cases h2)]
   exact h2⟩⟩
 have hst : St T.r (E.at_ (E.w.putObj b (.deferred none))) S.H := by
   refine ⟨fun j ht ha o hj => ?_, p.st.blk, p.st.own, p.st.inj, fun b' hb' => ?_⟩
   · refine (p.st.objs j ht ha o hj).lc hlc ha (p.st.blk j ht ha o hj) fun hl hb => ?_
     have := p.st.own j ht ha ⟨hb, o, hj, hl⟩
     exact World.putObj_heap_other (fun e => hm (by rw [<- e]; exact this))
   · show b' < (E.w.putObj b (.deferred none)).heap.size
     have := p.st.lo b' hb'
     simpa using this
 refine ⟨⟨hst, k.os, k.tape, k.output, ?_, fun b' hb' hn => ?_, k.alw, k.new, k.old, k.memo, k.mem, k.bnd, k.le, k.fr⟩, ⟨hst, p.bnd, p.nw, ⟨fun b' hb' => ?_⟩⟩, hlc⟩
 · show _ <= (E.w.putObj b (.deferred none)).heap.size
   have := k.size
   simpa using this
 · show (E.w.putObj b (.deferred none)).heap[b']? = _
   rw [World.putObj_heap_other (by omega)]
   exact k.same b' hb' hn
 · obtain ⟨h1, o, h2, h3⟩ := p.gl.h b' hb'
   refine ⟨h1, o, ?_, h3⟩
   show (E.w.putObj b (.deferred none)).heap[b']? = _
   rw [World.putObj_heap_other (fun e => by
     rw [e, hh] at h2
     obtain ⟨cells, t, fz, h4, _⟩ := h3
     rw [h4] at h2; cases h2)]
   exact h2
theorem qw6 {fn : Func} {tmps : Array Value} {R : Ending -> World -> Prop} {B : Nat} {E0 : Env} {S0' : IS} : ∀ {hid : List Nat} {E : Env}, Pre T E S -> PostB B T E0 S0' E S -> hid.Nodup -> (∀ b ∈ hid, E0.w.heap.size <= b /\ b ∉ E.m /\ E.w.heap[b]? = some (.deferred (some []))) ->
   (∀ E', PostB B T E0 S0' E' S -> Pre T E' S -> (∀ v u, VR E v u -> VR E' v u) -> LeavesInM Fence.wide 0 P fn tmps R [] .returning E'.w) -> LeavesInM Fence.wide 0 P fn tmps R (hidL hid) .returning E.w
 | [], E, p, k, _, _, hk => hk E k p fun _ _ h => h
 | b :: hid, E, p, k, hn, hh, hk => by
   obtain ⟨h1, h2, h3⟩ := hh b List.mem_cons_self
   obtain ⟨g1, g2, g3⟩ := qy2 p h1 h2 h3 k
   obtain ⟨n1, n2⟩ := List.nodup_cons.1 hn
   refine ⟨by simp, .inl ⟨b, _, rfl, run_takeDeferred h3, ?_⟩⟩
   refine qw6 (E := E.at_ (E.w.putObj b (.deferred none))) g2 g1 n2 (fun b' hb' => ?_) fun E' k1 k2 k3 => hk E' k1 k2 fun v u hv => k3 v u (hv.lc g3)
   obtain ⟨c1, c2, c3⟩ := hh b' (List.mem_cons_of_mem _ hb')
   refine ⟨c1, c2, ?_⟩
   show (E.w.putObj b (.deferred none)).heap[b']? = _
   rw [World.putObj_heap_other (fun e => n1 (by rw [<- e]; exact hb'))]
   exact c3
theorem qph {fn : Func} {tmps : Array Value} {R : Ending -> World -> Prop} {B N : Nat} {E0 : Env} {S0' : IS} (hN : E0.w.heap.size <= N) (hT : ∀ id, B <= id -> T.w id) : ∀ {ds : List Nat} {S S' : IS} {E : Env} {dl : List Deferred} {wr : Nat}, Pre T E S -> DS N E ds dl -> PostB B T E0 S0' E S -> qdf ds S = some (S', wr) -> tin T.w wr ->
   (∀ E', PostB B T E0 S0' E' S' -> Pre T E' S' -> (∀ v u, VR E v u -> VR E' v u) -> LeavesInM Fence.wide 0 P fn tmps R [] .returning E'.w) -> LeavesInM Fence.wide 0 P fn tmps R dl .returning E.w
 | [], S, S', E, dl, wr, p, hd, k, h, hw, hk => by
   cases h
   obtain ⟨_, _, hid, h3, h4, h5⟩ := hd
   rw [h3]
   exact qw6 p k h4 (fun b hb => ⟨Nat.le_trans hN (h5 b hb).1, (h5 b hb).2⟩) hk
 | D :: ds, S, S', E, dl, wr, p, hd, k, h, hw, hk => by
   unfold qdf at h
   split at h <;> try cases h
   rename_i hobj
   split at h <;> cases h
   rename_i S' wr hm
   obtain ⟨t1, t2⟩ := qai hw
   obtain ⟨d1, d2, hid, d3, d4, d5⟩ := hd
   have hA := (d2 D List.mem_cons_self).1
   have g1 : E.w.heap[E.ρ D]? = some (.deferred (some [])) := p.st.objs D (T.sub _ (qac t1)) hA _ hobj
   have hL : Live E S.H D := ⟨p.st.blk D (T.sub _ (qac t1)) hA _ hobj rfl, _, hobj, rfl⟩
   obtain ⟨q1, q2⟩ := Post.write p (o' := .defs false) (qac t1) hA hL (Upd.putObj E.w (E.ρ D) (.deferred none)) (World.putObj_heap_same (qam g1))
   have hme := p.st.own D (T.sub _ (qac t1)) hA hL
   rw [d3]
   refine ⟨by simp, .inl ⟨E.ρ D, _, rfl, run_takeDeferred g1, ?_⟩⟩
   refine qph hN hT (E := E.at_ (E.w.putObj (E.ρ D) (.deferred none))) (q1.pre p) ⟨Nat.le_trans d1 q1.stp.size, fun D' hD' => d2 D' (List.mem_cons_of_mem _ hD'), hid, rfl, d4, fun b hb => ?_⟩ (k.trans (PostB.of k.le hT q1 q2)) hm t2 fun E' k1 k2 k3 => hk E' k1 k2 fun v u hv => k3 v u (hv.mono (q1.env p))
   obtain ⟨c1, c2, c3⟩ := d5 b hb
   refine ⟨c1, c2, ?_⟩
   show (E.w.putObj (E.ρ D) (.deferred none)).heap[b]? = _
   rw [World.putObj_heap_other (fun e => c2 (by rw [e]; exact hme))]
   exact c3

def igc (S : IS) (q : Res) : Res :=
 cond (Nat.beq (q.wr % 2 ^ S.next) 0 && low2 S.next q.v) ⟨q.v, S, q.rd % 2 ^ S.next, 0⟩ ⟨q.v, q.S, q.rd % 2 ^ S.next, q.wr % 2 ^ S.next⟩
def Tgc (T : TW) (N : Nat) (h : ∀ id, N <= id -> T.w id) : TW := ⟨T.r, fun id => N <= id, fun id hi => T.sub _ (h id hi)⟩
theorem qni {T : Nat -> Prop} {a N : Nat} (h : tin T (a % 2 ^ N)) (hn : ∀ id, N <= id -> T id) : tin T a := fun j hj => by
 rcases Nat.lt_or_ge j N with h' | h'
 · exact h j (by rw [Nat.testBit_mod_two_pow]; simp [h', hj])
 · exact hn j h'
theorem q28 {a N : Nat} (h : a % 2 ^ N = 0) : tin (fun id => N <= id) a := fun j hj => by
 rcases Nat.lt_or_ge j N with h' | h'
 · have : (a % 2 ^ N).testBit j = true := by rw [Nat.testBit_mod_two_pow]; simp [h', hj]
   rw [h] at this; simp at this
 · exact h'
theorem q3j {q : Res} (p : Pre T E S) (hrd : tin T.r (igc S q).rd) (hwr : tin T.w (igc S q).wr) : ∃ T' : TW, Pre T' E S /\ tin T'.r q.rd /\ tin T'.w q.wr /\ ∀ e w', RetE T' E S q e w' -> RetE T E S (igc S q) e w' := by
 cases hb : (Nat.beq (q.wr % 2 ^ S.next) 0 && low2 S.next q.v) with
 | true =>
   have e : igc S q = ⟨q.v, S, q.rd % 2 ^ S.next, 0⟩ := by unfold igc; rw [hb]; rfl
   rw [e] at hrd ⊢
   simp only [Bool.and_eq_true] at hb
   have hz := Nat.eq_of_beq_eq_true hb.1
   refine ⟨Tgc T S.next p.nw, ⟨p.st, p.bnd, fun id h => h, p.gl⟩, qni hrd (fun id h => T.sub _ (p.nw id h)), q28 hz, fun e w' hR => ?_⟩
   obtain ⟨u, E', rfl, rfl, k1, k2, k3⟩ := hR
   have hu : Upd [] E.w E'.w := ⟨k2.stp.os, k2.stp.tape, k2.stp.output, k2.stp.size, fun b hb _ => k2.stp.same b hb fun id ht ha _ => absurd (p.bnd id ha) (Nat.not_lt.2 ht)⟩
   obtain ⟨q1, q2⟩ := Post.idle p hu
   have hlow : LowOK E' (E.at_ E'.w) S.next := by
     refine ⟨fun id hlt ha => ?_, fun b hb => ?_, rfl⟩
     · have hA : E.A id := Classical.byContradiction fun hn => absurd (k3.fr id ha hn) (by omega)
       obtain ⟨a, b, c, d, e⟩ := k2.stp.alw id hA
       exact ⟨hA, b.symm, c.symm, d.symm, e.symm⟩
     · rcases k2.stp.mem b hb (p.st.lo b hb) with h | ⟨id, c1, c2, _⟩
       · exact h
       · exact absurd (p.bnd id c2) (Nat.not_lt.2 c1)
   exact ⟨u, E.at_ E'.w, rfl, rfl, qdq hlow hb.2 k1, q1, q2⟩
 | false =>
   have e : igc S q = ⟨q.v, q.S, q.rd % 2 ^ S.next, q.wr % 2 ^ S.next⟩ := by unfold igc; rw [hb]; rfl
   rw [e] at hrd hwr ⊢
   exact ⟨T, p, qni hrd (fun id h => T.sub _ (p.nw id h)), qni hwr p.nw, fun e w' hR => hR⟩
theorem igc_fr {q : Res} (h : FrR S q) : FrR S (igc S q) := by
 unfold igc
 cases (Nat.beq (q.wr % 2 ^ S.next) 0 && low2 S.next q.v) with
 | true => exact ⟨Nat.le_refl _, fun _ _ _ => rfl⟩
 | false =>
   refine ⟨h.1, fun id hid hw => h.2 id hid ?_⟩
   have hw : (q.wr % 2 ^ S.next).testBit id = false := hw
   rw [Nat.testBit_mod_two_pow] at hw
   simpa [hid] using hw
end
end Go.Jx
end

section
namespace Go.Jx
open Go Go.Sx Go.RowKit
universe u

def FrX (S S' : IS) (wr : Nat) : Prop := S.next <= S'.next /\ ∀ id, id < S.next -> wr.testBit id = false -> S'.H id = S.H id
theorem FrX.refl (S : IS) (wr : Nat) : FrX S S wr := ⟨Nat.le_refl _, fun _ _ _ => rfl⟩
theorem FrX.trans {S S1 S2 : IS} {w1 w2 : Nat} (h : FrX S S1 w1) (k : FrX S1 S2 w2) : FrX S S2 (w1 ||| w2) :=
 ⟨Nat.le_trans h.1 k.1, fun id hid hb => by
   simp only [Nat.testBit_or, Bool.or_eq_false_iff] at hb
   rw [k.2 id (Nat.lt_of_lt_of_le hid h.1) hb.2, h.2 id hid hb.1]⟩
theorem FrX.set (S : IS) (id : Nat) (o : IObj) : FrX S (S.set id o) (2 ^ id) :=
 ⟨Nat.le_refl _, fun k hk hb => by rw [IS.H_set, up_ne _ _ (qfn hb)]⟩
theorem FrX.new (S : IS) (o : IObj) (wr : Nat) : FrX S (S.new o) wr :=
 ⟨Nat.le_succ _, fun k hk hb => by rw [IS.H_new, up_ne _ _ (by omega)]⟩
theorem FrX.newTrans {S S' : IS} {o : IObj} {wr : Nat} (k : FrX (S.new o) S' wr) : FrX S S' wr := by
 have := (FrX.new S o 0).trans k
 rwa [Nat.zero_or] at this
def FrXB (B : Nat) (S S' : IS) (wr : Nat) : Prop := B <= S'.next /\ ∀ id, id < B -> wr.testBit id = false -> S'.H id = S.H id
theorem FrX.toB {B : Nat} {S S' : IS} {wr : Nat} (hB : B <= S.next) (h : FrX S S' wr) : FrXB B S S' wr := ⟨Nat.le_trans hB h.1, fun id hid hb => h.2 id (Nat.lt_of_lt_of_le hid hB) hb⟩
theorem FrXB.trans {B : Nat} {S S1 S2 : IS} {w1 w2 : Nat} (h : FrXB B S S1 w1) (k : FrXB B S1 S2 w2) : FrXB B S S2 (w1 ||| w2) :=
 ⟨k.1, fun id hid hb => by
   simp only [Nat.testBit_or, Bool.or_eq_false_iff] at hb
   rw [k.2 id hid hb.2, h.2 id hid hb.1]⟩
theorem FrXB.full {S S' : IS} {wr : Nat} (h : FrXB S.next S S' wr) : FrX S S' wr := h
theorem qjh {S S' : IS} {c : TC} {v v' : IV} {w : Nat} (h : coeV S c v = some (v', S', w)) : FrX S S' w := by
 unfold coeV at h
 split at h <;> try cases h
 · exact FrX.new _ _ _
 · split at h <;> try cases h
   rename_i c' l ho
   cases hb : TC.beq c' c <;> rw [hb] at h <;> cases h
   exact FrX.refl _ _
 · rename_i id off len s cap0
   split at h <;> try cases h
   rename_i cs ho
   cases hb : (Nat.beq off 0 && Nat.beq s (csz c) && Nat.ble (len * s) cs.length && Nat.ble (len * bsz c) 140737488355328 && notU8 c) with
   | false => rw [hb] at h; cases h
   | true =>
   rw [hb, cond_true] at h
   split at h <;> cases h
   rename_i l _ _
   have := (FrX.set S id .dead).trans (FrX.new (S.set id .dead) (.arr c l) 0)
   rwa [Nat.or_zero] at this
theorem qw8 {nt : Nat} : ∀ (l : List (Nat × TC)) {fr fr' : PT IV} {S S' : IS} {w : Nat}, coeS nt l fr S = some (fr', S', w) -> FrX S S' w
 | [], fr, fr', S, S', w, h => by cases h; exact FrX.refl _ _
 | (t, c) :: l, fr, fr', S, S', w, h => by
   simp only [coeS] at h
   cases hb : Nat.blt t nt with
   | false => rw [hb] at h; cases h
   | true =>
   rw [hb, cond_true] at h
   split at h
   · cases h
   rename_i h1
   split at h <;> cases h
   rename_i h2
   exact (qjh h1).trans (qw8 l h2)
theorem q0n {fr : PT IV} {S S' : IS} {t off : Nat} {c : TC} {w : Nat} (h : coeC1 fr S t off c = some (S', w)) : FrX S S' w := by
 unfold coeC1 at h
 split at h <;> try cases h
 split at h <;> try cases h
 split at h <;> try cases h
 split at h
 · cases h
 rename_i h1
 split at h <;> try cases h
 rename_i cs1 ho1
 cases hb : Nat.blt _ cs1.length with
 | false => rw [hb] at h; cases h
 | true =>
 rw [hb, cond_true] at h; cases h
 exact (qjh h1).trans (FrX.set _ _ _)
theorem qub {nt : Nat} {fr : PT IV} : ∀ (l : List (Nat × Nat × TC)) {S S' : IS} {w : Nat}, coeC nt fr l S = some (S', w) -> FrX S S' w
 | [], S, S', w, h => by cases h; exact FrX.refl _ _
 | (t, off, c) :: l, S, S', w, h => by
   simp only [coeC] at h
   cases hb : Nat.blt t nt with
   | false => rw [hb] at h; cases h
   | true =>
   rw [hb, cond_true] at h
   split at h
   · cases h
   rename_i h1
   split at h <;> cases h
   rename_i h2
   exact (q0n h1).trans (qub l h2)
theorem qkj {kc vc : TC} {v : IV} {S S' : IS} {w : Nat} (h : coeM1 S kc vc v = some (S', w)) : FrX S S' w := by
 unfold coeM1 at h
 split at h <;> try cases h
 split at h <;> try cases h
 · cases hb : (qbw kc && qbw vc) with
   | false => rw [hb] at h; cases h
   | true =>
   rw [hb, cond_true] at h
   split at h <;> cases h
   exact FrX.set _ _ _
 · exact FrX.refl _ _
theorem qsz {nt : Nat} {fr : PT IV} : ∀ (l : List (Nat × TC × TC)) {S S' : IS} {w : Nat}, coeM nt fr l S = some (S', w) -> FrX S S' w
 | [], S, S', w, h => by cases h; exact FrX.refl _ _
 | (t, kc, vc) :: l, S, S', w, h => by
   simp only [coeM] at h
   cases hb : Nat.blt t nt with
   | false => rw [hb] at h; cases h
   | true =>
   rw [hb, cond_true] at h
   split at h
   · cases h
   rename_i h1
   split at h <;> cases h
   rename_i h2
   exact (qkj h1).trans (qsz l h2)
theorem qud {nt : Nat} {fr : PT IV} : ∀ (l : List (Nat × Nat × TC × TC)) {S S' : IS} {w : Nat}, coeD nt fr l S = some (S', w) -> FrX S S' w
 | [], S, S', w, h => by cases h; exact FrX.refl _ _
 | (t, off, kc, vc) :: l, S, S', w, h => by
   simp only [coeD] at h
   cases hb : Nat.blt t nt with
   | false => rw [hb] at h; cases h
   | true =>
   rw [hb, cond_true] at h
   split at h
   · cases h
   split at h
   · cases h
   rename_i h1
   split at h <;> cases h
   rename_i h2
   exact (FrX.refl S _).trans ((qkj h1).trans (qud l h2))
theorem qvs {S : IS} {B : Nat} : ∀ {k id : Nat}, id < k -> (qj9 S B k).testBit id = false -> ∀ o, S.heap.get id = some o -> lowO B o = true
 | 0, id, h, _, o, _ => absurd h (by omega)
 | k + 1, id, h, hb, o, ho => by
   unfold qj9 at hb
   rw [Nat.testBit_or, Bool.or_eq_false_iff] at hb
   by_cases e : id = k
   · subst e
     have h2 := hb.2
     rw [ho] at h2
     cases hl : lowO B o with
     | true => rfl
     | false => simp only [hl, cond_false, Nat.testBit_two_pow_self] at h2; cases h2
   · exact qvs (by omega) hb.1 o ho
theorem qvt : ∀ {ds : List Nat} {S S' : IS} {w : Nat}, sealD ds S = some (S', w) -> FrX S S' w
 | [], S, S', w, h => by cases h; exact FrX.refl _ _
 | D :: ds, S, S', w, h => by
   unfold sealD at h
   split at h <;> try cases h
   split at h <;> cases h
   rename_i h1
   exact (FrX.set _ _ _).trans (qvt h1)
theorem q18 {nt B : Nat} {m : Option Nm} {fr : PT IV} {S : IS} {ds : List Nat} {x : NRes} (hB : B <= S.next) (h : inorm nt m B fr S ds = some x) : FrXB B S x.S x.wr := by
 unfold inorm at h
 split at h
 · cases h; exact (FrX.refl _ _).toB hB
 rename_i m
 cases hfo : m.fo with
 | true => rw [hfo, cond_true] at h; cases h; exact (FrX.refl _ _).toB hB
 | false =>
 rw [hfo, cond_false] at h
 split at h
 · cases h
 rename_i fr1 S1 w1 h1
 split at h
 · cases h
 rename_i S2 w2 h2
 split at h
 · cases h
 rename_i S3 w3 h3
 split at h
 · cases h
 rename_i S4 w4 h4
 split at h
 · cases h
 rename_i S5 w5 h5
 simp only at h
 generalize clos S5 B 1000 (m.keep.flatMap (fun t => ids2 (slot fr1 t)) ++ qh7 S5 B) [] = q at h
 cases hb : (ndB q && q.all (fun id => Nat.ble B id)) with
 | false => rw [hb] at h; cases h
 | true =>
 rw [hb, cond_true] at h; cases h
 have f4 := ((qw8 _ h1).trans ((qub _ h2).trans ((qsz _ h3).trans ((qud _ h4).trans (qvt h5))))).toB hB
 refine f4.trans ⟨Nat.le_add_right _ _, fun id hid hbit => ?_⟩
 rw [qpg, if_pos hid]
 unfold IS.H
 cases ho : S5.heap.get id with
 | none => rfl
 | some o => simp only [qdr, qvs hid hbit o ho, cond_true]
section
variable {P : Program} {tt : Nat -> Option TI} {T : TW} {nt lf : Nat} {cl : Cl} {F : Fence} {round : Option Nat} {nm : Nat -> Option Nm} {B : Nat}
theorem qly (hcl : ClFr cl) {ops : List Oper} : ∀ {l : List Oper} {fr : PT IV} {S : IS} {q : FRes}, iseq P tt nt cl ops l fr S = some q -> FrX S q.S q.wr
 | [], fr, S, q, h => by cases h; exact FrX.refl _ _
 | o :: l, fr, S, q, h => by
   unfold iseq at h
   cases hgk : gOK ops fr o.guard with
   | false => rw [hgk] at h; cases h
   | true =>
   rw [hgk, cond_true] at h
   cases hw : wantI ops nt fr o.guard with
   | true =>
     rw [hw, cond_true] at h
     split at h
     · cases h
     rename_i r hr
     split at h <;> cases h
     rename_i q hq
     exact FrX.trans (qox hcl _ hr) (qly hcl hq)
   | false => rw [hw, cond_false] at h; exact qly hcl h
theorem qkv (hcl : ClFr cl) {ops : List Oper} : ∀ {l : List Oper} {fr : PT IV} {S : IS} {q : Recs}, irecs P tt nt cl ops l fr S = some q -> FrX S q.S (orWr q.l)
 | [], fr, S, q, h => by cases h; exact FrX.refl _ _
 | o :: l, fr, S, q, h => by
   unfold irecs at h
   cases hgk : gOK ops fr o.guard with
   | false => rw [hgk] at h; cases h
   | true =>
   rw [hgk, cond_true] at h
   cases hw : wantI ops nt fr o.guard with
   | true =>
     rw [hw, cond_true] at h
     split at h
     · cases h
     rename_i r hr
     split at h <;> cases h
     rename_i q hq
     exact FrX.trans (qox hcl _ hr) (qkv hcl hq)
   | false =>
     rw [hw, cond_false] at h
     split at h <;> cases h
     rename_i q hq
     have := qkv hcl hq
     show FrX S q.S (0 ||| orWr q.l)
     rw [Nat.zero_or]; exact this
theorem iany_fr (hcl : ClFr cl) {ops : List Oper} {fr : PT IV} {S : IS} {q : FRes} (h : iany P tt nt cl ops fr S = some q) : FrX S q.S q.wr := by
 unfold iany at h
 split at h
 · cases h
 rename_i q0 hq
 cases hc : ichk q0.l q0.S (befs ops []) [] with
 | true => rw [hc, cond_true] at h; cases h; exact qkv hcl hq
 | false => rw [hc] at h; cases h
theorem qsp (hcl : ClFr cl) {f : Nat} {caps : List IV} {S : IS} {id : Nat} {fr : PT IV} {ds : List Nat} {rd : Nat} {r : CRes} (h : ifin cl f caps S id fr ds rd = some r) : FrX S r.S r.wr := by
 unfold ifin at h
 split at h
 · cases h
 rename_i r1 hr1
 have h1 : FrX S r1.S r1.wr := hcl _ _ _ _ hr1
 split at h <;> try cases h
 split at h
 · cases h
 · split at h
   · cases h; exact FrX.trans h1 (FrX.set _ _ _)
   · split at h <;> cases h
     exact FrX.trans h1 (FrX.set _ _ _)
theorem qoc {B : Nat} {S : IS} {r : CRes} (h : FrXB B S r.S r.wr) : FrXB B S (mbR B r).S (mbR B r).wr := by
 refine ⟨h.1, fun id hid hb => ?_⟩
 have hb : (mb B r.wr).testBit id = false := hb
 unfold mb at hb
 cases h0 : Nat.beq B 0 with
 | true =>
   have : B = 0 := Nat.eq_of_beq_eq_true h0
   omega
 | false => rw [h0] at hb; exact h.2 id hid hb
theorem qme (hz : frzF nm = false) (hcl : ClFr cl) : ∀ (c : Code) {fr : PT IV} {S : IS} {ds : List Nat} {r : CRes}, B <= S.next -> icode P tt nm B nt cl lf round c fr S ds = some r -> FrXB B S r.S r.wr := by
 have eB : mB nm B = B := by unfold mB; rw [hz]; rfl
 intro c
 induction c with
 | skip => intro fr S ds r hB h; cases h; exact (FrX.refl _ _).toB hB
 | label l => intro fr S ds r hB h; cases h; exact (FrX.refl _ _).toB hB
 | exit id => intro fr S ds r hB h; cases h; exact (FrX.refl _ _).toB hB
 | goto l => intro fr S ds r hB h; cases h; exact (FrX.refl _ _).toB hB
 | ret => intro fr S ds r hB h; cases h; exact (FrX.refl _ _).toB hB
 | refuse _ => intro fr S ds r hB h; cases h
 | region id ops draw =>
   intro fr S ds r hB h
   simp only [icode] at h
   have h0 := qcp h; clear h; obtain ⟨r, h, rfl⟩ := h0
   rw [eB]
   refine qoc ?_
   split at h
   · cases h
   rename_i x hx
   split at h <;> cases h
   rename_i q hq
   have h0 := q18 hB hx
   cases draw with
   | true => rw [cond_true] at hq; exact h0.trans ((iany_fr hcl hq).toB h0.1)
   | false => rw [cond_false] at hq; exact h0.trans ((qly hcl hq).toB h0.1)
 | seq x y ihx ihy =>
   intro fr S ds r hB h
   simp only [icode] at h
   split at h
   · cases h
   rename_i r1 hr1
   split at h
   · split at h <;> cases h
     rename_i q hq
     exact FrXB.trans (ihx hB hr1) (ihy (ihx hB hr1).1 hq)
   · cases h; exact ihx hB hr1
 | cond c x y ihx ihy =>
   intro fr S ds r hB h
   simp only [icode] at h
   split at h <;> try cases h
   rename_i b hb
   cases b with
   | true => exact ihx hB h
   | false => exact ihy hB h
 | block id c ih =>
   intro fr S ds r hB h
   simp only [icode] at h
   split at h
   · cases h
   rename_i r1 hr1
   split at h
   · rename_i id' he
     cases hid : Nat.beq id' id with
     | true => rw [hid, cond_true] at h; cases h; exact (ih hB hr1 : FrXB B S r1.S r1.wr)
     | false => rw [hid, cond_false] at h; cases h; exact ih hB hr1
   · cases h; exact ih hB hr1
 | scope c ih =>
   intro fr S ds r hB h
   simp only [icode] at h
   split at h
   · cases h
   rename_i r1 hr1
   split at h
   · cases h
   · cases h; exact ih hB hr1
 | loop c ih =>
   intro fr S ds r hB h
   simp only [icode] at h
   split at h
   · rename_i m hm
     have h0 := qcp h; clear h; obtain ⟨r, h, rfl⟩ := h0
     rw [eB]
     refine qoc ?_
     have key : ∀ (j : Nat) (fr : PT IV) (S : IS) (ds : List Nat) (r : CRes), B <= S.next -> qbc (icode P tt nm B nt cl lf round c) m.1 m.2 j fr S ds = some r -> FrXB B S r.S m.2 /\ r.wr = m.2 := by
       intro j
       induction j with
       | zero => intro fr S ds r hB h; cases h
       | succ j ihj =>
         intro fr S ds r hB h
         unfold qbc at h
         split at h
         · cases h
         rename_i r1 hr1
         cases hb : (subm r1.rd m.1 && subm r1.wr m.2) with
         | false => rw [hb] at h; cases h
         | true =>
         rw [hb, cond_true] at h
         simp only [Bool.and_eq_true] at hb
         have f1 := ih hB hr1
         have e : r1.wr ||| m.2 = m.2 := Nat.eq_of_beq_eq_true hb.2
         split at h
         · obtain ⟨f2, e2⟩ := ihj _ _ _ _ f1.1 h
           have := f1.trans f2
           rw [e] at this
           exact ⟨this, e2⟩
         · cases h
           have := f1.trans (FrX.refl r1.S m.2 |>.toB f1.1)
           rw [e] at this
           exact ⟨this, rfl⟩
     obtain ⟨k1, k2⟩ := key _ _ _ _ _ hB h
     rw [k2]; exact k1
   have key : ∀ (j : Nat) (fr : PT IV) (S : IS) (ds : List Nat) (r : CRes), B <= S.next -> iiter (icode P tt nm B nt cl lf round c) j fr S ds = some r -> FrXB B S r.S r.wr := by
     intro j
     induction j with
     | zero => intro fr S ds r hB h; cases h
     | succ j ihj =>
       intro fr S ds r hB h
       unfold iiter at h
       split at h
       · cases h
       rename_i r1 hr1
       split at h
       · split at h <;> cases h
         rename_i q hq
         exact FrXB.trans (ih hB hr1) (ihj _ _ _ _ (ih hB hr1).1 hq)
       · cases h; exact ih hB hr1
   exact key _ _ _ _ _ hB h
 | rangeFunc g ps assign body ih1 ih2 =>
   intro fr S ds r hB h
   simp only [icode] at h
   have h0 := qcp h; clear h; obtain ⟨r, h, rfl⟩ := h0
   rw [eB]
   refine qoc ?_
   split at h <;> try cases h
   split at h
   · exact (FrX.newTrans (FrX.newTrans (qsp hcl h))).toB hB
   · split at h <;> try cases h
     exact (FrX.newTrans (qsp hcl h)).toB hB

def setPs : List Nat -> List IV -> PT IV -> PT IV
 | t :: ts, v :: vs, fr => setPs ts vs (fr.set v t)
 | _, _, fr => fr
theorem qmx {E : Env} : ∀ {ps : List Nat} {vs : List IV} {us : List Value} {fr : PT IV} {tmps : Array Value}, VRs E vs us -> FR E nt fr tmps -> FR E nt (setPs ps vs fr) ((ps.zip us).foldl (fun tmps (t, a) => tmps.setIfInBounds t a) tmps)
 | [], vs, us, fr, tmps, hv, hf => by simpa [setPs] using hf
 | t :: ps, [], us, fr, tmps, hv, hf => by
   have := hv.1
   cases us with
   | nil => simpa [setPs] using hf
   | cons u us => simp at this
 | t :: ps, v :: vs, us, fr, tmps, hv, hf => by
   obtain ⟨u, us, rfl, h1, h2⟩ := hv.inv
   simp only [setPs, List.zip_cons_cons, List.foldl_cons]
   exact qmx h2 (hf.put h1)
def endOf : IEx -> Option Code
 | .normal => none
 | .ret => some .ret
 | .exit id => some (.exit id)
 | .goto l => some (.goto l)
def qcm (P : Program) (tt : Nat -> Option TI) (cl : Cl) (lf : Nat) (id : Nat) (vs : List IV) (S : IS) : Option Res :=
 match S.heap.get id with
 | some (.loop .ready _ nt fr ps assign body _) => cond (Nat.beq vs.length ps.length && qan assign && qan body)
   (match icode P tt (fun _ => none) S.next nt cl lf (some id) assign (setPs ps vs fr) S [] with
   | none => none
   | some r1 => match r1.e with
     | .normal => match r1.S.heap.get id with
       | some (.loop .ready pend nt2 fr2 ps2 as2 bd2 D2) => match icode P tt (fun _ => none) S.next nt cl lf (some id) body r1.fr (r1.S.set id (.loop .busy pend nt2 fr2 ps2 as2 bd2 D2)) r1.ds with
         | none => none
         | some r2 => match r2.S.heap.get id with
           | some (.loop _ _ nt3 fr3 ps3 as3 bd3 D3) => some ⟨.bool (endOf r2.e).isNone, r2.S.set id (.loop (if (endOf r2.e).isNone then .ready else .done) (endOf r2.e) nt3 fr3 ps3 as3 bd3 D3), 2 ^ id ||| (r1.rd ||| r2.rd), (r1.wr ||| 2 ^ id) ||| (r2.wr ||| 2 ^ id)⟩
           | _ => none
       | _ => none
     | _ => none) none
 | _ => none
theorem q1j (hcl : ClFr cl) {id : Nat} {vs : List IV} {S : IS} : FrO S (qcm P tt cl lf id vs S) := by
 intro r h
 unfold qcm at h
 split at h <;> try cases h
 rename_i x nt fr ps assign body y hobj
 cases hb : (Nat.beq vs.length ps.length && qan assign && qan body) with
 | false => rw [hb] at h; cases h
 | true =>
 rw [hb, cond_true] at h
 split at h
 · cases h
 rename_i r1 hr1
 split at h <;> try cases h
 split at h <;> try cases h
 split at h
 · cases h
 rename_i r2 hr2
 split at h <;> cases h
 have a1 := qme rfl hcl _ (Nat.le_refl _) hr1
 have a3 := qme (S := r1.S.set id _) rfl hcl _ a1.1 hr2
 exact (a1.trans ((FrX.set r1.S id _).toB a1.1)).trans (a3.trans ((FrX.set r2.S id _).toB a3.1))
theorem q4m (hm : P.follows .mixedOrders = true) (hcl : ClOK P cl) (hfr : ClFr cl) (htt : TT P tt) {id : Nat} {vs : List IV} {S : IS} {r : Res} (h : qcm P tt cl lf id vs S = some r)
   (T : TW) (E : Env) (us : List Value) (p : Pre T E S) (hrd : tin T.r r.rd) (hwr : tin T.w r.wr) (hv : VRs E vs us) (hA : E.A id) : YieldAt Fence.wide 0 P (E.ρ id) us.toArray E.w (RetE T E S r) := by
 unfold qcm at h
 split at h <;> try cases h
 rename_i pd nt fr ps assign body D hobj
 cases hb : (Nat.beq vs.length ps.length && qan assign && qan body) with
 | false => rw [hb] at h; cases h
 | true =>
 rw [hb, cond_true] at h
 simp only [Bool.and_eq_true] at hb
 obtain ⟨⟨hb1, hb2⟩, hb3⟩ := hb
 have hlen := Nat.eq_of_beq_eq_true hb1
 split at h
 · cases h
 rename_i r1 hr1
 split at h <;> try cases h
 rename_i he1
 split at h <;> try cases h
 rename_i pend nt2 fr2 ps2 as2 bd2 D2 hobj1
 split at h
 · cases h
 rename_i r2 hr2
 split at h <;> cases h
 rename_i st3 pd3 nt3 fr3 ps3 as3 bd3 D3 hobj2
 obtain ⟨t1, t2⟩ := qai hrd
 obtain ⟨t3, t4⟩ := qai t2
 obtain ⟨v1, v2⟩ := qai hwr
 obtain ⟨v3, v4⟩ := qai v1
 obtain ⟨v5, _⟩ := qai v2
 obtain ⟨fn, tmps, g1, g2, g3⟩ := p.st.objs id (qac t1) hA _ hobj
 have hy := run_yield (P := P) (args := us.toArray) g1 (by simp only [List.size_toArray]; rw [<- hv.1, hlen])
 have hz : (ps.toArray.zip us.toArray).foldl (fun tmps (t, a) => tmps.setIfInBounds t a) tmps = (ps.zip us).foldl (fun tmps (t, a) => tmps.setIfInBounds t a) tmps := by
   simp [List.zip_toArray]
 refine ⟨fn, _, assign, body, hy, roundIn_of_wpIn trivial ?_⟩
 have hFp : (Fence.wide.inRound (E.ρ id)).plain = Fence.wide := rfl
 refine qe0 (T := T) (E := E) (a := { tmps := _, defers := [] }) (S := S) (ds := []) (round := some id) (B := S.next) (fun h => (by cases h)) hm hFp hcl hfr htt assign hb2 p (Nat.le_refl _) p.nw ?_ (DS.nil (N := 0) (Nat.zero_le _)) (fun _ => ⟨rfl, hA, p.bnd id hA⟩) hr1 t3 v3 ?_
 · have := qmx (ps := ps) hv g2
   rw [<- hz] at this; exact this
 intro E1 a1 k1 k2 kB
 obtain ⟨k3, k4⟩ := kB.full p
 rw [he1]
 have p1 := k3.pre p
 have hle1 := k3.env p
 obtain ⟨a1', a2', a3'⟩ := hle1.alw id hA
 obtain ⟨fn1, tmps1, g1', g2', g3'⟩ := p1.st.objs id (qac t1) a1' _ hobj1
 rw [a2'] at g1'
 have hbg := run_beginRound (P := P) g1' rfl
 have hL : Live E1 r1.S.H id := ⟨p1.st.blk id (qac t1) a1' _ hobj1 rfl, _, hobj1, rfl⟩
 have hu1 : Upd [E1.ρ id] E1.w (E1.w.putObj (E.ρ id) (.loop { state := .busy, pending := pend, fn := fn1, tmps := tmps1, params := ps2.toArray, assign := as2, body := bd2, defers := E1.ρ D2 })) := by rw [a2']; exact Upd.putObj _ _ _
 obtain ⟨q1, q2⟩ := Post.write p1 (o' := .loop .busy pend nt2 fr2 ps2 as2 bd2 D2) (qac v4) a1' hL hu1
   ⟨fn1, tmps1, by
     rw [show (E1.at_ (E1.w.putObj (E.ρ id) (.loop { state := .busy, pending := pend, fn := fn1, tmps := tmps1, params := ps2.toArray, assign := as2, body := bd2, defers := E1.ρ D2 }))).ρ id = E.ρ id from a2']
     exact World.putObj_heap_same (qam g1'), FR.mono (Env.at_le p1.st (qac v4) a1' hL hu1) g2', g3'⟩
 have p2 := q1.pre p1
 have hle2 := q1.env p1
 have q3 := Post.trans p k3 k4 q1
 have q4 := k4.trans q2 k3.le
 refine ⟨_, hbg, ?_⟩
 obtain ⟨E2, hE2⟩ : ∃ E2, E1.at_ (E1.w.putObj (E.ρ id) (.loop { state := .busy, pending := pend, fn := fn1, tmps := tmps1, params := ps2.toArray, assign := as2, body := bd2, defers := E1.ρ D2 })) = E2 := ⟨_, rfl⟩
 have hw2 : E1.w.putObj (E.ρ id) (.loop { state := .busy, pending := pend, fn := fn1, tmps := tmps1, params := ps2.toArray, assign := as2, body := bd2, defers := E1.ρ D2 }) = E2.w := by rw [<- hE2]; rfl
 have hleE2 : E.Le E2 := by rw [<- hE2]; exact hle1.trans hle2
 rw [hE2] at p2 hle2 q3 q4
 show body.wpIn _ 0 P _ a1 (E1.w.putObj (E.ρ id) (.loop { state := .busy, pending := pend, fn := fn1, tmps := tmps1, params := ps2.toArray, assign := as2, body := bd2, defers := E1.ρ D2 }))
 rw [hw2]
 obtain ⟨b1, b2, b3⟩ := hleE2.alw id hA
 refine qe0 (T := T) (E := E2) (a := a1) (round := some id) (B := S.next) (fun h => (by cases h)) hm hFp hcl hfr htt body hb3 p2 q3.le p.nw (k1.mono hle2) (k2.mono hle2 (by rw [<- hE2]; exact q1.stp.size)) (fun _ => ⟨by show some (E.ρ id) = some (E2.ρ id); rw [b2], b1, p.bnd id hA⟩) hr2 t4 v5 ?_
 intro E3 a3 m1 m2 mB
 obtain ⟨q5, q6⟩ := PostB.full p ((PostB.of (Nat.le_refl _) p.nw q3 q4).trans mB)
 have p3 := q5.pre p
 have hle3 := q5.env p
 obtain ⟨c1, c2, c3⟩ := hle3.alw id hA
 obtain ⟨fn3, tmps3, g13, g23, g33⟩ := p3.st.objs id (qac t1) c1 _ hobj2
 rw [c2] at g13
 have hend := fun j => run_endRound (P := P) j g13
 have hL3 : Live E3 r2.S.H id := ⟨p3.st.blk id (qac t1) c1 _ hobj2 rfl, _, hobj2, rfl⟩
 have fin : ∀ (st : LoopState) (pe : Option Code), RetE T E S ⟨.bool pe.isNone, r2.S.set id (.loop st pe nt3 fr3 ps3 as3 bd3 D3), 2 ^ id ||| (r1.rd ||| r2.rd), (r1.wr ||| 2 ^ id) ||| (r2.wr ||| 2 ^ id)⟩ (.returned (.bool pe.isNone)) (E3.w.putObj (E.ρ id) (.loop { state := st, pending := pe, fn := fn3, tmps := tmps3, params := ps3.toArray, assign := as3, body := bd3, defers := E3.ρ D3 })) := fun st pe => by
   have hu3 : Upd [E3.ρ id] E3.w (E3.w.putObj (E.ρ id) (.loop { state := st, pending := pe, fn := fn3, tmps := tmps3, params := ps3.toArray, assign := as3, body := bd3, defers := E3.ρ D3 })) := by rw [c2]; exact Upd.putObj _ _ _
   obtain ⟨z1, z2⟩ := Post.write p3 (o' := .loop st pe nt3 fr3 ps3 as3 bd3 D3) (qac v4) c1 hL3 hu3
     ⟨fn3, tmps3, by
       rw [show (E3.at_ (E3.w.putObj (E.ρ id) (.loop { state := st, pending := pe, fn := fn3, tmps := tmps3, params := ps3.toArray, assign := as3, body := bd3, defers := E3.ρ D3 }))).ρ id = E.ρ id from c2]
       exact World.putObj_heap_same (qam g13), FR.mono (Env.at_le p3.st (qac v4) c1 hL3 hu3) g23, g33⟩
   exact ⟨_, _, rfl, rfl, .bool _, Post.trans p q5 q6 z1, q6.trans z2 q5.le⟩
 cases he : r2.e with
 | normal => exact ⟨_, _, hend none, by simpa [he, endOf] using fin .ready none⟩
 | ret => exact ⟨_, _, hend (some .ret), by simpa [he, endOf] using fin .done (some .ret)⟩
 | exit i => exact ⟨_, _, hend (some (.exit i)), by simpa [he, endOf] using fin .done (some (.exit i))⟩
 | goto l => exact ⟨_, _, hend (some (.goto l)), by simpa [he, endOf] using fin .done (some (.goto l))⟩

def qcc (tt : Nat -> Option TI) (nt : Nat) (res : List ResultVar) (S0 : IS) (r : CRes) : Option Res :=
 match qdf r.ds r.S with
 | none => none
 | some (S', wr) => match ires tt nt r.fr S' res with
   | none => none
   | some (vs, rd) => some (igc S0 ⟨tupI vs, S', r.rd ||| rd, r.wr ||| wr⟩)
def IEx.leaves : IEx -> Bool
 | .normal => true
 | .ret => true
 | _ => false
def Calm (cl : Cl) : Prop := ∀ tgt vs S r, cl tgt vs S = some r -> r.wr = 0 -> low2 S.next r.v = true -> r.S = S
abbrev Ex := Nat -> Option (Cl -> List IV -> IS -> Option Res)
structure ExOK (P : Program) (ex : Ex) : Prop where
 fn : ∀ f g, ex f = some g -> ∀ cl, ClOK P cl -> ClFr cl -> Calm cl -> ∀ vs S r, g cl vs S = some r -> ∀ (T : TW) (E : Env) (us : List Value), Pre T E S -> tin T.r r.rd -> tin T.w r.wr -> VRs E vs us -> qag P f /\ CallsIn Fence.wide 0 P f us.toArray E.w (RetE T E S r)
 fr : ∀ f g, ex f = some g -> ∀ cl, ClFr cl -> ∀ vs S, FrO S (g cl vs S)
 calm : ∀ f g, ex f = some g -> ∀ cl, Calm cl -> ∀ vs S r, g cl vs S = some r -> r.wr = 0 -> low2 S.next r.v = true -> r.S = S
def icall (P : Program) (tt : Nat -> Option TI) (ft : Nat -> Option FI) (nm : Nat -> Nat -> Option Nm) (ex : Ex) (lf : Nat) : Nat -> Cl
 | 0, _, _, _ => none
 | n + 1, tgt, vs, S => match tgt with
   | .yield id => qcm P tt (icall P tt ft nm ex lf n) lf id vs S
   | .fn f => match ex f with
     | some g => g (icall P tt ft nm ex lf n) vs S
     | none => match ft f with
       | none => none
       | some fi => cond (frzF (nm f)) none (cond (Nat.ble vs.length fi.nt) (match icode P tt (nm f) S.next fi.nt (icall P tt ft nm ex lf n) lf none fi.body (argGo vs 0 .leaf) S [] with
       | none => none
       | some r => cond r.e.leaves (qcc tt fi.nt fi.res S r) none) none)
theorem qww : ∀ {ds : List Nat} {S S' : IS} {wr : Nat}, qdf ds S = some (S', wr) -> FrX S S' wr
 | [], S, S', wr, h => by cases h; exact FrX.refl _ _
 | D :: ds, S, S', wr, h => by
   unfold qdf at h
   split at h <;> try cases h
   split at h <;> cases h
   rename_i S' wr hm
   exact FrX.trans (FrX.set _ _ _) (qww hm)
theorem qy7 {res : List ResultVar} {S0 : IS} {r : CRes} (h0 : FrX S0 r.S r.wr) : FrO S0 (qcc tt nt res S0 r) := by
 intro q h
 unfold qcc at h
 split at h
 · cases h
 rename_i S' wr hm
 split at h <;> cases h
 exact igc_fr (FrX.trans h0 (qww hm))
variable {ft : Nat -> Option FI} {nmt : Nat -> Nat -> Option Nm} {ex : Ex}
theorem qdi (hex : ExOK P ex) : ∀ n, ClFr (icall P tt ft nmt ex lf n)
 | 0 => fun tgt vs S => FrO.none
 | n + 1 => fun tgt vs S => by
   unfold icall
   cases tgt with
   | yield id => exact q1j (qdi hex n)
   | fn f =>
     simp only
     split
     · rename_i g hg
       exact hex.fr f g hg _ (qdi hex n) vs S
     split
     · exact FrO.none
     rename_i fi hfi
     cases hz : frzF (nmt f) with
     | true => exact FrO.none
     | false =>
     simp only [cond_false]
     apply FrO.cond
     · split
       · exact FrO.none
       rename_i r hr
       apply FrO.cond
       · exact qy7 (qme hz (qdi hex n) _ (Nat.le_refl _) hr).full
       · exact FrO.none
     · exact FrO.none
theorem q08 {id : Nat} {vs : List IV} {S : IS} {r : Res} (h : qcm P tt cl lf id vs S = some r) (hw : r.wr = 0) : False := by
 unfold qcm at h
 split at h <;> try cases h
 rename_i pe nt fr ps assign body D ho
 cases hb : (Nat.beq vs.length ps.length && qan assign && qan body) with
 | false => rw [hb] at h; cases h
 | true =>
 rw [hb, cond_true] at h
 split at h
 · cases h
 split at h <;> try cases h
 split at h <;> try cases h
 split at h
 · cases h
 split at h <;> cases h
 have h1 := (or_zero hw).1
 have h2 := (or_zero h1).2
 have := Nat.one_le_two_pow (n := id)
 omega
theorem q1v {S : IS} {q : Res} (hw : (igc S q).wr = 0) (hv : low2 S.next (igc S q).v = true) : (igc S q).S = S := by
 unfold igc at hw hv ⊢
 cases hb : (Nat.beq (q.wr % 2 ^ S.next) 0 && low2 S.next q.v) with
 | true => rfl
 | false =>
   rw [hb, cond_false] at hw hv
   rw [Bool.and_eq_false_iff] at hb
   rcases hb with hb | hb
   · rw [show q.wr % 2 ^ S.next = 0 from hw] at hb; cases hb
   · rw [show low2 S.next q.v = true from hv] at hb; cases hb
theorem qsq (hex : ExOK P ex) : ∀ n, Calm (icall P tt ft nmt ex lf n)
 | 0 => fun tgt vs S r h => by cases h
 | n + 1 => fun tgt vs S r h hw hv => by
   unfold icall at h
   cases tgt with
   | yield id => exact (q08 h hw).elim
   | fn f =>
     simp only at h
     split at h
     · rename_i g hg
       exact hex.calm f g hg _ (qsq hex n) vs S r h hw hv
     split at h
     · cases h
     rename_i fi hfi
     cases hz : frzF (nmt f) with
     | true => rw [hz] at h; cases h
     | false =>
     rw [hz, cond_false] at h
     cases hb : Nat.ble vs.length fi.nt with
     | false => rw [hb] at h; cases h
     | true =>
     rw [hb, cond_true] at h
     split at h
     · cases h
     rename_i r1 hr1
     cases hl : r1.e.leaves with
     | false => rw [hl] at h; cases h
     | true =>
     rw [hl, cond_true] at h
     unfold qcc at h
     split at h
     · cases h
     split at h <;> cases h
     exact q1v hw hv
theorem qvi {fi : FI} {f : Nat} {nm : Nat -> Option Nm} {vs : List IV} {S : IS} {r1 : CRes} {r : Res} (hz : frzF nm = false) (hm : P.follows .mixedOrders = true) (htt : TT P tt)
   (hfi : ∃ fn, P.funcs[f]? = some fn /\ fn.body = some fi.body /\ fn.ntmps = fi.nt /\ fn.results = fi.res.toArray /\ (fn.name == "runtime.NumGoroutine") = false /\ qan fi.body = true) (hcl : ClOK P cl) (hfr : ClFr cl)
   (hb : Nat.ble vs.length fi.nt = true) (hr1 : icode P tt nm S.next fi.nt cl lf none fi.body (argGo vs 0 .leaf) S [] = some r1) (hl : r1.e.leaves = true) (h : qcc tt fi.nt fi.res S r1 = some r)
   {T : TW} {E : Env} {us : List Value} (p : Pre T E S) (hrd : tin T.r r.rd) (hwr : tin T.w r.wr) (hv : VRs E vs us) : qag P f /\ CallsIn Fence.wide 0 P f us.toArray E.w (RetE T E S r) := by
 unfold qcc at h
 split at h
 · cases h
 rename_i S' wr hmk
 split at h <;> cases h
 rename_i vs' rd' hres
 obtain ⟨fn, f1, f2, f3, f4, f5, f6⟩ := hfi
 refine ⟨⟨fn, f1, by rw [f2]; rfl, f5⟩, ?_⟩
 obtain ⟨T', p', t1, t2, hback⟩ := q3j p hrd hwr
 obtain ⟨u1, u2⟩ := qai t1
 obtain ⟨u3, u4⟩ := qai t2
 refine callsIn_of_wp_marks f1 f2 trivial ?_
 refine qe0 (T := T') (E := E) (S := S) (ds := []) (round := none) (B := S.next) (fun h => by rw [hz] at h; cases h) hm rfl hcl hfr htt fi.body f6 p' (Nat.le_refl _) p'.nw ?_ (DS.nil (N := E.w.heap.size) (Nat.le_refl _)) (fun _ => rfl) hr1 u1 u3 ?_
 · have := FR.enter (nt := fi.nt) hv (Nat.le_of_ble_eq_true hb)
   rw [f3]; exact this
 intro E1 a1 k1 k2 kB
 obtain ⟨k3, k4⟩ := kB.full p'
 have hlv : LeavesInM Fence.wide 0 P fn a1.tmps (RetE T E S (igc S ⟨tupI vs', S', r1.rd ||| rd', r1.wr ||| wr⟩)) a1.defers .returning E1.w := by
   refine qph (E0 := E) (S0' := S) (B := S.next) (Nat.le_refl _) p'.nw (k3.pre p') k2 kB hmk u4 fun E2 hq p2 hv => ?_
   obtain ⟨us', h1, h2⟩ := qil htt p2 ⟨k1.size, fun t ht => hv _ _ (k1.get t ht)⟩ hres u2
   have h3 := qt3 (P := P) (w := E2.w) f4 h1
   refine ⟨tupOf us', h3, ?_⟩
   exact hback _ _ ⟨_, E2, rfl, rfl, qsg h2, hq.full p'⟩
 cases he : r1.e with
 | normal => rw [he] at *; exact hlv
 | ret => exact hlv
 | exit i => rw [he] at hl; cases hl
 | goto l => rw [he] at hl; cases hl
theorem qgx (hm : P.follows .mixedOrders = true) (htt : TT P tt) (hft : FT P ft) (hex : ExOK P ex) : ∀ n, ClOK P (icall P tt ft nmt ex lf n)
 | 0 => ⟨fun _ _ _ _ h => (by cases h), fun _ _ _ _ h => (by cases h)⟩
 | n + 1 => by
   refine ⟨fun f vs S r h T E us p hrd hwr hv => ?_, fun id vs S r h T E us p hrd hwr hv hA => ?_⟩
   · unfold icall at h
     simp only at h
     split at h
     · rename_i g hg
       exact hex.fn f g hg _ (qgx hm htt hft hex n) (qdi hex n) (qsq hex n) vs S r h T E us p hrd hwr hv
     split at h
     · cases h
     rename_i fi hfi
     cases hz : frzF (nmt f) with
     | true => rw [hz] at h; cases h
     | false =>
     rw [hz, cond_false] at h
     cases hb : Nat.ble vs.length fi.nt with
     | false => rw [hb] at h; cases h
     | true =>
     rw [hb, cond_true] at h
     split at h
     · cases h
     rename_i r1 hr1
     cases hl : r1.e.leaves with
     | false => rw [hl] at h; cases h
     | true =>
     rw [hl, cond_true] at h
     exact qvi hz hm htt (hft f fi hfi) (qgx hm htt hft hex n) (qdi hex n) hb hr1 hl h p hrd hwr hv
   · unfold icall at h
     simp only at h
     exact q4m hm (qgx hm htt hft hex n) (qdi hex n) htt h T E us p hrd hwr hv hA

end
end Go.Jx
end

section
namespace Go.Jx
open Go Go.Sx Go.RowKit
universe u

def ElA : List TC -> Type
 | [] => Unit
 | c :: cs => El c × ElA cs
def argV : (cs : List TC) -> ElA cs -> List IV
 | [], _ => []
 | c :: cs, x => asIV c x.1 :: argV cs x.2
def ElR : List (Bool × TC) -> Type
 | [] => Unit
 | (true, c) :: cs => List (El c) × ElR cs
 | (false, c) :: cs => El c × ElR cs
def resV : (cs : List (Bool × TC)) -> Nat -> ElR cs -> List IV
 | [], _, _ => []
 | (true, c) :: cs, n, x => .arr n :: resV cs (n + 1) x.2
 | (false, c) :: cs, n, x => asIV c x.1 :: resV cs n x.2
def resO : (cs : List (Bool × TC)) -> ElR cs -> List IObj
 | [], _ => []
 | (true, c) :: cs, x => .arr c x.1 :: resO cs x.2
 | (false, c) :: cs, x => resO cs x.2
def addO : List IObj -> IS -> IS
 | [], S => S
 | o :: l, S => addO l (S.new o)
theorem qbj : ∀ (l : List IObj) (S : IS), (addO l S).next = S.next + l.length
 | [], S => rfl
 | o :: l, S => by unfold addO; rw [qbj l]; simp [IS.new]; omega
theorem qbe : ∀ (l : List IObj) (S : IS) (k : Nat), (addO l S).H k = if k < S.next then S.H k else if k < S.next + l.length then l[k - S.next]? else S.H k
 | [], S, k => by
   simp only [addO, List.length_nil, Nat.add_zero]
   by_cases h : k < S.next
   · rw [if_pos h]
   · rw [if_neg h, if_neg h]
 | o :: l, S, k => by
   unfold addO
   rw [qbe l]
   have e : (S.new o).next = S.next + 1 := rfl
   rw [e, IS.H_new]
   by_cases h1 : k < S.next
   · rw [if_pos (by omega), if_pos h1, up_ne _ _ (by omega)]
   · rw [if_neg h1]
     by_cases h2 : k = S.next
     · subst h2
       rw [if_pos (by omega), qad, if_pos (by simp)]; simp
     · rw [if_neg (by omega), up_ne _ _ h2]
       simp only [List.length_cons]
       by_cases h3 : k < S.next + (l.length + 1)
       · rw [if_pos (by omega), if_pos h3, show k - S.next = (k - (S.next + 1)) + 1 by omega, List.getElem?_cons_succ]
       · rw [if_neg (by omega), if_neg h3]
def scal : TC -> Bool
 | .list _ => false
 | .two a b => scal a && scal b
 | _ => true
structure Sm where
 pts : List TC
 rts : List (Bool × TC)
 f : ElA pts -> Option (ElR rts)
def Sm.flat (s : Sm) : Bool := s.rts.all fun r => scal r.2
def EM (M : List Nat) (w : World) : Env := ⟨fun _ => 0, fun _ => 0, fun _ => .nilFunc, fun _ => false, fun _ => False, M, w⟩
def S0 : IS := ⟨.leaf, 0⟩
def T0 : TW := ⟨fun _ => True, fun _ => True, fun _ h => h⟩
theorem preM {M : List Nat} {w : World} (h : ∀ b ∈ M, b < w.heap.size) (g : Gl M w) : Pre T0 (EM M w) S0 :=
 ⟨⟨fun id _ h => h.elim, fun id _ h => h.elim, fun id _ h => h.elim, fun i j _ _ h => h.elim, h⟩, fun id h => h.elim, fun id _ => trivial, g⟩
structure Con (P : Program) (f : Nat) (s : Sm) : Prop where
 callable : qag P f
 calls : ∀ (M : List Nat) (w : World) (x : ElA s.pts) (us : List Value) (y : ElR s.rts), s.f x = some y -> (∀ b ∈ M, b < w.heap.size) -> Gl M w -> VRs (EM M w) (argV s.pts x) us ->
   CallsIn Fence.wide 0 P f us.toArray w (RetE T0 (EM M w) S0 ⟨tupI (resV s.rts 0 y), addO (resO s.rts y) S0, 0, 0⟩)

def fitV : TC -> IV -> Bool
 | .two _ _, .agg _ => true
 | .two _ _, _ => false
 | _, .agg _ => false
 | _, .unk => false
 | _, .tup _ => false
 | _, _ => true
def qb7 : (cs : List TC) -> IS -> List IV -> Option (ElA cs × IS × Nat)
 | [], S, vs => match vs with
   | [] => some ((), S, 0)
   | _ => none
 | c :: cs, S, vs => match vs with
   | v :: vs => cond (fitV c v) (match icl c S (cellsOf v) with
     | some (x, [], S1, w1) => match qb7 cs S1 vs with
       | some (xs, S2, w2) => some ((x, xs), S2, w1 ||| w2)
       | none => none
     | _ => none) none
   | _ => none
def exf (s : Sm) (vs : List IV) (S : IS) : Option Res :=
 match qb7 s.pts S vs with
 | none => none
 | some (x, S1, w) => match s.f x with
   | none => none
   | some y => cond s.flat (some ⟨tupI (resV s.rts S.next y), addO (resO s.rts y) S, w, 0⟩) (some ⟨tupI (resV s.rts S1.next y), addO (resO s.rts y) S1, 0, w⟩)
section
variable {P : Program} {E : Env} {S : IS} {T : TW}
theorem qpy {E0 E : Env} {c : TC} {x : El c} {v : IV} {u : Value} (hf : fitV c v = true) (hv : VR E0 v u) (h : VRs E (cel c x) u.cells.toList) : VR E (asIV c x) u := by
 have hone : (∀ a b, c ≠ .two a b) -> u.cells.toList = [u] := fun hc => by
   cases c with
   | two a b => exact absurd rfl (hc a b)
   | int k => cases hv <;> first | rfl | cases hf
   | bool => cases hv <;> first | rfl | cases hf
   | str => cases hv <;> first | rfl | cases hf
   | list c => cases hv <;> first | rfl | cases hf
 cases c with
 | two a b =>
   cases hv <;> try cases hf
   exact .agg h.1 h.2
 | int k => rw [hone (by simp)] at h; exact h.2 0 (by simp [cel]) (by simp)
 | bool => rw [hone (by simp)] at h; exact h.2 0 (by simp [cel]) (by simp)
 | str => rw [hone (by simp)] at h; exact h.2 0 (by simp [cel]) (by simp)
 | list c => rw [hone (by simp)] at h; exact h.2 0 (by simp [cel]) (by simp)
theorem qpp {c : TC} {v : IV} (h : fitV c v = true) : known v = true := by cases c <;> cases v <;> first | rfl | cases h
theorem qc5 {E E' : Env} (hm : ∀ b, b ∈ E'.m -> b ∈ E.m) (hw : E'.w = E.w) {c : TC} {x : El c} {u : Value} (h : VR E (asIV c x) u) : VR E' (asIV c x) u := by
 have hno : ∀ {v : IV} {u : Value}, VR E v u -> _ := fun h => VR.noid hm hw h
 cases c with
 | two a b =>
   cases h with
   | agg hl hh => exact .agg hl fun i a b => (hno (hh i a b)).2.2 _ _ (List.getElem_mem a)
 | int k => exact (hno h).2.2 (.int k) x (by simp [cel, asIV])
 | bool => exact (hno h).2.2 .bool x (by simp [cel, asIV])
 | str => exact (hno h).2.2 .str x (by simp [cel, asIV])
 | list c => exact (hno h).2.2 (.list c) x (by simp [cel, asIV])
theorem qo6 : ∀ (cs : List TC) {E : Env} {S : IS} {vs : List IV} {us : List Value} {x : ElA cs} {S' : IS} {w : Nat}, qb7 cs S vs = some (x, S', w) -> Pre T E S -> tin T.w w -> VRs E vs us ->
   ∃ E', E'.w = E.w /\ Post T E S E' S' /\ Fresh E S E' /\ VRs E' (argV cs x) us
 | [], E, S, vs, us, x, S', w, h, p, hw, hv => by
   cases vs with
   | cons v vs => cases h
   | nil => cases h; exact ⟨E, rfl, Post.refl p, Fresh.refl E S, hv⟩
 | c :: cs, E, S, vs, us, x, S', w, h, p, hw, hv => by
   cases vs with
   | nil => cases h
   | cons v vs =>
   simp only [qb7] at h
   cases hb : fitV c v with
   | false => rw [hb] at h; cases h
   | true =>
   rw [hb, cond_true] at h
   split at h <;> try cases h
   rename_i x1 S1 w1 h1
   split at h <;> cases h
   rename_i xs S2 w2 h2
   obtain ⟨g1, g2⟩ := qai hw
   obtain ⟨u, us, rfl, a1, a2⟩ := hv.inv
   obtain ⟨E1, e1, q1, f1, us1, us2, e2, v1, v2⟩ := qcf c h1 p g1 (a1.cells (qpp hb))
   have : us2 = [] := by have := v2.1; simpa using this.symm
   subst this
   rw [List.append_nil] at e2
   rw [<- e2] at v1
   have b1 := qpy hb a1 v1
   obtain ⟨E2, e3, q2, f2, b2⟩ := qo6 cs h2 (q1.pre p) g2 (a2.mono (q1.env p))
   exact ⟨E2, e3.trans e1, Post.trans p q1 f1 q2, f1.trans f2 q1.le, VRs.cons (b1.mono (q2.env (q1.pre p))) b2⟩
theorem qne {E E' : Env} (hm : ∀ b, b ∈ E'.m -> b ∈ E.m) (hw : E'.w = E.w) : ∀ (cs : List TC) {x : ElA cs} {us : List Value}, VRs E (argV cs x) us -> VRs E' (argV cs x) us
 | [], x, us, h => by have := h.1; cases us with | nil => exact VRs.nil | cons _ _ => simp [argV] at this
 | c :: cs, x, us, h => by
   obtain ⟨u, us, rfl, a1, a2⟩ := VRs.inv (v := asIV c x.1) (cs := argV cs x.2) h
   exact VRs.cons (qc5 hm hw a1) (qne hm hw cs a2)
theorem qgd : ∀ (cs : List (Bool × TC)) (y : ElR cs) (o : IObj), o ∈ resO cs y -> ∃ c l, o = .arr c l
 | [], y, o, h => by cases h
 | (true, c) :: cs, y, o, h => by
   rcases List.mem_cons.1 h with h | h
   · exact ⟨c, y.1, h⟩
   · exact qgd cs y.2 o h
 | (false, c) :: cs, y, o, h => qgd cs y.2 o h
theorem qdx {E E' : Env} : ∀ {c : TC} {v : IV} {x : El c} {u : Value}, scal c = true -> v ∈ cel c x -> VR E v u -> VR E' v u
 | .int k, v, x, u, _, hm, h => by
   have : v = .int k x := by simpa [cel] using hm
   subst this; cases h; exact .int _ _ (by assumption)
 | .bool, v, x, u, _, hm, h => by
   have : v = .bool x := by simpa [cel] using hm
   subst this; cases h; exact .bool _
 | .str, v, x, u, _, hm, h => by
   have : v = .str x := by simpa [cel] using hm
   subst this; cases h; exact .str _ (by assumption)
 | .list c, v, x, u, hs, _, _ => by cases hs
 | .two a b, v, x, u, hs, hm, h => by
   simp only [scal, Bool.and_eq_true] at hs
   simp only [cel, List.mem_append] at hm
   rcases hm with hm | hm
   · exact qdx hs.1 hm h
   · exact qdx hs.2 hm h
theorem scal_as {E E' : Env} {c : TC} {x : El c} {u : Value} (hs : scal c = true) (h : VR E (asIV c x) u) : VR E' (asIV c x) u := by
 cases c with
 | two a b =>
   cases h with
   | agg hl hh => exact .agg hl fun i a b => qdx hs (List.getElem_mem a) (hh i a b)
 | int k => exact qdx (c := .int k) (x := x) hs (by simp [cel, asIV]) h
 | bool => exact qdx (c := .bool) (x := x) hs (by simp [cel, asIV]) h
 | str => exact qdx (c := .str) (x := x) hs (by simp [cel, asIV]) h
 | list c => cases hs
def mrgC (Eb Er : Env) (n : Nat) : Env :=
 ⟨fun id => if id < n then Eb.ρ id else Er.ρ (id - n), fun id => if id < n then Eb.κ id else Er.κ (id - n), fun id => if id < n then Eb.hd id else Er.hd (id - n), fun id => if id < n then Eb.hb id else Er.hb (id - n),
   fun id => (id < n /\ Eb.A id) \/ (n <= id /\ Er.A (id - n)), Eb.m ++ Er.m, Er.w⟩
theorem qb5 {Eb Er : Env} {n k : Nat} : (mrgC Eb Er n).ρ (n + k) = Er.ρ k /\ (mrgC Eb Er n).κ (n + k) = Er.κ k /\ (mrgC Eb Er n).hd (n + k) = Er.hd k /\ (mrgC Eb Er n).hb (n + k) = Er.hb k := by
 have h : ¬ n + k < n := by omega
 refine ⟨?_, ?_, ?_, ?_⟩ <;> simp only [mrgC, if_neg h, Nat.add_sub_cancel_left]
theorem qc3 {Eb Er : Env} {n id : Nat} (h : id < n) : (mrgC Eb Er n).ρ id = Eb.ρ id /\ (mrgC Eb Er n).κ id = Eb.κ id /\ (mrgC Eb Er n).hd id = Eb.hd id /\ (mrgC Eb Er n).hb id = Eb.hb id := by
 refine ⟨?_, ?_, ?_, ?_⟩ <;> simp only [mrgC, if_pos h]
theorem qol {Eb Er : Env} {n : Nat} (hd : ∀ {c : TC} {x : El c} {u : Value}, VR Er (asIV c x) u -> scal c = true \/ True -> (scal c = true -> VR (mrgC Eb Er n) (asIV c x) u) /\ ((∀ b, b ∈ Eb.m -> b ∈ Er.m) -> VR (mrgC Eb Er n) (asIV c x) u)) :
   ∀ (cs : List (Bool × TC)) (k : Nat) {y : ElR cs} {us : List Value}, ((cs.all fun r => scal r.2) = true \/ ∀ b, b ∈ Eb.m -> b ∈ Er.m) -> VRs Er (resV cs k y) us -> VRs (mrgC Eb Er n) (resV cs (n + k) y) us
 | [], k, y, us, hs, h => by have := h.1; cases us with | nil => exact VRs.nil | cons _ _ => simp [resV] at this
 | (true, c) :: cs, k, y, us, hs, h => by
   obtain ⟨u, us, rfl, a1, a2⟩ := VRs.inv (v := .arr k) (cs := resV cs (k + 1) y.2) h
   have := qol hd cs (k + 1) (hs.imp (fun h => by simp only [List.all_cons, Bool.and_eq_true] at h; exact h.2) fun h => h) a2
   cases a1 with
   | arr hA hh =>
   obtain ⟨m1, m2, m3, m4⟩ := qb5 (Eb := Eb) (Er := Er) (n := n) (k := k)
   exact VRs.cons (.arr (.inr ⟨by omega, by rw [Nat.add_sub_cancel_left]; exact hA⟩) (m3.trans hh)) this
 | (false, c) :: cs, k, y, us, hs, h => by
   obtain ⟨u, us, rfl, a1, a2⟩ := VRs.inv (v := asIV c y.1) (cs := resV cs k y.2) h
   have := qol hd cs k (hs.imp (fun h => by simp only [List.all_cons, Bool.and_eq_true] at h; exact h.2) fun h => h) a2
   refine VRs.cons ?_ this
   rcases hs with hs | hs
   · simp only [List.all_cons, Bool.and_eq_true] at hs
     exact (hd a1 (.inr trivial)).1 hs.1
   · exact (hd a1 (.inr trivial)).2 hs
theorem qtz {s : Sm} {y : ElR s.rts} {M : List Nat} {Eb : Env} {Sb : IS} {e : Ending} {w' : World} {rd wr : Nat} (pb : Pre T Eb Sb) (hM : ∀ b ∈ M, b ∈ Eb.m) (hflat : s.flat = true \/ ∀ b ∈ Eb.m, b ∈ M)
   (hR : RetE T0 (EM M Eb.w) S0 ⟨tupI (resV s.rts 0 y), addO (resO s.rts y) S0, 0, 0⟩ e w') : RetE T Eb Sb ⟨tupI (resV s.rts Sb.next y), addO (resO s.rts y) Sb, rd, wr⟩ e w' := by
 obtain ⟨u, Er, rfl, rfl, k1, k2, k3⟩ := hR
 have hsame : ∀ b, b < Eb.w.heap.size -> Er.w.heap[b]? = Eb.w.heap[b]? := fun b hb => k2.stp.same b hb fun id _ hA _ => hA.elim
 have hMr : ∀ b ∈ M, b ∈ Er.m := fun b hb => by
   rcases k2.stp.mem b hb (pb.st.lo b (hM b hb)) with h | ⟨id, _, hA, _⟩
   · exact h
   · exact hA.elim
 have hrM : ∀ b ∈ Er.m, b ∈ M \/ Eb.w.heap.size <= b := k2.stp.memo
 have hnew : ∀ id, Er.A id -> Live Er (addO (resO s.rts y) S0).H id -> Eb.w.heap.size <= Er.ρ id := fun id hA hL => by
   rcases k2.stp.new id hA (fun h => h) hL with h | ⟨j, _, hA, _⟩
   · exact h
   · exact hA.elim
 generalize hn : Sb.next = n
 have hle : Eb.Le (mrgC Eb Er n) := ⟨fun id hA => by
   have hlt : id < n := by rw [<- hn]; exact pb.bnd id hA
   obtain ⟨m1, m2, m3, m4⟩ := qc3 (Eb := Eb) (Er := Er) hlt
   exact ⟨.inl ⟨hlt, hA⟩, m1, m2, m3, m4⟩, ⟨fun b hb hm => ⟨fun h => by
     rcases List.mem_append.1 h with h | h
     · exact hm h
     · rcases hrM b h with h | h
       · exact hm (hM b h)
       · omega, hsame b hb⟩⟩⟩
 have hdat : (∀ b, b ∈ Eb.m -> b ∈ Er.m) -> ∀ b, b ∈ (mrgC Eb Er n).m -> b ∈ Er.m := fun h b hb => by
   rcases List.mem_append.1 hb with hb | hb
   · exact h b hb
   · exact hb
 have hflat2 : (s.rts.all fun r => scal r.2) = true \/ ∀ b, b ∈ Eb.m -> b ∈ Er.m := hflat.imp (fun h => h) fun h b hb => hMr b (h b hb)
 have hv : ∀ us, VRs Er (resV s.rts 0 y) us -> VRs (mrgC Eb Er n) (resV s.rts (n + 0) y) us := fun us => qol (Eb := Eb) (Er := Er) (n := n) (fun {c x u} h _ => ⟨fun hs => scal_as hs h, fun hm => qc5 (hdat hm) rfl h⟩) s.rts 0 hflat2
 have hHn : ∀ k, (addO (resO s.rts y) Sb).H (n + k) = if k < (resO s.rts y).length then (resO s.rts y)[k]? else Sb.H (n + k) := fun k => by
   rw [qbe, if_neg (by omega), hn]
   by_cases h : k < (resO s.rts y).length
   · rw [if_pos h, if_pos (by omega), Nat.add_sub_cancel_left]
   · rw [if_neg h, if_neg (by omega)]
 have hHo : ∀ id, id < n -> (addO (resO s.rts y) Sb).H id = Sb.H id := fun id h => by rw [qbe, if_pos (by omega)]
 have hH0 : ∀ k, (addO (resO s.rts y) S0).H k = (resO s.rts y)[k]? := fun k => by
   rw [qbe]
   have e : S0.next = 0 := rfl
   rw [e, if_neg (by omega), Nat.zero_add, Nat.sub_zero]
   by_cases h : k < (resO s.rts y).length
   · rw [if_pos h]
   · rw [if_neg h, List.getElem?_eq_none (by omega)]; rfl
 have hbndr : ∀ k, Er.A k -> k < (resO s.rts y).length := fun k hA => by
   have := k2.bnd k hA
   rw [qbj] at this
   have e : S0.next = 0 := rfl
   omega
 have hobj : ∀ {k : Nat} {o : IObj}, Er.A k -> (addO (resO s.rts y) Sb).H (n + k) = some o -> (addO (resO s.rts y) S0).H k = some o := fun {k o} hA h => by
   rw [hHn, if_pos (hbndr k hA)] at h; rw [hH0]; exact h
 have hlv : ∀ {k : Nat}, Er.A k -> Live (mrgC Eb Er n) (addO (resO s.rts y) Sb).H (n + k) -> Live Er (addO (resO s.rts y) S0).H k := fun {k} hA ⟨h0, o, h1, h2⟩ => ⟨by rw [qb5.2.2.2] at h0; exact h0, o, hobj hA h1, h2⟩
 have hlo : ∀ {id : Nat}, id < n -> Live (mrgC Eb Er n) (addO (resO s.rts y) Sb).H id -> Live Eb Sb.H id := fun {id} hlt ⟨h0, o, h1, h2⟩ => ⟨by rw [(qc3 hlt).2.2.2] at h0; exact h0, o, by rw [hHo id hlt] at h1; exact h1, h2⟩
 refine ⟨u, mrgC Eb Er n, rfl, rfl, ?_, ⟨⟨?_, ?_, ?_, ?_, ?_⟩, ⟨k2.stp.os, k2.stp.tape, k2.stp.output, k2.stp.size, fun b hb _ => hsame b hb, hle.alw, ?_, ?_, ?_, fun b hb _ => .inl (List.mem_append_left _ hb)⟩, ?_, ?_⟩, ⟨?_⟩⟩
 · -- the value
   have key : ∀ (vs ws : List IV), (∀ us, VRs Er vs us -> VRs (mrgC Eb Er n) ws us) -> vs.length = ws.length -> VR Er (tupI vs) u -> VR (mrgC Eb Er n) (tupI ws) u := by
     intro vs ws h hl hu
     match vs, ws, hl with
     | [], [], _ =>
       cases hu with
       | tup hl hh => have := h _ ⟨hl, hh⟩; exact .tup this.1 this.2
     | [v], [w], _ =>
       have := h [u] (VRs.cons hu VRs.nil)
       exact this.2 0 (by simp) (by simp)
     | v1 :: v2 :: vs, w1 :: w2 :: ws, _ =>
       cases hu with
       | tup hl hh => have := h _ ⟨hl, hh⟩; exact .tup this.1 this.2
   refine key _ _ (fun us h => ?_) ?_ k1
   · have := hv us h
     rwa [Nat.add_zero] at this
   · have : ∀ (cs : List (Bool × TC)) (i j : Nat) (y : ElR cs), (resV cs i y).length = (resV cs j y).length := by
       intro cs
       induction cs with
       | nil => intro i j y; rfl
       | cons c cs ih => intro i j y; obtain ⟨b, c⟩ := c; cases b <;> simp [resV] <;> exact ih _ _ y.2
     exact this _ _ _ _
 · -- objects
   intro id ht hA o ho
   rcases hA with ⟨hlt, hA⟩ | ⟨hge, hA⟩
   · rw [hHo id hlt] at ho
     exact (pb.st.objs id ht hA o ho).mono hle hA (pb.st.blk id ht hA o ho) fun hl hb => hsame _ ((pb.st.objs id ht hA o ho).lt hl hb)
   · obtain ⟨k, rfl⟩ : ∃ k, id = n + k := ⟨id - n, by omega⟩
     rw [Nat.add_sub_cancel_left] at hA
     have ho' := hobj hA ho
     obtain ⟨m1, m2, m3, m4⟩ := qb5 (Eb := Eb) (Er := Er) (n := n) (k := k)
     have hor := k2.st.objs k trivial hA o ho'
     have hmem : o ∈ resO s.rts y := by rw [hH0] at ho'; exact List.mem_of_getElem? ho'
     obtain ⟨c, l, rfl⟩ := qgd _ _ _ hmem
     have hsc : scal c = true \/ ∀ b, b ∈ Eb.m -> b ∈ Er.m := by
       rcases hflat2 with h | h
       · left
         have : ∀ (cs : List (Bool × TC)) (y : ElR cs), (cs.all fun r => scal r.2) = true -> .arr c l ∈ resO cs y -> scal c = true := by
           intro cs
           induction cs with
           | nil => intro y _ h; cases h
           | cons r cs ih =>
             intro y hs h
             obtain ⟨b, c'⟩ := r
             simp only [List.all_cons, Bool.and_eq_true] at hs
             cases b with
             | false => exact ih y.2 hs.2 h
             | true =>
               rcases List.mem_cons.1 h with h | h
               · cases h; exact hs.1
               · exact ih y.2 hs.2 h
         exact this _ _ h hmem
       · exact .inr h
     obtain ⟨a, cap, g1, g2, g3, g4, g5⟩ := hor
     refine ⟨a, cap, m3.trans g1, g2, g3, g4, g5.imp (fun ⟨x, y⟩ => ⟨m4.trans x, y⟩) fun ⟨b1, b2, cells, t, b3, b4, us, b5, b6⟩ => ⟨m4.trans b1, by rw [m1]; exact b2, cells, t, by rw [m1]; exact b3, b4, us, b5, fun i hi j hj => ?_⟩⟩
     rcases hsc with h | h
     · exact qdx h (List.getElem_mem hj) (b6 i hi j hj)
     · exact (VR.noid (hdat h) rfl (b6 i hi j hj)).2.2 _ _ (List.getElem_mem hj)
 · intro id ht hA o ho hb
   rcases hA with ⟨hlt, hA⟩ | ⟨hge, hA⟩
   · rw [hHo id hlt] at ho
     rw [(qc3 hlt).2.2.2]
     exact pb.st.blk id ht hA o ho hb
   · obtain ⟨k, rfl⟩ : ∃ k, id = n + k := ⟨id - n, by omega⟩
     rw [Nat.add_sub_cancel_left] at hA
     have ho' := hobj hA ho
     rw [qb5.2.2.2]
     exact k2.st.blk k trivial hA o ho' hb
 · intro id ht hA hL
   rcases hA with ⟨hlt, hA⟩ | ⟨hge, hA⟩
   · rw [(qc3 hlt).1]
     exact List.mem_append_left _ (pb.st.own id ht hA (hlo hlt hL))
   · obtain ⟨k, rfl⟩ : ∃ k, id = n + k := ⟨id - n, by omega⟩
     rw [Nat.add_sub_cancel_left] at hA
     rw [qb5.1]
     exact List.mem_append_right _ (k2.st.own k trivial hA (hlv hA hL))
 · intro i j ti tj hAi hAj hLi hLj he
   rcases hAi with ⟨hi, hAi⟩ | ⟨hi, hAi⟩ <;> rcases hAj with ⟨hj, hAj⟩ | ⟨hj, hAj⟩
   · rw [(qc3 hi).1, (qc3 hj).1] at he
     exact pb.st.inj i j ti tj hAi hAj (hlo hi hLi) (hlo hj hLj) he
   · obtain ⟨k, rfl⟩ : ∃ k, j = n + k := ⟨j - n, by omega⟩
     rw [Nat.add_sub_cancel_left] at hAj
     rw [(qc3 hi).1, qb5.1] at he
     have h1 := hnew k hAj (hlv hAj hLj)
     have h2 := pb.st.lo _ (pb.st.own i ti hAi (hlo hi hLi))
     omega
   · obtain ⟨k, rfl⟩ : ∃ k, i = n + k := ⟨i - n, by omega⟩
     rw [Nat.add_sub_cancel_left] at hAi
     rw [(qc3 hj).1, qb5.1] at he
     have h1 := hnew k hAi (hlv hAi hLi)
     have h2 := pb.st.lo _ (pb.st.own j tj hAj (hlo hj hLj))
     omega
   · obtain ⟨k, rfl⟩ : ∃ k, i = n + k := ⟨i - n, by omega⟩
     obtain ⟨k', rfl⟩ : ∃ k, j = n + k := ⟨j - n, by omega⟩
     rw [Nat.add_sub_cancel_left] at hAi hAj
     rw [qb5.1, qb5.1] at he
     rw [k2.st.inj k k' trivial trivial hAi hAj (hlv hAi hLi) (hlv hAj hLj) he]
 · intro b hb
   rcases List.mem_append.1 hb with hb | hb
   · exact Nat.lt_of_lt_of_le (pb.st.lo b hb) k2.stp.size
   · exact k2.st.lo b hb
 · intro id hA hn' hL
   rcases hA with ⟨hlt, hA⟩ | ⟨hge, hA⟩
   · exact absurd hA hn'
   · obtain ⟨k, rfl⟩ : ∃ k, id = n + k := ⟨id - n, by omega⟩
     rw [Nat.add_sub_cancel_left] at hA
     rw [qb5.1]
     exact .inl (hnew k hA (hlv hA hL))
 · intro id ht hA hL
   exact hlo (by rw [<- hn]; exact pb.bnd id hA) hL
 · intro b hb
   rcases List.mem_append.1 hb with hb | hb
   · exact .inl hb
   · rcases hrM b hb with h | h
     · exact .inl (hM b h)
     · exact .inr h
 · intro id hA
   show id < (addO (resO s.rts y) Sb).next
   rw [qbj, hn]
   rcases hA with ⟨hlt, hA⟩ | ⟨hge, hA⟩
   · omega
   · have := hbndr _ hA; omega
 · show Sb.next <= (addO (resO s.rts y) Sb).next
   rw [qbj]; omega
 · intro id hA hn'
   rcases hA with ⟨hlt, hA⟩ | ⟨hge, hA⟩
   · exact absurd hA hn'
   · show Sb.next <= id
     omega
theorem qy8 {f : Nat} {s : Sm} (hc : Con P f s) {vs : List IV} {r : Res} (h : exf s vs S = some r) {us : List Value} (p : Pre T E S) (hrd : tin T.r r.rd) (hwr : tin T.w r.wr) (hv : VRs E vs us) :
   qag P f /\ CallsIn Fence.wide 0 P f us.toArray E.w (RetE T E S r) := by
 refine ⟨hc.callable, ?_⟩
 unfold exf at h
 split at h
 · cases h
 rename_i x S1 w hx
 split at h
 · cases h
 rename_i y hy
 cases hb : s.flat with
 | true =>
   rw [hb, cond_true] at h; cases h
   have p' : Pre ⟨T.r, T.r, fun _ h => h⟩ E S := ⟨p.st, p.bnd, fun id h => T.sub _ (p.nw id h), p.gl⟩
   obtain ⟨E1, e1, q1, f1, b1⟩ := qo6 s.pts (T := ⟨T.r, T.r, fun _ h => h⟩) hx p' hrd hv
   have hm : ∀ b ∈ E1.m, b ∈ E.m := fun b hb => by
     rcases q1.stp.memo b hb with h | h
     · exact h
     · have := q1.st.lo b hb; rw [e1] at this; omega
   have hcall := hc.calls E1.m E.w x us y hy (fun b hb => p.st.lo b (hm b hb)) (p.gl.sub hm) (qne (E := E1) (E' := EM E1.m E.w) (fun _ h => h) e1.symm s.pts b1)
   exact hcall.mono fun e w' hR => qtz (Eb := E) (Sb := S) (T := T) p hm (.inl hb) hR
 | false =>
   rw [hb, cond_false] at h; cases h
   obtain ⟨E1, e1, q1, f1, b1⟩ := qo6 s.pts hx p hwr hv
   have p1 := q1.pre p
   have hcall := hc.calls E1.m E1.w x us y hy p1.st.lo p1.gl (qne (E := E1) (E' := EM E1.m E1.w) (fun _ h => h) rfl s.pts b1)
   rw [<- e1]
   refine hcall.mono fun e w' hR => ?_
   obtain ⟨u, E2, g1, g2, g3, g4, g5⟩ := qtz (Eb := E1) (Sb := S1) (rd := 0) (wr := w) p1 (fun _ h => h) (.inr fun _ h => h) hR
   exact ⟨u, E2, g1, g2, g3, Post.trans p q1 f1 g4, f1.trans g5 q1.le⟩
theorem qi1 (l : List IObj) (S : IS) (w : Nat) : FrX S (addO l S) w := ⟨by rw [qbj]; omega, fun id hid _ => by rw [qbe, if_pos hid]⟩
theorem qva : ∀ (cs : List TC) {S : IS} {vs : List IV} {x : ElA cs} {S' : IS} {w : Nat}, qb7 cs S vs = some (x, S', w) -> FrX S S' w
 | [], S, vs, x, S', w, h => by
   cases vs with
   | cons v vs => cases h
   | nil => cases h; exact FrX.refl _ _
 | c :: cs, S, vs, x, S', w, h => by
   cases vs with
   | nil => cases h
   | cons v vs =>
   simp only [qb7] at h
   cases hb : fitV c v with
   | false => rw [hb] at h; cases h
   | true =>
   rw [hb, cond_true] at h
   split at h <;> try cases h
   rename_i h1
   split at h <;> cases h
   rename_i h2
   obtain ⟨a1, a2⟩ := qcs c _ _ _ _ _ _ h1
   exact FrX.trans ⟨Nat.le_of_eq a1.symm, fun id _ hb => a2 id hb⟩ (qva cs h2)
theorem exf_fr {s : Sm} {vs : List IV} : FrO S (exf s vs S) := fun r h => by
 unfold exf at h
 split at h
 · cases h
 rename_i x S1 w hx
 split at h
 · cases h
 rename_i y hy
 cases hb : s.flat with
 | true => rw [hb, cond_true] at h; cases h; exact qi1 _ _ _
 | false =>
   rw [hb, cond_false] at h; cases h
   have := (qva s.pts hx).trans (qi1 (resO s.rts y) S1 0)
   rw [Nat.or_zero] at this; exact this
theorem qtf (n : Nat) : Nat.blt n n = false := by
 cases h : Nat.blt n n with
 | false => rfl
 | true => exact absurd (show n < n from Nat.le_of_ble_eq_true h) (Nat.lt_irrefl n)
theorem qrs : ∀ (cs : List (Bool × TC)) (n : Nat) (y : ElR cs), (resV cs n y).all (low1 n) = true -> resO cs y = []
 | [], _, _, _ => rfl
 | (true, c) :: cs, n, y, h => by
   have h : (low1 n (.arr n) && (resV cs (n + 1) y.2).all (low1 n)) = true := h
   have e : low1 n (.arr n) = Nat.blt n n := rfl
   rw [e, qtf] at h
   cases h
 | (false, c) :: cs, n, y, h => by
   have h : (low1 n (asIV c y.1) && (resV cs n y.2).all (low1 n)) = true := h
   rw [Bool.and_eq_true] at h
   exact qrs cs n y.2 h.2
theorem qup (cs : List (Bool × TC)) (n : Nat) (y : ElR cs) (h : low2 n (tupI (resV cs n y)) = true) : resO cs y = [] := by
 match cs, y, h with
 | [], y, h => rfl
 | [(true, c)], y, h =>
   have e : low2 n (tupI (resV [(true, c)] n y)) = Nat.blt n n := rfl
   rw [e, qtf] at h
   cases h
 | [(false, c)], y, h => rfl
 | (ba, a) :: (bb, b) :: cs, y, h =>
   refine qrs _ n y ?_
   cases ba <;> cases bb <;> exact h
theorem qvw : ∀ (cs : List TC) {S : IS} {vs : List IV} {x : ElA cs} {S' : IS}, qb7 cs S vs = some (x, S', 0) -> S' = S
 | [], S, vs, x, S', h => by
   cases vs with
   | nil => cases h; rfl
   | cons v vs => cases h
 | c :: cs, S, vs, x, S', h => by
   cases vs with
   | nil => cases h
   | cons v vs =>
   simp only [qb7] at h
   cases hb : fitV c v with
   | false => rw [hb] at h; cases h
   | true =>
   rw [hb, cond_true] at h
   split at h
   · rename_i x1 S1 w1 h1
     split at h
     · rename_i xs S2 w2 h2
       have hS : S2 = S' := congrArg (fun o : Option (ElA (c :: cs) × IS × Nat) => match o with | some q => q.2.1 | none => S') h
       have hw : w1 ||| w2 = 0 := congrArg (fun o : Option (ElA (c :: cs) × IS × Nat) => match o with | some q => q.2.2 | none => 0) h
       obtain ⟨e1, e2⟩ := or_zero hw
       rw [e1] at h1
       rw [e2] at h2
       rw [<- hS, qvw cs h2, (qf0 c h1).1]
     · cases h
   · cases h
theorem q2h {s : Sm} {vs : List IV} {S : IS} {r : Res} (h : exf s vs S = some r) (hw : r.wr = 0) (hv : low2 S.next r.v = true) : r.S = S := by
 unfold exf at h
 split at h
 · cases h
 rename_i x S1 w hx
 split at h
 · cases h
 rename_i y hy
 cases hb : s.flat with
 | true =>
   rw [hb, cond_true] at h; cases h
   show addO (resO s.rts y) S = S
   rw [qup _ _ _ hv]; rfl
 | false =>
   rw [hb, cond_false] at h; cases h
   have hw : w = 0 := hw
   subst hw
   have e := qvw _ hx
   subst e
   show addO (resO s.rts y) S1 = S1
   rw [qup _ _ _ hv]; rfl
structure HxOK (P : Program) (f : Nat) (g : Cl -> List IV -> IS -> Option Res) : Prop where
 fn : ∀ cl, ClOK P cl -> ClFr cl -> Calm cl -> ∀ vs S r, g cl vs S = some r -> ∀ (T : TW) (E : Env) (us : List Value), Pre T E S -> tin T.r r.rd -> tin T.w r.wr -> VRs E vs us -> qag P f /\ CallsIn Fence.wide 0 P f us.toArray E.w (RetE T E S r)
 fr : ∀ cl, ClFr cl -> ∀ vs S, FrO S (g cl vs S)
 calm : ∀ cl, Calm cl -> ∀ vs S r, g cl vs S = some r -> r.wr = 0 -> low2 S.next r.v = true -> r.S = S
def ElQ : List (Bool × TC) -> Type
 | [] => Unit
 | (true, _) :: cs => Nat × ElQ cs
 | (false, c) :: cs => El c × ElQ cs
def valQ : (cs : List (Bool × TC)) -> ElQ cs -> List IV
 | [], _ => []
 | (true, c) :: cs, x => .arr x.1 :: valQ cs x.2
 | (false, c) :: cs, x => asIV c x.1 :: valQ cs x.2
def idsQ : (cs : List (Bool × TC)) -> ElQ cs -> List Nat
 | [], _ => []
 | (true, c) :: cs, x => x.1 :: idsQ cs x.2
 | (false, c) :: cs, x => idsQ cs x.2
def clR : (cs : List (Bool × TC)) -> IS -> List IV -> Option (ElQ cs × IS × Nat)
 | [], S, vs => match vs with
   | [] => some ((), S, 0)
   | _ => none
 | (true, c) :: cs, S, vs => match vs with
   | v :: vs => match coeV S c v with
     | some (.arr id, S1, w1) => match clR cs S1 vs with
       | some (q, S2, w2) => some ((id, q), S2, w1 ||| w2)
       | none => none
     | _ => none
   | _ => none
 | (false, c) :: cs, S, vs => match vs with
   | v :: vs => cond (fitV c v) (match icl c S (cellsOf v) with
     | some (x, [], S1, w1) => match clR cs S1 vs with
       | some (q, S2, w2) => some ((x, q), S2, w1 ||| w2)
       | none => none
     | _ => none) none
   | _ => none
def fillR : (cs : List (Bool × TC)) -> ElQ cs -> IS -> Option (ElR cs)
 | [], _, _ => some ()
 | (true, c) :: cs, x, S => match S.heap.get x.1 with
   | some (.arr c' l) => match qa7 c' c l with
     | some l' => match fillR cs x.2 S with
       | some y => some (l', y)
       | none => none
     | none => none
   | _ => none
 | (false, c) :: cs, x, S => match fillR cs x.2 S with
   | some y => some (x.1, y)
   | none => none
theorem qjd : ∀ (cs : List (Bool × TC)) {E : Env} {S : IS} {vs : List IV} {us : List Value} {x : ElQ cs} {S' : IS} {w : Nat}, clR cs S vs = some (x, S', w) -> Pre T E S -> tin T.w w -> VRs E vs us ->
   ∃ E', E'.w = E.w /\ Post T E S E' S' /\ Fresh E S E' /\ VRs E' (valQ cs x) us
 | [], E, S, vs, us, x, S', w, h, p, hw, hv => by
   cases vs with
   | cons v vs => cases h
   | nil => cases h; exact ⟨E, rfl, Post.refl p, Fresh.refl E S, hv⟩
 | (true, c) :: cs, E, S, vs, us, x, S', w, h, p, hw, hv => by
   cases vs with
   | nil => cases h
   | cons v vs =>
   simp only [clR] at h
   split at h <;> try cases h
   rename_i id S1 w1 h1
   split at h <;> cases h
   rename_i q S2 w2 h2
   obtain ⟨g1, g2⟩ := qai hw
   obtain ⟨u, us, rfl, a1, a2⟩ := hv.inv
   obtain ⟨E1, e1, q1, f1, v1⟩ := qg1 p h1 g1 a1
   obtain ⟨E2, e3, q2, f2, b2⟩ := qjd cs h2 (q1.pre p) g2 (a2.mono (q1.env p))
   exact ⟨E2, e3.trans e1, Post.trans p q1 f1 q2, f1.trans f2 q1.le, VRs.cons (v1.mono (q2.env (q1.pre p))) b2⟩
 | (false, c) :: cs, E, S, vs, us, x, S', w, h, p, hw, hv => by
   cases vs with
   | nil => cases h
   | cons v vs =>
   simp only [clR] at h
   cases hb : fitV c v with
   | false => rw [hb] at h; cases h
   | true =>
   rw [hb, cond_true] at h
   split at h <;> try cases h
   rename_i x1 S1 w1 h1
   split at h <;> cases h
   rename_i xs S2 w2 h2
   obtain ⟨g1, g2⟩ := qai hw
   obtain ⟨u, us, rfl, a1, a2⟩ := hv.inv
   obtain ⟨E1, e1, q1, f1, us1, us2, e2, v1, v2⟩ := qcf c h1 p g1 (a1.cells (qpp hb))
   have : us2 = [] := by have := v2.1; simpa using this.symm
   subst this
   rw [List.append_nil] at e2
   rw [<- e2] at v1
   have b1 := qpy hb a1 v1
   obtain ⟨E2, e3, q2, f2, b2⟩ := qjd cs h2 (q1.pre p) g2 (a2.mono (q1.env p))
   exact ⟨E2, e3.trans e1, Post.trans p q1 f1 q2, f1.trans f2 q1.le, VRs.cons (b1.mono (q2.env (q1.pre p))) b2⟩
theorem qis : ∀ (cs : List (Bool × TC)) {x : ElQ cs} {S : IS} {y : ElR cs}, fillR cs x S = some y -> (resO cs y).length = (idsQ cs x).length /\ ∀ k : Nat, (resO cs y)[k]? = ((idsQ cs x)[k]?).bind fun id => S.heap.get id
 | [], x, S, y, h => ⟨rfl, fun k => by simp [resO, idsQ]⟩
 | (true, c) :: cs, x, S, y, h => by
   simp only [fillR] at h
   split at h <;> try cases h
   rename_i c' l ho
   split at h <;> try cases h
   rename_i l' hl
   obtain ⟨rfl, rfl⟩ := qbi hl
   split at h <;> cases h
   rename_i y' hy
   obtain ⟨a1, a2⟩ := qis cs hy
   refine ⟨by simp [resO, idsQ, a1], fun k => ?_⟩
   cases k with
   | zero => simp [resO, idsQ, ho]
   | succ k => simpa [resO, idsQ] using a2 k
 | (false, c) :: cs, x, S, y, h => by
   simp only [fillR] at h
   split at h <;> cases h
   rename_i y' hy
   exact qis cs hy
theorem qkr {q : List Nat} (hnd : ndB q = true) : ∀ (cs : List (Bool × TC)) {x : ElQ cs} {S : IS} {y : ElR cs} {pre : List Nat} {us : List Value}, q = pre ++ idsQ cs x -> fillR cs x S = some y -> VRs E (valQ cs x) us -> VRs (renE 0 q E) (resV cs pre.length y) us
 | [], x, S, y, pre, us, hq, h, hv => by have := hv.1; cases us with | nil => exact VRs.nil | cons _ _ => simp [valQ] at this
 | (true, c) :: cs, x, S, y, pre, us, hq, h, hv => by
   obtain ⟨u, us, rfl, a1, a2⟩ := VRs.inv (v := .arr x.1) (cs := valQ cs x.2) hv
   simp only [fillR] at h
   split at h <;> try cases h
   split at h <;> try cases h
   split at h <;> cases h
   rename_i y' hy
   have h2 := qkr hnd cs (pre := pre ++ [x.1]) (by rw [hq]; simp [idsQ]) hy a2
   rw [List.length_append] at h2
   refine VRs.cons ?_ h2
   have e : ol 0 q pre.length = x.1 := by
     unfold ol
     rw [if_neg (by omega), Nat.sub_zero, hq]
     simp [idsQ, List.getD_eq_getElem?_getD]
   cases a1 with
   | arr hA hh => exact .arr ⟨by rw [hq]; simp [idsQ], by rw [e]; exact hA⟩ (by simp only [renE, e]; exact hh)
 | (false, c) :: cs, x, S, y, pre, us, hq, h, hv => by
   obtain ⟨u, us, rfl, a1, a2⟩ := VRs.inv (v := asIV c x.1) (cs := valQ cs x.2) hv
   simp only [fillR] at h
   split at h <;> cases h
   rename_i y' hy
   exact VRs.cons (qc5 (E := E) (E' := renE 0 q E) (fun _ h => h) rfl a1) (qkr hnd cs hq hy a2)
theorem Post.congr {E' : Env} {S' S'' : IS} (hH : S'.H = S''.H) (hn : S'.next = S''.next) (h : Post T E S E' S') : Post T E S E' S'' :=
 ⟨hH ▸ h.st, hH ▸ h.stp, fun id ha => hn ▸ h.bnd id ha, hn ▸ h.le⟩
def untup (n : Nat) (v : IV) : Option (List IV) :=
 cond (Nat.beq n 1) (some [v]) (match v with
   | .tup vs => cond (Nat.beq vs.length n) (some vs) none
   | _ => none)
def runR (s : Sm) (r : Res) : Option (ElR s.rts) :=
 match untup s.rts.length r.v with
 | none => none
 | some vs => match clR s.rts r.S vs with
   | none => none
   | some (x, S2, _) => cond (ndB (idsQ s.rts x)) (fillR s.rts x S2) none
theorem q2i {s : Sm} {r : Res} {y : ElR s.rts} {M : List Nat} {w w' : World} {e : Ending} (hM : ∀ b ∈ M, b < w.heap.size) (hg : Gl M w) (h : runR s r = some y) (hR : RetE T0 (EM M w) S0 r e w') :
   RetE T0 (EM M w) S0 ⟨tupI (resV s.rts 0 y), addO (resO s.rts y) S0, 0, 0⟩ e w' := by
 obtain ⟨u, E1, rfl, rfl, k1, k2, k3⟩ := hR
 have p0 := preM hM hg
 have p1 := k2.pre p0
 unfold runR at h
 split at h
 · cases h
 rename_i vs hvs
 split at h
 · cases h
 rename_i x S2 w2 hx
 cases hnd : ndB (idsQ s.rts x) with
 | false => rw [hnd] at h; cases h
 | true =>
 rw [hnd, cond_true] at h
 -- the results one by one
 have hlist : ∃ us : List Value, VRs E1 vs us /\ ∀ (E' : Env) (ws : List IV), ws.length = s.rts.length -> VRs E' ws us -> VR E' (tupI ws) u := by
   unfold untup at hvs
   cases hone : Nat.beq s.rts.length 1 with
   | true =>
     rw [hone, cond_true] at hvs; cases hvs
     have hlen := Nat.eq_of_beq_eq_true hone
     exact ⟨[u], VRs.cons k1 VRs.nil, fun E' ws hl hw => by
       rw [hlen] at hl
       match ws, hl with
       | [a], _ => exact hw.2 0 (by simp) (by simp)⟩
   | false =>
     rw [hone, cond_false] at hvs
     split at hvs <;> try cases hvs
     rename_i ws0 hv
     cases hb : Nat.beq ws0.length s.rts.length with
     | false => rw [hb] at hvs; cases hvs
     | true =>
     rw [hb, cond_true] at hvs; cases hvs
     rw [hv] at k1
     cases k1 with
     | tup hl hh =>
     refine ⟨_, ⟨hl, hh⟩, fun E' ws hl' hw => ?_⟩
     match ws, hl' with
     | [], _ => exact .tup hw.1 hw.2
     | [a], hl' => rw [<- hl'] at hone; cases hone
     | a :: b :: ws, _ => exact .tup hw.1 hw.2
 obtain ⟨us, hus, hfin⟩ := hlist
 obtain ⟨E2, e2, q2, f2, hv2⟩ := qjd s.rts hx p1 (fun _ _ => trivial) hus
 have p2 := q2.pre p1
 have hq := Post.trans p0 k2 k3 q2
 have hf := k3.trans f2 k2.le
 have b1 := PostB.of (B := 0) (Nat.zero_le _) (fun _ _ => trivial) hq hf
 have b2 := quf (z := fun _ => none) (B := 0) (q := idsQ s.rts x) p2 (Nat.zero_le _) (fun _ _ => trivial) (fun _ _ h => by cases h) hnd (by rw [List.all_eq_true]; intro _ _; rfl)
 obtain ⟨z1, z2⟩ := PostB.full p0 (show PostB S0.next T0 (EM M w) S0 _ _ from b1.trans b2)
 obtain ⟨g1, g2⟩ := qis s.rts h
 have hval := qkr hnd s.rts (pre := []) rfl h hv2
 refine ⟨u, renE 0 (idsQ s.rts x) E2, rfl, e2, hfin _ _ ?_ hval, Post.congr ?_ ?_ z1, ⟨fun id ha hn => z2.fr id ha hn⟩⟩
 · have : ∀ (cs : List (Bool × TC)) (i : Nat) (y : ElR cs), (resV cs i y).length = cs.length := by
     intro cs
     induction cs with
     | nil => intro i y; rfl
     | cons c cs ih => intro i y; obtain ⟨b, c⟩ := c; cases b <;> simp [resV] <;> exact ih _ y.2
   exact this _ _ _
 · funext k
   rw [qpg, if_neg (show ¬ k < 0 by omega), qbe]
   have e0 : S0.next = 0 := rfl
   rw [e0, if_neg (show ¬ k < 0 by omega), Nat.zero_add, Nat.zero_add, Nat.sub_zero, g1]
   by_cases hk : k < (idsQ s.rts x).length
   · rw [if_pos hk, if_pos hk, g2 k, List.getElem?_eq_getElem hk]
     have e : ol 0 (idsQ s.rts x) k = (idsQ s.rts x)[k] := by unfold ol; rw [if_neg (by omega), Nat.sub_zero, List.getD_eq_getElem?_getD, List.getElem?_eq_getElem hk]; rfl
     rw [e]
     simp only [Option.bind_some]
     cases ho : S2.heap.get (idsQ s.rts x)[k] with
     | none => rfl
     | some o =>
       have : o ∈ resO s.rts y := by
         have := g2 k
         rw [List.getElem?_eq_getElem hk, Option.bind_some, ho] at this
         exact List.mem_of_getElem? this
       obtain ⟨c, l, rfl⟩ := qgd _ _ _ this
       rfl
   · rw [if_neg hk, if_neg hk]; rfl
 · show 0 + (idsQ s.rts x).length = (addO (resO s.rts y) S0).next
   rw [qbj, g1]; rfl
end
end Go.Jx
end

section
namespace Go.Jx
open Go Go.Sx Go.RowKit
universe u

def ob {R : Type} (x : Option Res) (k : Res -> Option R) : Option R := match x with | some r => k r | none => none
theorem qau {R : Type} (k : Res -> Option R) (b : Bool) (x y : Option Res) : ob (cond b x y) k = cond b (ob x k) (ob y k) := by cases b <;> rfl
def slEl (tt : Nat -> Option TI) (ty : Nat) : Option TI := match tt ty with
 | none => none
 | some ti => match ti.und with
   | .slice e => tt e
   | _ => none
section
variable {R : Type}
def qlx (tt : Nat -> Option TI) (S : IS) (ty : TypeId) (v : IV) (kk : Res -> Option R) : Option R := match v with
 | .aptr id s i off => match tt ty with
   | none => none
   | some ti => match S.heap.get id with
     | some (.arr c l) => cond (Nat.beq s (csz c)) (match l[i]? with
       | none => none
       | some x => ob (cond (qat ti.und) (match (cel c x)[off]? with | some v => some ⟨v, S, 2 ^ id, 0⟩ | none => none)
         (cond (Nat.ble (off + ti.sz) (csz c)) (some ⟨.agg (((cel c x).drop off).take ti.sz), S, 2 ^ id, 0⟩) none)) kk) none
     | _ => none
 | v => ob (iload tt S ty v) kk
theorem q3u (tt : Nat -> Option TI) (S : IS) (ty : TypeId) (v : IV) (kk : Res -> Option R) : qlx tt S ty v kk = ob (iload tt S ty v) kk := by
 cases v <;> try rfl
 rename_i id s i off
 simp only [qlx, iload]
 cases tt ty with
 | none => rfl
 | some ti =>
   simp only
   cases S.heap.get id with
   | none => rfl
   | some o =>
     cases o <;> try rfl
     simp only [qau]
     rename_i c l
     cases Nat.beq s (csz c)
     · rfl
     · simp only [cond_true]
       cases l[i]? with
       | none => rfl
       | some x => simp only [qau]; rfl
def imkCK (tt : Nat -> Option TI) (S : IS) (ty : Nat) (n m : Int) (kk : Res -> Option R) : Option R := match tt ty with
 | none => none
 | some ti => match ti.und with
   | .slice e => match tt e with
     | none => none
     | some te => match tcOf tt 8 e with
       | none => none
       | some c => match zC c te.zero.cells.toList with
         | some [] => cond (Nat.beq te.sz (csz c) && (Nat.blt 0 te.bytes && (Nat.ble (bsz c) te.bytes && u8ok c e)))
           (cond (iltI n 0) none (cond (Nat.ble (Nat.mul m.toNat te.bytes) 140737488355328) (kk ⟨.arr S.next, S.new (.arr c (Go.Jx.S.rep n (zEl c))), 0, 0⟩) none)) none
         | _ => none
   | _ => none
theorem qv6 (tt : Nat -> Option TI) (S : IS) (ty : Nat) (n m : Int) (kk : Res -> Option R) : imkCK tt S ty n m kk = ob (imkC tt S ty n m) kk := by
 unfold imkCK imkC
 cases tt ty with
 | none => rfl
 | some ti =>
   simp only
   cases ti.und <;> try rfl
   rename_i e
   simp only
   cases tt e with
   | none => rfl
   | some te =>
     simp only
     cases tcOf tt 8 e with
     | none => rfl
     | some c =>
       simp only
       cases zC c te.zero.cells.toList with
       | none => rfl
       | some l =>
         cases l with
         | cons _ _ => rfl
         | nil => simp only [qau]; rfl
def qvx (tt : Nat -> Option TI) (S : IS) (ty : Nat) (v : IV) (kk : Res -> Option R) : Option R := match v with
 | .int _ n => imkCK tt S ty n n kk
 | _ => none
def qk6 (tt : Nat -> Option TI) (S : IS) (ty : Nat) (v u : IV) (kk : Res -> Option R) : Option R := match v, u with
 | .int _ n, .int _ m => cond (iltI m n) none (imkCK tt S ty n m kk)
 | _, _ => none
theorem q02 (tt : Nat -> Option TI) (S : IS) (ty : Nat) (v : IV) (kk : Res -> Option R) : qvx tt S ty v kk = ob (qeh tt S ty v) kk := by
 cases v <;> first | rfl | exact qv6 ..
theorem q0x (tt : Nat -> Option TI) (S : IS) (ty : Nat) (v u : IV) (kk : Res -> Option R) : qk6 tt S ty v u kk = ob (imake tt S ty v u) kk := by
 cases v <;> cases u <;> try rfl
 simp only [qk6, imake, qau, qv6]
 rfl
def qk2 (tt : Nat -> Option TI) (S : IS) (ty : TypeId) (v u : IV) (kk : Res -> Option R) : Option R := match v with
 | .aptr id s i off => match tt ty with
   | none => none
   | some ti => match S.heap.get id with
     | some (.arr c l) => cond (Nat.beq s (csz c) && Nat.beq (cellsOf u).length ti.sz && Nat.ble (off + ti.sz) (csz c) && (cellsOf u).all one1)
       (match l[i]? with
       | none => none
       | some x => match icl c S (putI (cel c x) off (cellsOf u)) with
         | some (x2, [], S2, w) => cond (Nat.testBit w id) none (kk ⟨.tup [], S2.set id (.arr c (l.set i x2)), 0, w ||| 2 ^ id⟩)
         | _ => none) none
     | _ => none
 | v => ob (qc9 tt S ty v u) kk
theorem q30 (tt : Nat -> Option TI) (S : IS) (ty : TypeId) (v u : IV) (kk : Res -> Option R) : qk2 tt S ty v u kk = ob (qc9 tt S ty v u) kk := by
 cases v <;> try rfl
 rename_i id s i off
 simp only [qk2, qc9]
 cases tt ty with
 | none => rfl
 | some ti =>
   simp only
   cases S.heap.get id with
   | none => rfl
   | some o =>
     cases o <;> try rfl
     rename_i c l
     simp only [qau]
     cases (Nat.beq s (csz c) && Nat.beq (cellsOf u).length ti.sz && Nat.ble (off + ti.sz) (csz c) && (cellsOf u).all one1)
     · rfl
     · simp only [cond_true]
       cases l[i]? with
       | none => rfl
       | some x =>
         simp only
         cases icl c S (putI (cel c x) off (cellsOf u)) with
         | none => rfl
         | some q =>
           obtain ⟨x2, r, S2, w⟩ := q
           cases r with
           | nil =>
             simp only
             rw [qau]; rfl
           | cons a r => rfl
def qjk (tt : Nat -> Option TI) (S : IS) (ty : Nat) (v u : IV) (kk : Res -> Option R) : Option R := match v, u with
 | .lst c l, .int _ i => match slEl tt ty with
   | none => none
   | some te => cond (Nat.beq te.sz (csz c)) (match jget l i with
     | none => none
     | some x => kk ⟨.eptr c x 0, S, 0, 0⟩) none
 | .arr id, .int _ i => match slEl tt ty with
   | none => none
   | some te => match S.heap.get id with
     | some (.arr c l) => cond (Nat.beq te.sz (csz c)) (match jget l i with
       | none => none
       | some x => kk ⟨.aptr id (csz c) i.toNat 0, S, 2 ^ id, 0⟩) none
     | some (.frz c l) => cond (Nat.beq te.sz (csz c)) (match jget l i with
       | none => none
       | some x => kk ⟨.eptr c x 0, S, 2 ^ id, 0⟩) none
     | _ => none
 | v, u => ob (qct tt S ty v u) kk
theorem q0e (tt : Nat -> Option TI) (S : IS) (ty : Nat) (v u : IV) (kk : Res -> Option R) : qjk tt S ty v u kk = ob (qct tt S ty v u) kk := by
 cases v <;> try rfl
 · cases u <;> try rfl
   rename_i c l k i
   simp only [qjk, qct, slEl]
   cases tt ty with
   | none => rfl
   | some ti =>
     simp only
     cases ti.und <;> try rfl
     rename_i e
     simp only
     cases tt e with
     | none => rfl
     | some te =>
       simp only [qau]
       cases Nat.beq te.sz (csz c)
       · rfl
       · simp only [cond_true]; cases jget l i <;> rfl
 · cases u <;> try rfl
   rename_i id k i
   simp only [qjk, qct, slEl]
   cases tt ty with
   | none => rfl
   | some ti =>
     simp only
     cases ti.und <;> try rfl
     rename_i e
     simp only
     cases tt e with
     | none => rfl
     | some te =>
       simp only
       cases S.heap.get id with
       | none => rfl
       | some o =>
         cases o <;> try rfl
         all_goals
           rename_i c l
           simp only [qau]
           cases Nat.beq te.sz (csz c)
           · rfl
           · simp only [cond_true]; cases jget l i <;> rfl
def qpt (tt : Nat -> Option TI) (S : IS) (ty : Nat) (lo hi mx : Option IV) (v : IV) (kk : Res -> Option R) : Option R := match v with
 | .lst c l => match slEl tt ty with
   | none => none
   | some te => match bndI lo 0, bndI hi l.length with
     | some a, some b => match mx with
       | none => cond (Nat.beq te.sz (csz c)) (cond (lchk a b l.length l.length) (kk ⟨.lst c (lsub l a b), S, 0, 0⟩) none) none
       | some mx => match hi, bndI (some mx) 0 with
         | some _, some m => cond (Nat.beq te.sz (csz c)) (cond (lchk a b m l.length) (kk ⟨.lst c (lsub l a b), S, 0, 0⟩) none) none
         | _, _ => none
     | _, _ => none
 | v => ob (qck tt S ty lo hi mx v) kk
theorem qzu (tt : Nat -> Option TI) (S : IS) (ty : Nat) (lo hi mx : Option IV) (v : IV) (kk : Res -> Option R) : qpt tt S ty lo hi mx v kk = ob (qck tt S ty lo hi mx v) kk := by
 cases v <;> try rfl
 rename_i c l
 simp only [qpt, qck, slEl]
 cases tt ty with
 | none => rfl
 | some ti =>
   simp only
   cases ti.und <;> try rfl
   rename_i e
   simp only
   cases tt e with
   | none => rfl
   | some te =>
     simp only
     cases bndI lo 0 <;> cases bndI hi l.length <;> try rfl
     simp only
     cases mx with
     | none => simp only [qau]; rfl
     | some mx =>
       simp only
       cases hi <;> cases bndI (some mx) 0 <;> try rfl
       simp only [qau]; rfl
def qkq (tt : Nat -> Option TI) (S : IS) (ty : Nat) (lo hi mx : Option IV) (s : ByteArray) (kk : Res -> Option R) : Option R :=
 match tt ty, mx with
 | some ti, none => match ti.und with
   | .string => match bndI lo 0, bndI hi s.size with
     | some a, some b => cond (lchk a b s.size s.size) (kk ⟨.str (s.extract a.toNat b.toNat), S, 0, 0⟩) none
     | _, _ => none
   | _ => none
 | _, _ => none
theorem qz7 (tt : Nat -> Option TI) (S : IS) (ty : Nat) (lo hi mx : Option IV) (s : ByteArray) (kk : Res -> Option R) : qkq tt S ty lo hi mx s kk = ob (qdv tt S ty lo hi mx s) kk := by
 simp only [qkq, qdv]
 cases tt ty <;> cases mx <;> try rfl
 rename_i ti
 simp only
 cases ti.und <;> try rfl
 simp only
 cases bndI lo 0 <;> cases bndI hi s.size <;> try rfl
 simp only [qau]; rfl
def qkm (tt : Nat -> Option TI) (S : IS) (ty : Nat) (lo hi mx : Option IV) (id : Nat) (wh : Bool) (kk : Res -> Option R) : Option R :=
 match tt ty, mx with
 | some ti, none => match ti.und with
   | .slice e => match tt e with
     | none => none
     | some te => match S.heap.get id with
       | some (.arr c l) => match bndI lo 0, bndI hi l.length with
         | some a, some b => cond wh (cond (ieqI a 0 && ieqI b l.length) (kk ⟨.arr id, S, 2 ^ id, 0⟩) none)
           (cond (Nat.beq te.sz (csz c) && lchk a b l.length l.length) (kk ⟨.lst c (lsub l a b), S.set id (.frz c l), 0, 2 ^ id⟩) none)
         | _, _ => none
       | some (.frz c l) => match bndI lo 0, bndI hi l.length with
         | some a, some b => cond (Nat.beq te.sz (csz c) && lchk a b l.length l.length) (kk ⟨.lst c (lsub l a b), S, 2 ^ id, 0⟩) none
         | _, _ => none
       | _ => none
   | _ => none
 | _, _ => none
theorem q4u (tt : Nat -> Option TI) (S : IS) (ty : Nat) (lo hi mx : Option IV) (id : Nat) (wh : Bool) (kk : Res -> Option R) : qkm tt S ty lo hi mx id wh kk = ob (qdk tt S ty lo hi mx id wh) kk := by
 simp only [qkm, qdk]
 cases tt ty <;> cases mx <;> try rfl
 rename_i ti
 simp only
 cases ti.und <;> try rfl
 rename_i e
 simp only
 cases tt e <;> try rfl
 simp only
 cases S.heap.get id <;> try rfl
 rename_i o
 cases o <;> try rfl
 all_goals simp only
 · rename_i c l
   cases bndI lo 0 <;> cases bndI hi l.length <;> try rfl
   simp only [qau]; rfl
 · rename_i c l
   cases bndI lo 0 <;> cases bndI hi l.length <;> try rfl
   simp only [qau]; rfl
def qnu (tt : Nat -> Option TI) (S : IS) (ty : Nat) (s : ByteArray) (i : Int) (kk : Res -> Option R) : Option R :=
 match tt ty with
 | some ti => match ti.und with
   | .string => match jget (qaa s) i with
     | some x => kk ⟨.int .u8 x, S, 0, 0⟩
     | none => none
   | _ => none
 | none => none
theorem q1w (tt : Nat -> Option TI) (S : IS) (ty : Nat) (s : ByteArray) (i : Int) (kk : Res -> Option R) : qnu tt S ty s i kk = ob (qdo tt S ty s i) kk := by
 simp only [qnu, qdo]
 cases tt ty <;> try rfl
 rename_i ti
 simp only
 cases ti.und <;> try rfl
 simp only
 cases jget (qaa s) i <;> rfl
def ql9 (S : IS) (v : IV) (b : Bool) (kk : Res -> Option R) : Option R := match v, b with
 | .ptr id 0, true => match S.heap.get id with
   | some (.iter s p) => cond (Nat.blt p s.size) (kk ⟨.tup [.bool true, .int .i64 p, .int .i32 (Utf8.decode s p).1], S.set id (.iter s (p + (Utf8.decode s p).2)), 0, 2 ^ id⟩)
     (kk ⟨.tup [.bool false], S, 2 ^ id, 0⟩)
   | _ => none
 | _, _ => none
theorem qyb (S : IS) (v : IV) (b : Bool) (kk : Res -> Option R) : ql9 S v b kk = ob (inext S v b) kk := by
 have e : ∀ id, inext S (.ptr id 0) true = (match S.heap.get id with
   | some (.iter s p) => cond (Nat.blt p s.size) (some ⟨.tup [.bool true, .int .i64 p, .int .i32 (Utf8.decode s p).1], S.set id (.iter s (p + (Utf8.decode s p).2)), 0, 2 ^ id⟩) (some ⟨.tup [.bool false], S, 2 ^ id, 0⟩)
   | _ => none) := fun id => rfl
 unfold ql9
 split
 · rename_i id
   rw [e]
   cases S.heap.get id with
   | none => rfl
   | some o =>
     cases o <;> first | rfl | (simp only [qau]; rfl)
 · rename_i h
   unfold inext
   split
   · rename_i id; exact absurd rfl (h id rfl)
   · rfl
def qod (tt : Nat -> Option TI) (S : IS) (ty ty2 id : Nat) (y : IV) (kk : Res -> Option R) : Option R :=
 match S.heap.get id with
 | some (.arr c _) => match qcv tt ty ty2 c with
   | none => none
   | some b => match tsrc S c y with
     | none => none
     | some (ly, S1, rd, wr) => match S1.heap.get id with
       | some (.arr c2 lx) => match qa7 c c2 ly with
         | none => none
         | some ly2 => cond (Nat.ble ((lx.length + ly2.length) * b) 140737488355328) (kk ⟨.arr S1.next, (S1.set id .dead).new (.arr c2 (lx ++ ly2)), rd, wr ||| 2 ^ id⟩) none
       | _ => none
 | _ => none
theorem q0p (tt : Nat -> Option TI) (S : IS) (ty ty2 id : Nat) (y : IV) (kk : Res -> Option R) : qod tt S ty ty2 id y kk = ob (iappA tt S ty ty2 id y) kk := by
 simp only [qod, iappA]
 cases S.heap.get id with
 | none => rfl
 | some o =>
   cases o <;> try rfl
   rename_i c l
   simp only
   cases qcv tt ty ty2 c with
   | none => rfl
   | some b =>
     simp only
     cases tsrc S c y with
     | none => rfl
     | some q =>
       obtain ⟨ly, S1, rd, wr⟩ := q
       simp only
       cases S1.heap.get id with
       | none => rfl
       | some o =>
         cases o <;> try rfl
         rename_i c2 lx
         simp only
         cases qa7 c c2 ly with
         | none => rfl
         | some ly2 => simp only [qau]; rfl
def qc4 (tt : Nat -> Option TI) (S : IS) (ty ty2 : Nat) (c : TC) (l : List (El c)) (rd : Nat) (kk : Res -> Option R) : Option R :=
 match qcv tt ty ty2 c with
 | none => none
 | some b => cond (Nat.ble ((0 + l.length) * b) 140737488355328) (kk ⟨.arr (S.next + 1), ((S.new (.arr c [])).set S.next .dead).new (.arr c l), rd, 0⟩) none
theorem quz (tt : Nat -> Option TI) (S : IS) (ty ty2 : Nat) (c : TC) (l : List (El c)) (rd : Nat) (kk : Res -> Option R) : qc4 tt S ty ty2 c l rd kk = ob (iappN tt S ty ty2 c l rd) kk := by
 simp only [qc4, iappN]
 cases qcv tt ty ty2 c with
 | none => rfl
 | some b => simp only [qau]; rfl
def iappK (tt : Nat -> Option TI) (S : IS) (ty ty2 : Nat) (x y : IV) (kk : Res -> Option R) : Option R :=
 match x with
 | .arr id => qod tt S ty ty2 id y kk
 | x => match y with
   | .lst c l => cond (empS c x) (qc4 tt S ty ty2 c l 0 kk) none
   | .arr id => match S.heap.get id with
     | some (.arr c l) => cond (empS c x) (qc4 tt S ty ty2 c l (2 ^ id) kk) none
     | some (.frz c l) => cond (empS c x) (qc4 tt S ty ty2 c l (2 ^ id) kk) none
     | _ => none
   | y => ob (qey tt S ty ty2 x y) kk
theorem q4a (tt : Nat -> Option TI) (S : IS) (ty ty2 : Nat) (x y : IV) (kk : Res -> Option R) : iappK tt S ty ty2 x y kk = ob (iapp tt S ty ty2 x y) kk := by
 have hz : ∀ (z : Option IObj) (b : TC -> Bool) (id : Nat), (match z with
     | some (.arr c l) => cond (b c) (qc4 tt S ty ty2 c l (2 ^ id) kk) none
     | some (.frz c l) => cond (b c) (qc4 tt S ty ty2 c l (2 ^ id) kk) none
     | _ => none) = ob (match z with
     | some (.arr c l) => cond (b c) (iappN tt S ty ty2 c l (2 ^ id)) none
     | some (.frz c l) => cond (b c) (iappN tt S ty ty2 c l (2 ^ id)) none
     | _ => none) kk := fun z b id => by
   cases z with
   | none => rfl
   | some o =>
     cases o <;> try rfl
     all_goals (simp only [qau, quz]; rfl)
 have hl : ∀ (b : Bool) (c : TC) (l : List (El c)), cond b (qc4 tt S ty ty2 c l 0 kk) none = ob (cond b (iappN tt S ty ty2 c l 0) none) kk := fun b c l => by simp only [qau, quz]; rfl
 cases x <;> first | exact q0p _ _ _ _ _ _ _ | (cases y <;> first | rfl | (simp only [iappK, iapp]; exact hl _ _ _) | (simp only [iappK, iapp]; exact hz _ (fun c => empS c _) _))
def qg8 (P : Program) (tt : Nat -> Option TI) (nt : Nat) (fr : PT IV) (S : IS) (o : Oper) (op : BinOp) (T : TypeId) (ti : TI) (v u : IV) (kk : Res -> Option R) : Option R := match v, u with
 | .str a, .str b => match op with
   | .add => cond (Nat.blt (a.size + b.size) 9223372036854775808) (kk ⟨.str (a ++ b), S, 0, 0⟩) none
   | op => ob (qbr P tt nt fr S o op T ti (.str a) (.str b)) kk
 | .int k a, .int k' b => match op with
   | .quo => cond (decide (k = k')) (cond (ieqI b 0) none (kk ⟨.int k (k.wrap (a.tdiv b)), S, 0, 0⟩)) (ob (icalm P nt fr S o) kk)
   | .rem => cond (decide (k = k')) (cond (ieqI b 0) none (kk ⟨.int k (a.tmod b), S, 0, 0⟩)) (ob (icalm P nt fr S o) kk)
   | op => ob (qbr P tt nt fr S o op T ti (.int k a) (.int k' b)) kk
 | .lst _ l, .nilsl => cond (isSl ti.und) (match l with
   | [] => none
   | _ :: _ => match op with
     | .eql => kk ⟨.bool false, S, 0, 0⟩
     | .neq => kk ⟨.bool true, S, 0, 0⟩
     | _ => none) none
 | v, u => ob (qbr P tt nt fr S o op T ti v u) kk
theorem q01 (P : Program) (tt : Nat -> Option TI) (nt : Nat) (fr : PT IV) (S : IS) (o : Oper) (op : BinOp) (T : TypeId) (ti : TI) (v u : IV) (kk : Res -> Option R) : qg8 P tt nt fr S o op T ti v u kk = ob (qbr P tt nt fr S o op T ti v u) kk := by
 cases v <;> cases u <;> try rfl
 · cases op <;> try rfl
   all_goals
     rename_i k a k' b
     simp only [qg8, qbr, qi0, ibin]
     cases decide (k = k') with
     | false => rfl
     | true =>
       simp only [cond_true]
       cases ieqI b 0 <;> rfl
 · cases op <;> try rfl
   simp only [qg8, qbr, qau]; rfl
 · simp only [qg8, qbr, qau]
   rename_i c l
   cases l <;> cases op <;> rfl
def exfK (s : Sm) (vs : List IV) (S : IS) (kk : Res -> Option R) : Option R :=
 match qb7 s.pts S vs with
 | none => none
 | some (x, S1, w) => match s.f x with
   | none => none
   | some y => cond s.flat (kk ⟨tupI (resV s.rts S.next y), addO (resO s.rts y) S, w, 0⟩) (kk ⟨tupI (resV s.rts S1.next y), addO (resO s.rts y) S1, 0, w⟩)
theorem exfK_eq (s : Sm) (vs : List IV) (S : IS) (kk : Res -> Option R) : exfK s vs S kk = ob (exf s vs S) kk := by
 simp only [exfK, exf]
 cases qb7 s.pts S vs with
 | none => rfl
 | some q =>
   obtain ⟨x, S1, w⟩ := q
   simp only
   cases s.f x with
   | none => rfl
   | some y => simp only [qau]; rfl
def ilenK (tt : Nat -> Option TI) (S : IS) (ty : Nat) (v : IV) (kk : Res -> Option R) : Option R := match v with
 | .map id => match tt ty with
   | some ti => match ti.und with
     | .map _ _ => match S.heap.get id with
       | some (.tmap _ _ es) => cond (Nat.blt es.length 9223372036854775808) (kk ⟨.int .i64 es.length, S, 2 ^ id, 0⟩) none
       | _ => ob (ilen tt S ty (.map id)) kk
     | _ => none
   | none => none
 | v => ob (ilen tt S ty v) kk
theorem qz8 (tt : Nat -> Option TI) (S : IS) (ty : Nat) (v : IV) (kk : Res -> Option R) : ilenK tt S ty v kk = ob (ilen tt S ty v) kk := by
 cases v <;> try rfl
 rename_i id
 simp only [ilenK]
 cases h1 : tt ty with
 | none => simp only [ilen, h1]; rfl
 | some ti =>
   simp only
   cases h2 : ti.und <;> try (simp only [ilen, h1, h2]; rfl)
   simp only
   cases h3 : S.heap.get id with
   | none => rfl
   | some o =>
     cases o <;> try rfl
     simp only [ilen, h1, h2, h3, qau]; rfl
end
end Go.Jx
end

section
namespace Go.Jx
open Go Go.Sx Go.RowKit
universe u

def bd {α R : Type} (x : Option α) (k : α -> Option R) : Option R := match x with | some a => k a | none => none
theorem qgh {α R : Type} (k : α -> Option R) (b : Bool) (x y : Option α) : bd (cond b x y) k = cond b (bd x k) (bd y k) := by cases b <;> rfl
theorem qde {α R : Type} (x : Option α) (f : α -> Option Res) (k : Res -> Option R) : ob (oget x f) k = bd x fun a => ob (f a) k := by cases x <;> rfl
section
variable {R : Type}
def iopK (P : Program) (tt : Nat -> Option TI) (nt : Nat) (fr : PT IV) (S : IS) (o : Oper) (kk : Res -> Option R) : Option R :=
 match o.op with
 | .load T x => bd (evo nt fr x) fun v => qlx tt S T v kk
 | .store T x y => bd (evo nt fr x) fun v => bd (evo nt fr y) fun u => qk2 tt S T v u kk
 | .binOp op T x y _ => bd (evo nt fr x) fun v => bd (evo nt fr y) fun u => match tt T with
   | some ti => qg8 P tt nt fr S o op T ti v u kk
   | none => none
 | .slice T x lo hi mx => bd (evo nt fr x) fun v => match v with
   | .lst c l => bd (evM nt fr lo) fun lo => bd (evM nt fr hi) fun hi => bd (evM nt fr mx) fun mx => qpt tt S T lo hi mx (.lst c l) kk
   | .str s => bd (evM nt fr lo) fun lo => bd (evM nt fr hi) fun hi => bd (evM nt fr mx) fun mx => qkq tt S T lo hi mx s kk
   | .arr id => bd (evM nt fr lo) fun lo => bd (evM nt fr hi) fun hi => bd (evM nt fr mx) fun mx => qkm tt S T lo hi mx id (qtd o.pos) kk
   | _ => ob (iop P tt nt fr S o) kk
 | .indexAddr T x y => bd (evo nt fr x) fun v => bd (evo nt fr y) fun u => qjk tt S T v u kk
 | .makeSlice T x y => bd (evo nt fr x) fun v => cond (qjc x y) (qvx tt S T v kk) (bd (evo nt fr y) fun u => qk6 tt S T v u kk)
 | .next x b => bd (evo nt fr x) fun v => ql9 S v b kk
 | .index T x y => bd (evo nt fr x) fun v => bd (evo nt fr y) fun u => match v, u with
   | .str s, .int _ i => qnu tt S T s i kk
   | _, _ => ob (iop P tt nt fr S o) kk
 | .call ⟨.builtin .append, args, ts⟩ => match args.toList, ts.toList with
   | [x, y], [t1, t2] => bd (evo nt fr x) fun v => bd (evo nt fr y) fun u => iappK tt S t1 t2 v u kk
   | _, _ => none
 | .call ⟨.builtin .len, args, ts⟩ => match args.toList, ts.toList with
   | [x], [t1] => bd (evo nt fr x) fun v => match v with
     | .map id => ilenK tt S t1 (.map id) kk
     | _ => ob (iop P tt nt fr S o) kk
   | _, _ => none
 | _ => ob (iop P tt nt fr S o) kk
theorem qv8 (P : Program) (tt : Nat -> Option TI) (nt : Nat) (fr : PT IV) (S : IS) (o : Oper) (kk : Res -> Option R) : iopK P tt nt fr S o kk = ob (iop P tt nt fr S o) kk := by
 obtain ⟨dst, op, ty, pos, aft, g⟩ := o
 cases op <;> try rfl
 case load T x => simp only [iopK, iop, qde, q3u]
 case store T x y => simp only [iopK, iop, qde, q30]
 case binOp op T x y t2 =>
   simp only [iopK, iop, qde]
   cases evo nt fr x <;> try rfl
   cases evo nt fr y <;> try rfl
   simp only [bd]
   cases tt T <;> first | rfl | exact q01 ..
 case slice T x lo hi mx =>
   simp only [iopK]
   cases he : evo nt fr x with
   | none => simp only [iop, he]; rfl
   | some v =>
     simp only [bd]
     cases v <;> try rfl
     · simp only [iop, he, oget]
       cases evM nt fr lo <;> try rfl
       cases evM nt fr hi <;> try rfl
       cases evM nt fr mx <;> try rfl
       exact qz7 ..
     · simp only [iop, he, oget]
       cases evM nt fr lo <;> try rfl
       cases evM nt fr hi <;> try rfl
       cases evM nt fr mx <;> try rfl
       exact qzu ..
     · simp only [iop, he, oget]
       cases evM nt fr lo <;> try rfl
       cases evM nt fr hi <;> try rfl
       cases evM nt fr mx <;> try rfl
       exact q4u ..
 case indexAddr T x y => simp only [iopK, iop, qde, q0e]
 case makeSlice T x y => simp only [iopK, iop, qde, qau, q02, q0x]
 case next x b => simp only [iopK, iop, qde, qyb]
 case index T x y =>
   simp only [iopK]
   cases he : evo nt fr x with
   | none => simp only [iop, he]; rfl
   | some v =>
     simp only [bd]
     cases he2 : evo nt fr y with
     | none => simp only [iop, he, he2, oget]; rfl
     | some u =>
       simp only
       cases v <;> cases u <;> try rfl
       simp only [iop, he, he2, oget]
       exact q1w ..
 case call c =>
   obtain ⟨callee, args, ts⟩ := c
   cases callee <;> try rfl
   rename_i b
   cases b <;> try rfl
   case append =>
     simp only [iopK, iop]
     generalize args.toList = la
     generalize ts.toList = lt
     cases la with
     | nil => rfl
     | cons x la => cases la with
       | nil => rfl
       | cons y la => cases la with
         | cons z la => rfl
         | nil => cases lt with
           | nil => rfl
           | cons t1 lt => cases lt with
             | nil => rfl
             | cons t2 lt => cases lt with
               | cons t3 lt => rfl
               | nil => simp only [qde, q4a]
   case len =>
     simp only [iopK, iop]
     generalize args.toList = la
     generalize ts.toList = lt
     cases la with
     | nil => rfl
     | cons x la => cases la with
       | cons y la => rfl
       | nil => cases lt with
         | nil => rfl
         | cons t1 lt => cases lt with
           | cons t2 lt => rfl
           | nil =>
             simp only
             cases he : evo nt fr x with
             | none => rfl
             | some v =>
               simp only [bd, oget]
               cases v <;> try rfl
               exact qz8 ..
abbrev ClK (R : Type) := Tgt -> List IV -> IS -> (Res -> Option R) -> Option R
def qd7 (P : Program) (tt : Nat -> Option TI) (nt : Nat) (cl : ClK R) (fr : PT IV) (S : IS) (o : Oper) (kk : Res -> Option R) : Option R :=
 match o.op with
 | .call ⟨.value x, args, _⟩ => bd (evo nt fr x) fun v => bd (evL nt fr args.toList) fun vs => match v with
   | .fn f caps => cl (.fn f) (vs ++ caps) S kk
   | .yield id => cl (.yield id) vs S kk
   | _ => none
 | _ => iopK P tt nt fr S o kk
def ClEq (cl : Cl) (clK : ClK R) : Prop := ∀ tgt vs S kk, clK tgt vs S kk = ob (cl tgt vs S) kk
variable {P : Program} {tt : Nat -> Option TI} {nt : Nat} {cl : Cl} {clK : ClK R}
theorem qqf (h : ClEq cl clK) (fr : PT IV) (S : IS) (o : Oper) (kk : Res -> Option R) : qd7 P tt nt clK fr S o kk = ob (istep P tt nt cl fr S o) kk := by
 obtain ⟨dst, op, ty, pos, aft, g⟩ := o
 cases op
 case call c =>
   obtain ⟨callee, args, ts⟩ := c
   cases callee
   case value x =>
     simp only [qd7, istep, qde]
     cases evo nt fr x <;> try rfl
     rename_i v
     cases evL nt fr args.toList <;> try rfl
     rename_i vs
     cases v <;> try rfl
     · exact h ..
     · exact h ..
   all_goals (simp only [qd7, istep]; exact qv8 ..)
 all_goals (simp only [qd7, istep]; exact qv8 ..)
theorem PT.set_same {α : Type u} {x : α} : ∀ {t : PT α} {n : Nat}, t.get n = some x -> t.set x n = t
 | .leaf, n, h => by cases h
 | .node v l r, n, h => by
   unfold PT.get at h
   unfold PT.set
   cases h0 : Nat.beq n 0 with
   | true => rw [h0, cond_true] at h; subst h; rfl
   | false =>
     rw [h0, cond_false] at h
     simp only [cond_false]
     cases h1 : Nat.beq (n % 2) 1 with
     | true => rw [h1, cond_true] at h; simp only [cond_true]; rw [PT.set_same h]
     | false => rw [h1, cond_false] at h; simp only [cond_false]; rw [PT.set_same h]
theorem q39 {fr : PT IV} {t : Nat} {v : IV} (h : slot fr t = v) (hv : v ≠ .unk) : fr.set v t = fr := by
 unfold slot at h
 cases hg : fr.get t with
 | none => rw [hg] at h; exact absurd h.symm hv
 | some x => rw [hg] at h; subst h; exact PT.set_same hg
def guK (ops : List Oper) (nt : Nat) (fr : PT IV) (g : Option (Nat × Bool)) (yes no : PT IV -> Option R) : Option R :=
 match g with
 | none => yes fr
 | some (j, want) => match dstAt ops j with
   | none => no fr
   | some t => match slot fr t with
     | .bool b => cond (Nat.blt t nt) (cond b (cond want yes no (fr.set (.bool true) t)) (cond want no yes (fr.set (.bool false) t))) (no fr)
     | v => cond (known v) (no fr) none
theorem qse (ops : List Oper) (nt : Nat) (fr : PT IV) (g : Option (Nat × Bool)) (yes no : PT IV -> Option R) : guK ops nt fr g yes no = cond (gOK ops fr g) (cond (wantI ops nt fr g) (yes fr) (no fr)) none := by
 unfold guK gOK wantI qim
 cases g with
 | none => rfl
 | some q =>
   obtain ⟨j, want⟩ := q
   simp only
   cases dstAt ops j with
   | none => rfl
   | some t =>
     simp only
     cases hs : slot fr t
     case bool b =>
       have hf : fr.set (.bool b) t = fr := q39 hs (by simp)
       simp only [known, cond_true]
       cases Nat.blt t nt
       · rfl
       · cases b <;> cases want <;> simp only [cond_true, cond_false, hf, Bool.not_true, Bool.not_false]
     all_goals (cases Nat.blt t nt <;> rfl)
def iseqK (P : Program) (tt : Nat -> Option TI) (nt : Nat) (cl : ClK R) (ops : List Oper) : List Oper -> PT IV -> IS -> (FRes -> Option R) -> Option R
 | [], fr, S, kk => kk ⟨fr, S, 0, 0⟩
 | o :: l, fr, S, kk => guK ops nt fr o.guard
   (fun fr => qd7 P tt nt cl fr S o fun r => iseqK P tt nt cl ops l (putD o.dst r.v fr) r.S fun q => kk ⟨q.fr, q.S, r.rd ||| q.rd, r.wr ||| q.wr⟩)
   (fun fr => iseqK P tt nt cl ops l (putD o.dst (.tup []) fr) S kk)
theorem qmn (h : ClEq cl clK) (ops : List Oper) : ∀ (l : List Oper) (fr : PT IV) (S : IS) (kk : FRes -> Option R), iseqK P tt nt clK ops l fr S kk = bd (iseq P tt nt cl ops l fr S) kk
 | [], fr, S, kk => rfl
 | o :: l, fr, S, kk => by
   simp only [iseqK, iseq, qse, qgh, qqf h, qmn h ops l]
   refine cond_congr' ?_
   refine cond_congr' ?_
   cases istep P tt nt cl fr S o with
   | none => rfl
   | some r =>
     simp only [ob]
     cases iseq P tt nt cl ops l (putD o.dst r.v fr) r.S <;> rfl
where cond_congr' {b : Bool} {x x' y : Option R} (h : x = x') : cond b x y = cond b x' y := by rw [h]
def qhb (P : Program) (tt : Nat -> Option TI) (nt : Nat) (cl : ClK R) (ops : List Oper) : List Oper -> PT IV -> IS -> (Recs -> Option R) -> Option R
 | [], fr, S, kk => kk ⟨[], fr, S⟩
 | o :: l, fr, S, kk => guK ops nt fr o.guard
   (fun fr => qd7 P tt nt cl fr S o fun r => qhb P tt nt cl ops l (putD o.dst r.v fr) r.S fun q => kk ⟨⟨fr, S, r.v, r.rd, r.wr, true⟩ :: q.l, q.fr, q.S⟩)
   (fun fr => qhb P tt nt cl ops l (putD o.dst (.tup []) fr) S fun q => kk ⟨⟨fr, S, .tup [], 0, 0, false⟩ :: q.l, q.fr, q.S⟩)
theorem qr1 (h : ClEq cl clK) (ops : List Oper) : ∀ (l : List Oper) (fr : PT IV) (S : IS) (kk : Recs -> Option R), qhb P tt nt clK ops l fr S kk = bd (irecs P tt nt cl ops l fr S) kk
 | [], fr, S, kk => rfl
 | o :: l, fr, S, kk => by
   simp only [qhb, irecs, qse, qgh, qqf h, qr1 h ops l]
   cases gOK ops fr o.guard
   · rfl
   cases wantI ops nt fr o.guard
   · simp only [cond_true, cond_false]
     cases irecs P tt nt cl ops l (putD o.dst (.tup []) fr) S <;> rfl
   · simp only [cond_true]
     cases istep P tt nt cl fr S o with
     | none => rfl
     | some r =>
       simp only [ob]
       cases irecs P tt nt cl ops l (putD o.dst r.v fr) r.S <;> rfl
def ianyK (P : Program) (tt : Nat -> Option TI) (nt : Nat) (cl : ClK R) (ops : List Oper) (fr : PT IV) (S : IS) (kk : FRes -> Option R) : Option R :=
 qhb P tt nt cl ops ops fr S fun q => cond (ichk q.l q.S (befs ops []) []) (kk ⟨q.fr, q.S, orRd q.l, orWr q.l⟩) none
theorem qqh (h : ClEq cl clK) (ops : List Oper) (fr : PT IV) (S : IS) (kk : FRes -> Option R) : ianyK P tt nt clK ops fr S kk = bd (iany P tt nt cl ops fr S) kk := by
 simp only [ianyK, iany, qr1 h]
 cases irecs P tt nt cl ops ops fr S with
 | none => rfl
 | some q => simp only [qgh]; rfl

abbrev CdK (R : Type) := PT IV -> IS -> List Nat -> (CRes -> Option R) -> Option R
def qi3 (f : CdK R) : Nat -> CdK R
 | 0, _, _, _, _ => none
 | n + 1, fr, S, ds, kk => f fr S ds fun r => match r.e with
   | .normal => qi3 f n r.fr r.S r.ds fun q => kk (q.or r.rd r.wr)
   | _ => kk r
def qcn (f : CdK R) (mr mw : Nat) : Nat -> CdK R
 | 0, _, _, _, _ => none
 | n + 1, fr, S, ds, kk => f fr S ds fun r => cond (subm r.rd mr && subm r.wr mw) (match r.e with
   | .normal => qcn f mr mw n r.fr r.S r.ds kk
   | e => kk ⟨e, r.fr, r.S, r.ds, mr, mw⟩) none
def ifinK (cl : ClK R) (f : Nat) (caps : List IV) (S : IS) (id : Nat) (fr : PT IV) (ds : List Nat) (rd : Nat) (kk : CRes -> Option R) : Option R :=
 cl (.fn f) (.yield id :: caps) S fun r => match r.S.heap.get id with
   | some (.loop st pend nt fr2 ps assign body D) => match st with
     | .busy => none
     | _ => match pend with
       | none => kk ⟨.normal, fr, r.S.set id (.loop .exhausted pend nt fr2 ps assign body D), ds, rd ||| (r.rd ||| 2 ^ id), r.wr ||| 2 ^ id⟩
       | some c => match qg3 c with
         | none => none
         | some e => kk ⟨e, fr, r.S.set id (.loop .exhausted pend nt fr2 ps assign body D), ds, rd ||| (r.rd ||| 2 ^ id), r.wr ||| 2 ^ id⟩
   | _ => none
theorem quq (h : ClEq cl clK) (f : Nat) (caps : List IV) (S : IS) (id : Nat) (fr : PT IV) (ds : List Nat) (rd : Nat) (kk : CRes -> Option R) : ifinK clK f caps S id fr ds rd kk = bd (ifin cl f caps S id fr ds rd) kk := by
 simp only [ifinK, ifin, h (.fn f)]
 cases cl (.fn f) (.yield id :: caps) S with
 | none => rfl
 | some r =>
   simp only [ob]
   cases r.S.heap.get id with
   | none => rfl
   | some o =>
     cases o <;> try rfl
     rename_i st pend nt fr2 ps assign body D
     cases st <;> try rfl
     all_goals
       cases pend with
       | none => rfl
       | some c =>
         simp only
         cases qg3 c <;> rfl
theorem qoy {B : Nat} (x : Option CRes) (kk : CRes -> Option R) : bd (mbO B x) kk = bd x fun r => kk (mbR B r) := by cases x <;> rfl
def qak (P : Program) (tt : Nat -> Option TI) (nm : Nat -> Option Nm) (B : Nat) (nt : Nat) (cl : ClK R) (lf : Nat) (round : Option Nat) : Code -> CdK R
 | .skip, fr, S, ds, kk => kk ⟨.normal, fr, S, ds, 0, 0⟩
 | .label _, fr, S, ds, kk => kk ⟨.normal, fr, S, ds, 0, 0⟩
 | .exit id, fr, S, ds, kk => kk ⟨.exit id, fr, S, ds, 0, 0⟩
 | .goto l, fr, S, ds, kk => kk ⟨.goto l, fr, S, ds, 0, 0⟩
 | .ret, fr, S, ds, kk => kk ⟨.ret, fr, S, ds, 0, 0⟩
 | .refuse _, _, _, _, _ => none
 | .region id ops draw, fr, S, ds, kk => bd (inorm nt (nm id) B fr S ds) fun x =>
   cond draw (ianyK P tt nt cl ops.toList x.fr x.S fun q => kk (mbR (mB nm B) ⟨.normal, q.fr, q.S, x.ds, q.rd, x.wr ||| q.wr⟩))
     (iseqK P tt nt cl ops.toList ops.toList x.fr x.S fun q => kk (mbR (mB nm B) ⟨.normal, q.fr, q.S, x.ds, q.rd, x.wr ||| q.wr⟩))
 | .seq x y, fr, S, ds, kk => qak P tt nm B nt cl lf round x fr S ds fun r => match r.e with
   | .normal => qak P tt nm B nt cl lf round y r.fr r.S r.ds fun q => kk (q.or r.rd r.wr)
   | _ => kk r
 | .cond c x y, fr, S, ds, kk => match evo nt fr c with
   | some (.bool b) => cond b (qak P tt nm B nt cl lf round x fr S ds kk) (qak P tt nm B nt cl lf round y fr S ds kk)
   | _ => none
 | .block id c, fr, S, ds, kk => qak P tt nm B nt cl lf round c fr S ds fun r => match r.e with
   | .exit id' => cond (Nat.beq id' id) (kk ⟨.normal, r.fr, r.S, r.ds, r.rd, r.wr⟩) (kk r)
   | _ => kk r
 | .scope c, fr, S, ds, kk => qak P tt nm B nt cl lf round c fr S ds fun r => match r.e with
   | .goto _ => none
   | _ => kk r
 | .loop c, fr, S, ds, kk => match loopM nm c with
   | some m => qcn (qak P tt nm B nt cl lf round c) m.1 m.2 lf fr S ds fun r => kk (mbR (mB nm B) r)
   | none => qi3 (qak P tt nm B nt cl lf round c) lf fr S ds kk
 | .rangeFunc g ps assign body, fr, S, ds, kk => match evo nt fr g with
   | some (.fn f caps) => match round with
     | none => ifinK cl f caps ((S.new (.defs true)).new (.loop .ready none nt fr ps.toList assign body S.next)) (S.next + 1) fr (S.next :: ds) 0 fun r => kk (mbR (mB nm B) r)
     | some l => match S.heap.get l with
       | some (.loop _ _ _ _ _ _ _ D) => ifinK cl f caps (S.new (.loop .ready none nt fr ps.toList assign body D)) S.next fr ds (2 ^ l) fun r => kk (mbR (mB nm B) r)
       | _ => none
   | _ => none
variable {nm : Nat -> Option Nm} {B lf : Nat} {round : Option Nat}
theorem qxh {g : PT IV -> IS -> List Nat -> Option CRes} {f : CdK R} (h : ∀ fr S ds kk, f fr S ds kk = bd (g fr S ds) kk) : ∀ n fr S ds kk, qi3 f n fr S ds kk = bd (iiter g n fr S ds) kk
 | 0, _, _, _, _ => rfl
 | n + 1, fr, S, ds, kk => by
   simp only [qi3, iiter, h, qxh h n]
   cases g fr S ds with
   | none => rfl
   | some r =>
     simp only [bd]
     cases r.e <;> try rfl
     simp only
     cases iiter g n r.fr r.S r.ds <;> rfl
theorem qxg {g : PT IV -> IS -> List Nat -> Option CRes} {f : CdK R} {mr mw : Nat} (h : ∀ fr S ds kk, f fr S ds kk = bd (g fr S ds) kk) : ∀ n fr S ds kk, qcn f mr mw n fr S ds kk = bd (qbc g mr mw n fr S ds) kk
 | 0, _, _, _, _ => rfl
 | n + 1, fr, S, ds, kk => by
   simp only [qcn, qbc, h, qxg h n]
   cases g fr S ds with
   | none => rfl
   | some r =>
     simp only [qgh]
     simp only [bd]
     cases subm r.rd mr && subm r.wr mw
     · rfl
     · simp only [cond_true]
       cases r.e <;> rfl
theorem qcu (hcl : ClEq cl clK) : ∀ (c : Code) (fr : PT IV) (S : IS) (ds : List Nat) (kk : CRes -> Option R), qak P tt nm B nt clK lf round c fr S ds kk = bd (icode P tt nm B nt cl lf round c fr S ds) kk := by
 intro c
 induction c with
 | skip => intros; rfl
 | label l => intros; rfl
 | exit id => intros; rfl
 | goto l => intros; rfl
 | ret => intros; rfl
 | refuse _ => intros; rfl
 | region id ops draw =>
   intro fr S ds kk
   simp only [qak, icode, qoy]
   cases inorm nt (nm id) B fr S ds with
   | none => rfl
   | some x =>
     simp only [bd, qqh hcl, qmn hcl]
     cases draw with
     | true => simp only [cond_true]; cases iany P tt nt cl ops.toList x.fr x.S <;> rfl
     | false => simp only [cond_false]; cases iseq P tt nt cl ops.toList ops.toList x.fr x.S <;> rfl
 | seq x y ihx ihy =>
   intro fr S ds kk
   simp only [qak, icode, ihx, ihy]
   cases icode P tt nm B nt cl lf round x fr S ds with
   | none => rfl
   | some r =>
     simp only [bd]
     cases r.e <;> try rfl
     simp only
     cases icode P tt nm B nt cl lf round y r.fr r.S r.ds <;> rfl
 | cond c x y ihx ihy =>
   intro fr S ds kk
   simp only [qak, icode]
   cases evo nt fr c with
   | none => rfl
   | some v =>
     cases v <;> try rfl
     simp only [ihx, ihy, qgh]
 | block id c ih =>
   intro fr S ds kk
   simp only [qak, icode, ih]
   cases icode P tt nm B nt cl lf round c fr S ds with
   | none => rfl
   | some r =>
     simp only [bd]
     cases r.e <;> try rfl
     simp only
     rename_i id'
     cases Nat.beq id' id <;> rfl
 | scope c ih =>
   intro fr S ds kk
   simp only [qak, icode, ih]
   cases icode P tt nm B nt cl lf round c fr S ds with
   | none => rfl
   | some r =>
     simp only [bd]
     cases r.e <;> rfl
 | loop c ih =>
   intro fr S ds kk
   simp only [qak, icode]
   cases loopM nm c with
   | none => exact qxh ih _ _ _ _ _
   | some m => exact (qxg ih _ _ _ _ _).trans (qoy _ _).symm
 | rangeFunc g ps assign body ih1 ih2 =>
   intro fr S ds kk
   simp only [qak, icode, qoy]
   cases evo nt fr g with
   | none => rfl
   | some v =>
     cases v <;> try rfl
     simp only
     cases round with
     | none => exact quq hcl ..
     | some l =>
       simp only
       cases S.heap.get l with
       | none => rfl
       | some o =>
         cases o <;> try rfl
         exact quq hcl ..
def qk9 (P : Program) (tt : Nat -> Option TI) (cl : ClK R) (lf : Nat) (id : Nat) (vs : List IV) (S : IS) (kk : Res -> Option R) : Option R :=
 match S.heap.get id with
 | some (.loop .ready _ nt fr ps assign body _) => cond (Nat.beq vs.length ps.length && qan assign && qan body)
   (qak P tt (fun _ => none) S.next nt cl lf (some id) assign (setPs ps vs fr) S [] fun r1 => match r1.e with
     | .normal => match r1.S.heap.get id with
       | some (.loop .ready pend nt2 fr2 ps2 as2 bd2 D2) => qak P tt (fun _ => none) S.next nt cl lf (some id) body r1.fr (r1.S.set id (.loop .busy pend nt2 fr2 ps2 as2 bd2 D2)) r1.ds fun r2 =>
         match r2.S.heap.get id with
         | some (.loop _ _ nt3 fr3 ps3 as3 bd3 D3) => kk ⟨.bool (endOf r2.e).isNone, r2.S.set id (.loop (if (endOf r2.e).isNone then .ready else .done) (endOf r2.e) nt3 fr3 ps3 as3 bd3 D3), 2 ^ id ||| (r1.rd ||| r2.rd), (r1.wr ||| 2 ^ id) ||| (r2.wr ||| 2 ^ id)⟩
         | _ => none
       | _ => none
     | _ => none) none
 | _ => none
theorem q1t (hcl : ClEq cl clK) (id : Nat) (vs : List IV) (S : IS) (kk : Res -> Option R) : qk9 P tt clK lf id vs S kk = ob (qcm P tt cl lf id vs S) kk := by
 simp only [qk9, qcm]
 cases S.heap.get id with
 | none => rfl
 | some o =>
   cases o <;> try rfl
   rename_i st pend nt fr ps assign body D
   cases st <;> try rfl
   simp only [qau, qcu hcl]
   cases (Nat.beq vs.length ps.length && qan assign && qan body)
   · rfl
   · simp only [cond_true]
     cases icode P tt (fun _ => none) S.next nt cl lf (some id) assign (setPs ps vs fr) S [] with
     | none => rfl
     | some r1 =>
       simp only [bd]
       cases r1.e <;> try rfl
       simp only
       cases r1.S.heap.get id with
       | none => rfl
       | some o =>
         cases o <;> try rfl
         rename_i st pend2 nt2 fr2 ps2 as2 bd2 D2
         cases st <;> try rfl
         simp only
         cases icode P tt (fun _ => none) S.next nt cl lf (some id) body r1.fr (r1.S.set id (.loop .busy pend2 nt2 fr2 ps2 as2 bd2 D2)) r1.ds with
         | none => rfl
         | some r2 =>
           simp only
           cases r2.S.heap.get id with
           | none => rfl
           | some o => cases o <;> rfl
abbrev ClP := (R : Type) -> ClK R
structure Hx where
 f : Cl -> List IV -> IS -> Option Res
 k : ClP -> (R : Type) -> List IV -> IS -> (Res -> Option R) -> Option R
 eq : ∀ (cl : Cl) (clP : ClP), (∀ R, ClEq cl (clP R)) -> ∀ R vs S kk, k clP R vs S kk = ob (f cl vs S) kk
def exH (sm : Nat -> Option Sm) (hx : Nat -> Option Hx) : Ex := fun f => match sm f with
 | some s => some (fun _ => exf s)
 | none => match hx f with
   | some h => some h.f
   | none => none
def qaj (P : Program) (tt : Nat -> Option TI) (ft : Nat -> Option FI) (nm : Nat -> Nat -> Option Nm) (sm : Nat -> Option Sm) (hx : Nat -> Option Hx) (lf : Nat) : Nat -> ClP
 | 0, _, _, _, _, _ => none
 | n + 1, R, tgt, vs, S, kk => match tgt with
   | .yield id => qk9 P tt (qaj P tt ft nm sm hx lf n R) lf id vs S kk
   | .fn f => match sm f with
     | some s => exfK s vs S kk
     | none => match hx f with
       | some h => h.k (qaj P tt ft nm sm hx lf n) R vs S kk
       | none => match ft f with
         | none => none
         | some fi => cond (frzF (nm f)) none (cond (Nat.ble vs.length fi.nt) (qak P tt (nm f) S.next fi.nt (qaj P tt ft nm sm hx lf n R) lf none fi.body (argGo vs 0 .leaf) S [] fun r => cond r.e.leaves (bd (qcc tt fi.nt fi.res S r) kk) none) none)
theorem qal {ft : Nat -> Option FI} {nm : Nat -> Nat -> Option Nm} {sm : Nat -> Option Sm} {hx : Nat -> Option Hx} : ∀ n R, ClEq (icall P tt ft nm (exH sm hx) lf n) (qaj P tt ft nm sm hx lf n R)
 | 0, _ => fun _ _ _ _ => rfl
 | n + 1, R => fun tgt vs S kk => by
   unfold qaj icall
   cases tgt with
   | yield id => exact q1t (qal n R) ..
   | fn f =>
     simp only [exH]
     cases sm f with
     | some s => exact exfK_eq ..
     | none =>
       simp only
       cases hx f with
       | some h => exact h.eq _ _ (qal n) R vs S kk
       | none =>
         simp only
         cases ft f with
         | none => rfl
         | some fi =>
           simp only [qau, qcu (qal n R)]
           cases frzF (nm f)
           case true => rfl
           simp only [cond_false]
           cases Nat.ble vs.length fi.nt
           · rfl
           · simp only [cond_true]
             cases icode P tt (nm f) S.next fi.nt (icall P tt ft nm (exH sm hx) lf n) lf none fi.body (argGo vs 0 .leaf) S [] with
             | none => rfl
             | some r =>
               simp only [bd, qau]
               cases r.e.leaves
               · rfl
               · cases qcc tt fi.nt fi.res S r <;> rfl
end
end Go.Jx
end

section
namespace Go.Jx
open Go Go.Sx Go.RowKit
universe u

def PT.Fa {α : Type u} : PT α -> (Nat -> α -> Prop) -> Prop
 | .leaf, _ => True
 | .node v l r, p => (match v with | none => True | some x => p 0 x) /\ l.Fa (fun k => p (2 * k + 1)) /\ r.Fa (fun k => p (2 * k + 2))
theorem PT.fa {α : Type u} : ∀ {t : PT α} {p : Nat -> α -> Prop}, t.Fa p -> ∀ k v, t.get k = some v -> p k v
 | .leaf, p, h, k, v, hk => by cases hk
 | .node x l r, p, h, k, v, hk => by
   obtain ⟨h1, h2, h3⟩ := h
   unfold PT.get at hk
   by_cases h0 : k = 0
   · subst h0
     rw [beq_t rfl, cond_true] at hk
     subst hk; exact h1
   · rw [beq_f h0, cond_false] at hk
     by_cases h4 : k % 2 = 1
     · rw [beq_t h4, cond_true] at hk
       have := PT.fa h2 _ _ hk
       rwa [show 2 * (k / 2) + 1 = k by omega] at this
     · rw [beq_f h4, cond_false] at hk
       have := PT.fa h3 _ _ hk
       rwa [show 2 * ((k - 1) / 2) + 2 = k by omega] at this
def FIok (P : Program) (f : Nat) (fi : FI) : Prop := ∃ fn, P.funcs[f]? = some fn /\ fn.body = some fi.body /\ fn.ntmps = fi.nt /\ fn.results = fi.res.toArray /\ (fn.name == "runtime.NumGoroutine") = false /\ qan fi.body = true

def WfE : (c : TC) -> El c -> Prop
 | .int k => fun (n : Int) => k.wrap n = n
 | .bool => fun _ => True
 | .str => fun (s : ByteArray) => s.size < 9223372036854775808
 | .list c => fun (l : List (El c)) => l.length * bsz c <= 140737488355328 /\ ∀ x ∈ l, WfE c x
 | .two a b => fun (x : El a × El b) => WfE a x.1 /\ WfE b x.2
def WfA : (cs : List TC) -> ElA cs -> Prop
 | [], _ => True
 | c :: cs, x => WfE c x.1 /\ WfA cs x.2
theorem wf_cells {E : Env} : ∀ (c : TC) (x : El c) (us : Nat -> Value), (∀ j (h : j < (cel c x).length), VR E (cel c x)[j] (us j)) -> WfE c x
 | .int k, x, us, h => by
   have := h 0 (by simp [cel])
   have h0 : VR E (.int k x) (us 0) := this
   generalize us 0 = u at h0
   cases h0; assumption
 | .bool, x, us, h => trivial
 | .str, x, us, h => by
   have := h 0 (by simp [cel])
   have h0 : VR E (.str x) (us 0) := this
   generalize us 0 = u at h0
   cases h0; assumption
 | .list c, l, us, h => by
   have := h 0 (by simp [cel])
   have h0 : VR E (.lst c l) (us 0) := this
   generalize us 0 = u at h0
   cases h0 with
   | lst0 hc => exact ⟨by simp, fun x hx => by cases hx⟩
   | lst us2 h1 h2 h3 hb hh hc hu =>
     refine ⟨h3, fun x hx => ?_⟩
     obtain ⟨i, hi, rfl⟩ := List.mem_iff_getElem.1 hx
     exact wf_cells c _ (us2 i) (hu i hi)
 | .two a b, x, us, h => by
   have e : cel (.two a b) x = cel a x.1 ++ cel b x.2 := rfl
   refine ⟨wf_cells (E := E) a x.1 us fun j hj => ?_, wf_cells (E := E) b x.2 (fun j => us ((cel a x.1).length + j)) fun j hj => ?_⟩
   · have := h j (by rw [e, List.length_append]; omega)
     simp only [e] at this
     rwa [List.getElem_append_left hj] at this
   · have := h ((cel a x.1).length + j) (by rw [e, List.length_append]; omega)
     simp only [e] at this
     rw [List.getElem_append_right (by omega)] at this
     simpa only [Nat.add_sub_cancel_left] using this
theorem qnz {E : Env} {c : TC} {x : El c} {u : Value} (hc : cel c x = [asIV c x]) (h : VR E (asIV c x) u) : WfE c x :=
 wf_cells (E := E) c x (fun _ => u) fun j hj => by
   have : j = 0 := by rw [hc] at hj; simp at hj; omega
   subst this
   simp only [hc]; exact h
theorem wf_as {E : Env} {c : TC} {x : El c} {u : Value} (h : VR E (asIV c x) u) : WfE c x := by
 cases c with
 | two a b =>
   cases h with
   | agg hl hh =>
     rename_i us
     refine wf_cells (E := E) (.two a b) x (fun j => us.getD j .nilFunc) fun j hj => ?_
     have hj2 : j < us.length := by rw [<- hl]; exact hj
     show VR E _ (us.getD j .nilFunc)
     rw [List.getD_eq_getElem?_getD, List.getElem?_eq_getElem hj2]
     exact hh j hj hj2
 | int k => exact qnz rfl h
 | bool => trivial
 | str => exact qnz rfl h
 | list c => exact qnz rfl h
theorem qve {E : Env} : ∀ {cs : List TC} {x : ElA cs} {us : List Value}, VRs E (argV cs x) us -> WfA cs x
 | [], x, us, h => trivial
 | c :: cs, x, us, h => by
   obtain ⟨u, us, rfl, a1, a2⟩ := VRs.inv (v := asIV c x.1) (cs := argV cs x.2) h
   exact ⟨wf_as a1, qve a2⟩
theorem conW {P : Program} {tt : Nat -> Option TI} {ft : Nat -> Option FI} {nm : Nat -> Nat -> Option Nm} {ex : Ex} {f : Nat} {s : Sm} (hm : P.follows .mixedOrders = true) (htt : TT P tt) (hft : FT P ft) (hex : ExOK P ex) (hC : qag P f)
   (hrun : ∀ (x : ElA s.pts) (y : ElR s.rts), WfA s.pts x -> s.f x = some y -> ∃ n lf r, icall P tt ft nm ex lf n (.fn f) (argV s.pts x) S0 = some r /\ runR s r = some y) : Con P f s := by
 refine ⟨hC, fun M w x us y hy hM hg hv => ?_⟩
 obtain ⟨n, lf, r, h1, h2⟩ := hrun x y (qve hv) hy
 obtain ⟨_, hcall⟩ := (qgx (lf := lf) hm htt hft hex n).fn f _ S0 r h1 T0 (EM M w) us (preM hM hg) (fun _ _ => trivial) (fun _ _ => trivial) hv
 exact hcall.mono fun e w' hR => q2i hM hg h2 hR
theorem qqg {P : Program} {sm : Nat -> Option Sm} {hx : Nat -> Option Hx} (h : ∀ f s, sm f = some s -> Con P f s) (h2 : ∀ f g, hx f = some g -> HxOK P f g.f) : ExOK P (exH sm hx) := by
 have key : ∀ f g, exH sm hx f = some g -> (∃ s, sm f = some s /\ g = fun _ => exf s) \/ ∃ q, hx f = some q /\ g = q.f := fun f g hg => by
   unfold exH at hg
   split at hg
   · rename_i s hs; cases hg; exact .inl ⟨s, hs, rfl⟩
   split at hg <;> cases hg
   rename_i q hq
   exact .inr ⟨q, hq, rfl⟩
 refine ⟨fun f g hg cl a b c vs S r hr T E us p hrd hwr hv => ?_, fun f g hg cl a vs S => ?_, fun f g hg cl a vs S r hr hw hv => ?_⟩
 · rcases key f g hg with ⟨s, hs, rfl⟩ | ⟨q, hq, rfl⟩
   · exact qy8 (h f s hs) hr p hrd hwr hv
   · exact (h2 f q hq).fn cl a b c vs S r hr T E us p hrd hwr hv
 · rcases key f g hg with ⟨s, hs, rfl⟩ | ⟨q, hq, rfl⟩
   · exact exf_fr
   · exact (h2 f q hq).fr cl a vs S
 · rcases key f g hg with ⟨s, hs, rfl⟩ | ⟨q, hq, rfl⟩
   · exact q2h hr hw hv
   · exact (h2 f q hq).calm cl a vs S r hr hw hv
theorem conK {P : Program} {tt : Nat -> Option TI} {ft : Nat -> Option FI} {nm : Nat -> Nat -> Option Nm} {sm : Nat -> Option Sm} {hx : Nat -> Option Hx} {f : Nat} {s : Sm} (hm : P.follows .mixedOrders = true) (htt : TT P tt) (hft : FT P ft) (hsm : ∀ f s, sm f = some s -> Con P f s)
   (hhx : ∀ f g, hx f = some g -> HxOK P f g.f) (hC : qag P f)
   (hrun : ∀ (x : ElA s.pts) (y : ElR s.rts), WfA s.pts x -> s.f x = some y -> ∃ n lf, qaj P tt ft nm sm hx lf n _ (.fn f) (argV s.pts x) S0 (runR s) = some y) : Con P f s := by
 refine conW (nm := nm) hm htt hft (qqg hsm hhx) hC fun x y hx2 hy => ?_
 obtain ⟨n, lf, h⟩ := hrun x y hx2 hy
 rw [qal n] at h
 cases hr : icall P tt ft nm (exH sm hx) lf n (.fn f) (argV s.pts x) S0 with
 | none => rw [hr] at h; cases h
 | some r => rw [hr] at h; exact ⟨n, lf, r, hr, h⟩
end Go.Jx
end

section
namespace Go.Jx
open Go Go.Sx Go.ChangeShapes Go.RowKit
def TRW (P : Program) (W : World) (T : TypeId) (cs : List Value) : Prop :=
 ∃ (H : Type) (en : TypeId × Value -> H) (fuel : Nat) (x : DataW H × List MemPlace), DataW.trod en P W 0 (fun _ => true) true fuel T cs = some x /\ ∀ n ∈ x.1.weights P T, n <= reachBytes
structure RdT (P : Program) (c : TC) (T : TypeId) : Prop where
 sz : P.cellsOf T = csz c
 by_ : P.bytesOf T = bsz c
 rd : ∀ W cs, TRW P W T cs -> ∃ x : El c, VRs (EM [] W) (cel c x) cs
section
variable {P : Program} {W : World} {T : TypeId} {cs : List Value}
theorem VRs.one {E : Env} {v : IV} {u : Value} (h : VR E v u) : VRs E [v] [u] := VRs.cons h VRs.nil
theorem rdt_str (hT : P.underlying T = some .string) (hs : P.cellsOf T = 1) (hb : P.bytesOf T = 16) : RdT P .str T := ⟨hs, hb, fun W cs h => by
 obtain ⟨H, en, fuel, x, h, hw⟩ := h
 obtain ⟨s, h1, _, h2⟩ := DataW.trod_string hT h
 exact ⟨s, h1 ▸ VRs.one (.str s (by unfold maxLen at h2; omega))⟩⟩
end
end Go.Jx
end

section
namespace Go.Jx
open Go Go.Sx Go.RowKit
theorem con_true {P : Program} {f : Nat} {pts : List TC} (h : Con P f ⟨pts, [(false, .bool)], fun _ => some (true, ())⟩) (w : World) (hg : Gl [] w) (x : ElA pts) (us : List Value) (hv : VRs (EM [] w) (argV pts x) us) :
   Calls P f us.toArray w (Ret fun v w' => v = .bool true /\ Upd [] w w') :=
 (callsIn_wide.1 (h.calls [] w x us (true, ()) rfl (fun b hb => by cases hb) hg hv)).mono fun e w' hR => by
   obtain ⟨v, E', rfl, rfl, k1, k2, k3⟩ := hR
   exact ⟨by cases k1; rfl, k2.stp.os, k2.stp.tape, k2.stp.output, k2.stp.size, fun b hb _ => k2.stp.same b hb fun id _ hA _ => hA.elim⟩
theorem vr_str {E : Env} {s : ByteArray} {x : El .str} (h : VRs E (cel .str x) (Value.string s).cells.toList) : VR E (asIV .str x) (.string s) :=
 h.2 0 (by simp [cel]) (by simp [Value.cells])
theorem qnf {k : IntKind} {E : Env} {n : Int} {x : El (.int k)} (h : VRs E (cel (.int k) x) (Value.int k n).cells.toList) : VR E (asIV (.int k) x) (.int k n) :=
 h.2 0 (by simp [cel]) (by simp [Value.cells])
section
open Go.ChangeShapes
variable {H : Type} {enc : TypeId × Value -> H} {P : Program} {w : World} {base : Nat} {spare : Nat -> Bool} {held : Bool}
end
end Go.Jx
end

noncomputable section
set_option maxRecDepth 100000
namespace Go.Proofs.YtanenikkloolfaaGreatDoor
open Go Go.Sx Go.RowKit Go.Jx
abbrev qbn : TC := (.two (.int .i64) (.int .i64))
abbrev qae : TC := (.two (.int .i64) (.two .str qbn))
abbrev qe5 : TC := (.two (.list qae) (.two (.list qae) (.two qbn (.int .i64))))
abbrev qp1 : TC := (.two .str (.int .i64))
abbrev qow : TC := (.two .bool (.int .i64))
abbrev cLexPiece : TC := (.two qae (.two (.int .i64) (.int .i64)))
abbrev qok : TC := (.two (.int .i64) (.int .i64))
abbrev qe1 : TC := (.two (.int .i64) (.int .i64))
noncomputable def ti1 : TI := ⟨1, 8, (.func #[] #[] false), (.nilFunc)⟩
noncomputable def ti2 : TI := ⟨1, 8, (.int .i64), (.int .i64 0)⟩
noncomputable def ti3 : TI := ⟨1, 8, (.int .i64), (.int .i64 0)⟩
noncomputable def ti4 : TI := ⟨1, 1, (.bool), (.bool false)⟩
noncomputable def ti5 : TI := ⟨1, 1, (.int .u8), (.int .u8 0)⟩
noncomputable def ti9 : TI := ⟨1, 16, (.string), (.string ⟨#[]⟩)⟩
noncomputable def ti21 : TI := ⟨1, 4, (.int .i32), (.int .i32 0)⟩
noncomputable def ti22 : TI := ⟨1, 24, (.slice 49), (.slice none 0 0)⟩
noncomputable def ti24 : TI := ⟨3, 32, (.struct #[⟨"From", 3, 0, false, "", "", 0⟩, ⟨"To", 3, 1, false, "", "", 8⟩, ⟨"With", 9, 2, false, "", "", 16⟩]), (.agg #[.int .i64 0, .int .i64 0, .string ⟨#[]⟩])⟩
noncomputable def ti28 : TI := ⟨2, 16, (.struct #[⟨"Line", 3, 0, false, "", "", 0⟩, ⟨"Column", 3, 1, false, "", "", 8⟩]), (.agg #[.int .i64 0, .int .i64 0])⟩
noncomputable def ti29 : TI := ⟨1, 8, (.int .i64), (.int .i64 0)⟩
noncomputable def ti36 : TI := ⟨5, 72, (.struct #[⟨"L", 22, 0, false, "", "", 0⟩, ⟨"Notes", 22, 1, false, "", "", 24⟩, ⟨"At", 28, 2, false, "", "", 48⟩, ⟨"E", 29, 4, false, "", "", 64⟩]), (.agg #[.slice none 0 0, .slice none 0 0, .int .i64 0, .int .i64 0, .int .i64 0])⟩
noncomputable def ti37 : TI := ⟨1, 8, (.func #[9] #[36] false), (.nilFunc)⟩
noncomputable def ti44 : TI := ⟨2, 24, (.struct #[⟨"S", 9, 0, false, "", "", 0⟩, ⟨"E", 29, 1, false, "", "", 16⟩]), (.agg #[.string ⟨#[]⟩, .int .i64 0])⟩
noncomputable def ti49 : TI := ⟨4, 40, (.struct #[⟨"Kind", 3, 0, false, "", "", 0⟩, ⟨"Text", 9, 1, false, "", "", 8⟩, ⟨"At", 28, 2, false, "", "", 24⟩]), (.agg #[.int .i64 0, .string ⟨#[]⟩, .int .i64 0, .int .i64 0])⟩
noncomputable def ti51 : TI := ⟨2, 16, (.struct #[⟨"Is", 4, 0, false, "", "", 0⟩, ⟨"E", 29, 1, false, "", "", 8⟩]), (.agg #[.bool false, .int .i64 0])⟩
noncomputable def ti63 : TI := ⟨1, 24, (.slice 3), (.slice none 0 0)⟩
noncomputable def ti66 : TI := ⟨1, 24, (.slice 9), (.slice none 0 0)⟩
noncomputable def ti74 : TI := ⟨1, 8, (.func #[3] #[4] false), (.nilFunc)⟩
noncomputable def ti81 : TI := ⟨1, 8, (.func #[49, 49] #[4] false), (.nilFunc)⟩
noncomputable def ti83 : TI := ⟨1, 8, (.func #[49] #[4] false), (.nilFunc)⟩
noncomputable def ti91 : TI := ⟨1, 24, (.slice 5), (.slice none 0 0)⟩
noncomputable def ti93 : TI := ⟨2, 32, (.struct #[⟨"addr", 90, 0, false, "", "strings", 0⟩, ⟨"buf", 91, 1, false, "", "strings", 8⟩]), (.agg #[.pointer none, .slice none 0 0])⟩
noncomputable def ti105 : TI := ⟨1, 8, (.func #[138] #[] false), (.nilFunc)⟩
noncomputable def ti108 : TI := ⟨6, 56, (.struct #[⟨"Token", 49, 0, true, "", "", 0⟩, ⟨"at", 3, 4, false, "", "cosigner/lex", 40⟩, ⟨"err", 29, 5, false, "", "cosigner/lex", 48⟩]), (.agg #[.int .i64 0, .string ⟨#[]⟩, .int .i64 0, .int .i64 0, .int .i64 0, .int .i64 0])⟩
noncomputable def ti110 : TI := ⟨1, 24, (.slice 22), (.slice none 0 0)⟩
noncomputable def ti112 : TI := ⟨2, 16, (.struct #[⟨"N", 3, 0, false, "", "", 0⟩, ⟨"E", 29, 1, false, "", "", 8⟩]), (.agg #[.int .i64 0, .int .i64 0])⟩
noncomputable def ti117 : TI := ⟨1, 8, (.func #[5] #[4] false), (.nilFunc)⟩
noncomputable def ti120 : TI := ⟨2, 16, (.struct #[⟨"K", 3, 0, false, "", "", 0⟩, ⟨"E", 29, 1, false, "", "", 8⟩]), (.agg #[.int .i64 0, .int .i64 0])⟩
noncomputable def ti127 : TI := ⟨256, 256, (.array 256 4), (.agg #[.bool false, .bool false, .bool false, .bool false, .bool false, .bool false, .bool false, .bool false, .bool false, .bool false, .bool false, .bool false, .bool false, .bool false, .bool false, .bool false, .bool false, .bool false, .bool false, .bool false, .bool false, .bool false, .bool false, .bool false, .bool false, .bool false, .bool false, .bool false, .bool false, .bool false, .bool false, .bool false, .bool false, .bool false, .bool false, .bool false, .bool false, .bool false, .bool false, .bool false, .bool false, .bool false, .bool false, .bool false, .bool false, .bool false, .bool false, .bool false, .bool false, .bool false, .bool false, .bool false, .bool false, .bool false, .bool false, .bool false, .bool false, .bool false, .bool false, .bool false, .bool false, .bool false, .bool false, .bool false, .bool false, .bool false, .bool false, .bool false, .bool false, .bool false, .bool false, .bool false, .bool false, .bool false, .bool false, .bool false, .bool false, .bool false, .bool false, .bool false, .bool false, .bool false, .bool false, .bool false, .bool false, .bool false, .bool false, .bool false, .bool false, .bool false, .bool false, .bool false, .bool false, .bool false, .bool false, .bool false, .bool false, .bool false, .bool false, .bool false, .bool false, .bool false, .bool false, .bool false, .bool false, .bool false, .bool false, .bool false, .bool false, .bool false, .bool false, .bool false, .bool false, .bool false, .bool false, .bool false, .bool false, .bool false, .bool false, .bool false, .bool false, .bool false, .bool false, .bool false, .bool false, .bool false, .bool false, .bool false, .bool false, .bool false, .bool false, .bool false, .bool false, .bool false, .bool false, .bool false, .bool false, .bool false, .bool false, .bool false, .bool false, .bool false, .bool false, .bool false, .bool false, .bool false, .bool false, .bool false, .bool false, .bool false, .bool false, .bool false, .bool false, .bool false, .bool false, .bool false, .bool false, .bool false, .bool false, .bool false, .bool false, .bool false, .bool false, .bool false, .bool false, .bool false, .bool false, .bool false, .bool false, .bool false, .bool false, .bool false, .bool false, .bool false, .bool false, .bool false, .bool false, .bool false, .bool false, .bool false, .bool false, .bool false, .bool false, .bool false, .bool false, .bool false, .bool false, .bool false, .bool false, .bool false, .bool false, .bool false, .bool false, .bool false, .bool false, .bool false, .bool false, .bool false, .bool false, .bool false, .bool false, .bool false, .bool false, .bool false, .bool false, .bool false, .bool false, .bool false, .bool false, .bool false, .bool false, .bool false, .bool false, .bool false, .bool false, .bool false, .bool false, .bool false, .bool false, .bool false, .bool false, .bool false, .bool false, .bool false, .bool false, .bool false, .bool false, .bool false, .bool false, .bool false, .bool false, .bool false, .bool false, .bool false, .bool false, .bool false, .bool false, .bool false, .bool false, .bool false, .bool false, .bool false, .bool false, .bool false, .bool false, .bool false, .bool false, .bool false, .bool false, .bool false, .bool false, .bool false, .bool false, .bool false, .bool false, .bool false])⟩
noncomputable def ti135 : TI := ⟨256, 256, (.array 256 5), (.agg #[.int .u8 0, .int .u8 0, .int .u8 0, .int .u8 0, .int .u8 0, .int .u8 0, .int .u8 0, .int .u8 0, .int .u8 0, .int .u8 0, .int .u8 0, .int .u8 0, .int .u8 0, .int .u8 0, .int .u8 0, .int .u8 0, .int .u8 0, .int .u8 0, .int .u8 0, .int .u8 0, .int .u8 0, .int .u8 0, .int .u8 0, .int .u8 0, .int .u8 0, .int .u8 0, .int .u8 0, .int .u8 0, .int .u8 0, .int .u8 0, .int .u8 0, .int .u8 0, .int .u8 0, .int .u8 0, .int .u8 0, .int .u8 0, .int .u8 0, .int .u8 0, .int .u8 0, .int .u8 0, .int .u8 0, .int .u8 0, .int .u8 0, .int .u8 0, .int .u8 0, .int .u8 0, .int .u8 0, .int .u8 0, .int .u8 0, .int .u8 0, .int .u8 0, .int .u8 0, .int .u8 0, .int .u8 0, .int .u8 0, .int .u8 0, .int .u8 0, .int .u8 0, .int .u8 0, .int .u8 0, .int .u8 0, .int .u8 0, .int .u8 0, .int .u8 0, .int .u8 0, .int .u8 0, .int .u8 0, .int .u8 0, .int .u8 0, .int .u8 0, .int .u8 0, .int .u8 0, .int .u8 0, .int .u8 0, .int .u8 0, .int .u8 0, .int .u8 0, .int .u8 0, .int .u8 0, .int .u8 0, .int .u8 0, .int .u8 0, .int .u8 0, .int .u8 0, .int .u8 0, .int .u8 0, .int .u8 0, .int .u8 0, .int .u8 0, .int .u8 0, .int .u8 0, .int .u8 0, .int .u8 0, .int .u8 0, .int .u8 0, .int .u8 0, .int .u8 0, .int .u8 0, .int .u8 0, .int .u8 0, .int .u8 0, .int .u8 0, .int .u8 0, .int .u8 0, .int .u8 0, .int .u8 0, .int .u8 0, .int .u8 0, .int .u8 0, .int .u8 0, .int .u8 0, .int .u8 0, .int .u8 0, .int .u8 0, .int .u8 0, .int .u8 0, .int .u8 0, .int .u8 0, .int .u8 0, .int .u8 0, .int .u8 0, .int .u8 0, .int .u8 0, .int .u8 0, .int .u8 0, .int .u8 0, .int .u8 0, .int .u8 0, .int .u8 0, .int .u8 0, .int .u8 0, .int .u8 0, .int .u8 0, .int .u8 0, .int .u8 0, .int .u8 0, .int .u8 0, .int .u8 0, .int .u8 0, .int .u8 0, .int .u8 0, .int .u8 0, .int .u8 0, .int .u8 0, .int .u8 0, .int .u8 0, .int .u8 0, .int .u8 0, .int .u8 0, .int .u8 0, .int .u8 0, .int .u8 0, .int .u8 0, .int .u8 0, .int .u8 0, .int .u8 0, .int .u8 0, .int .u8 0, .int .u8 0, .int .u8 0, .int .u8 0, .int .u8 0, .int .u8 0, .int .u8 0, .int .u8 0, .int .u8 0, .int .u8 0, .int .u8 0, .int .u8 0, .int .u8 0, .int .u8 0, .int .u8 0, .int .u8 0, .int .u8 0, .int .u8 0, .int .u8 0, .int .u8 0, .int .u8 0, .int .u8 0, .int .u8 0, .int .u8 0, .int .u8 0, .int .u8 0, .int .u8 0, .int .u8 0, .int .u8 0, .int .u8 0, .int .u8 0, .int .u8 0, .int .u8 0, .int .u8 0, .int .u8 0, .int .u8 0, .int .u8 0, .int .u8 0, .int .u8 0, .int .u8 0, .int .u8 0, .int .u8 0, .int .u8 0, .int .u8 0, .int .u8 0, .int .u8 0, .int .u8 0, .int .u8 0, .int .u8 0, .int .u8 0, .int .u8 0, .int .u8 0, .int .u8 0, .int .u8 0, .int .u8 0, .int .u8 0, .int .u8 0, .int .u8 0, .int .u8 0, .int .u8 0, .int .u8 0, .int .u8 0, .int .u8 0, .int .u8 0, .int .u8 0, .int .u8 0, .int .u8 0, .int .u8 0, .int .u8 0, .int .u8 0, .int .u8 0, .int .u8 0, .int .u8 0, .int .u8 0, .int .u8 0, .int .u8 0, .int .u8 0, .int .u8 0, .int .u8 0, .int .u8 0, .int .u8 0, .int .u8 0, .int .u8 0, .int .u8 0, .int .u8 0, .int .u8 0, .int .u8 0, .int .u8 0, .int .u8 0, .int .u8 0, .int .u8 0, .int .u8 0, .int .u8 0, .int .u8 0, .int .u8 0, .int .u8 0, .int .u8 0, .int .u8 0, .int .u8 0])⟩
noncomputable def ti137 : TI := ⟨1, 8, (.func #[21] #[4] false), (.nilFunc)⟩
noncomputable def ti138 : TI := ⟨1, 8, (.func #[108] #[4] false), (.nilFunc)⟩
noncomputable def ti156 : TI := ⟨22, 352, (.array 22 9), (.agg #[.string ⟨#[]⟩, .string ⟨#[]⟩, .string ⟨#[]⟩, .string ⟨#[]⟩, .string ⟨#[]⟩, .string ⟨#[]⟩, .string ⟨#[]⟩, .string ⟨#[]⟩, .string ⟨#[]⟩, .string ⟨#[]⟩, .string ⟨#[]⟩, .string ⟨#[]⟩, .string ⟨#[]⟩, .string ⟨#[]⟩, .string ⟨#[]⟩, .string ⟨#[]⟩, .string ⟨#[]⟩, .string ⟨#[]⟩, .string ⟨#[]⟩, .string ⟨#[]⟩, .string ⟨#[]⟩, .string ⟨#[]⟩])⟩
noncomputable def ti162 : TI := ⟨1, 8, (.int .u64), (.int .u64 0)⟩
theorem ty1 : Ty Tryz.prog 1 ti1.und ti1.sz ti1.bytes ti1.zero := Ty.mk' (by kernel_rfl) (by kernel_rfl)
theorem ty2 : Ty Tryz.prog 2 ti2.und ti2.sz ti2.bytes ti2.zero := Ty.mk' (by kernel_rfl) (by kernel_rfl)
theorem ty3 : Ty Tryz.prog 3 ti3.und ti3.sz ti3.bytes ti3.zero := Ty.mk' (by kernel_rfl) (by kernel_rfl)
theorem ty4 : Ty Tryz.prog 4 ti4.und ti4.sz ti4.bytes ti4.zero := Ty.mk' (by kernel_rfl) (by kernel_rfl)
theorem ty5 : Ty Tryz.prog 5 ti5.und ti5.sz ti5.bytes ti5.zero := Ty.mk' (by kernel_rfl) (by kernel_rfl)
theorem ty9 : Ty Tryz.prog 9 ti9.und ti9.sz ti9.bytes ti9.zero := Ty.mk' (by kernel_rfl) (by kernel_rfl)
theorem ty21 : Ty Tryz.prog 21 ti21.und ti21.sz ti21.bytes ti21.zero := Ty.mk' (by kernel_rfl) (by kernel_rfl)
theorem ty22 : Ty Tryz.prog 22 ti22.und ti22.sz ti22.bytes ti22.zero := Ty.mk' (by kernel_rfl) (by kernel_rfl)
theorem ty24 : Ty Tryz.prog 24 ti24.und ti24.sz ti24.bytes ti24.zero := Ty.mk' (by kernel_rfl) (by kernel_rfl)
theorem ty28 : Ty Tryz.prog 28 ti28.und ti28.sz ti28.bytes ti28.zero := Ty.mk' (by kernel_rfl) (by kernel_rfl)
theorem ty29 : Ty Tryz.prog 29 ti29.und ti29.sz ti29.bytes ti29.zero := Ty.mk' (by kernel_rfl) (by kernel_rfl)
theorem ty36 : Ty Tryz.prog 36 ti36.und ti36.sz ti36.bytes ti36.zero := Ty.mk' (by kernel_rfl) (by kernel_rfl)
theorem ty37 : Ty Tryz.prog 37 ti37.und ti37.sz ti37.bytes ti37.zero := Ty.mk' (by kernel_rfl) (by kernel_rfl)
theorem ty44 : Ty Tryz.prog 44 ti44.und ti44.sz ti44.bytes ti44.zero := Ty.mk' (by kernel_rfl) (by kernel_rfl)
theorem ty49 : Ty Tryz.prog 49 ti49.und ti49.sz ti49.bytes ti49.zero := Ty.mk' (by kernel_rfl) (by kernel_rfl)
theorem ty51 : Ty Tryz.prog 51 ti51.und ti51.sz ti51.bytes ti51.zero := Ty.mk' (by kernel_rfl) (by kernel_rfl)
theorem ty63 : Ty Tryz.prog 63 ti63.und ti63.sz ti63.bytes ti63.zero := Ty.mk' (by kernel_rfl) (by kernel_rfl)
theorem ty66 : Ty Tryz.prog 66 ti66.und ti66.sz ti66.bytes ti66.zero := Ty.mk' (by kernel_rfl) (by kernel_rfl)
theorem ty74 : Ty Tryz.prog 74 ti74.und ti74.sz ti74.bytes ti74.zero := Ty.mk' (by kernel_rfl) (by kernel_rfl)
theorem ty81 : Ty Tryz.prog 81 ti81.und ti81.sz ti81.bytes ti81.zero := Ty.mk' (by kernel_rfl) (by kernel_rfl)
theorem ty83 : Ty Tryz.prog 83 ti83.und ti83.sz ti83.bytes ti83.zero := Ty.mk' (by kernel_rfl) (by kernel_rfl)
theorem ty91 : Ty Tryz.prog 91 ti91.und ti91.sz ti91.bytes ti91.zero := Ty.mk' (by kernel_rfl) (by kernel_rfl)
theorem ty93 : Ty Tryz.prog 93 ti93.und ti93.sz ti93.bytes ti93.zero := Ty.mk' (by kernel_rfl) (by kernel_rfl)
theorem ty105 : Ty Tryz.prog 105 ti105.und ti105.sz ti105.bytes ti105.zero := Ty.mk' (by kernel_rfl) (by kernel_rfl)
theorem ty108 : Ty Tryz.prog 108 ti108.und ti108.sz ti108.bytes ti108.zero := Ty.mk' (by kernel_rfl) (by kernel_rfl)
theorem ty110 : Ty Tryz.prog 110 ti110.und ti110.sz ti110.bytes ti110.zero := Ty.mk' (by kernel_rfl) (by kernel_rfl)
theorem ty112 : Ty Tryz.prog 112 ti112.und ti112.sz ti112.bytes ti112.zero := Ty.mk' (by kernel_rfl) (by kernel_rfl)
theorem ty117 : Ty Tryz.prog 117 ti117.und ti117.sz ti117.bytes ti117.zero := Ty.mk' (by kernel_rfl) (by kernel_rfl)
theorem ty120 : Ty Tryz.prog 120 ti120.und ti120.sz ti120.bytes ti120.zero := Ty.mk' (by kernel_rfl) (by kernel_rfl)
theorem ty127 : Ty Tryz.prog 127 ti127.und ti127.sz ti127.bytes ti127.zero := Ty.mk' (by kernel_rfl) (by kernel_rfl)
theorem ty135 : Ty Tryz.prog 135 ti135.und ti135.sz ti135.bytes ti135.zero := Ty.mk' (by kernel_rfl) (by kernel_rfl)
theorem ty137 : Ty Tryz.prog 137 ti137.und ti137.sz ti137.bytes ti137.zero := Ty.mk' (by kernel_rfl) (by kernel_rfl)
theorem ty138 : Ty Tryz.prog 138 ti138.und ti138.sz ti138.bytes ti138.zero := Ty.mk' (by kernel_rfl) (by kernel_rfl)
theorem ty156 : Ty Tryz.prog 156 ti156.und ti156.sz ti156.bytes ti156.zero := Ty.mk' (by kernel_rfl) (by kernel_rfl)
theorem ty162 : Ty Tryz.prog 162 ti162.und ti162.sz ti162.bytes ti162.zero := Ty.mk' (by kernel_rfl) (by kernel_rfl)
def fbO (f : Func) : Code := match f.body with | some c => c | none => .skip
noncomputable def ttT : PT TI := (.node none (.node (some ti1) (.node (some ti3) (.node none (.node none (.node none (.node (some ti63) (.node (some ti127) .leaf .leaf) .leaf) .leaf) .leaf) (.node none (.node none (.node none (.node (some ti135) .leaf .leaf) .leaf) .leaf) .leaf)) (.node none (.node none .leaf (.node (some ti51) (.node (some ti83) .leaf .leaf) .leaf)) (.node none .leaf (.node none (.node (some ti91) .leaf .leaf) .leaf)))) (.node (some ti5) (.node (some ti9) (.node none .leaf (.node (some ti49) (.node (some ti81) .leaf .leaf) .leaf)) (.node none (.node none (.node none (.node (some ti137) .leaf .leaf) .leaf) (.node (some ti105) .leaf .leaf)) .leaf)) (.node none (.node (some ti21) (.node (some ti37) .leaf .leaf) (.node none .leaf (.node (some ti117) .leaf .leaf))) (.node (some ti29) .leaf (.node none (.node (some ti93) .leaf .leaf) .leaf))))) (.node (some ti2) (.node (some ti4) (.node none (.node none .leaf (.node none .leaf (.node (some ti112) .leaf .leaf))) (.node (some ti24) .leaf (.node none .leaf (.node (some ti120) .leaf .leaf)))) (.node none (.node none (.node (some ti36) .leaf .leaf) .leaf) (.node (some ti28) (.node (some ti44) .leaf (.node (some ti108) .leaf .leaf)) (.node none (.node none (.node (some ti156) .leaf .leaf) .leaf) .leaf)))) (.node none (.node none (.node none (.node none (.node (some ti66) .leaf .leaf) (.node none (.node (some ti162) .leaf .leaf) .leaf)) .leaf) (.node none (.node none (.node (some ti74) (.node (some ti138) .leaf .leaf) .leaf) .leaf) .leaf)) (.node none (.node (some ti22) .leaf .leaf) (.node none (.node none .leaf (.node (some ti110) .leaf .leaf)) .leaf)))))
theorem ttFa : ttT.Fa (fun T ti => Ty Tryz.prog T ti.und ti.sz ti.bytes ti.zero) := ⟨trivial, ⟨ty1, ⟨ty3, ⟨trivial, ⟨trivial, ⟨trivial, ⟨ty63, ⟨ty127, trivial, trivial⟩, trivial⟩, trivial⟩, trivial⟩, ⟨trivial, ⟨trivial, ⟨trivial, ⟨ty135, trivial, trivial⟩, trivial⟩, trivial⟩, trivial⟩⟩, ⟨trivial, ⟨trivial, trivial, ⟨ty51, ⟨ty83, trivial, trivial⟩, trivial⟩⟩, ⟨trivial, trivial, ⟨trivial, ⟨ty91, trivial, trivial⟩, trivial⟩⟩⟩⟩, ⟨ty5, ⟨ty9, ⟨trivial, trivial, ⟨ty49, ⟨ty81, trivial, trivial⟩, trivial⟩⟩, ⟨trivial, ⟨trivial, ⟨trivial, ⟨ty137, trivial, trivial⟩, trivial⟩, ⟨ty105, trivial, trivial⟩⟩, trivial⟩⟩, ⟨trivial, ⟨ty21, ⟨ty37, trivial, trivial⟩, ⟨trivial, trivial, ⟨ty117, trivial, trivial⟩⟩⟩, ⟨ty29, trivial, ⟨trivial, ⟨ty93, trivial, trivial⟩, trivial⟩⟩⟩⟩⟩, ⟨ty2, ⟨ty4, ⟨trivial, ⟨trivial, trivial, ⟨trivial, trivial, ⟨ty112, trivial, trivial⟩⟩⟩, ⟨ty24, trivial, ⟨trivial, trivial, ⟨ty120, trivial, trivial⟩⟩⟩⟩, ⟨trivial, ⟨trivial, ⟨ty36, trivial, trivial⟩, trivial⟩, ⟨ty28, ⟨ty44, trivial, ⟨ty108, trivial, trivial⟩⟩, ⟨trivial, ⟨trivial, ⟨ty156, trivial, trivial⟩, trivial⟩, trivial⟩⟩⟩⟩, ⟨trivial, ⟨trivial, ⟨trivial, ⟨trivial, ⟨ty66, trivial, trivial⟩, ⟨trivial, ⟨ty162, trivial, trivial⟩, trivial⟩⟩, trivial⟩, ⟨trivial, ⟨trivial, ⟨ty74, ⟨ty138, trivial, trivial⟩, trivial⟩, trivial⟩, trivial⟩⟩, ⟨trivial, ⟨ty22, trivial, trivial⟩, ⟨trivial, ⟨trivial, trivial, ⟨ty110, trivial, trivial⟩⟩, trivial⟩⟩⟩⟩⟩
theorem ttOK : TT Tryz.prog ttT.get := fun T ti h => PT.fa ttFa T ti h
noncomputable def fb5 : Code := fbO Tryz.f5
noncomputable def fi5 : FI := ⟨61, [ResultVar.tmp 4], fb5⟩
theorem fo5 : FIok Tryz.prog 5 fi5 := ⟨_, Tryz.func5, by kernel_rfl, Tryz.ntmps5, Tryz.results5, by kernel_rfl, by kernel_rfl⟩
theorem cal5 : qag Tryz.prog 5 := ⟨_, Tryz.func5, by kernel_rfl, by kernel_rfl⟩
noncomputable def fb6 : Code := fbO Tryz.f6
noncomputable def fi6 : FI := ⟨16, [ResultVar.tmp 2], fb6⟩
theorem fo6 : FIok Tryz.prog 6 fi6 := ⟨_, Tryz.func6, by kernel_rfl, Tryz.ntmps6, Tryz.results6, by kernel_rfl, by kernel_rfl⟩
noncomputable def fb7 : Code := fbO Tryz.f7
noncomputable def fi7 : FI := ⟨213, [ResultVar.tmp 0], fb7⟩
theorem fo7 : FIok Tryz.prog 7 fi7 := ⟨_, Tryz.func7, by kernel_rfl, Tryz.ntmps7, Tryz.results7, by kernel_rfl, by kernel_rfl⟩
theorem cal7 : qag Tryz.prog 7 := ⟨_, Tryz.func7, by kernel_rfl, by kernel_rfl⟩
noncomputable def fb8 : Code := fbO Tryz.f8
noncomputable def fi8 : FI := ⟨181, [ResultVar.tmp 6, ResultVar.tmp 7, ResultVar.cell 8 28, ResultVar.tmp 9], fb8⟩
theorem fo8 : FIok Tryz.prog 8 fi8 := ⟨_, Tryz.func8, by kernel_rfl, Tryz.ntmps8, Tryz.results8, by kernel_rfl, by kernel_rfl⟩
noncomputable def fb10 : Code := fbO Tryz.f10
noncomputable def fi10 : FI := ⟨21, [ResultVar.cell 2 36], fb10⟩
theorem fo10 : FIok Tryz.prog 10 fi10 := ⟨_, Tryz.func10, by kernel_rfl, Tryz.ntmps10, Tryz.results10, by kernel_rfl, by kernel_rfl⟩
theorem cal10 : qag Tryz.prog 10 := ⟨_, Tryz.func10, by kernel_rfl, by kernel_rfl⟩
noncomputable def fb15 : Code := fbO Tryz.f15
noncomputable def fi15 : FI := ⟨8, [ResultVar.tmp 2, ResultVar.tmp 3], fb15⟩
theorem fo15 : FIok Tryz.prog 15 fi15 := ⟨_, Tryz.func15, by kernel_rfl, Tryz.ntmps15, Tryz.results15, by kernel_rfl, by kernel_rfl⟩
noncomputable def fb19 : Code := fbO Tryz.f19
noncomputable def fi19 : FI := ⟨61, [ResultVar.tmp 2, ResultVar.tmp 3], fb19⟩
theorem fo19 : FIok Tryz.prog 19 fi19 := ⟨_, Tryz.func19, by kernel_rfl, Tryz.ntmps19, Tryz.results19, by kernel_rfl, by kernel_rfl⟩
theorem cal19 : qag Tryz.prog 19 := ⟨_, Tryz.func19, by kernel_rfl, by kernel_rfl⟩
noncomputable def fb20 : Code := fbO Tryz.f20
noncomputable def fi20 : FI := ⟨37, [ResultVar.cell 2 44], fb20⟩
theorem fo20 : FIok Tryz.prog 20 fi20 := ⟨_, Tryz.func20, by kernel_rfl, Tryz.ntmps20, Tryz.results20, by kernel_rfl, by kernel_rfl⟩
theorem cal20 : qag Tryz.prog 20 := ⟨_, Tryz.func20, by kernel_rfl, by kernel_rfl⟩
noncomputable def fb21 : Code := fbO Tryz.f21
noncomputable def fi21 : FI := ⟨32, [ResultVar.tmp 4, ResultVar.tmp 5], fb21⟩
theorem fo21 : FIok Tryz.prog 21 fi21 := ⟨_, Tryz.func21, by kernel_rfl, Tryz.ntmps21, Tryz.results21, by kernel_rfl, by kernel_rfl⟩
theorem cal21 : qag Tryz.prog 21 := ⟨_, Tryz.func21, by kernel_rfl, by kernel_rfl⟩
noncomputable def fb22 : Code := fbO Tryz.f22
noncomputable def fi22 : FI := ⟨31, [ResultVar.cell 4 51], fb22⟩
theorem fo22 : FIok Tryz.prog 22 fi22 := ⟨_, Tryz.func22, by kernel_rfl, Tryz.ntmps22, Tryz.results22, by kernel_rfl, by kernel_rfl⟩
theorem cal22 : qag Tryz.prog 22 := ⟨_, Tryz.func22, by kernel_rfl, by kernel_rfl⟩
noncomputable def fb23 : Code := fbO Tryz.f23
noncomputable def fi23 : FI := ⟨30, [ResultVar.tmp 2, ResultVar.cell 3 28, ResultVar.tmp 4], fb23⟩
theorem fo23 : FIok Tryz.prog 23 fi23 := ⟨_, Tryz.func23, by kernel_rfl, Tryz.ntmps23, Tryz.results23, by kernel_rfl, by kernel_rfl⟩
theorem cal23 : qag Tryz.prog 23 := ⟨_, Tryz.func23, by kernel_rfl, by kernel_rfl⟩
noncomputable def fb24 : Code := fbO Tryz.f24
noncomputable def fi24 : FI := ⟨60, [ResultVar.tmp 4, ResultVar.tmp 5], fb24⟩
theorem fo24 : FIok Tryz.prog 24 fi24 := ⟨_, Tryz.func24, by kernel_rfl, Tryz.ntmps24, Tryz.results24, by kernel_rfl, by kernel_rfl⟩
noncomputable def fb25 : Code := fbO Tryz.f25
noncomputable def fi25 : FI := ⟨8, [ResultVar.cell 4 28], fb25⟩
theorem fo25 : FIok Tryz.prog 25 fi25 := ⟨_, Tryz.func25, by kernel_rfl, Tryz.ntmps25, Tryz.results25, by kernel_rfl, by kernel_rfl⟩
noncomputable def fb26 : Code := fbO Tryz.f26
noncomputable def fi26 : FI := ⟨39, [ResultVar.tmp 2, ResultVar.tmp 3, ResultVar.tmp 4], fb26⟩
theorem fo26 : FIok Tryz.prog 26 fi26 := ⟨_, Tryz.func26, by kernel_rfl, Tryz.ntmps26, Tryz.results26, by kernel_rfl, by kernel_rfl⟩
noncomputable def fb27 : Code := fbO Tryz.f27
noncomputable def fi27 : FI := ⟨2, [ResultVar.tmp 0], fb27⟩
theorem fo27 : FIok Tryz.prog 27 fi27 := ⟨_, Tryz.func27, by kernel_rfl, Tryz.ntmps27, Tryz.results27, by kernel_rfl, by kernel_rfl⟩
theorem cal27 : qag Tryz.prog 27 := ⟨_, Tryz.func27, by kernel_rfl, by kernel_rfl⟩
noncomputable def fb28 : Code := fbO Tryz.f28
noncomputable def fi28 : FI := ⟨48, [ResultVar.tmp 4, ResultVar.tmp 5], fb28⟩
theorem fo28 : FIok Tryz.prog 28 fi28 := ⟨_, Tryz.func28, by kernel_rfl, Tryz.ntmps28, Tryz.results28, by kernel_rfl, by kernel_rfl⟩
noncomputable def fb29 : Code := fbO Tryz.f29
noncomputable def fi29 : FI := ⟨17, [ResultVar.tmp 4], fb29⟩
theorem fo29 : FIok Tryz.prog 29 fi29 := ⟨_, Tryz.func29, by kernel_rfl, Tryz.ntmps29, Tryz.results29, by kernel_rfl, by kernel_rfl⟩
noncomputable def fb30 : Code := fbO Tryz.f30
noncomputable def fi30 : FI := ⟨27, [ResultVar.cell 4 28, ResultVar.tmp 5], fb30⟩
theorem fo30 : FIok Tryz.prog 30 fi30 := ⟨_, Tryz.func30, by kernel_rfl, Tryz.ntmps30, Tryz.results30, by kernel_rfl, by kernel_rfl⟩
noncomputable def fb31 : Code := fbO Tryz.f31
noncomputable def fi31 : FI := ⟨53, [ResultVar.cell 6 22, ResultVar.cell 7 28, ResultVar.cell 8 29], fb31⟩
theorem fo31 : FIok Tryz.prog 31 fi31 := ⟨_, Tryz.func31, by kernel_rfl, Tryz.ntmps31, Tryz.results31, by kernel_rfl, by kernel_rfl⟩
theorem cal31 : qag Tryz.prog 31 := ⟨_, Tryz.func31, by kernel_rfl, by kernel_rfl⟩
noncomputable def fb32 : Code := fbO Tryz.f32
noncomputable def fi32 : FI := ⟨8, [ResultVar.tmp 4], fb32⟩
theorem fo32 : FIok Tryz.prog 32 fi32 := ⟨_, Tryz.func32, by kernel_rfl, Tryz.ntmps32, Tryz.results32, by kernel_rfl, by kernel_rfl⟩
theorem cal32 : qag Tryz.prog 32 := ⟨_, Tryz.func32, by kernel_rfl, by kernel_rfl⟩
noncomputable def fb33 : Code := fbO Tryz.f33
noncomputable def fi33 : FI := ⟨5, [ResultVar.tmp 2], fb33⟩
theorem fo33 : FIok Tryz.prog 33 fi33 := ⟨_, Tryz.func33, by kernel_rfl, Tryz.ntmps33, Tryz.results33, by kernel_rfl, by kernel_rfl⟩
noncomputable def fb34 : Code := fbO Tryz.f34
noncomputable def fi34 : FI := ⟨17, [ResultVar.tmp 2], fb34⟩
theorem fo34 : FIok Tryz.prog 34 fi34 := ⟨_, Tryz.func34, by kernel_rfl, Tryz.ntmps34, Tryz.results34, by kernel_rfl, by kernel_rfl⟩
noncomputable def fb38 : Code := fbO Tryz.f38
noncomputable def fi38 : FI := ⟨31, [ResultVar.tmp 2], fb38⟩
theorem fo38 : FIok Tryz.prog 38 fi38 := ⟨_, Tryz.func38, by kernel_rfl, Tryz.ntmps38, Tryz.results38, by kernel_rfl, by kernel_rfl⟩
theorem cal38 : qag Tryz.prog 38 := ⟨_, Tryz.func38, by kernel_rfl, by kernel_rfl⟩
noncomputable def fb39 : Code := fbO Tryz.f39
noncomputable def fi39 : FI := ⟨131, [ResultVar.cell 2 36], fb39⟩
theorem fo39 : FIok Tryz.prog 39 fi39 := ⟨_, Tryz.func39, by kernel_rfl, Tryz.ntmps39, Tryz.results39, by kernel_rfl, by kernel_rfl⟩
theorem cal39 : qag Tryz.prog 39 := ⟨_, Tryz.func39, by kernel_rfl, by kernel_rfl⟩
noncomputable def fb40 : Code := fbO Tryz.f40
noncomputable def fi40 : FI := ⟨41, [ResultVar.tmp 4, ResultVar.tmp 5], fb40⟩
theorem fo40 : FIok Tryz.prog 40 fi40 := ⟨_, Tryz.func40, by kernel_rfl, Tryz.ntmps40, Tryz.results40, by kernel_rfl, by kernel_rfl⟩
noncomputable def fb43 : Code := fbO Tryz.f43
noncomputable def fi43 : FI := ⟨32, [ResultVar.tmp 4], fb43⟩
theorem fo43 : FIok Tryz.prog 43 fi43 := ⟨_, Tryz.func43, by kernel_rfl, Tryz.ntmps43, Tryz.results43, by kernel_rfl, by kernel_rfl⟩
noncomputable def fb44 : Code := fbO Tryz.f44
noncomputable def fi44 : FI := ⟨24, [ResultVar.tmp 2], fb44⟩
theorem fo44 : FIok Tryz.prog 44 fi44 := ⟨_, Tryz.func44, by kernel_rfl, Tryz.ntmps44, Tryz.results44, by kernel_rfl, by kernel_rfl⟩
noncomputable def fb47 : Code := fbO Tryz.f47
noncomputable def fi47 : FI := ⟨27, [ResultVar.tmp 2, ResultVar.tmp 3], fb47⟩
theorem fo47 : FIok Tryz.prog 47 fi47 := ⟨_, Tryz.func47, by kernel_rfl, Tryz.ntmps47, Tryz.results47, by kernel_rfl, by kernel_rfl⟩
theorem cal47 : qag Tryz.prog 47 := ⟨_, Tryz.func47, by kernel_rfl, by kernel_rfl⟩
noncomputable def fb48 : Code := fbO Tryz.f48
noncomputable def fi48 : FI := ⟨37, [ResultVar.tmp 4], fb48⟩
theorem fo48 : FIok Tryz.prog 48 fi48 := ⟨_, Tryz.func48, by kernel_rfl, Tryz.ntmps48, Tryz.results48, by kernel_rfl, by kernel_rfl⟩
theorem cal48 : qag Tryz.prog 48 := ⟨_, Tryz.func48, by kernel_rfl, by kernel_rfl⟩
noncomputable def fb49 : Code := fbO Tryz.f49
noncomputable def fi49 : FI := ⟨75, [ResultVar.tmp 4], fb49⟩
theorem fo49 : FIok Tryz.prog 49 fi49 := ⟨_, Tryz.func49, by kernel_rfl, Tryz.ntmps49, Tryz.results49, by kernel_rfl, by kernel_rfl⟩
theorem cal49 : qag Tryz.prog 49 := ⟨_, Tryz.func49, by kernel_rfl, by kernel_rfl⟩
noncomputable def fb50 : Code := fbO Tryz.f50
noncomputable def fi50 : FI := ⟨42, [ResultVar.tmp 2], fb50⟩
theorem fo50 : FIok Tryz.prog 50 fi50 := ⟨_, Tryz.func50, by kernel_rfl, Tryz.ntmps50, Tryz.results50, by kernel_rfl, by kernel_rfl⟩
theorem cal50 : qag Tryz.prog 50 := ⟨_, Tryz.func50, by kernel_rfl, by kernel_rfl⟩
noncomputable def fb51 : Code := fbO Tryz.f51
noncomputable def fi51 : FI := ⟨32, [ResultVar.tmp 6], fb51⟩
theorem fo51 : FIok Tryz.prog 51 fi51 := ⟨_, Tryz.func51, by kernel_rfl, Tryz.ntmps51, Tryz.results51, by kernel_rfl, by kernel_rfl⟩
theorem cal51 : qag Tryz.prog 51 := ⟨_, Tryz.func51, by kernel_rfl, by kernel_rfl⟩
noncomputable def fb52 : Code := fbO Tryz.f52
noncomputable def fi52 : FI := ⟨17, [ResultVar.tmp 4], fb52⟩
theorem fo52 : FIok Tryz.prog 52 fi52 := ⟨_, Tryz.func52, by kernel_rfl, Tryz.ntmps52, Tryz.results52, by kernel_rfl, by kernel_rfl⟩
noncomputable def fb53 : Code := fbO Tryz.f53
noncomputable def fi53 : FI := ⟨41, [ResultVar.tmp 4], fb53⟩
theorem fo53 : FIok Tryz.prog 53 fi53 := ⟨_, Tryz.func53, by kernel_rfl, Tryz.ntmps53, Tryz.results53, by kernel_rfl, by kernel_rfl⟩
theorem cal53 : qag Tryz.prog 53 := ⟨_, Tryz.func53, by kernel_rfl, by kernel_rfl⟩
noncomputable def fb54 : Code := fbO Tryz.f54
noncomputable def fi54 : FI := ⟨34, [ResultVar.tmp 4], fb54⟩
theorem fo54 : FIok Tryz.prog 54 fi54 := ⟨_, Tryz.func54, by kernel_rfl, Tryz.ntmps54, Tryz.results54, by kernel_rfl, by kernel_rfl⟩
theorem cal54 : qag Tryz.prog 54 := ⟨_, Tryz.func54, by kernel_rfl, by kernel_rfl⟩
noncomputable def fb55 : Code := fbO Tryz.f55
noncomputable def fi55 : FI := ⟨19, [ResultVar.tmp 4, ResultVar.tmp 5], fb55⟩
theorem fo55 : FIok Tryz.prog 55 fi55 := ⟨_, Tryz.func55, by kernel_rfl, Tryz.ntmps55, Tryz.results55, by kernel_rfl, by kernel_rfl⟩
noncomputable def fb56 : Code := fbO Tryz.f56
noncomputable def fi56 : FI := ⟨8, [ResultVar.tmp 2], fb56⟩
theorem fo56 : FIok Tryz.prog 56 fi56 := ⟨_, Tryz.func56, by kernel_rfl, Tryz.ntmps56, Tryz.results56, by kernel_rfl, by kernel_rfl⟩
noncomputable def fb57 : Code := fbO Tryz.f57
noncomputable def fi57 : FI := ⟨14, [ResultVar.tmp 2], fb57⟩
theorem fo57 : FIok Tryz.prog 57 fi57 := ⟨_, Tryz.func57, by kernel_rfl, Tryz.ntmps57, Tryz.results57, by kernel_rfl, by kernel_rfl⟩
theorem cal57 : qag Tryz.prog 57 := ⟨_, Tryz.func57, by kernel_rfl, by kernel_rfl⟩
noncomputable def fb58 : Code := fbO Tryz.f58
noncomputable def fi58 : FI := ⟨106, [ResultVar.tmp 2], fb58⟩
theorem fo58 : FIok Tryz.prog 58 fi58 := ⟨_, Tryz.func58, by kernel_rfl, Tryz.ntmps58, Tryz.results58, by kernel_rfl, by kernel_rfl⟩
noncomputable def fb59 : Code := fbO Tryz.f59
noncomputable def fi59 : FI := ⟨18, [ResultVar.tmp 2], fb59⟩
theorem fo59 : FIok Tryz.prog 59 fi59 := ⟨_, Tryz.func59, by kernel_rfl, Tryz.ntmps59, Tryz.results59, by kernel_rfl, by kernel_rfl⟩
noncomputable def fb60 : Code := fbO Tryz.f60
noncomputable def fi60 : FI := ⟨20, [ResultVar.tmp 4], fb60⟩
theorem fo60 : FIok Tryz.prog 60 fi60 := ⟨_, Tryz.func60, by kernel_rfl, Tryz.ntmps60, Tryz.results60, by kernel_rfl, by kernel_rfl⟩
noncomputable def fb61 : Code := fbO Tryz.f61
noncomputable def fi61 : FI := ⟨8, [ResultVar.tmp 4], fb61⟩
theorem fo61 : FIok Tryz.prog 61 fi61 := ⟨_, Tryz.func61, by kernel_rfl, Tryz.ntmps61, Tryz.results61, by kernel_rfl, by kernel_rfl⟩
noncomputable def fb62 : Code := fbO Tryz.f62
noncomputable def fi62 : FI := ⟨4, [ResultVar.tmp 2], fb62⟩
theorem fo62 : FIok Tryz.prog 62 fi62 := ⟨_, Tryz.func62, by kernel_rfl, Tryz.ntmps62, Tryz.results62, by kernel_rfl, by kernel_rfl⟩
noncomputable def fb63 : Code := fbO Tryz.f63
noncomputable def fi63 : FI := ⟨66, [ResultVar.tmp 8], fb63⟩
theorem fo63 : FIok Tryz.prog 63 fi63 := ⟨_, Tryz.func63, by kernel_rfl, Tryz.ntmps63, Tryz.results63, by kernel_rfl, by kernel_rfl⟩
theorem cal63 : qag Tryz.prog 63 := ⟨_, Tryz.func63, by kernel_rfl, by kernel_rfl⟩
noncomputable def fb65 : Code := fbO Tryz.f65
noncomputable def fi65 : FI := ⟨41, [ResultVar.tmp 4, ResultVar.tmp 5], fb65⟩
theorem fo65 : FIok Tryz.prog 65 fi65 := ⟨_, Tryz.func65, by kernel_rfl, Tryz.ntmps65, Tryz.results65, by kernel_rfl, by kernel_rfl⟩
theorem cal65 : qag Tryz.prog 65 := ⟨_, Tryz.func65, by kernel_rfl, by kernel_rfl⟩
noncomputable def fb66 : Code := fbO Tryz.f66
noncomputable def fi66 : FI := ⟨43, [ResultVar.tmp 4], fb66⟩
theorem fo66 : FIok Tryz.prog 66 fi66 := ⟨_, Tryz.func66, by kernel_rfl, Tryz.ntmps66, Tryz.results66, by kernel_rfl, by kernel_rfl⟩
theorem cal66 : qag Tryz.prog 66 := ⟨_, Tryz.func66, by kernel_rfl, by kernel_rfl⟩
noncomputable def fb67 : Code := fbO Tryz.f67
noncomputable def fi67 : FI := ⟨17, [ResultVar.tmp 2], fb67⟩
theorem fo67 : FIok Tryz.prog 67 fi67 := ⟨_, Tryz.func67, by kernel_rfl, Tryz.ntmps67, Tryz.results67, by kernel_rfl, by kernel_rfl⟩
theorem cal67 : qag Tryz.prog 67 := ⟨_, Tryz.func67, by kernel_rfl, by kernel_rfl⟩
noncomputable def fb68 : Code := fbO Tryz.f68
noncomputable def fi68 : FI := ⟨23, [ResultVar.tmp 4], fb68⟩
theorem fo68 : FIok Tryz.prog 68 fi68 := ⟨_, Tryz.func68, by kernel_rfl, Tryz.ntmps68, Tryz.results68, by kernel_rfl, by kernel_rfl⟩
theorem cal68 : qag Tryz.prog 68 := ⟨_, Tryz.func68, by kernel_rfl, by kernel_rfl⟩
noncomputable def fb69 : Code := fbO Tryz.f69
noncomputable def fi69 : FI := ⟨38, [ResultVar.cell 2 120], fb69⟩
theorem fo69 : FIok Tryz.prog 69 fi69 := ⟨_, Tryz.func69, by kernel_rfl, Tryz.ntmps69, Tryz.results69, by kernel_rfl, by kernel_rfl⟩
theorem cal69 : qag Tryz.prog 69 := ⟨_, Tryz.func69, by kernel_rfl, by kernel_rfl⟩
noncomputable def fb70 : Code := fbO Tryz.f70
noncomputable def fi70 : FI := ⟨9, [ResultVar.tmp 4], fb70⟩
theorem fo70 : FIok Tryz.prog 70 fi70 := ⟨_, Tryz.func70, by kernel_rfl, Tryz.ntmps70, Tryz.results70, by kernel_rfl, by kernel_rfl⟩
noncomputable def fb71 : Code := fbO Tryz.f71
noncomputable def fi71 : FI := ⟨6, [ResultVar.tmp 2], fb71⟩
theorem fo71 : FIok Tryz.prog 71 fi71 := ⟨_, Tryz.func71, by kernel_rfl, Tryz.ntmps71, Tryz.results71, by kernel_rfl, by kernel_rfl⟩
noncomputable def fb72 : Code := fbO Tryz.f72
noncomputable def fi72 : FI := ⟨17, [ResultVar.tmp 4], fb72⟩
theorem fo72 : FIok Tryz.prog 72 fi72 := ⟨_, Tryz.func72, by kernel_rfl, Tryz.ntmps72, Tryz.results72, by kernel_rfl, by kernel_rfl⟩
noncomputable def fb73 : Code := fbO Tryz.f73
noncomputable def fi73 : FI := ⟨48, [ResultVar.tmp 2, ResultVar.tmp 3], fb73⟩
theorem fo73 : FIok Tryz.prog 73 fi73 := ⟨_, Tryz.func73, by kernel_rfl, Tryz.ntmps73, Tryz.results73, by kernel_rfl, by kernel_rfl⟩
theorem cal73 : qag Tryz.prog 73 := ⟨_, Tryz.func73, by kernel_rfl, by kernel_rfl⟩
noncomputable def fb74 : Code := fbO Tryz.f74
noncomputable def fi74 : FI := ⟨5, [ResultVar.tmp 2], fb74⟩
theorem fo74 : FIok Tryz.prog 74 fi74 := ⟨_, Tryz.func74, by kernel_rfl, Tryz.ntmps74, Tryz.results74, by kernel_rfl, by kernel_rfl⟩
noncomputable def fb75 : Code := fbO Tryz.f75
noncomputable def fi75 : FI := ⟨23, [ResultVar.tmp 4], fb75⟩
theorem fo75 : FIok Tryz.prog 75 fi75 := ⟨_, Tryz.func75, by kernel_rfl, Tryz.ntmps75, Tryz.results75, by kernel_rfl, by kernel_rfl⟩
noncomputable def fb76 : Code := fbO Tryz.f76
noncomputable def fi76 : FI := ⟨21, [ResultVar.cell 2 127, ResultVar.tmp 3], fb76⟩
theorem fo76 : FIok Tryz.prog 76 fi76 := ⟨_, Tryz.func76, by kernel_rfl, Tryz.ntmps76, Tryz.results76, by kernel_rfl, by kernel_rfl⟩
noncomputable def fb77 : Code := fbO Tryz.f77
noncomputable def fi77 : FI := ⟨22, [ResultVar.tmp 4], fb77⟩
theorem fo77 : FIok Tryz.prog 77 fi77 := ⟨_, Tryz.func77, by kernel_rfl, Tryz.ntmps77, Tryz.results77, by kernel_rfl, by kernel_rfl⟩
noncomputable def fb79 : Code := fbO Tryz.f79
noncomputable def fi79 : FI := ⟨25, [], fb79⟩
theorem fo79 : FIok Tryz.prog 79 fi79 := ⟨_, Tryz.func79, by kernel_rfl, Tryz.ntmps79, Tryz.results79, by kernel_rfl, by kernel_rfl⟩
noncomputable def fb82 : Code := fbO Tryz.f82
noncomputable def fi82 : FI := ⟨8, [ResultVar.tmp 4], fb82⟩
theorem fo82 : FIok Tryz.prog 82 fi82 := ⟨_, Tryz.func82, by kernel_rfl, Tryz.ntmps82, Tryz.results82, by kernel_rfl, by kernel_rfl⟩
theorem cal82 : qag Tryz.prog 82 := ⟨_, Tryz.func82, by kernel_rfl, by kernel_rfl⟩
noncomputable def fb83 : Code := fbO Tryz.f83
noncomputable def fi83 : FI := ⟨20, [], fb83⟩
theorem fo83 : FIok Tryz.prog 83 fi83 := ⟨_, Tryz.func83, by kernel_rfl, Tryz.ntmps83, Tryz.results83, by kernel_rfl, by kernel_rfl⟩
theorem cal83 : qag Tryz.prog 83 := ⟨_, Tryz.func83, by kernel_rfl, by kernel_rfl⟩
noncomputable def fb86 : Code := fbO Tryz.f86
noncomputable def fi86 : FI := ⟨6, [ResultVar.tmp 2], fb86⟩
theorem fo86 : FIok Tryz.prog 86 fi86 := ⟨_, Tryz.func86, by kernel_rfl, Tryz.ntmps86, Tryz.results86, by kernel_rfl, by kernel_rfl⟩
noncomputable def fb87 : Code := fbO Tryz.f87
noncomputable def fi87 : FI := ⟨19, [ResultVar.tmp 4], fb87⟩
theorem fo87 : FIok Tryz.prog 87 fi87 := ⟨_, Tryz.func87, by kernel_rfl, Tryz.ntmps87, Tryz.results87, by kernel_rfl, by kernel_rfl⟩
noncomputable def fb88 : Code := fbO Tryz.f88
noncomputable def fi88 : FI := ⟨91, [], fb88⟩
theorem fo88 : FIok Tryz.prog 88 fi88 := ⟨_, Tryz.func88, by kernel_rfl, Tryz.ntmps88, Tryz.results88, by kernel_rfl, by kernel_rfl⟩
theorem cal88 : qag Tryz.prog 88 := ⟨_, Tryz.func88, by kernel_rfl, by kernel_rfl⟩
noncomputable def fb89 : Code := fbO Tryz.f89
noncomputable def fi89 : FI := ⟨17, [ResultVar.tmp 2], fb89⟩
theorem fo89 : FIok Tryz.prog 89 fi89 := ⟨_, Tryz.func89, by kernel_rfl, Tryz.ntmps89, Tryz.results89, by kernel_rfl, by kernel_rfl⟩
theorem cal89 : qag Tryz.prog 89 := ⟨_, Tryz.func89, by kernel_rfl, by kernel_rfl⟩
noncomputable def fb90 : Code := fbO Tryz.f90
noncomputable def fi90 : FI := ⟨8, [ResultVar.tmp 4], fb90⟩
theorem fo90 : FIok Tryz.prog 90 fi90 := ⟨_, Tryz.func90, by kernel_rfl, Tryz.ntmps90, Tryz.results90, by kernel_rfl, by kernel_rfl⟩
theorem cal90 : qag Tryz.prog 90 := ⟨_, Tryz.func90, by kernel_rfl, by kernel_rfl⟩
noncomputable def fb91 : Code := fbO Tryz.f91
noncomputable def fi91 : FI := ⟨8, [ResultVar.tmp 4], fb91⟩
theorem fo91 : FIok Tryz.prog 91 fi91 := ⟨_, Tryz.func91, by kernel_rfl, Tryz.ntmps91, Tryz.results91, by kernel_rfl, by kernel_rfl⟩
theorem cal91 : qag Tryz.prog 91 := ⟨_, Tryz.func91, by kernel_rfl, by kernel_rfl⟩
noncomputable def fb92 : Code := fbO Tryz.f92
noncomputable def fi92 : FI := ⟨9, [ResultVar.tmp 2], fb92⟩
theorem fo92 : FIok Tryz.prog 92 fi92 := ⟨_, Tryz.func92, by kernel_rfl, Tryz.ntmps92, Tryz.results92, by kernel_rfl, by kernel_rfl⟩
noncomputable def fb93 : Code := fbO Tryz.f93
noncomputable def fi93 : FI := ⟨16, [ResultVar.tmp 2], fb93⟩
theorem fo93 : FIok Tryz.prog 93 fi93 := ⟨_, Tryz.func93, by kernel_rfl, Tryz.ntmps93, Tryz.results93, by kernel_rfl, by kernel_rfl⟩
theorem cal93 : qag Tryz.prog 93 := ⟨_, Tryz.func93, by kernel_rfl, by kernel_rfl⟩
noncomputable def fb95 : Code := fbO Tryz.f95
noncomputable def fi95 : FI := ⟨2, [ResultVar.tmp 0], fb95⟩
theorem fo95 : FIok Tryz.prog 95 fi95 := ⟨_, Tryz.func95, by kernel_rfl, Tryz.ntmps95, Tryz.results95, by kernel_rfl, by kernel_rfl⟩
theorem cal95 : qag Tryz.prog 95 := ⟨_, Tryz.func95, by kernel_rfl, by kernel_rfl⟩
noncomputable def fb96 : Code := fbO Tryz.f96
noncomputable def fi96 : FI := ⟨9, [ResultVar.tmp 2], fb96⟩
theorem fo96 : FIok Tryz.prog 96 fi96 := ⟨_, Tryz.func96, by kernel_rfl, Tryz.ntmps96, Tryz.results96, by kernel_rfl, by kernel_rfl⟩
noncomputable def fb97 : Code := fbO Tryz.f97
noncomputable def fi97 : FI := ⟨9, [ResultVar.tmp 2], fb97⟩
theorem fo97 : FIok Tryz.prog 97 fi97 := ⟨_, Tryz.func97, by kernel_rfl, Tryz.ntmps97, Tryz.results97, by kernel_rfl, by kernel_rfl⟩
noncomputable def fb98 : Code := fbO Tryz.f98
noncomputable def fi98 : FI := ⟨9, [ResultVar.tmp 2], fb98⟩
theorem fo98 : FIok Tryz.prog 98 fi98 := ⟨_, Tryz.func98, by kernel_rfl, Tryz.ntmps98, Tryz.results98, by kernel_rfl, by kernel_rfl⟩
noncomputable def fb99 : Code := fbO Tryz.f99
noncomputable def fi99 : FI := ⟨18, [ResultVar.tmp 4], fb99⟩
theorem fo99 : FIok Tryz.prog 99 fi99 := ⟨_, Tryz.func99, by kernel_rfl, Tryz.ntmps99, Tryz.results99, by kernel_rfl, by kernel_rfl⟩
theorem cal99 : qag Tryz.prog 99 := ⟨_, Tryz.func99, by kernel_rfl, by kernel_rfl⟩
noncomputable def fb100 : Code := fbO Tryz.f100
noncomputable def fi100 : FI := ⟨46, [ResultVar.cell 2 112], fb100⟩
theorem fo100 : FIok Tryz.prog 100 fi100 := ⟨_, Tryz.func100, by kernel_rfl, Tryz.ntmps100, Tryz.results100, by kernel_rfl, by kernel_rfl⟩
theorem cal100 : qag Tryz.prog 100 := ⟨_, Tryz.func100, by kernel_rfl, by kernel_rfl⟩
noncomputable def fb101 : Code := fbO Tryz.f101
noncomputable def fi101 : FI := ⟨51, [ResultVar.cell 2 120], fb101⟩
theorem fo101 : FIok Tryz.prog 101 fi101 := ⟨_, Tryz.func101, by kernel_rfl, Tryz.ntmps101, Tryz.results101, by kernel_rfl, by kernel_rfl⟩
theorem cal101 : qag Tryz.prog 101 := ⟨_, Tryz.func101, by kernel_rfl, by kernel_rfl⟩
noncomputable def fb102 : Code := fbO Tryz.f102
noncomputable def fi102 : FI := ⟨19, [ResultVar.tmp 4], fb102⟩
theorem fo102 : FIok Tryz.prog 102 fi102 := ⟨_, Tryz.func102, by kernel_rfl, Tryz.ntmps102, Tryz.results102, by kernel_rfl, by kernel_rfl⟩
noncomputable def fb103 : Code := fbO Tryz.f103
noncomputable def fi103 : FI := ⟨9, [ResultVar.tmp 2], fb103⟩
theorem fo103 : FIok Tryz.prog 103 fi103 := ⟨_, Tryz.func103, by kernel_rfl, Tryz.ntmps103, Tryz.results103, by kernel_rfl, by kernel_rfl⟩
noncomputable def fb104 : Code := fbO Tryz.f104
noncomputable def fi104 : FI := ⟨36, [ResultVar.tmp 2, ResultVar.tmp 3], fb104⟩
theorem fo104 : FIok Tryz.prog 104 fi104 := ⟨_, Tryz.func104, by kernel_rfl, Tryz.ntmps104, Tryz.results104, by kernel_rfl, by kernel_rfl⟩
theorem cal104 : qag Tryz.prog 104 := ⟨_, Tryz.func104, by kernel_rfl, by kernel_rfl⟩
noncomputable def fb105 : Code := fbO Tryz.f105
noncomputable def fi105 : FI := ⟨34, [ResultVar.tmp 2, ResultVar.tmp 3], fb105⟩
theorem fo105 : FIok Tryz.prog 105 fi105 := ⟨_, Tryz.func105, by kernel_rfl, Tryz.ntmps105, Tryz.results105, by kernel_rfl, by kernel_rfl⟩
theorem cal105 : qag Tryz.prog 105 := ⟨_, Tryz.func105, by kernel_rfl, by kernel_rfl⟩
noncomputable def fb106 : Code := fbO Tryz.f106
noncomputable def fi106 : FI := ⟨10, [ResultVar.tmp 4], fb106⟩
theorem fo106 : FIok Tryz.prog 106 fi106 := ⟨_, Tryz.func106, by kernel_rfl, Tryz.ntmps106, Tryz.results106, by kernel_rfl, by kernel_rfl⟩
noncomputable def fb109 : Code := fbO Tryz.f109
noncomputable def fi109 : FI := ⟨30, [], fb109⟩
theorem fo109 : FIok Tryz.prog 109 fi109 := ⟨_, Tryz.func109, by kernel_rfl, Tryz.ntmps109, Tryz.results109, by kernel_rfl, by kernel_rfl⟩
noncomputable def fb110 : Code := fbO Tryz.f110
noncomputable def fi110 : FI := ⟨143, [ResultVar.tmp 4], fb110⟩
theorem fo110 : FIok Tryz.prog 110 fi110 := ⟨_, Tryz.func110, by kernel_rfl, Tryz.ntmps110, Tryz.results110, by kernel_rfl, by kernel_rfl⟩
noncomputable def fb113 : Code := fbO Tryz.f113
noncomputable def fi113 : FI := ⟨17, [ResultVar.tmp 2], fb113⟩
theorem fo113 : FIok Tryz.prog 113 fi113 := ⟨_, Tryz.func113, by kernel_rfl, Tryz.ntmps113, Tryz.results113, by kernel_rfl, by kernel_rfl⟩
noncomputable def fb114 : Code := fbO Tryz.f114
noncomputable def fi114 : FI := ⟨18, [ResultVar.tmp 4], fb114⟩
theorem fo114 : FIok Tryz.prog 114 fi114 := ⟨_, Tryz.func114, by kernel_rfl, Tryz.ntmps114, Tryz.results114, by kernel_rfl, by kernel_rfl⟩
noncomputable def fb115 : Code := fbO Tryz.f115
noncomputable def fi115 : FI := ⟨21, [ResultVar.tmp 6], fb115⟩
theorem fo115 : FIok Tryz.prog 115 fi115 := ⟨_, Tryz.func115, by kernel_rfl, Tryz.ntmps115, Tryz.results115, by kernel_rfl, by kernel_rfl⟩
noncomputable def fb116 : Code := fbO Tryz.f116
noncomputable def fi116 : FI := ⟨2, [ResultVar.cell 0 156], fb116⟩
theorem fo116 : FIok Tryz.prog 116 fi116 := ⟨_, Tryz.func116, by kernel_rfl, Tryz.ntmps116, Tryz.results116, by kernel_rfl, by kernel_rfl⟩
noncomputable def fb118 : Code := fbO Tryz.f118
noncomputable def fi118 : FI := ⟨2, [ResultVar.tmp 0], fb118⟩
theorem fo118 : FIok Tryz.prog 118 fi118 := ⟨_, Tryz.func118, by kernel_rfl, Tryz.ntmps118, Tryz.results118, by kernel_rfl, by kernel_rfl⟩
noncomputable def fb119 : Code := fbO Tryz.f119
noncomputable def fi119 : FI := ⟨18, [ResultVar.tmp 4], fb119⟩
theorem fo119 : FIok Tryz.prog 119 fi119 := ⟨_, Tryz.func119, by kernel_rfl, Tryz.ntmps119, Tryz.results119, by kernel_rfl, by kernel_rfl⟩
theorem ql2 : qag Tryz.prog 119 := ⟨_, Tryz.func119, by kernel_rfl, by kernel_rfl⟩
noncomputable def fb120 : Code := fbO Tryz.f120
noncomputable def fi120 : FI := ⟨10, [ResultVar.tmp 2], fb120⟩
theorem fo120 : FIok Tryz.prog 120 fi120 := ⟨_, Tryz.func120, by kernel_rfl, Tryz.ntmps120, Tryz.results120, by kernel_rfl, by kernel_rfl⟩
noncomputable def fb121 : Code := fbO Tryz.f121
noncomputable def fi121 : FI := ⟨9, [ResultVar.tmp 2], fb121⟩
theorem fo121 : FIok Tryz.prog 121 fi121 := ⟨_, Tryz.func121, by kernel_rfl, Tryz.ntmps121, Tryz.results121, by kernel_rfl, by kernel_rfl⟩
noncomputable def fb122 : Code := fbO Tryz.f122
noncomputable def fi122 : FI := ⟨10, [ResultVar.tmp 2], fb122⟩
theorem fo122 : FIok Tryz.prog 122 fi122 := ⟨_, Tryz.func122, by kernel_rfl, Tryz.ntmps122, Tryz.results122, by kernel_rfl, by kernel_rfl⟩
noncomputable def fb123 : Code := fbO Tryz.f123
noncomputable def fi123 : FI := ⟨9, [ResultVar.tmp 2], fb123⟩
theorem fo123 : FIok Tryz.prog 123 fi123 := ⟨_, Tryz.func123, by kernel_rfl, Tryz.ntmps123, Tryz.results123, by kernel_rfl, by kernel_rfl⟩
noncomputable def fb124 : Code := fbO Tryz.f124
noncomputable def fi124 : FI := ⟨9, [ResultVar.tmp 4], fb124⟩
theorem fo124 : FIok Tryz.prog 124 fi124 := ⟨_, Tryz.func124, by kernel_rfl, Tryz.ntmps124, Tryz.results124, by kernel_rfl, by kernel_rfl⟩
theorem cal124 : qag Tryz.prog 124 := ⟨_, Tryz.func124, by kernel_rfl, by kernel_rfl⟩
noncomputable def fb128 : Code := fbO Tryz.f128
noncomputable def fi128 : FI := ⟨8, [ResultVar.tmp 4], fb128⟩
theorem fo128 : FIok Tryz.prog 128 fi128 := ⟨_, Tryz.func128, by kernel_rfl, Tryz.ntmps128, Tryz.results128, by kernel_rfl, by kernel_rfl⟩
theorem cal128 : qag Tryz.prog 128 := ⟨_, Tryz.func128, by kernel_rfl, by kernel_rfl⟩
noncomputable def fb130 : Code := fbO Tryz.f130
noncomputable def fi130 : FI := ⟨6, [ResultVar.tmp 2], fb130⟩
theorem fo130 : FIok Tryz.prog 130 fi130 := ⟨_, Tryz.func130, by kernel_rfl, Tryz.ntmps130, Tryz.results130, by kernel_rfl, by kernel_rfl⟩
noncomputable def fb135 : Code := fbO Tryz.f135
noncomputable def fi135 : FI := ⟨19, [ResultVar.tmp 4], fb135⟩
theorem fo135 : FIok Tryz.prog 135 fi135 := ⟨_, Tryz.func135, by kernel_rfl, Tryz.ntmps135, Tryz.results135, by kernel_rfl, by kernel_rfl⟩
theorem cal135 : qag Tryz.prog 135 := ⟨_, Tryz.func135, by kernel_rfl, by kernel_rfl⟩
noncomputable def ftT : PT FI := (.node none (.node none (.node none (.node (some fi7) (.node (some fi15) (.node (some fi31) (.node (some fi63) .leaf .leaf) (.node (some fi95) .leaf .leaf)) (.node (some fi47) (.node (some fi79) .leaf .leaf) .leaf)) (.node (some fi23) (.node (some fi39) (.node (some fi71) (.node (some fi135) .leaf .leaf) .leaf) (.node (some fi103) .leaf .leaf)) (.node (some fi55) (.node (some fi87) .leaf .leaf) (.node (some fi119) .leaf .leaf)))) (.node none (.node (some fi19) (.node none (.node (some fi67) .leaf .leaf) (.node (some fi99) .leaf .leaf)) (.node (some fi51) (.node (some fi83) .leaf .leaf) (.node (some fi115) .leaf .leaf))) (.node (some fi27) (.node (some fi43) (.node (some fi75) .leaf .leaf) .leaf) (.node (some fi59) (.node (some fi91) .leaf .leaf) (.node (some fi123) .leaf .leaf))))) (.node (some fi5) (.node none (.node none (.node (some fi33) (.node (some fi65) .leaf .leaf) (.node (some fi97) .leaf .leaf)) (.node (some fi49) .leaf (.node (some fi113) .leaf .leaf))) (.node (some fi25) (.node none (.node (some fi73) .leaf .leaf) (.node (some fi105) .leaf .leaf)) (.node (some fi57) (.node (some fi89) .leaf .leaf) (.node (some fi121) .leaf .leaf)))) (.node none (.node (some fi21) (.node none (.node (some fi69) .leaf .leaf) (.node (some fi101) .leaf .leaf)) (.node (some fi53) .leaf .leaf)) (.node (some fi29) (.node none (.node (some fi77) .leaf .leaf) (.node (some fi109) .leaf .leaf)) (.node (some fi61) (.node (some fi93) .leaf .leaf) .leaf))))) (.node none (.node none (.node (some fi8) (.node none (.node (some fi32) (.node none (.node (some fi128) .leaf .leaf) .leaf) (.node (some fi96) .leaf .leaf)) (.node (some fi48) .leaf .leaf)) (.node (some fi24) (.node (some fi40) (.node (some fi72) .leaf .leaf) (.node (some fi104) .leaf .leaf)) (.node (some fi56) (.node (some fi88) .leaf .leaf) (.node (some fi120) .leaf .leaf)))) (.node none (.node (some fi20) (.node none (.node (some fi68) .leaf .leaf) (.node (some fi100) .leaf .leaf)) (.node (some fi52) .leaf (.node (some fi116) .leaf .leaf))) (.node (some fi28) (.node (some fi44) (.node (some fi76) .leaf .leaf) .leaf) (.node (some fi60) (.node (some fi92) .leaf .leaf) (.node (some fi124) .leaf .leaf))))) (.node (some fi6) (.node (some fi10) (.node none (.node (some fi34) (.node (some fi66) (.node (some fi130) .leaf .leaf) .leaf) (.node (some fi98) .leaf .leaf)) (.node (some fi50) (.node (some fi82) .leaf .leaf) (.node (some fi114) .leaf .leaf))) (.node (some fi26) (.node none (.node (some fi74) .leaf .leaf) (.node (some fi106) .leaf .leaf)) (.node (some fi58) (.node (some fi90) .leaf .leaf) (.node (some fi122) .leaf .leaf)))) (.node none (.node (some fi22) (.node (some fi38) (.node (some fi70) .leaf .leaf) (.node (some fi102) .leaf .leaf)) (.node (some fi54) (.node (some fi86) .leaf .leaf) (.node (some fi118) .leaf .leaf))) (.node (some fi30) (.node none .leaf (.node (some fi110) .leaf .leaf)) (.node (some fi62) .leaf .leaf))))))
theorem ftFa : ftT.Fa (fun f fi => FIok Tryz.prog f fi) := ⟨trivial, ⟨trivial, ⟨trivial, ⟨fo7, ⟨fo15, ⟨fo31, ⟨fo63, trivial, trivial⟩, ⟨fo95, trivial, trivial⟩⟩, ⟨fo47, ⟨fo79, trivial, trivial⟩, trivial⟩⟩, ⟨fo23, ⟨fo39, ⟨fo71, ⟨fo135, trivial, trivial⟩, trivial⟩, ⟨fo103, trivial, trivial⟩⟩, ⟨fo55, ⟨fo87, trivial, trivial⟩, ⟨fo119, trivial, trivial⟩⟩⟩⟩, ⟨trivial, ⟨fo19, ⟨trivial, ⟨fo67, trivial, trivial⟩, ⟨fo99, trivial, trivial⟩⟩, ⟨fo51, ⟨fo83, trivial, trivial⟩, ⟨fo115, trivial, trivial⟩⟩⟩, ⟨fo27, ⟨fo43, ⟨fo75, trivial, trivial⟩, trivial⟩, ⟨fo59, ⟨fo91, trivial, trivial⟩, ⟨fo123, trivial, trivial⟩⟩⟩⟩⟩, ⟨fo5, ⟨trivial, ⟨trivial, ⟨fo33, ⟨fo65, trivial, trivial⟩, ⟨fo97, trivial, trivial⟩⟩, ⟨fo49, trivial, ⟨fo113, trivial, trivial⟩⟩⟩, ⟨fo25, ⟨trivial, ⟨fo73, trivial, trivial⟩, ⟨fo105, trivial, trivial⟩⟩, ⟨fo57, ⟨fo89, trivial, trivial⟩, ⟨fo121, trivial, trivial⟩⟩⟩⟩, ⟨trivial, ⟨fo21, ⟨trivial, ⟨fo69, trivial, trivial⟩, ⟨fo101, trivial, trivial⟩⟩, ⟨fo53, trivial, trivial⟩⟩, ⟨fo29, ⟨trivial, ⟨fo77, trivial, trivial⟩, ⟨fo109, trivial, trivial⟩⟩, ⟨fo61, ⟨fo93, trivial, trivial⟩, trivial⟩⟩⟩⟩⟩, ⟨trivial, ⟨trivial, ⟨fo8, ⟨trivial, ⟨fo32, ⟨trivial, ⟨fo128, trivial, trivial⟩, trivial⟩, ⟨fo96, trivial, trivial⟩⟩, ⟨fo48, trivial, trivial⟩⟩, ⟨fo24, ⟨fo40, ⟨fo72, trivial, trivial⟩, ⟨fo104, trivial, trivial⟩⟩, ⟨fo56, ⟨fo88, trivial, trivial⟩, ⟨fo120, trivial, trivial⟩⟩⟩⟩, ⟨trivial, ⟨fo20, ⟨trivial, ⟨fo68, trivial, trivial⟩, ⟨fo100, trivial, trivial⟩⟩, ⟨fo52, trivial, ⟨fo116, trivial, trivial⟩⟩⟩, ⟨fo28, ⟨fo44, ⟨fo76, trivial, trivial⟩, trivial⟩, ⟨fo60, ⟨fo92, trivial, trivial⟩, ⟨fo124, trivial, trivial⟩⟩⟩⟩⟩, ⟨fo6, ⟨fo10, ⟨trivial, ⟨fo34, ⟨fo66, ⟨fo130, trivial, trivial⟩, trivial⟩, ⟨fo98, trivial, trivial⟩⟩, ⟨fo50, ⟨fo82, trivial, trivial⟩, ⟨fo114, trivial, trivial⟩⟩⟩, ⟨fo26, ⟨trivial, ⟨fo74, trivial, trivial⟩, ⟨fo106, trivial, trivial⟩⟩, ⟨fo58, ⟨fo90, trivial, trivial⟩, ⟨fo122, trivial, trivial⟩⟩⟩⟩, ⟨trivial, ⟨fo22, ⟨fo38, ⟨fo70, trivial, trivial⟩, ⟨fo102, trivial, trivial⟩⟩, ⟨fo54, ⟨fo86, trivial, trivial⟩, ⟨fo118, trivial, trivial⟩⟩⟩, ⟨fo30, ⟨trivial, trivial, ⟨fo110, trivial, trivial⟩⟩, ⟨fo62, trivial, trivial⟩⟩⟩⟩⟩⟩
theorem ftOK : FT Tryz.prog ftT.get := fun f fi h => PT.fa ftFa f fi h
theorem mixed : Tryz.prog.follows .mixedOrders = true := by kernel_rfl
theorem rd9 : RdT Tryz.prog .str 9 := rdt_str Tryz.underlying9 (by kernel_rfl) (by kernel_rfl)
end Go.Proofs.YtanenikkloolfaaGreatDoor
end

section
set_option maxRecDepth 100000
namespace Go.Proofs.YtanenikkloolfaaGreatDoor
open Go Go.Sx Go.ChangeShapes Go.WideShapes Go.ChangeAt Go.RowKit Go.Jx
theorem ownKnobT : ownKnob Tryz.prog.godebug = none := by kernel_rfl
theorem laidT : laidOutB Tryz.prog = true := by kernel_rfl
theorem trw_of {H : Type} {en : TypeId × Value -> H} {W : World} {T : TypeId} {v : Value} {d : DataW H} {ps : List MemPlace} (h : DataW.Trod en Tryz.prog W 0 (fun _ => true) true T v d ps) (hw : ∀ n ∈ d.weights Tryz.prog T, n <= reachBytes) : TRW Tryz.prog W T v.cells.toList := by
 obtain ⟨fuel, h⟩ := h
 exact ⟨H, en, fuel, _, h, hw⟩
noncomputable def qca : List Int := match glTab 0 with | some l => l | none => []
theorem q1d : glTab 0 = some qca := rfl
theorem qy9 : (Rows.laid_strings_asciiSpace : DataW Unit) = .agg (qca.map fun n => .lit (.int .u8 n)) := by kernel_rfl
theorem qqw : qca.length = 256 := by kernel_rfl
noncomputable def laidL : List (String × DataW Unit) := [("unicode/utf8.acceptRanges", Rows.laid_unicode_utf8_acceptRanges), ("unicode.White_Space", Rows.laid_unicode_White_Space), ("strings.asciiSpace", Rows.laid_strings_asciiSpace), ("unicode/utf8.first", Rows.laid_unicode_utf8_first)]
theorem qri {W : World} (h : laidMetH Tryz.prog laidL W) (r : Nat) (hr : r < 256) : ∃ z, qca[r]? = some z /\ W.cell? ⟨0, r, none⟩ = some (.int .u8 z) /\ IntKind.u8.wrap z = z := by
 rw [MakeChecks.laidMetH_plain _ _ _ (by kernel_rfl)] at h
 obtain ⟨ps, ⟨_, _, _, _, _, _, _, _, _, _, ⟨_, _, _, _, _, _, _, _, _, _, ⟨g, t, cs, fuel, p, q, hg, ht, hv, hd, _, _⟩, _⟩, _⟩, _, _⟩ := h
 obtain rfl := Option.some.inj ((show Tryz.prog.globalNamed "strings.asciiSpace" = some 0 by kernel_rfl).symm.trans hg)
 obtain rfl := Option.some.inj ((show (Tryz.prog.globals[0]?).map (·.type) = some 135 by kernel_rfl).symm.trans ht)
 obtain ⟨xs, m, _, ex, _, hl, hel⟩ := DataW.trod_array Tryz.underlying135 hd
 have c5 : Tryz.prog.cellsOf 5 = 1 := by kernel_rfl
 have hE := hel r hr
 rw [c5, Nat.mul_one, List.getElem?_eq_getElem (by omega)] at hE
 obtain ⟨z, e1, e2, e0⟩ := DataW.trod_int Tryz.underlying5 hE
 rw [qy9] at ex
 have e3 : (xs.map (·.1)) = qca.map fun n => .lit (.int .u8 n) := (DataW.agg.inj (Prod.mk.inj ex).1).symm
 have e4 : (xs.map (·.1))[r]? = (qca.map fun n => (DataW.lit (.int .u8 n) : DataW Unit))[r]? := by rw [e3]
 have hlen := qqw
 rw [List.getElem?_map, List.getElem?_map, List.getElem?_eq_getElem (by omega : r < xs.length), List.getElem?_eq_getElem (by omega : r < qca.length), e2] at e4
 have hz : qca[r]? = some z := by
   rw [List.getElem?_eq_getElem (by omega : r < qca.length)]
   simp only [Option.map_some, Option.some.injEq, DataW.lit.injEq, Lit.int.injEq, true_and] at e4
   rw [e4]
 have hw : IntKind.u8.wrap z = z := by
   have hall : qca.all (fun z => decide (IntKind.u8.wrap z = z)) = true := by kernel_rfl
   exact of_decide_eq_true (List.all_eq_true.1 hall z (List.mem_of_getElem? hz))
 refine ⟨z, hz, ?_, hw⟩
 rw [World.var?_cell hg hv r]
 have : cs.toList[r]? = some (.int .u8 z) := by
   have h0 : ((cs.toList.drop r).take 1)[0]? = some (.int .u8 z) := by rw [e1]; rfl
   simpa using h0
 simpa using this
theorem gl_of_laid {W : World} (h : laidMetH Tryz.prog laidL W) : Gl [] W := ⟨fun b hb => by
 have hb0 : b = 0 := by
   unfold glB at hb
   match b, hb with
   | 0, _ => rfl
   | b + 1, hb => exact absurd hb (by simp [glTab])
 subst hb0
 refine ⟨by simp, ?_⟩
 obtain ⟨z0, _, h0, _⟩ := qri h 0 (by decide)
 have hh : ∃ cells t fz, W.heap[0]? = some (.cells cells t fz) := by
   unfold World.cell? at h0
   cases hp : W.heap[0]? with
   | none => rw [hp] at h0; cases h0
   | some o =>
     rw [hp] at h0
     cases o <;> first | exact ⟨_, _, _, rfl⟩ | cases h0
 obtain ⟨cells, t, fz, hh⟩ := hh
 refine ⟨_, hh, cells, t, fz, rfl, fun l hl i n hi => ?_⟩
 rw [q1d] at hl
 cases hl
 have hlt := (List.getElem?_eq_some_iff.1 hi).1
 rw [qqw] at hlt
 obtain ⟨z, hz, hc, hw⟩ := qri h i hlt
 rw [hi] at hz
 cases hz
 refine ⟨?_, hw⟩
 unfold World.cell? at hc
 rw [hh] at hc
 simpa using hc⟩
end Go.Proofs.YtanenikkloolfaaGreatDoor
end

section
namespace Go.Jx
open Go Go.Sx Go.RowKit
universe u

def regs : Code -> List Nat
 | .region id _ _ => [id]
 | .seq a b => regs a ++ regs b
 | .cond _ a b => regs a ++ regs b
 | .block _ c => regs c
 | .scope c => regs c
 | .loop c => regs c
 | _ => []
def hasR (k : Nat) (c : Code) : Bool := (regs c).any fun i => Nat.beq i k
section
variable {R : Type} (P : Program) (tt : Nat -> Option TI) (nm : Nat -> Option Nm) (B : Nat) (nt : Nat) (cl : ClK R) (lf : Nat)
def regKB (ops : List Oper) (draw : Bool) (x : NRes) (kk : CRes -> Option R) : Option R :=
 cond draw (ianyK P tt nt cl ops x.fr x.S fun q => kk (mbR (mB nm B) ⟨.normal, q.fr, q.S, x.ds, q.rd, x.wr ||| q.wr⟩))
   (iseqK P tt nt cl ops ops x.fr x.S fun q => kk (mbR (mB nm B) ⟨.normal, q.fr, q.S, x.ds, q.rd, x.wr ||| q.wr⟩))
def qap (k : Nat) : Code -> List Nat -> NRes -> (CRes -> Option R) -> Option R
 | .region id ops draw, ns, x, kk => cond (Nat.beq id k) (regKB P tt nm B nt cl ops.toList draw x kk) none
 | .seq a b, ns, x, kk => cond (hasR k a) (qap k a ns x fun r => match r.e with
   | .normal => qak P tt nm B nt cl lf none b r.fr r.S r.ds fun q => kk (q.or r.rd r.wr)
   | _ => kk r) (qap k b ns x kk)
 | .cond c a b, ns, x, kk => cond (hasR k a) (qap k a ns x kk) (qap k b ns x kk)
 | .block id c, ns, x, kk => qap k c ns x fun r => match r.e with
   | .exit id' => cond (Nat.beq id' id) (kk ⟨.normal, r.fr, r.S, r.ds, r.rd, r.wr⟩) (kk r)
   | _ => kk r
 | .scope c, ns, x, kk => qap k c ns x fun r => match r.e with
   | .goto _ => none
   | _ => kk r
 | .loop c, ns, x, kk => match ns with
   | [] => none
   | n :: ns => match loopM nm c with
     | none => none
     | some m => qap k c ns x fun r => cond (subm r.rd m.1 && subm r.wr m.2) (match r.e with
       | .normal => qcn (qak P tt nm B nt cl lf none c) m.1 m.2 n r.fr r.S r.ds fun r => kk (mbR (mB nm B) r)
       | e => kk (mbR (mB nm B) ⟨e, r.fr, r.S, r.ds, m.1, m.2⟩)) none
 | _, _, _, _ => none
end
theorem qhv {k : Nat} {c : Code} : hasR k c = true ↔ k ∈ regs c := by
 unfold hasR
 rw [List.any_eq_true]
 constructor
 · rintro ⟨i, hi, h⟩; rw [<- Nat.eq_of_beq_eq_true h]; exact hi
 · intro h; exact ⟨k, h, Nat.beq_refl k⟩
theorem qx4 {q : CRes} {a b : Nat} (ha : a = 0) (hb : b = 0) : q.or a b = q := by
 subst ha; subst hb
 show (⟨q.e, q.fr, q.S, q.ds, 0 ||| q.rd, 0 ||| q.wr⟩ : CRes) = q
 rw [Nat.zero_or, Nat.zero_or]
def lastK (tt : Nat -> Option TI) (fi : FI) (s : Sm) (r : CRes) : Option (ElR s.rts) := cond r.e.leaves (bd (qcc tt fi.nt fi.res S0 r) (runR s)) none
end Go.Jx
end

section
namespace Go.Jx
open Go Go.Sx Go.RowKit
universe u

def nz (x : NRes) : NRes := ⟨x.fr, x.S, x.ds, 0⟩
section
variable {R : Type} (P : Program) (tt : Nat -> Option TI) (nm : Nat -> Option Nm) (B : Nat) (nt : Nat) (cl : ClK R) (lf : Nat) (st hd : Nat -> Bool) (J : Nat -> List Nat -> NRes -> Option R)
def qh0 (c : Code) (ns : List Nat) (fr : PT IV) (S : IS) (ds : List Nat) : Option R := match fk c with
 | none => none
 | some h => bd (inorm nt (nm h) B fr S ds) fun x => J h ns (nz x)
def qax : Code -> List Nat -> CdK R
 | .region id ops draw, ps, fr, S, ds, kk => bd (inorm nt (nm id) B fr S ds) fun x => cond (st id) (J id ps (nz x)) (regKB P tt nm B nt cl ops.toList draw x kk)
 | .seq a b, ps, fr, S, ds, kk => qax a ps fr S ds fun r => match r.e with
   | .normal => qax b ps r.fr r.S r.ds kk
   | _ => kk r
 | .cond c a b, ps, fr, S, ds, kk => match evo nt fr c with
   | some (.bool b') => cond b' (qax a ps fr S ds kk) (qax b ps fr S ds kk)
   | _ => none
 | .block id c, ps, fr, S, ds, kk => qax c ps fr S ds fun r => match r.e with
   | .exit id' => cond (Nat.beq id' id) (kk ⟨.normal, r.fr, r.S, r.ds, r.rd, r.wr⟩) (kk r)
   | _ => kk r
 | .scope c, ps, fr, S, ds, kk => qax c ps fr S ds fun r => match r.e with
   | .goto _ => none
   | _ => kk r
 | .loop c, ps, fr, S, ds, kk => qh0 nm B nt J c (ps ++ [lf]) fr S ds
 | c, ps, fr, S, ds, kk => qak P tt nm B nt cl lf none c fr S ds kk
def qa1 (k : Nat) : Code -> List Nat -> List Nat -> NRes -> (CRes -> Option R) -> Option R
 | .region id ops draw, ps, ns, x, kk => cond (Nat.beq id k) (regKB P tt nm B nt cl ops.toList draw x kk) none
 | .seq a b, ps, ns, x, kk => cond (hasR k a) (qa1 k a ps ns x fun r => match r.e with
   | .normal => qax P tt nm B nt cl lf st J b ps r.fr r.S r.ds kk
   | _ => kk r) (qa1 k b ps ns x kk)
 | .cond c a b, ps, ns, x, kk => cond (hasR k a) (qa1 k a ps ns x kk) (qa1 k b ps ns x kk)
 | .block id c, ps, ns, x, kk => qa1 k c ps ns x fun r => match r.e with
   | .exit id' => cond (Nat.beq id' id) (kk ⟨.normal, r.fr, r.S, r.ds, r.rd, r.wr⟩) (kk r)
   | _ => kk r
 | .scope c, ps, ns, x, kk => qa1 k c ps ns x fun r => match r.e with
   | .goto _ => none
   | _ => kk r
 | .loop c, ps, ns, x, kk => match ns with
   | [] => none
   | n :: ns => match loopM nm c with
     | none => none
     | some m => qa1 k c (ps ++ [n]) ns x fun r => cond (subm r.rd m.1 && subm r.wr m.2) (match r.e with
       | .normal => qh0 nm B nt J c (ps ++ [n]) r.fr r.S r.ds
       | e => kk (mbR (mB nm B) ⟨e, r.fr, r.S, r.ds, m.1, m.2⟩)) none
 | _, _, _, _, _ => none
end
def okC (nm : Nat -> Option Nm) (st hd : Nat -> Bool) : Code -> Option Nat -> Bool
 | .region id _ _, o => match o with | none => !hd id | some h => Nat.beq id h && (st id && hd id)
 | .seq a b, o => okC nm st hd a o && okC nm st hd b none
 | .cond _ a b, o => o.isNone && (okC nm st hd a none && okC nm st hd b none)
 | .block _ c, o => okC nm st hd c o
 | .scope c, o => okC nm st hd c o
 | .loop c, o => o.isNone && ((loopM nm c).isSome && (match fk c with | some h => okC nm st hd c (some h) | none => false))
 | _, o => o.isNone
def dnL : List Nat -> Option (List Nat)
 | [] => none
 | [n] => match n with | 0 => none | m + 1 => some [m]
 | n :: m :: l => match dnL (m :: l) with | none => none | some l' => some (n :: l')
def dn (b : Bool) (ns : List Nat) : Option (List Nat) := cond b (dnL ns) (some ns)
theorem dn_cons {b : Bool} {n : Nat} {ns : List Nat} (h : b = true -> ns ≠ []) : dn b (n :: ns) = match dn b ns with | none => none | some l => some (n :: l) := by
 cases b with
 | false => rfl
 | true => cases ns with
   | nil => exact absurd rfl (h rfl)
   | cons m l => rfl
section
variable {R : Type} {P : Program} {tt : Nat -> Option TI} {nm : Nat -> Option Nm} {B : Nat} {nt : Nat} {cl : Cl} {clK : ClK R} {lf : Nat} {st hd : Nat -> Bool} {J : Nat -> List Nat -> NRes -> Option R}
def Keq (k k' : CRes -> Option R) : Prop := ∀ r, r.rd = 0 -> r.wr = 0 -> k r = k' r
theorem mz (hB0 : mB nm B = 0) (a : Nat) : mb (mB nm B) a = 0 := by rw [hB0]; rfl
theorem qtq (hB0 : mB nm B = 0) (h : ClEq cl clK) {ops : List Oper} {draw : Bool} {x : NRes} {k k' : CRes -> Option R} (hk : Keq k k') : regKB P tt nm B nt clK ops draw x k = regKB P tt nm B nt clK ops draw x k' := by
 unfold regKB
 cases draw with
 | true =>
   simp only [cond_true, qqh h]
   cases iany P tt nt cl ops x.fr x.S with
   | none => rfl
   | some q => exact hk _ (mz hB0 _) (mz hB0 _)
 | false =>
   simp only [cond_false, qmn h]
   cases iseq P tt nt cl ops ops x.fr x.S with
   | none => rfl
   | some q => exact hk _ (mz hB0 _) (mz hB0 _)
theorem qhi {h : Nat} : ∀ {c : Code}, okC nm st hd c (some h) = true -> fk c = some h /\ st h = true /\ hd h = true /\ h ∈ regs c
 | .region id _ _, hc => by
   simp only [okC, Bool.and_eq_true] at hc
   obtain rfl := Nat.eq_of_beq_eq_true hc.1
   exact ⟨rfl, hc.2.1, hc.2.2, by simp [regs]⟩
 | .seq a b, hc => by
   simp only [okC, Bool.and_eq_true] at hc
   obtain ⟨h1, h2, h3, h4⟩ := qhi hc.1
   exact ⟨by simp only [fk, h1], h2, h3, by simp [regs, h4]⟩
 | .cond _ a b, hc => by simp [okC] at hc
 | .block _ c, hc => qhi (c := c) hc
 | .scope c, hc => qhi (c := c) hc
 | .loop c, hc => by simp [okC] at hc
 | .skip, hc => by simp [okC] at hc
 | .label _, hc => by simp [okC] at hc
 | .exit _, hc => by simp [okC] at hc
 | .goto _, hc => by simp [okC] at hc
 | .ret, hc => by simp [okC] at hc
 | .refuse _, hc => by simp [okC] at hc
 | .rangeFunc .., hc => by simp [okC] at hc
theorem qjn {h : Nat} : ∀ {c : Code} {fr : PT IV} {S : IS} {ds : List Nat} {kk : CRes -> Option R}, okC nm st hd c (some h) = true ->
   qak P tt nm B nt clK lf none c fr S ds kk = bd (inorm nt (nm h) B fr S ds) fun x => qap P tt nm B nt clK lf h c [] x kk
 | .region id ops draw, fr, S, ds, kk, hc => by
   simp only [okC, Bool.and_eq_true] at hc
   obtain rfl := Nat.eq_of_beq_eq_true hc.1
   show bd (inorm nt (nm id) B fr S ds) (fun x => regKB P tt nm B nt clK ops.toList draw x kk) = _
   simp only [qap, Nat.beq_refl, cond_true]
 | .seq a b, fr, S, ds, kk, hc => by
   simp only [okC, Bool.and_eq_true] at hc
   simp only [qak, qap, qhv.2 (qhi hc.1).2.2.2, cond_true]
   exact qjn (c := a) hc.1
 | .cond _ a b, fr, S, ds, kk, hc => by simp [okC] at hc
 | .block _ c, fr, S, ds, kk, hc => qjn (c := c) hc
 | .scope c, fr, S, ds, kk, hc => qjn (c := c) hc
 | .loop c, fr, S, ds, kk, hc => by simp [okC] at hc
 | .skip, fr, S, ds, kk, hc => by simp [okC] at hc
 | .label _, fr, S, ds, kk, hc => by simp [okC] at hc
 | .exit _, fr, S, ds, kk, hc => by simp [okC] at hc
 | .goto _, fr, S, ds, kk, hc => by simp [okC] at hc
 | .ret, fr, S, ds, kk, hc => by simp [okC] at hc
 | .refuse _, fr, S, ds, kk, hc => by simp [okC] at hc
 | .rangeFunc .., fr, S, ds, kk, hc => by simp [okC] at hc
def qbm (P : Program) (tt : Nat -> Option TI) (nm : Nat -> Option Nm) (B : Nat) (nt : Nat) (clK : ClK R) (lf : Nat) (hd : Nat -> Bool) (k : Nat) (c : Code) (ns : List Nat) (x : NRes) (kk : CRes -> Option R) : Option R := match dn (hd k) ns with
 | none => none
 | some ns' => qap P tt nm B nt clK lf k c ns' x kk
def JeqB (P : Program) (tt : Nat -> Option TI) (nm : Nat -> Option Nm) (B : Nat) (nt : Nat) (clK : ClK R) (lf : Nat) (st hd : Nat -> Bool) (J : Nat -> List Nat -> NRes -> Option R) (c : Code) (ps : List Nat) (k' : CRes -> Option R) : Prop :=
 ∀ k ns x, k ∈ regs c -> st k = true -> (hd k = true -> ns ≠ []) -> J k (ps ++ ns) x = qbm P tt nm B nt clK lf hd k c ns x k'
theorem qwq {k : Nat} {a b : Code} (n3 : ∀ x ∈ regs a, ∀ y ∈ regs b, x ≠ y) (hi : k ∈ regs b) : hasR k a = false := by
 cases hb : hasR k a with
 | false => rfl
 | true => exact absurd rfl (n3 k (qhv.1 hb) k hi)
theorem JeqB.fst {a b : Code} {ps : List Nat} {k' : CRes -> Option R} (hJ : JeqB P tt nm B nt clK lf st hd J (.seq a b) ps k') : JeqB P tt nm B nt clK lf st hd J a ps (fun r => match r.e with
   | .normal => qak P tt nm B nt clK lf none b r.fr r.S r.ds fun q => k' (q.or r.rd r.wr)
   | _ => k' r) := fun i ns x hi hs hn => by
 rw [hJ i ns x (by simp [regs, hi]) hs hn]
 simp only [qbm, qap, qhv.2 hi, cond_true]
 all_goals rfl
theorem JeqB.snd {a b : Code} {ps : List Nat} {k' : CRes -> Option R} (n3 : ∀ x ∈ regs a, ∀ y ∈ regs b, x ≠ y) (hJ : JeqB P tt nm B nt clK lf st hd J (.seq a b) ps k') : JeqB P tt nm B nt clK lf st hd J b ps k' := fun i ns x hi hs hn => by
 rw [hJ i ns x (by simp [regs, hi]) hs hn]
 simp only [qbm, qap, qwq n3 hi, cond_false]
theorem JeqB.cond1 {c : Operand} {a b : Code} {ps : List Nat} {k' : CRes -> Option R} (hJ : JeqB P tt nm B nt clK lf st hd J (.cond c a b) ps k') : JeqB P tt nm B nt clK lf st hd J a ps k' := fun i ns x hi hs hn => by
 rw [hJ i ns x (by simp [regs, hi]) hs hn]
 simp only [qbm, qap, qhv.2 hi, cond_true]
theorem JeqB.cond2 {c : Operand} {a b : Code} {ps : List Nat} {k' : CRes -> Option R} (n3 : ∀ x ∈ regs a, ∀ y ∈ regs b, x ≠ y) (hJ : JeqB P tt nm B nt clK lf st hd J (.cond c a b) ps k') : JeqB P tt nm B nt clK lf st hd J b ps k' := fun i ns x hi hs hn => by
 rw [hJ i ns x (by simp [regs, hi]) hs hn]
 simp only [qbm, qap, qwq n3 hi, cond_false]
theorem JeqB.body {c : Code} {ps : List Nat} {k' : CRes -> Option R} {m : Nat × Nat} (hm : loopM nm c = some m) (hJ : JeqB P tt nm B nt clK lf st hd J (.loop c) ps k') (n : Nat) : JeqB P tt nm B nt clK lf st hd J c (ps ++ [n]) (fun r => cond (subm r.rd m.1 && subm r.wr m.2) (match r.e with
       | .normal => qcn (qak P tt nm B nt clK lf none c) m.1 m.2 n r.fr r.S r.ds fun r => k' (mbR (mB nm B) r)
       | e => k' (mbR (mB nm B) ⟨e, r.fr, r.S, r.ds, m.1, m.2⟩)) none) := fun i ns x hi hs hn => by
 have := hJ i (n :: ns) x hi hs (fun _ => by simp)
 rw [show ps ++ (n :: ns) = (ps ++ [n]) ++ ns by simp] at this
 rw [this]
 simp only [qbm, dn_cons hn]
 cases dn (hd i) ns with
 | none => rfl
 | some ns' => simp only [qap, hm]; all_goals rfl
theorem qwx (hB0 : mB nm B = 0) (ops : List Oper) (draw : Bool) (x : NRes) (kk : CRes -> Option R) : regKB P tt nm B nt clK ops draw (nz x) kk = regKB P tt nm B nt clK ops draw x kk := by
 unfold regKB nz mbR
 rw [hB0]
 rfl
theorem qdb (hB0 : mB nm B = 0) {k : Nat} : ∀ (c : Code) (ns : List Nat) (x : NRes) (kk : CRes -> Option R), qap P tt nm B nt clK lf k c ns (nz x) kk = qap P tt nm B nt clK lf k c ns x kk
 | .region id ops draw, ns, x, kk => by simp only [qap, qwx hB0]
 | .seq a b, ns, x, kk => by
   simp only [qap]
   rw [qdb hB0 a, qdb hB0 b]
 | .cond c a b, ns, x, kk => by
   simp only [qap]
   rw [qdb hB0 a, qdb hB0 b]
 | .block id c, ns, x, kk => by simp only [qap]; rw [qdb hB0 c]
 | .scope c, ns, x, kk => by simp only [qap]; rw [qdb hB0 c]
 | .loop c, ns, x, kk => by
   cases ns with
   | nil => rfl
   | cons n ns =>
     simp only [qap]
     cases loopM nm c with
     | none => rfl
     | some m => simp only; rw [qdb hB0 c]
 | .skip, ns, x, kk => rfl
 | .label _, ns, x, kk => rfl
 | .exit _, ns, x, kk => rfl
 | .goto _, ns, x, kk => rfl
 | .ret, ns, x, kk => rfl
 | .refuse _, ns, x, kk => rfl
 | .rangeFunc .., ns, x, kk => rfl
theorem qt6 (hB0 : mB nm B = 0) {c : Code} {h : Nat} {ps : List Nat} {k' : CRes -> Option R} {m : Nat × Nat} (hc : okC nm st hd c (some h) = true) (hm : loopM nm c = some m) (hJ : JeqB P tt nm B nt clK lf st hd J (.loop c) ps k') (n : Nat) (fr : PT IV) (S : IS) (ds : List Nat) :
   qh0 nm B nt J c (ps ++ [n]) fr S ds = qcn (qak P tt nm B nt clK lf none c) m.1 m.2 n fr S ds fun r => k' (mbR (mB nm B) r) := by
 obtain ⟨h1, h2, h3, h4⟩ := qhi hc
 have e : ∀ x, J h (ps ++ [n]) (nz x) = qbm P tt nm B nt clK lf hd h (.loop c) [n] x k' := fun x => by
   rw [hJ h [n] (nz x) h4 h2 (fun _ => by simp)]
   unfold qbm
   cases dn (hd h) [n] with
   | none => rfl
   | some ns' => exact qdb hB0 _ _ _ _
 simp only [qh0, h1, e, qbm, h3, dn, cond_true]
 cases n with
 | zero =>
   simp only [dnL, qcn]
   cases inorm nt (nm h) B fr S ds <;> rfl
 | succ n =>
   simp only [dnL, qap, hm, qcn]
   rw [qjn hc]
   all_goals rfl
theorem qs1 {b : Code} {ps : List Nat} {k k' : CRes -> Option R} (ihb : ∀ fr S ds, qax P tt nm B nt clK lf st J b ps fr S ds k = qak P tt nm B nt clK lf none b fr S ds k') (hk : Keq k k') : Keq (fun r => match r.e with
   | .normal => qax P tt nm B nt clK lf st J b ps r.fr r.S r.ds k
   | _ => k r) (fun r => match r.e with
   | .normal => qak P tt nm B nt clK lf none b r.fr r.S r.ds fun q => k' (q.or r.rd r.wr)
   | _ => k' r) := fun r h1 h2 => by
 have e : (fun q : CRes => k' (q.or r.rd r.wr)) = k' := by funext q; rw [qx4 h1 h2]
 cases he : r.e <;> simp only [he] <;> first | exact hk r h1 h2 | (rw [e]; exact ihb _ _ _)
theorem qvc {id : Nat} {k k' : CRes -> Option R} (hk : Keq k k') : Keq (fun r => match r.e with
   | .exit id' => cond (Nat.beq id' id) (k ⟨.normal, r.fr, r.S, r.ds, r.rd, r.wr⟩) (k r)
   | _ => k r) (fun r => match r.e with
   | .exit id' => cond (Nat.beq id' id) (k' ⟨.normal, r.fr, r.S, r.ds, r.rd, r.wr⟩) (k' r)
   | _ => k' r) := fun r h1 h2 => by
 cases he : r.e <;> simp only [he] <;> first | exact hk r h1 h2 | skip
 rename_i id'
 cases Nat.beq id' id
 · exact hk r h1 h2
 · exact hk _ h1 h2
theorem qxd {k k' : CRes -> Option R} (hk : Keq k k') : Keq (fun r => match r.e with
   | .goto _ => none
   | _ => k r) (fun r => match r.e with
   | .goto _ => none
   | _ => k' r) := fun r h1 h2 => by
 cases he : r.e <;> simp only [he] <;> exact hk r h1 h2
theorem qui (hB0 : mB nm B = 0) (h : ClEq cl clK) : ∀ (c : Code) (ps : List Nat) (fr : PT IV) (S : IS) (ds : List Nat) (k k' : CRes -> Option R), (regs c).Nodup -> okC nm st hd c none = true -> JeqB P tt nm B nt clK lf st hd J c ps k' -> Keq k k' ->
   qax P tt nm B nt clK lf st J c ps fr S ds k = qak P tt nm B nt clK lf none c fr S ds k' := by
 intro c
 induction c with
 | skip => intro ps fr S ds k k' hn hl hJ hk; exact hk _ rfl rfl
 | label l => intro ps fr S ds k k' hn hl hJ hk; exact hk _ rfl rfl
 | exit id => intro ps fr S ds k k' hn hl hJ hk; exact hk _ rfl rfl
 | goto l => intro ps fr S ds k k' hn hl hJ hk; exact hk _ rfl rfl
 | ret => intro ps fr S ds k k' hn hl hJ hk; exact hk _ rfl rfl
 | refuse _ => intro ps fr S ds k k' hn hl hJ hk; rfl
 | region id ops draw =>
   intro ps fr S ds k k' hn hl hJ hk
   simp only [okC, Bool.not_eq_true'] at hl
   show bd (inorm nt (nm id) B fr S ds) (fun x => cond (st id) (J id ps (nz x)) (regKB P tt nm B nt clK ops.toList draw x k)) = bd (inorm nt (nm id) B fr S ds) (fun x => regKB P tt nm B nt clK ops.toList draw x k')
   cases inorm nt (nm id) B fr S ds with
   | none => rfl
   | some x =>
     simp only [bd]
     cases hs : st id with
     | true =>
       have := hJ id [] (nz x) (by simp [regs]) hs (fun h => by rw [hl] at h; cases h)
       rw [List.append_nil] at this
       rw [cond_true, this]
       simp only [qbm, hl, dn, cond_false, qap, Nat.beq_refl, cond_true]
       exact qwx hB0 _ _ _ _
     | false => rw [cond_false]; exact qtq hB0 h hk
 | seq a b iha ihb =>
   intro ps fr S ds k k' hn hl hJ hk
   simp only [regs, List.nodup_append] at hn
   obtain ⟨n1, n2, n3⟩ := hn
   simp only [okC, Bool.and_eq_true] at hl
   exact iha ps fr S ds _ _ n1 hl.1 hJ.fst (qs1 (fun fr S ds => ihb ps fr S ds k k' n2 hl.2 (hJ.snd n3) hk) hk)
 | cond c a b iha ihb =>
   intro ps fr S ds k k' hn hl hJ hk
   simp only [regs, List.nodup_append] at hn
   obtain ⟨n1, n2, n3⟩ := hn
   simp only [okC, Bool.and_eq_true] at hl
   simp only [qax, qak]
   cases evo nt fr c with
   | none => rfl
   | some v =>
     cases v <;> try rfl
     simp only
     rw [iha ps fr S ds k k' n1 hl.2.1 hJ.cond1 hk, ihb ps fr S ds k k' n2 hl.2.2 (hJ.cond2 n3) hk]
 | block id c ih =>
   intro ps fr S ds k k' hn hl hJ hk
   exact ih ps fr S ds _ _ hn hl (fun i ns x hi hs hne => hJ i ns x hi hs hne) (qvc hk)
 | scope c ih =>
   intro ps fr S ds k k' hn hl hJ hk
   exact ih ps fr S ds _ _ hn hl (fun i ns x hi hs hne => hJ i ns x hi hs hne) (qxd hk)
 | loop c ih =>
   intro ps fr S ds k k' hn hl hJ hk
   simp only [okC, Bool.and_eq_true, Option.isSome_iff_exists] at hl
   obtain ⟨_, ⟨m, hm⟩, hl⟩ := hl
   split at hl
   · rename_i i hi
     simp only [qax, qak, hm]
     exact qt6 hB0 hl hm hJ _ _ _ _
   · cases hl
 | rangeFunc g ps' assign body ih1 ih2 =>
   intro ps fr S ds k k' hn hl hJ hk
   show qak P tt nm B nt clK lf none (.rangeFunc g ps' assign body) fr S ds k = _
   rw [qcu h, qcu h]
   cases hq : icode P tt nm B nt cl lf none (.rangeFunc g ps' assign body) fr S ds with
   | none => rfl
   | some r =>
     simp only [icode] at hq
     obtain ⟨r0, _, rfl⟩ := qcp hq
     exact hk _ (mz hB0 _) (mz hB0 _)
theorem q05 (hB0 : mB nm B = 0) (h : ClEq cl clK) {i0 : Nat} : ∀ (c : Code) (o : Option Nat) (ps ns : List Nat) (x : NRes) (k k' : CRes -> Option R), (regs c).Nodup -> okC nm st hd c o = true -> JeqB P tt nm B nt clK lf st hd J c ps k' -> Keq k k' ->
   qa1 P tt nm B nt clK lf st J i0 c ps ns x k = qap P tt nm B nt clK lf i0 c ns x k' := by
 intro c
 induction c with
 | skip => intros; rfl
 | label l => intros; rfl
 | exit id => intros; rfl
 | goto l => intros; rfl
 | ret => intros; rfl
 | refuse _ => intros; rfl
 | region id ops draw =>
   intro o ps ns x k k' hn hl hJ hk
   simp only [qa1, qap]
   rw [qtq hB0 h hk]
 | seq a b iha ihb =>
   intro o ps ns x k k' hn hl hJ hk
   simp only [regs, List.nodup_append] at hn
   obtain ⟨n1, n2, n3⟩ := hn
   simp only [okC, Bool.and_eq_true] at hl
   simp only [qa1, qap]
   rw [ihb none ps ns x k k' n2 hl.2 (hJ.snd n3) hk]
   rw [iha o ps ns x _ _ n1 hl.1 hJ.fst (qs1 (fun fr S ds => qui hB0 h b ps fr S ds k k' n2 hl.2 (hJ.snd n3) hk) hk)]
   all_goals rfl
 | cond c a b iha ihb =>
   intro o ps ns x k k' hn hl hJ hk
   simp only [regs, List.nodup_append] at hn
   obtain ⟨n1, n2, n3⟩ := hn
   simp only [okC, Bool.and_eq_true] at hl
   simp only [qa1, qap]
   rw [iha none ps ns x k k' n1 hl.2.1 hJ.cond1 hk, ihb none ps ns x k k' n2 hl.2.2 (hJ.cond2 n3) hk]
 | block id c ih =>
   intro o ps ns x k k' hn hl hJ hk
   exact ih o ps ns x _ _ hn hl (fun i ns x hi hs hne => hJ i ns x hi hs hne) (qvc hk)
 | scope c ih =>
   intro o ps ns x k k' hn hl hJ hk
   exact ih o ps ns x _ _ hn hl (fun i ns x hi hs hne => hJ i ns x hi hs hne) (qxd hk)
 | loop c ih =>
   intro o ps ns x k k' hn hl hJ hk
   cases ns with
   | nil => rfl
   | cons n ns =>
   simp only [okC, Bool.and_eq_true, Option.isSome_iff_exists] at hl
   obtain ⟨_, ⟨m, hm⟩, hl⟩ := hl
   split at hl
   · rename_i i hi
     simp only [qa1, qap, hm]
     refine ih (some i) (ps ++ [n]) ns x _ _ hn hl (hJ.body hm n) (fun r h1 h2 => ?_)
     cases (subm r.rd m.1 && subm r.wr m.2) with
     | false => rfl
     | true =>
       simp only [cond_true]
       cases r.e <;> simp only <;> first | exact qt6 hB0 hl hm hJ _ _ _ _ | exact hk _ (mz hB0 _) (mz hB0 _)
   · cases hl
 | rangeFunc g ps' assign body ih1 ih2 => intros; rfl

def atNB (P : Program) (tt : Nat -> Option TI) (nm : Nat -> Option Nm) (B : Nat) (nt : Nat) (body : Code) (clK : ClK R) (lf : Nat) (hd : Nat -> Bool) (kk : CRes -> Option R) (k : Nat) (ns : List Nat) (x : NRes) : Option R :=
 qbm P tt nm B nt clK lf hd k body ns x kk
theorem qv3 (hB0 : mB nm B = 0) {body : Code} {kk : CRes -> Option R} (h : ClEq cl clK) (hn : (regs body).Nodup) (hl : okC nm st hd body none = true) (k : Nat) (ns ns' : List Nat) (hd' : dn (hd k) ns = some ns') (x : NRes) :
   atNB P tt nm B nt body clK lf hd kk k ns x = qa1 P tt nm B nt clK lf st (atNB P tt nm B nt body clK lf hd kk) k body [] ns' x kk := by
 unfold atNB
 simp only [qbm, hd']
 exact (q05 hB0 h body none [] ns' x _ _ hn hl (fun i ns x _ _ _ => rfl) (fun _ _ _ => rfl)).symm
theorem qr6 {body : Code} {kk : CRes -> Option R} (k : Nat) (ns : List Nat) (hd' : dn (hd k) ns = none) (x : NRes) : atNB P tt nm B nt body clK lf hd kk k ns x = none := by
 unfold atNB
 simp only [qbm, hd']
theorem qq9 (hB0 : mB nm B = 0) {body : Code} {kk : CRes -> Option R} (h : ClEq cl clK) (hn : (regs body).Nodup) (hl : okC nm st hd body none = true) (fr : PT IV) (S : IS) :
   qak P tt nm B nt clK lf none body fr S [] kk = qax P tt nm B nt clK lf st (atNB P tt nm B nt body clK lf hd kk) body [] fr S [] kk :=
 (qui hB0 h body [] fr S [] _ _ hn hl (fun i ns x _ _ _ => rfl) (fun _ _ _ => rfl)).symm
end
theorem mB_z (nm : Nat -> Option Nm) : mB nm 0 = 0 := by unfold mB; cases frzF nm <;> rfl
def qar {R : Type} (P : Program) (tt : Nat -> Option TI) (nm : Nat -> Option Nm) (nt : Nat) (cl : ClK R) (lf : Nat) (st : Nat -> Bool) (J : Nat -> List Nat -> NRes -> Option R) (c : Code) (ps : List Nat) : CdK R := qax P tt nm 0 nt cl lf st J c ps
def qbb {R : Type} (P : Program) (tt : Nat -> Option TI) (nm : Nat -> Option Nm) (nt : Nat) (cl : ClK R) (lf : Nat) (st : Nat -> Bool) (J : Nat -> List Nat -> NRes -> Option R) (k : Nat) (c : Code) (ps ns : List Nat) (x : NRes) (kk : CRes -> Option R) : Option R := qa1 P tt nm 0 nt cl lf st J k c ps ns x kk
section
variable {P : Program} {tt : Nat -> Option TI} {nm : Nat -> Option Nm} {lf : Nat} {st hd : Nat -> Bool} {cl : Cl}
def atN (P : Program) (tt : Nat -> Option TI) (nm : Nat -> Option Nm) (fi : FI) (s : Sm) (clK : ClK (ElR s.rts)) (lf : Nat) (hd : Nat -> Bool) (k : Nat) (ns : List Nat) (x : NRes) : Option (ElR s.rts) :=
 atNB P tt nm 0 fi.nt fi.body clK lf hd (lastK tt fi s) k ns x
theorem qaz {fi : FI} {s : Sm} {clK : ClK (ElR s.rts)} (h : ClEq cl clK) (hn : (regs fi.body).Nodup) (hl : okC nm st hd fi.body none = true) (k : Nat) (ns ns' : List Nat) (hd' : dn (hd k) ns = some ns') (x : NRes) :
   atN P tt nm fi s clK lf hd k ns x = qbb P tt nm fi.nt clK lf st (atN P tt nm fi s clK lf hd) k fi.body [] ns' x (lastK tt fi s) := qv3 (mB_z nm) h hn hl k ns ns' hd' x
theorem qa5 {fi : FI} {s : Sm} {clK : ClK (ElR s.rts)} (k : Nat) (ns : List Nat) (hd' : dn (hd k) ns = none) (x : NRes) : atN P tt nm fi s clK lf hd k ns x = none := qr6 k ns hd' x
theorem at_in {fi : FI} {s : Sm} {clK : ClK (ElR s.rts)} (h : ClEq cl clK) (hn : (regs fi.body).Nodup) (hl : okC nm st hd fi.body none = true) (fr : PT IV) :
   qak P tt nm 0 fi.nt clK lf none fi.body fr S0 [] (lastK tt fi s) = qar P tt nm fi.nt clK lf st (atN P tt nm fi s clK lf hd) fi.body [] fr S0 [] (lastK tt fi s) := qq9 (mB_z nm) h hn hl fr S0
end

def rounds {α R : Type} (T : (α -> Option R) -> α -> Option R) : Nat -> α -> Option R
 | 0, _ => none
 | n + 1, a => T (rounds T n) a
end Go.Jx
end

section
namespace Go.Jx
open Go Go.Sx Go.RowKit
universe u

def below (N : Nat) : Nat := 2 ^ N - 1
def ansB (m : Nat) (r : Res) : Option Bool := match r.v with
 | .bool b => cond (Nat.beq r.wr 0 && subm r.rd m) (some b) none
 | _ => none
def tup (ss : List Nat) (r : CRes) : IEx × List IV × IS × List Nat × Nat × Nat := (r.e, ss.map (slot r.fr), r.S, r.ds, r.rd, r.wr)
theorem qj4 (B : Nat) : mb B 0 = 0 := by unfold mb; cases Nat.beq B 0 <;> rfl
theorem qh4 (a : Nat) : Nat.lor a 0 = a := Nat.or_zero a
theorem qu6 (a : Nat) : Nat.lor 0 a = a := Nat.zero_or a
theorem qj8 {P : Program} {tt : Nat -> Option TI} {nm : Nat -> Option Nm} {B nt lf : Nat} {cl : Cl} {c : Code} {fr : PT IV} {S : IS} {ds : List Nat} {ss : List Nat} {y : IEx × List IV × IS × List Nat × Nat × Nat}
   (h : qak P tt nm B nt (fun t vs S kk => ob (cl t vs S) kk) lf none c fr S ds (fun r => some (tup ss r)) = some y) : ∃ r, icode P tt nm B nt cl lf none c fr S ds = some r /\ tup ss r = y := by
 rw [qcu (cl := cl) (fun _ _ _ _ => rfl)] at h
 cases hr : icode P tt nm B nt cl lf none c fr S ds with
 | none => rw [hr] at h; cases h
 | some r => rw [hr] at h; cases h; exact ⟨r, rfl, rfl⟩
theorem qwe {fr fr' : PT IV} : ∀ {l : List Nat} {r : PT IV}, (∀ t ∈ l, slot fr t = slot fr' t) -> keepO fr l r = keepO fr' l r
 | [], r, h => rfl
 | t :: l, r, h => by
   unfold keepO
   rw [h t List.mem_cons_self]
   exact qwe fun k hk => h k (List.mem_cons_of_mem _ hk)
theorem qit {P : Program} {tt : Nat -> Option TI} {nm : Nat -> Option Nm} {B nt lf : Nat} {cl : Cl} {m : Nm} {h : Nat} (hm : nm h = some m) (hf : m.fo = true) {fr fr' : PT IV} (hs : ∀ t ∈ m.keep, slot fr t = slot fr' t) :
   ∀ {c : Code} {S : IS} {ds : List Nat}, okC nm (fun k => Nat.beq k h) (fun k => Nat.beq k h) c (some h) = true -> icode P tt nm B nt cl lf none c fr S ds = icode P tt nm B nt cl lf none c fr' S ds
 | .region id ops draw, S, ds, hc => by
   simp only [okC, Bool.and_eq_true] at hc
   obtain rfl := Nat.eq_of_beq_eq_true hc.1
   simp only [icode, hm, inorm, hf, cond_true, qwe hs]
 | .seq a b, S, ds, hc => by
   simp only [okC, Bool.and_eq_true] at hc
   simp only [icode]
   rw [qit hm hf hs (c := a) hc.1]
 | .cond _ a b, S, ds, hc => by simp [okC] at hc
 | .block _ c, S, ds, hc => by
   simp only [icode]
   rw [qit hm hf hs (c := c) hc]
 | .scope c, S, ds, hc => by
   simp only [icode]
   rw [qit hm hf hs (c := c) hc]
 | .loop c, S, ds, hc => by simp [okC] at hc
 | .skip, S, ds, hc => by simp [okC] at hc
 | .label _, S, ds, hc => by simp [okC] at hc
 | .exit _, S, ds, hc => by simp [okC] at hc
 | .goto _, S, ds, hc => by simp [okC] at hc
 | .ret, S, ds, hc => by simp [okC] at hc
 | .refuse _, S, ds, hc => by simp [okC] at hc
 | .rangeFunc .., S, ds, hc => by simp [okC] at hc
def frA (c : TC) (l : List (El c)) (g : Nat) (caps : List IV) : PT IV := (argGo [.lst c l, .fn g caps] 0 .leaf).set (.int .i64 0) 4
variable {P : Program} {tt : Nat -> Option TI} {c : TC} {fi : FI} {A B L C : Code}
theorem q31 (a : Nat) : subm a a = true := by unfold subm; rw [Nat.or_self]; exact Nat.beq_refl a
theorem qtj (a : Nat) : subm 0 a = true := by unfold subm; rw [Nat.zero_or]; exact Nat.beq_refl a
theorem qnk {B0 a m : Nat} (h : subm a m = true) : subm (mb B0 a) m = true := by
 unfold mb
 cases Nat.beq B0 0
 · exact h
 · exact qtj m
theorem runK {nm : Nat -> Option Nm} {B nt lf : Nat} {cl : Cl} {c : Code} {fr : PT IV} {S : IS} {ds : List Nat} {y : CRes}
   (h : qak P tt nm B nt (fun t vs S kk => ob (cl t vs S) kk) lf none c fr S ds some = some y) : icode P tt nm B nt cl lf none c fr S ds = some y := by
 rw [qcu (cl := cl) (fun _ _ _ _ => rfl)] at h
 cases hr : icode P tt nm B nt cl lf none c fr S ds with
 | none => rw [hr] at h; cases h
 | some r => rw [hr] at h; cases h; rfl
theorem q0q {T : Nat -> Prop} {n a : Nat} (h : tin T (below n)) : tin T (a % 2 ^ n) := fun j hj => h j (by
 rw [Nat.testBit_mod_two_pow] at hj
 simp only [Bool.and_eq_true, decide_eq_true_eq] at hj
 unfold below
 rw [Nat.testBit_two_pow_sub_one]
 simpa using hj.1)
def cL : Code -> Code
 | .seq a _ => a
 | c => c
def cR : Code -> Code
 | .seq _ b => b
 | c => c
def cB : Code -> Code
 | .block _ c => c
 | .loop c => c
 | .scope c => c
 | c => c
end Go.Jx
end

section
namespace Go.Jx
open Go Go.Sx Go.RowKit
universe u

def smL : List (Nat × Sm) -> Nat -> Option Sm
 | [], _ => none
 | e :: l, f => cond (Nat.beq f e.1) (some e.2) (smL l f)
def SmOK (P : Program) : List (Nat × Sm) -> Prop
 | [] => True
 | e :: l => Con P e.1 e.2 /\ SmOK P l
theorem qce {P : Program} : ∀ {l : List (Nat × Sm)}, SmOK P l -> ∀ f s, smL l f = some s -> Con P f s
 | [], _, f, s, h => by cases h
 | e :: l, hl, f, s, h => by
   unfold smL at h
   cases hb : Nat.beq f e.1 with
   | true => rw [hb, cond_true] at h; cases h; rw [Nat.eq_of_beq_eq_true hb]; exact hl.1
   | false => rw [hb, cond_false] at h; exact qce hl.2 f s h
def hxL : List (Nat × Hx) -> Nat -> Option Hx
 | [], _ => none
 | e :: l, f => cond (Nat.beq f e.1) (some e.2) (hxL l f)
def HxsOK (P : Program) : List (Nat × Hx) -> Prop
 | [] => True
 | e :: l => HxOK P e.1 e.2.f /\ HxsOK P l
theorem qci {P : Program} : ∀ {l : List (Nat × Hx)}, HxsOK P l -> ∀ f s, hxL l f = some s -> HxOK P f s.f
 | [], _, f, s, h => by cases h
 | e :: l, hl, f, s, h => by
   unfold hxL at h
   cases hb : Nat.beq f e.1 with
   | true => rw [hb, cond_true] at h; cases h; rw [Nat.eq_of_beq_eq_true hb]; exact hl.1
   | false => rw [hb, cond_false] at h; exact qci hl.2 f s h
def nm1 (f : Nat) (nmf : Nat -> Option Nm) : Nat -> Nat -> Option Nm := fun g => cond (Nat.beq g f) nmf fun _ => none
theorem q4h (f : Nat) (nmf : Nat -> Option Nm) : nm1 f nmf f = nmf := by unfold nm1; rw [Nat.beq_refl, cond_true]
theorem conT {P : Program} {tt : Nat -> Option TI} {ft : Nat -> Option FI} {sml : List (Nat × Sm)} {hxl : List (Nat × Hx)} {f : Nat} {s : Sm} {fi : FI} {nmf : Nat -> Option Nm} {st hd : Nat -> Bool} (n : Nat) (hm : P.follows .mixedOrders = true) (htt : TT P tt) (hft : FT P ft) (hsm : SmOK P sml)
   (hhx : HxsOK P hxl) (hC : qag P f) (h1 : smL sml f = none) (h2 : hxL hxl f = none) (h3 : ft f = some fi) (h4 : ∀ x, Nat.ble (argV s.pts x).length fi.nt = true) (hn : (regs fi.body).Nodup) (hl : okC nmf st hd fi.body none = true)
   (hrun : ∀ (x : ElA s.pts) (y : ElR s.rts), WfA s.pts x -> s.f x = some y -> ∃ lf,
     qar P tt nmf fi.nt (qaj P tt ft (nm1 f nmf) (smL sml) (hxL hxl) lf n (ElR s.rts)) lf st (atN P tt nmf fi s (qaj P tt ft (nm1 f nmf) (smL sml) (hxL hxl) lf n (ElR s.rts)) lf hd) fi.body [] (argGo (argV s.pts x) 0 .leaf) S0 [] (lastK tt fi s) = some y) (hz : frzF nmf = false := by rfl) : Con P f s := by
 refine conK (nm := nm1 f nmf) (sm := smL sml) (hx := hxL hxl) hm htt hft (qce hsm) (qci hhx) hC fun x y hx2 hy => ?_
 obtain ⟨lf, hr⟩ := hrun x y hx2 hy
 refine ⟨n + 1, lf, ?_⟩
 rw [<- at_in (qal n _) hn hl] at hr
 have e := q4h f nmf
 unfold qaj
 simp only [h1, h2, h3, h4, cond_true, e, hz, cond_false]
 exact hr
def S.lit (l : List Nat) : ByteArray := ⟨⟨l.map UInt8.ofNat⟩⟩
end Go.Jx
end
