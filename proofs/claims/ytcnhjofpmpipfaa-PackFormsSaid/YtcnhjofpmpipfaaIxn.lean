/- The interpreter's run of code. -/
import Derived.Test.YtcnhjofpmpipfaaIxm
import Derived.RangeFuncLeaves
import Derived.RangeFuncNested
import Derived.Scope
set_option linter.unusedVariables false
namespace Go.Ix
open Go Go.Sx Go.RowKit
universe u

section
variable {F : Fence} {n : Nat} {P : Program} {Q : Exit → Act → World → Prop} {a : Act} {w : World}
theorem stepR_scope {b : Frame} {k : List Item} {cs : List Frame} {c : Code} : step P (lone (b.atR a (.code (.scope c) :: k)) cs w) = .next (lone (b.atR a (.code c :: .inScope c :: k)) cs w) :=
  step_lone_go (by simp [stepG, stepG.exec, Frame.atR])
theorem stepR_inScope {b : Frame} {k : List Item} {cs : List Frame} {c : Code} : step P (lone (b.atR a (.inScope c :: k)) cs w) = .next (lone (b.atR a k) cs w) :=
  step_lone_go (by simp [stepG, stepG.exec, Frame.atR])
theorem wpIn_scope {c : Code} (h : c.wpIn F n P (Exit.noGoto Q) a w) : (Code.scope c).wpIn F n P Q a w := by
  intro b k cs hro hb hr
  have h0 : (lone (b.atR a (.code (.scope c) :: k)) cs w).fenced P F := fenced_calm hb hr rfl
  obtain ⟨e, a₁, w₁, hq, harr⟩ := h b (.inScope c :: k) cs hro hb hr
  cases e with
  | normal => exact ⟨.normal, a₁, w₁, hq, .head h0 stepR_scope (StepsIn.trans harr (.one (fenced_calm hb hr rfl) stepR_inScope))⟩
  | exit id' =>
    have hx : exitTo id' (.inScope c :: k) = exitTo id' k := by simp [exitTo]
    exact ⟨.exit id', a₁, w₁, hq, fun k' hk => .head h0 stepR_scope (harr.1 k' (by rw [hx]; exact hk)),
      fun hr' hk => let ⟨k₁, h1, h2⟩ := harr.2 hr' (by rw [hx]; exact hk); ⟨k₁, h1, .head h0 stepR_scope h2⟩⟩
  | goto l => exact hq.elim
  | ret => exact ⟨_, a₁, w₁, hq, .of_steps (.one h0 stepR_scope) harr⟩
  | panic ch => exact ⟨_, a₁, w₁, hq, .of_steps (.one h0 stepR_scope) harr⟩
  | outgrown => exact ⟨_, a₁, w₁, hq, .of_steps (.one h0 stepR_scope) harr⟩
/-- A loop whose measure is a ghost. -/
theorem wpIn_loop_ghost {c : Code} (I : Nat → Act → World → Prop) (round : ∀ j a w, I (j + 1) a w → c.wpIn F n P (Exit.then (fun a' w' => I j a' w') Q) a w) (h0 : ∀ a w, ¬ I 0 a w) :
    ∀ j a w, I j a w → (Code.loop c).wpIn F n P Q a w := by
  intro j a w hI b k cs hro hb hr
  have key : ∀ j a w, I j a w → ∃ e a' w', Q e a' w' ∧ ArrivesIn (Machine.fenced P F) P (lone (b.atR a (.code c :: .inLoop c :: k)) cs w) b k cs e a' w' := by
    intro j
    induction j with
    | zero => intro a w hI; exact absurd hI (h0 a w)
    | succ j ih =>
      intro a w hI
      obtain ⟨e, a₁, w₁, hq, harr⟩ := round j a w hI b (.inLoop c :: k) cs hro hb hr
      cases e with
      | normal =>
        obtain ⟨e₂, a₂, w₂, hq₂, harr₂⟩ := ih a₁ w₁ hq
        exact ⟨e₂, a₂, w₂, hq₂, .of_steps (StepsIn.trans harr (.one (fenced_calm hb hr rfl) stepR_inLoop)) harr₂⟩
      | exit id => exact ⟨_, a₁, w₁, hq, .pass (x := .inLoop c) rfl (fun _ _ => .inl (by simp)) harr⟩
      | goto l => exact ⟨_, a₁, w₁, hq, .pass (x := .inLoop c) rfl (fun _ _ => .inl (by simp)) harr⟩
      | ret => exact ⟨_, a₁, w₁, hq, .pass (x := .inLoop c) rfl (fun _ _ => .inl (by simp)) harr⟩
      | panic ch => exact ⟨_, a₁, w₁, hq, .pass (x := .inLoop c) rfl (fun _ _ => .inl (by simp)) harr⟩
      | outgrown => exact ⟨_, a₁, w₁, hq, .pass (x := .inLoop c) rfl (fun _ _ => .inl (by simp)) harr⟩
  obtain ⟨e, a', w', hq, harr⟩ := key j a w hI
  exact ⟨e, a', w', hq, .of_steps (.one (fenced_calm hb hr rfl) stepR_loop) harr⟩
end

inductive IEx
  | normal
  | exit (id : Nat)
  | goto (l : Nat)
  | ret
def exOf : IEx → Exit
  | .normal => .normal
  | .exit id => .exit id
  | .goto l => .goto l
  | .ret => .ret
structure CRes : Type 1 where
  e : IEx
  fr : PT IV
  S : IS
  ds : List Nat
  rd : Nat
  wr : Nat
def CRes.or (r : CRes) (rd wr : Nat) : CRes := ⟨r.e, r.fr, r.S, r.ds, rd ||| r.rd, wr ||| r.wr⟩
def iiter (f : PT IV → IS → List Nat → Option CRes) : Nat → PT IV → IS → List Nat → Option CRes
  | 0, _, _, _ => none
  | n + 1, fr, S, ds => match f fr S ds with
    | none => none
    | some r => match r.e with
      | .normal => match iiter f n r.fr r.S r.ds with
        | none => none
        | some q => some (q.or r.rd r.wr)
      | _ => some r
def jumpOf : Code → Option IEx
  | .ret => some .ret
  | .exit id => some (.exit id)
  | .goto l => some (.goto l)
  | _ => none
/-- The call of the function that is ranged over; then the jump that a round has left. -/
def ifin (cl : Cl) (f : Nat) (caps : List IV) (S : IS) (id : Nat) (fr : PT IV) (ds : List Nat) (rd : Nat) : Option CRes :=
  match cl (.fn f) (.yield id :: caps) S with
  | none => none
  | some r => match r.S.heap.get id with
    | some (.loop st pend nt fr2 ps assign body D) => match st with
      | .busy => none
      | _ => match pend with
        | none => some ⟨.normal, fr, r.S.set id (.loop .exhausted pend nt fr2 ps assign body D), ds, rd ||| (r.rd ||| 2 ^ id), r.wr ||| 2 ^ id⟩
        | some c => match jumpOf c with
          | none => none
          | some e => some ⟨e, fr, r.S.set id (.loop .exhausted pend nt fr2 ps assign body D), ds, rd ||| (r.rd ||| 2 ^ id), r.wr ||| 2 ^ id⟩
    | _ => none
def icode (P : Program) (tt : Nat → Option TI) (nt : Nat) (cl : Cl) (lf : Nat) (round : Option Nat) : Code → PT IV → IS → List Nat → Option CRes
  | .skip, fr, S, ds => some ⟨.normal, fr, S, ds, 0, 0⟩
  | .label _, fr, S, ds => some ⟨.normal, fr, S, ds, 0, 0⟩
  | .exit id, fr, S, ds => some ⟨.exit id, fr, S, ds, 0, 0⟩
  | .goto l, fr, S, ds => some ⟨.goto l, fr, S, ds, 0, 0⟩
  | .ret, fr, S, ds => some ⟨.ret, fr, S, ds, 0, 0⟩
  | .refuse _, _, _, _ => none
  | .region _ ops draw, fr, S, ds => match cond draw (iany P tt nt cl ops.toList fr S) (iseq P tt nt cl ops.toList ops.toList fr S) with
    | none => none
    | some q => some ⟨.normal, q.fr, q.S, ds, q.rd, q.wr⟩
  | .seq x y, fr, S, ds => match icode P tt nt cl lf round x fr S ds with
    | none => none
    | some r => match r.e with
      | .normal => match icode P tt nt cl lf round y r.fr r.S r.ds with
        | none => none
        | some q => some (q.or r.rd r.wr)
      | _ => some r
  | .cond c x y, fr, S, ds => match evo nt fr c with
    | some (.bool b) => cond b (icode P tt nt cl lf round x fr S ds) (icode P tt nt cl lf round y fr S ds)
    | _ => none
  | .block id c, fr, S, ds => match icode P tt nt cl lf round c fr S ds with
    | none => none
    | some r => match r.e with
      | .exit id' => cond (Nat.beq id' id) (some ⟨.normal, r.fr, r.S, r.ds, r.rd, r.wr⟩) (some r)
      | _ => some r
  | .scope c, fr, S, ds => match icode P tt nt cl lf round c fr S ds with
    | none => none
    | some r => match r.e with
      | .goto _ => none
      | _ => some r
  | .loop c, fr, S, ds => iiter (icode P tt nt cl lf round c) lf fr S ds
  | .rangeFunc g ps assign body, fr, S, ds => match evo nt fr g with
    | some (.fn f caps) => match round with
      | none => ifin cl f caps ((S.new (.defs true)).new (.loop .ready none nt fr ps.toList assign body S.next)) (S.next + 1) fr (S.next :: ds) 0
      | some l => match S.heap.get l with
        | some (.loop _ _ _ _ _ _ _ D) => ifin cl f caps (S.new (.loop .ready none nt fr ps.toList assign body D)) S.next fr ds (2 ^ l)
        | _ => none
    | _ => none
/-- Every region that draws its order may be run. -/
def codeOK : Code → Bool
  | .region _ ops draw => !draw || regOK ops.toList
  | .seq x y => codeOK x && codeOK y
  | .cond _ x y => codeOK x && codeOK y
  | .block _ c => codeOK c
  | .scope c => codeOK c
  | .loop c => codeOK c
  | .rangeFunc _ _ x y => codeOK x && codeOK y
  | _ => true
def DS (E : Env) (ds : List Nat) (l : List Deferred) : Prop := l = ds.map (fun D => ({ target := .collected (E.ρ D), args := #[] } : Deferred)) ∧ ∀ D ∈ ds, E.A D
theorem DS.mono {E E' : Env} (e : E.Le E') {ds : List Nat} {l : List Deferred} (h : DS E ds l) : DS E' ds l :=
  ⟨by rw [h.1]; exact List.map_congr_left fun D hD => by rw [(e.alw D (h.2 D hD)).2.1], fun D hD => (e.alw D (h.2 D hD)).1⟩
def RD (E : Env) (F : Fence) : Option Nat → Prop
  | none => F.round = none
  | some l => F.round = some (E.ρ l) ∧ E.A l
theorem RD.mono {E E' : Env} (e : E.Le E') {F : Fence} {r : Option Nat} (h : RD E F r) : RD E' F r := by
  cases r with
  | none => exact h
  | some l => obtain ⟨a, b, _⟩ := e.alw l h.2; exact ⟨by rw [h.1, b], a⟩
section
variable {P : Program} {tt : Nat → Option TI} {T : TW} {nt lf : Nat} {cl : Cl} {F : Fence} {round : Option Nat}

theorem jump_wp {E : Env} {c : Code} {e : IEx} {a : Act} {w : World} {Q : Exit → Act → World → Prop} (h : jumpOf c = some e) (hQ : Q (exOf e) a w) : c.wpIn F 0 P Q a w := by
  cases c <;> try cases h
  · exact wpIn_exit hQ
  · exact wpIn_goto hQ
  · exact wpIn_ret hQ
theorem ifin_sound {Q : Exit → Act → World → Prop} {f : Nat} {caps : List IV} {S S0 : IS} {id : Nat} {fr : PT IV} {ds : List Nat} {rd : Nat} {r : CRes} {E E0 : Env} {us : List Value} {a : Act} {l : Nat} (hF : F.plain = Fence.wide) (hcl : ClOK P cl) (p0 : Pre T E0 S0) (p : Pre T E S) (hp : Post T E0 S0 E S) (hfr : Fresh E0 S0 E)
    (h : ifin cl f caps S id fr ds rd = some r) (hrd : tin T.r r.rd) (hwr : tin T.w r.wr) (hA : E.A id) (hl : E.ρ id = l) (hv : VRs E caps us)
    (hfn : Callable P f → True) (hQ : ∀ E', E.Le E' → Post T E0 S0 E' r.S → Fresh E0 S0 E' → Q (exOf r.e) a E'.w) (he : r.fr = fr ∧ r.ds = ds → True) :
    Callable P f ∧ CallsIn F 0 P f (#[.func (.yield l) #[] #[]] ++ us.toArray) E.w (rangePost F 0 P l Q a) := by
  unfold ifin at h
  split at h
  · cases h
  rename_i r1 hr1
  split at h <;> try cases h
  rename_i st pend nt2 fr2 ps assign body D hobj
  -- the common part
  have main : ∀ (r : CRes), st ≠ .busy → r.S = r1.S.set id (.loop .exhausted pend nt2 fr2 ps assign body D) → tin T.r (r1.rd ||| 2 ^ id) → tin T.w (r1.wr ||| 2 ^ id) → (∀ E', E.Le E' → Post T E0 S0 E' r.S → Fresh E0 S0 E' → (match pend with | none => Q .normal a E'.w | some c => c.wpIn F 0 P Q a E'.w)) →
      Callable P f ∧ CallsIn F 0 P f (#[.func (.yield l) #[] #[]] ++ us.toArray) E.w (rangePost F 0 P l Q a) := by
    intro r hst hrS hrd hwr hQ
    obtain ⟨t1, t2⟩ := tin_or hrd
    obtain ⟨t3, t4⟩ := tin_or hwr
    obtain ⟨hC, hcall⟩ := hcl.fn f _ S r1 hr1 T E (.func (.yield (E.ρ id)) #[] #[] :: us) p t1 t3 (VRs.cons (.yield hA) hv)
    refine ⟨hC, ?_⟩
    have e1 : (Value.func (.yield (E.ρ id)) #[] #[] :: us).toArray = #[.func (.yield l) #[] #[]] ++ us.toArray := by rw [hl]; simp
    rw [e1] at hcall
    refine (callsIn_of (m := 0) hF (callsIn_wide.1 hcall)).mono fun e w' hq => ?_
    obtain ⟨u, E1, rfl, rfl, k1, k2, k3⟩ := hq
    have p1 := k2.pre p
    have hle := k2.env p
    obtain ⟨a1, a2, a3⟩ := hle.alw id hA
    obtain ⟨fn, tmps, g1, g2, g3⟩ := p1.st.objs id (tin_bit t2) a1 _ hobj
    rw [a2, hl] at g1
    have hend := run_endLoop (P := P) g1 (by simpa using hst)
    have hlt := heap_lt g1
    have hL : Live r1.S.H id := ⟨_, hobj, rfl⟩
    obtain ⟨q1, q2⟩ := Post.write p1 (o' := .loop .exhausted pend nt2 fr2 ps assign body D) (tin_bit t4) a1 hL (w' := E1.w.putObj l (.loop { state := .exhausted, pending := pend, fn, tmps, params := ps.toArray, assign, body, defers := E1.ρ D })) (by rw [a2, hl]; exact Upd.putObj _ _ _)
      ⟨fn, tmps, by
        show _ = _
        rw [show (E1.at_ (E1.w.putObj l (.loop { state := .exhausted, pending := pend, fn, tmps, params := ps.toArray, assign, body, defers := E1.ρ D }))).ρ id = l from a2.trans hl]
        exact World.putObj_heap_same hlt, FR.mono (Env.at_le p1.st (tin_bit t4) a1 hL (by rw [a2, hl]; exact Upd.putObj _ _ _)) g2, g3⟩
    have hall := Post.trans p0 hp hfr (Post.trans p k2 k3 q1)
    have hfall := hfr.trans (k3.trans q2 k2.le) hp.le
    have hleall : E.Le _ := hle.trans (q1.env p1)
    refine ⟨pend, _, hend, ?_⟩
    have := hQ _ hleall (by rw [hrS]; exact hall) hfall
    cases pend with
    | none => exact this
    | some c => exact this
  split at h
  · cases h
  · rename_i hst
    cases pend with
    | none =>
      simp only at h
      cases h
      obtain ⟨_, t2⟩ := tin_or hrd
      exact main ⟨.normal, fr, r1.S.set id (.loop .exhausted none nt2 fr2 ps assign body D), ds, 0, 0⟩ (fun e => hst e) rfl t2 hwr hQ
    | some c =>
      simp only at h
      cases he2 : jumpOf c with
      | none => rw [he2] at h; cases h
      | some e =>
      rw [he2] at h
      cases h
      obtain ⟨_, t2⟩ := tin_or hrd
      exact main ⟨e, fr, r1.S.set id (.loop .exhausted (some c) nt2 fr2 ps assign body D), ds, 0, 0⟩ (fun e => hst e) rfl t2 hwr (fun E' k1 k2 k3 => jump_wp (E := E') he2 (hQ E' k1 k2 k3))
theorem callFunc_enter {f : Nat} (h : Callable P f) (args : Array Value) (w : World) : (callFunc f args).run P w = .ok (.enter f args) w := by
  obtain ⟨fn, hf, hb, hn⟩ := h
  have hb' : fn.body.isNone = false := by cases h : fn.body <;> simp [h] at hb ⊢
  simp only [callFunc, Sem.run_bind, run_program, Result.andThen_ok, hf, hb', hn, Bool.false_eq_true, if_false, Sem.run_pure]
theorem icode_sound (hm : P.follows .mixedOrders = true) (hF : F.plain = Fence.wide) (hcl : ClOK P cl) (hfr : ClFr cl) (htt : TT P tt) : ∀ (c : Code), codeOK c = true → ∀ {fr : PT IV} {S : IS} {ds : List Nat} {E : Env} {a : Act} {r : CRes} {Q : Exit → Act → World → Prop},
    Pre T E S → FR E nt fr a.tmps → DS E ds a.defers → RD E F round → icode P tt nt cl lf round c fr S ds = some r → tin T.r r.rd → tin T.w r.wr →
    (∀ E' a', FR E' nt r.fr a'.tmps → DS E' r.ds a'.defers → Post T E S E' r.S → Fresh E S E' → Q (exOf r.e) a' E'.w) → c.wpIn F 0 P Q a E.w := by
  intro c
  induction c with
  | skip => intro hok fr S ds E a r Q p hf hd hrd h t1 t2 hQ; cases h; exact wpIn_skip (hQ E a hf hd (Post.refl p) (Fresh.refl E S))
  | label l => intro hok fr S ds E a r Q p hf hd hrd h t1 t2 hQ; cases h; exact wpIn_label (hQ E a hf hd (Post.refl p) (Fresh.refl E S))
  | exit id => intro hok fr S ds E a r Q p hf hd hrd h t1 t2 hQ; cases h; exact wpIn_exit (hQ E a hf hd (Post.refl p) (Fresh.refl E S))
  | goto l => intro hok fr S ds E a r Q p hf hd hrd h t1 t2 hQ; cases h; exact wpIn_goto (hQ E a hf hd (Post.refl p) (Fresh.refl E S))
  | ret => intro hok fr S ds E a r Q p hf hd hrd h t1 t2 hQ; cases h; exact wpIn_ret (hQ E a hf hd (Post.refl p) (Fresh.refl E S))
  | refuse _ => intro hok fr S ds E a r Q p hf hd hrd h t1 t2 hQ; cases h
  | region id ops draw =>
    intro hok fr S ds E a r Q p hf hd hrd h t1 t2 hQ
    simp only [icode] at h
    have hcont : ∀ (q : FRes), r = ⟨.normal, q.fr, q.S, ds, q.rd, q.wr⟩ → ∀ E' a', FR E' nt q.fr a'.tmps → a'.defers = a.defers → Post T E S E' q.S → Fresh E S E' → Q .normal a' E'.w := by
      rintro q rfl E' a' k1 k2 k3 k4
      exact hQ E' a' k1 (by rw [k2]; exact hd.mono (k3.env p)) k3 k4
    split at h <;> cases h
    rename_i q hq
    cases draw with
    | true =>
      rw [cond_true] at hq
      have := iany_sound (rid := id) (Q := Q) hm hF hcl hfr htt (by simpa [codeOK] using hok) p hf hq t1 t2 (hcont q rfl)
      simpa using this
    | false =>
      rw [cond_false] at hq
      refine wpIn_region_list ?_
      have := iseq_sound (Q := Q) (ops := ops.toList) hF hcl htt ops.toList fr S E a q p hf hq t1 t2 (hcont q rfl)
      simpa using this
  | seq x y ihx ihy =>
    intro hok fr S ds E a r Q p hf hd hrd h t1 t2 hQ
    simp only [codeOK, Bool.and_eq_true] at hok
    simp only [icode] at h
    split at h
    · cases h
    rename_i r1 hr1
    split at h
    · rename_i he
      split at h <;> cases h
      rename_i q hq
      obtain ⟨u1, u2⟩ := tin_or t1
      obtain ⟨u3, u4⟩ := tin_or t2
      refine wpIn_seq (ihx hok.1 p hf hd hrd hr1 u1 u3 fun E' a' k1 k2 k3 k4 => ?_)
      rw [he]
      exact ihy hok.2 (k3.pre p) k1 k2 (hrd.mono (k3.env p)) hq u2 u4 fun E'' a'' m1 m2 m3 m4 => hQ E'' a'' m1 m2 (Post.trans p k3 k4 m3) (k4.trans m4 k3.le)
    · rename_i hne
      cases h
      refine wpIn_seq (ihx hok.1 p hf hd hrd hr1 t1 t2 fun E' a' k1 k2 k3 k4 => ?_)
      have := hQ E' a' k1 k2 k3 k4
      cases he : r.e with
      | normal => exact absurd he hne
      | _ => rw [he] at this; exact this
  | cond c x y ihx ihy =>
    intro hok fr S ds E a r Q p hf hd hrd h t1 t2 hQ
    simp only [codeOK, Bool.and_eq_true] at hok
    simp only [icode] at h
    split at h <;> try cases h
    rename_i b hb
    have hv := evo_sound hf hb
    generalize he : a.eval c = e at hv
    cases hv
    cases b with
    | true => exact wpIn_cond_true he (ihx hok.1 p hf hd hrd h t1 t2 hQ)
    | false => exact wpIn_cond_false he (ihy hok.2 p hf hd hrd h t1 t2 hQ)
  | block id c ih =>
    intro hok fr S ds E a r Q p hf hd hrd h t1 t2 hQ
    simp only [icode] at h
    split at h
    · cases h
    rename_i r1 hr1
    split at h
    · rename_i id' he
      cases hid : Nat.beq id' id with
      | true =>
        rw [hid, cond_true] at h
        cases h
        have hid := Nat.eq_of_beq_eq_true hid
        refine wpIn_block (ih hok p hf hd hrd hr1 t1 t2 fun E' a' k1 k2 k3 k4 => ?_)
        rw [he]
        simp only [exOf, Exit.inBlock, hid, if_true]
        exact hQ E' a' k1 k2 k3 k4
      | false =>
        rw [hid, cond_false] at h
        cases h
        have hid : ¬ id' = id := fun e => by rw [beq_t e] at hid; cases hid
        refine wpIn_block (ih hok p hf hd hrd hr1 t1 t2 fun E' a' k1 k2 k3 k4 => ?_)
        have := hQ E' a' k1 k2 k3 k4
        rw [he] at this ⊢
        simp only [exOf, Exit.inBlock, hid, if_false]
        exact this
    · rename_i hne
      cases h
      refine wpIn_block (ih hok p hf hd hrd hr1 t1 t2 fun E' a' k1 k2 k3 k4 => ?_)
      have := hQ E' a' k1 k2 k3 k4
      cases he : r.e with
      | exit id' => exact absurd he (hne id')
      | _ => rw [he] at this; exact this
  | scope c ih =>
    intro hok fr S ds E a r Q p hf hd hrd h t1 t2 hQ
    simp only [icode] at h
    split at h
    · cases h
    rename_i r1 hr1
    split at h
    · cases h
    · rename_i hne
      cases h
      refine wpIn_scope (ih hok p hf hd hrd hr1 t1 t2 fun E' a' k1 k2 k3 k4 => ?_)
      have := hQ E' a' k1 k2 k3 k4
      cases he : r.e with
      | goto l => exact absurd he (hne l)
      | _ => rw [he] at this; exact this
  | loop c ih =>
    intro hok fr S ds E a r Q p hf hd hrd h t1 t2 hQ
    simp only [icode] at h
    refine wpIn_loop_ghost (fun j a w => ∃ (fr : PT IV) (S1 : IS) (ds : List Nat) (E1 : Env) (r : CRes), iiter (icode P tt nt cl lf round c) j fr S1 ds = some r ∧ Pre T E1 S1 ∧ FR E1 nt fr a.tmps ∧ DS E1 ds a.defers ∧ RD E1 F round ∧ tin T.r r.rd ∧ tin T.w r.wr ∧ E1.w = w ∧
      (∀ E' a', FR E' nt r.fr a'.tmps → DS E' r.ds a'.defers → Post T E1 S1 E' r.S → Fresh E1 S1 E' → Q (exOf r.e) a' E'.w)) ?_ (fun a w hI => by obtain ⟨_, _, _, _, _, h, _⟩ := hI; cases h) lf a E.w ⟨fr, S, ds, E, r, h, p, hf, hd, hrd, t1, t2, rfl, hQ⟩
    rintro j a w ⟨fr, S1, ds, E1, r, h, p, hf, hd, hrd, t1, t2, rfl, hQ⟩
    unfold iiter at h
    split at h
    · cases h
    rename_i r1 hr1
    split at h
    · rename_i he
      split at h <;> cases h
      rename_i q hq
      obtain ⟨u1, u2⟩ := tin_or t1
      obtain ⟨u3, u4⟩ := tin_or t2
      refine ih hok p hf hd hrd hr1 u1 u3 fun E' a' k1 k2 k3 k4 => ?_
      rw [he]
      exact ⟨_, _, _, E', q, hq, k3.pre p, k1, k2, hrd.mono (k3.env p), u2, u4, rfl, fun E'' a'' m1 m2 m3 m4 => hQ E'' a'' m1 m2 (Post.trans p k3 k4 m3) (k4.trans m4 k3.le)⟩
    · rename_i hne
      cases h
      refine ih hok p hf hd hrd hr1 t1 t2 fun E' a' k1 k2 k3 k4 => ?_
      have := hQ E' a' k1 k2 k3 k4
      cases he : r.e with
      | normal => exact absurd he hne
      | _ => rw [he] at this; exact this
  | rangeFunc g ps assign body ih1 ih2 =>
    intro hok fr S ds E a r Q p hf hd hrd h t1 t2 hQ
    simp only [icode] at h
    split at h <;> try cases h
    rename_i f caps hg
    have hv := evo_sound hf hg
    generalize he : a.eval g = eg at hv
    cases hv with
    | fn hl hh =>
    rename_i us
    have hcaps : VRs E caps us := ⟨hl, hh⟩
    have hres : ∀ (l : Nat) (w : World), (resolve a.eval (rangeCall g l) 0).run P w = .ok { target := .fn (.func f) us.toArray, args := #[.func (.yield l) #[] #[]] } w := fun l w => by
      simp only [resolve, he]
      simp [go_sem, Deferred.ofValue, Act.eval]
    have hinv : Callable P f → ∀ (l : Nat) (w : World), (invoke (.fn (.func f) us.toArray) #[.func (.yield l) #[] #[]]).run P w = .ok (.enter f (#[.func (.yield l) #[] #[]] ++ us.toArray)) w := fun hC l w => by
      simp only [invoke]; exact callFunc_enter hC _ w
    have hdep : ∀ {x}, F.depth.isSome = true → x := fun h0 => by rw [depth_of hF] at h0; cases h0
    split at h
    · -- an outermost loop
      have hround : F.round = none := hrd
      refine wpIn_rangeFunc fun fn hfn => ?_
      obtain ⟨q1, q2⟩ := Post.new p (k := 0) (o := .defs true) (w' := E.w.alloc (.deferred (some []))) (Upd.alloc _ _) (by simp) (by
        show _ = _
        simp only [Env.with_, up_self]; exact World.alloc_heap_new E.w _)
      have p1 := q1.pre p
      have hρ1 : (E.with_ S.next 0 (E.w.alloc (.deferred (some [])))).ρ S.next = E.w.heap.size := up_self _ _ _
      have hA1 : (E.with_ S.next 0 (E.w.alloc (.deferred (some [])))).A S.next := Or.inr rfl
      obtain ⟨E1, hE1⟩ : ∃ E1, E.with_ S.next 0 (E.w.alloc (.deferred (some []))) = E1 := ⟨_, rfl⟩
      rw [hE1] at q1 q2 p1 hρ1 hA1
      have hw1 : E1.w = E.w.alloc (.deferred (some [])) := by rw [← hE1]; rfl
      have hne : ¬ E1.A (S.next + 1) := fun h => Nat.lt_irrefl _ (p1.bnd _ h)
      obtain ⟨W2, hW2⟩ : ∃ W2, E1.w.alloc (.loop { state := .ready, pending := none, fn, tmps := a.tmps, params := ps, assign, body, defers := E.w.heap.size }) = W2 := ⟨_, rfl⟩
      have u2 : Upd [] E1.w W2 := by rw [← hW2]; exact Upd.alloc _ _
      have hle2 := Env.with_le (k := 0) hne u2
      obtain ⟨q3, q4⟩ := Post.new p1 (k := 0) (o := .loop .ready none nt fr ps.toList assign body S.next) (w' := W2) u2 (by rw [← hW2]; simp) ⟨fn, a.tmps, by
          rw [show (E1.with_ (S.new (.defs true)).next 0 W2).ρ (S.new (.defs true)).next = E1.w.heap.size from up_self _ _ _]
          show W2.heap[E1.w.heap.size]? = _
          rw [show W2.heap[E1.w.heap.size]? = some (.loop { state := .ready, pending := none, fn, tmps := a.tmps, params := ps, assign, body, defers := E.w.heap.size }) from by rw [← hW2]; exact World.alloc_heap_new _ _]
          rw [show (E1.with_ (S.new (.defs true)).next 0 W2).ρ S.next = E.w.heap.size from ((hle2.alw _ hA1).2.1).trans hρ1], (hf.mono (q1.env p)).mono hle2, (hle2.alw _ hA1).1⟩
      have p2 := q3.pre p1
      have q5 := Post.trans p q1 q2 q3
      have q6 := q2.trans q4 q1.le
      obtain ⟨E2, hE2⟩ : ∃ E2, E1.with_ (S.new (.defs true)).next 0 W2 = E2 := ⟨_, rfl⟩
      have hρ2 : E2.ρ (S.next + 1) = E.w.heap.size + 1 := by
        rw [← hE2]
        have : (E1.with_ (S.new (.defs true)).next 0 W2).ρ (S.next + 1) = E1.w.heap.size := up_self _ _ _
        rw [this, hw1]; simp
      have hA2 : E2.A (S.next + 1) := by rw [← hE2]; exact Or.inr rfl
      have hρD : E2.ρ S.next = E.w.heap.size := by rw [← hE2]; exact ((hle2.alw _ hA1).2.1).trans hρ1
      have hAD : E2.A S.next := by rw [← hE2]; exact (hle2.alw _ hA1).1
      rw [hE2] at q3 q4 p2 q5 q6
      have hw2 : E2.w = W2 := by rw [← hE2]; rfl
      have hc2 : VRs E2 caps us := hcaps.mono (q5.env p)
      have hfin := ifin_sound (Q := Q) (a := { a with defers := [({ target := .collected E.w.heap.size, args := #[] } : Deferred)] ++ a.defers }) (l := E.w.heap.size + 1) hF hcl p p2 q5 q6 h t1 t2 hA2 hρ2 hc2 (fun _ => trivial) (fun E' k1 k2 k3 => by
        have hrf : r.fr = fr ∧ r.ds = S.next :: ds := by
          unfold ifin at h
          split at h
          · cases h
          split at h <;> try cases h
          split at h
          · cases h
          · split at h
            · cases h; exact ⟨rfl, rfl⟩
            · split at h <;> cases h; exact ⟨rfl, rfl⟩
        refine hQ E' _ (by rw [hrf.1]; exact hf.mono (k2.env p)) ?_ k2 k3
        rw [hrf.2]
        have hd' := hd.mono (k2.env p)
        obtain ⟨b1, b2, _⟩ := k1.alw _ hAD
        refine ⟨?_, fun D hD => ?_⟩
        · simp only [List.map_cons, List.singleton_append, b2, hρD, hd'.1]
        · rcases List.mem_cons.1 hD with h | h
          · rw [h]; exact b1
          · exact hd'.2 D h) (fun _ => trivial)
      refine ⟨E.w.heap.size + 1, [{ target := .collected E.w.heap.size, args := #[] }], W2, _, W2, f, _, W2, ?_, hres _ _, fun _ _ => fn_of hF _, hinv hfin.1 _ _, hdep, ?_⟩
      · rw [hround]
        have := run_enterLoop_outer (P := P) (w := E.w) fn a.tmps ps assign body
        rw [this, ← hW2, hw1]
      · have := hfin.2
        rw [hw2] at this
        exact this
    · -- within a round
      rename_i l0
      split at h <;> try cases h
      rename_i st0 pd0 nt0 fr0 ps0 as0 bd0 D hobj
      have hround : F.round = some (E.ρ l0) := hrd.1
      have hA0 := hrd.2
      have hrd0 : tin T.r (2 ^ l0) := by
        unfold ifin at h
        split at h
        · cases h
        split at h <;> try cases h
        split at h
        · cases h
        · split at h
          · cases h; exact (tin_or t1).1
          · split at h <;> cases h; exact (tin_or t1).1
      obtain ⟨fn0, tmps0, g1, g2, g3⟩ := p.st.objs l0 (tin_bit hrd0) hA0 _ hobj
      refine wpIn_rangeFunc fun fn hfn => ?_
      have hne : ¬ E.A S.next := fun h => Nat.lt_irrefl _ (p.bnd _ h)
      obtain ⟨W2, hW2⟩ : ∃ W2, E.w.alloc (.loop { state := .ready, pending := none, fn, tmps := a.tmps, params := ps, assign, body, defers := E.ρ D }) = W2 := ⟨_, rfl⟩
      have u2 : Upd [] E.w W2 := by rw [← hW2]; exact Upd.alloc _ _
      have hle2 := Env.with_le (k := 0) hne u2
      obtain ⟨q3, q4⟩ := Post.new p (k := 0) (o := .loop .ready none nt fr ps.toList assign body D) (w' := W2) u2 (by rw [← hW2]; simp) ⟨fn, a.tmps, by
          rw [show (E.with_ S.next 0 W2).ρ S.next = E.w.heap.size from up_self _ _ _]
          show W2.heap[E.w.heap.size]? = _
          rw [show W2.heap[E.w.heap.size]? = some (.loop { state := .ready, pending := none, fn, tmps := a.tmps, params := ps, assign, body, defers := E.ρ D }) from by rw [← hW2]; exact World.alloc_heap_new _ _]
          rw [show (E.with_ S.next 0 W2).ρ D = E.ρ D from (hle2.alw _ g3).2.1], hf.mono hle2, (hle2.alw _ g3).1⟩
      have p2 := q3.pre p
      obtain ⟨E2, hE2⟩ : ∃ E2, E.with_ S.next 0 W2 = E2 := ⟨_, rfl⟩
      have hρ2 : E2.ρ S.next = E.w.heap.size := by rw [← hE2]; exact up_self _ _ _
      have hA2 : E2.A S.next := by rw [← hE2]; exact Or.inr rfl
      rw [hE2] at q3 q4 p2
      have hw2 : E2.w = W2 := by rw [← hE2]; rfl
      have hc2 : VRs E2 caps us := hcaps.mono (q3.env p)
      have hfin := ifin_sound (Q := Q) (a := { a with defers := [] ++ a.defers }) (l := E.w.heap.size) hF hcl p p2 q3 q4 h t1 t2 hA2 hρ2 hc2 (fun _ => trivial) (fun E' k1 k2 k3 => by
        have hrf : r.fr = fr ∧ r.ds = ds := by
          unfold ifin at h
          split at h
          · cases h
          split at h <;> try cases h
          split at h
          · cases h
          · split at h
            · cases h; exact ⟨rfl, rfl⟩
            · split at h <;> cases h; exact ⟨rfl, rfl⟩
        refine hQ E' _ (by rw [hrf.1]; exact hf.mono (k2.env p)) ?_ k2 k3
        rw [hrf.2]
        exact hd.mono (k2.env p)) (fun _ => trivial)
      refine ⟨E.w.heap.size, [], W2, _, W2, f, _, W2, ?_, hres _ _, fun _ _ => fn_of hF _, hinv hfin.1 _ _, hdep, ?_⟩
      · rw [hround]
        have := run_enterLoop_inner (P := P) g1 fn a.tmps ps assign body
        rw [this, ← hW2]
      · have := hfin.2
        rw [hw2] at this
        exact this
end
end Go.Ix
