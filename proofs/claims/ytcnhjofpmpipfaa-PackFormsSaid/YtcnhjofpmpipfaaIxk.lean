/- A region that draws its order: all of it; the interpreter's own check. -/
import Derived.Test.YtcnhjofpmpipfaaIxj
set_option linter.unusedVariables false
namespace Go.Ix
open Go Go.Sx Go.RowKit
universe u
namespace Reg
section
variable {P : Program} {tt : Nat → Option TI} {nt : Nat} {cl : Cl} {ops : List Oper} {fr : Nat → PT IV} {S : Nat → IS} {v : Nat → IV} {rd wr : Nat → Nat} {run : Nat → Bool} {B : Nat → Nat} {Wr : Nat → Nat → Bool}
variable {F : Fence} {Q : Exit → Act → World → Prop} {T : TW} {E0 : Env}

theorem closed_of (R : Reg P tt nt cl ops fr S v rd wr run B Wr) {D : Nat → Bool} (hd : ∀ (i : Nat) (o : Oper), ops[i]? = some o → D i = true → ∀ e ∈ o.after, Region.binds .any e = true → D e.on = true) :
    ∀ i, i < ops.length → D i = true → ∀ k, (B i).testBit k = true → D k = true := by
  intro i
  induction i using Nat.strongRecOn with
  | _ i ih =>
    intro hi hD k hk
    have ho := List.getElem?_eq_getElem hi
    obtain ⟨e, e1, e2, e3⟩ := R.bef i _ k ho hk
    have hDe := hd i _ ho hD e e1 e2
    have hlt := R.back i _ ho e e1 e2
    rcases e3 with e3 | e3
    · rw [e3]; exact hDe
    · exact ih e.on hlt (by omega) hDe k e3
/-- All have been carried out. -/
theorem inv_end (R : Reg P tt nt cl ops fr S v rd wr run B Wr) {D : Nat → Bool} {E : Env} {a : Act} (I : Inv ops nt fr S Wr T E0 D E a) (hall : ∀ i, i < ops.length → D i = true) (hbnd : ∀ id, E0.A id → id < (S 0).next) :
    FR E nt (fr ops.length) a.tmps ∧ St T.r E (S ops.length).H ∧ Stp T.w E0 (S 0).H E (S ops.length).H ∧ (∀ id, E.A id → id < (S ops.length).next) ∧ Fresh E0 (S 0) E := by
  have hix : ∀ wt, ix D wt ops.length = ix (fun _ => true) wt ops.length := fun wt => ix_agree (fun i hi _ => hall i hi) _ (Nat.le_refl _) (fun i a b _ => absurd b (by omega))
  have hA : ∀ id, E.A id → id < (S ops.length).next := fun id h => by
    rcases I.ids id h with h | ⟨i, h1, h2, h3, h4⟩
    · exact Nat.lt_of_lt_of_le (hbnd id h) (R.mono_le (Nat.zero_le _) (Nat.le_refl _))
    · exact Nat.lt_of_lt_of_le h4 (R.mono_le h1 (Nat.le_refl _))
  have hH : ∀ id, id < (S ops.length).next → (S (ix D (fun i => Wr i id) ops.length)).H id = (S ops.length).H id := fun id h => by
    rw [hix]; exact (R.heap_at id _ (Nat.le_refl _) h).symm
  have hL : ∀ id, id < (S ops.length).next → Live (S ops.length).H id → Live (fun id => (S (ix D (fun i => Wr i id) ops.length)).H id) id := fun id h ⟨o, g1, g2⟩ => ⟨o, by simp only; rw [hH id h]; exact g1, g2⟩
  refine ⟨⟨I.size, fun t ht => ?_⟩, ⟨fun id hT ha o ho => ?_, fun id hT ha hl => I.own id hT ha (hL id (hA id ha) hl), fun i j a1 a2 a3 a4 a5 a6 a7 => I.inj i j a1 a2 a3 a4 (hL i (hA i a3) a5) (hL j (hA j a4) a6) a7, I.lo⟩, ?_, hA, ⟨fun id ha hn => ?_⟩⟩
  · have := (I.slots t ht).mono (E.bel_self _)
    rw [hix, ← R.slot_at t _ (Nat.le_refl _)] at this
    exact this
  · have := I.objs id hT ha
    rw [hH id (hA id ha)] at this
    exact (this o ho).of_bel
  · have h := I.stp
    exact ⟨h.os, h.tape, h.output, h.size, h.same, h.alw, fun id a1 a2 a3 => h.new id a1 a2 (hL id (hA id a1) a3), fun id a1 a2 a3 => h.old id a1 a2 (hL id (hA id (h.alw id a2).1) a3), h.memo, h.mem⟩
  · rcases I.ids id ha with h | ⟨i, h1, h2, h3, h4⟩
    · exact absurd h hn
    · exact Nat.le_trans (R.mono_le (Nat.zero_le _) (Nat.le_of_lt h1)) h3
theorem any_sound (R : Reg P tt nt cl ops fr S v rd wr run B Wr) (hF : F.plain = Fence.wide) (hcl : ClOK P cl) (htt : TT P tt) (hrd : ∀ j, j < ops.length → ∀ id, (rd j).testBit id = true → T.r id) (hwr : ∀ j, j < ops.length → ∀ id, (wr j).testBit id = true → T.w id)
    (hnw : ∀ id, (S 0).next ≤ id → T.w id) (hbnd : ∀ id, E0.A id → id < (S 0).next) {ds : List Deferred}
    (hQ : ∀ E a, FR E nt (fr ops.length) a.tmps → a.defers = ds → St T.r E (S ops.length).H → Stp T.w E0 (S 0).H E (S ops.length).H → (∀ id, E.A id → id < (S ops.length).next) → Fresh E0 (S 0) E → Q .normal a E.w) :
    ∀ (fuel : Nat) (rem : List Nat) (listed : Array Bool) (E : Env) (a : Act), rem.length = fuel → rem.Nodup → (∀ i, i ∈ rem ↔ i < ops.length ∧ listed.getD i false = false) → listed.size = ops.length →
      (∀ (i : Nat) (o : Oper), ops[i]? = some o → listed.getD i false = true → ∀ e ∈ o.after, Region.binds .any e = true → listed.getD e.on false = true) →
      Inv ops nt fr S Wr T E0 (fun i => listed.getD i false) E a → a.defers = ds → wpAnyIn F 0 P .any ops.toArray Q fuel listed a E.w := by
  have hdone : ∀ (listed : Array Bool) (E : Env) (a : Act), listed.size = ops.length → Region.ready .any ops.toArray listed = [] → Inv ops nt fr S Wr T E0 (fun i => listed.getD i false) E a → a.defers = ds → Q .normal a E.w := by
    intro listed E a hsz hready I hds
    have hall : ∀ i, i < ops.length → listed.getD i false = true := by
      intro i
      induction i using Nat.strongRecOn with
      | _ i ih =>
        intro hi
        cases hl : listed.getD i false with
        | true => rfl
        | false =>
          have hm : i ∈ Region.ready .any ops.toArray listed := by
            refine mem_ready.2 ⟨?_, _, by simp, fun e he hb => ih e.on (R.back i _ (List.getElem?_eq_getElem hi) e he hb) (Nat.lt_trans (R.back i _ (List.getElem?_eq_getElem hi) e he hb) hi)⟩
            exact getD_in (by rw [hsz]; exact hi) hl
          rw [hready] at hm; cases hm
    obtain ⟨h1, h2, h3, h4, h5⟩ := R.inv_end I hall hbnd
    exact hQ E a h1 hds h2 h3 h4 h5
  intro fuel
  induction fuel with
  | zero =>
    intro rem listed E a hlen hnd hrem hsz hdir I hds
    have hr : Region.ready .any ops.toArray listed = [] := by
      apply List.eq_nil_iff_forall_not_mem.2
      intro i hi
      obtain ⟨h1, o, h2, _⟩ := mem_ready.1 hi
      have hlt : i < ops.length := by
        rcases Nat.lt_or_ge i ops.length with h | h
        · exact h
        · rw [Array.getElem?_eq_none (by simpa using h)] at h2; cases h2
      have := (hrem i).2 ⟨hlt, getD_both h1⟩
      rw [List.eq_nil_of_length_eq_zero hlen] at this; cases this
    exact ⟨hr, hdone listed E a hsz hr I hds⟩
  | succ fuel ih =>
    intro rem listed E a hlen hnd hrem hsz hdir I hds
    refine ⟨fun hr => hdone listed E a hsz hr I hds, fun j hj => ?_⟩
    obtain ⟨h1, oj, h2, h3⟩ := mem_ready.1 hj
    have h2' : ops[j]? = some oj := by simpa using h2
    have hlt : j < ops.length := (List.getElem?_eq_some_iff.1 h2').1
    have hnl := getD_both h1
    have hcl2 := R.closed_of (D := fun i => listed.getD i false) hdir
    have N : Nx ops (fun i => listed.getD i false) B j := ⟨hlt, hnl, fun i hi => by
      obtain ⟨e, e1, e2, e3⟩ := R.bef j oj i h2' hi
      have hDe := h3 e e1 e2
      rcases e3 with e3 | e3
      · rw [e3]; exact hDe
      · exact hcl2 e.on (Nat.lt_trans (R.back j oj h2' e e1 e2) hlt) hDe i e3, hcl2⟩
    have hset : ∀ i, (listed.setIfInBounds j true).getD i false = true ↔ listed.getD i false = true ∨ i = j := fun i => by
      by_cases e : i = j
      · subst e
        constructor
        · intro _; exact .inr rfl
        · intro _; simp [hsz, hlt]
      · rw [getD_set_ne false (Ne.symm e)]
        exact ⟨.inl, fun h => h.resolve_right e⟩
    -- the rest, from whatever state that fits
    have hrest : ∀ E' a', Inv ops nt fr S Wr T E0 (fun i => (listed.setIfInBounds j true).getD i false) E' a' → a'.defers = ds → wpAnyIn F 0 P .any ops.toArray Q fuel (listed.setIfInBounds j true) a' E'.w := by
      intro E' a' I' hds'
      have hmem : j ∈ rem := (hrem j).2 ⟨hlt, hnl⟩
      refine ih (rem.erase j) _ E' a' (by rw [List.length_erase_of_mem hmem, hlen]; rfl) (hnd.erase j) (fun i => ?_) (by simp [hsz]) (fun i o ho hi e he hb => ?_) I' hds'
      · rw [hnd.mem_erase_iff, hrem i]
        constructor
        · rintro ⟨e, k1, k2⟩; exact ⟨k1, by rw [getD_set_ne false (Ne.symm e)]; exact k2⟩
        · rintro ⟨k1, k2⟩
          have e : i ≠ j := fun e => by
            have := (hset i).2 (.inr e)
            rw [this] at k2; cases k2
          exact ⟨e, k1, by rw [getD_set_ne false (Ne.symm e)] at k2; exact k2⟩
      · rw [hset]
        rcases (hset i).1 hi with h | h
        · exact .inl (hdir i o ho h e he hb)
        · subst h
          rw [h2'] at ho; cases ho
          exact .inl (h3 e he hb)
    have hput : ∀ u, (a.put oj.dst u).defers = ds := fun u => by rw [← hds]; cases oj.dst <;> rfl
    obtain ⟨s1, s2, s3, s4⟩ := R.step j oj h2'
    have hpre := R.pre_here N I h2' (hrd j hlt) (hwr j hlt)
    have hw := want_eq (E := E.bel (S j).next) (fr := fr j) (ops := ops) (o := oj) I.size (fun t ht hn => R.slots_here N I h2' (by
      unfold Oper.looksAt
      cases hg : oj.guard with
      | none => rw [hg] at ht; cases ht
      | some q =>
        obtain ⟨gi, gw⟩ := q
        rw [hg] at ht
        have : dstAt ops gi = some t := ht
        rw [dstAt_eq] at this
        refine List.mem_append_right _ ?_
        simp only [List.getElem?_toArray]
        rw [this]; simp) hn)
    unfold wpOpIn
    rw [h2]
    simp only
    rw [hw, ← s1]
    cases hrun : run j with
    | true =>
      rw [if_pos rfl]
      have hstep := s2 hrun
      refine istep_sound hF hcl htt hpre (a := a) (fun x hx v hv => ?_) hstep (fun id h => .inl h) (fun id h => .inl h) fun u E2 g1 g2 g3 => ?_
      · cases x with
        | tmp t =>
          simp only [evo] at hv
          cases hb : Nat.blt t nt with
          | false => rw [hb] at hv; cases hv
          | true =>
            rw [hb, cond_true] at hv; cases hv
            exact R.slots_here N I h2' (by
              unfold Oper.looksAt
              exact List.mem_append_left _ (List.mem_filterMap.2 ⟨.tmp t, hx, rfl⟩)) (by simpa using hb)
        | const c => exact ofV_sound _ hv
        | func f => cases hv; exact .fn (us := []) rfl (fun i h => by simp at h)
        | global g => cases hv
      · exact hrest (mrg E E2 (S j).next) _ (R.inv_next N I h2' (hrd j hlt) (hwr j hlt) hnw hbnd (D' := fun i => (listed.setIfInBounds j true).getD i false) hset g1 g2 g3) (hput u)
    | false =>
      rw [if_neg (by simp)]
      refine ⟨fun f _ => fn_of hF f, ?_⟩
      obtain ⟨e1, e2⟩ := s3 hrun
      have hp : Post (Tj (rd j) (wr j) (S j).next) (E.bel (S j).next) (S j) (E.bel (S j).next) (S (j + 1)) := by rw [e2]; exact Post.refl hpre
      exact hrest (mrg E (E.bel (S j).next) (S j).next) _ (R.inv_next N I h2' (hrd j hlt) (hwr j hlt) hnw hbnd (D' := fun i => (listed.setIfInBounds j true).getD i false) hset (u := undef) (by rw [e1]; exact .tup (us := []) rfl (fun i h => by simp at h)) hp (Fresh.refl _ _)) (hput undef)
/-- The start. -/
theorem inv_start (R : Reg P tt nt cl ops fr S v rd wr run B Wr) {a : Act} (p : Pre T E0 (S 0)) (hf : FR E0 nt (fr 0) a.tmps) : Inv ops nt fr S Wr T E0 (fun i => (Array.replicate ops.length false).getD i false) E0 a := by
  have h0 : ∀ wt n, ix (fun i => (Array.replicate ops.length false).getD i false) wt n = 0 := fun wt n => by
    induction n with
    | zero => rfl
    | succ n ih => rw [ix_miss (fun h => by
        have : (Array.replicate ops.length false).getD n false = false := getD_replicate_false _ _
        rw [this] at h; exact absurd h.1 (by simp)), ih]
  have hE : E0.Le (E0.bel (S 0).next) := ⟨fun id h => ⟨⟨h, p.bnd id h⟩, rfl, rfl⟩, Tr.refl _ _⟩
  have hL : ∀ id, Live (fun id => (S (ix (fun i => (Array.replicate ops.length false).getD i false) (fun i => Wr i id) ops.length)).H id) id → Live (S 0).H id := fun id ⟨o, g1, g2⟩ => ⟨o, by simp only at g1; rw [h0] at g1; exact g1, g2⟩
  refine ⟨fun id hT hA o ho => ?_, fun id hT hA hl => p.st.own id hT hA (hL id hl), fun i j a1 a2 a3 a4 a5 a6 a7 => p.st.inj i j a1 a2 a3 a4 (hL i a5) (hL j a6) a7, p.st.lo, fun id h => .inl h, ?_, hf.size, fun t ht => ?_⟩
  · rw [h0] at ho ⊢
    exact (p.st.objs id hT hA o ho).mv hE rfl rfl rfl
  · exact ⟨rfl, rfl, rfl, Nat.le_refl _, fun _ _ _ => rfl, fun _ h => ⟨h, rfl, rfl⟩, fun _ h k => absurd h k, fun id _ _ h => hL id h, fun _ h => .inl h, fun _ h => h⟩
  · rw [h0]
    exact (hf.get t ht).mono hE
end
end Reg
end Go.Ix
