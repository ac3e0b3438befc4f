/- A region that draws its order: one step; the whole. -/
import Derived.Test.YtcnhjofpmpipfaaIxi
set_option linter.unusedVariables false
namespace Go.Ix
open Go Go.Sx Go.RowKit
universe u
namespace Reg
section
variable {P : Program} {tt : Nat → Option TI} {nt : Nat} {cl : Cl} {ops : List Oper} {fr : Nat → PT IV} {S : Nat → IS} {v : Nat → IV} {rd wr : Nat → Nat} {run : Nat → Bool} {B : Nat → Nat} {Wr : Nat → Nat → Bool}
variable {F : Fence} {Q : Exit → Act → World → Prop} {T : TW} {E0 : Env}

/-- Two environments, the new ids taken from the second. -/
noncomputable def mrg (E E' : Env) (k : Nat) : Env :=
  { ρ := fun id => open Classical in if k ≤ id ∧ E'.A id then E'.ρ id else E.ρ id
    κ := fun id => open Classical in if k ≤ id ∧ E'.A id then E'.κ id else E.κ id
    A := fun id => E.A id ∨ (k ≤ id ∧ E'.A id)
    m := E'.m
    w := E'.w }
def Tj (rd wr k : Nat) : TW := ⟨fun id => rd.testBit id = true ∨ wr.testBit id = true ∨ k ≤ id, fun id => wr.testBit id = true ∨ k ≤ id, fun id h => .inr h⟩
theorem slots_here (R : Reg P tt nt cl ops fr S v rd wr run B Wr) {D : Nat → Bool} {j : Nat} {oj : Oper} {E : Env} {a : Act} (N : Nx ops D B j) (I : Inv ops nt fr S Wr T E0 D E a) (hj : ops[j]? = some oj) {t : Nat} (ht : t ∈ oj.looksAt ops.toArray) (hn : t < nt) :
    VR (E.bel (S j).next) (slot (fr j) t) (a.tmps.getD t undef) := by
  have h := (R.look_here N hj (.inl ht)).2
  have h1 := I.slots t hn
  rw [h, ← R.slot_at t j (Nat.le_of_lt N.lt)] at h1
  exact h1.mono (E.bel_mono (R.mono_le (ix_all_le _ _) (Nat.le_of_lt N.lt)))
/-- The state as the next operation finds it. -/
theorem pre_here (R : Reg P tt nt cl ops fr S v rd wr run B Wr) {D : Nat → Bool} {j : Nat} {oj : Oper} {E : Env} {a : Act} (N : Nx ops D B j) (I : Inv ops nt fr S Wr T E0 D E a) (hj : ops[j]? = some oj)
    (hrd : ∀ id, (rd j).testBit id = true → T.r id) (hwr : ∀ id, (wr j).testBit id = true → T.w id) : Pre (Tj (rd j) (wr j) (S j).next) (E.bel (S j).next) (S j) := by
  have hacc : ∀ id, (Tj (rd j) (wr j) (S j).next).r id → id < (S j).next → T.r id ∧ (S j).H id = (S (ix D (fun i => Wr i id) ops.length)).H id ∧ (S (ix D (fun i => Wr i id) ops.length)).next ≤ (S j).next := fun id h hlt => by
    have ht : (rd j).testBit id = true ∨ Wr j id = true := by
      rcases h with h | h | h
      · exact .inl h
      · exact .inr ((R.wrs j id N.lt).2 (.inl h))
      · omega
    have hT : T.r id := by
      rcases h with h | h | h
      · exact hrd id h
      · exact T.sub _ (hwr id h)
      · omega
    have e := (R.touch_here N hj ht).2
    rw [e]
    exact ⟨hT, R.heap_at id j (Nat.le_of_lt N.lt) hlt, R.mono_le (ix_all_le _ _) (Nat.le_of_lt N.lt)⟩
  have hlive : ∀ id, (Tj (rd j) (wr j) (S j).next).r id → id < (S j).next → Live (S j).H id → Live (fun id => (S (ix D (fun i => Wr i id) ops.length)).H id) id := fun id h hlt ⟨o, h1, h2⟩ => ⟨o, by rw [(hacc id h hlt).2.1] at h1; exact h1, h2⟩
  refine ⟨⟨fun id ht ha o ho => ?_, fun id ht ha hl => ?_, fun i k a1 a2 a3 a4 a5 a6 a7 => ?_, I.lo⟩, fun id h => h.2, fun id h => .inr h⟩
  · obtain ⟨k1, k2, k3⟩ := hacc id ht ha.2
    rw [k2] at ho
    exact (I.objs id k1 ha.1 o ho).bel k3
  · exact I.own id (hacc id ht ha.2).1 ha.1 (hlive id ht ha.2 hl)
  · exact I.inj i k (hacc i a1 a3.2).1 (hacc k a2 a4.2).1 a3.1 a4.1 (hlive i a1 a3.2 a5) (hlive k a2 a4.2 a6) a7
/-- What holds behind it. -/
theorem inv_next (R : Reg P tt nt cl ops fr S v rd wr run B Wr) {D D' : Nat → Bool} {j : Nat} {oj : Oper} {E E2 : Env} {a : Act} {u : Value} (N : Nx ops D B j) (I : Inv ops nt fr S Wr T E0 D E a) (hj : ops[j]? = some oj)
    (hrd : ∀ id, (rd j).testBit id = true → T.r id) (hwr : ∀ id, (wr j).testBit id = true → T.w id) (hnw : ∀ id, (S 0).next ≤ id → T.w id) (hbnd : ∀ id, E0.A id → id < (S 0).next) (hD : ∀ i, D' i = true ↔ D i = true ∨ i = j)
    (hv : VR E2 (v j) u) (k1 : Post (Tj (rd j) (wr j) (S j).next) (E.bel (S j).next) (S j) E2 (S (j + 1))) (k2 : Fresh (E.bel (S j).next) (S j) E2) :
    Inv ops nt fr S Wr T E0 D' (mrg E E2 (S j).next) (a.put oj.dst u) := by
  have hpre := R.pre_here N I hj hrd hwr
  have hle2 : (E.bel (S j).next).Le E2 := k1.stp.le hpre.st
  have hS0 : (S 0).next ≤ (S j).next := R.mono_le (Nat.zero_le _) (Nat.le_of_lt N.lt)
  have hjj := R.mono j N.lt
  -- old ids are not among the new ones
  have hnot : ∀ id, E.A id → (S j).next ≤ id → ¬ id < (S (j + 1)).next := fun id hA hge hlt => by
    rcases I.ids id hA with h | ⟨i, h1, h2, h3, h4⟩
    · have := hbnd id h; omega
    · have hij : i ≠ j := fun e => by rw [e, N.not] at h2; cases h2
      rcases Nat.lt_or_gt_of_ne hij with h | h
      · have := R.mono_le (i := i + 1) (j := j) h (Nat.le_of_lt N.lt); omega
      · have := R.mono_le (i := j + 1) (j := i) h (Nat.le_of_lt h1); omega
  have hold : ∀ id, E.A id → (mrg E E2 (S j).next).ρ id = E.ρ id ∧ (mrg E E2 (S j).next).κ id = E.κ id := fun id hA => by
    have : ¬ ((S j).next ≤ id ∧ E2.A id) := fun h => hnot id hA h.1 (k1.bnd id h.2)
    exact ⟨if_neg this, if_neg this⟩
  have hE : E.Le (mrg E E2 (S j).next) := ⟨fun id hA => ⟨.inl hA, (hold id hA).1, (hold id hA).2⟩, hle2.tr⟩
  have h2 : ∀ id, E2.A id → (mrg E E2 (S j).next).A id ∧ (mrg E E2 (S j).next).ρ id = E2.ρ id ∧ (mrg E E2 (S j).next).κ id = E2.κ id := fun id hA => by
    by_cases hge : (S j).next ≤ id
    · exact ⟨.inr ⟨hge, hA⟩, if_pos ⟨hge, hA⟩, if_pos ⟨hge, hA⟩⟩
    · have hb : (E.bel (S j).next).A id := Classical.byContradiction fun hn => hge (k2.fr id hA hn)
      obtain ⟨_, b2, b3⟩ := hle2.alw id hb
      exact ⟨.inl hb.1, by rw [b2]; exact if_neg fun h => hge h.1, by rw [b3]; exact if_neg fun h => hge h.1⟩
  have hE2 : E2.Le ((mrg E E2 (S j).next).bel (S (j + 1)).next) := ⟨fun id hA => let ⟨c1, c2, c3⟩ := h2 id hA; ⟨⟨c1, k1.bnd id hA⟩, c2, c3⟩, Tr.refl _ _⟩
  have hidx : ∀ id, (∀ i, j < i → i < ops.length → Wr i id = true → Wr j id = true → D i = false) := fun id i hi hl hw hwj => (R.touch_here N hj (.inr hwj)).1 i hi hl hw
  have hix : ∀ id, ix D' (fun i => Wr i id) ops.length = if Wr j id = true then j + 1 else ix D (fun i => Wr i id) ops.length := fun id => by
    rw [ix_set (j := j) hD ops.length (fun hw i hi hl hwi => hidx id i hi hl hwi hw)]
    by_cases h : Wr j id = true
    · rw [if_pos ⟨N.lt, h⟩, if_pos h]
    · rw [if_neg (fun h' => h h'.2), if_neg h]
  -- what is written lies among what the operation may write
  have hTw : ∀ id, Wr j id = true → (Tj (rd j) (wr j) (S j).next).w id := fun id h => by
    rcases (R.wrs j id N.lt).1 h with h | h
    · exact .inl h
    · exact .inr h.1
  have hWT : ∀ id, Wr j id = true → T.w id := fun id h => by
    rcases (R.wrs j id N.lt).1 h with h | h
    · exact hwr id h
    · exact hnw id (by omega)
  have hWA : ∀ id, Wr j id = true → (mrg E E2 (S j).next).A id → E2.A id := fun id h hA => by
    rcases hA with hA | hA
    · rcases (R.wrs j id N.lt).1 h with h | h
      · exact (hle2.alw id ⟨hA, R.small j N.lt id (.inr h)⟩).1
      · exact absurd h.2 (hnot id hA h.1)
    · exact hA.2
  have hnW : ∀ id, ¬ Wr j id = true → (mrg E E2 (S j).next).A id → E.A id := fun id h hA => by
    rcases hA with hA | hA
    · exact hA
    · exact absurd ((R.wrs j id N.lt).2 (.inr ⟨hA.1, k1.bnd id hA.2⟩)) h
  have hbit : ∀ id, (Tj (rd j) (wr j) (S j).next).w id → (E.bel (S j).next).A id → Wr j id = true := fun id h hA => by
    rcases h with h | h
    · exact (R.wrs j id N.lt).2 (.inl h)
    · have := hA.2; omega
  have hHD : ∀ id, Wr j id = true → id < (S j).next → (S j).H id = (S (ix D (fun i => Wr i id) ops.length)).H id := fun id h hlt => by
    rw [(R.touch_here N hj (.inr h)).2]; exact R.heap_at id j (Nat.le_of_lt N.lt) hlt
  -- blocks of what is not written stay
  have hsame : ∀ id, ¬ Wr j id = true → T.r id → E.A id → Live (fun id => (S (ix D (fun i => Wr i id) ops.length)).H id) id → E2.w.heap[E.ρ id]? = E.w.heap[E.ρ id]? := fun id hw hT hA hL => by
    refine k1.stp.same (E.ρ id) (I.lo _ (I.own id hT hA hL)) fun id' ht ha hl e => ?_
    have hw' := hbit id' ht ha
    have hL' : Live (fun id => (S (ix D (fun i => Wr i id) ops.length)).H id) id' := by
      obtain ⟨o, g1, g2⟩ := hl
      exact ⟨o, by rw [hHD id' hw' ha.2] at g1; exact g1, g2⟩
    have := I.inj id' id (T.sub _ (hWT id' hw')) hT ha.1 hA hL' hL e
    rw [this] at hw'; exact hw hw'
  have hlive : ∀ id, ¬ Wr j id = true → Live (fun id => (S (ix D' (fun i => Wr i id) ops.length)).H id) id → Live (fun id => (S (ix D (fun i => Wr i id) ops.length)).H id) id := fun id h ⟨o, g1, g2⟩ => ⟨o, by simp only at g1 ⊢; rw [hix id, if_neg h] at g1; exact g1, g2⟩
  have hliveW : ∀ id, Wr j id = true → Live (fun id => (S (ix D' (fun i => Wr i id) ops.length)).H id) id → Live (S (j + 1)).H id := fun id h ⟨o, g1, g2⟩ => ⟨o, by simp only at g1; rw [hix id, if_pos h] at g1; exact g1, g2⟩
  have hWold : ∀ id, Wr j id = true → E.A id → (E.bel (S j).next).A id := fun id h hA => by
    rcases (R.wrs j id N.lt).1 h with h | h
    · exact ⟨hA, R.small j N.lt id (.inr h)⟩
    · exact absurd h.2 (hnot id hA h.1)
  have hliveO : ∀ id, Wr j id = true → E.A id → Live (fun id => (S (ix D' (fun i => Wr i id) ops.length)).H id) id → Live (fun id => (S (ix D (fun i => Wr i id) ops.length)).H id) id := fun id h hA hL => by
    have hb := hWold id h hA
    obtain ⟨o, g1, g2⟩ := k1.stp.old id (hTw id h) hb (hliveW id h hL)
    exact ⟨o, by rw [hHD id h hb.2] at g1; exact g1, g2⟩
  -- the step as a whole
  have hstep : Stp T.w E (fun id => (S (ix D (fun i => Wr i id) ops.length)).H id) (mrg E E2 (S j).next) (fun id => (S (ix D' (fun i => Wr i id) ops.length)).H id) := by
    refine ⟨k1.stp.os, k1.stp.tape, k1.stp.output, k1.stp.size, fun b hb hn => ?_, hE.alw, fun id hA hnA hL => ?_, fun id ht hA hL => ?_, k1.stp.memo, k1.stp.mem⟩
    · refine k1.stp.same b hb fun id ht ha hl e => ?_
      have hw := hbit id ht ha
      obtain ⟨o, g1, g2⟩ := hl
      exact hn id (hWT id hw) ha.1 ⟨o, by rw [hHD id hw ha.2] at g1; exact g1, g2⟩ e
    · have hc := hA.resolve_left hnA
      have hw : Wr j id = true := (R.wrs j id N.lt).2 (.inr ⟨hc.1, k1.bnd id hc.2⟩)
      have e1 : (mrg E E2 (S j).next).ρ id = E2.ρ id := if_pos hc
      rw [e1]
      rcases k1.stp.new id hc.2 (fun h => hnA h.1) (hliveW id hw hL) with h | ⟨j0, c1, c2, c3, c4⟩
      · exact .inl h
      · have hw0 := hbit j0 c1 c2
        obtain ⟨o, g1, g2⟩ := c3
        exact .inr ⟨j0, hWT j0 hw0, c2.1, ⟨o, by rw [hHD j0 hw0 c2.2] at g1; exact g1, g2⟩, c4⟩
    · by_cases hw : Wr j id = true
      · exact hliveO id hw hA hL
      · exact hlive id hw hL
  refine ⟨fun id hT hA o ho => ?_, fun id hT hA hL => ?_, fun i k a1 a2 a3 a4 a5 a6 a7 => ?_, k1.st.lo, fun id hA => ?_, I.stp.trans (fun id hA hn => ?_) hstep, ?_, fun t ht => ?_⟩
  · by_cases hw : Wr j id = true
    · rw [hix id, if_pos hw] at ho ⊢
      have hA2 := hWA id hw hA
      exact (k1.st.objs id ((Tj _ _ _).sub _ (hTw id hw)) hA2 o ho).mv hE2 (h2 id hA2).2.1 (h2 id hA2).2.2 rfl
    · rw [hix id, if_neg hw] at ho ⊢
      have hA1 := hnW id hw hA
      by_cases hl : o.live = true
      · exact (I.objs id hT hA1 o ho).mv (Env.bel_le hE _) (hold id hA1).1 (hold id hA1).2 (hsame id hw hT hA1 ⟨o, ho, hl⟩)
      · cases o <;> first | trivial | exact absurd rfl hl
  · by_cases hw : Wr j id = true
    · have hA2 := hWA id hw hA
      rw [(h2 id hA2).2.1]
      exact k1.st.own id ((Tj _ _ _).sub _ (hTw id hw)) hA2 (hliveW id hw hL)
    · have hA1 := hnW id hw hA
      rw [(hold id hA1).1]
      exact k1.stp.mem _ (I.own id hT hA1 (hlive id hw hL))
  · -- two of one block
    have key : ∀ i k, T.r i → T.r k → (mrg E E2 (S j).next).A i → (mrg E E2 (S j).next).A k → Live (fun id => (S (ix D' (fun i => Wr i id) ops.length)).H id) i → Live (fun id => (S (ix D' (fun i => Wr i id) ops.length)).H id) k →
        (mrg E E2 (S j).next).ρ i = (mrg E E2 (S j).next).ρ k → E.A k → i = k := by
      intro i k a1 a2 a3 a4 a5 a6 a7 hk
      have hLk : Live (fun id => (S (ix D (fun i => Wr i id) ops.length)).H id) k := by
        by_cases hw : Wr j k = true
        · exact hliveO k hw hk a6
        · exact hlive k hw a6
      by_cases hi : E.A i
      · have hLi : Live (fun id => (S (ix D (fun i => Wr i id) ops.length)).H id) i := by
          by_cases hw : Wr j i = true
          · exact hliveO i hw hi a5
          · exact hlive i hw a5
        rw [(hold i hi).1, (hold k hk).1] at a7
        exact I.inj i k a1 a2 hi hk hLi hLk a7
      · have hc := a3.resolve_left hi
        have hw : Wr j i = true := (R.wrs j i N.lt).2 (.inr ⟨hc.1, k1.bnd i hc.2⟩)
        have e1 : (mrg E E2 (S j).next).ρ i = E2.ρ i := if_pos hc
        rw [e1, (hold k hk).1] at a7
        rcases k1.stp.new i hc.2 (fun h => hi h.1) (hliveW i hw a5) with h | ⟨j0, c1, c2, c3, c4⟩
        · have : E.ρ k < E.w.heap.size := I.lo _ (I.own k a2 hk hLk)
          have h' : E.w.heap.size ≤ E2.ρ i := h
          omega
        · have hw0 := hbit j0 c1 c2
          obtain ⟨o, g1, g2⟩ := c3
          have hL0 : Live (fun id => (S (ix D (fun i => Wr i id) ops.length)).H id) j0 := ⟨o, by rw [hHD j0 hw0 c2.2] at g1; exact g1, g2⟩
          have e2 : j0 = k := I.inj j0 k (T.sub _ (hWT j0 hw0)) a2 c2.1 hk hL0 hLk (c4.symm.trans a7)
          subst e2
          have i2 := (h2 i hc.2)
          have hA0 := hle2.alw j0 c2
          exact k1.st.inj i j0 ((Tj _ _ _).sub _ (hTw i hw)) ((Tj _ _ _).sub _ c1) hc.2 hA0.1 (hliveW i hw a5) (hliveW j0 hw0 a6) (by rw [a7]; exact hA0.2.1.symm)
    by_cases hk : E.A k
    · exact key i k a1 a2 a3 a4 a5 a6 a7 hk
    · by_cases hi : E.A i
      · exact (key k i a2 a1 a4 a3 a6 a5 a7.symm hi).symm
      · have hci := a3.resolve_left hi
        have hck := a4.resolve_left hk
        have hwi : Wr j i = true := (R.wrs j i N.lt).2 (.inr ⟨hci.1, k1.bnd i hci.2⟩)
        have hwk : Wr j k = true := (R.wrs j k N.lt).2 (.inr ⟨hck.1, k1.bnd k hck.2⟩)
        rw [(h2 i hci.2).2.1, (h2 k hck.2).2.1] at a7
        exact k1.st.inj i k ((Tj _ _ _).sub _ (hTw i hwi)) ((Tj _ _ _).sub _ (hTw k hwk)) hci.2 hck.2 (hliveW i hwi a5) (hliveW k hwk a6) a7
  · rcases hA with hA | hA
    · rcases I.ids id hA with h | ⟨i, c1, c2, c3, c4⟩
      · exact .inl h
      · exact .inr ⟨i, c1, (hD i).2 (.inl c2), c3, c4⟩
    · exact .inr ⟨j, N.lt, (hD j).2 (.inr rfl), hA.1, k1.bnd id hA.2⟩
  · rcases I.ids id hA with h | ⟨i, c1, c2, c3, c4⟩
    · exact absurd h hn
    · exact hnw id (Nat.le_trans (R.mono_le (Nat.zero_le _) (Nat.le_of_lt c1)) c3)
  · cases hd : oj.dst with
    | none => exact I.size
    | some d => simp [Act.put, I.size]
  · have hw : wtS ops t j = true ↔ oj.dst = some t := by rw [wtS_iff, dstAt_eq, hj]; rfl
    by_cases hd : oj.dst = some t
    · have e : ix D' (wtS ops t) ops.length = j + 1 := by
        rw [ix_set (j := j) hD ops.length (fun _ i hi hl hwi => (R.look_here N hj (.inr hd)).1 i hi hl hwi), if_pos ⟨N.lt, hw.2 hd⟩]
      rw [e]
      obtain ⟨_, _, _, h4⟩ := R.step j oj hj
      rw [h4, hd]
      have e1 : slot (putD (some t) (v j) (fr j)) t = v j := by unfold putD; rw [slot_set, if_pos rfl]
      have e2 : (a.put (some t) u).tmps.getD t undef = u := by simp [Act.put, I.size, ht]
      rw [e1, e2]
      exact hv.mono hE2
    · have e : ix D' (wtS ops t) ops.length = ix D (wtS ops t) ops.length := by
        rw [ix_set (j := j) hD ops.length (fun h => absurd (hw.1 h) hd), if_neg (fun h => hd (hw.1 h.2))]
      rw [e]
      have e2 : (a.put oj.dst u).tmps.getD t undef = a.tmps.getD t undef := by
        cases hdd : oj.dst with
        | none => rfl
        | some d =>
          have hne : d ≠ t := fun h => hd (by rw [hdd, h])
          simp [Act.put, Array.getD_eq_getD_getElem?, Array.getElem?_setIfInBounds_ne hne]
      rw [e2]
      exact (I.slots t ht).mono (Env.bel_le hE _)
end
end Reg
end Go.Ix
