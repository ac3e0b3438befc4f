/- Texts: Jca, Jcb, Jcc, Jcd, Jce, Jcf, Jcg, Jch, Jci, Jcj, Jck, Qri, Jcp, Qc1, Qgo, Qco, Qc2, Qc2p, Qc1p, Qcan, Qcanp, Lw6, Qsp2, Lw1, Lw2, Qsp3, Lw4, Lw7, Lw8, Lw9, Lw10, Lw11, Lw12, Lw13, Lw14, Qeq, Qeqp, Qeqf, Qeqfp, Qsm, Qe1, Qsmp, Qsm2, Qsm2p, Lw15, Lw16, Lw17, Lw18, Lw21, Lw22, Jcm, Rsc, Lsp, Lg8. -/
import Derived.Test.YtcnhjofpmpipfaaMe3
import Derived.Test.YtcnhjofpmpipfaaMe4
import Derived.Test.YtcnhjofpmpipfaaMe1
set_option linter.unusedVariables false
section
namespace Go.Jx
open Go Go.Sx Go.RowKit
universe u
structure ObjTo (E : Env) (S : IS) (E' : Env) (id k : Nat) (o : IObj) : Prop where
 rel : OR E' k o
 live : o.live = true → ∃ o0, S.H id = some o0 ∧ o0.live = true
 blk : o.blk = true → E'.hb k = true
theorem ol_inj {B : Nat} {q : List Nat} (hnd : q.Nodup) (hqB : ∀ id ∈ q, B ≤ id) : ∀ i j, i < B + q.length → j < B + q.length → ol B q i = ol B q j → i = j := fun i j hi hj h => by
 have hol : ∀ id, B ≤ id → id < B + q.length → B ≤ ol B q id := fun id h1 h2 => by
   have h3 : id - B < q.length := by omega
   unfold ol
   rw [if_neg (by omega), List.getD_eq_getElem?_getD, List.getElem?_eq_getElem h3]
   exact hqB _ (List.getElem_mem h3)
 rcases Nat.lt_or_ge i B with h1 | h1
 · have e1 : ol B q i = i := if_pos h1
   rcases Nat.lt_or_ge j B with h2 | h2
   · rwa [e1, show ol B q j = j from if_pos h2] at h
   · have := hol j h2 hj; omega
 · rcases Nat.lt_or_ge j B with h2 | h2
   · have e2 : ol B q j = j := if_pos h2
     have := hol i h1 hi; omega
   · have h3 : i - B < q.length := by omega
     have h4 : j - B < q.length := by omega
     have e1 : ol B q i = q[i - B] := by unfold ol; rw [if_neg (by omega), List.getD_eq_getElem?_getD, List.getElem?_eq_getElem h3]; rfl
     have e2 : ol B q j = q[j - B] := by unfold ol; rw [if_neg (by omega), List.getD_eq_getElem?_getD, List.getElem?_eq_getElem h4]; rfl
     rw [e1, e2] at h
     have := (List.getElem_inj hnd).1 h
     omega
theorem ol_mem {q : List Nat} {k : Nat} (h : k < q.length) : ol 0 q k ∈ q ∧ q[k]? = some (ol 0 q k) := by
 have e : ol 0 q k = q[k] := by unfold ol; rw [if_neg (by omega), Nat.sub_zero, List.getD_eq_getElem?_getD, List.getElem?_eq_getElem h]; rfl
 rw [e]; exact ⟨List.getElem_mem h, List.getElem?_eq_getElem h⟩
theorem mem_ol {q : List Nat} {id : Nat} (h : id ∈ q) : ∃ k, k < q.length ∧ ol 0 q k = id := by
 obtain ⟨k, hk, rfl⟩ := List.mem_iff_getElem.1 h
 refine ⟨k, hk, ?_⟩
 unfold ol; rw [if_neg (by omega), Nat.sub_zero, List.getD_eq_getElem?_getD, List.getElem?_eq_getElem hk]; rfl
theorem Pre.re {T : TW} {E : Env} {S S' : IS} {q : List Nat} (p : Pre T E S) (hn : q.Nodup) (hT : ∀ id ∈ q, T.r id) (hN : S'.next = q.length)
   (ho : ∀ k o, k < q.length → E.A (ol 0 q k) → S'.H k = some o → ObjTo E S (renE 0 q E) (ol 0 q k) k o) : Pre T0 (renE 0 q E) S' := by
 have hl : ∀ k, (renE 0 q E).A k → k < q.length := fun k h => by have := h.1; omega
 have hTr : ∀ k, k < q.length → T.r (ol 0 q k) := fun k h => hT _ (ol_mem h).1
 have hlv : ∀ k, (renE 0 q E).A k → Live (renE 0 q E) S'.H k → Live E S.H (ol 0 q k) := fun k ha ⟨h0, o, h1, h2⟩ => ⟨h0, (ho k o (hl k ha) ha.2 h1).live h2⟩
 refine ⟨⟨fun k _ ha o h => (ho k o (hl k ha) ha.2 h).rel, fun k _ ha o h hb => (ho k o (hl k ha) ha.2 h).blk hb, fun k _ ha h => p.st.own _ (hTr k (hl k ha)) ha.2 (hlv k ha h),
   fun i j _ _ c d e f h => ol_inj hn (fun _ _ => Nat.zero_le _) i j (by have := hl i c; omega) (by have := hl j d; omega) (p.st.inj _ _ (hTr i (hl i c)) (hTr j (hl j d)) c.2 d.2 (hlv i c e) (hlv j d f) h), p.st.lo⟩, fun k ha => by rw [hN]; exact hl k ha, fun _ _ => trivial⟩
theorem PostB.re {T : TW} {E : Env} {S S' : IS} {B : Nat} {q : List Nat} (p : Pre T E S) (hT : ∀ id, B ≤ id → T.w id) (hn : q.Nodup) (hqB : ∀ id ∈ q, B ≤ id) (hN : S'.next = B + q.length)
   (ho : ∀ k o, k < B + q.length → E.A (ol B q k) → S'.H k = some o → ObjTo E S (renE B q E) (ol B q k) k o) : PostB B T E S (renE B q E) S' := by
 have hol : ∀ id, B ≤ id → id < B + q.length → B ≤ ol B q id := fun id h1 h2 => by
   have h3 : id - B < q.length := by omega
   unfold ol
   rw [if_neg (by omega), List.getD_eq_getElem?_getD, List.getElem?_eq_getElem h3]
   exact hqB _ (List.getElem_mem h3)
 have hTr : ∀ id, id < B + q.length → T.r id → T.r (ol B q id) := fun id h1 h2 => by
   rcases Nat.lt_or_ge id B with h3 | h3
   · rw [show ol B q id = id from if_pos h3]; exact h2
   · exact T.sub _ (hT _ (hol id h3 h1))
 have hlv : ∀ k, (renE B q E).A k → Live (renE B q E) S'.H k → Live E S.H (ol B q k) := fun k ha ⟨h0, o, h1, h2⟩ => ⟨h0, (ho k o ha.1 ha.2 h1).live h2⟩
 refine ⟨⟨fun k ht ha o h => (ho k o ha.1 ha.2 h).rel, fun k ht ha o h hb => (ho k o ha.1 ha.2 h).blk hb, fun k ht ha h => p.st.own _ (hTr k ha.1 ht) ha.2 (hlv k ha h),
   fun i j a b c d e f h => ol_inj hn hqB i j c.1 d.1 (p.st.inj _ _ (hTr i c.1 a) (hTr j d.1 b) c.2 d.2 (hlv i c e) (hlv j d f) h), p.st.lo⟩,
   rfl, rfl, rfl, Nat.le_refl _, fun _ _ _ => rfl, fun id hb hA => ?_, fun id hb ha hl => .inr ⟨ol B q id, hT _ (hol id hb ha.1), ha.2, hlv id ha hl, rfl⟩, fun id hb ht ha hl => ?_, fun b h => .inl h, fun b h _ => .inl h, fun id ha => by rw [hN]; exact ha.1, by rw [hN]; exact Nat.le_add_right _ _, fun id hb ha => ?_⟩
 · have e : ol B q id = id := if_pos hb
   exact ⟨⟨by omega, by rw [e]; exact hA⟩, by simp only [renE, e], by simp only [renE, e], by simp only [renE, e], by simp only [renE, e]⟩
 · have e : ol B q id = id := if_pos hb
   have := hlv id ⟨by omega, by rw [e]; exact ha⟩ hl
   rwa [e] at this
 · have e : ol B q id = id := if_pos hb
   have := ha.2
   rwa [e] at this
def mrgR (E Er : Env) (n m : Nat) : Env :=
 ⟨fun id => if id < n then E.ρ id else Er.ρ (id - n + m), fun id => if id < n then E.κ id else Er.κ (id - n + m), fun id => if id < n then E.hd id else Er.hd (id - n + m), fun id => if id < n then E.hb id else Er.hb (id - n + m),
   fun id => (id < n ∧ E.A id) ∨ (n ≤ id ∧ Er.A (id - n + m)), Er.m, Er.w⟩
section
variable {E Er : Env} {n m : Nat}
theorem mrgR_old {id : Nat} (h : id < n) : (mrgR E Er n m).ρ id = E.ρ id ∧ (mrgR E Er n m).κ id = E.κ id ∧ (mrgR E Er n m).hd id = E.hd id ∧ (mrgR E Er n m).hb id = E.hb id := by
 refine ⟨?_, ?_, ?_, ?_⟩ <;> simp only [mrgR, if_pos h]
theorem mrgR_new {k : Nat} (h : m ≤ k) : (mrgR E Er n m).ρ (n + (k - m)) = Er.ρ k ∧ (mrgR E Er n m).κ (n + (k - m)) = Er.κ k ∧ (mrgR E Er n m).hd (n + (k - m)) = Er.hd k ∧ (mrgR E Er n m).hb (n + (k - m)) = Er.hb k ∧ (Er.A k → (mrgR E Er n m).A (n + (k - m))) := by
 have h1 : ¬ n + (k - m) < n := by omega
 have h2 : n + (k - m) - n + m = k := by omega
 refine ⟨?_, ?_, ?_, ?_, fun hA => .inr ⟨by omega, by rw [h2]; exact hA⟩⟩ <;> simp only [mrgR, if_neg h1, h2]
theorem merge_back {T : TW} {S Sx Sr S' : IS} {q : List Nat} (p : Pre T E S) (hnd : q.Nodup) (hT : ∀ id ∈ q, T.w id) (hA : ∀ id ∈ q, E.A id) (hm : m ≤ q.length) (hn : n = S.next)
   (hsx : ∀ k, k < q.length → Live (renE 0 q E) Sx.H k → Live E S.H (ol 0 q k)) (h : PostB m T0 (renE 0 q E) Sx Er Sr)
   (hN : S'.next = n + (Sr.next - m))
   (h1 : ∀ id, id < n → id ∉ q → S'.H id = S.H id)
   (h2 : ∀ k o, k < m → S'.H (ol 0 q k) = some o → ObjTo Er Sr (mrgR E Er n m) k (ol 0 q k) o)
   (h3 : ∀ k o, m ≤ k → k < q.length → S'.H (ol 0 q k) = some o → o = .dead)
   (h4 : ∀ k o, m ≤ k → Er.A k → S'.H (n + (k - m)) = some o → ObjTo Er Sr (mrgR E Er n m) k (n + (k - m)) o) :
   Post T E S (mrgR E Er n m) S' ∧ Fresh E S (mrgR E Er n m) := by
 have hlt : ∀ id, E.A id → id < n := fun id h => by rw [hn]; exact p.bnd id h
 have hqA : ∀ k, k < q.length → (renE 0 q E).A k := fun k hk => ⟨by omega, hA _ (ol_mem hk).1⟩
 -- a live object of the caller's beside these is at no block of theirs
 have hapart : ∀ id, id ∉ q → T.r id → E.A id → Live E S.H id → ∀ k, (renE 0 q E).A k → Live (renE 0 q E) Sx.H k → (renE 0 q E).ρ k ≠ E.ρ id := fun id hid ht ha hl k hk hkl e => by
   have hk1 : k < q.length := by have := hk.1; omega
   have h5 := (ol_mem hk1).1
   have := p.st.inj _ _ (T.sub _ (hT _ h5)) ht hk.2 ha (hsx k hk1 hkl) hl e
   exact hid (this ▸ h5)
 have hsame : ∀ b, b < E.w.heap.size → (∀ k, (renE 0 q E).A k → Live (renE 0 q E) Sx.H k → (renE 0 q E).ρ k ≠ b) → Er.w.heap[b]? = E.w.heap[b]? := fun b hb hk => h.same b hb fun k _ => hk k
 have hown : ∀ k, (renE 0 q E).A k → Live (renE 0 q E) Sx.H k → (renE 0 q E).ρ k ∈ E.m := fun k hk hkl => by
   have hk1 : k < q.length := by have := hk.1; omega
   exact p.st.own _ (T.sub _ (hT _ (ol_mem hk1).1)) hk.2 (hsx k hk1 hkl)
 have hle : E.Le (mrgR E Er n m) := ⟨fun id ha => by
   obtain ⟨m1, m2, m3, m4⟩ := mrgR_old (E := E) (Er := Er) (m := m) (hlt id ha)
   exact ⟨.inl ⟨hlt id ha, ha⟩, m1, m2, m3, m4⟩, ⟨fun b hb hbm => ⟨fun h' => by
     rcases h.memo b h' with h5 | h5
     · exact hbm h5
     · have : (renE 0 q E).w.heap.size = E.w.heap.size := rfl
       omega, hsame b hb fun k hk hkl e => hbm (e ▸ hown k hk hkl)⟩⟩⟩
 -- rows
 have hrow : ∀ k, k < m → (renE 0 q E).A k ∧ Er.A k ∧ Er.ρ k = E.ρ (ol 0 q k) ∧ Er.hb k = E.hb (ol 0 q k) ∧ ol 0 q k < n := fun k hk => by
   have ha := hqA k (by omega)
   obtain ⟨a1, a2, a3, a4, a5⟩ := h.alw k hk ha
   exact ⟨ha, a1, a2, a5, hlt _ ha.2⟩
 -- where a live object of the new state comes from
 have hcase : ∀ id, (mrgR E Er n m).A id → Live (mrgR E Er n m) S'.H id →
     (id < n ∧ id ∉ q ∧ E.A id ∧ Live E S.H id) ∨ ∃ k, Er.A k ∧ Live Er Sr.H k ∧ (mrgR E Er n m).ρ id = Er.ρ k ∧ ((k < m ∧ id = ol 0 q k) ∨ (m ≤ k ∧ id = n + (k - m))) := fun id ha ⟨g1, o, g2, g3⟩ => by
   rcases ha with ⟨hi, ha⟩ | ⟨hi, ha⟩
   · by_cases hq : id ∈ q
     · obtain ⟨k, hk, rfl⟩ := mem_ol hq
       by_cases hkm : k < m
       · obtain ⟨r1, r2, r3, r4, r5⟩ := hrow k hkm
         refine .inr ⟨k, r2, ⟨?_, (h2 k o hkm g2).live g3⟩, (mrgR_old hi).1.trans r3.symm, .inl ⟨hkm, rfl⟩⟩
         rw [r4, ← (mrgR_old (E := E) (Er := Er) (m := m) hi).2.2.2]; exact g1
       · have := h3 k o (by omega) hk g2
         subst this; cases g3
     · rw [h1 id hi hq] at g2
       exact .inl ⟨hi, hq, ha, by rw [← (mrgR_old (E := E) (Er := Er) (m := m) hi).2.2.2]; exact g1, o, g2, g3⟩
   · obtain ⟨k, hk, rfl⟩ : ∃ k, m ≤ k ∧ id = n + (k - m) := ⟨id - n + m, by omega, by omega⟩
     have e : n + (k - m) - n + m = k := by omega
     rw [e] at ha
     obtain ⟨m1, m2, m3, m4, m5⟩ := mrgR_new (E := E) (Er := Er) (n := n) hk
     exact .inr ⟨k, ha, ⟨by rw [← m4]; exact g1, (h4 k o hk ha g2).live g3⟩, m1, .inr ⟨hk, rfl⟩⟩
 have hin : ∀ id, id < n → id ∉ q → T.r id → E.A id → Live E S.H id → (mrgR E Er n m).ρ id ∈ Er.m ∧ ∀ k, Er.A k → Live Er Sr.H k → Er.ρ k ≠ E.ρ id := fun id hi hq ht ha hl => by
   have hmem := p.st.own id ht ha hl
   refine ⟨?_, fun k hk hkl e => ?_⟩
   · rw [(mrgR_old hi).1]
     rcases h.mem _ hmem (p.st.lo _ hmem) with g | ⟨k, _, g1, g2, g3⟩
     · exact g
     · exact absurd g3 (hapart id hq ht ha hl k g1 g2)
   · by_cases hkm : k < m
     · exact hapart id hq ht ha hl k (hrow k hkm).1 (h.old k hkm trivial (hrow k hkm).1 hkl) (by rw [← e]; exact (hrow k hkm).2.2.1.symm)
     · rcases h.new k (by omega) hk hkl with g | ⟨j, _, g1, g2, g3⟩
       · have := p.st.lo _ hmem
         have e2 : (renE 0 q E).w.heap.size = E.w.heap.size := rfl
         omega
       · exact hapart id hq ht ha hl j g1 g2 (by rw [← g3]; exact e)
 refine ⟨⟨⟨?_, ?_, ?_, ?_, h.st.lo⟩, ⟨h.os, h.tape, h.output, h.size, fun b hb hk => ?_, hle.alw, ?_, ?_, fun b hb => h.memo b hb, fun b hb hl => ?_⟩, ?_, ?_⟩, ⟨?_⟩⟩
 · intro id ht ha o ho
   rcases ha with ⟨hi, ha⟩ | ⟨hi, ha⟩
   · by_cases hq : id ∈ q
     · obtain ⟨k, hk, rfl⟩ := mem_ol hq
       by_cases hkm : k < m
       · exact (h2 k o hkm ho).rel
       · have := h3 k o (by omega) hk ho
         subst this; trivial
     · rw [h1 id hi hq] at ho
       exact (p.st.objs id ht ha o ho).mono hle ha (p.st.blk id ht ha o ho) fun hl hb => hsame _ ((p.st.objs id ht ha o ho).lt hl hb) (hapart id hq ht ha ⟨hb, o, ho, hl⟩)
   · obtain ⟨k, hk, rfl⟩ : ∃ k, m ≤ k ∧ id = n + (k - m) := ⟨id - n + m, by omega, by omega⟩
     have e : n + (k - m) - n + m = k := by omega
     rw [e] at ha
     exact (h4 k o hk ha ho).rel
 · intro id ht ha o ho hb
   rcases ha with ⟨hi, ha⟩ | ⟨hi, ha⟩
   · by_cases hq : id ∈ q
     · obtain ⟨k, hk, rfl⟩ := mem_ol hq
       by_cases hkm : k < m
       · exact (h2 k o hkm ho).blk hb
       · have := h3 k o (by omega) hk ho
         subst this; cases hb
     · rw [h1 id hi hq] at ho
       rw [(mrgR_old hi).2.2.2]
       exact p.st.blk id ht ha o ho hb
   · obtain ⟨k, hk, rfl⟩ : ∃ k, m ≤ k ∧ id = n + (k - m) := ⟨id - n + m, by omega, by omega⟩
     have e : n + (k - m) - n + m = k := by omega
     rw [e] at ha
     exact (h4 k o hk ha ho).blk hb
 · intro id ht ha hl
   rcases hcase id ha hl with ⟨g1, g2, g3, g4⟩ | ⟨k, g1, g2, g3, _⟩
   · exact (hin id g1 g2 ht g3 g4).1
   · rw [g3]; exact h.st.own k trivial g1 g2
 · intro i j ti tj hi hj li lj he
   rcases hcase i hi li with ⟨a1, a2, a3, a4⟩ | ⟨k, a1, a2, a3, a4⟩ <;> rcases hcase j hj lj with ⟨b1, b2, b3, b4⟩ | ⟨k', b1, b2, b3, b4⟩
   · rw [(mrgR_old a1).1, (mrgR_old b1).1] at he
     exact p.st.inj i j ti tj a3 b3 a4 b4 he
   · rw [(mrgR_old a1).1, b3] at he
     exact absurd he.symm ((hin i a1 a2 ti a3 a4).2 k' b1 b2)
   · rw [(mrgR_old b1).1, a3] at he
     exact absurd he ((hin j b1 b2 tj b3 b4).2 k a1 a2)
   · rw [a3, b3] at he
     have := h.st.inj k k' trivial trivial a1 b1 a2 b2 he
     subst this
     rcases a4 with ⟨a4, rfl⟩ | ⟨a4, rfl⟩ <;> rcases b4 with ⟨b4, rfl⟩ | ⟨b4, rfl⟩ <;> first | rfl | omega
 · refine hsame b hb fun k hk1 hkl e => ?_
   have hk2 : k < q.length := by have := hk1.1; omega
   exact hk _ (hT _ (ol_mem hk2).1) hk1.2 (hsx k hk2 hkl) e
 · intro id ha hna hl
   rcases hcase id ha hl with ⟨g1, g2, g3, g4⟩ | ⟨k, g1, g2, g3, g4⟩
   · exact absurd g3 hna
   · rcases g4 with ⟨g4, rfl⟩ | ⟨g4, rfl⟩
     · exact absurd (hrow k g4).1.2 hna
     · rw [g3]
       rcases h.new k g4 g1 g2 with g | ⟨j, _, j1, j2, j3⟩
       · exact .inl g
       · have hj : j < q.length := by have := j1.1; omega
         exact .inr ⟨_, hT _ (ol_mem hj).1, j1.2, hsx j hj j2, j3⟩
 · intro id ht ha hl
   rcases hcase id (.inl ⟨hlt id ha, ha⟩) hl with ⟨g1, g2, g3, g4⟩ | ⟨k, g1, g2, g3, g4⟩
   · exact g4
   · rcases g4 with ⟨g4, rfl⟩ | ⟨g4, rfl⟩
     · exact hsx k (by omega) (h.old k g4 trivial (hrow k g4).1 g2)
     · have := hlt _ ha; omega
 · rcases h.mem b hb hl with g | ⟨k, _, g1, g2, g3⟩
   · exact .inl g
   · have hk : k < q.length := by have := g1.1; omega
     exact .inr ⟨_, hT _ (ol_mem hk).1, g1.2, hsx k hk g2, g3⟩
 · intro id ha
   rw [hN]
   rcases ha with ⟨hi, _⟩ | ⟨hi, ha⟩
   · omega
   · have := h.bnd _ ha; omega
 · rw [hN]; omega
 · intro id ha hna
   rcases ha with ⟨_, ha⟩ | ⟨hi, _⟩
   · exact absurd ha hna
   · omega
end
end Go.Jx
end
section
namespace Go.Jx
open Go Go.Sx Go.RowKit
universe u
inductive CT : Type
 | dat (c : TC)
 | arr (c : TC)
 | map (k v : TC)
def ElC : CT → Type
 | .dat c => El c
 | .arr c => List (El c)
 | .map k v => List (El k × El v)
def ElRow : List CT → Type
 | [] => Unit
 | c :: cs => ElC c × ElRow cs
inductive RK : Type
 | box (r : List CT)
 | sl (c : TC)
def ElK : RK → Type
 | .box r => ElRow r
 | .sl c => Option (List (El c))
inductive PK : Type
 | dat (c : TC)
 | ref (r : RK)
 | fn (f : Nat)
def ElP : List PK → Type
 | [] => Unit
 | .dat c :: l => El c × ElP l
 | .fn _ :: l => ElP l
 | .ref r :: l => ElK r × ElP l
def refs : List PK → List PK
 | [] => []
 | .dat _ :: l => refs l
 | .fn _ :: l => refs l
 | .ref r :: l => .ref r :: refs l
def nC : CT → Nat
 | .dat _ => 0
 | _ => 1
def nR : List CT → Nat
 | [] => 0
 | c :: cs => nC c + nR cs
def nK : RK → Nat
 | .box r => nR r
 | .sl _ => 0
def nP : List PK → Nat
 | [] => 0
 | .dat _ :: l => nP l
 | .fn _ :: l => nP l
 | .ref r :: l => nK r + nP l
def mP : List PK → Nat
 | [] => 0
 | .dat _ :: l => mP l
 | .fn _ :: l => mP l
 | .ref _ :: l => mP l + 1
def cellC : (c : CT) → (Nat → Nat) → Nat → ElC c → List IV
 | .dat c, _, _, x => cel c x
 | .arr _, ι, n, _ => [.arr (ι n)]
 | .map _ _, ι, n, _ => [.map (ι n)]
def cellR : (r : List CT) → (Nat → Nat) → Nat → ElRow r → List IV
 | [], _, _, _ => []
 | c :: cs, ι, n, x => cellC c ι n x.1 ++ cellR cs ι (n + nC c) x.2
def subC : (c : CT) → ElC c → List IObj
 | .dat _, _ => []
 | .arr c, l => [.arr c l]
 | .map k v, es => [.tmap k v es]
def subR : (r : List CT) → ElRow r → List IObj
 | [], _ => []
 | c :: cs, x => subC c x.1 ++ subR cs x.2
def objK : (k : RK) → (Nat → Nat) → Nat → ElK k → IObj
 | .box r, ι, n, x => .row (cellR r ι n x)
 | .sl c, _, _, x => match x with
   | some l => .arr c l
   | none => .dead
def subK : (k : RK) → ElK k → List IObj
 | .box r, x => subR r x
 | .sl _, _ => []
def argK : RK → Nat → IV
 | .box _, id => .ptr id 0
 | .sl _, id => .arr id
def rowsP : (l : List PK) → (Nat → Nat) → Nat → ElP l → List IObj
 | [], _, _, _ => []
 | .dat _ :: l, ι, n, x => rowsP l ι n x.2
 | .fn _ :: l, ι, n, x => rowsP l ι n x
 | .ref r :: l, ι, n, x => objK r ι n x.1 :: rowsP l ι (n + nK r) x.2
def subsP : (l : List PK) → ElP l → List IObj
 | [], _ => []
 | .dat _ :: l, x => subsP l x.2
 | .fn _ :: l, x => subsP l x
 | .ref r :: l, x => subK r x.1 ++ subsP l x.2
def argsP : (l : List PK) → (Nat → Nat) → Nat → ElP l → List IV
 | [], _, _, _ => []
 | .dat c :: l, ρ, k, x => asIV c x.1 :: argsP l ρ k x.2
 | .fn f :: l, ρ, k, x => .fn f [] :: argsP l ρ k x
 | .ref r :: l, ρ, k, x => argK r (ρ k) :: argsP l ρ (k + 1) x.2
def idN (k : Nat) : Nat := k
def Sc (l : List PK) (x : ElP l) : IS := addO (rowsP l idN (mP l) x ++ subsP l x) S0
theorem subC_len : ∀ (c : CT) (x : ElC c), (subC c x).length = nC c
 | .dat _, _ => rfl
 | .arr _, _ => rfl
 | .map _ _, _ => rfl
theorem subR_len : ∀ (r : List CT) (x : ElRow r), (subR r x).length = nR r
 | [], _ => rfl
 | c :: cs, x => by simp only [subR, nR, List.length_append, subC_len, subR_len cs]
theorem subK_len : ∀ (k : RK) (x : ElK k), (subK k x).length = nK k
 | .box r, x => subR_len r x
 | .sl _, _ => rfl
theorem subsP_len : ∀ (l : List PK) (x : ElP l), (subsP l x).length = nP l
 | [], _ => rfl
 | .dat _ :: l, x => subsP_len l x.2
 | .fn _ :: l, x => subsP_len l x
 | .ref r :: l, x => by simp only [subsP, nP, List.length_append, subK_len, subsP_len l]
theorem rowsP_len : ∀ (l : List PK) (ι : Nat → Nat) (n : Nat) (x : ElP l), (rowsP l ι n x).length = mP l
 | [], _, _, _ => rfl
 | .dat _ :: l, ι, n, x => rowsP_len l ι n x.2
 | .fn _ :: l, ι, n, x => rowsP_len l ι n x
 | .ref r :: l, ι, n, x => by simp only [rowsP, mP, List.length_cons, rowsP_len l]
theorem rowsP_get : ∀ (l : List PK) (ι : Nat → Nat) (n : Nat) (x : ElP l) (j : Nat) (o : IObj), (rowsP l ι n x)[j]? = some o →
   ∃ r nj xj, o = objK r ι nj xj ∧ n ≤ nj ∧ nj + nK r ≤ n + nP l ∧ ∀ ι', (rowsP l ι' n x)[j]? = some (objK r ι' nj xj)
 | [], ι, n, x, j, o, h => by simp [rowsP] at h
 | .dat _ :: l, ι, n, x, j, o, h => rowsP_get l ι n x.2 j o h
 | .fn _ :: l, ι, n, x, j, o, h => rowsP_get l ι n x j o h
 | .ref r :: l, ι, n, x, j, o, h => by
   cases j with
   | zero =>
     simp only [rowsP, List.getElem?_cons_zero, Option.some.injEq] at h
     exact ⟨r, n, x.1, h.symm, Nat.le_refl _, by simp only [nP]; omega, fun ι' => rfl⟩
   | succ j =>
     simp only [rowsP, List.getElem?_cons_succ] at h
     obtain ⟨r', nj, xj, h1, h2, h3, h4⟩ := rowsP_get l ι _ x.2 j o h
     exact ⟨r', nj, xj, h1, by omega, by simp only [nP]; omega, fun ι' => by simpa only [rowsP, List.getElem?_cons_succ] using h4 ι'⟩
theorem Sc_next (l : List PK) (x : ElP l) : (Sc l x).next = mP l + nP l := by
 unfold Sc; rw [addO_next, List.length_append, rowsP_len, subsP_len]
 show 0 + _ = _
 omega
theorem addO_H0 (l : List IObj) (k : Nat) : (addO l S0).H k = l[k]? := by
 rw [addO_H]
 have e : S0.next = 0 := rfl
 rw [e, if_neg (by omega), Nat.zero_add, Nat.sub_zero]
 by_cases h : k < l.length
 · rw [if_pos h]
 · rw [if_neg h, List.getElem?_eq_none (by omega)]; rfl
section
variable {E E' : Env}
def NumTo (E E' : Env) (i j : Nat) : Prop := E.A i → E'.A j ∧ E'.ρ j = E.ρ i ∧ E'.κ j = E.κ i ∧ E'.hd j = E.hd i ∧ E'.hb j = E.hb i
theorem cellC_env (hm : ∀ b, b ∈ E'.m → b ∈ E.m) (hw : E'.w = E.w) {ι ι' : Nat → Nat} : ∀ (c : CT) {n : Nat} {x : ElC c} {us : List Value}, (∀ j, n ≤ j → j < n + nC c → NumTo E E' (ι j) (ι' j)) →
   VRs E (cellC c ι n x) us → VRs E' (cellC c ι' n x) us
 | .dat c, n, x, us, hn, h => ⟨h.1, fun i a b => (VR.noid hm hw (h.2 i a b)).2.2 _ _ (List.getElem_mem a)⟩
 | .arr c, n, x, us, hn, h => by
   obtain ⟨u, us, rfl, a1, a2⟩ := VRs.inv (v := .arr (ι n)) (cs := []) h
   have e : us = [] := by have := a2.1; simpa using this.symm
   subst e
   cases a1 with
   | arr hA hh =>
     obtain ⟨b1, b2, b3, b4, b5⟩ := hn n (Nat.le_refl _) (by simp [nC]) hA
     exact VRs.cons (.arr b1 (b4.trans hh)) VRs.nil
 | .map k v, n, x, us, hn, h => by
   obtain ⟨u, us, rfl, a1, a2⟩ := VRs.inv (v := .map (ι n)) (cs := []) h
   have e : us = [] := by have := a2.1; simpa using this.symm
   subst e
   cases a1 with
   | map hA =>
     obtain ⟨b1, b2, b3, b4, b5⟩ := hn n (Nat.le_refl _) (by simp [nC]) hA
     rw [← b2]
     exact VRs.cons (.map b1) VRs.nil
theorem VRs.split {E : Env} {cs ds : List IV} {us : List Value} (h : VRs E (cs ++ ds) us) : ∃ us1 us2, us = us1 ++ us2 ∧ VRs E cs us1 ∧ VRs E ds us2 := by
 have h1 := h.take cs.length
 have h2 := h.drop cs.length
 rw [List.take_left] at h1
 rw [List.drop_left] at h2
 exact ⟨_, _, (List.take_append_drop _ _).symm, h1, h2⟩
theorem cellR_env (hm : ∀ b, b ∈ E'.m → b ∈ E.m) (hw : E'.w = E.w) {ι ι' : Nat → Nat} : ∀ (r : List CT) {n : Nat} {x : ElRow r} {us : List Value}, (∀ j, n ≤ j → j < n + nR r → NumTo E E' (ι j) (ι' j)) →
   VRs E (cellR r ι n x) us → VRs E' (cellR r ι' n x) us
 | [], n, x, us, hn, h => by have := h.1; cases us with | nil => exact VRs.nil | cons _ _ => simp [cellR] at this
 | c :: cs, n, x, us, hn, h => by
   obtain ⟨us1, us2, rfl, h1, h2⟩ := VRs.split (cs := cellC c ι n x.1) (ds := cellR cs ι (n + nC c) x.2) h
   exact VRs.append (cellC_env hm hw c (fun j a b => hn j a (by simp only [nR]; omega)) h1) (cellR_env hm hw cs (fun j a b => hn j (by omega) (by simp only [nR]; omega)) h2)
theorem cellC_len (c : CT) (ι ι' : Nat → Nat) (n : Nat) (x : ElC c) : (cellC c ι n x).length = (cellC c ι' n x).length := by cases c <;> rfl
theorem cellR_len : ∀ (r : List CT) (ι ι' : Nat → Nat) (n : Nat) (x : ElRow r), (cellR r ι n x).length = (cellR r ι' n x).length
 | [], _, _, _, _ => rfl
 | c :: cs, ι, ι', n, x => by simp only [cellR, List.length_append, cellC_len c ι ι', cellR_len cs ι ι']
theorem OR.row_to (hm : ∀ b, b ∈ E'.m → b ∈ E.m) (hw : E'.w = E.w) {ι ι' : Nat → Nat} {r : List CT} {n i j : Nat} {x : ElRow r} (hA : E.A i) (hi : NumTo E E' i j) (hn : ∀ j, n ≤ j → j < n + nR r → NumTo E E' (ι j) (ι' j))
   (h : OR E i (.row (cellR r ι n x))) : OR E' j (.row (cellR r ι' n x)) := by
 obtain ⟨cells, t, h1, h2, h3, h4⟩ := h
 obtain ⟨b1, b2, b3, b4, b5⟩ := hi hA
 refine ⟨cells, t, by rw [hw, b2]; exact h1, by rw [b3]; exact h2, by rw [cellR_len r ι' ι]; exact h3, ?_⟩
 rw [cellR_len r ι' ι]
 exact cellR_env hm hw r hn h4
def datO : IObj → Bool
 | .arr _ _ => true
 | .tmap _ _ _ => true
 | _ => false
theorem OR.dat_to (hm : ∀ b, b ∈ E'.m → b ∈ E.m) (hw : E'.w = E.w) {i j : Nat} {o : IObj} (hA : E.A i) (hi : NumTo E E' i j) (ho : datO o = true) (h : OR E i o) : OR E' j o := by
 obtain ⟨b1, b2, b3, b4, b5⟩ := hi hA
 have hno : ∀ {v : IV} {u : Value}, VR E v u → _ := fun h => VR.noid (E := E) (E' := E') hm hw h
 cases o <;> try (cases ho; done)
 · obtain ⟨a, cap, h1, h2, h3, h4, h5⟩ := h
   exact ⟨a, cap, by rw [b4]; exact h1, h2, h3, h4, h5.imp (fun ⟨x, y⟩ => ⟨by rw [b5]; exact x, y⟩) fun ⟨c1, c2, cells, t, c3, c4, us, c5, c6⟩ => ⟨by rw [b5]; exact c1, by rw [b2]; exact c2, cells, t, by rw [hw, b2]; exact c3, c4, us, c5, fun i hi j hj => (hno (c6 i hi j hj)).2.2 _ _ (List.getElem_mem hj)⟩⟩
 · obtain ⟨ents, c, h1, h2, h3⟩ := h
   refine ⟨ents, c, by rw [hw, b2]; exact h1, ⟨h2.1, fun i a b => ?_⟩, ⟨h3.1, fun i a b => ?_⟩⟩
   · have := h2.2 i a b
     simp only [tmEs, List.getElem_map] at this ⊢
     exact as_env hm hw this
   · have := h3.2 i a b
     simp only [tmEs, List.getElem_map] at this ⊢
     exact as_env hm hw this
theorem OR.objK_to (hm : ∀ b, b ∈ E'.m → b ∈ E.m) (hw : E'.w = E.w) {ι ι' : Nat → Nat} : ∀ {r : RK} {n i j : Nat} {x : ElK r} (hA : E.A i) (hi : NumTo E E' i j) (hn : ∀ j, n ≤ j → j < n + nK r → NumTo E E' (ι j) (ι' j))
   (h : OR E i (objK r ι n x)), OR E' j (objK r ι' n x)
 | .box r, n, i, j, x, hA, hi, hn, h => OR.row_to hm hw hA hi hn h
 | .sl c, n, i, j, some l, hA, hi, hn, h => OR.dat_to hm hw hA hi (o := .arr c l) rfl h
 | .sl c, n, i, j, none, hA, hi, hn, h => trivial
theorem objK_live : ∀ {r : RK} {ι ι' : Nat → Nat} {n : Nat} {x : ElK r}, (objK r ι n x).live = (objK r ι' n x).live
 | .box r, ι, ι', n, x => rfl
 | .sl c, ι, ι', n, some l => rfl
 | .sl c, ι, ι', n, none => rfl
theorem objK_blk : ∀ {r : RK} {ι ι' : Nat → Nat} {n : Nat} {x : ElK r}, (objK r ι n x).blk = (objK r ι' n x).blk
 | .box r, ι, ι', n, x => rfl
 | .sl c, ι, ι', n, some l => rfl
 | .sl c, ι, ι', n, none => rfl
theorem argK_A {r : RK} {id : Nat} {u : Value} (h : VR E (argK r id) u) : E.A id := by
 cases r with
 | box r => cases h; assumption
 | sl c => cases h; assumption
theorem argK_to {r : RK} {i j : Nat} {u : Value} (hi : NumTo E E' i j) (h : VR E (argK r i) u) : VR E' (argK r j) u := by
 cases r with
 | box r =>
   cases h with
   | ptr hA =>
     obtain ⟨b1, b2, b3, b4, b5⟩ := hi hA
     show VR E' (.ptr j 0) _
     rw [← b2]; exact .ptr b1
 | sl c =>
   cases h with
   | arr hA hh =>
     obtain ⟨b1, b2, b3, b4, b5⟩ := hi hA
     exact .arr b1 (b4.trans hh)
theorem argsP_env (hm : ∀ b, b ∈ E'.m → b ∈ E.m) (hw : E'.w = E.w) {ρ ρ' : Nat → Nat} : ∀ (l : List PK) {k : Nat} {x : ElP l} {us : List Value}, (∀ j, k ≤ j → j < k + mP l → NumTo E E' (ρ j) (ρ' j)) →
   VRs E (argsP l ρ k x) us → VRs E' (argsP l ρ' k x) us
 | [], k, x, us, hn, h => by have := h.1; cases us with | nil => exact VRs.nil | cons _ _ => simp [argsP] at this
 | .dat c :: l, k, x, us, hn, h => by
   obtain ⟨u, us, rfl, a1, a2⟩ := VRs.inv (v := asIV c x.1) (cs := argsP l ρ k x.2) h
   exact VRs.cons (as_env hm hw a1) (argsP_env hm hw l hn a2)
 | .fn f :: l, k, x, us, hn, h => by
   obtain ⟨u, us, rfl, a1, a2⟩ := VRs.inv (v := .fn f []) (cs := argsP l ρ k x) h
   refine VRs.cons ?_ (argsP_env hm hw l hn a2)
   cases a1 with
   | fn hl hh =>
     rename_i us0
     have : us0 = [] := List.length_eq_zero_iff.1 hl.symm
     subst this
     exact .fn (cs := []) rfl (fun i h => by simp at h)
 | .ref r :: l, k, x, us, hn, h => by
   obtain ⟨u, us, rfl, a1, a2⟩ := VRs.inv (v := argK r (ρ k)) (cs := argsP l ρ (k + 1) x.2) h
   exact VRs.cons (argK_to (hn k (Nat.le_refl _) (by simp only [mP]; omega)) a1) (argsP_env hm hw l (fun j a b => hn j (by omega) (by simp only [mP]; omega)) a2)
theorem argsP_refs {ρ : Nat → Nat} : ∀ (l : List PK) {k : Nat} {x : ElP l} {us : List Value} (z : ElP (refs l)), VRs E (argsP l ρ k x) us → ∃ us', VRs E (argsP (refs l) ρ k z) us'
 | [], k, x, us, z, h => ⟨[], VRs.nil⟩
 | .dat c :: l, k, x, us, z, h => by
   obtain ⟨u, us, rfl, a1, a2⟩ := VRs.inv (v := asIV c x.1) (cs := argsP l ρ k x.2) h
   exact argsP_refs l z a2
 | .fn f :: l, k, x, us, z, h => by
   obtain ⟨u, us, rfl, a1, a2⟩ := VRs.inv (v := .fn f []) (cs := argsP l ρ k x) h
   exact argsP_refs l z a2
 | .ref r :: l, k, x, us, z, h => by
   obtain ⟨u, us, rfl, a1, a2⟩ := VRs.inv (v := argK r (ρ k)) (cs := argsP l ρ (k + 1) x.2) h
   obtain ⟨us', h'⟩ := argsP_refs l z.2 a2
   exact ⟨u :: us', VRs.cons a1 h'⟩
end
def rdC : (c : CT) → IS → List IV → Option (ElC c × List Nat × List IV × IS × Nat)
 | .dat c, S, cs => match icl c S cs with
   | some (x, r, S1, w) => some (x, [], r, S1, w)
   | none => none
 | .arr c, S, cs => match cs with
   | v :: r => match coeV S c v with
     | some (.arr id, S1, w) => some ([], [id], r, S1, w)
     | _ => none
   | [] => none
 | .map k v, S, cs => match cs with
   | .map id :: r => match coeM1 S k v (.map id) with
     | some (S1, w) => some ([], [id], r, S1, w)
     | none => none
   | _ => none
def rdR : (r : List CT) → IS → List IV → Option (ElRow r × List Nat × List IV × IS × Nat)
 | [], S, cs => some ((), [], cs, S, 0)
 | c :: l, S, cs => match rdC c S cs with
   | none => none
   | some (x, i1, r1, S1, w1) => match rdR l S1 r1 with
     | none => none
     | some (y, i2, r2, S2, w2) => some ((x, y), i1 ++ i2, r2, S2, w1 ||| w2)
def rdS (c : TC) (S : IS) (v : IV) : Option (Nat × IS × Nat) :=
 match v with
 | .arr id => some (id, S, 2 ^ id)
 | _ => match coeV S c v with
   | some (.arr id, S1, w) => some (id, S1, w)
   | _ => none
def rdP : (l : List PK) → IS → List IV → Option (ElP l × List Nat × List Nat × IS × Nat)
 | [], S, vs => match vs with
   | [] => some ((), [], [], S, 0)
   | _ => none
 | .dat c :: l, S, vs => match vs with
   | v :: vs => cond (fitV c v) (match icl c S (cellsOf v) with
     | some (x, [], S1, w1) => match rdP l S1 vs with
       | some (y, q1, q2, S2, w2) => some ((x, y), q1, q2, S2, w1 ||| w2)
       | none => none
     | _ => none) none
   | [] => none
 | .fn f :: l, S, vs => match vs with
   | .fn g [] :: vs => cond (Nat.beq g f) (rdP l S vs) none
   | _ => none
 | .ref (.sl c) :: l, S, vs => match vs with
   | v :: vs => match rdS c S v with
     | some (id, S1, w1) => match rdP l S1 vs with
       | some (y, q1, q2, S2, w2) => some ((none, y), id :: q1, q2, S2, w1 ||| w2)
       | none => none
     | none => none
   | [] => none
 | .ref (.box r) :: l, S, vs => match vs with
   | .ptr id 0 :: vs => match S.heap.get id with
     | some (.row cs) => match rdR r S cs with
       | some (x, i1, [], S1, w1) => match rdP l S1 vs with
         | some (y, q1, q2, S2, w2) => some ((x, y), id :: q1, i1 ++ q2, S2, 2 ^ id ||| (w1 ||| w2))
         | none => none
       | _ => none
     | _ => none
   | _ => none
section
variable {T : TW} {E : Env} {S : IS}
def Nums (ι : Nat → Nat) (n : Nat) (q : List Nat) : Prop := ∀ (j id : Nat), q[j]? = some id → ι (n + j) = id
theorem Nums.fst {ι : Nat → Nat} {n : Nat} {a b : List Nat} (h : Nums ι n (a ++ b)) : Nums ι n a := fun j id hj => h j id (by rw [List.getElem?_append_left (List.getElem?_eq_some_iff.1 hj).1]; exact hj)
theorem Nums.snd {ι : Nat → Nat} {n : Nat} {a b : List Nat} (h : Nums ι n (a ++ b)) : Nums ι (n + a.length) b := fun j id hj => by
 have := h (a.length + j) id (by rw [List.getElem?_append_right (by omega), Nat.add_sub_cancel_left]; exact hj)
 rwa [← Nat.add_assoc] at this
theorem rdC_sound : ∀ (c : CT) {E : Env} {S : IS} {cs : List IV} {x : ElC c} {ids : List Nat} {r : List IV} {S' : IS} {w : Nat} {us : List Value}, rdC c S cs = some (x, ids, r, S', w) → Pre T E S → tin T.w w → VRs E cs us →
   ∃ E', E'.w = E.w ∧ Post T E S E' S' ∧ Fresh E S E' ∧ ids.length = nC c ∧ (∀ id ∈ ids, E'.A id) ∧ ∃ us1 us2, us = us1 ++ us2 ∧ (∀ ι n, Nums ι n ids → VRs E' (cellC c ι n x) us1) ∧ VRs E' r us2
 | .dat c, E, S, cs, x, ids, r, S', w, us, h, p, hw, hv => by
   simp only [rdC] at h
   split at h <;> cases h
   rename_i h1
   obtain ⟨E1, e1, q1, f1, us1, us2, e2, v1, v2⟩ := icl_sound c h1 p hw hv
   exact ⟨E1, e1, q1, f1, rfl, fun id h => (by cases h), us1, us2, e2, fun ι n _ => v1, v2⟩
 | .arr c, E, S, cs, x, ids, r, S', w, us, h, p, hw, hv => by
   simp only [rdC] at h
   cases cs with
   | nil => cases h
   | cons v cs =>
   simp only at h
   split at h <;> cases h
   rename_i id h1
   obtain ⟨u, us, rfl, a1, a2⟩ := hv.inv
   obtain ⟨E1, e1, q1, f1, v1⟩ := coeV_sound p h1 hw a1
   have hA : E1.A id := by cases v1; assumption
   refine ⟨E1, e1, q1, f1, rfl, fun id' h => by rw [List.mem_singleton.1 h]; exact hA, [u], us, rfl, fun ι n hn => ?_, a2.mono (q1.env p)⟩
   have := hn 0 id rfl
   simp only [cellC]
   rw [Nat.add_zero] at this
   rw [this]; exact VRs.cons v1 VRs.nil
 | .map kc vc, E, S, cs, x, ids, r, S', w, us, h, p, hw, hv => by
   cases cs with
   | nil => cases h
   | cons v cs =>
   cases v <;> try (cases h; done)
   rename_i id
   simp only [rdC] at h
   split at h <;> cases h
   rename_i h1
   obtain ⟨u, us, rfl, a1, a2⟩ := hv.inv
   obtain ⟨E1, e1, q1, f1⟩ := coeM1_sound p h1 hw a1
   have v1 := a1.mono (q1.env p)
   have hA : E1.A id := by cases v1; assumption
   refine ⟨E1, e1, q1, f1, rfl, fun id' h => by rw [List.mem_singleton.1 h]; exact hA, [u], us, rfl, fun ι n hn => ?_, a2.mono (q1.env p)⟩
   have := hn 0 id rfl
   simp only [cellC]
   rw [Nat.add_zero] at this
   rw [this]; exact VRs.cons v1 VRs.nil
theorem rdR_sound : ∀ (c : List CT) {E : Env} {S : IS} {cs : List IV} {x : ElRow c} {ids : List Nat} {r : List IV} {S' : IS} {w : Nat} {us : List Value}, rdR c S cs = some (x, ids, r, S', w) → Pre T E S → tin T.w w → VRs E cs us →
   ∃ E', E'.w = E.w ∧ Post T E S E' S' ∧ Fresh E S E' ∧ ids.length = nR c ∧ (∀ id ∈ ids, E'.A id) ∧ ∃ us1 us2, us = us1 ++ us2 ∧ (∀ ι n, Nums ι n ids → VRs E' (cellR c ι n x) us1) ∧ VRs E' r us2
 | [], E, S, cs, x, ids, r, S', w, us, h, p, hw, hv => by
   cases h
   exact ⟨E, rfl, Post.refl p, Fresh.refl E S, rfl, fun id h => (by cases h), [], us, rfl, fun _ _ _ => VRs.nil, hv⟩
 | c :: l, E, S, cs, x, ids, r, S', w, us, h, p, hw, hv => by
   simp only [rdR] at h
   split at h
   · cases h
   rename_i x1 i1 r1 S1 w1 h1
   split at h <;> cases h
   rename_i y i2 w2 h2
   obtain ⟨g1, g2⟩ := tin_or hw
   obtain ⟨E1, e1, q1, f1, l1, A1, us1, us2, rfl, v1, v2⟩ := rdC_sound c h1 p g1 hv
   obtain ⟨E2, e2, q2, f2, l2, A2, us3, us4, rfl, v3, v4⟩ := rdR_sound l h2 (q1.pre p) g2 v2
   have hle := q2.env (q1.pre p)
   refine ⟨E2, e2.trans e1, Post.trans p q1 f1 q2, f1.trans f2 q1.le, by simp [l1, l2, nR], fun id h => ?_, us1 ++ us3, us4, (List.append_assoc _ _ _).symm, fun ι n hn => ?_, v4⟩
   · rcases List.mem_append.1 h with h | h
     · exact (hle.alw _ (A1 id h)).1
     · exact A2 id h
   · refine VRs.append ((v1 ι n hn.fst).mono hle) (v3 ι _ ?_)
     rw [← l1]; exact hn.snd
def RowsAt (E : Env) (rows : List Nat) (os : List IObj) : Prop := ∀ (j : Nat) (o : IObj), os[j]? = some o → ∃ id, rows[j]? = some id ∧ E.A id ∧ (o.blk = true → E.hb id = true) ∧ OR E id o
theorem rdS_sound {c : TC} {v : IV} {id : Nat} {S' : IS} {w : Nat} {u : Value} (h : rdS c S v = some (id, S', w)) (p : Pre T E S) (hw : tin T.w w) (hv : VR E v u) :
   ∃ E', E'.w = E.w ∧ Post T E S E' S' ∧ Fresh E S E' ∧ E'.A id ∧ VR E' (.arr id) u := by
 unfold rdS at h
 split at h
 · cases h
   have hA : E.A id := by cases hv; assumption
   exact ⟨E, rfl, Post.refl p, Fresh.refl E S, hA, hv⟩
 · split at h <;> cases h
   rename_i h1
   obtain ⟨E1, e1, q1, f1, v1⟩ := coeV_sound p h1 hw hv
   have hA : E1.A id := by cases v1; assumption
   exact ⟨E1, e1, q1, f1, hA, v1⟩
theorem rdP_sound : ∀ (l : List PK) {E : Env} {S : IS} {vs : List IV} {x : ElP l} {rows subs : List Nat} {S' : IS} {w : Nat} {us : List Value}, rdP l S vs = some (x, rows, subs, S', w) → Pre T E S → tin T.w w → VRs E vs us →
   ∃ E', E'.w = E.w ∧ Post T E S E' S' ∧ Fresh E S E' ∧ rows.length = mP l ∧ subs.length = nP l ∧ (∀ id ∈ subs, E'.A id) ∧ (∀ ρ k, Nums ρ k rows → VRs E' (argsP l ρ k x) us) ∧ (∀ ι n, Nums ι n subs → RowsAt E' rows (rowsP l ι n x))
 | [], E, S, vs, x, rows, subs, S', w, us, h, p, hw, hv => by
   cases vs with
   | cons v vs => cases h
   | nil => cases h; exact ⟨E, rfl, Post.refl p, Fresh.refl E S, rfl, rfl, fun id h => (by cases h), fun _ _ _ => hv, fun _ _ _ j o h => (by simp [rowsP] at h)⟩
 | .dat c :: l, E, S, vs, x, rows, subs, S', w, us, h, p, hw, hv => by
   cases vs with
   | nil => cases h
   | cons v vs =>
   simp only [rdP] at h
   cases hb : fitV c v with
   | false => rw [hb] at h; cases h
   | true =>
   rw [hb, cond_true] at h
   split at h <;> try cases h
   rename_i x1 S1 w1 h1
   split at h <;> cases h
   rename_i y w2 h2
   obtain ⟨g1, g2⟩ := tin_or hw
   obtain ⟨u, us, rfl, a1, a2⟩ := hv.inv
   obtain ⟨E1, e1, q1, f1, us1, us2, e2, v1, v2⟩ := icl_sound c h1 p g1 (a1.cells (fit_known hb))
   have : us2 = [] := by have := v2.1; simpa using this.symm
   subst this
   rw [List.append_nil] at e2
   rw [← e2] at v1
   have b1 := fit_as hb a1 v1
   obtain ⟨E2, e3, q2, f2, l1, l2, A2, b2, b3⟩ := rdP_sound l h2 (q1.pre p) g2 (a2.mono (q1.env p))
   exact ⟨E2, e3.trans e1, Post.trans p q1 f1 q2, f1.trans f2 q1.le, l1, l2, A2, fun ρ k hk => VRs.cons (b1.mono (q2.env (q1.pre p))) (b2 ρ k hk), b3⟩
 | .fn f :: l, E, S, vs, x, rows, subs, S', w, us, h, p, hw, hv => by
   simp only [rdP] at h
   split at h <;> try cases h
   rename_i g vs
   cases hb : Nat.beq g f with
   | false => rw [hb] at h; cases h
   | true =>
   rw [hb] at h
   have h : rdP l S vs = some (x, rows, subs, S', w) := h
   obtain rfl := Nat.eq_of_beq_eq_true hb
   obtain ⟨u, us, rfl, a1, a2⟩ := hv.inv
   obtain ⟨E2, e3, q2, f2, l1, l2, A2, b2, b3⟩ := rdP_sound l h p hw a2
   exact ⟨E2, e3, q2, f2, l1, l2, A2, fun ρ k hk => VRs.cons (a1.mono (q2.env p)) (b2 ρ k hk), b3⟩
 | .ref (.sl c) :: l, E, S, vs, x, rows, subs, S', w, us, h, p, hw, hv => by
   cases vs with
   | nil => cases h
   | cons v vs =>
   simp only [rdP] at h
   split at h <;> try cases h
   rename_i id S1 w1 h1
   split at h <;> cases h
   rename_i y q1 w2 h2
   obtain ⟨g1, g2⟩ := tin_or hw
   obtain ⟨u, us, rfl, a1, a2⟩ := hv.inv
   obtain ⟨E1, e1, p1, f1, A1, v1⟩ := rdS_sound h1 p g1 a1
   have hle1 := p1.env p
   obtain ⟨E2, e3, p2, f2, l2, l3, A2, b2, b3⟩ := rdP_sound l h2 (p1.pre p) g2 (a2.mono hle1)
   have hle2 := p2.env (p1.pre p)
   have v2 := v1.mono hle2
   have hA2 : E2.A id := by cases v2; assumption
   refine ⟨E2, e3.trans e1, Post.trans p p1 f1 p2, f1.trans f2 p1.le, by simp [l2, mP], by simp [l3, nP, nK], A2, fun ρ k hk => ?_, fun ι n hn j o hj => ?_⟩
   · refine VRs.cons ?_ (b2 ρ (k + 1) fun j id' hj => ?_)
     · have := hk 0 id rfl
       rw [Nat.add_zero] at this
       rw [this]; exact v2
     · have := hk (j + 1) id' (by simpa using hj)
       rwa [show k + (j + 1) = k + 1 + j by omega] at this
   · cases j with
     | zero =>
       simp only [rowsP, List.getElem?_cons_zero, Option.some.injEq] at hj
       subst hj
       exact ⟨id, rfl, hA2, fun h => (by cases h), trivial⟩
     | succ j =>
       simp only [rowsP, List.getElem?_cons_succ] at hj
       obtain ⟨id', d1, d2, d3, d4⟩ := b3 ι _ hn j o hj
       exact ⟨id', (by rw [List.getElem?_cons_succ]; exact d1), d2, d3, d4⟩
 | .ref (.box r) :: l, E, S, vs, x, rows, subs, S', w, us, h, p, hw, hv => by
   cases vs with
   | nil => cases h
   | cons v vs =>
   cases v <;> try (cases h; done)
   rename_i id off
   cases off with
   | succ _ => cases h
   | zero =>
   simp only [rdP] at h
   split at h <;> try cases h
   rename_i cs ho
   split at h <;> try cases h
   rename_i x1 i1 S1 w1 h1
   split at h <;> cases h
   rename_i y q1 q2 w2 h2
   obtain ⟨g0, g3⟩ := tin_or hw
   obtain ⟨g1, g2⟩ := tin_or g3
   have hT := tin_bit g0
   obtain ⟨u, us, rfl, a1, a2⟩ := hv.inv
   have hA : E.A id := by cases a1; assumption
   obtain ⟨cells, t, k1, k2, k3, k4⟩ := p.st.objs id (T.sub _ hT) hA _ ho
   have hblk := p.st.blk id (T.sub _ hT) hA _ ho rfl
   obtain ⟨E1, e1, p1, f1, l1, A1, us1, us2, e2, v1, v2⟩ := rdR_sound r h1 p g1 k4
   have : us2 = [] := by have := v2.1; simpa using this.symm
   subst this
   rw [List.append_nil] at e2
   have hle1 := p1.env p
   obtain ⟨E2, e3, p2, f2, l2, l3, A2, b2, b3⟩ := rdP_sound l h2 (p1.pre p) g2 (a2.mono hle1)
   have hle2 := p2.env (p1.pre p)
   obtain ⟨c1, c2, c3, c4, c5⟩ := (hle1.trans hle2).alw id hA
   refine ⟨E2, e3.trans e1, Post.trans p p1 f1 p2, f1.trans f2 p1.le, by simp [l2, mP], by simp [l1, l3, nP, nK], fun id' h => ?_, fun ρ k hk => ?_, fun ι n hn j o hj => ?_⟩
   · rcases List.mem_append.1 h with h | h
     · exact (hle2.alw _ (A1 id' h)).1
     · exact A2 id' h
   · refine VRs.cons ?_ (b2 ρ (k + 1) fun j id' hj => ?_)
     · have := hk 0 id rfl
       rw [Nat.add_zero] at this
       rw [this]; exact a1.mono (hle1.trans hle2)
     · have := hk (j + 1) id' (by simpa using hj)
       rwa [show k + (j + 1) = k + 1 + j by omega] at this
   · cases j with
     | zero =>
       simp only [rowsP, List.getElem?_cons_zero, Option.some.injEq] at hj
       subst hj
       refine ⟨id, rfl, c1, fun _ => c5.trans hblk, ?_⟩
       have hv1 := (v1 ι n hn.fst).mono hle2
       have hl : (cellR r ι n x1).length = cs.length := by rw [hv1.1, ← e2, ← k4.1]
       refine ⟨cells, t, by rw [c2, e3, e1]; exact k1, by rw [c3]; exact k2, by rw [hl]; exact k3, ?_⟩
       rw [hl, e2]; exact hv1
     | succ j =>
       simp only [rowsP, List.getElem?_cons_succ] at hj
       have hn2 : Nums ι (n + nK (.box r)) q2 := by show Nums ι (n + nR r) q2; rw [← l1]; exact hn.snd
       obtain ⟨id', d1, d2, d3, d4⟩ := b3 ι _ hn2 j o hj
       exact ⟨id', (by rw [List.getElem?_cons_succ]; exact d1), d2, d3, d4⟩
end
def recast2 (k v k' v' : TC) (l : List (El k × El v)) : Option (List (El k' × El v')) :=
 if h : TC.beq k k' = true ∧ TC.beq v v' = true then some (TC.beq_eq h.1 ▸ TC.beq_eq h.2 ▸ l) else none
theorem recast2_some {k v k' v' : TC} {l : List (El k × El v)} {l' : List (El k' × El v')} (h : recast2 k v k' v' l = some l') : IObj.tmap k v l = .tmap k' v' l' := by
 unfold recast2 at h
 split at h
 · rename_i e
   have e1 := TC.beq_eq e.1
   have e2 := TC.beq_eq e.2
   subst e1; subst e2
   cases h; rfl
 · cases h
theorem recast_obj {c d : TC} {l : List (El c)} {l' : List (El d)} (h : recast c d l = some l') : IObj.arr c l = .arr d l' := by
 obtain ⟨rfl, rfl⟩ := recast_some h; rfl
def fiC : (c : CT) → List Nat → IS → ElC c → Option (ElC c × List Nat)
 | .dat _, q, _, x => some (x, q)
 | .arr c, q, S, _ => match q with
   | id :: q => match S.heap.get id with
     | some (.arr c' l) => match recast c' c l with
       | some l' => some (l', q)
       | none => none
     | _ => none
   | [] => none
 | .map k v, q, S, _ => match q with
   | id :: q => match S.heap.get id with
     | some (.tmap k' v' es) => match recast2 k' v' k v es with
       | some l' => some (l', q)
       | none => none
     | _ => none
   | [] => none
def fiR : (r : List CT) → List Nat → IS → ElRow r → Option (ElRow r × List Nat)
 | [], q, _, _ => some ((), q)
 | c :: cs, q, S, x => match fiC c q S x.1 with
   | none => none
   | some (x1, q1) => match fiR cs q1 S x.2 with
     | none => none
     | some (x2, q2) => some ((x1, x2), q2)
def rowB (S : IS) (id : Nat) : Bool := match S.heap.get id with
 | some (.row _) => true
 | _ => false
theorem rowB_spec {S : IS} {id : Nat} (h : rowB S id = true) : ∃ cs, S.H id = some (.row cs) := by
 unfold rowB at h
 split at h
 · rename_i cs ho; exact ⟨cs, ho⟩
 · cases h
def fiS (c : TC) (id : Nat) (S : IS) : Option (Option (List (El c))) := match S.heap.get id with
 | some (.arr c' l) => match recast c' c l with
   | some l' => some (some l')
   | none => none
 | some .dead => some none
 | _ => none
def fiP : (l : List PK) → List Nat → List Nat → IS → ElP l → Option (ElP l)
 | [], _, _, _, _ => some ()
 | .dat _ :: l, r, q, S, x => match fiP l r q S x.2 with
   | some y => some (x.1, y)
   | none => none
 | .fn _ :: l, r, q, S, x => fiP l r q S x
 | .ref (.box k) :: l, r, q, S, x => match r with
   | id :: r => cond (rowB S id) (match fiR k q S x.1 with
     | none => none
     | some (x1, q1) => match fiP l r q1 S x.2 with
       | some y => some (x1, y)
       | none => none) none
   | [] => none
 | .ref (.sl c) :: l, r, q, S, x => match r with
   | id :: r => match fiS c id S with
     | none => none
     | some x1 => match fiP l r q S x.2 with
       | some y => some (x1, y)
       | none => none
   | [] => none
theorem fiC_spec {S : IS} : ∀ (c : CT) {q q' : List Nat} {x x' : ElC c}, fiC c q S x = some (x', q') → (∀ ι n, cellC c ι n x' = cellC c ι n x) ∧ ∃ q1, q = q1 ++ q' ∧ q1.length = nC c ∧ ∀ j : Nat, (subC c x')[j]? = (q1[j]?).bind fun id => S.heap.get id
 | .dat c, q, q', x, x', h => by cases h; exact ⟨fun _ _ => rfl, [], rfl, rfl, fun j => by simp [subC]⟩
 | .arr c, q, q', x, x', h => by
   cases q with
   | nil => cases h
   | cons id q =>
   simp only [fiC] at h
   split at h <;> try cases h
   rename_i c' l ho
   split at h <;> cases h
   rename_i hl
   refine ⟨fun _ _ => rfl, [id], rfl, rfl, fun j => ?_⟩
   cases j with
   | zero => simp only [subC, List.getElem?_cons_zero, Option.bind_some, ho, recast_obj hl]
   | succ j => simp [subC]
 | .map k v, q, q', x, x', h => by
   cases q with
   | nil => cases h
   | cons id q =>
   simp only [fiC] at h
   split at h <;> try cases h
   rename_i k' v' es ho
   split at h <;> cases h
   rename_i hl
   refine ⟨fun _ _ => rfl, [id], rfl, rfl, fun j => ?_⟩
   cases j with
   | zero => simp only [subC, List.getElem?_cons_zero, Option.bind_some, ho, recast2_some hl]
   | succ j => simp [subC]
theorem get_app {α β : Type} {f : α → Option β} {a1 a2 : List β} {q1 q2 : List α} (hl : a1.length = q1.length) (h1 : ∀ j : Nat, a1[j]? = (q1[j]?).bind f) (h2 : ∀ j : Nat, a2[j]? = (q2[j]?).bind f) (j : Nat) :
   (a1 ++ a2)[j]? = ((q1 ++ q2)[j]?).bind f := by
 by_cases h : j < a1.length
 · rw [List.getElem?_append_left h, List.getElem?_append_left (by omega), h1]
 · rw [List.getElem?_append_right (by omega), List.getElem?_append_right (by omega), h2, hl]
theorem fiR_spec {S : IS} : ∀ (c : List CT) {q q' : List Nat} {x x' : ElRow c}, fiR c q S x = some (x', q') → (∀ ι n, cellR c ι n x' = cellR c ι n x) ∧ ∃ q1, q = q1 ++ q' ∧ q1.length = nR c ∧ ∀ j : Nat, (subR c x')[j]? = (q1[j]?).bind fun id => S.heap.get id
 | [], q, q', x, x', h => by cases h; exact ⟨fun _ _ => rfl, [], rfl, rfl, fun j => by simp [subR]⟩
 | c :: cs, q, q', x, x', h => by
   simp only [fiR] at h
   split at h
   · cases h
   rename_i x1 q1 h1
   split at h <;> cases h
   rename_i x2 h2
   obtain ⟨a1, p1, rfl, a2, a3⟩ := fiC_spec c h1
   obtain ⟨b1, p2, rfl, b2, b3⟩ := fiR_spec cs h2
   refine ⟨fun ι n => by simp only [cellR, a1, b1], p1 ++ p2, (List.append_assoc _ _ _).symm, by simp [a2, b2, nR], fun j => ?_⟩
   exact get_app (by rw [subC_len, a2]) a3 b3 j
theorem fiS_spec {c : TC} {id : Nat} {S : IS} {x : Option (List (El c))} (h : fiS c id S = some x) (ι : Nat → Nat) (n : Nat) : S.heap.get id = some (objK (.sl c) ι n x) := by
 unfold fiS at h
 split at h <;> try cases h
 · rename_i c' l ho
   split at h <;> cases h
   rename_i l' hl
   rw [ho]; exact congrArg some (recast_obj hl)
 · rename_i ho; exact ho
theorem fiP_spec {S : IS} : ∀ (l : List PK) {r q : List Nat} {x x' : ElP l}, fiP l r q S x = some x' → q.length = nP l →
   (∀ (ι : Nat → Nat) (n j : Nat) (o : IObj), (rowsP l ι n x')[j]? = some o → ∃ id, r[j]? = some id ∧ (((rowsP l ι n x)[j]? = some o ∧ rowB S id = true) ∨ S.heap.get id = some o)) ∧ (∀ ρ k, argsP l ρ k x' = argsP l ρ k x) ∧ ∀ j : Nat, (subsP l x')[j]? = (q[j]?).bind fun id => S.heap.get id
 | [], r, q, x, x', h, hl => by
   cases h
   have : q = [] := by simpa [nP] using hl
   subst this
   exact ⟨fun _ _ j o hj => by simp [rowsP] at hj, fun _ _ => rfl, fun j => by simp [subsP]⟩
 | .dat _ :: l, r, q, x, x', h, hl => by
   simp only [fiP] at h
   split at h <;> cases h
   rename_i y h1
   obtain ⟨a1, a2, a3⟩ := fiP_spec l h1 hl
   exact ⟨fun ι n => a1 ι n, fun ρ k => by simp only [argsP, a2], a3⟩
 | .fn f :: l, r, q, x, x', h, hl => by
   obtain ⟨a1, a2, a3⟩ := fiP_spec l h hl
   exact ⟨fun ι n => a1 ι n, fun ρ k => congrArg (fun q => IV.fn f [] :: q) (a2 ρ k), a3⟩
 | .ref (.box k) :: l, r, q, x, x', h, hl => by
   cases r with
   | nil => cases h
   | cons id r =>
   simp only [fiP] at h
   cases hb : rowB S id with
   | false => rw [hb] at h; cases h
   | true =>
   rw [hb, cond_true] at h
   split at h
   · cases h
   rename_i x1 q1 h1
   split at h <;> cases h
   rename_i y h2
   obtain ⟨a1, p1, rfl, a2, a3⟩ := fiR_spec k h1
   obtain ⟨b1, b2, b3⟩ := fiP_spec l h2 (by simp only [List.length_append, nP, nK] at hl; omega)
   refine ⟨fun ι n j o hj => ?_, fun ρ k => by simp only [argsP, b2], fun j => ?_⟩
   · cases j with
     | zero =>
       simp only [rowsP, List.getElem?_cons_zero, Option.some.injEq] at hj
       refine ⟨id, rfl, .inl ⟨?_, hb⟩⟩
       rw [← hj]
       simp only [rowsP, List.getElem?_cons_zero, objK, a1]
     | succ j => exact b1 ι _ j o hj
   · exact get_app ((subR_len k x1).trans a2.symm) a3 b3 j
 | .ref (.sl c) :: l, r, q, x, x', h, hl => by
   cases r with
   | nil => cases h
   | cons id r =>
   simp only [fiP] at h
   split at h
   · cases h
   rename_i x1 h1
   split at h <;> cases h
   rename_i y h2
   obtain ⟨b1, b2, b3⟩ := fiP_spec l h2 (by simpa only [nP, nK, Nat.zero_add] using hl)
   refine ⟨fun ι n j o hj => ?_, fun ρ k => by simp only [argsP, b2], b3⟩
   cases j with
   | zero =>
     simp only [rowsP, List.getElem?_cons_zero, Option.some.injEq] at hj
     exact ⟨id, rfl, .inr (by rw [← hj]; exact fiS_spec h1 ι n)⟩
   | succ j => exact b1 ι _ j o hj
def RowsL (E : Env) (S : IS) (rows : List Nat) (os : List IObj) : Prop := ∀ (j : Nat) (o : IObj), os[j]? = some o → ∃ id, rows[j]? = some id ∧ E.A id ∧ (o.blk = true → E.hb id = true) ∧ OR E id o ∧ (o.live = true → ∃ o0, S.H id = some o0 ∧ o0.live = true)
theorem fill_rows {T : TW} {E : Env} {S : IS} {l : List PK} {rows q : List Nat} {x x' : ElP l} (h : fiP l rows q S x = some x') (hl : q.length = nP l) (p : Pre T E S) (hT : ∀ id ∈ rows, T.r id) {ι : Nat → Nat} {n : Nat}
   (hr : RowsAt E rows (rowsP l ι n x)) : RowsL E S rows (rowsP l ι n x') := fun j o hj => by
 obtain ⟨id, d1, d2⟩ := (fiP_spec l h hl).1 ι n j o hj
 rcases d2 with ⟨d2, d3⟩ | d2
 · obtain ⟨id', g1, g2, g3, g4⟩ := hr j o d2
   rw [d1] at g1; cases g1
   obtain ⟨cs, hcs⟩ := rowB_spec d3
   exact ⟨id, d1, g2, g3, g4, fun _ => ⟨_, hcs, rfl⟩⟩
 · have hj2 : j < (rowsP l ι n x).length := by
     have := (List.getElem?_eq_some_iff.1 hj).1
     rw [rowsP_len] at this ⊢; exact this
   obtain ⟨id', g1, g2, g3, g4⟩ := hr j _ (List.getElem?_eq_getElem hj2)
   rw [d1] at g1; cases g1
   have hTr := hT id (List.mem_of_getElem? d1)
   exact ⟨id, d1, g2, fun hb => p.st.blk id hTr g2 o d2 hb, p.st.objs id hTr g2 o d2, fun hl => ⟨o, d2, hl⟩⟩
end Go.Jx
end
section
namespace Go.Jx
open Go Go.Sx Go.RowKit
universe u
structure SmR where
 ps : List PK
 rts : List (Bool × TC)
 f : ElP ps → Option (ElR rts × ElP (refs ps))
def RetB (B : Nat) (T : TW) (E : Env) (S : IS) (r : Res) : Ending → World → Prop := fun e w' => ∃ u E', e = .returned u ∧ E'.w = w' ∧ VR E' r.v u ∧ PostB B T E S E' r.S
def newO (s : SmR) (y : ElR s.rts) (z : ElP (refs s.ps)) : List IObj := subsP (refs s.ps) z ++ resO s.rts y
def ScB (s : SmR) (y : ElR s.rts) (z : ElP (refs s.ps)) : IS := addO (rowsP (refs s.ps) idN (mP s.ps) z ++ newO s y z) S0
def vB (s : SmR) (base : Nat) (y : ElR s.rts) : IV := tupI (resV s.rts (base + nP (refs s.ps)) y)
structure ConR (P : Program) (f : Nat) (s : SmR) : Prop where
 callable : Callable P f
 calls : ∀ (E : Env) (x : ElP s.ps) (us : List Value) (y : ElR s.rts) (z : ElP (refs s.ps)), s.f x = some (y, z) → Pre T0 E (Sc s.ps x) → VRs E (argsP s.ps idN 0 x) us →
   CallsIn Fence.wide 0 P f us.toArray E.w (RetB (mP s.ps) T0 E (Sc s.ps x) ⟨vB s (mP s.ps) y, ScB s y z, 0, 0⟩)
theorem refs_m : ∀ l : List PK, mP (refs l) = mP l
 | [] => rfl
 | .dat _ :: l => refs_m l
 | .fn _ :: l => refs_m l
 | .ref _ :: l => by simp only [refs, mP, refs_m l]
def bitsL : List Nat → Nat
 | [] => 0
 | id :: l => 2 ^ id ||| bitsL l
theorem bitsL_mem {T : Nat → Prop} : ∀ {l : List Nat}, tin T (bitsL l) → ∀ id ∈ l, T id
 | [], _, id, h => by cases h
 | i :: l, ht, id, h => by
   obtain ⟨h1, h2⟩ := tin_or ht
   rcases List.mem_cons.1 h with h | h
   · rw [h]; exact tin_bit h1
   · exact bitsL_mem h2 id h
theorem bitsL_bit : ∀ {l : List Nat} {id : Nat}, id ∈ l → (bitsL l).testBit id = true
 | [], id, h => by cases h
 | i :: l, id, h => by
   simp only [bitsL, Nat.testBit_or, Bool.or_eq_true]
   rcases List.mem_cons.1 h with h | h
   · rw [h]; exact .inl (Nat.testBit_two_pow_self)
   · exact .inr (bitsL_bit h)
def killL : List Nat → IS → IS
 | [], S => S
 | id :: l, S => killL l (S.set id .dead)
def setL : List Nat → List IObj → IS → IS
 | id :: l, o :: os, S => setL l os (S.set id o)
 | _, _, S => S
theorem killL_next : ∀ (l : List Nat) (S : IS), (killL l S).next = S.next
 | [], S => rfl
 | id :: l, S => killL_next l _
theorem setL_next : ∀ (l : List Nat) (os : List IObj) (S : IS), (setL l os S).next = S.next
 | [], os, S => rfl
 | _ :: _, [], S => rfl
 | id :: l, o :: os, S => setL_next l os _
theorem killL_out : ∀ {l : List Nat} {S : IS} {k : Nat}, k ∉ l → (killL l S).H k = S.H k
 | [], S, k, h => rfl
 | id :: l, S, k, h => by
   simp only [List.mem_cons, not_or] at h
   unfold killL
   rw [killL_out h.2, IS.H_set, up_ne _ _ h.1]
theorem killL_in : ∀ {l : List Nat} {S : IS} {k : Nat}, k ∈ l → (killL l S).H k = some .dead
 | [], S, k, h => by cases h
 | id :: l, S, k, h => by
   unfold killL
   by_cases hk : k ∈ l
   · exact killL_in hk
   · rw [killL_out hk, IS.H_set]
     rcases List.mem_cons.1 h with h | h
     · rw [h, up_self]
     · exact absurd h hk
theorem setL_out : ∀ {l : List Nat} {os : List IObj} {S : IS} {k : Nat}, k ∉ l → (setL l os S).H k = S.H k
 | [], os, S, k, h => rfl
 | _ :: _, [], S, k, h => rfl
 | id :: l, o :: os, S, k, h => by
   simp only [List.mem_cons, not_or] at h
   unfold setL
   rw [setL_out h.2, IS.H_set, up_ne _ _ h.1]
theorem setL_in : ∀ {l : List Nat} {os : List IObj} {S : IS} {j k : Nat}, l.Nodup → os.length = l.length → l[j]? = some k → (setL l os S).H k = os[j]?
 | [], os, S, j, k, hn, hl, h => by simp at h
 | _ :: _, [], S, j, k, hn, hl, h => by simp at hl
 | id :: l, o :: os, S, j, k, hn, hl, h => by
   obtain ⟨h1, h2⟩ := List.nodup_cons.1 hn
   unfold setL
   cases j with
   | zero =>
     simp only [List.getElem?_cons_zero, Option.some.injEq] at h
     subst h
     rw [setL_out h1, IS.H_set, up_self]; rfl
   | succ j =>
     rw [List.getElem?_cons_succ] at h ⊢
     exact setL_in h2 (by simpa using hl) h
def backS (s : SmR) (n : Nat) (rows subs : List Nat) (y : ElR s.rts) (z : ElP (refs s.ps)) (S : IS) : IS :=
 addO (newO s y z) (setL rows (rowsP (refs s.ps) (fun k => n + (k - mP s.ps)) (mP s.ps) z) (killL subs S))
def exR (s : SmR) (vs : List IV) (S : IS) : Option Res :=
 match rdP s.ps S vs with
 | none => none
 | some (x0, rows, subs, S1, w) => cond (ndB (rows ++ subs)) (match fiP s.ps rows subs S1 x0 with
   | none => none
   | some x => match s.f x with
     | none => none
     | some (y, z) => some ⟨vB s S1.next y, backS s S1.next rows subs y z S1, 0, (w ||| bitsL (rows ++ subs)) ||| cond (Nat.blt 0 rows.length) 0 (2 ^ S1.next)⟩) none
theorem subsP_dat : ∀ (l : List PK) (x : ElP l) (o : IObj), o ∈ subsP l x → datO o = true := by
 have hr : ∀ (r : List CT) (x : ElRow r) (o : IObj), o ∈ subR r x → datO o = true := by
   intro r
   induction r with
   | nil => intro x o h; cases h
   | cons c cs ih =>
     intro x o h
     rcases List.mem_append.1 h with h | h
     · cases c with
       | dat c => cases h
       | arr c => rw [List.mem_singleton.1 h]; rfl
       | map k v => rw [List.mem_singleton.1 h]; rfl
     · exact ih x.2 o h
 intro l
 induction l with
 | nil => intro x o h; cases h
 | cons p l ih =>
   intro x o h
   cases p with
   | dat c => exact ih x.2 o h
   | fn f => exact ih x o h
   | ref r =>
     rcases List.mem_append.1 h with h | h
     · cases r with
       | box r => exact hr r x.1 o h
       | sl c => cases h
     · exact ih x.2 o h
theorem newO_dat {s : SmR} {y : ElR s.rts} {z : ElP (refs s.ps)} {o : IObj} (h : o ∈ newO s y z) : datO o = true := by
 rcases List.mem_append.1 h with h | h
 · exact subsP_dat _ _ o h
 · obtain ⟨c, l, rfl⟩ := resO_live _ _ _ h; rfl
theorem resV_env {E E' : Env} (hm : ∀ b, b ∈ E'.m → b ∈ E.m) (hw : E'.w = E.w) : ∀ (cs : List (Bool × TC)) {k k' : Nat} {y : ElR cs} {us : List Value}, (∀ j, NumTo E E' (k + j) (k' + j)) → VRs E (resV cs k y) us → VRs E' (resV cs k' y) us
 | [], k, k', y, us, hn, h => by have := h.1; cases us with | nil => exact VRs.nil | cons _ _ => simp [resV] at this
 | (true, c) :: cs, k, k', y, us, hn, h => by
   obtain ⟨u, us, rfl, a1, a2⟩ := VRs.inv (v := .arr k) (cs := resV cs (k + 1) y.2) h
   refine VRs.cons ?_ (resV_env hm hw cs (fun j => ?_) a2)
   · cases a1 with
     | arr hA hh =>
       obtain ⟨b1, b2, b3, b4, b5⟩ := hn 0 hA
       exact .arr b1 (b4.trans hh)
   · have := hn (j + 1)
     rwa [show k + (j + 1) = k + 1 + j by omega, show k' + (j + 1) = k' + 1 + j by omega] at this
 | (false, c) :: cs, k, k', y, us, hn, h => by
   obtain ⟨u, us, rfl, a1, a2⟩ := VRs.inv (v := asIV c y.1) (cs := resV cs k y.2) h
   exact VRs.cons (as_env hm hw a1) (resV_env hm hw cs hn a2)
theorem resV_len : ∀ (cs : List (Bool × TC)) (i : Nat) (y : ElR cs), (resV cs i y).length = cs.length
 | [], _, _ => rfl
 | (true, _) :: cs, i, y => by simp only [resV, List.length_cons, resV_len cs]
 | (false, _) :: cs, i, y => by simp only [resV, List.length_cons, resV_len cs]
theorem tup_to {E E' : Env} {vs ws : List IV} {u : Value} (h : ∀ us, VRs E vs us → VRs E' ws us) (hl : vs.length = ws.length) (hu : VR E (tupI vs) u) : VR E' (tupI ws) u := by
 match vs, ws, hl with
 | [], [], _ =>
   cases hu with
   | tup hl hh => have := h _ ⟨hl, hh⟩; exact .tup this.1 this.2
 | [v], [w], _ =>
   have := h [u] (VRs.cons hu VRs.nil)
   exact this.2 0 (by simp) (by simp)
 | v1 :: v2 :: vs, w1 :: w2 :: ws, _ =>
   cases hu with
   | tup hl hh => have := h _ ⟨hl, hh⟩; exact .tup this.1 this.2
section
variable {P : Program} {T : TW} {E : Env} {S : IS}
theorem exR_sound {f : Nat} {s : SmR} (hc : ConR P f s) {vs : List IV} {r : Res} (h : exR s vs S = some r) {us : List Value} (p : Pre T E S) (hwr : tin T.w r.wr) (hv : VRs E vs us) :
   Callable P f ∧ CallsIn Fence.wide 0 P f us.toArray E.w (RetE T E S r) := by
 refine ⟨hc.callable, ?_⟩
 unfold exR at h
 split at h
 · cases h
 rename_i x0 rows subs S1 w hrd
 cases hb1 : ndB (rows ++ subs) with
 | false => rw [hb1] at h; cases h
 | true =>
 rw [hb1, cond_true] at h
 split at h
 · cases h
 rename_i x hfi
 split at h
 · cases h
 rename_i y z hf
 cases h
 obtain ⟨g1, g2⟩ := tin_or (tin_or hwr).1
 obtain ⟨E1, e1, q1, f1, l1, l2, A2, b2, b3⟩ := rdP_sound s.ps hrd p g1 hv
 have p1 := q1.pre p
 obtain ⟨_, c2, c3⟩ := fiP_spec s.ps hfi l2
 have hnd := ndB_nodup hb1
 have hT := bitsL_mem g2
 generalize hq : rows ++ subs = q at hnd hT
 have hql : q.length = mP s.ps + nP s.ps := by rw [← hq, List.length_append, l1, l2]
 have hnq : Nums (ol 0 q) 0 q := fun j id hj => by
   rw [Nat.zero_add]
   unfold ol; rw [if_neg (by omega), Nat.sub_zero, List.getD_eq_getElem?_getD, hj]; rfl
 have hnr : Nums (ol 0 q) 0 rows := by rw [← hq] at hnq ⊢; exact hnq.fst
 have hns : Nums (ol 0 q) (mP s.ps) subs := by
   have := hnq
   rw [← hq] at this
   have := this.snd
   rwa [Nat.zero_add, l1, hq] at this
 have hTr : ∀ id ∈ rows, T.r id := fun id hid => T.sub _ (hT id (by rw [← hq]; exact List.mem_append_left _ hid))
 have hrows := fill_rows hfi l2 p1 hTr (b3 _ _ hns)
 have hrk : ∀ k, k < mP s.ps → rows[k]? = some (ol 0 q k) := fun k hk => by
   have h1 : k < rows.length := by omega
   rw [List.getElem?_eq_getElem h1, ← hnr k _ (List.getElem?_eq_getElem h1), Nat.zero_add]
 have hsk : ∀ k, mP s.ps ≤ k → k < q.length → subs[k - mP s.ps]? = some (ol 0 q k) := fun k h1 h2 => by
   have h3 : k - mP s.ps < subs.length := by omega
   rw [List.getElem?_eq_getElem h3, ← hns _ _ (List.getElem?_eq_getElem h3), Nat.add_sub_cancel' h1]
 have hrowA : ∀ k, k < mP s.ps → ∃ r nj xj, (∀ ι, (rowsP s.ps ι (mP s.ps) x)[k]? = some (objK r ι nj xj)) ∧ mP s.ps ≤ nj ∧ nj + nK r ≤ q.length ∧ E1.A (ol 0 q k) ∧ ((objK r (ol 0 q) nj xj).blk = true → E1.hb (ol 0 q k) = true) ∧ OR E1 (ol 0 q k) (objK r (ol 0 q) nj xj) ∧ ((objK r (ol 0 q) nj xj).live = true → ∃ o0, S1.H (ol 0 q k) = some o0 ∧ o0.live = true) := fun k hk => by
   have h1 : k < (rowsP s.ps (ol 0 q) (mP s.ps) x).length := by rw [rowsP_len]; exact hk
   obtain ⟨r, nj, xj, d1, d2, d3, d4⟩ := rowsP_get s.ps (ol 0 q) (mP s.ps) x k _ (List.getElem?_eq_getElem h1)
   obtain ⟨id, i1, i2, i3, i4, i5⟩ := hrows k _ (d4 (ol 0 q))
   rw [hrk k hk] at i1
   cases i1
   exact ⟨r, nj, xj, d4, d2, by omega, i2, i3, i4, i5⟩
 have hA : ∀ id ∈ q, E1.A id := fun id hid => by
   rw [← hq] at hid
   rcases List.mem_append.1 hid with hid | hid
   · obtain ⟨k, hk, rfl⟩ := List.mem_iff_getElem.1 hid
     obtain ⟨_, _, _, _, _, _, i2, _, _⟩ := hrowA k (by omega)
     have := hrk k (by omega)
     rw [List.getElem?_eq_getElem hk, Option.some.injEq] at this
     rw [this]; exact i2
   · exact A2 id hid
 have hnum : ∀ k, k < q.length → NumTo E1 (renE 0 q E1) (ol 0 q k) k := fun k hk hA => ⟨⟨by omega, hA⟩, rfl, rfl, rfl, rfl⟩
 have hobj : ∀ k o, k < q.length → E1.A (ol 0 q k) → (Sc s.ps x).H k = some o → ObjTo E1 S1 (renE 0 q E1) (ol 0 q k) k o := fun k o hk hAk ho => by
   unfold Sc at ho
   rw [addO_H0] at ho
   by_cases hkm : k < mP s.ps
   · rw [List.getElem?_append_left (by rw [rowsP_len]; exact hkm)] at ho
     obtain ⟨r, nj, xj, d1, d2, d3, d4, d5, d6, d7⟩ := hrowA k hkm
     rw [d1 idN] at ho
     cases ho
     exact ⟨OR.objK_to (E := E1) (E' := renE 0 q E1) (fun _ h => h) rfl hAk (hnum k hk) (fun j a b => hnum j (by omega)) d6, fun hl => d7 (objK_live.trans hl), fun hb => d5 (objK_blk.trans hb)⟩
   · rw [List.getElem?_append_right (by rw [rowsP_len]; omega), rowsP_len] at ho
     have hd := subsP_dat _ _ _ (List.mem_of_getElem? ho)
     rw [c3, hsk k (by omega) hk] at ho
     have hid := (ol_mem hk).1
     exact ⟨OR.dat_to (E := E1) (E' := renE 0 q E1) (fun _ h => h) rfl hAk (hnum k hk) hd (p1.st.objs _ (T.sub _ (hT _ hid)) hAk _ ho), fun hl => ⟨_, ho, hl⟩, fun hbk => p1.st.blk _ (T.sub _ (hT _ hid)) hAk _ ho hbk⟩
 have hpre : Pre T0 (renE 0 q E1) (Sc s.ps x) := Pre.re p1 hnd (fun id h => T.sub _ (hT id h)) (by rw [Sc_next, hql]) hobj
 have hargs : VRs (renE 0 q E1) (argsP s.ps idN 0 x) us := argsP_env (E := E1) (E' := renE 0 q E1) (ρ := ol 0 q) (fun _ h => h) rfl s.ps (fun j a b => hnum j (by omega)) (by rw [c2]; exact b2 _ _ hnr)
 have hcall := hc.calls _ x us y z hf hpre hargs
 rw [show (renE 0 q E1).w = E.w from e1] at hcall
 refine hcall.mono fun e w' hR => ?_
 obtain ⟨u, Er, rfl, rfl, k1, k2⟩ := hR
 have hlt : ∀ id, id ∈ q → id < S1.next := fun id h => p1.bnd id (hA id h)
 have hsb : ∀ k, k < q.length → Live (renE 0 q E1) (Sc s.ps x).H k → Live E1 S1.H (ol 0 q k) := fun k hk ⟨h0, o, h1, h2⟩ => ⟨h0, (hobj k o hk (hA _ (ol_mem hk).1) h1).live h2⟩
 have hbn : (setL rows (rowsP (refs s.ps) (fun k => S1.next + (k - mP s.ps)) (mP s.ps) z) (killL subs S1)).next = S1.next := by rw [setL_next, killL_next]
 have hndr : rows.Nodup := by rw [← hq] at hnd; exact (List.nodup_append.1 hnd).1
 have hrs : ∀ id, id ∈ rows → id ∉ subs := fun id h1 h2 => by
   rw [← hq] at hnd; exact (List.nodup_append.1 hnd).2.2 id h1 id h2 rfl
 have hScB : ∀ k, (ScB s y z).H k = (rowsP (refs s.ps) idN (mP s.ps) z ++ newO s y z)[k]? := fun k => addO_H0 _ k
 have hEA : ∀ k, k < mP s.ps → Er.A k ∧ Er.ρ k = E1.ρ (ol 0 q k) ∧ Er.κ k = E1.κ (ol 0 q k) ∧ Er.hd k = E1.hd (ol 0 q k) ∧ Er.hb k = E1.hb (ol 0 q k) := fun k hk => by
   obtain ⟨a1, a2, a3, a4, a5⟩ := k2.alw k hk ⟨by omega, hA _ (ol_mem (by omega)).1⟩
   exact ⟨a1, a2, a3, a4, a5⟩
 obtain ⟨m1, m2⟩ := merge_back (n := S1.next) (m := mP s.ps) (S' := backS s S1.next rows subs y z S1) p1 hnd hT hA (by omega) rfl hsb k2 (by
     unfold backS ScB
     rw [addO_next, addO_next, hbn, List.length_append, rowsP_len, refs_m]
     have : S0.next = 0 := rfl
     omega) (fun id hid hnq => by
     unfold backS
     rw [addO_H, hbn, if_pos hid, setL_out (fun h => hnq (by rw [← hq]; exact List.mem_append_left _ h)), killL_out (fun h => hnq (by rw [← hq]; exact List.mem_append_right _ h))]) (fun k o hk ho => by
     unfold backS at ho
     have hin := (ol_mem (q := q) (k := k) (by omega)).1
     rw [addO_H, hbn, if_pos (hlt _ hin), setL_in hndr (by rw [rowsP_len, refs_m, l1]) (hrk k hk)] at ho
     obtain ⟨r, nj, xj, rfl, d2, d3, d4⟩ := rowsP_get _ _ _ _ _ _ ho
     have hsr : (ScB s y z).H k = some (objK r idN nj xj) := by
       rw [hScB, List.getElem?_append_left (by rw [rowsP_len, refs_m]; exact hk)]; exact d4 idN
     obtain ⟨a1, a2, a3, a4, a5⟩ := hEA k hk
     obtain ⟨o1, o2, o3, o4⟩ := mrgR_old (E := E1) (Er := Er) (n := S1.next) (m := mP s.ps) (hlt _ hin)
     obtain ⟨_, _, _, _, _, _, i2, _⟩ := hrowA k hk
     exact ⟨OR.objK_to (E := Er) (E' := mrgR E1 Er S1.next (mP s.ps)) (fun _ h => h) rfl a1 (fun _ => ⟨.inl ⟨hlt _ hin, i2⟩, o1.trans a2.symm, o2.trans a3.symm, o3.trans a4.symm, o4.trans a5.symm⟩) (fun j a b hAj => by
       obtain ⟨r1, r2, r3, r4, r5⟩ := mrgR_new (E := E1) (Er := Er) (n := S1.next) (m := mP s.ps) (k := j) (by omega)
       exact ⟨r5 hAj, r1, r2, r3, r4⟩) (k2.st.objs k trivial a1 _ hsr), fun hl => ⟨_, hsr, objK_live.trans hl⟩, fun hb => (o4.trans a5.symm).trans (k2.st.blk k trivial a1 _ hsr (objK_blk.trans hb))⟩) (fun k o h1 h2 ho => by
     unfold backS at ho
     have hin := (ol_mem (q := q) (k := k) h2).1
     have hin2 := List.mem_of_getElem? (hsk k h1 h2)
     rw [addO_H, hbn, if_pos (hlt _ hin), setL_out (fun h => hrs _ h hin2), killL_in hin2] at ho
     cases ho; rfl) (fun k o h1 hAk ho => by
     unfold backS at ho
     have hkb := k2.bnd k hAk
     unfold ScB at hkb
     rw [addO_next, List.length_append, rowsP_len, refs_m] at hkb
     have e0 : S0.next = 0 := rfl
     rw [addO_H, hbn, if_neg (by omega), if_pos (by omega), Nat.add_sub_cancel_left] at ho
     have hd := newO_dat (List.mem_of_getElem? ho)
     have hsr : (ScB s y z).H k = some o := by
       rw [hScB, List.getElem?_append_right (by rw [rowsP_len, refs_m]; exact h1), rowsP_len, refs_m]; exact ho
     obtain ⟨r1, r2, r3, r4, r5⟩ := mrgR_new (E := E1) (Er := Er) (n := S1.next) (m := mP s.ps) (k := k) h1
     exact ⟨OR.dat_to (E := Er) (E' := mrgR E1 Er S1.next (mP s.ps)) (fun _ h => h) rfl hAk (fun hA => ⟨r5 hA, r1, r2, r3, r4⟩) hd (k2.st.objs k trivial hAk _ hsr), fun hl => ⟨_, hsr, hl⟩, fun hbk => r4.trans (k2.st.blk k trivial hAk _ hsr hbk)⟩)
 refine ⟨u, mrgR E1 Er S1.next (mP s.ps), rfl, rfl, ?_, Post.trans p q1 f1 m1, f1.trans m2 q1.le⟩
 refine tup_to (E := Er) (E' := mrgR E1 Er S1.next (mP s.ps)) (fun us h => resV_env (E := Er) (E' := mrgR E1 Er S1.next (mP s.ps)) (fun _ h => h) rfl s.rts (fun j hAj => ?_) h) (by rw [resV_len, resV_len]) k1
 obtain ⟨r1, r2, r3, r4, r5⟩ := mrgR_new (E := E1) (Er := Er) (n := S1.next) (m := mP s.ps) (k := mP s.ps + nP (refs s.ps) + j) (by omega)
 have e : S1.next + (mP s.ps + nP (refs s.ps) + j - mP s.ps) = S1.next + nP (refs s.ps) + j := by omega
 rw [e] at r1 r2 r3 r4 r5
 exact ⟨r5 hAj, r1, r2, r3, r4⟩
end
end Go.Jx
end
section
namespace Go.Jx
open Go Go.Sx Go.RowKit
universe u
def exRK {R : Type} (s : SmR) (vs : List IV) (S : IS) (kk : Res → Option R) : Option R :=
 match rdP s.ps S vs with
 | none => none
 | some (x0, rows, subs, S1, w) => cond (ndB (rows ++ subs)) (match fiP s.ps rows subs S1 x0 with
   | none => none
   | some x => match s.f x with
     | none => none
     | some (y, z) => kk ⟨vB s S1.next y, backS s S1.next rows subs y z S1, 0, (w ||| bitsL (rows ++ subs)) ||| cond (Nat.blt 0 rows.length) 0 (2 ^ S1.next)⟩) none
theorem exRK_eq {R : Type} (s : SmR) (vs : List IV) (S : IS) (kk : Res → Option R) : exRK s vs S kk = ob (exR s vs S) kk := by
 simp only [exRK, exR]
 cases rdP s.ps S vs with
 | none => rfl
 | some q =>
   obtain ⟨x0, rows, subs, S1, w⟩ := q
   simp only [ob_cond]
   cases fiP s.ps rows subs S1 x0 with
   | none => rfl
   | some x =>
     simp only
     cases s.f x with
     | none => rfl
     | some q => rfl
def hxR (s : SmR) : Hx := ⟨fun _ vs S => exR s vs S, fun _ _ vs S kk => exRK s vs S kk, fun _ _ _ _ vs S kk => exRK_eq s vs S kk⟩
theorem rdC_fr {S S' : IS} : ∀ (c : CT) {cs : List IV} {x : ElC c} {ids : List Nat} {r : List IV} {w : Nat}, rdC c S cs = some (x, ids, r, S', w) → FrX S S' w
 | .dat c, cs, x, ids, r, w, h => by
   simp only [rdC] at h
   split at h <;> cases h
   rename_i h1
   obtain ⟨a1, a2⟩ := icl_fr c _ _ _ _ _ _ h1
   exact ⟨Nat.le_of_eq a1.symm, fun id _ hb => a2 id hb⟩
 | .arr c, cs, x, ids, r, w, h => by
   cases cs with
   | nil => cases h
   | cons v cs =>
   simp only [rdC] at h
   split at h <;> cases h
   rename_i h1
   exact coeV_fr h1
 | .map k v, cs, x, ids, r, w, h => by
   cases cs with
   | nil => cases h
   | cons u cs =>
   cases u <;> try (cases h; done)
   simp only [rdC] at h
   split at h <;> cases h
   rename_i h1
   exact coeM1_fr h1
theorem rdR_fr : ∀ (c : List CT) {S S' : IS} {cs : List IV} {x : ElRow c} {ids : List Nat} {r : List IV} {w : Nat}, rdR c S cs = some (x, ids, r, S', w) → FrX S S' w
 | [], S, S', cs, x, ids, r, w, h => by cases h; exact FrX.refl _ _
 | c :: l, S, S', cs, x, ids, r, w, h => by
   simp only [rdR] at h
   split at h
   · cases h
   rename_i h1
   split at h <;> cases h
   rename_i h2
   exact (rdC_fr c h1).trans (rdR_fr l h2)
theorem rdS_fr {S S' : IS} {c : TC} {v : IV} {id w : Nat} (h : rdS c S v = some (id, S', w)) : FrX S S' w := by
 unfold rdS at h
 split at h
 · cases h; exact FrX.refl _ _
 · split at h <;> cases h
   rename_i h1
   exact coeV_fr h1
theorem rdP_fr : ∀ (l : List PK) {S S' : IS} {vs : List IV} {x : ElP l} {q1 q2 : List Nat} {w : Nat}, rdP l S vs = some (x, q1, q2, S', w) → FrX S S' w
 | [], S, S', vs, x, q1, q2, w, h => by
   cases vs with
   | cons v vs => cases h
   | nil => cases h; exact FrX.refl _ _
 | .dat c :: l, S, S', vs, x, q1, q2, w, h => by
   cases vs with
   | nil => cases h
   | cons v vs =>
   simp only [rdP] at h
   cases hb : fitV c v with
   | false => rw [hb] at h; cases h
   | true =>
   rw [hb, cond_true] at h
   split at h <;> try cases h
   rename_i h1
   split at h <;> cases h
   rename_i h2
   obtain ⟨a1, a2⟩ := icl_fr c _ _ _ _ _ _ h1
   exact FrX.trans ⟨Nat.le_of_eq a1.symm, fun id _ hb => a2 id hb⟩ (rdP_fr l h2)
 | .fn f :: l, S, S', vs, x, q1, q2, w, h => by
   simp only [rdP] at h
   split at h <;> try cases h
   rename_i g vs
   cases hb : Nat.beq g f with
   | false => rw [hb] at h; cases h
   | true =>
   rw [hb] at h
   have h : rdP l S vs = some (x, q1, q2, S', w) := h
   exact rdP_fr l h
 | .ref (.sl c) :: l, S, S', vs, x, q1, q2, w, h => by
   cases vs with
   | nil => cases h
   | cons v vs =>
   simp only [rdP] at h
   split at h <;> try cases h
   rename_i h1
   split at h <;> cases h
   rename_i h2
   exact (rdS_fr h1).trans (rdP_fr l h2)
 | .ref (.box r) :: l, S, S', vs, x, q1, q2, w, h => by
   cases vs with
   | nil => cases h
   | cons v vs =>
   cases v <;> try (cases h; done)
   rename_i id off
   cases off with
   | succ _ => cases h
   | zero =>
   simp only [rdP] at h
   split at h <;> try cases h
   split at h <;> try cases h
   rename_i h1
   split at h <;> cases h
   rename_i h2
   have := (FrX.refl S (2 ^ id)).trans ((rdR_fr r h1).trans (rdP_fr l h2))
   exact this
theorem killL_fr : ∀ (l : List Nat) (S : IS), FrX S (killL l S) (bitsL l)
 | [], S => FrX.refl _ _
 | id :: l, S => (FrX.set S id .dead).trans (killL_fr l _)
theorem setL_fr : ∀ (l : List Nat) (os : List IObj) (S : IS), FrX S (setL l os S) (bitsL l)
 | [], os, S => FrX.refl _ _
 | _ :: _, [], S => FrX.refl _ _
 | id :: l, o :: os, S => (FrX.set S id o).trans (setL_fr l os _)
theorem bitsL_app : ∀ (a b : List Nat), bitsL (a ++ b) = bitsL a ||| bitsL b
 | [], b => by simp [bitsL]
 | x :: a, b => by simp only [List.cons_append, bitsL, bitsL_app a, Nat.or_assoc]
theorem exR_fr {s : SmR} {vs : List IV} {S : IS} : FrO S (exR s vs S) := fun r h => by
 unfold exR at h
 split at h
 · cases h
 rename_i x0 rows subs S1 w hrd
 cases hb : ndB (rows ++ subs) with
 | false => rw [hb] at h; cases h
 | true =>
 rw [hb, cond_true] at h
 split at h
 · cases h
 split at h
 · cases h
 rename_i y z hf
 cases h
 have h1 := rdP_fr _ hrd
 have h2 := (killL_fr subs S1).trans ((setL_fr rows (rowsP (refs s.ps) (fun k => S1.next + (k - mP s.ps)) (mP s.ps) z) _).trans (addO_fr (newO s y z) _ 0))
 have h3 := h1.trans h2
 rw [Nat.or_zero, Nat.or_comm (bitsL subs), ← bitsL_app] at h3
 have h4 := h3.trans (FrX.refl _ (cond (Nat.blt 0 rows.length) 0 (2 ^ S1.next)))
 exact h4
theorem exR_calm {s : SmR} {vs : List IV} {S : IS} {r : Res} (h : exR s vs S = some r) (hw : r.wr = 0) : False := by
 unfold exR at h
 split at h
 · cases h
 rename_i x0 rows subs S1 w hrd
 cases hb : ndB (rows ++ subs) with
 | false => rw [hb] at h; cases h
 | true =>
 rw [hb, cond_true] at h
 split at h
 · cases h
 split at h
 · cases h
 cases h
 have h2 : bitsL (rows ++ subs) = 0 := (or_zero (or_zero hw).1).2
 cases rows with
 | nil =>
   have h3 : 2 ^ S1.next = 0 := (or_zero hw).2
   have := Nat.one_le_two_pow (n := S1.next)
   omega
 | cons id rows =>
   have := bitsL_bit (l := id :: rows ++ subs) (id := id) (by simp)
   rw [h2] at this; simp at this
theorem hxR_ok {P : Program} {f : Nat} {s : SmR} (hc : ConR P f s) : HxOK P f (hxR s).f :=
 ⟨fun cl _ _ _ vs S r h T E us p _ hw hv => exR_sound hc h p hw hv, fun cl _ vs S => exR_fr, fun cl _ vs S r h hw _ => (exR_calm h hw).elim⟩
def ptrP : List PK → Nat → List IV
 | [], _ => []
 | .dat _ :: l, k => ptrP l k
 | .fn _ :: l, k => ptrP l k
 | .ref r :: l, k => argK r k :: ptrP l (k + 1)
theorem argsP_ptr : ∀ (l : List PK) (k : Nat) (z : ElP (refs l)), argsP (refs l) idN k z = ptrP l k
 | [], _, _ => rfl
 | .dat _ :: l, k, z => argsP_ptr l k z
 | .fn _ :: l, k, z => argsP_ptr l k z
 | .ref r :: l, k, z => by
   show argK r (idN k) :: argsP (refs l) idN (k + 1) z.2 = _
   rw [argsP_ptr l]; rfl
theorem ptrP_env {E E' : Env} : ∀ (l : List PK) {k : Nat} {us : List Value}, (∀ j, j < mP l → NumTo E E' (k + j) (k + j)) → VRs E (ptrP l k) us → VRs E' (ptrP l k) us
 | [], k, us, hn, h => by have := h.1; cases us with | nil => exact VRs.nil | cons _ _ => simp [ptrP] at this
 | .dat _ :: l, k, us, hn, h => ptrP_env l hn h
 | .fn _ :: l, k, us, hn, h => ptrP_env l hn h
 | .ref r :: l, k, us, hn, h => by
   obtain ⟨u, us, rfl, a1, a2⟩ := VRs.inv (v := argK r k) (cs := ptrP l (k + 1)) h
   refine VRs.cons (argK_to (hn 0 (by simp only [mP]; omega)) a1) (ptrP_env l (fun j hj => ?_) a2)
   have := hn (j + 1) (by simp only [mP]; omega)
   rwa [show k + (j + 1) = k + 1 + j by omega] at this
theorem rdP_ptr : ∀ (l : List PK) {k : Nat} {S S' : IS} {x : ElP (refs l)} {q1 q2 : List Nat} {w : Nat}, rdP (refs l) S (ptrP l k) = some (x, q1, q2, S', w) → ∀ j, j < mP l → q1[j]? = some (k + j)
 | [], k, S, S', x, q1, q2, w, h, j, hj => by simp [mP] at hj
 | .dat _ :: l, k, S, S', x, q1, q2, w, h, j, hj => rdP_ptr l h j hj
 | .fn _ :: l, k, S, S', x, q1, q2, w, h, j, hj => rdP_ptr l h j hj
 | .ref (.sl c) :: l, k, S, S', x, q1, q2, w, h, j, hj => by
   simp only [refs, ptrP, argK, rdP, rdS] at h
   split at h <;> cases h
   rename_i h2
   cases j with
   | zero => rfl
   | succ j =>
     have := rdP_ptr l h2 j (by simp only [mP] at hj; omega)
     rw [List.getElem?_cons_succ, this]; congr 1; omega
 | .ref (.box r) :: l, k, S, S', x, q1, q2, w, h, j, hj => by
   simp only [refs, ptrP, argK, rdP] at h
   split at h <;> try cases h
   split at h <;> try cases h
   split at h <;> cases h
   rename_i h2
   cases j with
   | zero => rfl
   | succ j =>
     have := rdP_ptr l h2 j (by simp only [mP] at hj; omega)
     rw [List.getElem?_cons_succ, this]; congr 1; omega
def lowN : Nat → Nat → List Nat
 | 0, _ => []
 | m + 1, k => k :: lowN m (k + 1)
theorem lowN_len : ∀ (m k : Nat), (lowN m k).length = m
 | 0, _ => rfl
 | m + 1, k => congrArg (· + 1) (lowN_len m (k + 1))
theorem lowN_get : ∀ (m k j : Nat), j < m → (lowN m k)[j]? = some (k + j)
 | 0, k, j, h => absurd h (Nat.not_lt_zero j)
 | m + 1, k, 0, h => rfl
 | m + 1, k, j + 1, h => by
   have := lowN_get m (k + 1) j (by omega)
   unfold lowN; rw [List.getElem?_cons_succ, this]; congr 1; omega
def runQ (s : SmR) (r : Res) : Option (ElR s.rts × ElP (refs s.ps)) :=
 match untup s.rts.length r.v with
 | none => none
 | some vs => match clR s.rts r.S vs with
   | none => none
   | some (a, S2, _) => match rdP (refs s.ps) S2 (ptrP s.ps 0) with
     | none => none
     | some (b, _, subs, S3, _) => cond (ndB (subs ++ idsQ s.rts a) && (subs ++ idsQ s.rts a).all (Nat.ble (mP s.ps))) (match fillR s.rts a S3 with
       | none => none
       | some y => match fiP (refs s.ps) (lowN (mP s.ps) 0) subs S3 b with
         | none => none
         | some z => some (y, z)) none
theorem valQ_env {E E' : Env} (hm : ∀ b, b ∈ E'.m → b ∈ E.m) (hw : E'.w = E.w) : ∀ (cs : List (Bool × TC)) {a : ElQ cs} {S : IS} {y : ElR cs} {k : Nat} {us : List Value}, fillR cs a S = some y → (∀ (j id : Nat), (idsQ cs a)[j]? = some id → NumTo E E' id (k + j)) → VRs E (valQ cs a) us → VRs E' (resV cs k y) us
 | [], a, S, y, k, us, h, hn, hv => by have := hv.1; cases us with | nil => exact VRs.nil | cons _ _ => simp [valQ] at this
 | (true, c) :: cs, a, S, y, k, us, h, hn, hv => by
   obtain ⟨u, us, rfl, a1, a2⟩ := VRs.inv (v := .arr a.1) (cs := valQ cs a.2) hv
   simp only [fillR] at h
   split at h <;> try cases h
   split at h <;> try cases h
   split at h <;> cases h
   rename_i y' hy
   refine VRs.cons ?_ (valQ_env hm hw cs hy (fun j id hj => ?_) a2)
   · cases a1 with
     | arr hA hh =>
       obtain ⟨b1, b2, b3, b4, b5⟩ := hn 0 a.1 rfl hA
       exact .arr b1 (b4.trans hh)
   · have := hn (j + 1) id (by simp only [idsQ, List.getElem?_cons_succ]; exact hj)
     rwa [show k + (j + 1) = k + 1 + j by omega] at this
 | (false, c) :: cs, a, S, y, k, us, h, hn, hv => by
   obtain ⟨u, us, rfl, a1, a2⟩ := VRs.inv (v := asIV c a.1) (cs := valQ cs a.2) hv
   simp only [fillR] at h
   split at h <;> cases h
   rename_i y' hy
   exact VRs.cons (as_env hm hw a1) (valQ_env hm hw cs hy hn a2)
theorem untup_spec {n : Nat} {v : IV} {vs : List IV} {E : Env} {u : Value} (h : untup n v = some vs) (hv : VR E v u) : ∃ us : List Value, VRs E vs us ∧ ∀ (E' : Env) (ws : List IV), ws.length = n → VRs E' ws us → VR E' (tupI ws) u := by
 unfold untup at h
 cases hone : Nat.beq n 1 with
 | true =>
   rw [hone, cond_true] at h; cases h
   have hlen := Nat.eq_of_beq_eq_true hone
   exact ⟨[u], VRs.cons hv VRs.nil, fun E' ws hl hw => by
     rw [hlen] at hl
     match ws, hl with
     | [a], _ => exact hw.2 0 (by simp) (by simp)⟩
 | false =>
   rw [hone, cond_false] at h
   split at h <;> try cases h
   rename_i ws0
   cases hb : Nat.beq ws0.length n with
   | false => rw [hb] at h; cases h
   | true =>
   rw [hb, cond_true] at h; cases h
   cases hv with
   | tup hl hh =>
   refine ⟨_, ⟨hl, hh⟩, fun E' ws hl' hw => ?_⟩
   match ws, hl' with
   | [], _ => exact .tup hw.1 hw.2
   | [a], hl' => rw [← hl'] at hone; cases hone
   | a :: b :: ws, _ => exact .tup hw.1 hw.2
theorem runQ_sound {s : SmR} {r : Res} {x : ElP s.ps} {y : ElR s.rts} {z : ElP (refs s.ps)} {E E1 : Env} {us : List Value} {u : Value} (h : runQ s r = some (y, z)) (p0 : Pre T0 E (Sc s.ps x)) (hargs : VRs E (argsP s.ps idN 0 x) us)
   (hpb : PostB (mP s.ps) T0 E (Sc s.ps x) E1 r.S) (hv : VR E1 r.v u) : ∃ E', E'.w = E1.w ∧ VR E' (vB s (mP s.ps) y) u ∧ PostB (mP s.ps) T0 E (Sc s.ps x) E' (ScB s y z) := by
 have hT : ∀ id, mP s.ps ≤ id → T0.w id := fun _ _ => trivial
 have p1 := hpb.pre hT
 unfold runQ at h
 split at h
 · cases h
 rename_i vs hvs
 split at h
 · cases h
 rename_i a S2 w2 ha
 split at h
 · cases h
 rename_i b rows subs S3 w3 hb
 cases hc : (ndB (subs ++ idsQ s.rts a) && (subs ++ idsQ s.rts a).all (Nat.ble (mP s.ps))) with
 | false => rw [hc] at h; cases h
 | true =>
 rw [hc, cond_true] at h
 simp only [Bool.and_eq_true] at hc
 obtain ⟨hc1, hc2⟩ := hc
 split at h
 · cases h
 rename_i y' hy
 split at h <;> cases h
 rename_i hz
 obtain ⟨us1, hus, hfin⟩ := untup_spec hvs hv
 obtain ⟨E2, e2, q2, f2, hv2⟩ := clR_sound s.rts ha p1 (fun _ _ => trivial) hus
 have p2 := q2.pre p1
 -- the pointers
 have hA0 : ∀ k, k < mP s.ps → E.A k := by
   have key : ∀ (l : List PK) (k : Nat) (x : ElP l) (us : List Value), VRs E (argsP l idN k x) us → ∀ j, j < mP l → E.A (k + j) := by
     intro l
     induction l with
     | nil => intro k x us _ j hj; simp [mP] at hj
     | cons pk l ih =>
       intro k x us hv j hj
       cases pk with
       | dat c =>
         obtain ⟨u, us, rfl, a1, a2⟩ := VRs.inv (v := asIV c x.1) (cs := argsP l idN k x.2) hv
         exact ih k x.2 us a2 j hj
       | fn f =>
         obtain ⟨u, us, rfl, a1, a2⟩ := VRs.inv (v := .fn f []) (cs := argsP l idN k x) hv
         exact ih k x us a2 j hj
       | ref r =>
         obtain ⟨u, us, rfl, a1, a2⟩ := VRs.inv (v := argK r (idN k)) (cs := argsP l idN (k + 1) x.2) hv
         cases j with
         | zero => exact argK_A a1
         | succ j =>
           have := ih (k + 1) x.2 us a2 j (by simp only [mP] at hj; omega)
           rwa [show k + (j + 1) = k + 1 + j by omega]
   intro k hk
   have := key s.ps 0 x us hargs k hk
   rwa [Nat.zero_add] at this
 have hptr : ∃ us', VRs E2 (ptrP s.ps 0) us' := by
   obtain ⟨us', h'⟩ := argsP_refs s.ps b hargs
   rw [argsP_ptr] at h'
   refine ⟨us', ptrP_env s.ps (fun j hj hA => ?_) h'⟩
   rw [Nat.zero_add] at hA ⊢
   obtain ⟨a1, a2, a3, a4, a5⟩ := hpb.alw j hj hA
   obtain ⟨b1, b2, b3, b4, b5⟩ := (q2.env p1).alw _ a1
   exact ⟨b1, b2.trans a2, b3.trans a3, b4.trans a4, b5.trans a5⟩
 obtain ⟨us', hptr⟩ := hptr
 obtain ⟨E3, e3, q3, f3, l1, l2, A3, b2, b3⟩ := rdP_sound (refs s.ps) hb p2 (fun _ _ => trivial) hptr
 have p3 := q3.pre p2
 obtain ⟨_, c2, c3⟩ := fiP_spec (refs s.ps) hz l2
 obtain ⟨g1, g2⟩ := fillR_spec s.rts hy
 have hnd := ndB_nodup hc1
 have hqB : ∀ id ∈ subs ++ idsQ s.rts a, mP s.ps ≤ id := fun id hi => Nat.le_of_ble_eq_true ((List.all_eq_true.1 hc2) id hi)
 have hnew : ∀ j : Nat, (newO s y z)[j]? = ((subs ++ idsQ s.rts a)[j]?).bind fun id => S3.heap.get id := get_app (by rw [subsP_len, l2]) c3 g2
 have hlen : (newO s y z).length = (subs ++ idsQ s.rts a).length := by
   unfold newO; rw [List.length_append, List.length_append, subsP_len, l2, g1]
 generalize hq : subs ++ idsQ s.rts a = q at hnd hqB hnew hlen
 have hlow : ∀ k, k < mP s.ps → ol (mP s.ps) q k = k := fun k hk => if_pos hk
 have hhigh : ∀ k, mP s.ps ≤ k → k < mP s.ps + q.length → q[k - mP s.ps]? = some (ol (mP s.ps) q k) := fun k h1 h2 => by
   have h3 : k - mP s.ps < q.length := by omega
   unfold ol; rw [if_neg (by omega), List.getD_eq_getElem?_getD, List.getElem?_eq_getElem h3]; rfl
 have hnum : ∀ k, k < mP s.ps + q.length → NumTo E3 (renE (mP s.ps) q E3) (ol (mP s.ps) q k) k := fun k hk hA => ⟨⟨hk, hA⟩, rfl, rfl, rfl, rfl⟩
 have hns : Nums (ol (mP s.ps) q) (mP s.ps) subs := fun j id hj => by
   have h1 : j < subs.length := (List.getElem?_eq_some_iff.1 hj).1
   have h2 := hhigh (mP s.ps + j) (by omega) (by rw [← hq, List.length_append]; omega)
   rw [Nat.add_sub_cancel_left, ← hq, List.getElem?_append_left h1, hj, hq] at h2
   exact (Option.some.inj h2).symm
 have hlr : rows = lowN (mP s.ps) 0 := List.ext_getElem? fun j => by
   by_cases hj : j < mP s.ps
   · rw [rdP_ptr s.ps hb j hj, lowN_get _ _ _ hj]
   · rw [List.getElem?_eq_none (by rw [l1, refs_m]; omega), List.getElem?_eq_none (by rw [lowN_len]; omega)]
 rw [← hlr] at hz
 have hrows := fill_rows hz l2 p3 (fun _ _ => trivial) (b3 _ _ hns)
 have hScB : ∀ k, (ScB s y z).H k = (rowsP (refs s.ps) idN (mP s.ps) z ++ newO s y z)[k]? := fun k => addO_H0 _ k
 have hsl : nP (refs s.ps) ≤ q.length := by rw [← hq, List.length_append, l2]; omega
 have hre := PostB.re (T := T0) (B := mP s.ps) (q := q) (S' := ScB s y z) p3 hT hnd hqB (by
     unfold ScB
     rw [addO_next, List.length_append, rowsP_len, refs_m, hlen]
     have : S0.next = 0 := rfl
     omega) (fun k o hk hAk ho => by
     rw [hScB] at ho
     by_cases hkm : k < mP s.ps
     · rw [List.getElem?_append_left (by rw [rowsP_len, refs_m]; exact hkm)] at ho
       obtain ⟨r', nj, xj, rfl, d2, d3, d4⟩ := rowsP_get _ _ _ _ _ _ ho
       obtain ⟨id, i1, i2, i3, i4, i5⟩ := hrows k _ (d4 _)
       have := rdP_ptr s.ps hb k hkm
       rw [Nat.zero_add, i1] at this
       cases this
       have e := hlow k hkm
       rw [e]
       refine ⟨OR.objK_to (E := E3) (E' := renE (mP s.ps) q E3) (fun _ h => h) rfl i2 (by have := hnum k hk; rwa [e] at this) (fun j a b => hnum j (by omega)) i4, fun hl => i5 (objK_live.trans hl), fun hb => ?_⟩
       show E3.hb (ol (mP s.ps) q k) = true
       rw [e]; exact i3 (objK_blk.trans hb)
     · rw [List.getElem?_append_right (by rw [rowsP_len, refs_m]; omega), rowsP_len, refs_m] at ho
       have hd := newO_dat (List.mem_of_getElem? ho)
       rw [hnew, hhigh k (by omega) hk] at ho
       exact ⟨OR.dat_to (E := E3) (E' := renE (mP s.ps) q E3) (fun _ h => h) rfl hAk (hnum k hk) hd (p3.st.objs _ trivial hAk _ ho), fun hl => ⟨_, ho, hl⟩, fun hbk => p3.st.blk _ trivial hAk _ ho hbk⟩)
 have hpost := Post.trans p1 q2 f2 q3
 have hfr := f2.trans f3 q2.le
 refine ⟨renE (mP s.ps) q E3, e3.trans e2, ?_, (hpb.trans (PostB.of hpb.le hT hpost hfr)).trans hre⟩
 refine hfin _ _ (resV_len _ _ _) (valQ_env (E := E3) (E' := renE (mP s.ps) q E3) (fun _ h => h) rfl s.rts hy (fun j id hj => ?_) (hv2.mono (q3.env p2)))
 have h1 : j < (idsQ s.rts a).length := (List.getElem?_eq_some_iff.1 hj).1
 have h2 : mP s.ps + nP (refs s.ps) + j < mP s.ps + q.length := by rw [← hq, List.length_append, l2]; omega
 have h3 := hhigh _ (by omega) h2
 rw [show mP s.ps + nP (refs s.ps) + j - mP s.ps = subs.length + j by omega, ← hq, List.getElem?_append_right (by omega), Nat.add_sub_cancel_left, hj, hq] at h3
 have h4 := Option.some.inj h3
 have := hnum _ h2
 rwa [← h4] at this
end Go.Jx
end
section
namespace Go.Jx
open Go Go.Sx Go.RowKit
universe u
def WfC : (c : CT) → ElC c → Prop
 | .dat c => fun x => WfE c x
 | .arr c => fun (l : List (El c)) => l.length * bsz c ≤ 140737488355328 ∧ ∀ x ∈ l, WfE c x
 | .map k v => fun (es : List (El k × El v)) => ∀ e ∈ es, WfE k e.1 ∧ WfE v e.2
def WfR : (r : List CT) → ElRow r → Prop
 | [], _ => True
 | c :: cs, x => WfC c x.1 ∧ WfR cs x.2
def WfK : (r : RK) → ElK r → Prop
 | .box r, x => WfR r x
 | .sl c, x => match x with
   | some l => l.length * bsz c ≤ 140737488355328 ∧ ∀ y ∈ l, WfE c y
   | none => True
def WfP : (l : List PK) → ElP l → Prop
 | [], _ => True
 | .dat c :: l, x => WfE c x.1 ∧ WfP l x.2
 | .fn _ :: l, x => WfP l x
 | .ref r :: l, x => WfK r x.1 ∧ WfP l x.2
section
variable {E : Env}
theorem wf_cel {c : TC} {x : El c} {us : List Value} (h : VRs E (cel c x) us) : WfE c x :=
 wf_cells (E := E) c x (fun j => us.getD j .nilFunc) fun j hj => by
   have hj2 : j < us.length := by rw [← h.1]; exact hj
   show VR E _ (us.getD j .nilFunc)
   rw [List.getD_eq_getElem?_getD, List.getElem?_eq_getElem hj2]
   exact h.2 j hj hj2
theorem wfC {H : Nat → Option IObj} {ι : Nat → Nat} (hH : ∀ id o, E.A id → H id = some o → OR E id o) : ∀ (c : CT) {n : Nat} {x : ElC c} {us : List Value}, VRs E (cellC c ι n x) us → (∀ j : Nat, j < nC c → H (ι (n + j)) = (subC c x)[j]?) → WfC c x
 | .dat c, n, x, us, h, _ => wf_cel h
 | .arr c, n, x, us, h, hs => by
   obtain ⟨u, us, rfl, a1, a2⟩ := VRs.inv (v := .arr (ι n)) (cs := []) h
   have hA : E.A (ι n) := by cases a1; assumption
   have h0 := hs 0 (Nat.one_pos)
   rw [Nat.add_zero] at h0
   obtain ⟨a, cap, h1, h2, h3, h4, h5⟩ := hH _ (.arr c x) hA h0
   refine ⟨h4, fun y hy => ?_⟩
   obtain ⟨i, hi, rfl⟩ := List.mem_iff_getElem.1 hy
   rcases h5 with ⟨_, h5⟩ | ⟨_, _, cells, t, _, _, us, _, h6⟩
   · omega
   · exact wf_cells c _ (us i) (h6 i hi)
 | .map k v, n, x, us, h, hs => by
   obtain ⟨u, us, rfl, a1, a2⟩ := VRs.inv (v := .map (ι n)) (cs := []) h
   have hA : E.A (ι n) := by cases a1; assumption
   have h0 := hs 0 (Nat.one_pos)
   rw [Nat.add_zero] at h0
   obtain ⟨ents, cl, h1, h2, h3⟩ := hH _ (.tmap k v x) hA h0
   intro e he
   obtain ⟨i, hi, rfl⟩ := List.mem_iff_getElem.1 he
   have hl : (tmEs k v x).length = List.length x := List.length_map _
   have hi1 : i < ((tmEs k v x).map (·.1)).length := by rw [List.length_map, hl]; exact hi
   have hi2 : i < ((tmEs k v x).map (·.2)).length := by rw [List.length_map, hl]; exact hi
   have q1 := h2.2 i hi1 (by rw [← h2.1]; exact hi1)
   have q2 := h3.2 i hi2 (by rw [← h3.1]; exact hi2)
   have e : (tmEs k v x)[i]'(by rw [hl]; exact hi) = (asIV k (List.get x ⟨i, hi⟩).1, asIV v (List.get x ⟨i, hi⟩).2) := List.getElem_map _
   rw [List.getElem_map, e] at q1
   rw [List.getElem_map, e] at q2
   exact ⟨wf_as q1, wf_as q2⟩
theorem wfArr {c : TC} {id : Nat} {l : List (El c)} (h : OR E id (.arr c l)) : l.length * bsz c ≤ 140737488355328 ∧ ∀ y ∈ l, WfE c y := by
 obtain ⟨a, cap, h1, h2, h3, h4, h5⟩ := h
 refine ⟨h4, fun y hy => ?_⟩
 obtain ⟨i, hi, rfl⟩ := List.mem_iff_getElem.1 hy
 rcases h5 with ⟨_, h5⟩ | ⟨_, _, cells, t, _, _, us, _, h6⟩
 · omega
 · exact wf_cells c _ (us i) (h6 i hi)
theorem wfR {H : Nat → Option IObj} {ι : Nat → Nat} (hH : ∀ id o, E.A id → H id = some o → OR E id o) : ∀ (r : List CT) {n : Nat} {x : ElRow r} {us : List Value}, VRs E (cellR r ι n x) us → (∀ j : Nat, j < nR r → H (ι (n + j)) = (subR r x)[j]?) → WfR r x
 | [], n, x, us, h, hs => trivial
 | c :: cs, n, x, us, h, hs => by
   obtain ⟨us1, us2, rfl, h1, h2⟩ := VRs.split (cs := cellC c ι n x.1) (ds := cellR cs ι (n + nC c) x.2) h
   refine ⟨wfC hH c h1 fun j hj => ?_, wfR hH cs h2 fun j hj => ?_⟩
   · rw [hs j (by simp only [nR]; omega)]
     simp only [subR]
     rw [List.getElem?_append_left (by rw [subC_len]; exact hj)]
   · have := hs (nC c + j) (by simp only [nR]; omega)
     rw [← Nat.add_assoc] at this
     rw [this]
     simp only [subR]
     rw [List.getElem?_append_right (by rw [subC_len]; omega), subC_len, Nat.add_sub_cancel_left]
theorem wfP {H : Nat → Option IObj} (hH : ∀ id o, E.A id → H id = some o → OR E id o) : ∀ (l : List PK) {k n : Nat} {x : ElP l} {us : List Value}, VRs E (argsP l idN k x) us →
   (∀ j : Nat, j < mP l → H (k + j) = (rowsP l idN n x)[j]?) → (∀ j : Nat, j < nP l → H (n + j) = (subsP l x)[j]?) → WfP l x
 | [], k, n, x, us, h, _, _ => trivial
 | .dat c :: l, k, n, x, us, h, h1, h2 => by
   obtain ⟨u, us, rfl, a1, a2⟩ := VRs.inv (v := asIV c x.1) (cs := argsP l idN k x.2) h
   exact ⟨wf_as a1, wfP hH l a2 h1 h2⟩
 | .fn f :: l, k, n, x, us, h, h1, h2 => by
   obtain ⟨u, us, rfl, a1, a2⟩ := VRs.inv (v := .fn f []) (cs := argsP l idN k x) h
   exact wfP (x := x) hH l a2 h1 h2
 | .ref r :: l, k, n, x, us, h, h1, h2 => by
   obtain ⟨u, us, rfl, a1, a2⟩ := VRs.inv (v := argK r (idN k)) (cs := argsP l idN (k + 1) x.2) h
   have hA : E.A k := argK_A a1
   have h0 := h1 0 (by simp only [mP]; omega)
   rw [Nat.add_zero] at h0
   have h0 : H k = some (objK r idN n x.1) := h0
   refine ⟨?_, wfP hH l (n := n + nK r) a2 (fun j hj => ?_) fun j hj => ?_⟩
   · match r, x, h0, h2 with
     | .box r, x, h0, h2 =>
       obtain ⟨cells, t, k1, k2, k3, k4⟩ := hH k _ hA (h0.trans (show _ = some (.row (cellR r idN n x.1)) from rfl))
       refine wfR (ι := idN) hH r k4 fun j hj => ?_
       have := h2 j (by simp only [nP, nK]; omega)
       show H (n + j) = _
       rw [this]
       exact List.getElem?_append_left (l₂ := subsP l x.2) (Nat.lt_of_lt_of_eq hj (subR_len r x.1).symm)
     | .sl c, (some l, x), h0, h2 => exact wfArr (c := c) (l := l) (hH k _ hA (h0.trans rfl))
     | .sl c, (none, x), h0, h2 => trivial
   · have := h1 (j + 1) (by simp only [mP]; omega)
     rw [show k + 1 + j = k + (j + 1) by omega, this]
     simp only [rowsP, List.getElem?_cons_succ]
   · have := h2 (nK r + j) (by simp only [nP]; omega)
     rw [← Nat.add_assoc] at this
     rw [this]
     simp only [subsP]
     rw [List.getElem?_append_right (by rw [subK_len]; omega), subK_len, Nat.add_sub_cancel_left]
end
theorem wf_Sc {l : List PK} {x : ElP l} {E : Env} {us : List Value} (p : Pre T0 E (Sc l x)) (h : VRs E (argsP l idN 0 x) us) : WfP l x := by
 refine wfP (H := (Sc l x).H) (n := mP l) (fun id o hA ho => p.st.objs id trivial hA o ho) l h (fun j hj => ?_) fun j hj => ?_
 · unfold Sc
   rw [Nat.zero_add, addO_H0, List.getElem?_append_left (by rw [rowsP_len]; exact hj)]
 · unfold Sc
   rw [addO_H0, List.getElem?_append_right (by rw [rowsP_len]; omega), rowsP_len, Nat.add_sub_cancel_left]
def lastQ (tt : Nat → Option TI) (fi : FI) (s : SmR) (r : CRes) : Option (ElR s.rts × ElP (refs s.ps)) :=
 cond r.e.leaves (match imarks r.ds r.S with
   | none => none
   | some (S', _) => match ires tt fi.nt r.fr S' fi.res with
     | none => none
     | some (vs, _) => runQ s ⟨tupI vs, S', 0, 0⟩) none
section
variable {P : Program} {tt : Nat → Option TI} {ft : Nat → Option FI}
theorem bodyQ_ok {fi : FI} {f : Nat} {nm : Nat → Option Nm} {cl : Cl} {lf : Nat} {s : SmR} {x : ElP s.ps} {y : ElR s.rts} {z : ElP (refs s.ps)} {r1 : CRes} (hm : P.follows .mixedOrders = true) (htt : TT P tt)
   (hfi : ∃ fn, P.funcs[f]? = some fn ∧ fn.body = some fi.body ∧ fn.ntmps = fi.nt ∧ fn.results = fi.res.toArray ∧ (fn.name == "runtime.NumGoroutine") = false ∧ codeOK fi.body = true) (hcl : ClOK P cl) (hfr : ClFr cl)
   (hb : Nat.ble (argsP s.ps idN 0 x).length fi.nt = true) (hr1 : icode P tt nm (mP s.ps) fi.nt cl lf none fi.body (argGo (argsP s.ps idN 0 x) 0 .leaf) (Sc s.ps x) [] = some r1) (h : lastQ tt fi s r1 = some (y, z))
   {E : Env} {us : List Value} (p : Pre T0 E (Sc s.ps x)) (hv : VRs E (argsP s.ps idN 0 x) us) :
   CallsIn Fence.wide 0 P f us.toArray E.w (RetB (mP s.ps) T0 E (Sc s.ps x) ⟨vB s (mP s.ps) y, ScB s y z, 0, 0⟩) := by
 unfold lastQ at h
 cases hl : r1.e.leaves with
 | false => rw [hl] at h; cases h
 | true =>
 rw [hl, cond_true] at h
 split at h
 · cases h
 rename_i S' wr hmk
 split at h
 · cases h
 rename_i vs' rd' hres
 obtain ⟨fn, f1, f2, f3, f4, f5, f6⟩ := hfi
 refine callsIn_of_wp_marks f1 f2 trivial ?_
 refine icode_sound (T := T0) (E := E) (S := Sc s.ps x) (ds := []) (round := none) (B := mP s.ps) (fun _ _ => trivial) hm rfl hcl hfr htt fi.body f6 p (by rw [Sc_next]; omega) (fun _ _ => trivial) ?_ ⟨rfl, fun D hD => by cases hD⟩ (fun _ => rfl) hr1 (fun _ _ => trivial) (fun _ _ => trivial) ?_
 · have := FR.enter (nt := fi.nt) hv (Nat.le_of_ble_eq_true hb)
   rw [f3]; exact this
 intro E1 a1 k1 k2 kB
 have p1 := kB.pre (fun _ _ => trivial)
 have hlv : LeavesInM Fence.wide 0 P fn a1.tmps (RetB (mP s.ps) T0 E (Sc s.ps x) ⟨vB s (mP s.ps) y, ScB s y z, 0, 0⟩) a1.defers .returning E1.w := by
   refine marks_sound p1 k2 hmk (fun _ _ => trivial) fun E2 m1 m2 => ?_
   have p2 := m1.pre p1
   obtain ⟨us', h1, h2⟩ := ires_run htt p2 (k1.mono (m1.env p1)) hres (fun _ _ => trivial)
   have h3 := results_run (P := P) (w := E2.w) f4 h1
   refine ⟨tupOf us', h3, ?_⟩
   have hq := kB.trans (PostB.of kB.le (fun _ _ => trivial) m1 m2)
   obtain ⟨E3, e3, v3, q3⟩ := runQ_sound (r := ⟨tupI vs', S', 0, 0⟩) h p hv hq (tup_rel h2)
   exact ⟨_, E3, rfl, e3, v3, q3⟩
 cases he : r1.e with
 | normal => rw [he] at *; exact hlv
 | ret => exact hlv
 | exit i => rw [he] at hl; cases hl
 | goto l => rw [he] at hl; cases hl
theorem conTR {sml : List (Nat × Sm)} {hxl : List (Nat × Hx)} {f : Nat} {s : SmR} {fi : FI} {nmf : Nat → Option Nm} {st hd : Nat → Bool} (n : Nat) (hm : P.follows .mixedOrders = true) (htt : TT P tt) (hft : FT P ft) (hsm : SmOK P sml)
   (hhx : HxsOK P hxl) (hC : Callable P f) (h3 : ft f = some fi) (h4 : ∀ x, Nat.ble (argsP s.ps idN 0 x).length fi.nt = true) (hn : (regs fi.body).Nodup) (hl : okC nmf st hd fi.body none = true)
   (hrun : ∀ (x : ElP s.ps) (y : ElR s.rts) (z : ElP (refs s.ps)), WfP s.ps x → s.f x = some (y, z) → ∃ lf,
     icodeTB P tt nmf (mP s.ps) fi.nt (icallK P tt ft (fun _ _ => none) (smL sml) (hxL hxl) lf n (ElR s.rts × ElP (refs s.ps))) lf st
       (atNB P tt nmf (mP s.ps) fi.nt fi.body (icallK P tt ft (fun _ _ => none) (smL sml) (hxL hxl) lf n (ElR s.rts × ElP (refs s.ps))) lf hd (lastQ tt fi s)) fi.body [] (argGo (argsP s.ps idN 0 x) 0 .leaf) (Sc s.ps x) [] (lastQ tt fi s) = some (y, z))
   (hz : frzF nmf = true := by rfl) : ConR P f s := by
 have hB0 : mB nmf (mP s.ps) = 0 := by unfold mB; rw [hz]; rfl
 have hex : ExOK P (exH (smL sml) (hxL hxl)) := exH_ok (smL_ok hsm) (hxL_ok hhx)
 refine ⟨hC, fun E x us y z hy p hv => ?_⟩
 obtain ⟨lf, hr⟩ := hrun x y z (wf_Sc p hv) hy
 rw [← atB_in hB0 (iKe n _) hn hl, icodeK_eq (iKe n _)] at hr
 cases hr1 : icode P tt nmf (mP s.ps) fi.nt (icall P tt ft (fun _ _ => none) (exH (smL sml) (hxL hxl)) lf n) lf none fi.body (argGo (argsP s.ps idN 0 x) 0 .leaf) (Sc s.ps x) [] with
 | none => rw [hr1] at hr; cases hr
 | some r1 =>
   rw [hr1] at hr
   exact bodyQ_ok hm htt (hft f fi h3) (icall_ok hm htt hft hex n) (icall_fr hex n) (h4 x) hr1 hr p hv
end
end Go.Jx
end
section
namespace Go.Jx
open Go Go.Sx Go.RowKit
universe u
section
variable {P : Program} {tt : Nat → Option TI} {nm : Nat → Option Nm} {lf : Nat} {st hd : Nat → Bool} {cl : Cl}
def atQ (P : Program) (tt : Nat → Option TI) (nm : Nat → Option Nm) (fi : FI) (s : SmR) (clK : ClK (ElR s.rts × ElP (refs s.ps))) (lf : Nat) (hd : Nat → Bool) (k : Nat) (ns : List Nat) (x : NRes) : Option (ElR s.rts × ElP (refs s.ps)) :=
 atNB P tt nm (mP s.ps) fi.nt fi.body clK lf hd (lastQ tt fi s) k ns x
theorem mB_frz {B : Nat} (hz : frzF nm = true) : mB nm B = 0 := by unfold mB; rw [hz]; rfl
theorem atQ_eq (hz : frzF nm = true) {fi : FI} {s : SmR} {clK : ClK (ElR s.rts × ElP (refs s.ps))} (h : ClEq cl clK) (hn : (regs fi.body).Nodup) (hl : okC nm st hd fi.body none = true) (k : Nat) (ns ns' : List Nat) (hd' : dn (hd k) ns = some ns') (x : NRes) :
   atQ P tt nm fi s clK lf hd k ns x = icodeFTB P tt nm (mP s.ps) fi.nt clK lf st (atQ P tt nm fi s clK lf hd) k fi.body [] ns' x (lastQ tt fi s) := atNB_eq (mB_frz hz) h hn hl k ns ns' hd' x
theorem atQ_zero {fi : FI} {s : SmR} {clK : ClK (ElR s.rts × ElP (refs s.ps))} (k : Nat) (ns : List Nat) (hd' : dn (hd k) ns = none) (x : NRes) : atQ P tt nm fi s clK lf hd k ns x = none := atNB_zero k ns hd' x
end
end Go.Jx
end
section
namespace Go.Jx
open Go Go.Sx Go.RowKit
universe u
def updP : (l : List PK) → ElP l → ElP (refs l) → ElP l
 | [], _, _ => ()
 | .dat _ :: l, x, z => (x.1, updP l x.2 z)
 | .fn _ :: l, x, z => updP l x z
 | .ref _ :: l, x, z => (z.1, updP l x.2 z.2)
theorem rowsP_upd : ∀ (l : List PK) (ι : Nat → Nat) (n : Nat) (x : ElP l) (z : ElP (refs l)), rowsP l ι n (updP l x z) = rowsP (refs l) ι n z
 | [], _, _, _, _ => rfl
 | .dat _ :: l, ι, n, x, z => rowsP_upd l ι n x.2 z
 | .fn _ :: l, ι, n, x, z => rowsP_upd l ι n x z
 | .ref r :: l, ι, n, x, z => by
   show objK r ι n z.1 :: rowsP l ι (n + nK r) (updP l x.2 z.2) = _
   rw [rowsP_upd l]; rfl
theorem subsP_upd : ∀ (l : List PK) (x : ElP l) (z : ElP (refs l)), subsP l (updP l x z) = subsP (refs l) z
 | [], _, _ => rfl
 | .dat _ :: l, x, z => subsP_upd l x.2 z
 | .fn _ :: l, x, z => subsP_upd l x z
 | .ref r :: l, x, z => by
   show subK r z.1 ++ subsP l (updP l x.2 z.2) = _
   rw [subsP_upd l]; rfl
theorem argsP_upd : ∀ (l : List PK) (ρ : Nat → Nat) (k : Nat) (x : ElP l) (z : ElP (refs l)), argsP l ρ k (updP l x z) = argsP l ρ k x
 | [], _, _, _, _ => rfl
 | .dat c :: l, ρ, k, x, z => congrArg (fun q => asIV c x.1 :: q) (argsP_upd l ρ k x.2 z)
 | .fn f :: l, ρ, k, x, z => congrArg (fun q => IV.fn f [] :: q) (argsP_upd l ρ k x z)
 | .ref r :: l, ρ, k, x, z => congrArg (fun q => argK r (ρ k) :: q) (argsP_upd l ρ (k + 1) x.2 z.2)
def sQ (l : List PK) : SmR := ⟨l, [], fun _ => none⟩
theorem ScB_upd (l : List PK) (x : ElP l) (z : ElP (refs l)) : ScB (sQ l) () z = Sc l (updP l x z) := by
 unfold ScB Sc newO
 rw [rowsP_upd, subsP_upd]
 show addO (rowsP (refs l) idN (mP l) z ++ (subsP (refs l) z ++ [])) S0 = _
 rw [List.append_nil]
structure Held (T : TW) (E : Env) (S : IS) (l : List PK) (x : ElP l) (rows subs : List Nat) : Prop where
 l1 : rows.length = mP l
 l2 : subs.length = nP l
 nd : (rows ++ subs).Nodup
 w : ∀ id ∈ rows ++ subs, T.w id
 A : ∀ id ∈ subs, E.A id
 at_ : ∀ ι, Nums ι (mP l) subs → RowsAt E rows (rowsP l ι (mP l) x)
 row : ∀ id ∈ rows, ∃ cs, S.H id = some (.row cs)
 sub : ∀ j : Nat, (subsP l x)[j]? = (subs[j]?).bind fun id => S.heap.get id
section
variable {T : TW} {E : Env} {S : IS} {l : List PK} {x : ElP l} {rows subs : List Nat}
theorem Held.num (h : Held T E S l x rows subs) : Nums (ol 0 (rows ++ subs)) 0 rows ∧ Nums (ol 0 (rows ++ subs)) (mP l) subs := by
 have hnq : Nums (ol 0 (rows ++ subs)) 0 (rows ++ subs) := fun j id hj => by
   rw [Nat.zero_add]
   unfold ol; rw [if_neg (by omega), Nat.sub_zero, List.getD_eq_getElem?_getD, hj]; rfl
 refine ⟨hnq.fst, ?_⟩
 have := hnq.snd
 rwa [Nat.zero_add, h.l1] at this
theorem Held.len (h : Held T E S l x rows subs) : (rows ++ subs).length = mP l + nP l := by rw [List.length_append, h.l1, h.l2]
theorem Held.rk (h : Held T E S l x rows subs) {k : Nat} (hk : k < mP l) : rows[k]? = some (ol 0 (rows ++ subs) k) := by
 have h1 : k < rows.length := by rw [h.l1]; exact hk
 rw [List.getElem?_eq_getElem h1, ← h.num.1 k _ (List.getElem?_eq_getElem h1), Nat.zero_add]
theorem Held.sk (h : Held T E S l x rows subs) {k : Nat} (h1 : mP l ≤ k) (h2 : k < (rows ++ subs).length) : subs[k - mP l]? = some (ol 0 (rows ++ subs) k) := by
 have h3 : k - mP l < subs.length := by rw [h.len] at h2; rw [h.l2]; omega
 rw [List.getElem?_eq_getElem h3, ← h.num.2 _ _ (List.getElem?_eq_getElem h3), Nat.add_sub_cancel' h1]
theorem Held.rowA (h : Held T E S l x rows subs) {k : Nat} (hk : k < mP l) : ∃ r nj xj, (∀ ι, (rowsP l ι (mP l) x)[k]? = some (objK r ι nj xj)) ∧ mP l ≤ nj ∧ nj + nK r ≤ (rows ++ subs).length ∧ E.A (ol 0 (rows ++ subs) k) ∧ ((objK r (ol 0 (rows ++ subs)) nj xj).blk = true → E.hb (ol 0 (rows ++ subs) k) = true) ∧ OR E (ol 0 (rows ++ subs) k) (objK r (ol 0 (rows ++ subs)) nj xj) := by
 have h1 : k < (rowsP l (ol 0 (rows ++ subs)) (mP l) x).length := by rw [rowsP_len]; exact hk
 obtain ⟨r, nj, xj, d1, d2, d3, d4⟩ := rowsP_get l (ol 0 (rows ++ subs)) (mP l) x k _ (List.getElem?_eq_getElem h1)
 obtain ⟨id, i1, i2, i3, i4⟩ := h.at_ _ h.num.2 k _ (d4 (ol 0 (rows ++ subs)))
 rw [h.rk hk] at i1
 cases i1
 exact ⟨r, nj, xj, d4, d2, by rw [h.len]; omega, i2, i3, i4⟩
theorem Held.allA (h : Held T E S l x rows subs) : ∀ id ∈ rows ++ subs, E.A id := fun id hid => by
 rcases List.mem_append.1 hid with hid | hid
 · obtain ⟨k, hk, rfl⟩ := List.mem_iff_getElem.1 hid
   obtain ⟨_, _, _, _, _, _, i2, _, _⟩ := h.rowA (k := k) (by rw [← h.l1]; exact hk)
   have := h.rk (k := k) (by rw [← h.l1]; exact hk)
   rw [List.getElem?_eq_getElem hk, Option.some.injEq] at this
   rw [this]; exact i2
 · exact h.A id hid
theorem Held.numTo (E : Env) (q : List Nat) {k : Nat} (hk : k < q.length) : NumTo E (renE 0 q E) (ol 0 q k) k := fun hA => ⟨⟨by omega, hA⟩, rfl, rfl, rfl, rfl⟩
theorem Held.obj (h : Held T E S l x rows subs) (p : Pre T E S) {k : Nat} {o : IObj} (hk : k < (rows ++ subs).length) (hAk : E.A (ol 0 (rows ++ subs) k)) (ho : (Sc l x).H k = some o) : ObjTo E S (renE 0 (rows ++ subs) E) (ol 0 (rows ++ subs) k) k o := by
 unfold Sc at ho
 rw [addO_H0] at ho
 have hnum : ∀ j, j < (rows ++ subs).length → NumTo E (renE 0 (rows ++ subs) E) (ol 0 (rows ++ subs) j) j := fun j hj => Held.numTo E _ hj
 by_cases hkm : k < mP l
 · rw [List.getElem?_append_left (by rw [rowsP_len]; exact hkm)] at ho
   obtain ⟨r, nj, xj, d1, d2, d3, d4, d5, d6⟩ := h.rowA hkm
   rw [d1 idN] at ho
   cases ho
   obtain ⟨cs, hcs⟩ := h.row _ (List.mem_of_getElem? (h.rk hkm))
   exact ⟨OR.objK_to (E := E) (E' := renE 0 (rows ++ subs) E) (fun _ h => h) rfl hAk (hnum k hk) (fun j a b => hnum j (by omega)) d6, fun _ => ⟨_, hcs, rfl⟩, fun hb => d5 (objK_blk.trans hb)⟩
 · rw [List.getElem?_append_right (by rw [rowsP_len]; omega), rowsP_len] at ho
   have hd := subsP_dat _ _ _ (List.mem_of_getElem? ho)
   rw [h.sub, h.sk (by omega) hk] at ho
   have hid := (ol_mem hk).1
   exact ⟨OR.dat_to (E := E) (E' := renE 0 (rows ++ subs) E) (fun _ h => h) rfl hAk (hnum k hk) hd (p.st.objs _ (T.sub _ (h.w _ hid)) hAk _ ho), fun hl => ⟨_, ho, hl⟩, fun hbk => p.st.blk _ (T.sub _ (h.w _ hid)) hAk _ ho hbk⟩
theorem Held.pre (h : Held T E S l x rows subs) (p : Pre T E S) : Pre T0 (renE 0 (rows ++ subs) E) (Sc l x) :=
 Pre.re p h.nd (fun id hi => T.sub _ (h.w id hi)) (by rw [Sc_next, h.len]) fun k o hk hAk ho => h.obj p hk hAk ho
theorem Held.back {s : SmR} {x : ElP s.ps} {y : ElR s.rts} {z : ElP (refs s.ps)} {Er : Env} (h : Held T E S s.ps x rows subs) (p : Pre T E S) (k2 : PostB (mP s.ps) T0 (renE 0 (rows ++ subs) E) (Sc s.ps x) Er (ScB s y z)) :
   Post T E S (mrgR E Er S.next (mP s.ps)) (backS s S.next rows subs y z S) ∧ Fresh E S (mrgR E Er S.next (mP s.ps)) := by
 have hA := h.allA
 have hlt : ∀ id, id ∈ rows ++ subs → id < S.next := fun id hi => p.bnd id (hA id hi)
 have hsb : ∀ k, k < (rows ++ subs).length → Live (renE 0 (rows ++ subs) E) (Sc s.ps x).H k → Live E S.H (ol 0 (rows ++ subs) k) := fun k hk ⟨h0, o, h1, h2⟩ => ⟨h0, (h.obj p hk (hA _ (ol_mem hk).1) h1).live h2⟩
 have hbn : (setL rows (rowsP (refs s.ps) (fun k => S.next + (k - mP s.ps)) (mP s.ps) z) (killL subs S)).next = S.next := by rw [setL_next, killL_next]
 have hndr : rows.Nodup := (List.nodup_append.1 h.nd).1
 have hrs : ∀ id, id ∈ rows → id ∉ subs := fun id h1 h2 => (List.nodup_append.1 h.nd).2.2 id h1 id h2 rfl
 have hScB : ∀ k, (ScB s y z).H k = (rowsP (refs s.ps) idN (mP s.ps) z ++ newO s y z)[k]? := fun k => addO_H0 _ k
 have hql := h.len
 have l1 := h.l1
 have hrk := fun k (hk : k < mP s.ps) => h.rk hk
 have hsk := fun k (h1 : mP s.ps ≤ k) (h2 : k < (rows ++ subs).length) => h.sk h1 h2
 have hrowA := fun k (hk : k < mP s.ps) => h.rowA hk
 have hnd := h.nd
 have hT := h.w
 have hinr : ∀ id, id ∈ rows → id ∈ rows ++ subs := fun id h => List.mem_append_left _ h
 have hins : ∀ id, id ∈ subs → id ∈ rows ++ subs := fun id h => List.mem_append_right _ h
 generalize hq : rows ++ subs = q at *
 have hEA : ∀ k, k < mP s.ps → Er.A k ∧ Er.ρ k = E.ρ (ol 0 q k) ∧ Er.κ k = E.κ (ol 0 q k) ∧ Er.hd k = E.hd (ol 0 q k) ∧ Er.hb k = E.hb (ol 0 q k) := fun k hk => by
   obtain ⟨a1, a2, a3, a4, a5⟩ := k2.alw k hk ⟨by omega, hA _ (ol_mem (by omega)).1⟩
   exact ⟨a1, a2, a3, a4, a5⟩
 exact merge_back (n := S.next) (m := mP s.ps) (S' := backS s S.next rows subs y z S) p hnd hT hA (by omega) rfl hsb k2 (by
     unfold backS ScB
     rw [addO_next, addO_next, hbn, List.length_append, rowsP_len, refs_m]
     have : S0.next = 0 := rfl
     omega) (fun id hid hnq => by
     unfold backS
     rw [addO_H, hbn, if_pos hid, setL_out (fun h => hnq (hinr _ h)), killL_out (fun h => hnq (hins _ h))]) (fun k o hk ho => by
     unfold backS at ho
     have hin := (ol_mem (q := q) (k := k) (by omega)).1
     rw [addO_H, hbn, if_pos (hlt _ hin), setL_in hndr (by rw [rowsP_len, refs_m, l1]) (hrk k hk)] at ho
     obtain ⟨r, nj, xj, rfl, d2, d3, d4⟩ := rowsP_get _ _ _ _ _ _ ho
     have hsr : (ScB s y z).H k = some (objK r idN nj xj) := by
       rw [hScB, List.getElem?_append_left (by rw [rowsP_len, refs_m]; exact hk)]; exact d4 idN
     obtain ⟨a1, a2, a3, a4, a5⟩ := hEA k hk
     obtain ⟨o1, o2, o3, o4⟩ := mrgR_old (E := E) (Er := Er) (n := S.next) (m := mP s.ps) (hlt _ hin)
     obtain ⟨_, _, _, _, _, _, i2, _⟩ := hrowA k hk
     exact ⟨OR.objK_to (E := Er) (E' := mrgR E Er S.next (mP s.ps)) (fun _ h => h) rfl a1 (fun _ => ⟨.inl ⟨hlt _ hin, i2⟩, o1.trans a2.symm, o2.trans a3.symm, o3.trans a4.symm, o4.trans a5.symm⟩) (fun j a b hAj => by
       obtain ⟨r1, r2, r3, r4, r5⟩ := mrgR_new (E := E) (Er := Er) (n := S.next) (m := mP s.ps) (k := j) (by omega)
       exact ⟨r5 hAj, r1, r2, r3, r4⟩) (k2.st.objs k trivial a1 _ hsr), fun hl => ⟨_, hsr, objK_live.trans hl⟩, fun hb => (o4.trans a5.symm).trans (k2.st.blk k trivial a1 _ hsr (objK_blk.trans hb))⟩) (fun k o h1 h2 ho => by
     unfold backS at ho
     have hin := (ol_mem (q := q) (k := k) h2).1
     have hin2 := List.mem_of_getElem? (hsk k h1 h2)
     rw [addO_H, hbn, if_pos (hlt _ hin), setL_out (fun h => hrs _ h hin2), killL_in hin2] at ho
     cases ho; rfl) (fun k o h1 hAk ho => by
     unfold backS at ho
     have hkb := k2.bnd k hAk
     unfold ScB at hkb
     rw [addO_next, List.length_append, rowsP_len, refs_m] at hkb
     have e0 : S0.next = 0 := rfl
     rw [addO_H, hbn, if_neg (by omega), if_pos (by omega), Nat.add_sub_cancel_left] at ho
     have hd := newO_dat (List.mem_of_getElem? ho)
     have hsr : (ScB s y z).H k = some o := by
       rw [hScB, List.getElem?_append_right (by rw [rowsP_len, refs_m]; exact h1), rowsP_len, refs_m]; exact ho
     obtain ⟨r1, r2, r3, r4, r5⟩ := mrgR_new (E := E) (Er := Er) (n := S.next) (m := mP s.ps) (k := k) h1
     exact ⟨OR.dat_to (E := Er) (E' := mrgR E Er S.next (mP s.ps)) (fun _ h => h) rfl hAk (fun hA => ⟨r5 hA, r1, r2, r3, r4⟩) hd (k2.st.objs k trivial hAk _ hsr), fun hl => ⟨_, hsr, hl⟩, fun hbk => r4.trans (k2.st.blk k trivial hAk _ hsr hbk)⟩)
end
end Go.Jx
end
section
namespace Go.Jx
open Go Go.Sx Go.RowKit
universe u
structure Beside (b : Nat) (w w' : World) : Prop where
 os : w'.os = w.os
 tape : w'.tape = w.tape
 output : w'.output = w.output
 size : w'.heap.size = w.heap.size
 same : ∀ x, x ≠ b → w'.heap[x]? = w.heap[x]?
theorem Beside.put (w : World) (b : Nat) (o : Obj) : Beside b w (w.putObj b o) := ⟨rfl, rfl, rfl, by simp, fun x hx => World.putObj_heap_other hx⟩
theorem Beside.symm {b : Nat} {w w' : World} (h : Beside b w w') : Beside b w' w := ⟨h.os.symm, h.tape.symm, h.output.symm, h.size.symm, fun x hx => (h.same x hx).symm⟩
theorem Beside.upd {b : Nat} {w w' : World} (h : Beside b w w') : Upd [b] w w' := ⟨h.os, h.tape, h.output, by rw [h.size]; exact Nat.le_refl _, fun x _ hx => h.same x (by simpa using hx)⟩
def Apart (E : Env) (S : IS) (b : Nat) : Prop := b ∈ E.m ∧ ∀ id, E.A id → Live E S.H id → E.ρ id ≠ b
section
variable {E E' : Env} {S S' : IS} {b : Nat} {w w' : World}
theorem Pre.beside (p : Pre T0 E S) (hb : Apart E S b) (h : Beside b E.w w) : E.Le (E.at_ w) ∧ Pre T0 (E.at_ w) S ∧ Apart (E.at_ w) S b := by
 have hle : E.Le (E.at_ w) := ⟨fun _ h => ⟨h, rfl, rfl, rfl, rfl⟩, ⟨fun x hx hm => ⟨hm, h.same x fun e => hm (e ▸ hb.1)⟩⟩⟩
 refine ⟨hle, ⟨⟨fun id ht ha o ho => (p.st.objs id ht ha o ho).mono hle ha (p.st.blk id ht ha o ho) fun hl hhb => h.same _ (hb.2 id ha ⟨hhb, o, ho, hl⟩), fun id ht ha o ho hbk => p.st.blk id ht ha o ho hbk, fun id ht ha hl => p.st.own id ht ha hl,
   fun i j a b' c d e f g => p.st.inj i j a b' c d e f g, fun x hx => ?_⟩, p.bnd, p.nw⟩, hb⟩
 show x < w.heap.size
 rw [h.size]; exact p.st.lo x hx
theorem PostB.apart {B : Nat} (k : PostB B T0 E S E' S') (p : Pre T0 E S) (hb : Apart E S b) : Apart E' S' b := by
 have hlt := p.st.lo b hb.1
 refine ⟨?_, fun id ha hl e => ?_⟩
 · rcases k.mem b hb.1 hlt with h | ⟨id, _, h1, h2, h3⟩
   · exact h
   · exact absurd h3 (hb.2 id h1 h2)
 · rcases Nat.lt_or_ge id B with h | h
   · have hA := k.fr id h ha
     exact hb.2 id hA (k.old id h trivial hA hl) ((k.alw id h hA).2.1.symm.trans e)
   · rcases k.new id h ha hl with h1 | ⟨j, _, j1, j2, j3⟩
     · omega
     · exact hb.2 j j1 j2 (j3.symm.trans e)
theorem PostB.at_same {B : Nat} (k : PostB B T0 E S E' S') (p : Pre T0 E S) (hb : Apart E S b) : E'.w.heap[b]? = E.w.heap[b]? := k.same b (p.st.lo b hb.1) fun id _ ha hl => hb.2 id ha hl
theorem PostB.beside {B : Nat} (k : PostB B T0 E S E' S') (p : Pre T0 E S) (hb : Apart E S b) (h1 : Beside b E.w w) (h2 : Beside b E'.w w') (h3 : w'.heap[b]? = w.heap[b]?) : PostB B T0 (E.at_ w) S (E'.at_ w') S' := by
 have p' : Pre T0 E' S' := k.pre fun _ _ => trivial
 obtain ⟨_, p2, _⟩ := p'.beside (k.apart p hb) h2
 have es : (E.at_ w).w.heap.size = E.w.heap.size := h1.size
 refine ⟨p2.st, h2.os.trans (k.os.trans h1.os.symm), h2.tape.trans (k.tape.trans h1.tape.symm), h2.output.trans (k.output.trans h1.output.symm), ?_, fun x hx hn => ?_, k.alw, fun id hB ha hl => ?_, k.old, fun x hx => ?_, fun x hx hlt => k.mem x hx (by rw [es] at hlt; exact hlt), k.bnd, k.le, k.fr⟩
 · show w.heap.size ≤ w'.heap.size
   rw [h1.size, h2.size]; exact k.size
 · show w'.heap[x]? = w.heap[x]?
   by_cases e : x = b
   · rw [e]; exact h3
   · rw [h2.same x e, h1.same x e]; exact k.same x (by rw [es] at hx; exact hx) hn
 · rw [es]; exact k.new id hB ha hl
 · rw [es]; exact k.memo x hx
end
end Go.Jx
end
section
namespace Go.Jx
open Go Go.Sx Go.RowKit
universe u
structure LpC where
 ls : List Nat
 lp : List PK
 nm : Nat → Option Nm
def putL : List Nat → List IV → PT IV → PT IV
 | t :: ts, v :: vs, fr => putL ts vs (fr.set v t)
 | _, _, fr => fr
theorem putL_slot : ∀ {ls : List Nat} {vs : List IV} {us : List Value} {E : Env} {nt : Nat} {fr : PT IV} {tmps : Array Value}, VRs E vs us → us = ls.map (fun t => tmps.getD t undef) → FR E nt fr tmps → FR E nt (putL ls vs fr) tmps
 | [], vs, us, E, nt, fr, tmps, hv, hu, hf => by simpa [putL] using hf
 | t :: ls, [], us, E, nt, fr, tmps, hv, hu, hf => by simpa [putL] using hf
 | t :: ls, v :: vs, us, E, nt, fr, tmps, hv, hu, hf => by
   obtain ⟨u, us, rfl, a1, a2⟩ := hv.inv
   simp only [List.map_cons, List.cons.injEq] at hu
   show FR E nt (putL ls vs (fr.set v t)) tmps
   refine putL_slot a2 hu.2 ⟨hf.size, fun k hk => ?_⟩
   rw [slot_set]
   by_cases e : k = t
   · subst e; rw [if_pos rfl, ← hu.1]; exact a1
   · rw [if_neg e]; exact hf.get k hk
section
variable (P : Program) (tt : Nat → Option TI)
def stepB (cfg : LpC) (c : TC) (nt lf : Nat) (cl : Cl) (pr : Nat) (assign body : Code) (d : ElP cfg.lp) (z : ElP (refs cfg.lp)) (x : El c) : Option (ElP (refs cfg.lp) × Option Code) :=
 match icode P tt cfg.nm (mP cfg.lp) nt cl lf none assign (setPs [pr] [asIV c x] (putL cfg.ls (argsP cfg.lp idN 0 d) .leaf)) (Sc cfg.lp (updP cfg.lp d z)) [] with
 | none => none
 | some r1 => match r1.e with
   | .normal => match r1.ds with
     | [] => match icode P tt cfg.nm (mP cfg.lp) nt cl lf none body r1.fr r1.S [] with
       | none => none
       | some r2 => match r2.ds with
         | [] => match runQ (sQ cfg.lp) ⟨.tup [], r2.S, 0, 0⟩ with
           | none => none
           | some y => some (y.2, endOf r2.e)
         | _ => none
     | _ => none
   | _ => none
end
def foldB {D α : Type} (g : D → α → Option (D × Option Code)) : List α → D → Option (D × Option Code)
 | [], d => some (d, none)
 | x :: xs, d => match g d x with
   | none => none
   | some (d', none) => foldB g xs d'
   | some (d', some e) => some (d', some e)
section
variable {P : Program} {tt : Nat → Option TI}
theorem step_round {cfg : LpC} {c : TC} {nt lf : Nat} {cl : Cl} {pr : Nat} {assign body : Code} {d : ElP cfg.lp} {z z' : ElP (refs cfg.lp)} {x : El c} {e : Option Code} (hm : P.follows .mixedOrders = true) (hcl : ClOK P cl) (hfr : ClFr cl) (htt : TT P tt)
   (h : stepB P tt cfg c nt lf cl pr assign body d z x = some (z', e)) (hok : codeOK assign = true ∧ codeOK body = true) (hrf : hasRF assign = false ∧ hasRF body = false)
   {E : Env} {b : Nat} {rec : Loop} (p : Pre T0 E (Sc cfg.lp (updP cfg.lp d z))) (hb : Apart E (Sc cfg.lp (updP cfg.lp d z)) b) (hl : E.w.heap[b]? = some (.loop rec)) (hr : rec.state = .ready ∧ rec.pending = none ∧ rec.params = #[pr] ∧ rec.assign = assign ∧ rec.body = body ∧ rec.tmps.size = nt)
   (hargs : VRs E (argsP cfg.lp idN 0 d) (cfg.ls.map fun t => rec.tmps.getD t undef)) {u : Value} (hu : VR E (asIV c x) u) :
   YieldAt Fence.wide 0 P b #[u] E.w fun en B => ∃ E', PostB (mP cfg.lp) T0 E (Sc cfg.lp (updP cfg.lp d z)) E' (Sc cfg.lp (updP cfg.lp d z')) ∧
     ((e = none ∧ en = .returned (.bool true) ∧ B = E'.w) ∨ ∃ cd, e = some cd ∧ en = .returned (.bool false) ∧ Upd [b] E'.w B ∧ B.heap[b]? = some (.loop { rec with state := .done, pending := some cd })) := by
 obtain ⟨hr1, hr2, hr3, hr4, hr5, hr6⟩ := hr
 unfold stepB at h
 split at h
 · cases h
 rename_i r1 hrun1
 split at h <;> try cases h
 rename_i he1
 split at h <;> try cases h
 rename_i hds1
 split at h
 · cases h
 rename_i r2 hrun2
 split at h <;> try cases h
 rename_i hds2
 split at h
 · cases h
 rename_i y hq
 cases h
 have hblt : b < E.w.heap.size := heap_lt hl
 have hy := run_yield (P := P) (args := #[u]) hl (by rw [hr3]; rfl)
 refine ⟨_, _, _, _, hy, roundIn_of_wpIn trivial ?_⟩
 have hFp : (Fence.wide.inRound b).plain = Fence.wide := rfl
 have hfr0 : FR E nt (PT.leaf) rec.tmps := ⟨hr6, fun t ht => .unk _⟩
 have hfr1 : FR E nt (setPs [pr] [asIV c x] (putL cfg.ls (argsP cfg.lp idN 0 d) .leaf)) ((rec.params.zip #[u]).foldl (fun tmps (t, a) => tmps.setIfInBounds t a) rec.tmps) := by
   have := setPs_FR (ps := [pr]) (VRs.cons hu VRs.nil) (putL_slot hargs rfl hfr0)
   rw [hr3]
   simpa [List.zip] using this
 rw [hr4]
 refine icode_sound (T := T0) (E := E) (a := { tmps := _, defers := [] }) (S := Sc cfg.lp (updP cfg.lp d z)) (ds := []) (round := none) (B := mP cfg.lp) (fun _ _ => trivial) hm hFp hcl hfr htt assign hok.1 p (by rw [Sc_next]; omega) (fun _ _ => trivial) hfr1 ⟨rfl, fun D hD => by cases hD⟩ (fun h => by rw [hrf.1] at h; cases h) hrun1 (fun _ _ => trivial) (fun _ _ => trivial) ?_
 intro E1 a1 k1 k2 kB
 rw [he1]
 have hb1 := kB.apart p hb
 have hl1 : E1.w.heap[b]? = some (.loop rec) := (kB.at_same p hb).trans hl
 have p1 : Pre T0 E1 r1.S := kB.pre fun _ _ => trivial
 have hbg := run_beginRound (P := P) hl1 hr1
 refine ⟨_, hbg, ?_⟩
 generalize hW : (E1.w.putObj b (.loop { rec with state := .busy })) = W1
 have hs1 : Beside b E1.w W1 := by rw [← hW]; exact Beside.put _ _ _
 have hW1 : W1.heap[b]? = some (.loop { rec with state := .busy }) := by rw [← hW]; exact World.putObj_heap_same (heap_lt hl1)
 obtain ⟨hle2, p2, hb2⟩ := p1.beside hb1 hs1
 have hs0 : Beside b E.w (E.w.putObj b (.loop { rec with state := .busy })) := Beside.put _ _ _
 obtain ⟨hle0, p0, hb0⟩ := p.beside hb hs0
 have hw0 : (E.w.putObj b (.loop { rec with state := .busy })).heap[b]? = some (.loop { rec with state := .busy }) := World.putObj_heap_same hblt
 have kB2 := kB.beside p hb hs0 hs1 (by rw [hW1, hw0])
 rw [hr5]
 show body.wpIn _ 0 P _ a1 (E1.at_ W1).w
 rw [hds1] at k2
 refine icode_sound (T := T0) (E := E1.at_ W1) (a := a1) (S := r1.S) (ds := []) (round := none) (B := mP cfg.lp) (fun _ _ => trivial) hm hFp hcl hfr htt body hok.2 p2 kB.le (fun _ _ => trivial) (k1.mono hle2) (k2.mono hle2) (fun h => by rw [hrf.2] at h; cases h) hrun2 (fun _ _ => trivial) (fun _ _ => trivial) ?_
 intro E3 a3 m1 m2 mB
 have hall := kB2.trans mB
 have hargs0 : VRs (E.at_ (E.w.putObj b (.loop { rec with state := .busy }))) (argsP (sQ cfg.lp).ps idN 0 (updP cfg.lp d z)) (cfg.ls.map fun t => rec.tmps.getD t undef) := by
   show VRs _ (argsP cfg.lp idN 0 (updP cfg.lp d z)) _
   rw [argsP_upd]; exact hargs.mono hle0
 obtain ⟨E4, e4, _, q4⟩ := runQ_sound (s := sQ cfg.lp) (r := ⟨.tup [], r2.S, 0, 0⟩) (x := updP cfg.lp d z) (y := y.1) (z := y.2) (u := .tuple #[]) hq p0 hargs0 hall (.tup (us := []) rfl (fun i h => by simp at h))
 have hb4 := q4.apart p0 hb0
 have hl4 : E4.w.heap[b]? = some (.loop { rec with state := .busy }) := (q4.at_same p0 hb0).trans hw0
 have hend := fun j => run_endRound (P := P) j hl4
 have hs4 : Beside b E4.w (E4.w.putObj b (.loop rec)) := Beside.put _ _ _
 have hback := q4.beside p0 hb0 hs0.symm hs4 (by rw [World.putObj_heap_same (heap_lt hl4)]; exact hl.symm)
 have hfin : PostB (mP cfg.lp) T0 E (Sc cfg.lp (updP cfg.lp d z)) (E4.at_ (E4.w.putObj b (.loop rec))) (Sc cfg.lp (updP cfg.lp d y.2)) := by
   have e1 : ScB (sQ cfg.lp) y.1 y.2 = Sc cfg.lp (updP cfg.lp d y.2) := ScB_upd cfg.lp d y.2
   rw [e1] at hback
   exact hback
 rw [← e4]
 have hrec : ({ rec with state := .ready, pending := none } : Loop) = rec := by
   cases rec; cases hr1; cases hr2; rfl
 have hstop : ∀ cd, ∃ v w', (Instr.endRound b (some cd)).run P E4.w = .ok v w' ∧ ∃ E', PostB (mP cfg.lp) T0 E (Sc cfg.lp (updP cfg.lp d z)) E' (Sc cfg.lp (updP cfg.lp d y.2)) ∧
     ((some cd = none ∧ Ending.returned v = .returned (.bool true) ∧ w' = E'.w) ∨ ∃ cd', some cd = some cd' ∧ Ending.returned v = .returned (.bool false) ∧ Upd [b] E'.w w' ∧ w'.heap[b]? = some (.loop { rec with state := .done, pending := some cd' })) := fun cd => by
   refine ⟨_, _, hend (some cd), E4.at_ (E4.w.putObj b (.loop rec)), hfin, .inr ⟨cd, rfl, rfl, ?_, ?_⟩⟩
   · exact hs4.symm.upd.trans ((Beside.put E4.w b _).upd)
   · exact World.putObj_heap_same (heap_lt hl4)
 cases he : r2.e with
 | normal =>
   refine ⟨_, _, hend none, E4.at_ (E4.w.putObj b (.loop rec)), hfin, .inl ⟨rfl, rfl, ?_⟩⟩
   show E4.w.putObj b (.loop { rec with state := .ready, pending := none }) = E4.w.putObj b (.loop rec)
   rw [hrec]
 | ret =>
   obtain ⟨v, w', g1, E', g2, g3⟩ := hstop .ret
   refine ⟨v, w', g1, E', g2, ?_⟩
   rcases g3 with ⟨g3, _⟩ | ⟨cd, g3, g4, g5, g6⟩
   · cases g3
   · exact .inr ⟨cd, g3, g4, g5, by rw [hr4, hr5] at g6; exact g6⟩
 | exit i =>
   obtain ⟨v, w', g1, E', g2, g3⟩ := hstop (.exit i)
   refine ⟨v, w', g1, E', g2, ?_⟩
   rcases g3 with ⟨g3, _⟩ | ⟨cd, g3, g4, g5, g6⟩
   · cases g3
   · exact .inr ⟨cd, g3, g4, g5, by rw [hr4, hr5] at g6; exact g6⟩
 | goto l =>
   obtain ⟨v, w', g1, E', g2, g3⟩ := hstop (.goto l)
   refine ⟨v, w', g1, E', g2, ?_⟩
   rcases g3 with ⟨g3, _⟩ | ⟨cd, g3, g4, g5, g6⟩
   · cases g3
   · exact .inr ⟨cd, g3, g4, g5, by rw [hr4, hr5] at g6; exact g6⟩
end
end Go.Jx
end
section
namespace Go.Jx
open Go Go.Sx Go.RowKit
universe u
def IterS (P : Program) (gf : Nat) (us : List Value) (Rd : World → Prop) {α : Type} (V : α → Value → Prop) (xs : List α) : Prop :=
 ∀ (l : Nat) (J : List α → World → Prop) (K : World → Prop) (W : World), (∀ s A B, J s A → Upd [] A B → J s B) → (∀ A B, K A → Upd [] A B → K B) → (∀ s A, J s A → Rd A) →
   (∀ pre x post A u, xs = pre ++ x :: post → J pre A → V x u → YieldAt Fence.wide 0 P l #[u] A fun e B => (e = .returned (.bool true) ∧ J (pre ++ [x]) B) ∨ (e = .returned (.bool false) ∧ K B)) →
   J [] W → CallsIn Fence.wide 0 P gf (#[.func (.yield l) #[] #[]] ++ us.toArray) W fun e B => e = .returned (.tuple #[]) ∧ (J xs B ∨ K B)
structure SmI where
 ips : List PK
 c : TC
 xs : ElP ips → Option (List (El c))
def ReadI (E : Env) (s : SmI) (x : ElP s.ips) (us : List Value) (rows : List Nat) : Prop :=
 (∀ ρ k, Nums ρ k rows → VRs E (argsP s.ips ρ k x) us) ∧ RowsAt E rows (rowsP s.ips idN 0 x)
structure ConI (P : Program) (f : Nat) (s : SmI) : Prop where
 callable : Callable P f
 sc : scal s.c = true
 ns : nP s.ips = 0
 it : ∀ (E : Env) (x : ElP s.ips) (us : List Value) (rows : List Nat) (l : List (El s.c)), s.xs x = some l → ReadI E s x us rows →
   IterS P f us (fun W => E.Le (E.at_ W) ∧ ∀ id ∈ rows, W.heap[E.ρ id]? = E.w.heap[E.ρ id]?) (fun x u => ∀ E, VR E (asIV s.c x) u) l
def refsP : (l : List PK) → ElP l → ElP (refs l)
 | [], _ => ()
 | .dat _ :: l, x => refsP l x.2
 | .fn _ :: l, x => refsP l x
 | .ref _ :: l, x => (x.1, refsP l x.2)
theorem updP_refs : ∀ (l : List PK) (x : ElP l), updP l x (refsP l x) = x
 | [], _ => rfl
 | .dat c :: l, x => congrArg (fun q => (x.1, q)) (updP_refs l x.2)
 | .fn _ :: l, x => updP_refs l x
 | .ref r :: l, x => congrArg (fun q => (x.1, q)) (updP_refs l x.2)
theorem foldB_app {D α : Type} (g : D → α → Option (D × Option Code)) : ∀ (pre post : List α) (z z' : D), foldB g pre z = some (z', none) → foldB g (pre ++ post) z = foldB g post z'
 | [], post, z, z', h => by cases h; rfl
 | x :: pre, post, z, z', h => by
   simp only [foldB, List.cons_append] at h ⊢
   cases hg : g z x with
   | none => rw [hg] at h; cases h
   | some q =>
     obtain ⟨z1, e⟩ := q
     rw [hg] at h
     cases e with
     | none => exact foldB_app g pre post z1 z' h
     | some e => cases h
section
variable (P : Program) (tt : Nat → Option TI)
def itB (S2 : IS) (cfg : LpC) (id nt : Nat) (irows rows subs : List Nat) (w2 : Nat) (assign body : Code) : Bool :=
 ndB (id :: (irows ++ (rows ++ subs))) && (irows.all (rowB S2) && (rows.all (rowB S2) && (codeOK assign && (codeOK body && (!hasRF assign && (!hasRF body && (cfg.ls.all (fun t => Nat.blt t nt) && !w2.testBit id)))))))
def itEnd (S2 : IS) (cfg : LpC) (id nt : Nat) (fr : PT IV) (pr D : Nat) (assign body : Code) (irows rows subs : List Nat) (w : Nat) (q : ElP (refs cfg.lp) × Option Code) : Res :=
 ⟨.tup [], (backS (sQ cfg.lp) S2.next rows subs () q.1 S2).set id (.loop (cond q.2.isNone .ready .done) q.2 nt fr [pr] assign body D), 2 ^ id, 2 ^ id ||| (w ||| bitsL (irows ++ (rows ++ subs)))⟩
def itF (s : SmI) (cfg : LpC) (lf : Nat) (cl : Cl) (vs : List IV) (S : IS) : Option Res := match vs with
 | .yield id :: caps => match rdP s.ips S caps with
   | none => none
   | some (xi, irows, _, S1, w1) => match S1.heap.get id with
     | some (.loop .ready none nt fr [pr] assign body D) => match rdP cfg.lp S1 (cfg.ls.map (slot fr)) with
       | none => none
       | some (d0, rows, subs, S2, w2) => cond (itB S2 cfg id nt irows rows subs w2 assign body) (match fiP cfg.lp rows subs S2 d0 with
         | none => none
         | some d => match s.xs xi with
           | none => none
           | some l => match foldB (stepB P tt cfg s.c nt lf cl pr assign body d) l (refsP cfg.lp d) with
             | none => none
             | some q => some (itEnd S2 cfg id nt fr pr D assign body irows rows subs (w1 ||| w2) q)) none
     | _ => none
 | _ => none
end
section
variable {P : Program} {tt : Nat → Option TI}
theorem itF_inv {s : SmI} {cfg : LpC} {lf : Nat} {cl : Cl} {vs : List IV} {S : IS} {r : Res} (h : itF P tt s cfg lf cl vs S = some r) :
   ∃ id caps xi irows isubs S1 w1 nt fr pr assign body D d0 rows subs S2 w2 d l q, vs = .yield id :: caps ∧ rdP s.ips S caps = some (xi, irows, isubs, S1, w1) ∧ S1.heap.get id = some (.loop .ready none nt fr [pr] assign body D) ∧
     rdP cfg.lp S1 (cfg.ls.map (slot fr)) = some (d0, rows, subs, S2, w2) ∧ itB S2 cfg id nt irows rows subs w2 assign body = true ∧ fiP cfg.lp rows subs S2 d0 = some d ∧ s.xs xi = some l ∧
     foldB (stepB P tt cfg s.c nt lf cl pr assign body d) l (refsP cfg.lp d) = some q ∧ r = itEnd S2 cfg id nt fr pr D assign body irows rows subs (w1 ||| w2) q := by
 unfold itF at h
 split at h <;> try cases h
 rename_i id caps
 split at h
 · cases h
 rename_i xi irows isubs S1 w1 h1
 split at h <;> try cases h
 rename_i nt fr pr assign body D ho
 split at h
 · cases h
 rename_i d0 rows subs S2 w2 h2
 cases hb : itB S2 cfg id nt irows rows subs w2 assign body with
 | false => rw [hb] at h; cases h
 | true =>
 rw [hb, cond_true] at h
 split at h
 · cases h
 rename_i d h3
 split at h
 · cases h
 rename_i l h4
 split at h <;> cases h
 rename_i q h5
 exact ⟨id, caps, xi, irows, isubs, S1, w1, nt, fr, pr, assign, body, D, d0, rows, subs, S2, w2, d, l, q, rfl, h1, ho, h2, hb, h3, h4, h5, rfl⟩
theorem itF_fr {s : SmI} {cfg : LpC} {lf : Nat} {cl : Cl} {vs : List IV} {S : IS} : FrO S (itF P tt s cfg lf cl vs S) := fun r h => by
 obtain ⟨id, caps, xi, irows, isubs, S1, w1, nt, fr, pr, assign, body, D, d0, rows, subs, S2, w2, d, l, q, rfl, h1, ho, h2, hb, h3, h4, h5, rfl⟩ := itF_inv h
 have k1 := rdP_fr _ h1
 have k2 := rdP_fr _ h2
 have k3 := (killL_fr subs S2).trans ((setL_fr rows (rowsP (refs cfg.lp) (fun k => S2.next + (k - mP cfg.lp)) (mP cfg.lp) q.1) _).trans (addO_fr (newO (sQ cfg.lp) () q.1) _ 0))
 have k4 := (k1.trans k2).trans (k3.trans (FrX.set _ id (.loop (cond q.2.isNone .ready .done) q.2 nt fr [pr] assign body D)))
 refine ⟨k4.1, fun i hi hbit => k4.2 i hi ?_⟩
 have hbit : (2 ^ id ||| ((w1 ||| w2) ||| bitsL (irows ++ (rows ++ subs)))).testBit i = false := hbit
 simp only [bitsL_app, Nat.testBit_or, Bool.or_eq_false_iff, Nat.zero_testBit] at hbit ⊢
 obtain ⟨a, ⟨b, c⟩, _, e, f⟩ := hbit
 exact ⟨⟨b, c⟩, ⟨f, e, trivial⟩, a⟩
theorem itF_calm {s : SmI} {cfg : LpC} {lf : Nat} {cl : Cl} {vs : List IV} {S : IS} {r : Res} (h : itF P tt s cfg lf cl vs S = some r) (hw : r.wr = 0) : False := by
 obtain ⟨id, caps, xi, irows, isubs, S1, w1, nt, fr, pr, assign, body, D, d0, rows, subs, S2, w2, d, l, q, rfl, h1, ho, h2, hb, h3, h4, h5, rfl⟩ := itF_inv h
 have : 2 ^ id = 0 := (or_zero hw).1
 have := Nat.one_le_two_pow (n := id)
 omega
end
end Go.Jx
end
section
namespace Go.Jx
open Go Go.Sx Go.RowKit
universe u
section
variable {P : Program} {tt : Nat → Option TI}
theorem itF_sound (hm : P.follows .mixedOrders = true) (htt : TT P tt) {f : Nat} {s : SmI} {cfg : LpC} {lf : Nat} (hc : ConI P f s) {cl : Cl} (hcl : ClOK P cl) (hfr : ClFr cl) {vs : List IV} {S : IS} {r : Res} (h : itF P tt s cfg lf cl vs S = some r)
   {T : TW} {E : Env} {us : List Value} (p : Pre T E S) (hrd : tin T.r r.rd) (hwr : tin T.w r.wr) (hv : VRs E vs us) : Callable P f ∧ CallsIn Fence.wide 0 P f us.toArray E.w (RetE T E S r) := by
 refine ⟨hc.callable, ?_⟩
 obtain ⟨id, caps, xi, irows, isubs, S1, w1, nt, fr, pr, assign, body, D, d0, rows, subs, S2, w2, d, l, q, rfl, h1, ho, h2, hb, h3, h4, h5, rfl⟩ := itF_inv h
 obtain ⟨t1, t2⟩ := tin_or hwr
 obtain ⟨t3, t4⟩ := tin_or t2
 obtain ⟨t5, t6⟩ := tin_or t3
 have hTid := tin_bit t1
 have hbits := bitsL_mem t4
 unfold itB at hb
 simp only [Bool.and_eq_true] at hb
 obtain ⟨b1, b2, b3, b4, b5, b6, b7, b8, b9⟩ := hb
 have hnd := ndB_nodup b1
 obtain ⟨u0, us, rfl, a1, a2⟩ := hv.inv
 have hA : E.A id := by cases a1; assumption
 obtain ⟨E1, e1, q1, f1, il1, il2, iA, ib2, ib3⟩ := rdP_sound s.ips h1 p t5 a2
 have p1 := q1.pre p
 have hle1 := q1.env p
 obtain ⟨z1, z2, z3, z4, z5⟩ := hle1.alw id hA
 obtain ⟨fn, tmps, g1, g2, g3⟩ := p1.st.objs id (T.sub _ hTid) z1 _ ho
 have hls : VRs E1 (cfg.ls.map (slot fr)) (cfg.ls.map fun t => tmps.getD t undef) := ⟨by simp, fun i hi hi2 => by
   simp only [List.getElem_map]
   refine g2.get _ ?_
   have := (List.all_eq_true.1 b8) (cfg.ls[i]'(by simpa using hi)) (List.getElem_mem _)
   simpa using this⟩
 obtain ⟨E2, e2, q2, f2, l1, l2, A2, c2, c3⟩ := rdP_sound cfg.lp h2 p1 t6 hls
 have p2 := q2.pre p1
 have hle2 := q2.env p1
 obtain ⟨_, y2, y3⟩ := fiP_spec cfg.lp h3 l2
 have hq12 := Post.trans p q1 f1 q2
 have hf12 := f1.trans f2 q1.le
 have hS2 : S2.H id = some (.loop .ready none nt fr [pr] assign body D) := by
   rw [(rdP_fr _ h2).2 id (p1.bnd id z1) (by simpa using b9)]; exact ho
 obtain ⟨hA2, x2, x3, x4, x5⟩ := hle2.alw id z1
 obtain ⟨fn', tmps', g1', g2', g3'⟩ := p2.st.objs id (T.sub _ hTid) hA2 _ hS2
 obtain ⟨nq1, nq2⟩ := List.nodup_cons.1 hnd
 have nq3 := (List.nodup_append.1 nq2)
 have hheld : Held T E2 S2 cfg.lp d rows subs := ⟨l1, l2, nq3.2.1, fun i hi => hbits i (List.mem_append_right _ hi), A2, fun ι hι j o hj => by
     obtain ⟨id', g1, g2, g3, g4, _⟩ := fill_rows h3 l2 p2 (fun i hi => T.sub _ (hbits i (List.mem_append_right _ (List.mem_append_left _ hi)))) (c3 _ _ hι) j o hj
     exact ⟨id', g1, g2, g3, g4⟩,
   fun i hi => rowB_spec ((List.all_eq_true.1 b3) i hi), y3⟩
 have hidq : id ∉ rows ++ subs := fun hi => nq1 (List.mem_append_right _ hi)
 have hirq : ∀ i, i ∈ irows → i ∉ rows ++ subs := fun i h1 h2 => nq3.2.2 i h1 i h2 rfl
 have p0 := hheld.pre p2
 have hlive : Live E2 S2.H id := ⟨p2.st.blk id (T.sub _ hTid) hA2 _ hS2 rfl, _, hS2, rfl⟩
 have hfar : ∀ i, i ∉ rows ++ subs → T.r i → E2.A i → Live E2 S2.H i → ∀ k, (renE 0 (rows ++ subs) E2).A k → Live (renE 0 (rows ++ subs) E2) (Sc cfg.lp d).H k → (renE 0 (rows ++ subs) E2).ρ k ≠ E2.ρ i := fun i hi ht ha hl k hk hkl e => by
   have hk1 : k < (rows ++ subs).length := by have := hk.1; omega
   have hm1 := (ol_mem hk1).1
   obtain ⟨h0, o, ho1, ho2⟩ := hkl
   have hl2 : Live E2 S2.H (ol 0 (rows ++ subs) k) := ⟨h0, (hheld.obj p2 hk1 hk.2 ho1).live ho2⟩
   have := p2.st.inj _ _ (T.sub _ (hheld.w _ hm1)) ht hk.2 ha hl2 hl e
   exact hi (this ▸ hm1)
 have hap : Apart (renE 0 (rows ++ subs) E2) (Sc cfg.lp d) (E2.ρ id) := ⟨p2.st.own id (T.sub _ hTid) hA2 hlive, hfar id hidq (T.sub _ hTid) hA2 hlive⟩
 generalize hE0 : renE 0 (rows ++ subs) E2 = E0 at p0 hap hfar
 have hE0w : E0.w = E2.w := by rw [← hE0]; rfl
 have hE0m : E0.m = E2.m := by rw [← hE0]; rfl
 generalize hbk : E2.ρ id = b at hap g1'
 obtain ⟨rec, hrec⟩ : ∃ rec : Loop, rec = { state := .ready, pending := none, fn := fn', tmps := tmps', params := [pr].toArray, assign := assign, body := body, defers := E2.ρ D } := ⟨_, rfl⟩
 have hl0 : E0.w.heap[b]? = some (.loop rec) := by rw [hE0w, g1', hrec]
 have htm : tmps' = tmps := by
   have h1 := g1'
   rw [e2, ← hbk, x2, g1] at h1
   have h1 := Option.some.inj h1
   injection h1 with h1
   injection h1 with _ _ _ h1
   exact h1.symm
 have hargs : VRs E0 (argsP cfg.lp idN 0 d) (cfg.ls.map fun t => rec.tmps.getD t undef) := by
   have e : rec.tmps = tmps := by rw [hrec]; exact htm
   rw [e, ← hE0]
   exact argsP_env (E := E2) (E' := renE 0 (rows ++ subs) E2) (ρ := ol 0 (rows ++ subs)) (fun _ h => h) rfl cfg.lp (fun j a b => Held.numTo E2 _ (by rw [hheld.len]; omega)) (by rw [y2]; exact c2 _ _ hheld.num.1)
 generalize hg : stepB P tt cfg s.c nt lf cl pr assign body d = g at h5
 have hd0 : updP cfg.lp d (refsP cfg.lp d) = d := updP_refs _ _
 have hT0 : ∀ id, mP cfg.lp ≤ id → T0.w id := fun _ _ => trivial
 -- the two states of affairs
 let J : List (El s.c) → World → Prop := fun pre W => ∃ z Ei, foldB g pre (refsP cfg.lp d) = some (z, none) ∧ PostB (mP cfg.lp) T0 E0 (Sc cfg.lp d) Ei (Sc cfg.lp (updP cfg.lp d z)) ∧ Ei.w = W
 let K : World → Prop := fun W => ∃ z cd Ei, foldB g l (refsP cfg.lp d) = some (z, some cd) ∧ PostB (mP cfg.lp) T0 E0 (Sc cfg.lp d) Ei (Sc cfg.lp (updP cfg.lp d z)) ∧ Upd [b] Ei.w W ∧ W.heap[b]? = some (.loop { rec with state := .done, pending := some cd })
 have hJ0 : J [] E0.w := ⟨refsP cfg.lp d, E0, rfl, by rw [hd0]; exact PostB.refl (by rw [Sc_next]; omega) hT0 p0, rfl⟩
 have hJu : ∀ s A B, J s A → Upd [] A B → J s B := fun pre A B ⟨z, Ei, k1, k2, k3⟩ u => by
   subst k3
   obtain ⟨i1, i2⟩ := Post.idle (k2.pre hT0) u
   exact ⟨z, Ei.at_ B, k1, k2.trans (PostB.of k2.le hT0 i1 i2), rfl⟩
 have hKu : ∀ A B, K A → Upd [] A B → K B := fun A B ⟨z, cd, Ei, k1, k2, k3, k4⟩ u => ⟨z, cd, Ei, k1, k2, k3.trans (u.mono (by simp)), (u.same _ (heap_lt k4) (by simp)).trans k4⟩
 have hns : Nums idN 0 isubs := by
   have : isubs = [] := List.length_eq_zero_iff.1 (by rw [il2, hc.ns])
   rw [this]; intro j id hj; simp at hj
 have hrow : ∀ (j : Nat) (o : IObj), (rowsP s.ips idN 0 xi)[j]? = some o → ∃ i, irows[j]? = some i ∧ E2.A i ∧ (o.blk = true → E2.hb i = true) ∧ OR E2 i o := fun j o hj => by
   obtain ⟨i, i1, i2, i3, i4⟩ := ib3 idN 0 hns j o hj
   obtain ⟨j1, j2, j3, j4, j5⟩ := hle2.alw i i2
   exact ⟨i, i1, j1, fun hb => j5.trans (i3 hb), i4.mono hle2 i2 i3 (fun _ _ => by rw [e2])⟩
 have hread : ReadI E2 s xi us irows := ⟨fun ρ k hk => (ib2 ρ k hk).mono hle2, hrow⟩
 have hRd : ∀ pre A, J pre A → E2.Le (E2.at_ A) ∧ ∀ i ∈ irows, A.heap[E2.ρ i]? = E2.w.heap[E2.ρ i]? := fun pre A ⟨z, Ei, k1, k2, k3⟩ => by
   subst k3
   have hsame : ∀ x, x < E2.w.heap.size → (∀ k, E0.A k → Live E0 (Sc cfg.lp d).H k → E0.ρ k ≠ x) → Ei.w.heap[x]? = E2.w.heap[x]? := fun x hx hn => by
     rw [← hE0w]; exact k2.same x (by rw [hE0w]; exact hx) fun k _ => hn k
   have hle : E2.Le (E2.at_ Ei.w) := ⟨fun _ h => ⟨h, rfl, rfl, rfl, rfl⟩, ⟨fun x hx hxm => ⟨hxm, hsame x hx fun k ha hl e => hxm (by rw [← e, ← hE0m]; exact p0.st.own k trivial ha hl)⟩⟩⟩
   refine ⟨hle, fun i hin => ?_⟩
   obtain ⟨j, hj, rfl⟩ := List.mem_iff_getElem.1 hin
   have hj2 : j < (rowsP s.ips idN 0 xi).length := by rw [rowsP_len, ← il1]; exact hj
   obtain ⟨i, i1, i2, i3, i4⟩ := hrow j _ (List.getElem?_eq_getElem hj2)
   rw [List.getElem?_eq_getElem hj] at i1
   cases i1
   obtain ⟨cs, hcs⟩ := rowB_spec ((List.all_eq_true.1 b2) _ hin)
   have hTi : T.r irows[j] := T.sub _ (hbits _ (List.mem_append_left _ hin))
   have i3 : E2.hb irows[j] = true := p2.st.blk _ hTi i2 _ hcs rfl
   have hlt : E2.ρ irows[j] < E2.w.heap.size := p2.st.lo _ (p2.st.own _ hTi i2 ⟨i3, _, hcs, rfl⟩)
   exact hsame _ hlt (hfar _ (hirq _ hin) hTi i2 ⟨i3, _, hcs, rfl⟩)
 have hround : ∀ pre x post A u, l = pre ++ x :: post → J pre A → (∀ E, VR E (asIV s.c x) u) → YieldAt Fence.wide 0 P b #[u] A fun e B => (e = .returned (.bool true) ∧ J (pre ++ [x]) B) ∨ (e = .returned (.bool false) ∧ K B) := fun pre x post A u hl ⟨z, Ei, k1, k2, k3⟩ hu => by
   subst k3
   have hwhole : foldB g (x :: post) z = some q := by
     rw [← foldB_app g pre (x :: post) _ _ k1, ← hl]; exact h5
   have hsnoc : foldB g (pre ++ [x]) (refsP cfg.lp d) = foldB g [x] z := foldB_app g pre [x] _ _ k1
   cases hgx : g z x with
   | none => simp only [foldB, hgx] at hwhole; cases hwhole
   | some q1 =>
   obtain ⟨z1, e⟩ := q1
   rw [← hg] at hgx
   have hlow : (E0.bel (mP cfg.lp)).Le Ei := k2.env p0
   have hargsB : VRs (E0.bel (mP cfg.lp)) (argsP cfg.lp idN 0 d) (cfg.ls.map fun t => rec.tmps.getD t undef) :=
     argsP_env (E := E0) (E' := E0.bel (mP cfg.lp)) (ρ := idN) (fun _ h => h) rfl cfg.lp (fun j _ hj hA => ⟨⟨hA, by show j < mP cfg.lp; omega⟩, rfl, rfl, rfl, rfl⟩) hargs
   have hst := step_round (E := Ei) (b := b) (rec := rec) hm hcl hfr htt hgx ⟨b4, b5⟩ ⟨by simpa using b6, by simpa using b7⟩ (k2.pre hT0) (k2.apart p0 hap) ((k2.at_same p0 hap).trans hl0)
     (by rw [hrec]; exact ⟨rfl, rfl, rfl, rfl, rfl, g2'.size⟩) (hargsB.mono hlow) (hu Ei)
   obtain ⟨fnr, tmpr, asr, bdr, hyr, hRr⟩ := hst
   refine ⟨fnr, tmpr, asr, bdr, hyr, hRr.mono fun en B hB => ?_⟩
   obtain ⟨E', m1, m2⟩ := hB
   have hall := k2.trans m1
   rw [hg] at hgx
   rcases m2 with ⟨rfl, rfl, rfl⟩ | ⟨cd, rfl, rfl, m3, m4⟩
   · refine .inl ⟨rfl, z1, E', ?_, hall, rfl⟩
     rw [hsnoc]; simp only [foldB, hgx]
   · refine .inr ⟨rfl, z1, cd, E', ?_, hall, m3, m4⟩
     rw [hl, foldB_app g pre (x :: post) _ _ k1]; simp only [foldB, hgx]
 have hit := hc.it E2 xi us irows l h4 hread b J K E0.w hJu hKu hRd hround hJ0
 have hu0 : u0 = .func (.yield b) #[] #[] := by
   cases a1
   rw [← hbk, x2, z2]
 have hw : E0.w = E.w := by rw [hE0w, e2, e1]
 rw [hw] at hit
 rw [hu0, show (Value.func (.yield b) #[] #[] :: us).toArray = #[.func (.yield b) #[] #[]] ++ us.toArray by simp]
 refine hit.mono fun en B ⟨hen, hB⟩ => ?_
 -- what comes back
 have hfin : ∀ (z : ElP (refs cfg.lp)) (pe : Option Code) (Ei : Env), q = (z, pe) → PostB (mP cfg.lp) T0 E0 (Sc cfg.lp d) Ei (Sc cfg.lp (updP cfg.lp d z)) → Upd [b] Ei.w B →
     B.heap[b]? = some (.loop { rec with state := cond pe.isNone .ready .done, pending := pe }) → RetE T E S (itEnd S2 cfg id nt fr pr D assign body irows rows subs (w1 ||| w2) q) en B := fun z pe Ei hqz k2 hup hbl => by
   subst hqz
   rw [← ScB_upd cfg.lp d z, ← hE0] at k2
   obtain ⟨m1, m2⟩ := hheld.back (s := sQ cfg.lp) (x := d) p2 k2
   have p3 := m1.pre p2
   have hle3 := m1.env p2
   obtain ⟨n1, n2, n3, n4, n5⟩ := hle3.alw id hA2
   have hlt : id < S2.next := p2.bnd id hA2
   have hobj : (backS (sQ cfg.lp) S2.next rows subs () z S2).H id = some (.loop .ready none nt fr [pr] assign body D) := by
     unfold backS
     rw [addO_H, setL_next, killL_next, if_pos hlt, setL_out (fun h => hidq (List.mem_append_left _ h)), killL_out (fun h => hidq (List.mem_append_right _ h))]; exact hS2
   have hL3 : Live (mrgR E2 Ei S2.next (mP (sQ cfg.lp).ps)) (backS (sQ cfg.lp) S2.next rows subs () z S2).H id := ⟨n5.trans hlive.1, _, hobj, rfl⟩
   have hub : Upd [(mrgR E2 Ei S2.next (mP (sQ cfg.lp).ps)).ρ id] (mrgR E2 Ei S2.next (mP (sQ cfg.lp).ps)).w B := by rw [n2, hbk]; exact hup
   have hle4 := Env.at_le p3.st hTid n1 hL3 hub
   obtain ⟨w1', w2'⟩ := Post.write p3 (o' := .loop (cond pe.isNone .ready .done) pe nt fr [pr] assign body D) hTid n1 hL3 hub ⟨fn', tmps', by
     show B.heap[(mrgR E2 Ei S2.next (mP (sQ cfg.lp).ps)).ρ id]? = _
     rw [n2, hbk, hbl, hrec]
     have : E2.ρ D = (mrgR E2 Ei S2.next (mP (sQ cfg.lp).ps)).ρ D := ((hle3.alw D g3').2.1).symm
     show some (Obj.loop { state := cond pe.isNone .ready .done, pending := pe, fn := fn', tmps := tmps', params := [pr].toArray, assign := assign, body := body, defers := E2.ρ D }) = _
     rw [this]; rfl, (g2'.mono hle3).mono hle4, (hle4.alw D (hle3.alw D g3').1).1⟩
   have r1 := Post.trans p hq12 hf12 m1
   have rf1 := hf12.trans m2 hq12.le
   exact ⟨_, _, hen, rfl, .tup (us := []) rfl (fun i h => by simp at h), Post.trans p r1 rf1 w1', rf1.trans w2' r1.le⟩
 rcases hB with ⟨z, Ei, k1, k2, k3⟩ | ⟨z, cd, Ei, k1, k2, k3, k4⟩
 · refine hfin z none Ei (Option.some.inj (h5.symm.trans k1)) k2 (by rw [k3]; exact Upd.refl _ _) ?_
   rw [← k3, (k2.at_same p0 hap).trans hl0, hrec]; rfl
 · exact hfin z (some cd) Ei (Option.some.inj (h5.symm.trans k1)) k2 k3 k4
end
end Go.Jx
end
section
set_option maxRecDepth 100000
namespace Go.Proofs.Ytcnhjofpmpipfaa
open Go Go.Sx Go.RowKit Go.Jx
open Go.Sx.Dat (enc)
attribute [local irreducible] Go.wpList Go.wpQuiet Go.Code.wp
instance datVal : Dat (Int × Int) where
 sz := 2
 enc M w cs x := cs = [.int .i64 x.1, .int .i64 x.2]
 len h := by rw [h]; rfl
 mono h _ := h
 ones h := by rw [h]; rfl
def S.refsL : List (Int × Int) → List Int
 | [] => []
 | v :: l => if v.1 = 4 then v.2 :: S.refsL l else S.refsL l
theorem refsL_append (a b : List (Int × Int)) : S.refsL (a ++ b) = S.refsL a ++ S.refsL b := by
 induction a with
 | nil => rfl
 | cons v l ih => simp only [List.cons_append, S.refsL]; split <;> simp [ih]
theorem refsL_take {l : List (Int × Int)} {k : Nat} {v : Int × Int} (h : l[k]? = some v) : S.refsL (l.take (k + 1)) = S.refsL (l.take k) ++ (if v.1 = 4 then [v.2] else []) := by
 rw [List.take_add_one, h, refsL_append]
 simp only [Option.toList, S.refsL]
theorem lst_SL {E : Env} {l : List (Int × Int)} {u : Value} (h : VR E (.lst cVal l) u) : ∃ a cap, u = .slice a l.length cap ∧ SL E.m E.w a cap l := by
 cases h with
 | lst0 h => exact ⟨_, _, rfl, ⟨Nat.zero_le _, h⟩, .inl rfl⟩
 | lst us h1 h2 h3 hb hh hc hu =>
   refine ⟨_, _, rfl, ⟨h1, h2⟩, .inr ⟨_, _, _, _, _, rfl, hb, hh, fun i hi => ⟨_, rfl, fun j hj => ?_⟩⟩⟩
   have h5 := hc i hi j hj
   have h6 := hu i hi j (by rw [cel_length]; exact hj)
   have hj : j < 2 := hj
   have e : (cel cVal l[i]) = [.int .i64 (l[i]).1, .int .i64 (l[i]).2] := rfl
   refine Eq.trans h5 ?_
   have h7 : j = 0 ∨ j = 1 := by omega
   rcases h7 with rfl | rfl
   · have h6 : VR E (.int .i64 (l[i]).1) (us i 0) := h6
     generalize us i 0 = q at h6
     cases h6; rfl
   · have h6 : VR E (.int .i64 (l[i]).2) (us i 1) := h6
     generalize us i 1 = q at h6
     cases h6; rfl
theorem fldV0 : Fld Try.prog 51 0 0 := Fld.mk (F := ⟨"Kind", 3, 0, false, "", "", 0⟩) ty51 rfl ty3
theorem fldV1 : Fld Try.prog 51 1 1 := Fld.mk (F := ⟨"N", 3, 1, false, "", "", 8⟩) ty51 rfl ty3
theorem it136S {M : List Nat} {a : Option Addr} {c b : Nat} {vs : List (Int × Int)} {cs0 : List Value} (hw : ∀ v ∈ vs, IntKind.i64.wrap v.2 = v.2) : IterS Try.prog 136 [.pointer (some ⟨b, 0, none⟩)] (fun A => Box A b (.slice a vs.length c :: cs0) ∧ SL M A a c vs) (fun (x : Int) u => ∀ E, VR E (.int .i64 x) u) (S.refsL vs) := by
 intro l J K W hJ hKu hR hy h0
 have hlen := (hR _ _ h0).2.lt63
 have hM : ∀ {s A}, J s A → Box A b (.slice a vs.length c :: cs0) ∧ SL M A a c vs := fun h => hR _ _ h
 refine callsIn_wide.2 (Calls.mono (R := Ret fun v B => v = .tuple #[] ∧ (J (S.refsL vs) B ∨ K B)) ?_ (fun e B h => by cases e <;> first | exact ⟨by rw [h.1], h.2⟩ | exact h.elim))
 refine (enter (l := [.func (.yield l) #[] #[], .pointer (some ⟨b, 0, none⟩)]) Try.func136 rfl Try.ntmps136 rfl ?_)
 refine c_seq fun K1 hK1 => ?_
 refine c_reg ?_
 refine op_loadB (v := .slice a vs.length c) ty24 rfl rfl rfl rfl (hM h0).1 rfl ?_
 refine op_len ty24 rfl rfl rfl ?_
 refine op_move (v := .int .i64 0) rfl rfl rfl ?_
 refine wpList_nil ?_
 refine hK1 _ _ ?_
 refine wp_block ?_
 refine c_loop (X := Nat) [4, 7, 8, 9, 10, 11, 12, 13, 14, 15, 16, 17, 18, 19, 20, 21] (fun k => [(7, .int .i64 (k : Int))]) (fun k w1 => k ≤ vs.length ∧ J (S.refsL (vs.take k)) w1) (fun k => vs.length - k) 0 ⟨rfl, trivial⟩ ⟨by omega, by simpa [S.refsL] using h0⟩ ?_
 rintro k τ w1 ⟨hk, hj⟩
 refine c_seq fun K2 hK2 => ?_
 refine c_reg ?_
 refine op_lss rfl rfl rfl rfl ?_
 refine wpList_nil ?_
 refine hK2 _ _ ?_
 refine c_seq fun K3 hK3 => ?_
 refine c_if rfl rfl (fun hb => ?_) (fun hb => ?_)
 · refine wp_skip ?_
   refine hK3 _ _ ?_
   refine c_seq fun K4 hK4 => ?_
   refine wp_block ?_
   refine c_seq fun K5 hK5 => ?_
   refine c_reg ?_
   refine op_indexN (j := k) ty24 ty51 rfl rfl rfl rfl rfl (hM hj).2 (by omega) fun ad cs u hx he ca => ?_
   obtain rfl := he
   refine op_loadAA ty51 rfl rfl rfl rfl ca rfl ?_
   refine op_alloc (zs := [.int .i64 0, .int .i64 0]) ty51 rfl rfl fun β w2 hβ u2 hz2 hx2 => ?_
   have hj2 := hJ _ _ _ hj u2
   have hjs : ∀ (S0 : List Nat) (w3 : World), Upd [β] w2 w3 → J (S.refsL (vs.take k)) w3 := fun S0 w3 u3 => hJ _ _ _ hj ⟨u3.os.trans u2.os, u3.tape.trans u2.tape, u3.output.trans u2.output, Nat.le_trans u2.size u3.size, fun x hx hn => (u3.same x (Nat.lt_of_lt_of_le hx u2.size) (by simp; omega)).trans (u2.same x hx (by simp))⟩
   refine op_store (v := .agg #[.int .i64 u.1, .int .i64 u.2]) (cs' := [.int .i64 u.1, .int .i64 u.2]) ty51 rfl rfl rfl rfl hx2 rfl rfl rfl fun w3 u3 hz3 hx3 => ?_
   have hj3 := hjs [] w3 u3
   refine wpList_nil ?_
   refine hK5 _ _ ?_
   refine c_seq fun K6 hK6 => ?_
   by_cases hv : u.1 = 4
   · refine (wpIn_wide (n := 0)).1 (wpIn_region_lit (in_take 7 rfl ?lo rfl ?_))
     case lo => rintro ⟨_, _, h⟩; exact (show False from h)
     dsimp only [List.take_succ_cons, List.take_zero, List.drop_succ_cons, List.drop_zero]
     refine op_fieldB fldV0 rfl rfl rfl ?_
     refine op_loadB (v := .int .i64 u.1) ty3 rfl rfl rfl rfl hx3 rfl ?_
     refine op_eq rfl rfl rfl rfl ?_
     refine op_move (v := .bool true) rfl rfl (congrArg Value.bool (decide_eq_true hv)) ?_
     refine op_move (v := .func (.yield l) #[] #[]) rfl rfl rfl ?_
     refine op_fieldB fldV1 rfl rfl rfl ?_
     refine op_loadB (v := .int .i64 u.2) ty3 rfl rfl rfl rfl hx3 rfl ?_
     refine wpList_nil ?_
     refine then_normal ?_
     have hsp : S.refsL vs = S.refsL (vs.take k) ++ u.2 :: S.refsL (vs.drop (k + 1)) := by
       conv => lhs; rw [← List.take_append_drop k vs, refsL_append, drop_of hx]
       simp [S.refsL, hv]
     refine in_yield rfl rfl rfl rfl rfl (hy _ _ _ _ _ hsp hj3 fun E => .int _ _ (hw u (List.mem_of_getElem? hx))) ?_
     rintro e w4 (⟨rfl, hj4⟩ | ⟨rfl, hk4⟩)
     · refine ⟨_, rfl, in_all rfl ?lo rfl ?_⟩
       case lo => rintro ⟨_, _, h⟩; exact (show False from h)
       refine op_notB rfl rfl rfl ?_
       refine op_pickT (v := .bool false) rfl rfl rfl rfl ?_
       refine wpList_nil ?_
       refine hK6 _ _ ?_
       refine c_ifF rfl rfl ?_
       refine wp_skip ?_
       refine inBlock_normal ?_
       refine hK4 _ _ ?_
       refine c_reg ?_
       refine op_add rfl rfl rfl rfl (by omega) ?_
       refine op_move (v := .int .i64 ((k : Int) + 1)) rfl rfl rfl ?_
       refine wpList_nil ?_
       refine then_normal ?_
       exact ⟨k + 1, by omega, ⟨by omega, by rw [refsL_take hx, if_pos hv]; exact hj4⟩, _, rfl, (by repeat first | exact agree.refl _ _ | refine agree.upd rfl ?_ | refine agree.upds rfl ?_ | refine agree.mix rfl ?_), rfl, trivial⟩
     · refine ⟨_, rfl, in_all rfl ?lo rfl ?_⟩
       case lo => rintro ⟨_, _, h⟩; exact (show False from h)
       refine op_notB rfl rfl rfl ?_
       refine op_pickT (v := .bool true) rfl rfl rfl rfl ?_
       refine wpList_nil ?_
       refine hK6 _ _ ?_
       refine c_ifT rfl rfl ?_
       refine wp_ret ?_
       exact ret0 Try.results136 ⟨rfl, .inr hk4⟩
   · refine c_reg ?_
     refine op_fieldB fldV0 rfl rfl rfl ?_
     refine op_loadB (v := .int .i64 u.1) ty3 rfl rfl rfl rfl hx3 rfl ?_
     refine op_eq rfl rfl rfl rfl ?_
     refine op_move (v := .bool false) rfl rfl (congrArg Value.bool (decide_eq_false hv)) ?_
     refine op_not rfl ?_
     refine op_not rfl ?_
     refine op_not rfl ?_
     refine op_not rfl ?_
     refine op_not rfl ?_
     refine op_pickF (v := .bool false) rfl rfl rfl rfl ?_
     refine wpList_nil ?_
     refine hK6 _ _ ?_
     refine c_ifF rfl rfl ?_
     refine wp_skip ?_
     refine inBlock_normal ?_
     refine hK4 _ _ ?_
     refine c_reg ?_
     refine op_add rfl rfl rfl rfl (by omega) ?_
     refine op_move (v := .int .i64 ((k : Int) + 1)) rfl rfl rfl ?_
     refine wpList_nil ?_
     refine then_normal ?_
     exact ⟨k + 1, by omega, ⟨by omega, by rw [refsL_take hx, if_neg hv, List.append_nil]; exact hj3⟩, _, rfl, (by repeat first | exact agree.refl _ _ | refine agree.upd rfl ?_ | refine agree.upds rfl ?_ | refine agree.mix rfl ?_), rfl, trivial⟩
 · refine wp_exit ?_
   have e : vs.take k = vs := List.take_of_length_le (by omega)
   rw [e] at hj
   exact ret0n Try.results136 ⟨rfl, .inl hj⟩
def si_p_refs_1 : SmI := ⟨[.ref (.box [.dat (.list cVal)])], .int .i64, fun x => some (S.refsL x.1.1)⟩
theorem coni_p_refs_1 : ConI Try.prog 136 si_p_refs_1 := by
 refine ⟨cal136, rfl, rfl, fun E x us rows l hl hrd => ?_⟩
 obtain ⟨⟨vs, _⟩, _⟩ := x
 cases hl
 obtain ⟨h1, h2⟩ := hrd
 obtain ⟨i, i1, i2, i3, i4⟩ := h2 0 _ rfl
 have i4 : OR E i (.row [.lst cVal vs]) := i4
 obtain ⟨cells, t, k1, k2, k3, k4⟩ := i4
 have ha := h1 (fun k => rows.getD k 0) 0 (fun j id hj => by show rows.getD (0 + j) 0 = id; rw [Nat.zero_add, List.getD_eq_getElem?_getD, hj]; rfl)
 obtain ⟨u, us', rfl, a1, a2⟩ := VRs.inv (v := .ptr (rows.getD 0 0) 0) (cs := []) ha
 obtain rfl : us' = [] := List.length_eq_zero_iff.1 a2.1.symm
 have e0 : rows.getD 0 0 = i := by rw [List.getD_eq_getElem?_getD, i1]; rfl
 rw [e0] at a1
 have hu : u = .pointer (some ⟨E.ρ i, 0, none⟩) := by cases a1; rfl
 subst hu
 obtain ⟨h0, r0, hc0⟩ : ∃ h0 r0, cells.toList = h0 :: r0 := by
   cases hc : cells.toList with
   | nil => have := congrArg List.length hc; simp at this; simp [this] at k3
   | cons h r => exact ⟨h, r, rfl⟩
 have hv : VR E (.lst cVal vs) h0 := by
   have := k4.2 0 (by simp) (by simp [hc0])
   simpa [hc0] using this
 obtain ⟨a, cap, rfl, hS⟩ := lst_SL hv
 have hwf : WfE (.list cVal) vs := wf_as (c := .list cVal) hv
 have hin := List.mem_of_getElem? i1
 refine fun l J K W q1 q2 q3 q4 q5 => it136S (M := E.m) (a := a) (c := cap) (vs := vs) (cs0 := r0) (fun v hv => (wf_mem hwf hv).2) l J K W q1 q2 (fun s A hs => ?_) q4 q5
 obtain ⟨r1, r2⟩ := q3 s A hs
 refine ⟨⟨t, ?_⟩, hS.mono r1.tr⟩
 rw [r2 i hin, k1, ← hc0]
end Go.Proofs.Ytcnhjofpmpipfaa
end
section
namespace Go.Jx
open Go Go.Sx Go.RowKit
universe u
def foldN {D α : Type} (g : D → α → Option D) : List α → D → Option D
 | [], d => some d
 | x :: xs, d => match g d x with
   | none => none
   | some d' => foldN g xs d'
def plainR {D : Type} : Option (D × Option Code) → Option D
 | some (d, none) => some d
 | _ => none
theorem foldN_B {D α : Type} (g : D → α → Option (D × Option Code)) : ∀ (xs : List α) (d d' : D), foldN (fun d x => plainR (g d x)) xs d = some d' → foldB g xs d = some (d', none)
 | [], d, d', h => by cases h; rfl
 | x :: xs, d, d', h => by
   simp only [foldN, foldB] at h ⊢
   cases hg : g d x with
   | none => rw [hg] at h; cases h
   | some q =>
     obtain ⟨z, e⟩ := q
     rw [hg] at h
     cases e with
     | none => exact foldN_B g xs z d' h
     | some e => cases h
section
variable (P : Program) (tt : Nat → Option TI)
def stepPK (cfg : LpC) (c : TC) (nt lf : Nat) (clP : ClP) (pr : Nat) (assign body : Code) (d : ElP cfg.lp) (z : ElP (refs cfg.lp)) (x : El c) : Option (ElP (refs cfg.lp)) :=
 icodeK P tt cfg.nm (mP cfg.lp) nt (clP (ElP (refs cfg.lp))) lf none assign (setPs [pr] [asIV c x] (putL cfg.ls (argsP cfg.lp idN 0 d) .leaf)) (Sc cfg.lp (updP cfg.lp d z)) [] fun r1 => match r1.e with
   | .normal => match r1.ds with
     | [] => icodeK P tt cfg.nm (mP cfg.lp) nt (clP (ElP (refs cfg.lp))) lf none body r1.fr r1.S [] fun r2 => match r2.ds with
         | [] => match r2.e with
           | .normal => match runQ (sQ cfg.lp) ⟨.tup [], r2.S, 0, 0⟩ with
             | none => none
             | some y => some y.2
           | _ => none
         | _ => none
     | _ => none
   | _ => none
theorem stepPK_eq {cfg : LpC} {c : TC} {nt lf : Nat} {cl : Cl} {clP : ClP} (hcl : ∀ R, ClEq cl (clP R)) (pr : Nat) (assign body : Code) (d : ElP cfg.lp) (z : ElP (refs cfg.lp)) (x : El c) :
   stepPK P tt cfg c nt lf clP pr assign body d z x = plainR (stepB P tt cfg c nt lf cl pr assign body d z x) := by
 unfold stepPK stepB
 rw [icodeK_eq (hcl _)]
 cases icode P tt cfg.nm (mP cfg.lp) nt cl lf none assign (setPs [pr] [asIV c x] (putL cfg.ls (argsP cfg.lp idN 0 d) .leaf)) (Sc cfg.lp (updP cfg.lp d z)) [] with
 | none => rfl
 | some r1 =>
   simp only [bd]
   cases r1.e <;> try rfl
   simp only
   cases r1.ds with
   | cons _ _ => rfl
   | nil =>
     simp only
     rw [icodeK_eq (hcl _)]
     cases icode P tt cfg.nm (mP cfg.lp) nt cl lf none body r1.fr r1.S [] with
     | none => rfl
     | some r2 =>
       simp only [bd]
       cases r2.ds with
       | cons _ _ => rfl
       | nil =>
         simp only
         cases r2.e <;> cases runQ (sQ cfg.lp) ⟨.tup [], r2.S, 0, 0⟩ <;> rfl
def itP (s : SmI) (cfg : LpC) (lf : Nat) (cl : Cl) (vs : List IV) (S : IS) : Option Res := match vs with
 | .yield id :: caps => match rdP s.ips S caps with
   | none => none
   | some (xi, irows, _, S1, w1) => match S1.heap.get id with
     | some (.loop .ready none nt fr [pr] assign body D) => match rdP cfg.lp S1 (cfg.ls.map (slot fr)) with
       | none => none
       | some (d0, rows, subs, S2, w2) => cond (itB S2 cfg id nt irows rows subs w2 assign body) (match fiP cfg.lp rows subs S2 d0 with
         | none => none
         | some d => match s.xs xi with
           | none => none
           | some l => match foldN (fun z x => plainR (stepB P tt cfg s.c nt lf cl pr assign body d z x)) l (refsP cfg.lp d) with
             | none => none
             | some z => some (itEnd S2 cfg id nt fr pr D assign body irows rows subs (w1 ||| w2) (z, none))) none
     | _ => none
 | _ => none
def itPK (s : SmI) (cfg : LpC) (lf : Nat) (clP : ClP) (R : Type) (vs : List IV) (S : IS) (kk : Res → Option R) : Option R := match vs with
 | .yield id :: caps => match rdP s.ips S caps with
   | none => none
   | some (xi, irows, _, S1, w1) => match S1.heap.get id with
     | some (.loop .ready none nt fr [pr] assign body D) => match rdP cfg.lp S1 (cfg.ls.map (slot fr)) with
       | none => none
       | some (d0, rows, subs, S2, w2) => cond (itB S2 cfg id nt irows rows subs w2 assign body) (match fiP cfg.lp rows subs S2 d0 with
         | none => none
         | some d => match s.xs xi with
           | none => none
           | some l => match foldN (stepPK P tt cfg s.c nt lf clP pr assign body d) l (refsP cfg.lp d) with
             | none => none
             | some z => kk (itEnd S2 cfg id nt fr pr D assign body irows rows subs (w1 ||| w2) (z, none))) none
     | _ => none
 | _ => none
end
section
variable {P : Program} {tt : Nat → Option TI}
theorem itPK_eq (s : SmI) (cfg : LpC) (lf : Nat) (cl : Cl) (clP : ClP) (hcl : ∀ R, ClEq cl (clP R)) (R : Type) (vs : List IV) (S : IS) (kk : Res → Option R) : itPK P tt s cfg lf clP R vs S kk = ob (itP P tt s cfg lf cl vs S) kk := by
 unfold itPK itP
 cases vs with
 | nil => rfl
 | cons v caps =>
 cases v <;> try rfl
 rename_i id
 simp only
 cases rdP s.ips S caps with
 | none => rfl
 | some a =>
 obtain ⟨xi, irows, _, S1, w1⟩ := a
 simp only
 cases S1.heap.get id with
 | none => rfl
 | some o =>
 cases o <;> try rfl
 rename_i st pe nt fr ps assign body D
 cases st <;> try rfl
 cases pe <;> try rfl
 cases ps with
 | nil => rfl
 | cons pr ps =>
 cases ps with
 | cons _ _ => rfl
 | nil =>
 simp only
 cases rdP cfg.lp S1 (cfg.ls.map (slot fr)) with
 | none => rfl
 | some b =>
 obtain ⟨d0, rows, subs, S2, w2⟩ := b
 simp only [ob_cond]
 cases fiP cfg.lp rows subs S2 d0 with
 | none => rfl
 | some d =>
 simp only
 cases s.xs xi with
 | none => rfl
 | some l =>
 have e : stepPK P tt cfg s.c nt lf clP pr assign body d = fun z x => plainR (stepB P tt cfg s.c nt lf cl pr assign body d z x) := by
   funext z x; exact stepPK_eq P tt hcl pr assign body d z x
 simp only [e]
 cases foldN (fun z x => plainR (stepB P tt cfg s.c nt lf cl pr assign body d z x)) l (refsP cfg.lp d) <;> rfl
theorem itP_F {s : SmI} {cfg : LpC} {lf : Nat} {cl : Cl} {vs : List IV} {S : IS} {r : Res} (h : itP P tt s cfg lf cl vs S = some r) : itF P tt s cfg lf cl vs S = some r := by
 unfold itP at h
 unfold itF
 split at h <;> try cases h
 try simp only
 split at h
 · cases h
 rename_i h1
 try rw [h1]
 try simp only
 split at h <;> try cases h
 rename_i h2
 try rw [h2]
 try simp only
 split at h
 · cases h
 rename_i h3
 try rw [h3]
 try simp only
 cases hb : itB _ cfg _ _ _ _ _ _ _ _ with
 | false => rw [hb] at h; cases h
 | true =>
 rw [hb] at h
 simp only [cond_true] at h ⊢
 split at h
 · cases h
 rename_i h4
 try rw [h4]
 try simp only
 split at h
 · cases h
 rename_i h5
 try rw [h5]
 try simp only
 split at h <;> cases h
 rename_i h6
 rw [foldN_B _ _ _ _ h6]
def itPx (P : Program) (tt : Nat → Option TI) (s : SmI) (cfg : LpC) (lf : Nat) : Hx := ⟨itP P tt s cfg lf, fun clP R vs S kk => itPK P tt s cfg lf clP R vs S kk, fun cl clP hcl R vs S kk => itPK_eq s cfg lf cl clP hcl R vs S kk⟩
theorem itPx_ok (hm : P.follows .mixedOrders = true) (htt : TT P tt) {f : Nat} {s : SmI} (cfg : LpC) (lf : Nat) (hc : ConI P f s) : HxOK P f (itPx P tt s cfg lf).f :=
 ⟨fun cl h1 h2 _ vs S r h T E us p hr hw hv => itF_sound hm htt hc h1 h2 (itP_F h) p hr hw hv, fun cl _ vs S r h => itF_fr r (itP_F h), fun cl _ vs S r h hw _ => (itF_calm (itP_F h) hw).elim⟩
def nmTop : Nat → Option Nm := fun k => cond (Nat.beq k 999999) (some ⟨[], [], [], [], [], 0, 0, false⟩) none
end
end Go.Jx
end
noncomputable section
set_option maxRecDepth 100000
namespace Go.Proofs.Ytcnhjofpmpipfaa
open Go Go.Sx Go.RowKit Go.Jx
def nmz31 : Nat → Option Nm := fun k => cond (Nat.beq k 999999) (some ⟨[], [], [], [], [], 0, 0, false⟩) none
def stz31 : Nat → Bool := fun k => false
def hdz31 := stz31
abbrev Rtz31 : Type := (Unit) × ((List (Int × Int)) × Unit) × ((List Int) × Unit) × Unit
def smlz31 : List (Nat × Sm) := []
def hxlz31 : List (Nat × Hx) := [(136, itPx Try.prog ttT.get si_p_refs_1 ⟨[1, 2], [.ref (.box [.map (.int .i64) (.int .i64)]), .ref (.box [.arr (.int .i64)])], nmTop⟩ 0)]
def clz31 (R : Type) (lf : Nat) : ClK R := icallK Try.prog ttT.get ftT.get (fun _ _ => none) (smL smlz31) (hxL hxlz31) lf 20 R
abbrev idz31 : Nat := 100
def Rz31_in (lf : Nat) (x1 : (List DVal)) (x2 : (List (Int × Int))) (x3 : (List Int)) : Option Rtz31 := (match (foldN (fun v0 v1 => (cond (Bool.not (match (@mfind (TC.int .i64) (TC.int .i64) v1 v0.1.1) with | .none  => Bool.false | .some v2 => Bool.true)) (cond (Nat.ble (Nat.mul (Nat.add (List.length v0.2.1.1) 1) 8) 140737488355328) (some (((@mset (TC.int .i64) (TC.int .i64) v1 (Int.ofNat (List.length v0.2.1.1)) v0.1.1), ()), (((List.append v0.2.1.1 (List.cons v1 [])), ()), ()))) none) (some ((v0.1.1, ()), ((v0.2.1.1, ()), ()))))) (S.refsL x1) ((x2, ()), ((x3, ()), ()))) with | .none  => none | .some v3 => (some ((), ((v3.1.1, ()), ((v3.2.1.1, ()), ())))))
abbrev gz31 : Type := ElP [.dat (.list cVal), .ref (.box [.map (.int .i64) (.int .i64)]), .ref (.box [.arr (.int .i64)])] → Option Rtz31
abbrev sz31 (g : gz31) : SmR := ⟨[.dat (.list cVal), .ref (.box [.map (.int .i64) (.int .i64)]), .ref (.box [.arr (.int .i64)])], [], g⟩
abbrev Ez31 (g : gz31) (J : JT Rtz31) (lf : Nat) (x1 : (List DVal)) (x2 : (List (Int × Int))) (x3 : (List Int)) := icodeTB Try.prog ttT.get nmz31 (mP [.dat (.list cVal), .ref (.box [.map (.int .i64) (.int .i64)]), .ref (.box [.arr (.int .i64)])]) fi100.nt (clz31 _ lf) lf stz31 J fi100.body [] (argGo (argsP [.dat (.list cVal), .ref (.box [.map (.int .i64) (.int .i64)]), .ref (.box [.arr (.int .i64)])] idN 0 (x1, (x2, ()), (x3, ()), ())) 0 .leaf) (Sc [.dat (.list cVal), .ref (.box [.map (.int .i64) (.int .i64)]), .ref (.box [.arr (.int .i64)])] (x1, (x2, ()), (x3, ()), ())) [] (lastQ ttT.get fi100 (sz31 g))
theorem inz31 (g : gz31) (J : JT Rtz31) (lf : Nat) (x1 : (List DVal)) (x2 : (List (Int × Int))) (x3 : (List Int)) : Ez31 g J lf x1 x2 x3 = Rz31_in lf x1 x2 x3 := by kernel_rfl
theorem ndz31 : (regs fi100.body).Nodup := by decide +kernel
theorem okz31 : okC nmz31 stz31 hdz31 fi100.body none = true := by kernel_rfl
def Az31 (g : gz31) (lf : Nat) : JT Rtz31 := atQ Try.prog ttT.get nmz31 fi100 (sz31 g) (clz31 _ lf) lf hdz31
def Fz31 (lf : Nat) (x1 : (List DVal)) (x2 : (List (Int × Int))) (x3 : (List Int)) : Option Rtz31 := Rz31_in lf x1 x2 x3
theorem runz31 (g : gz31) (lf : Nat) (x1 : (List DVal)) (x2 : (List (Int × Int))) (x3 : (List Int)) : Ez31 g (Az31 g lf) lf x1 x2 x3 = Fz31 lf x1 x2 x3 := by
   refine (inz31 g (Az31 g lf) lf x1 x2 x3).trans ?_
   rfl
theorem hxsz31 : HxsOK Try.prog hxlz31 := ⟨itPx_ok mixed ttOK _ 0 coni_p_refs_1, trivial⟩
theorem mkz31 {g : gz31} (hsm : SmOK Try.prog smlz31) (hg : ∀ (x : ElP [.dat (.list cVal), .ref (.box [.map (.int .i64) (.int .i64)]), .ref (.box [.arr (.int .i64)])]) (y : Rtz31), WfP [.dat (.list cVal), .ref (.box [.map (.int .i64) (.int .i64)]), .ref (.box [.arr (.int .i64)])] x → g x = some y → ∃ lf, Fz31 lf x.1 x.2.1.1 x.2.2.1.1 = some y) : ConR Try.prog 100 ⟨[.dat (.list cVal), .ref (.box [.map (.int .i64) (.int .i64)]), .ref (.box [.arr (.int .i64)])], [], g⟩ :=
 conTR (nmf := nmz31) (sml := smlz31) (hxl := hxlz31) (st := stz31) (hd := hdz31) 20 mixed ttOK ftOK hsm hxsz31 cal100 (by kernel_rfl) (fun x => by kernel_rfl) ndz31 okz31 fun x y z hx hy => by
   obtain ⟨lf, h⟩ := hg x (y, z) hx hy
   exact ⟨lf, (runz31 g lf x.1 x.2.1.1 x.2.2.1.1).trans h⟩
def nmz32 : Nat → Option Nm := fun k => none
def stz32 : Nat → Bool := fun k => false
def hdz32 := stz32
abbrev Rtz32 : Type := (List DVal) × Unit
def smlz32 : List (Nat × Sm) := []
def hxlz32 : List (Nat × Hx) := []
def clz32 (R : Type) (lf : Nat) : ClK R := icallK Try.prog ttT.get ftT.get (nm1 74 nmz32) (smL smlz32) (hxL hxlz32) lf 20 R
abbrev idz32 : Nat := 74
def Rz32_in (lf : Nat) (x1 : (List DVal)) : Option Rtz32 := (match x1 with | .nil  => none | .cons v0 v1 => (cond (Nat.ble (Nat.mul (Nat.add 0 (List.length x1)) 16) 140737488355328) (some (x1, ())) none))
abbrev gz32 : Type := ElA [(.list cVal)] → Option Rtz32
abbrev sz32 (g : gz32) : Sm := ⟨[(.list cVal)], [(true, cVal)], g⟩
abbrev Ez32 (g : gz32) (J : JT Rtz32) (lf : Nat) (x1 : (List DVal)) := icodeT Try.prog ttT.get nmz32 fi74.nt (clz32 _ lf) lf stz32 J fi74.body [] (argGo (argV [(.list cVal)] (x1, ())) 0 .leaf) S0 [] (lastK ttT.get fi74 (sz32 g))
theorem inz32 (g : gz32) (J : JT Rtz32) (lf : Nat) (x1 : (List DVal)) : Ez32 g J lf x1 = Rz32_in lf x1 := by kernel_rfl
theorem ndz32 : (regs fi74.body).Nodup := by decide +kernel
theorem okz32 : okC nmz32 stz32 hdz32 fi74.body none = true := by kernel_rfl
def Az32 (g : gz32) (lf : Nat) : JT Rtz32 := atN Try.prog ttT.get nmz32 fi74 (sz32 g) (clz32 _ lf) lf hdz32
def Fz32 (lf : Nat) (x1 : (List DVal)) : Option Rtz32 := Rz32_in lf x1
theorem runz32 (g : gz32) (lf : Nat) (x1 : (List DVal)) : Ez32 g (Az32 g lf) lf x1 = Fz32 lf x1 := by
   refine (inz32 g (Az32 g lf) lf x1).trans ?_
   rfl
theorem hxsz32 : HxsOK Try.prog hxlz32 := trivial
theorem mkz32 {g : gz32} (hsm : SmOK Try.prog smlz32) (hg : ∀ (x : ElA [(.list cVal)]) (y : Rtz32), WfA [(.list cVal)] x → g x = some y → ∃ lf, Fz32 lf x.1 = some y) : Con Try.prog 74 ⟨[(.list cVal)], [(true, cVal)], g⟩ :=
 conT (nmf := nmz32) (sml := smlz32) (hxl := hxlz32) (st := stz32) (hd := hdz32) 20 mixed ttOK ftOK hsm hxsz32 cal74 rfl rfl (by kernel_rfl) (fun x => by kernel_rfl) ndz32 okz32 fun x y hx hy => by
   obtain ⟨lf, h⟩ := hg x y hx hy
   exact ⟨lf, (runz32 g lf x.1).trans h⟩
end Go.Proofs.Ytcnhjofpmpipfaa
end
section
set_option maxRecDepth 100000
namespace Go.Jx
open Go Go.Sx Go.RowKit
theorem ret_own {M : List Nat} {w w' : World} {c : TC} {n : Nat} {e : Ending} (hn : n = csz c) (hM : ∀ b ∈ M, b < w.heap.size) (h : Ret (fun v w' => ∃ a' c' m', v = .slice a' 0 c' ∧ Go.Sx.Own m' M w' a' c' ([] : List (NoD n)) ∧ Evo [] w m' w') e w') :
   RetE T0 (EM M w) S0 ⟨.arr 0, addO [.arr c []] S0, 0, 0⟩ e w' := by
 cases e with
 | returned v =>
   obtain ⟨a, k, m, rfl, ho, ev⟩ := h
   have hH : ∀ id o, (addO [IObj.arr c []] S0).H id = some o → id = 0 ∧ o = .arr c [] := fun id o ho => by
     rw [addO_H] at ho
     have e0 : S0.next = 0 := rfl
     rw [e0, if_neg (by omega)] at ho
     split at ho
     · rename_i h1
       have h1 : id < 1 := by simpa using h1
       obtain rfl : id = 0 := by omega
       exact ⟨rfl, by simpa using ho.symm⟩
     · cases ho
   have key : ∃ (E' : Env), E'.w = w' ∧ E'.A = (fun id => id = 0) ∧ E'.hd 0 = .slice a 0 k ∧ (∀ b ∈ E'.m, b ∈ M ∨ w.heap.size ≤ b) ∧ (∀ b ∈ M, b ∈ E'.m) ∧ (∀ b ∈ E'.m, b < w'.heap.size) ∧ OR E' 0 (.arr c []) ∧ (E'.hb 0 = true → E'.ρ 0 ∈ E'.m ∧ w.heap.size ≤ E'.ρ 0) := by
     rcases ho with ⟨rfl, rfl, _⟩ | ⟨g, cells, rfl, g1, g2, g3, g4, g5, g6⟩
     · exact ⟨⟨fun _ => 0, fun _ => 0, fun _ => .slice none 0 0, fun _ => false, fun id => id = 0, M, w'⟩, rfl, rfl, rfl, fun b hb => .inl hb, fun b hb => hb, fun b hb => Nat.lt_of_lt_of_le (hM b hb) ev.size, ⟨none, 0, rfl, Nat.le_refl _, by omega, by simp, .inl ⟨rfl, rfl⟩⟩, fun h => by cases h⟩
     · have hg : w.heap.size ≤ g := by
         rcases ev.own g g1 with h | h
         · cases h
         · exact h
       obtain ⟨t, g3⟩ := g3
       refine ⟨⟨fun _ => g, fun _ => 0, fun _ => .slice (some ⟨g, 0, none⟩) 0 k, fun _ => true, fun id => id = 0, g :: M, w'⟩, rfl, rfl, rfl, fun b hb => ?_, fun b hb => List.mem_cons_of_mem _ hb, fun b hb => ?_, ⟨some ⟨g, 0, none⟩, k, rfl, Nat.zero_le _, g5.2, by simp, .inr ⟨rfl, rfl, cells.toArray, t, g3, ?_, fun _ _ => .nilFunc, fun i hi => absurd hi (by simp), fun i hi => absurd hi (by simp)⟩⟩, fun _ => ⟨List.mem_cons_self, hg⟩⟩
       · rcases List.mem_cons.1 hb with h | h
         · exact .inr (h ▸ hg)
         · exact .inl h
       · rcases List.mem_cons.1 hb with h | h
         · rw [h]; exact heap_lt g3
         · exact Nat.lt_of_lt_of_le (hM b h) ev.size
       · have e2 : Dat.sz (NoD n) = csz c := hn
         rw [e2] at g4
         simp [g4]
   obtain ⟨E', rfl, hA, hd, k1, k2, k3, k4, k5⟩ := key
   have hL : ∀ id, E'.A id → Live E' (addO [IObj.arr c []] S0).H id → id = 0 ∧ E'.ρ 0 ∈ E'.m ∧ w.heap.size ≤ E'.ρ 0 := fun id hid ⟨h1, _⟩ => by
     rw [hA] at hid
     have hid : id = 0 := hid
     subst hid
     exact ⟨rfl, k5 h1⟩
   refine ⟨_, E', rfl, rfl, .arr (by rw [hA]) hd, ⟨⟨fun id _ hid o ho => ?_, fun id _ hid o ho hb => ?_, fun id _ hid hl => ?_, fun i j _ _ hi hj _ _ _ => ?_, k3⟩, ⟨ev.os, ev.tape, ev.output, ev.size, fun b hb _ => ev.same b hb (by simp), fun id h => h.elim, fun id h _ hl => ?_, fun id _ h => h.elim, k1, fun b hb _ => .inl (k2 b hb)⟩, fun id hid => ?_, Nat.zero_le _⟩, ⟨fun id _ _ => Nat.zero_le _⟩⟩
   · obtain ⟨rfl, rfl⟩ := hH id o ho; exact k4
   · obtain ⟨rfl, rfl⟩ := hH id o ho; cases hb
   · obtain ⟨rfl, h1, _⟩ := hL id hid hl; exact h1
   · rw [hA] at hi hj
     have hi : i = 0 := hi
     have hj : j = 0 := hj
     rw [hi, hj]
   · obtain ⟨rfl, _, h2⟩ := hL id h hl; exact .inl h2
   · rw [hA] at hid
     have hid : id = 0 := hid
     subst hid
     exact Nat.one_pos
 | panicked c => exact h.elim
 | outgrown => exact h.elim
end Go.Jx
namespace Go.Proofs.Ytcnhjofpmpipfaa
open Go Go.Sx Go.RowKit Go.Jx
theorem cloneO_Val {M : List Nat} {w : World} {a : Option Addr} {cap : Nat} (hM : Lo M w) (hc : cap < 9223372036854775808) : Calls Try.prog 74 #[.slice a 0 cap] w (Ret fun v w' => ∃ a' c' m', v = .slice a' 0 c' ∧ Go.Sx.Own m' M w' a' c' ([] : List (NoD 2)) ∧ Evo [] w m' w') := by
 have hS : SL M w a cap ([] : List (NoD 2)) := ⟨⟨Nat.zero_le _, hc⟩, .inl rfl⟩
 refine enter (l := [.slice a 0 cap]) Try.func74 rfl Try.ntmps74 rfl ?_
 refine c_seq fun KhK1 hK1 => ?_
 refine c_reg ?_
 refine op_assign (v := .slice none 0 0) rfl rfl rfl ?_
 refine wpList_nil ?_
 refine hK1 _ _ ?_
 refine c_seq fun KhK2 hK2 => ?_
 refine c_seq fun KhK3 hK3 => ?_
 refine c_reg ?_
 refine op_move (v := .slice a 0 cap) rfl rfl rfl ?_
 refine op_nilS ty24 rfl rfl rfl rfl ?_
 refine wpList_nil ?_
 refine hK3 _ _ ?_
 refine c_ifB rfl rfl (fun hb4 => ?_) (fun hb4 => ?_)
 · refine c_seq fun KhK5 hK5 => ?_
   refine c_reg ?_
   refine op_assign (v := .slice none 0 0) rfl rfl rfl ?_
   refine wpList_nil ?_
   refine hK5 _ _ ?_
   refine wp_ret ?_
   exact ret1 Try.results74 rfl ⟨none, 0, [], rfl, Go.Sx.Own.nil, Evo.refl [] w⟩
 · refine wp_skip ?_
   refine hK2 _ _ ?_
   refine c_seq fun KhK7 hK7 => ?_
   refine c_reg ?_
   refine op_buildSlice0 (α := NoD 2) (m := []) (M := M) ty24 ty51 rfl (hM.mono (Evo.refl [] w).size) fun β14 w15 hβ16 u17 hz18 ho19 => ?_
   have e20 := u17.evoN (m := []) hβ16 hz18
   refine op_move (v := .slice a 0 cap) rfl rfl rfl ?_
   refine op_append ty24 ty24 ty51 rfl rfl rfl rfl rfl rfl rfl ho19 (hS.mono (e20.tr M)) (hM.mono e20.size) (by simp) fun a22 c23 w24 m25 ho26 e27 u28 hbk29 hsub30 => ?_
   refine op_assign (v := .slice a22 (([] : List (NoD 2)) ++ []).length c23) rfl rfl rfl ?_
   refine wpList_nil ?_
   refine hK7 _ _ ?_
   refine wp_ret ?_
   exact ret1 Try.results74 rfl ⟨a22, c23, m25, rfl, ho26, e20.trans e27⟩
def spz32 : Sm := ⟨[.list cVal], [(true, cVal)], fun x => some (x.1, ())⟩
theorem conz32' : Con Try.prog 74 ⟨[.list cVal], [(true, cVal)], fun x => match x.1 with | [] => none | v :: l => some (x.1, ())⟩ := mkz32 trivial fun x y hx h => ⟨0, by
 obtain ⟨l, _⟩ := x
 have hl := wf_len hx.1
 have hb := hx.1.1
 cases l with
 | nil => cases h
 | cons v l =>
   cases h
   simp only [Fz32, Rz32_in]
   exact Eq.trans (congrArg (fun b => cond b (some (v :: l, ())) none) (Nat.ble_eq_true_of_le (Nat.le_trans (Nat.le_of_eq (congrArg (fun z => Nat.mul z 16) (Nat.zero_add _))) hb))) rfl⟩
theorem conz32 : Con Try.prog idz32 spz32 := by
 refine ⟨cal74, fun M w x us y hy hM hv => ?_⟩
 obtain ⟨l, _⟩ := x
 cases l with
 | cons v l => exact conz32'.calls M w (v :: l, ()) us y hy hM hv
 | nil =>
   cases hy
   obtain ⟨u, us2, rfl, h1, h2⟩ := hv.inv
   obtain rfl : us2 = [] := List.length_eq_zero_iff.1 h2.1.symm
   obtain ⟨a, cap, rfl, hc⟩ := lst_nil2 h1
   refine callsIn_wide.2 ((cloneO_Val (M := M) hM hc).mono fun e w' hR => ?_)
   exact ret_own rfl hM hR
end Go.Proofs.Ytcnhjofpmpipfaa
end
noncomputable section
set_option maxRecDepth 100000
namespace Go.Proofs.Ytcnhjofpmpipfaa
open Go Go.Sx Go.RowKit Go.Jx
def nmz33 : Nat → Option Nm := fun k => cond (Nat.beq k 3) (some ⟨[1, 4, 9, 10, 11], [(4, cVal)], [], [], [], 0, 0, false⟩) (cond (Nat.beq k 999999) (some ⟨[], [], [], [], [], 0, 0, false⟩) none)
def stz33 : Nat → Bool := fun k => cond (Nat.beq k 3) true (false)
def hdz33 := stz33
abbrev Rtz33 : Type := ((List DVal) × Unit) × ((List (Int × Int)) × Unit) × Unit
def smlz33 : List (Nat × Sm) := [(74, spz32)]
def hxlz33 : List (Nat × Hx) := []
def clz33 (R : Type) (lf : Nat) : ClK R := icallK Try.prog ttT.get ftT.get (fun _ _ => none) (smL smlz33) (hxL hxlz33) lf 20 R
abbrev idz33 : Nat := 102
def encz33_3 (x1 : (List DVal)) (x2 : (List (Int × Int))) (p : Int × (List DVal)) : NRes := (NRes.mk (.node none (.node (some (IV.ptr 0 0)) (.node none .leaf (.node (some (IV.int .i64 p.1)) .leaf .leaf)) (.node none (.node (some (IV.arr 1)) .leaf .leaf) .leaf)) (.node none (.node (some (IV.arr 1)) .leaf .leaf) (.node none (.node (some (IV.int .i64 (Int.ofNat (List.length x1)))) .leaf .leaf) .leaf))) (IS.mk (.node (some (IObj.row (List.cons (IV.map 2) []))) (.node (some (IObj.arr cVal p.2)) .leaf .leaf) (.node (some (IObj.tmap (TC.int .i64) (TC.int .i64) x2)) .leaf .leaf)) 3) [] 0)
def Rz33_in (lf : Nat) (x1 : (List DVal)) (x2 : (List (Int × Int))) (L3 : (Int × (List DVal)) → Option Rtz33) : Option Rtz33 := (L3 ((Int.ofNat 0), x1))
def Rz33_3 (lf : Nat) (x1 : (List DVal)) (x2 : (List (Int × Int))) (L3 : (Int × (List DVal)) → Option Rtz33) (p : Int × (List DVal)) : Option Rtz33 := (cond (iltI p.1 (Int.ofNat (List.length x1))) (match (jget p.2 p.1) with | .none  => none | .some v0 => (match (GetElem?.getElem? p.2 (Int.toNat p.1)) with | .none  => none | .some v1 => (cond (ieqI v1.1 (Int.ofNat 4)) (match (jget p.2 p.1) with | .none  => none | .some v2 => (match (GetElem?.getElem? p.2 (Int.toNat p.1)) with | .none  => none | .some v3 => (L3 ((IntKind.i64.wrap (Int.add p.1 (Int.ofNat 1))), (List.set p.2 (Int.toNat p.1) (v3.1, (match (@mfind (TC.int .i64) (TC.int .i64) v1.2 x2) with | .none  => (Int.ofNat 0) | .some v33 => v33))))))) (L3 ((IntKind.i64.wrap (Int.add p.1 (Int.ofNat 1))), p.2))))) (some ((p.2, ()), ((x2, ()), ()))))
abbrev gz33 : Type := ElP [.dat (.list cVal), .ref (.box [.map (.int .i64) (.int .i64)])] → Option Rtz33
abbrev sz33 (g : gz33) : SmR := ⟨[.dat (.list cVal), .ref (.box [.map (.int .i64) (.int .i64)])], [(true, cVal)], g⟩
abbrev Ez33 (g : gz33) (J : JT Rtz33) (lf : Nat) (x1 : (List DVal)) (x2 : (List (Int × Int))) := icodeTB Try.prog ttT.get nmz33 (mP [.dat (.list cVal), .ref (.box [.map (.int .i64) (.int .i64)])]) fi102.nt (clz33 _ lf) lf stz33 J fi102.body [] (argGo (argsP [.dat (.list cVal), .ref (.box [.map (.int .i64) (.int .i64)])] idN 0 (x1, (x2, ()), ())) 0 .leaf) (Sc [.dat (.list cVal), .ref (.box [.map (.int .i64) (.int .i64)])] (x1, (x2, ()), ())) [] (lastQ ttT.get fi102 (sz33 g))
abbrev Bz33 (g : gz33) (J : JT Rtz33) (lf k : Nat) (ms : List Nat) (q : NRes) := icodeFTB Try.prog ttT.get nmz33 (mP [.dat (.list cVal), .ref (.box [.map (.int .i64) (.int .i64)])]) fi102.nt (clz33 _ lf) lf stz33 J k fi102.body [] ms q (lastQ ttT.get fi102 (sz33 g))
theorem inz33 (g : gz33) (J : JT Rtz33) (lf : Nat) (x1 : (List DVal)) (x2 : (List (Int × Int))) : Ez33 g J lf x1 x2 = Rz33_in lf x1 x2 (fun q => J 3 [lf] (encz33_3 x1 x2 q)) := by kernel_rfl
theorem stz33_3 (g : gz33) (J : JT Rtz33) (lf : Nat) (x1 : (List DVal)) (x2 : (List (Int × Int))) (m1 : Nat) (p : Int × (List DVal)) : Bz33 g J lf 3 [m1] (encz33_3 x1 x2 p) = Rz33_3 lf x1 x2 (fun q => J 3 [m1] (encz33_3 x1 x2 q)) p := by kernel_rfl
theorem ndz33 : (regs fi102.body).Nodup := by decide +kernel
theorem okz33 : okC nmz33 stz33 hdz33 fi102.body none = true := by kernel_rfl
def Az33 (g : gz33) (lf : Nat) : JT Rtz33 := atQ Try.prog ttT.get nmz33 fi102 (sz33 g) (clz33 _ lf) lf hdz33
def Gz33_3 (lf : Nat) (x1 : (List DVal)) (x2 : (List (Int × Int))) : Nat → (Int × (List DVal)) → Option Rtz33 := rounds fun K p => Rz33_3 lf x1 x2 K p
theorem atz33_3 (g : gz33) (lf : Nat) (x1 : (List DVal)) (x2 : (List (Int × Int))) : ∀ (n : Nat) (p : Int × (List DVal)), Az33 g lf 3 [n] (encz33_3 x1 x2 p) = Gz33_3 lf x1 x2 n p
 | 0, p => atQ_zero 3 [0] rfl _
 | n + 1, p => by
   have ih := atz33_3 g lf x1 x2 n
   refine (atQ_eq rfl (iKe 20 _) ndz33 okz33 3 [n + 1] [n] rfl _).trans ((stz33_3 g (Az33 g lf) lf x1 x2 n p).trans ?_)
   rw [(show (fun q => Az33 g lf 3 [n] (encz33_3 x1 x2 q)) = (fun q => Gz33_3 lf x1 x2 n q) from funext ih)]
   rfl
def Fz33 (lf : Nat) (x1 : (List DVal)) (x2 : (List (Int × Int))) : Option Rtz33 := Rz33_in lf x1 x2 (fun q => Gz33_3 lf x1 x2 lf q)
theorem runz33 (g : gz33) (lf : Nat) (x1 : (List DVal)) (x2 : (List (Int × Int))) : Ez33 g (Az33 g lf) lf x1 x2 = Fz33 lf x1 x2 := by
   refine (inz33 g (Az33 g lf) lf x1 x2).trans ?_
   rw [(show (fun q => Az33 g lf 3 [lf] (encz33_3 x1 x2 q)) = (fun q => Gz33_3 lf x1 x2 lf q) from funext fun q => atz33_3 g lf x1 x2 lf q)]
   rfl
theorem hxsz33 : HxsOK Try.prog hxlz33 := trivial
theorem mkz33 {g : gz33} (hsm : SmOK Try.prog smlz33) (hg : ∀ (x : ElP [.dat (.list cVal), .ref (.box [.map (.int .i64) (.int .i64)])]) (y : Rtz33), WfP [.dat (.list cVal), .ref (.box [.map (.int .i64) (.int .i64)])] x → g x = some y → ∃ lf, Fz33 lf x.1 x.2.1.1 = some y) : ConR Try.prog 102 ⟨[.dat (.list cVal), .ref (.box [.map (.int .i64) (.int .i64)])], [(true, cVal)], g⟩ :=
 conTR (nmf := nmz33) (sml := smlz33) (hxl := hxlz33) (st := stz33) (hd := hdz33) 20 mixed ttOK ftOK hsm hxsz33 cal102 (by kernel_rfl) (fun x => by kernel_rfl) ndz33 okz33 fun x y z hx hy => by
   obtain ⟨lf, h⟩ := hg x (y, z) hx hy
   exact ⟨lf, (runz33 g lf x.1 x.2.1.1).trans h⟩
def S.numAt (es : List (Int × Int)) (k : Int) : Option Int := @mfind (.int .i64) (.int .i64) k es
def S.movedV (es : List (Int × Int)) (v : DVal) : DVal := if (v : Int × Int).1 = 4 then ((v : Int × Int).1, (S.numAt es (v : Int × Int).2).getD 0) else v
def S.movedL (es : List (Int × Int)) (l : List DVal) : List DVal := l.map (S.movedV es)
def spz33 : SmR := ⟨[.dat (.list cVal), .ref (.box [.map (.int .i64) (.int .i64)])], [(true, cVal)], fun x => some ((S.movedL x.2.1.1 x.1, ()), ((x.2.1.1, ()), ()))⟩
theorem run_canon_2 (l : List DVal) (es : List (Int × Int)) (hl : l.length < LF) : Fz33 LF l es = some ((S.movedL es l, ()), ((es, ()), ())) := by
 simp only [Fz33, Rz33_in]
 refine range0 (α := DVal) (σ := List DVal) (R := Rtz33) l (fun i s => (i, s)) (fun i s => s = (l.take i).map (S.movedV es) ++ l.drop i) (fun _ _ _ => some ((S.movedL es l, ()), ((es, ()), ()))) hl (fun K s hs => ?_) (fun K i v rest s hs r hk => ?_) l rfl
 · simp only [Rz33_3, ils, cond_false]
   rw [hs, List.take_length, List.drop_length, List.append_nil]; rfl
 · have hlen : ((l.take i).map (S.movedV es)).length = i := by rw [List.length_map, List.length_take]; have := r.lt; omega
   have hs2 : s = (l.take i).map (S.movedV es) ++ v :: rest := by rw [hs, r.drop]
   have hg : s[i]? = some v := by rw [hs2, List.getElem?_append_right (by omega), hlen, Nat.sub_self]; rfl
   have hj : jget s (Int.ofNat i) = some v := by rw [jget_nat]; exact hg
   have hset : ∀ v', v' = S.movedV es v → (s.set i v') = (l.take (i + 1)).map (S.movedV es) ++ l.drop (i + 1) := fun v' hv => by
     rw [hs2, List.set_append_right _ _ (by omega), hlen, Nat.sub_self, r.tail, r.take, List.map_append, List.set_cons_zero, hv]
     simp
   have hsame : S.movedV es v = v → s = (l.take (i + 1)).map (S.movedV es) ++ l.drop (i + 1) := fun hv => by
     rw [hs2, r.tail, r.take, List.map_append]
     simp [hv]
   have e2 : Int.toNat (Int.ofNat i) = i := rfl
   simp only [Rz33_3, r.ilt, cond_true, hj, e2, hg, r.next]
   by_cases h4 : (v : Int × Int).1 = 4
   · have h5 : ieqI (v : Int × Int).1 (Int.ofNat 4) = true := by rw [ieqI_eq]; exact decide_eq_true h4
     simp only [h5, cond_true]
     refine hk _ (hset _ ?_)
     unfold S.movedV
     rw [if_pos h4]
     congr 1
     show _ = (S.numAt es (v : Int × Int).2).getD 0
     unfold S.numAt
     cases @mfind (.int .i64) (.int .i64) (v : Int × Int).2 es <;> rfl
   · have h5 : ieqI (v : Int × Int).1 (Int.ofNat 4) = false := by rw [ieqI_eq]; exact decide_eq_false h4
     simp only [h5, cond_false]
     exact hk _ (hsame (by unfold S.movedV; rw [if_neg h4]))
theorem conz33 : ConR Try.prog idz33 spz33 := mkz33 ⟨conz32, trivial⟩ fun x y hx h => ⟨LF, by
 obtain ⟨l, ⟨es, _⟩, _⟩ := x
 have hl : List.length (α := DVal) l < LF := wf_len hx.1
 exact (run_canon_2 l es hl).trans h⟩
def S.numSet (es : List (Int × Int)) (k v : Int) : List (Int × Int) := @mset (.int .i64) (.int .i64) k v es
def S.meetN : List Int → List (Int × Int) → List Int → Option (List (Int × Int) × List Int)
 | [], es, o => some (es, o)
 | n :: l, es, o => cond (S.numAt es n).isSome (S.meetN l es o) (cond (Nat.ble ((o.length + 1) * 8) 140737488355328) (S.meetN l (S.numSet es n (Int.ofNat o.length)) (o ++ [n])) none)
def spz31 : SmR := ⟨[.dat (.list cVal), .ref (.box [.map (.int .i64) (.int .i64)]), .ref (.box [.arr (.int .i64)])], [], fun x => match S.meetN (S.refsL x.1) x.2.1.1 x.2.2.1.1 with
 | none => none
 | some q => some ((), ((q.1, ()), ((q.2, ()), ())))⟩
theorem fold_meet : ∀ (l : List Int) (es : List (Int × Int)) (o : List Int),
   foldN (D := ((List (Int × Int)) × Unit) × ((List Int) × Unit) × Unit) (fun v0 v1 => (cond (Bool.not (match (@mfind (TC.int Go.IntKind.i64) (TC.int Go.IntKind.i64) v1 v0.1.1) with | .none  => Bool.false | .some v2 => Bool.true)) (cond (Nat.ble (Nat.mul (Nat.add (List.length v0.2.1.1) 1) 8) 140737488355328) (some (((@mset (TC.int Go.IntKind.i64) (TC.int Go.IntKind.i64) v1 (Int.ofNat (List.length v0.2.1.1)) v0.1.1), ()), (((List.append v0.2.1.1 (List.cons v1 [])), ()), ()))) none) (some ((v0.1.1, ()), ((v0.2.1.1, ()), ()))))) l ((es, ()), ((o, ()), ()))
     = match S.meetN l es o with
       | none => none
       | some q => some ((q.1, ()), ((q.2, ()), ()))
 | [], es, o => rfl
 | n :: l, es, o => by
   have ih := fold_meet l
   simp only [foldN, S.meetN, S.numAt]
   cases hf : @mfind (TC.int Go.IntKind.i64) (TC.int Go.IntKind.i64) n es with
   | some v =>
     simp only [hf, Bool.not_true, cond_false, Option.isSome_some, cond_true]
     exact ih es o
   | none =>
     simp only [hf, Bool.not_false, cond_true, Option.isSome_none, cond_false]
     cases hb : Nat.ble ((o.length + 1) * 8) 140737488355328 with
     | false =>
       have hb2 : Nat.ble (Nat.mul (Nat.add o.length 1) 8) 140737488355328 = false := hb
       simp only [hb2, cond_false]
       all_goals rfl
     | true =>
       have hb2 : Nat.ble (Nat.mul (Nat.add o.length 1) 8) 140737488355328 = true := hb
       simp only [hb2, cond_true]
       exact ih _ _
theorem conz31 : ConR Try.prog idz31 spz31 := mkz31 trivial fun x y hx h => ⟨0, by
 obtain ⟨l, ⟨es, _⟩, ⟨o, _⟩, _⟩ := x
 have h : (match S.meetN (S.refsL l) es o with
   | none => none
   | some q => some ((), ((q.1, ()), ((q.2, ()), ())))) = some y := h
 simp only [Fz31, Rz31_in]
 have e := fold_meet (S.refsL l) es o
 cases hm : S.meetN (S.refsL l) es o with
 | none => rw [hm] at h; cases h
 | some q =>
   rw [hm] at h e
   refine Eq.trans ?_ h
   exact congrArg (fun a : Option (((List (Int × Int)) × Unit) × ((List Int) × Unit) × Unit) => (match a with | .none => none | .some v3 => some ((), ((v3.1.1, ()), ((v3.2.1.1, ()), ()))) : Option Rtz31)) e⟩
def nmz34 : Nat → Option Nm := fun k => cond (Nat.beq k 7) (some ⟨[1, 2, 4, 5, 6, 7], [], [(5, 0, (.int .i64))], [], [(4, 0, (.int .i64), (.int .i64))], 0, 0, false⟩) (cond (Nat.beq k 12) (some ⟨[1, 2, 4, 8, 9, 45, 46, 47], [(45, (.int .i64))], [(9, 0, cNode), (9, 1, cVal)], [], [(4, 0, (.int .i64), (.int .i64))], 0, 0, false⟩) (cond (Nat.beq k 18) (some ⟨[2, 4, 9, 12, 74, 75], [(12, (.int .i64))], [(9, 0, cNode), (9, 1, cVal)], [], [(4, 0, (.int .i64), (.int .i64))], 0, 0, false⟩) (none)))
def stz34 : Nat → Bool := fun k => cond (Nat.beq k 7) true (cond (Nat.beq k 12) true (cond (Nat.beq k 18) true (false)))
def hdz34 := stz34
abbrev Rtz34 : Type := DGraph × (List Int) × Unit
def smlz34 : List (Nat × Sm) := []
def hxlz34 : List (Nat × Hx) := [(100, hxR spz31), (102, hxR spz33)]
def clz34 (R : Type) (lf : Nat) : ClK R := icallK Try.prog ttT.get ftT.get (nm1 62 nmz34) (smL smlz34) (hxL hxlz34) lf 20 R
abbrev idz34 : Nat := 62
def encz34_7 (x1 : DGraph) (p : (List (Int × Int)) × (List Int) × Int) : NRes := (NRes.mk (.node none (.node (some (IV.ptr 0 0)) (.node none (.node (some (IV.int .i64 p.2.2)) .leaf .leaf) .leaf) (.node (some (IV.ptr 3 0)) .leaf .leaf)) (.node (some (IV.ptr 1 0)) (.node (some (IV.ptr 2 0)) .leaf .leaf) (.node (some (IV.fn 100 (List.cons (IV.ptr 2 0) (List.cons (IV.ptr 3 0) [])))) .leaf .leaf))) (IS.mk (.node (some (IObj.row (List.cons (IV.lst cNode x1.1) (List.cons (IV.lst cVal x1.2) [])))) (.node (some (IObj.row (List.cons IV.nilsl (List.cons IV.nilsl [])))) (.node (some (IObj.row (List.cons (IV.arr 5) []))) .leaf .leaf) (.node (some (IObj.arr (TC.int .i64) p.2.1)) .leaf .leaf)) (.node (some (IObj.row (List.cons (IV.map 4) []))) (.node (some (IObj.tmap (TC.int .i64) (TC.int .i64) p.1)) .leaf .leaf) .leaf)) 6) [] 0)
def encz34_12 (x1 : DGraph) (p : (List (Int × Int)) × (List Int) × Int × (List DNode)) : NRes := (NRes.mk (.node none (.node (some (IV.ptr 0 0)) (.node none (.node none (.node none .leaf (.node (some (IV.int .i64 p.2.2.1)) .leaf .leaf)) .leaf) .leaf) (.node none (.node (some (IV.ptr 3 0)) .leaf .leaf) (.node none .leaf (.node none (.node (some (IV.arr 4)) .leaf .leaf) .leaf)))) (.node (some (IV.ptr 1 0)) (.node (some (IV.ptr 2 0)) (.node (some (IV.fn 102 (List.cons (IV.ptr 2 0) []))) .leaf .leaf) .leaf) (.node none .leaf (.node none .leaf (.node none (.node (some (IV.int .i64 (Int.ofNat (List.length p.2.1)))) .leaf .leaf) .leaf))))) (IS.mk (.node (some (IObj.row (List.cons (IV.lst cNode x1.1) (List.cons (IV.lst cVal x1.2) [])))) (.node (some (IObj.row (List.cons IV.nilsl (List.cons IV.nilsl [])))) (.node (some (IObj.row (List.cons (IV.arr 6) (List.cons (IV.arr 7) [])))) (.node (some (IObj.arr cVal (S.movedL p.1 x1.2))) .leaf .leaf) .leaf) (.node (some (IObj.tmap (TC.int .i64) (TC.int .i64) p.1)) .leaf .leaf)) (.node (some (IObj.row (List.cons (IV.map 5) []))) (.node (some (IObj.arr (TC.int .i64) p.2.1)) .leaf .leaf) (.node (some (IObj.arr cNode p.2.2.2)) .leaf .leaf))) 8) [] 0)
def encz34_18 (x1 : DGraph) (p : (List (Int × Int)) × (List DNode) × Int × (List Int)) : NRes := (NRes.mk (.node none (.node none (.node none .leaf (.node none .leaf (.node none (.node none (.node (some (IV.int .i64 p.2.2.1)) .leaf .leaf) .leaf) .leaf))) (.node none (.node (some (IV.ptr 2 0)) .leaf .leaf) .leaf)) (.node (some (IV.ptr 0 0)) (.node (some (IV.ptr 1 0)) .leaf (.node (some (IV.arr 3)) .leaf .leaf)) (.node none (.node none .leaf (.node none (.node none (.node (some (IV.int .i64 (Int.ofNat (List.length x1.1)))) .leaf .leaf) .leaf) .leaf)) .leaf))) (IS.mk (.node (some (IObj.row (List.cons IV.nilsl (List.cons IV.nilsl [])))) (.node (some (IObj.row (List.cons (IV.map 4) []))) (.node (some (IObj.arr (TC.int .i64) p.2.2.2)) .leaf .leaf) (.node (some (IObj.arr cNode p.2.1)) .leaf .leaf)) (.node (some (IObj.row (List.cons (IV.arr 5) (List.cons (IV.arr 6) [])))) (.node (some (IObj.tmap (TC.int .i64) (TC.int .i64) p.1)) .leaf .leaf) (.node (some (IObj.arr cVal (S.movedL p.1 x1.2))) .leaf .leaf))) 7) [] 0)
def Rz34_in (lf : Nat) (x1 : DGraph) (L7 : ((List (Int × Int)) × (List Int) × Int) → Option Rtz34) : Option Rtz34 := (match (match (S.meetN (S.refsL x1.2) [] []) with | .none  => none | .some v0 => (some ((), ((v0.1, ()), ((v0.2, ()), ()))))) with | .none  => none | .some v1 => (L7 (v1.2.1.1, v1.2.2.1.1, (Int.ofNat 0))))
def Rz34_7 (lf : Nat) (x1 : DGraph) (L12 : ((List (Int × Int)) × (List Int) × Int × (List DNode)) → Option Rtz34) (L7 : ((List (Int × Int)) × (List Int) × Int) → Option Rtz34) (p : (List (Int × Int)) × (List Int) × Int) : Option Rtz34 := (cond (ieqI p.2.2 (Int.ofNat (List.length p.2.1))) (L12 (p.1, p.2.1, (Int.ofNat 0), [])) (match (jget p.2.1 p.2.2) with | .none  => none | .some v2 => (match (GetElem?.getElem? p.2.1 (Int.toNat p.2.2)) with | .none  => none | .some v3 => (match (jget x1.1 v3) with | .none  => none | .some v4 => (match (match (S.meetN (S.refsL v4.2) p.1 p.2.1) with | .none  => none | .some v5 => (some ((), ((v5.1, ()), ((v5.2, ()), ()))))) with | .none  => none | .some v6 => (L7 (v6.2.1.1, v6.2.2.1.1, (IntKind.i64.wrap (Int.add p.2.2 (Int.ofNat 1))))))))))
def Rz34_12 (lf : Nat) (x1 : DGraph) (L12 : ((List (Int × Int)) × (List Int) × Int × (List DNode)) → Option Rtz34) (L18 : ((List (Int × Int)) × (List DNode) × Int × (List Int)) → Option Rtz34) (p : (List (Int × Int)) × (List Int) × Int × (List DNode)) : Option Rtz34 := (cond (iltI p.2.2.1 (Int.ofNat (List.length p.2.1))) (match (jget p.2.1 p.2.2.1) with | .none  => none | .some v0 => (match (GetElem?.getElem? p.2.1 (Int.toNat p.2.2.1)) with | .none  => none | .some v1 => (match (jget x1.1 v1) with | .none  => none | .some v2 => (match (jget x1.1 v1) with | .none  => none | .some v3 => (cond (Nat.ble (Nat.mul (Nat.add (List.length p.2.2.2) 1) 40) 140737488355328) (L12 (p.1, p.2.1, (IntKind.i64.wrap (Int.add p.2.2.1 (Int.ofNat 1))), (List.append p.2.2.2 (List.cons (v2.1, (S.movedL p.1 v3.2)) [])))) none))))) (L18 (p.1, p.2.2.2, (Int.ofNat 0), [])))
def Rz34_18 (lf : Nat) (x1 : DGraph) (L18 : ((List (Int × Int)) × (List DNode) × Int × (List Int)) → Option Rtz34) (p : (List (Int × Int)) × (List DNode) × Int × (List Int)) : Option Rtz34 := (cond (iltI p.2.2.1 (Int.ofNat (List.length x1.1))) (cond (Bool.not (match (@mfind (TC.int .i64) (TC.int .i64) p.2.2.1 p.1) with | .none  => Bool.false | .some v0 => Bool.true)) (cond (Nat.ble (Nat.mul (Nat.add (List.length p.2.2.2) 1) 8) 140737488355328) (L18 (p.1, p.2.1, (IntKind.i64.wrap (Int.add p.2.2.1 (Int.ofNat 1))), (List.append p.2.2.2 (List.cons (Int.negSucc 0) [])))) none) (cond (Nat.ble (Nat.mul (Nat.add (List.length p.2.2.2) 1) 8) 140737488355328) (L18 (p.1, p.2.1, (IntKind.i64.wrap (Int.add p.2.2.1 (Int.ofNat 1))), (List.append p.2.2.2 (List.cons (match (@mfind (TC.int .i64) (TC.int .i64) p.2.2.1 p.1) with | .none  => (Int.ofNat 0) | .some v29 => v29) [])))) none)) (some ((p.2.1, (S.movedL p.1 x1.2)), (p.2.2.2, ()))))
abbrev gz34 : Type := ElA [cGraph] → Option Rtz34
abbrev sz34 (g : gz34) : Sm := ⟨[cGraph], [(false, cGraph), (false, (.list (.int .i64)))], g⟩
abbrev Ez34 (g : gz34) (J : JT Rtz34) (lf : Nat) (x1 : DGraph) := icodeT Try.prog ttT.get nmz34 fi62.nt (clz34 _ lf) lf stz34 J fi62.body [] (argGo (argV [cGraph] (x1, ())) 0 .leaf) S0 [] (lastK ttT.get fi62 (sz34 g))
abbrev Bz34 (g : gz34) (J : JT Rtz34) (lf k : Nat) (ms : List Nat) (q : NRes) := icodeFT Try.prog ttT.get nmz34 fi62.nt (clz34 _ lf) lf stz34 J k fi62.body [] ms q (lastK ttT.get fi62 (sz34 g))
theorem inz34 (g : gz34) (J : JT Rtz34) (lf : Nat) (x1 : DGraph) : Ez34 g J lf x1 = Rz34_in lf x1 (fun q => J 7 [lf] (encz34_7 x1 q)) := by kernel_rfl
theorem stz34_7 (g : gz34) (J : JT Rtz34) (lf : Nat) (x1 : DGraph) (m1 : Nat) (p : (List (Int × Int)) × (List Int) × Int) : Bz34 g J lf 7 [m1] (encz34_7 x1 p) = Rz34_7 lf x1 (fun q => J 12 [lf] (encz34_12 x1 q)) (fun q => J 7 [m1] (encz34_7 x1 q)) p := by kernel_rfl
theorem stz34_12 (g : gz34) (J : JT Rtz34) (lf : Nat) (x1 : DGraph) (m1 : Nat) (p : (List (Int × Int)) × (List Int) × Int × (List DNode)) : Bz34 g J lf 12 [m1] (encz34_12 x1 p) = Rz34_12 lf x1 (fun q => J 12 [m1] (encz34_12 x1 q)) (fun q => J 18 [lf] (encz34_18 x1 q)) p := by kernel_rfl
theorem stz34_18 (g : gz34) (J : JT Rtz34) (lf : Nat) (x1 : DGraph) (m1 : Nat) (p : (List (Int × Int)) × (List DNode) × Int × (List Int)) : Bz34 g J lf 18 [m1] (encz34_18 x1 p) = Rz34_18 lf x1 (fun q => J 18 [m1] (encz34_18 x1 q)) p := by kernel_rfl
theorem ndz34 : (regs fi62.body).Nodup := by decide +kernel
theorem okz34 : okC nmz34 stz34 hdz34 fi62.body none = true := by kernel_rfl
def Az34 (g : gz34) (lf : Nat) : JT Rtz34 := atN Try.prog ttT.get nmz34 fi62 (sz34 g) (clz34 _ lf) lf hdz34
def Gz34_18 (lf : Nat) (x1 : DGraph) : Nat → ((List (Int × Int)) × (List DNode) × Int × (List Int)) → Option Rtz34 := rounds fun K p => Rz34_18 lf x1 K p
theorem atz34_18 (g : gz34) (lf : Nat) (x1 : DGraph) : ∀ (n : Nat) (p : (List (Int × Int)) × (List DNode) × Int × (List Int)), Az34 g lf 18 [n] (encz34_18 x1 p) = Gz34_18 lf x1 n p
 | 0, p => atz 18 [0] rfl _
 | n + 1, p => by
   have ih := atz34_18 g lf x1 n
   refine (atN_eq (iKe 20 _) ndz34 okz34 18 [n + 1] [n] rfl _).trans ((stz34_18 g (Az34 g lf) lf x1 n p).trans ?_)
   rw [(show (fun q => Az34 g lf 18 [n] (encz34_18 x1 q)) = (fun q => Gz34_18 lf x1 n q) from funext ih)]
   rfl
def Gz34_12 (lf : Nat) (x1 : DGraph) : Nat → ((List (Int × Int)) × (List Int) × Int × (List DNode)) → Option Rtz34 := rounds fun K p => Rz34_12 lf x1 K (fun q => Gz34_18 lf x1 lf q) p
theorem atz34_12 (g : gz34) (lf : Nat) (x1 : DGraph) : ∀ (n : Nat) (p : (List (Int × Int)) × (List Int) × Int × (List DNode)), Az34 g lf 12 [n] (encz34_12 x1 p) = Gz34_12 lf x1 n p
 | 0, p => atz 12 [0] rfl _
 | n + 1, p => by
   have ih := atz34_12 g lf x1 n
   refine (atN_eq (iKe 20 _) ndz34 okz34 12 [n + 1] [n] rfl _).trans ((stz34_12 g (Az34 g lf) lf x1 n p).trans ?_)
   rw [(show (fun q => Az34 g lf 18 [lf] (encz34_18 x1 q)) = (fun q => Gz34_18 lf x1 lf q) from funext fun q => atz34_18 g lf x1 lf q), (show (fun q => Az34 g lf 12 [n] (encz34_12 x1 q)) = (fun q => Gz34_12 lf x1 n q) from funext ih)]
   rfl
def Gz34_7 (lf : Nat) (x1 : DGraph) : Nat → ((List (Int × Int)) × (List Int) × Int) → Option Rtz34 := rounds fun K p => Rz34_7 lf x1 (fun q => Gz34_12 lf x1 lf q) K p
theorem atz34_7 (g : gz34) (lf : Nat) (x1 : DGraph) : ∀ (n : Nat) (p : (List (Int × Int)) × (List Int) × Int), Az34 g lf 7 [n] (encz34_7 x1 p) = Gz34_7 lf x1 n p
 | 0, p => atz 7 [0] rfl _
 | n + 1, p => by
   have ih := atz34_7 g lf x1 n
   refine (atN_eq (iKe 20 _) ndz34 okz34 7 [n + 1] [n] rfl _).trans ((stz34_7 g (Az34 g lf) lf x1 n p).trans ?_)
   rw [(show (fun q => Az34 g lf 12 [lf] (encz34_12 x1 q)) = (fun q => Gz34_12 lf x1 lf q) from funext fun q => atz34_12 g lf x1 lf q), (show (fun q => Az34 g lf 7 [n] (encz34_7 x1 q)) = (fun q => Gz34_7 lf x1 n q) from funext ih)]
   rfl
def Fz34 (lf : Nat) (x1 : DGraph) : Option Rtz34 := Rz34_in lf x1 (fun q => Gz34_7 lf x1 lf q)
theorem runz34 (g : gz34) (lf : Nat) (x1 : DGraph) : Ez34 g (Az34 g lf) lf x1 = Fz34 lf x1 := by
   refine (inz34 g (Az34 g lf) lf x1).trans ?_
   rw [(show (fun q => Az34 g lf 7 [lf] (encz34_7 x1 q)) = (fun q => Gz34_7 lf x1 lf q) from funext fun q => atz34_7 g lf x1 lf q)]
   rfl
theorem hxsz34 (hrz31 : ConR Try.prog 100 spz31) (hrz33 : ConR Try.prog 102 spz33) : HxsOK Try.prog hxlz34 := ⟨hxR_ok hrz31, ⟨hxR_ok hrz33, trivial⟩⟩
theorem mkz34 {g : gz34} (hsm : SmOK Try.prog smlz34) (hrz31 : ConR Try.prog 100 spz31) (hrz33 : ConR Try.prog 102 spz33) (hg : ∀ (x : ElA [cGraph]) (y : Rtz34), WfA [cGraph] x → g x = some y → ∃ lf, Fz34 lf x.1 = some y) : Con Try.prog 62 ⟨[cGraph], [(false, cGraph), (false, (.list (.int .i64)))], g⟩ :=
 conT (nmf := nmz34) (sml := smlz34) (hxl := hxlz34) (st := stz34) (hd := hdz34) 20 mixed ttOK ftOK hsm (hxsz34 hrz31 hrz33) cal62 rfl rfl (by kernel_rfl) (fun x => by kernel_rfl) ndz34 okz34 fun x y hx hy => by
   obtain ⟨lf, h⟩ := hg x y hx hy
   exact ⟨lf, (runz34 g lf x.1).trans h⟩
noncomputable def S.canonO (g : DGraph) : Option (DGraph × List Int × Unit) := Fz34 LF g
noncomputable def spz34 : Sm := ⟨[cGraph], [(false, cGraph), (false, .list (.int .i64))], fun x => S.canonO x.1⟩
theorem conz34 : Con Try.prog idz34 spz34 := mkz34 trivial conz31 conz33 fun x y hx h => ⟨LF, h⟩
def S.tabF : Nat → List Int → List (Int × Int)
 | _, [] => []
 | i, n :: l => (n, Int.ofNat i) :: S.tabF (i + 1) l
def S.tab (o : List Int) : List (Int × Int) := S.tabF 0 o
def S.meetL : List Int → List Int → List Int
 | o, [] => o
 | o, n :: l => if n ∈ o then S.meetL o l else S.meetL (o ++ [n]) l
theorem keqI_eq2 (a b : Int) : keqI a b = decide (a = b) := rfl
theorem numAt_cons (e : Int × Int) (es : List (Int × Int)) (k : Int) : S.numAt (e :: es) k = if k = e.1 then some e.2 else S.numAt es k := by
 show (cond (keqI k e.1) (some e.2) (S.numAt es k)) = _
 rw [keqI_eq2]
 by_cases h : k = e.1
 · rw [if_pos h, decide_eq_true h]; rfl
 · rw [if_neg h, decide_eq_false h]; rfl
theorem numSet_cons (e : Int × Int) (es : List (Int × Int)) (k v : Int) : S.numSet (e :: es) k v = if k = e.1 then (k, v) :: es else e :: S.numSet es k v := by
 show (cond (keqI k e.1) ((k, v) :: es) (e :: S.numSet es k v)) = _
 rw [keqI_eq2]
 by_cases h : k = e.1
 · rw [if_pos h, decide_eq_true h]; rfl
 · rw [if_neg h, decide_eq_false h]; rfl
theorem numAt_tabF : ∀ (o : List Int) (i : Nat) (k : Int), S.numAt (S.tabF i o) k = if k ∈ o then some (Int.ofNat (i + o.idxOf k)) else none
 | [], i, k => by simp [S.tabF]; rfl
 | n :: l, i, k => by
   simp only [S.tabF, numAt_cons]
   by_cases h : k = n
   · subst h; simp
   · rw [if_neg h, numAt_tabF l (i + 1) k]
     have h' : (n == k) = false := by simpa using fun e => h e.symm
     by_cases hm : k ∈ l
     · rw [if_pos hm, if_pos (List.mem_cons_of_mem _ hm), List.idxOf_cons, h', cond_false, Nat.add_assoc, Nat.add_comm 1]
     · rw [if_neg hm, if_neg (by simp [h, hm])]
theorem numAt_tab (o : List Int) (k : Int) : S.numAt (S.tab o) k = if k ∈ o then some (Int.ofNat (o.idxOf k)) else none := by
 unfold S.tab; rw [numAt_tabF, Nat.zero_add]
theorem numSet_tabF : ∀ (o : List Int) (i : Nat) (k : Int), k ∉ o → S.numSet (S.tabF i o) k (Int.ofNat (i + o.length)) = S.tabF i (o ++ [k])
 | [], i, k, _ => rfl
 | n :: l, i, k, h => by
   simp only [List.mem_cons, not_or] at h
   simp only [S.tabF, numSet_cons, List.cons_append, if_neg h.1]
   congr 1
   have := numSet_tabF l (i + 1) k h.2
   rw [show i + 1 + l.length = i + (n :: l).length by simp; omega] at this
   exact this
theorem numSet_tab (o : List Int) (k : Int) (h : k ∉ o) : S.numSet (S.tab o) k (Int.ofNat o.length) = S.tab (o ++ [k]) := by
 have := numSet_tabF o 0 k h
 rwa [Nat.zero_add] at this
theorem meetN_tab : ∀ (l o : List Int), (o.length + l.length) * 8 ≤ 140737488355328 → S.meetN l (S.tab o) o = some (S.tab (S.meetL o l), S.meetL o l)
 | [], o, h => rfl
 | n :: l, o, h => by
   simp only [List.length_cons] at h
   simp only [S.meetN, S.meetL, numAt_tab]
   by_cases hm : n ∈ o
   · rw [if_pos hm, if_pos hm]
     exact meetN_tab l o (by omega)
   · rw [if_neg hm, if_neg hm]
     simp only [Option.isSome_none, cond_false]
     rw [Nat.ble_eq_true_of_le (show (o.length + 1) * 8 ≤ 140737488355328 by omega), cond_true, numSet_tab o n hm]
     exact meetN_tab l (o ++ [n]) (by simp only [List.length_append, List.length_cons, List.length_nil]; omega)
theorem meetL_mem : ∀ (l o : List Int) (k : Int), k ∈ S.meetL o l ↔ k ∈ o ∨ k ∈ l
 | [], o, k => by simp [S.meetL]
 | n :: l, o, k => by
   simp only [S.meetL]
   by_cases hm : n ∈ o
   · rw [if_pos hm, meetL_mem l o k]
     constructor
     · rintro (h | h)
       · exact .inl h
       · exact .inr (List.mem_cons_of_mem _ h)
     · rintro (h | h)
       · exact .inl h
       · rcases List.mem_cons.1 h with rfl | h
         · exact .inl hm
         · exact .inr h
   · rw [if_neg hm, meetL_mem l (o ++ [n]) k]
     simp only [List.mem_append, List.mem_cons, List.not_mem_nil, or_false]
     constructor
     · rintro ((h | h) | h)
       · exact .inl h
       · exact .inr (.inl h)
       · exact .inr (.inr h)
     · rintro (h | h | h)
       · exact .inl (.inl h)
       · exact .inl (.inr h)
       · exact .inr h
theorem meetL_nodup : ∀ (l o : List Int), o.Nodup → (S.meetL o l).Nodup
 | [], o, h => h
 | n :: l, o, h => by
   simp only [S.meetL]
   by_cases hm : n ∈ o
   · rw [if_pos hm]; exact meetL_nodup l o h
   · rw [if_neg hm]
     refine meetL_nodup l _ (List.nodup_append.2 ⟨h, by simp, fun a ha b hb => ?_⟩)
     rw [List.mem_singleton.1 hb]
     exact fun e => hm (e ▸ ha)
theorem meetL_pre : ∀ (l o : List Int), ∃ t, S.meetL o l = o ++ t
 | [], o => ⟨[], (List.append_nil _).symm⟩
 | n :: l, o => by
   simp only [S.meetL]
   by_cases hm : n ∈ o
   · rw [if_pos hm]; exact meetL_pre l o
   · rw [if_neg hm]
     obtain ⟨t, ht⟩ := meetL_pre l (o ++ [n])
     exact ⟨n :: t, by rw [ht]; simp⟩
theorem meetL_len (l o : List Int) : o.length ≤ (S.meetL o l).length := by
 obtain ⟨t, ht⟩ := meetL_pre l o
 rw [ht]; simp
end Go.Proofs.Ytcnhjofpmpipfaa
end
section
noncomputable section
namespace Go.Proofs.Ytcnhjofpmpipfaa
open Go Go.Sx Go.RowKit Go.Jx
namespace S
open Go.Jx.S
def both (a b : DGive) : DGive × Bool :=
 if b.2.1 = 1 then (a, true)
 else if a.2.1 = 1 then ((a.1, b.2.1, b.2.2), true)
 else if a.2.1 = 2 ∧ b.2.1 = 3 then ((a.1, 1, 0), true)
 else if a.2.1 = 2 ∧ b.2.1 = 4 then (a, decide (2 ≤ b.2.2))
 else if a.2.1 = 4 ∧ b.2.1 = 4 then ((a.1, a.2.1, imin a.2.2 b.2.2), true)
 else if a.2.1 = 5 ∧ b.2.1 = 5 then (a, true)
 else if a.2.1 = 6 ∧ b.2.1 = 2 then (a, true)
 else if a.2.1 = 6 ∧ b.2.1 = 3 then (a, within a.2.2 0 1)
 else if a.2.1 = 6 ∧ b.2.1 = 4 then (a, decide (a.2.2 < b.2.2))
 else (zGive, false)
def hasFrom (l : List DGive) (n : ByteArray) : Bool := l.any fun g => keqS g.1 n
def asksG (g : DGive) : Bool := decide (g.2.1 = 3) || (decide (g.2.1 = 4) || decide (g.2.1 = 5))
def chGo (a : DRule) (mid : List DCol) : List DGive → List DGive → Option (List DGive)
 | [], acc => some acc
 | g :: gs, acc =>
   if g.2.1 = 6 ∨ g.2.1 = 7 then chGo a mid gs (acc ++ [g])
   else if (both (at_ zGive a.2.2 (col mid g.1)) g).2 = true then chGo a mid gs (acc ++ [(both (at_ zGive a.2.2 (col mid g.1)) g).1])
   else none
def chAsk (l : List DGive) : List DGive → List DCol → Bool
 | g :: gs, c :: cs => cond (asksG g && !hasFrom l c.1) false (chAsk l gs cs)
 | _, _ => true
def chained (a b : DRule) (mid : List DCol) : DRule × Bool := match chGo a mid b.2.2 [] with
 | none => (zRule, false)
 | some gs => if chAsk b.2.2 a.2.2 mid = true then ((a.1, b.2.1, gs), true) else (zRule, false)
def chainGo (mid : List DForm) (a b : List DRule) : List DForm → List DRule → List DRule × Int
 | [], acc => (acc, 0)
 | f :: fs, acc =>
   let x := (ruleOf a f.1).1
   let c := chained x (ruleOf b x.2.1).1 (colsOf mid x.2.1)
   if c.2 = true then chainGo mid a b fs (acc ++ [c.1]) else ([], 5)
def chain (l1 l2 l3 : List DForm) (a b : List DRule) : List DRule × Int :=
 if ¬ first [checkForms l1, checkForms l2, checkForms l3] = 0 then ([], first [checkForms l1, checkForms l2, checkForms l3])
 else if ¬ first [checkRules0 l1 l2 a, checkRules0 l2 l3 b] = 0 then ([], first [checkRules0 l1 l2 a, checkRules0 l2 l3 b])
 else chainGo l2 a b l1 []
end S
end Go.Proofs.Ytcnhjofpmpipfaa
end
end
noncomputable section
set_option maxRecDepth 100000
namespace Go.Proofs.Ytcnhjofpmpipfaa
open Go Go.Sx Go.RowKit Go.Jx
structure ColsOK (cs : List DCol) : Prop where
 len : cs.length ≤ 30
 small : ∀ c ∈ cs, S.small c.1 = true
 one : ∀ k (h : k < cs.length), S.col (cs.take k) cs[k].1 < 0
 kind : ∀ c ∈ cs, 1 ≤ c.2.1 ∧ c.2.1 ≤ 3
 bare : ∀ c ∈ cs, ¬ c.2.1 = 3 → c.2.2 = S.lit []
structure FormsOK (l : List DForm) : Prop where
 len : l.length ≤ 24
 cls : ∀ f ∈ l, S.class_ f.1 = true
 one : ∀ k (h : k < l.length), S.form (l.take k) l[k].1 < 0
 cols : ∀ f ∈ l, ColsOK f.2
 ref : ∀ f ∈ l, ∀ c ∈ f.2, c.2.1 = 3 → c.2.2 = S.ANY ∨ 0 ≤ S.form l c.2.2
theorem drop_facts {α : Type} {l : List α} {k : Nat} {r : α} {rs : List α} (hd : l.drop k = r :: rs) : ∃ h : k < l.length, l[k] = r ∧ l.drop (k + 1) = rs := by
 have hk : k < l.length := by
   rcases Nat.lt_or_ge k l.length with h | h
   · exact h
   · rw [List.drop_eq_nil_of_le h] at hd; cases hd
 rw [List.drop_eq_getElem_cons hk] at hd
 exact ⟨hk, (List.cons.inj hd).1, (List.cons.inj hd).2⟩
theorem lw_ccGo (l : List DCol) : ∀ (cs : List DCol) (k : Nat), l.drop k = cs → S.ccGo l k cs = 0 → ∀ j (h : j < l.length), k ≤ j → S.small l[j].1 = true ∧ S.col (l.take j) l[j].1 < 0 ∧ S.within l[j].2.1 1 3 = true ∧ (¬ l[j].2.1 = 3 → l[j].2.2 = S.lit [])
 | [], k, hd, _ => fun j hj hk => by
   have : l.length ≤ k := by simpa using hd
   omega
 | c :: r, k, hd, h => by
   obtain ⟨hk, e1, e2⟩ := drop_facts hd
   rw [S.ccGo] at h
   cases h1 : S.small c.1 with
   | false => rw [if_pos h1] at h; exact absurd h (by decide)
   | true =>
   rw [if_neg (by simp [h1])] at h
   by_cases h2 : ¬ S.col (l.take k) c.1 < 0
   · rw [if_pos h2] at h; exact absurd h (by decide)
   rw [if_neg h2] at h
   cases h3 : S.within c.2.1 1 3 with
   | false => rw [if_pos h3] at h; exact absurd h (by decide)
   | true =>
   rw [if_neg (by simp [h3])] at h
   by_cases h4 : ¬ c.2.1 = 3 ∧ ¬ c.2.2 = S.lit []
   · rw [if_pos h4] at h; exact absurd h (by decide)
   rw [if_neg h4] at h
   intro j hj hkj
   by_cases e : j = k
   · subst e
     rw [e1]
     exact ⟨h1, Decidable.not_not.1 h2, h3, fun hn => Decidable.not_not.1 fun hh => h4 ⟨hn, hh⟩⟩
   · exact lw_ccGo l r (k + 1) e2 h j hj (by omega)
theorem colsOK {l : List DCol} (h : S.checkCols l = 0) : ColsOK l := by
 unfold S.checkCols at h
 by_cases h30 : 30 < l.length
 · rw [if_pos h30] at h; exact absurd h (by decide)
 rw [if_neg h30] at h
 have key := lw_ccGo l l 0 rfl h
 refine ⟨by omega, fun c hc => ?_, fun k hk => (key k hk (Nat.zero_le _)).2.1, fun c hc => ?_, fun c hc => ?_⟩
 all_goals
   obtain ⟨k, hk, rfl⟩ := List.mem_iff_getElem.1 hc
 · exact (key k hk (Nat.zero_le _)).1
 · simpa only [S.within, Bool.and_eq_true, decide_eq_true_eq] using (key k hk (Nat.zero_le _)).2.2.1
 · exact (key k hk (Nat.zero_le _)).2.2.2
theorem lw_cfGo2 (l : List DForm) : ∀ fs : List DForm, S.cfGo2 l fs = 0 → ∀ f ∈ fs, S.cfIn l f.2 = true
 | [], _ => fun f hf => absurd hf (by simp)
 | f :: r, h => by
   rw [S.cfGo2] at h
   by_cases hc : S.cfIn l f.2 = true
   · rw [if_pos hc] at h
     intro x hx
     rcases List.mem_cons.1 hx with e | e
     · rw [e]; exact hc
     · exact lw_cfGo2 l r h x e
   · rw [if_neg hc] at h; exact absurd h (by decide)
theorem lw_first3 {a b c : Int} (h : S.first [a, b, c] = 0) : a = 0 ∧ b = 0 ∧ c = 0 := by
 simp only [S.first] at h
 by_cases ha : a = 0
 · rw [if_pos ha] at h
   by_cases hb : b = 0
   · rw [if_pos hb] at h
     by_cases hc : c = 0
     · exact ⟨ha, hb, hc⟩
     · rw [if_neg hc] at h; exact absurd h hc
   · rw [if_neg hb] at h; exact absurd h hb
 · rw [if_neg ha] at h; exact absurd h ha
theorem lw_unless {x : Bool} {e : Int} (he : ¬ e = 0) (h : S.unlessE x e = 0) : x = true := by
 cases x with
 | true => rfl
 | false => exact absurd h he
theorem lw_cfGo (l : List DForm) : ∀ (fs : List DForm) (k : Nat), l.drop k = fs → S.cfGo l k fs = 0 → (∀ j (h : j < l.length), k ≤ j → S.class_ l[j].1 = true ∧ S.form (l.take j) l[j].1 < 0 ∧ S.checkCols l[j].2 = 0) ∧ S.cfGo2 l l = 0
 | [], k, hd, h => ⟨fun j hj hk => by
   have : l.length ≤ k := by simpa using hd
   omega, h⟩
 | f :: r, k, hd, h => by
   obtain ⟨hk, e1, e2⟩ := drop_facts hd
   rw [S.cfGo] at h
   by_cases he : S.first [S.unlessE (S.class_ f.1) 4, S.unlessE (decide (S.form (l.take k) f.1 < 0)) 6, S.checkCols f.2] = 0
   · rw [if_pos he] at h
     obtain ⟨q1, q2, q3⟩ := lw_first3 he
     have ih := lw_cfGo l r (k + 1) e2 h
     refine ⟨fun j hj hkj => ?_, ih.2⟩
     by_cases e : j = k
     · subst e; rw [e1]; exact ⟨lw_unless (by decide) q1, of_decide_eq_true (lw_unless (by decide) q2), q3⟩
     · exact ih.1 j hj (by omega)
   · rw [if_neg he] at h; exact absurd h he
theorem lw_cfIn (l : List DForm) : ∀ cs : List DCol, S.cfIn l cs = true → ∀ c ∈ cs, c.2.1 = 3 → c.2.2 = S.ANY ∨ 0 ≤ S.form l c.2.2
 | [], _ => fun c hc => absurd hc (by simp)
 | c :: r, h => by
   rw [S.cfIn] at h
   by_cases hc : c.2.1 = 3 ∧ ¬ c.2.2 = S.ANY ∧ S.form l c.2.2 < 0
   · rw [if_pos hc] at h; cases h
   · rw [if_neg hc] at h
     intro x hx h3
     rcases List.mem_cons.1 hx with e | e
     · rw [e] at h3 ⊢
       by_cases hA : c.2.2 = S.ANY
       · exact .inl hA
       · exact .inr (by have : ¬ S.form l c.2.2 < 0 := fun hh => hc ⟨h3, hA, hh⟩; omega)
     · exact lw_cfIn l r h x e h3
theorem formsOK {l : List DForm} (h : S.checkForms l = 0) : FormsOK l := by
 unfold S.checkForms at h
 by_cases h24 : 24 < l.length
 · rw [if_pos h24] at h; exact absurd h (by decide)
 rw [if_neg h24] at h
 obtain ⟨k1, k2⟩ := lw_cfGo l l 0 rfl h
 have k3 := lw_cfGo2 l l k2
 refine ⟨by omega, fun f hf => ?_, fun k hk => (k1 k hk (Nat.zero_le _)).2.1, fun f hf => ?_, fun f hf => lw_cfIn l f.2 (k3 f hf)⟩
 all_goals
   obtain ⟨k, hk, rfl⟩ := List.mem_iff_getElem.1 hf
 · exact (k1 k hk (Nat.zero_le _)).1
 · exact colsOK (k1 k hk (Nat.zero_le _)).2.2
theorem value_iff {many : Nat} (h : many ≤ 400) (v : DVal) : S.value v (Int.ofNat many) = true ↔ (v.1 = 1 ∧ -1099511627776 ≤ v.2 ∧ v.2 ≤ 1099511627776) ∨ (v.1 = 2 ∧ 0 ≤ v.2 ∧ v.2 ≤ 1) ∨ (v.1 = 3 ∧ v.2 = 0) ∨ (v.1 = 4 ∧ 0 ≤ v.2 ∧ v.2 < many) := by
 have hw : IntKind.i64.wrap (Int.sub (Int.ofNat many) (Int.ofNat 1)) = (many : Int) - 1 := by
   have : Int.sub (Int.ofNat many) (Int.ofNat 1) = (many : Int) - 1 := rfl
   rw [this]
   exact wrap64_in (by omega)
 unfold S.value
 rw [hw]
 simp only [S.within]
 by_cases h1 : v.1 = 1
 · simp [h1]
 by_cases h2 : v.1 = 2
 · simp [h2]
 by_cases h3 : v.1 = 3
 · simp [h3]
 by_cases h4 : v.1 = 4
 · simp [h4]; omega
 simp [h1, h2, h3, h4]
theorem formed_of {g : DGraph} (h1 : g.1.length ≤ 400) (h2 : g.2.length ≤ 60) (h3 : ∀ n ∈ g.1, n.2.length ≤ 30) (h4 : ∀ n ∈ g.1, ∀ v ∈ n.2, S.value v (Int.ofNat g.1.length) = true) (h5 : ∀ v ∈ g.2, S.value v (Int.ofNat g.1.length) = true ∧ S.refers v = true) : S.formed g = 0 := by
 unfold S.formed
 rw [if_neg (by omega), if_neg, if_neg, if_neg]
 · simp only [List.any_eq_true, not_exists, not_and, Bool.or_eq_true, Bool.not_eq_true', not_or, Bool.not_eq_false]
   exact fun v hv => h5 v hv
 · simp only [List.any_eq_true, not_exists, not_and, Bool.not_eq_true', Bool.not_eq_false]
   exact fun n hn v hv => h4 n hn v hv
 · simp only [List.any_eq_true, not_exists, not_and, decide_eq_true_eq]
   exact fun n hn => by have := h3 n hn; omega
end Go.Proofs.Ytcnhjofpmpipfaa
end
section
noncomputable section
namespace Go.Proofs.Ytcnhjofpmpipfaa
open Go Go.Sx Go.RowKit Go.Jx
namespace S
open Go.Jx.S
def bkGo (l : List DRule) (was now : List DCol) : List DGive → Nat → List DGive → Option (List DGive)
 | [], _, acc => some acc
 | g :: gs, i, acc =>
   if ¬ g.2.1 = 1 then none
   else if ¬ (at_ zGive acc (col was g.1)).2.1 = 0 then none
   else if keeps l (at_ zCol was (col was g.1)) (at_ zCol now i) = false then none
   else bkGo l was now gs (i + 1) (acc.set (col was g.1).toNat ((at_ zCol now i).1, 1, 0))
def back (l : List DRule) (r : DRule) (was now : List DCol) : DRule × Bool :=
 if ¬ was.length = now.length then (zRule, false)
 else match bkGo l was now r.2.2 0 (rep was.length zGive) with
   | none => (zRule, false)
   | some gs => ((r.2.1, r.1, gs), true)
end S
end Go.Proofs.Ytcnhjofpmpipfaa
end
end
noncomputable section
set_option maxRecDepth 100000
namespace Go.Proofs.Ytcnhjofpmpipfaa
open Go Go.Sx Go.RowKit Go.Jx
theorem nodup_le {α : Type} [DecidableEq α] : ∀ (N M : List α), N.Nodup → (∀ x ∈ N, x ∈ M) → N.length ≤ M.length
 | [], M, _, _ => Nat.zero_le _
 | x :: N, M, hN, hs => by
   rw [List.nodup_cons] at hN
   have hx := hs x List.mem_cons_self
   have ih := nodup_le N (M.erase x) hN.2 fun y hy => (List.mem_erase_of_ne (fun e : y = x => hN.1 (by rw [← e]; exact hy))).2 (hs y (List.mem_cons_of_mem _ hy))
   rw [List.length_erase_of_mem hx] at ih
   have : 0 < M.length := List.length_pos_of_mem hx
   simp only [List.length_cons]
   omega
structure Und (A B : List DForm) (l : List DRule) (r q : DRule) : Prop where
 cls : q.1 = r.2.1
 to : q.2.1 = r.1
 n1 : r.2.2.length = (S.colsOf A r.1).length
 n2 : r.2.2.length = (S.colsOf B r.2.1).length
 n3 : q.2.2.length = r.2.2.length
 how : ∀ i (h : i < r.2.2.length), r.2.2[i].2.1 = 1
 fwd : ∀ i (h : i < r.2.2.length), ∃ (k : Nat) (h1 : k < (S.colsOf A r.1).length) (h2 : k < q.2.2.length) (h3 : i < (S.colsOf B r.2.1).length), S.col (S.colsOf A r.1) r.2.2[i].1 = k ∧ q.2.2[k] = ((S.colsOf B r.2.1)[i].1, 1, 0) ∧ S.keeps l (S.colsOf A r.1)[k] (S.colsOf B r.2.1)[i] = true
 bwd : ∀ k (h : k < (S.colsOf A r.1).length), ∃ (i : Nat) (h1 : i < r.2.2.length), S.col (S.colsOf A r.1) r.2.2[i].1 = k
structure BackOK (A B : List DForm) (l b : List DRule) : Prop where
 fa : FormsOK A
 fb : FormsOK B
 ca : S.checkForms A = 0
 cb : S.checkForms B = 0
 ra : RulesOK A B l
 len : b.length = l.length
 lenB : b.length = B.length
 cls : ∀ k (h : k < B.length) (h' : k < b.length), b[k].1 = B[k].1
 und : ∀ q ∈ b, ∃ r ∈ l, Und A B l r q
 inj : ∀ r ∈ l, ∀ r' ∈ l, r.2.1 = r'.2.1 → r = r'
section
variable {A B : List DForm} {l b : List DRule}
end
structure GF (g : DGraph) : Prop where
 nodes : List.length (α := DNode) (g : List DNode × List DVal).1 ≤ 400
 roots : List.length (α := DVal) (g : List DNode × List DVal).2 ≤ 60
 vals : ∀ n ∈ (g : List DNode × List DVal).1, List.length (α := DVal) (n : ByteArray × List DVal).2 ≤ 30
 ref : ∀ n ∈ (g : List DNode × List DVal).1, ∀ k ∈ S.refsL (n : ByteArray × List DVal).2, 0 ≤ k ∧ k < Int.ofNat (List.length (α := DNode) (g : List DNode × List DVal).1)
 rref : ∀ k ∈ S.refsL (g : List DNode × List DVal).2, 0 ≤ k ∧ k < Int.ofNat (List.length (α := DNode) (g : List DNode × List DVal).1)
theorem refsL_len : ∀ l : List (Int × Int), (S.refsL l).length ≤ l.length
 | [] => Nat.le_refl _
 | v :: l => by
   have := refsL_len l
   simp only [S.refsL]
   split <;> simp <;> omega
structure OrdOK (nd : List DNode) (o : List Int) : Prop where
 nodup : o.Nodup
 lt : ∀ k ∈ o, 0 ≤ k ∧ k < Int.ofNat nd.length
theorem OrdOK.len {nd : List DNode} {o : List Int} (h : OrdOK nd o) : o.length ≤ nd.length := by
 have := nodup_le o ((List.range nd.length).map Int.ofNat) h.nodup fun k hk => by
   obtain ⟨h1, h2⟩ := h.lt k hk
   refine List.mem_map.2 ⟨k.toNat, List.mem_range.2 ?_, ?_⟩
   · have : (k.toNat : Int) = k := Int.toNat_of_nonneg h1
     have h2 : k < (nd.length : Int) := h2
     omega
   · exact Int.toNat_of_nonneg h1
 simpa using this
theorem OrdOK.meet {nd : List DNode} {o l : List Int} (h : OrdOK nd o) (hl : ∀ k ∈ l, 0 ≤ k ∧ k < Int.ofNat nd.length) : OrdOK nd (S.meetL o l) :=
 ⟨meetL_nodup l o h.nodup, fun k hk => by
   rcases (meetL_mem l o k).1 hk with h1 | h1
   · exact h.lt k h1
   · exact hl k h1⟩
def S.walk (nd : List DNode) : Nat → List Int → Nat → List Int
 | 0, o, _ => o
 | f + 1, o, i => match o[i]? with
   | none => o
   | some k => match jget nd k with
     | none => o
     | some v => S.walk nd f (S.meetL o (S.refsL (v : ByteArray × List DVal).2)) (i + 1)
theorem walk_loop {g : DGraph} (hg : GF g) (L12 : ((List (Int × Int)) × (List Int) × Int × (List DNode)) → Option Rtz34) : ∀ (f n i : Nat) (o : List Int), OrdOK (g : List DNode × List DVal).1 o → i ≤ o.length →
   List.length (α := DNode) (g : List DNode × List DVal).1 - i < f → List.length (α := DNode) (g : List DNode × List DVal).1 - i < n →
   rounds (fun K p => Rz34_7 LF g L12 K p) n (S.tab o, o, Int.ofNat i) = L12 (S.tab (S.walk (g : List DNode × List DVal).1 f o i), S.walk (g : List DNode × List DVal).1 f o i, Int.ofNat 0, []) ∧ OrdOK (g : List DNode × List DVal).1 (S.walk (g : List DNode × List DVal).1 f o i)
 | 0, n, i, o, ho, hi, hf, hn => by omega
 | f + 1, 0, i, o, ho, hi, hf, hn => by omega
 | f + 1, n + 1, i, o, ho, hi, hf, hn => by
   have hlen := ho.len
   show Rz34_7 LF g L12 (rounds (fun K p => Rz34_7 LF g L12 K p) n) (S.tab o, o, Int.ofNat i) = _ ∧ _
   by_cases he : i = o.length
   · have h1 : ieqI (Int.ofNat i) (Int.ofNat (List.length o)) = true := by rw [ieqI_eq, he]; exact decide_eq_true rfl
     have h2 : o[i]? = none := List.getElem?_eq_none (by omega)
     simp only [Rz34_7, h1, cond_true, S.walk, h2]
     exact ⟨trivial, ho⟩
   · have hlt : i < o.length := by omega
     have h1 : ieqI (Int.ofNat i) (Int.ofNat (List.length o)) = false := by rw [ieqI_eq]; exact decide_eq_false (fun e => he (Int.ofNat.inj e))
     have h2 : o[i]? = some o[i] := List.getElem?_eq_getElem hlt
     have h3 : jget o (Int.ofNat i) = some o[i] := by rw [jget_nat]; exact h2
     obtain ⟨k1, k2⟩ := ho.lt o[i] (List.getElem_mem hlt)
     obtain ⟨v, v1, v2, v3⟩ := jget_of (l := (g : List DNode × List DVal).1) k1 k2
     have e1 : Int.toNat (Int.ofNat i) = i := rfl
     have hr := hg.ref v v3
     have hv := hg.vals v v3
     have hn4 := hg.nodes
     have hm := meetN_tab (S.refsL (v : ByteArray × List DVal).2) o (by
       have := refsL_len (v : ByteArray × List DVal).2
       have hv : List.length (α := Int × Int) (v : ByteArray × List DVal).2 ≤ 30 := hv
       omega)
     have hw : IntKind.i64.wrap (Int.add (Int.ofNat i) (Int.ofNat 1)) = Int.ofNat (i + 1) := wrap_succ (by unfold LF; omega)
     have hnext := walk_loop hg L12 f n (i + 1) (S.meetL o (S.refsL (v : ByteArray × List DVal).2)) (ho.meet hr) (by have := meetL_len (S.refsL (v : ByteArray × List DVal).2) o; omega) (by omega) (by omega)
     simp only [Rz34_7, h1, cond_false, h3, e1, h2, v1, hm, hw, S.walk]
     exact hnext
def S.nodeAt (nd : List DNode) (k : Int) : DNode := (jget nd k).getD ((ByteArray.empty, []) : ByteArray × List DVal)
def S.newNode (nd : List DNode) (es : List (Int × Int)) (k : Int) : DNode := (((S.nodeAt nd k : ByteArray × List DVal).1, S.movedL es (S.nodeAt nd k : ByteArray × List DVal).2) : ByteArray × List DVal)
def S.numOr (es : List (Int × Int)) (k : Int) : Int := (S.numAt es k).getD (-1)
theorem canon_loop2 (g : DGraph) (es : List (Int × Int)) (o : List Int) (L18 : ((List (Int × Int)) × (List DNode) × Int × (List Int)) → Option Rtz34) (hl : o.length * 40 ≤ 140737488355328)
   (ho : ∀ k ∈ o, 0 ≤ k ∧ k < Int.ofNat (List.length (α := DNode) (g : List DNode × List DVal).1)) :
   rounds (fun K p => Rz34_12 LF g K L18 p) LF (es, o, Int.ofNat 0, []) = L18 (es, o.map (S.newNode (g : List DNode × List DVal).1 es), Int.ofNat 0, []) := by
 refine (range0 (R := Rtz34) (σ := List DNode) o (fun k s => (es, o, k, s)) (fun k s => s.length = k) (fun rest k s => L18 (es, s ++ rest.map (S.newNode (g : List DNode × List DVal).1 es), Int.ofNat 0, [])) (by unfold LF; omega) (fun K s hI => ?_) (fun K i v rest s hI r hk => ?_) [] rfl).trans ?_
 · simp only [Rz34_12, ils, cond_false, List.map_nil, List.append_nil]
 · obtain ⟨k1, k2⟩ := ho v r.mem
   obtain ⟨n, n1, n2, n3⟩ := jget_of (l := (g : List DNode × List DVal).1) k1 k2
   have e1 : Int.toNat (Int.ofNat i) = i := rfl
   have hlt := r.lt
   have hb : Nat.ble (Nat.mul (Nat.add s.length 1) 40) 140737488355328 = true := Nat.ble_eq_true_of_le (by show (s.length + 1) * 40 ≤ _; rw [hI]; omega)
   simp only [Rz34_12, r.ilt, cond_true, r.get, e1, r.get?, n1, hb, r.next]
   have hnew : S.newNode (g : List DNode × List DVal).1 es v = (((n : ByteArray × List DVal).1, S.movedL es (n : ByteArray × List DVal).2) : ByteArray × List DVal) := by
     unfold S.newNode S.nodeAt; rw [n1]; rfl
   have := hk (s ++ [S.newNode (g : List DNode × List DVal).1 es v]) (by rw [List.length_append, hI]; rfl)
   rw [hnew] at this
   refine Eq.trans this ?_
   rw [List.map_cons, hnew]
   congr 2
   simp
 · rfl
theorem canon_loop3 (g : DGraph) (es : List (Int × Int)) (acc : List DNode) (hl : List.length (α := DNode) (g : List DNode × List DVal).1 ≤ 400) :
   rounds (fun K p => Rz34_18 LF g K p) LF (es, acc, Int.ofNat 0, []) = some (((acc, S.movedL es (g : List DNode × List DVal).2) : List DNode × List DVal), (((List.range (List.length (α := DNode) (g : List DNode × List DVal).1)).map fun k => S.numOr es (Int.ofNat k)), ())) := by
 have hlf : List.length (α := DNode) (g : List DNode × List DVal).1 < LF := by unfold LF; omega
 refine (range0 (R := Rtz34) (σ := List Int) (α := DNode) (g : List DNode × List DVal).1 (fun k s => (es, acc, k, s)) (fun k s => s = (List.range k).map fun j => S.numOr es (Int.ofNat j))
   (fun _ _ _ => some (((acc, S.movedL es (g : List DNode × List DVal).2) : List DNode × List DVal), (((List.range (List.length (α := DNode) (g : List DNode × List DVal).1)).map fun k => S.numOr es (Int.ofNat k)), ()))) hlf (fun K s hI => ?_) (fun K i v rest s hI r hk => ?_) [] rfl)
 · simp only [Rz34_18, ils, cond_false]
   rw [hI]
 · have hlt := r.lt
   have hb : Nat.ble (Nat.mul (Nat.add s.length 1) 8) 140737488355328 = true := Nat.ble_eq_true_of_le (by show (s.length + 1) * 8 ≤ _; rw [hI]; simp; omega)
   have hs : ∀ q, q = S.numOr es (Int.ofNat i) → s.append [q] = (List.range (i + 1)).map fun j => S.numOr es (Int.ofNat j) := fun q hq => by
     rw [hI, List.range_succ, List.map_append, hq]; rfl
   have hn : S.numAt es (Int.ofNat i) = @mfind (TC.int .i64) (TC.int .i64) (Int.ofNat i) es := rfl
   simp only [Rz34_18, r.ilt, cond_true, hb, r.next]
   cases hm : @mfind (TC.int .i64) (TC.int .i64) (Int.ofNat i) es with
   | none =>
     simp only [Bool.not_false, cond_true]
     exact hk _ (hs _ (by unfold S.numOr; rw [hn, hm]; rfl))
   | some q =>
     simp only [Bool.not_true, cond_false]
     exact hk _ (hs _ (by unfold S.numOr; rw [hn, hm]; rfl))
def S.ord (g : DGraph) : List Int := S.walk (g : List DNode × List DVal).1 (List.length (α := DNode) (g : List DNode × List DVal).1 + 1) (S.meetL [] (S.refsL (g : List DNode × List DVal).2)) 0
def S.canonG (g : DGraph) : DGraph := (((S.ord g).map (S.newNode (g : List DNode × List DVal).1 (S.tab (S.ord g))), S.movedL (S.tab (S.ord g)) (g : List DNode × List DVal).2) : List DNode × List DVal)
def S.numsG (g : DGraph) : List Int := (List.range (List.length (α := DNode) (g : List DNode × List DVal).1)).map fun k => S.numOr (S.tab (S.ord g)) (Int.ofNat k)
theorem canon_ok {g : DGraph} (hg : GF g) : S.canonO g = some (S.canonG g, S.numsG g, ()) ∧ OrdOK (g : List DNode × List DVal).1 (S.ord g) := by
 have h60 : (S.refsL (g : List DNode × List DVal).2).length ≤ 60 := Nat.le_trans (refsL_len _) hg.roots
 have hm := meetN_tab (S.refsL (g : List DNode × List DVal).2) [] (by simp; omega)
 have ho0 : OrdOK (g : List DNode × List DVal).1 (S.meetL [] (S.refsL (g : List DNode × List DVal).2)) := OrdOK.meet ⟨List.nodup_nil, fun k hk => by cases hk⟩ hg.rref
 obtain ⟨w1, w2⟩ := walk_loop hg (fun q => Gz34_12 LF g LF q) (List.length (α := DNode) (g : List DNode × List DVal).1 + 1) LF 0 _ ho0 (Nat.zero_le _) (by omega) (by have := hg.nodes; unfold LF; omega)
 refine ⟨?_, w2⟩
 have hol := w2.len
 have hn4 := hg.nodes
 have hl40 : (S.ord g).length * 40 ≤ 140737488355328 := by
   have : (S.ord g).length ≤ List.length (α := DNode) (g : List DNode × List DVal).1 := hol
   omega
 have e2 := canon_loop2 g (S.tab (S.ord g)) (S.ord g) (fun q => Gz34_18 LF g LF q) hl40 w2.lt
 have e3 := canon_loop3 g (S.tab (S.ord g)) ((S.ord g).map (S.newNode (g : List DNode × List DVal).1 (S.tab (S.ord g)))) hg.nodes
 have hm : S.meetN (S.refsL (g : List DNode × List DVal).2) [] [] = some (S.tab (S.meetL [] (S.refsL (g : List DNode × List DVal).2)), S.meetL [] (S.refsL (g : List DNode × List DVal).2)) := hm
 simp only [S.canonO, Fz34, Rz34_in, hm]
 exact w1.trans (e2.trans e3)
def S.mvV (π : Int → Int) (v : Int × Int) : Int × Int := if v.1 = 4 then (v.1, π v.2) else v
def S.piO (o : List Int) (k : Int) : Int := Int.ofNat (o.idxOf k)
theorem movedL_pi {o : List Int} : ∀ (l : List (Int × Int)), (∀ k ∈ S.refsL l, k ∈ o) → S.movedL (S.tab o) l = l.map (S.mvV (S.piO o))
 | [], _ => rfl
 | v :: l, hl => by
   have hl2 : ∀ k ∈ S.refsL l, k ∈ o := fun a ha => hl a (by
     simp only [S.refsL]; split
     · exact List.mem_cons_of_mem _ ha
     · exact ha)
   show S.movedV (S.tab o) v :: S.movedL (S.tab o) l = S.mvV (S.piO o) v :: l.map (S.mvV (S.piO o))
   rw [movedL_pi l hl2]
   congr 1
   unfold S.movedV S.mvV
   by_cases h : v.1 = 4
   · have hm : v.2 ∈ o := hl v.2 (by simp only [S.refsL, if_pos h]; exact List.mem_cons_self)
     show (if v.1 = 4 then (v.1, (S.numAt (S.tab o) v.2).getD 0) else v) = _
     rw [if_pos h, if_pos h, numAt_tab, if_pos hm]; rfl
   · show (if v.1 = 4 then (v.1, (S.numAt (S.tab o) v.2).getD 0) else v) = _
     rw [if_neg h, if_neg h]
theorem refs_val {many : Nat} (h : many ≤ 400) : ∀ (l : List (Int × Int)), (∀ v ∈ l, S.value v (Int.ofNat many) = true) → ∀ k ∈ S.refsL l, 0 ≤ k ∧ k < Int.ofNat many
 | [], _, k, hk => by cases hk
 | v :: l, hv, k, hk => by
   have ih := refs_val h l fun w hw => hv w (List.mem_cons_of_mem _ hw)
   simp only [S.refsL] at hk
   split at hk
   · rename_i h4
     rcases List.mem_cons.1 hk with h1 | h1
     · subst h1
       rcases (value_iff h v).1 (hv v List.mem_cons_self) with ⟨e, _⟩ | ⟨e, _⟩ | ⟨e, _⟩ | ⟨e, a, b⟩
       · have e : v.1 = 1 := e
         omega
       · have e : v.1 = 2 := e
         omega
       · have e : v.1 = 3 := e
         omega
       · exact ⟨a, b⟩
     · exact ih k h1
   · exact ih k hk
theorem gf_of {g : DGraph} (h : S.formed g = 0) : GF g := by
 obtain ⟨f1, f2, f3, f4, f5⟩ := formed_zero h
 exact ⟨f1, f2, f3, fun n hn => refs_val f1 _ (f4 n hn), refs_val f1 _ fun v hv => (f5 v hv).1⟩
theorem jget_some {α : Type} {l : List α} {k : Int} {v : α} (h : jget l k = some v) : 0 ≤ k ∧ ∃ hi : k.toNat < l.length, l[k.toNat] = v := by
 unfold jget at h
 split at h
 · rename_i h0
   obtain ⟨hi, e⟩ := List.getElem?_eq_some_iff.1 h
   exact ⟨h0, hi, e⟩
 · cases h
def Closed (nd : List DNode) (o : List Int) : Prop := ∀ a ∈ o, ∀ k ∈ S.refsL (S.nodeAt nd a : ByteArray × List DVal).2, k ∈ o
theorem walk_closed {y : List DNode × List DVal} (hg : GF y) : ∀ (f : Nat) (o : List Int) (i : Nat), OrdOK y.1 o → i ≤ o.length → y.1.length - i < f → (∀ j (h : j < o.length), j < i → ∀ k ∈ S.refsL (S.nodeAt y.1 o[j] : ByteArray × List DVal).2, k ∈ o) →
   OrdOK y.1 (S.walk y.1 f o i) ∧ Closed y.1 (S.walk y.1 f o i) ∧ ∀ k ∈ o, k ∈ S.walk y.1 f o i
 | 0, _, _, _, _, h, _ => by omega
 | f + 1, o, i, ho, hi, h1, hc => by
   simp only [S.walk]
   cases hk : o[i]? with
   | none =>
     have hie : o.length ≤ i := List.getElem?_eq_none_iff.1 hk
     refine ⟨ho, fun a ha k hk2 => ?_, fun k hk => hk⟩
     obtain ⟨j, hj, rfl⟩ := List.mem_iff_getElem.1 ha
     exact hc j hj (Nat.lt_of_lt_of_le hj hie) k hk2
   | some k =>
     obtain ⟨hi, hik⟩ := List.getElem?_eq_some_iff.1 hk
     have hlen := ho.len
     obtain ⟨k1, k2⟩ := ho.lt k (List.mem_of_getElem? hk)
     obtain ⟨v, v1, v2, v3⟩ := jget_of (l := y.1) k1 k2
     simp only [v1]
     have hnv : S.nodeAt y.1 k = v := by unfold S.nodeAt; rw [v1]; rfl
     obtain ⟨t, ht⟩ := meetL_pre (S.refsL (v : ByteArray × List DVal).2) o
     have hl2 := meetL_len (S.refsL (v : ByteArray × List DVal).2) o
     obtain ⟨r1, r2, r3⟩ := walk_closed hg f (S.meetL o (S.refsL (v : ByteArray × List DVal).2)) (i + 1) (ho.meet (hg.ref v v3)) (by omega) (by omega) fun j hj hji k' hk' => by
       have hjo : j < o.length := by omega
       have e : (S.meetL o (S.refsL (v : ByteArray × List DVal).2))[j] = o[j] := by
         simp only [ht]
         exact List.getElem_append_left hjo
       rw [e] at hk'
       refine (meetL_mem _ _ _).2 ?_
       by_cases hje : j < i
       · exact .inl (hc j hjo hje k' hk')
       · have : j = i := by omega
         subst this
         rw [hik, hnv] at hk'
         exact .inr hk'
     exact ⟨r1, r2, fun a ha => r3 a ((meetL_mem _ _ _).2 (.inl ha))⟩
theorem ord_closed {y : List DNode × List DVal} (hg : GF y) : OrdOK y.1 (S.ord y) ∧ Closed y.1 (S.ord y) ∧ ∀ k ∈ S.refsL y.2, k ∈ S.ord y := by
 have ho : OrdOK y.1 (S.meetL [] (S.refsL y.2)) := ⟨meetL_nodup _ _ List.nodup_nil, fun a ha => by
   rcases (meetL_mem _ _ a).1 ha with h1 | h1
   · cases h1
   · exact hg.rref a h1⟩
 obtain ⟨r1, r2, r3⟩ := walk_closed hg (y.1.length + 1) (S.meetL [] (S.refsL y.2)) 0 ho (Nat.zero_le _) (by omega) (fun j h h' => by omega)
 exact ⟨r1, r2, fun k hk => r3 k ((meetL_mem _ _ _).2 (.inr hk))⟩
theorem mvV_kind (π : Int → Int) (v : Int × Int) : (S.mvV π v).1 = v.1 := by
 unfold S.mvV
 split <;> rfl
theorem value_mv2 {n m : Nat} (h : n ≤ 400) (h' : m ≤ 400) {π : Int → Int} (v : Int × Int) (hb : v.1 = 4 → 0 ≤ π v.2 ∧ π v.2 < Int.ofNat m) (hv : S.value v (Int.ofNat n) = true) : S.value (S.mvV π v) (Int.ofNat m) = true := by
 unfold S.mvV
 by_cases h4 : v.1 = 4
 · rw [if_pos h4]
   exact (value_iff h' _).2 (.inr (.inr (.inr ⟨h4, hb h4⟩)))
 · rw [if_neg h4]
   rcases (value_iff h v).1 hv with e | e | e | ⟨e, _⟩
   · exact (value_iff h' _).2 (.inl e)
   · exact (value_iff h' _).2 (.inr (.inl e))
   · exact (value_iff h' _).2 (.inr (.inr (.inl e)))
   · exact absurd e h4
theorem refsL_mem {l : List (Int × Int)} {v : Int × Int} (hv : v ∈ l) (h4 : v.1 = 4) : v.2 ∈ S.refsL l := by
 induction l with
 | nil => cases hv
 | cons w l ih =>
   simp only [S.refsL]
   rcases List.mem_cons.1 hv with rfl | hv
   · rw [if_pos h4]; exact List.mem_cons_self
   · split
     · exact List.mem_cons_of_mem _ (ih hv)
     · exact ih hv
theorem canon_mem {x : List DNode × List DVal} (hg : GF x) {m : ByteArray × List DVal} (hm : m ∈ (S.canonG x : List DNode × List DVal).1) : ∃ a ∈ S.ord x, ∃ w : ByteArray × List DVal, jget x.1 a = some w ∧ w ∈ x.1 ∧ (∀ k ∈ S.refsL w.2, k ∈ S.ord x) ∧ m = (w.1, w.2.map (S.mvV (S.piO (S.ord x)))) := by
 obtain ⟨ho, hc, hr⟩ := ord_closed hg
 obtain ⟨a, ha, rfl⟩ := List.mem_map.1 (show m ∈ (S.ord x).map (S.newNode x.1 (S.tab (S.ord x))) from hm)
 obtain ⟨k1, k2⟩ := ho.lt a ha
 obtain ⟨w, w1, w2, w3⟩ := jget_of (l := x.1) k1 k2
 have hnw : S.nodeAt x.1 a = w := by unfold S.nodeAt; rw [w1]; rfl
 have hcl := hc a ha
 rw [hnw] at hcl
 refine ⟨a, ha, w, w1, w3, hcl, ?_⟩
 unfold S.newNode
 rw [hnw, movedL_pi _ hcl]
theorem canon_roots {x : List DNode × List DVal} (hg : GF x) : (S.canonG x : List DNode × List DVal).2 = x.2.map (S.mvV (S.piO (S.ord x))) := movedL_pi _ (ord_closed hg).2.2
theorem canon_len {x : List DNode × List DVal} : (S.canonG x : List DNode × List DVal).1.length = (S.ord x).length := by
 show ((S.ord x).map _).length = _
 rw [List.length_map]
theorem piO_lt {o : List Int} {k : Int} (h : k ∈ o) : 0 ≤ S.piO o k ∧ S.piO o k < Int.ofNat o.length := by
 have h3 := List.idxOf_lt_length_of_mem h
 refine ⟨Int.natCast_nonneg _, ?_⟩
 show (o.idxOf k : Int) < (o.length : Int)
 omega
theorem canon_formed2 {x : List DNode × List DVal} (hx : S.formed x = 0) : S.formed (S.canonG x) = 0 := by
 obtain ⟨f1, f2, f3, f4, f5⟩ := formed_zero hx
 have hg := gf_of hx
 obtain ⟨ho, hc, hr⟩ := ord_closed hg
 have hlen := ho.len
 have h400 : (S.ord x).length ≤ 400 := Nat.le_trans hlen f1
 refine formed_of (by rw [canon_len]; exact h400) (by rw [canon_roots hg, List.length_map]; exact f2) (fun m hm => ?_) (fun m hm v hv => ?_) (fun v hv => ?_)
 · obtain ⟨a, ha, w, w1, w2, w3, rfl⟩ := canon_mem hg hm
   have := f3 w w2
   show (List.map _ _).length ≤ 30
   rw [List.length_map]; exact this
 · obtain ⟨a, ha, w, w1, w2, w3, rfl⟩ := canon_mem hg hm
   obtain ⟨u, hu, rfl⟩ := List.mem_map.1 (show v ∈ List.map (S.mvV (S.piO (S.ord x))) w.2 from hv)
   rw [canon_len]
   exact value_mv2 f1 h400 u (fun h4 => piO_lt (w3 _ (refsL_mem hu h4))) (f4 w w2 u hu)
 · rw [canon_roots hg] at hv
   obtain ⟨u, hu, rfl⟩ := List.mem_map.1 hv
   obtain ⟨g1, g2⟩ := f5 u hu
   refine ⟨by rw [canon_len]; exact value_mv2 f1 h400 u (fun h4 => piO_lt (hr _ (refsL_mem hu h4))) g1, ?_⟩
   have hk := mvV_kind (S.piO (S.ord x)) u
   unfold S.refers at g2 ⊢
   rw [hk]; exact g2
end Go.Proofs.Ytcnhjofpmpipfaa
end
section
namespace Go.Jx
open Go Go.Sx Go.RowKit
universe u
def mvV (S : IS) (v : IV) : IV × IS := match v with
 | .arr id => match S.heap.get id with
   | some (.arr c l) => (.arr S.next, (S.set id .dead).new (.arr c l))
   | _ => (.arr id, S)
 | v => (v, S)
def mvA : List IV → IS → List IV × IS
 | [], S => ([], S)
 | v :: vs, S => ((mvV S v).1 :: (mvA vs (mvV S v).2).1, (mvA vs (mvV S v).2).2)
theorem mvA_len : ∀ (vs : List IV) (S : IS), (mvA vs S).1.length = vs.length
 | [], _ => rfl
 | _ :: vs, S => congrArg (· + 1) (mvA_len vs _)
theorem mv1 {E : Env} {S : IS} {id : Nat} {c : TC} {l : List (El c)} (p : Pre T0 E S) (hA : E.A id) (ho : S.H id = some (.arr c l)) :
   ∃ E', E'.w = E.w ∧ Post T0 E S E' ((S.set id .dead).new (.arr c l)) ∧ Fresh E S E' ∧ ∀ u, VR E (.arr id) u → VR E' (.arr S.next) u := by
 obtain ⟨a, cap, k1, k2, k3, k4, k5⟩ := p.st.objs id trivial hA _ ho
 have hA' : ¬ E.A S.next := fun h => Nat.lt_irrefl _ (p.bnd _ h)
 rcases k5 with ⟨k5, k6⟩ | ⟨k5, k6, cells, t, k7, k8, k9⟩
 · subst k6
   have pk := Post.kill (id := id) p
   have pp := pk.pre p
   obtain ⟨a1, a2⟩ := Post.ghost (S := S.set id .dead) (hd := .slice a l.length 0) (o := .arr c l) pp rfl ⟨a, 0, up_self _ _ _, k2, k3, k4, .inl ⟨up_self _ _ _, rfl⟩⟩
   refine ⟨E.gho S.next (.slice a l.length 0), rfl, Post.trans p pk (Fresh.refl E S) a1, ⟨fun j h1 h2 => a2.fr j h1 h2⟩, fun u hu => ?_⟩
   cases hu with
   | arr h1 h2 =>
     rw [k1] at h2; cases h2
     exact .arr (Or.inr rfl : E.A S.next ∨ S.next = S.next) (up_self _ _ _)
 · have hL : Live E S.H id := ⟨k5, _, ho, rfl⟩
   have hle0 := Env.at_le (w' := E.w) p.st trivial hA hL (Upd.refl _ _)
   have hle : E.Le (E.moved id S.next (.slice a l.length cap) E.w) := ⟨fun j h => ⟨.inl h, up_ne _ _ fun e => hA' (e ▸ h), up_ne _ _ fun e => hA' (e ▸ h), up_ne _ _ fun e => hA' (e ▸ h), up_ne _ _ fun e => hA' (e ▸ h)⟩, hle0.tr⟩
   obtain ⟨q1, q2⟩ := Post.move p (hd := .slice a l.length cap) (o := .arr c l) trivial hA hL (Upd.refl _ _)
     ⟨a, cap, up_self _ _ _, k2, k3, k4, .inr ⟨up_self _ _ _, by simp only [Env.moved, up_self]; exact k6, cells, t, by simp only [Env.moved, up_self]; exact k7, k8, k9.mono hle⟩⟩
   refine ⟨E.moved id S.next (.slice a l.length cap) E.w, rfl, q1, q2, fun u hu => ?_⟩
   cases hu with
   | arr h1 h2 =>
     rw [k1] at h2; cases h2
     exact .arr (Or.inr rfl : E.A S.next ∨ S.next = S.next) (up_self _ _ _)
theorem mvV_ok {E : Env} {S : IS} {v : IV} {u : Value} (p : Pre T0 E S) (hv : VR E v u) : ∃ E', E'.w = E.w ∧ Post T0 E S E' (mvV S v).2 ∧ Fresh E S E' ∧ VR E' (mvV S v).1 u := by
 unfold mvV
 split
 · rename_i id
   split
   · rename_i c l ho
     have hA : E.A id := by cases hv; assumption
     obtain ⟨E1, e1, q1, f1, h1⟩ := mv1 p hA ho
     exact ⟨E1, e1, q1, f1, h1 u hv⟩
   · exact ⟨E, rfl, Post.refl p, Fresh.refl E S, hv⟩
 · exact ⟨E, rfl, Post.refl p, Fresh.refl E S, hv⟩
theorem mvA_ok : ∀ (vs : List IV) {E : Env} {S : IS} {us : List Value}, Pre T0 E S → VRs E vs us → ∃ E', E'.w = E.w ∧ Post T0 E S E' (mvA vs S).2 ∧ Fresh E S E' ∧ VRs E' (mvA vs S).1 us
 | [], E, S, us, p, hv => ⟨E, rfl, Post.refl p, Fresh.refl E S, hv⟩
 | v :: vs, E, S, us, p, hv => by
   obtain ⟨u, us, rfl, a1, a2⟩ := hv.inv
   obtain ⟨E1, e1, q1, f1, v1⟩ := mvV_ok p a1
   obtain ⟨E2, e2, q2, f2, v2⟩ := mvA_ok vs (q1.pre p) (a2.mono (q1.env p))
   exact ⟨E2, e2.trans e1, Post.trans p q1 f1 q2, f1.trans f2 q1.le, VRs.cons (v1.mono (q2.env (q1.pre p))) v2⟩
def argsM (l : List PK) (x : ElP l) : List IV := (mvA (argsP l idN 0 x) (Sc l x)).1
def ScM (l : List PK) (x : ElP l) : IS := (mvA (argsP l idN 0 x) (Sc l x)).2
section
variable {P : Program} {tt : Nat → Option TI} {ft : Nat → Option FI}
theorem bodyM_ok {fi : FI} {f : Nat} {nm : Nat → Option Nm} {cl : Cl} {lf : Nat} {s : SmR} {x : ElP s.ps} {y : ElR s.rts} {z : ElP (refs s.ps)} {r1 : CRes} (hm : P.follows .mixedOrders = true) (htt : TT P tt)
   (hfi : ∃ fn, P.funcs[f]? = some fn ∧ fn.body = some fi.body ∧ fn.ntmps = fi.nt ∧ fn.results = fi.res.toArray ∧ (fn.name == "runtime.NumGoroutine") = false ∧ codeOK fi.body = true) (hcl : ClOK P cl) (hfr : ClFr cl)
   (hb : Nat.ble (argsP s.ps idN 0 x).length fi.nt = true) (hr1 : icode P tt nm (mP s.ps) fi.nt cl lf none fi.body (argGo (argsM s.ps x) 0 .leaf) (ScM s.ps x) [] = some r1) (h : lastQ tt fi s r1 = some (y, z))
   {E : Env} {us : List Value} (p : Pre T0 E (Sc s.ps x)) (hv : VRs E (argsP s.ps idN 0 x) us) :
   CallsIn Fence.wide 0 P f us.toArray E.w (RetB (mP s.ps) T0 E (Sc s.ps x) ⟨vB s (mP s.ps) y, ScB s y z, 0, 0⟩) := by
 unfold lastQ at h
 cases hl : r1.e.leaves with
 | false => rw [hl] at h; cases h
 | true =>
 rw [hl, cond_true] at h
 split at h
 · cases h
 rename_i S' wr hmk
 split at h
 · cases h
 rename_i vs' rd' hres
 obtain ⟨E0, e0, q0, g0, v0⟩ := mvA_ok _ p hv
 have p0 : Pre T0 E0 (ScM s.ps x) := q0.pre p
 have hB0 : mP s.ps ≤ (Sc s.ps x).next := by rw [Sc_next]; omega
 have k0 : PostB (mP s.ps) T0 E (Sc s.ps x) E0 (ScM s.ps x) := PostB.of hB0 (fun _ _ => trivial) q0 g0
 obtain ⟨fn, f1, f2, f3, f4, f5, f6⟩ := hfi
 rw [← e0]
 refine callsIn_of_wp_marks f1 f2 trivial ?_
 refine icode_sound (T := T0) (E := E0) (S := ScM s.ps x) (ds := []) (round := none) (B := mP s.ps) (fun _ _ => trivial) hm rfl hcl hfr htt fi.body f6 p0 (Nat.le_trans hB0 q0.le) (fun _ _ => trivial) ?_ ⟨rfl, fun D hD => by cases hD⟩ (fun _ => rfl) hr1 (fun _ _ => trivial) (fun _ _ => trivial) ?_
 · have := FR.enter (nt := fi.nt) v0 (by rw [mvA_len]; exact Nat.le_of_ble_eq_true hb)
   rw [f3]; exact this
 intro E1 a1 k1 k2 kB
 have p1 := kB.pre (fun _ _ => trivial)
 have hlv : LeavesInM Fence.wide 0 P fn a1.tmps (RetB (mP s.ps) T0 E (Sc s.ps x) ⟨vB s (mP s.ps) y, ScB s y z, 0, 0⟩) a1.defers .returning E1.w := by
   refine marks_sound p1 k2 hmk (fun _ _ => trivial) fun E2 m1 m2 => ?_
   have p2 := m1.pre p1
   obtain ⟨us', h1, h2⟩ := ires_run htt p2 (k1.mono (m1.env p1)) hres (fun _ _ => trivial)
   have h3 := results_run (P := P) (w := E2.w) f4 h1
   refine ⟨tupOf us', h3, ?_⟩
   have hq := (k0.trans kB).trans (PostB.of kB.le (fun _ _ => trivial) m1 m2)
   obtain ⟨E3, e3, v3, q3⟩ := runQ_sound (r := ⟨tupI vs', S', 0, 0⟩) h p hv hq (tup_rel h2)
   exact ⟨_, E3, rfl, e3, v3, q3⟩
 cases he : r1.e with
 | normal => rw [he] at *; exact hlv
 | ret => exact hlv
 | exit i => rw [he] at hl; cases hl
 | goto l => rw [he] at hl; cases hl
theorem conTM {sml : List (Nat × Sm)} {hxl : List (Nat × Hx)} {f : Nat} {s : SmR} {fi : FI} {nmf : Nat → Option Nm} {st hd : Nat → Bool} (n : Nat) (hm : P.follows .mixedOrders = true) (htt : TT P tt) (hft : FT P ft) (hsm : SmOK P sml)
   (hhx : HxsOK P hxl) (hC : Callable P f) (h3 : ft f = some fi) (h4 : ∀ x, Nat.ble (argsP s.ps idN 0 x).length fi.nt = true) (hn : (regs fi.body).Nodup) (hl : okC nmf st hd fi.body none = true)
   (hrun : ∀ (x : ElP s.ps) (y : ElR s.rts) (z : ElP (refs s.ps)), WfP s.ps x → s.f x = some (y, z) → ∃ lf,
     icodeTB P tt nmf (mP s.ps) fi.nt (icallK P tt ft (fun _ _ => none) (smL sml) (hxL hxl) lf n (ElR s.rts × ElP (refs s.ps))) lf st
       (atNB P tt nmf (mP s.ps) fi.nt fi.body (icallK P tt ft (fun _ _ => none) (smL sml) (hxL hxl) lf n (ElR s.rts × ElP (refs s.ps))) lf hd (lastQ tt fi s)) fi.body [] (argGo (argsM s.ps x) 0 .leaf) (ScM s.ps x) [] (lastQ tt fi s) = some (y, z))
   (hz : frzF nmf = true := by rfl) : ConR P f s := by
 have hB0 : mB nmf (mP s.ps) = 0 := by unfold mB; rw [hz]; rfl
 have hex : ExOK P (exH (smL sml) (hxL hxl)) := exH_ok (smL_ok hsm) (hxL_ok hhx)
 refine ⟨hC, fun E x us y z hy p hv => ?_⟩
 obtain ⟨lf, hr⟩ := hrun x y z (wf_Sc p hv) hy
 rw [← atB_in hB0 (iKe n _) hn hl, icodeK_eq (iKe n _)] at hr
 cases hr1 : icode P tt nmf (mP s.ps) fi.nt (icall P tt ft (fun _ _ => none) (exH (smL sml) (hxL hxl)) lf n) lf none fi.body (argGo (argsM s.ps x) 0 .leaf) (ScM s.ps x) [] with
 | none => rw [hr1] at hr; cases hr
 | some r1 =>
   rw [hr1] at hr
   exact bodyM_ok hm htt (hft f fi h3) (icall_ok hm htt hft hex n) (icall_fr hex n) (h4 x) hr1 hr p hv
end
end Go.Jx
end
noncomputable section
set_option maxRecDepth 100000
namespace Go.Proofs.Ytcnhjofpmpipfaa
open Go Go.Sx Go.RowKit Go.Jx
abbrev DR22Graphed : Type := DGraph × List Int × Int
abbrev DR22Bytes : Type := List Int × Int
namespace S
def numU : Nat → Int → List Int
 | 0, u => [u]
 | f + 1, u => if u < 128 then [u] else (128 + u % 128) :: numU f (u / 128)
def num (n : Int) : List Int := numU 10 (if n < 0 then -2 * n - 1 else 2 * n)
def numOK (n : Int) : Bool := decide (-2000000000000 ≤ n) && decide (n ≤ 2000000000000)
def sumStep (s v : Int) : Int := Int.tmod (IntKind.i64.wrap (Int.add (IntKind.i64.wrap (Int.mul (Int.ofNat 31) s)) (IntKind.i64.wrap v))) (Int.ofNat 2147483647)
def sumI (b : List Int) : Int := b.foldl sumStep 1
def sum4I (s : Int) : List Int := [IntKind.u8.wrap (Int.fdiv s (Int.ofNat 16777216)), IntKind.u8.wrap (Int.fdiv s (Int.ofNat 65536)), IntKind.u8.wrap (Int.fdiv s (Int.ofNat 256)), IntKind.u8.wrap s]
def sum4 (b : List Int) : List Int := sum4I (sumI b)
def code (v : Int × Int) : Int := if v.1 = 3 then 0 else if v.1 = 4 then IntKind.i64.wrap (v.2 + 1) else v.2
def codes (l : List (Int × Int)) : List Int := l.flatMap fun v => num (code v)
def encN (l : List DForm) (n : ByteArray × List (Int × Int)) : List Int := num (S.form l n.1) ++ codes n.2
def enc (l : List DForm) (g : List DNode × List DVal) : List Int := num (Int.ofNat g.1.length) ++ (g.1.flatMap (encN l) ++ (num (Int.ofNat g.2.length) ++ codes g.2))
def encB (l : List DForm) (g : DGraph) : List Int × Int :=
 if S.checkG l g = 0 then (if 60000 < (enc l (S.canonG g)).length + 4 then ([], 3) else (enc l (S.canonG g) ++ sum4 (enc l (S.canonG g)), 0)) else ([], S.checkG l g)
end S
def spz44 : Sm := ⟨[cGraph], [(false, cR22Graphed)], fun x => cond (ieqI (S.formed x.1) (Int.ofNat 0)) (some ((S.canonG x.1, S.numsG x.1, Int.ofNat 0), ())) none⟩
def spz40 : Sm := ⟨[.int .i64], [(false, .list (.int .u8))], fun x => cond (S.numOK x.1) (some (S.num x.1, ())) none⟩
def spz43 : SmR := ⟨[.ref (.sl (.int .u8)), .dat (.int .i64)], [(true, .int .u8)], fun x => match x.1 with
 | some b => cond (S.numOK x.2.1 && Nat.ble (List.length (α := Int) b + 100) 140737488355328) (some ((List.append (α := Int) b (S.num x.2.1), ()), (none, ()))) none
 | none => none⟩
def spz42 : SmR := ⟨[.ref (.sl (.int .u8))], [(true, .int .u8)], fun x => match x.1 with
 | some b => some ((S.sum4 b, ()), (some b, ()))
 | none => none⟩
def spz41 : Sm := ⟨[cVal], [(false, .int .i64)], fun x => some (S.code x.1, ())⟩
def spz36 : Sm := ⟨[.list (.int .u8)], [(false, .int .i64)], fun x => some (S.sumI x.1, ())⟩
def spz37 : Sm := ⟨[.list (.int .u8)], [(false, .list (.int .u8))], fun x => cond (Nat.ble (List.length (α := Int) x.1 + 100) 140737488355328) (some (List.append (α := Int) x.1 (S.sum4 x.1), ())) none⟩
def spz39 : Sm := ⟨[.list cForm, cGraph], [(false, .list (.int .u8)), (false, .int .i64)], fun x => some ((S.encB x.1 x.2.1).1, (S.encB x.1 x.2.1).2, ())⟩
def spz38 : Sm := ⟨[.list cForm, cGraph], [(false, cR22Bytes)], fun x => some (((S.encB x.1 x.2.1).1, (S.encB x.1 x.2.1).2), ())⟩
namespace S
end S
namespace S
def fewForms (l : List DForm) : Bool :=
 l.all (fun f => decide (f.1.size ≤ 30 ∧ (f.2.length ≤ 6 ∨ 30 < f.2.length) ∧ f.2.length ≤ 40) && f.2.all fun c => decide (c.1.size ≤ 30 ∧ c.2.2.size ≤ 30)) && decide (l.length ≤ 6 ∨ 24 < l.length ∧ l.length ≤ 30)
def few (g : DGraph) : Bool :=
 g.1.all (fun n => decide ((n.2.length ≤ 8 ∨ 30 < n.2.length) ∧ n.2.length ≤ 40)) && decide ((g.1.length ≤ 30 ∨ 400 < g.1.length ∧ g.1.length ≤ 410) ∧ (g.2.length ≤ 10 ∨ 60 < g.2.length ∧ g.2.length ≤ 70))
end S
def spz45 : Sm := ⟨[.list cForm], [(false, .bool)], fun x => some (S.fewForms x.1, ())⟩
def spz46 : Sm := ⟨[cGraph], [(false, .bool)], fun x => some (S.few x.1, ())⟩
def sp_l_sanity : Sm := ⟨[], [(false, .bool)], fun _ => some (true, ())⟩
def nmz35 : Nat → Option Nm := fun k => none
def stz35 : Nat → Bool := fun k => false
def hdz35 := stz35
abbrev Rtz35 : Type := Bool × Unit
def smlz35 : List (Nat × Sm) := [(13, spz45), (14, spz46), (15, sp_l_sanity), (20, spz39), (21, spz38)]
def hxlz35 : List (Nat × Hx) := []
def clz35 (R : Type) (lf : Nat) : ClK R := icallK Try.prog ttT.get ftT.get (nm1 4 nmz35) (smL smlz35) (hxL hxlz35) lf 20 R
abbrev idz35 : Nat := 4
def Rz35_in (lf : Nat) (x1 : (List DForm)) (x2 : DGraph) : Option Rtz35 := (cond (Bool.not (S.fewForms x1)) (some (Bool.true, ())) (cond (Bool.not (S.few (x2.1, x2.2))) (some (Bool.true, ())) (cond (keqS (ByteArray.mk (Array.mk (List.map (fun v0 => (UInt8.ofBitVec (BitVec.ofFin (Fin.mk (Nat.mod (Int.toNat v0) 256) (Nat.mod_lt (Int.toNat v0) (BitVec.ofNat._proof_1 (OfNat.ofNat 8))))))) (S.encB x1 (x2.1, x2.2)).1))) (ByteArray.mk (Array.mk (List.map (fun v1 => (UInt8.ofBitVec (BitVec.ofFin (Fin.mk (Nat.mod (Int.toNat v1) 256) (Nat.mod_lt (Int.toNat v1) (BitVec.ofNat._proof_1 (OfNat.ofNat 8))))))) (S.encB x1 (x2.1, x2.2)).1)))) (some ((ieqI (S.encB x1 (x2.1, x2.2)).2 (S.encB x1 (x2.1, x2.2)).2), ())) (some (Bool.false, ())))))
abbrev gz35 : Type := ElA [(.list cForm), cGraph] → Option Rtz35
abbrev sz35 (g : gz35) : Sm := ⟨[(.list cForm), cGraph], [(false, .bool)], g⟩
abbrev Ez35 (g : gz35) (J : JT Rtz35) (lf : Nat) (x1 : (List DForm)) (x2 : DGraph) := icodeT Try.prog ttT.get nmz35 fi4.nt (clz35 _ lf) lf stz35 J fi4.body [] (argGo (argV [(.list cForm), cGraph] (x1, x2, ())) 0 .leaf) S0 [] (lastK ttT.get fi4 (sz35 g))
theorem inz35 (g : gz35) (J : JT Rtz35) (lf : Nat) (x1 : (List DForm)) (x2 : DGraph) : Ez35 g J lf x1 x2 = Rz35_in lf x1 x2 := by kernel_rfl
theorem ndz35 : (regs fi4.body).Nodup := by decide +kernel
theorem okz35 : okC nmz35 stz35 hdz35 fi4.body none = true := by kernel_rfl
def Az35 (g : gz35) (lf : Nat) : JT Rtz35 := atN Try.prog ttT.get nmz35 fi4 (sz35 g) (clz35 _ lf) lf hdz35
def Fz35 (lf : Nat) (x1 : (List DForm)) (x2 : DGraph) : Option Rtz35 := Rz35_in lf x1 x2
theorem runz35 (g : gz35) (lf : Nat) (x1 : (List DForm)) (x2 : DGraph) : Ez35 g (Az35 g lf) lf x1 x2 = Fz35 lf x1 x2 := by
   refine (inz35 g (Az35 g lf) lf x1 x2).trans ?_
   rfl
theorem hxsz35 : HxsOK Try.prog hxlz35 := trivial
theorem mkz35 {g : gz35} (hsm : SmOK Try.prog smlz35) (hg : ∀ (x : ElA [(.list cForm), cGraph]) (y : Rtz35), WfA [(.list cForm), cGraph] x → g x = some y → ∃ lf, Fz35 lf x.1 x.2.1 = some y) : Con Try.prog 4 ⟨[(.list cForm), cGraph], [(false, .bool)], g⟩ :=
 conT (nmf := nmz35) (sml := smlz35) (hxl := hxlz35) (st := stz35) (hd := hdz35) 20 mixed ttOK ftOK hsm hxsz35 cal4 rfl rfl (by kernel_rfl) (fun x => by kernel_rfl) ndz35 okz35 fun x y hx hy => by
   obtain ⟨lf, h⟩ := hg x y hx hy
   exact ⟨lf, (runz35 g lf x.1 x.2.1).trans h⟩
end Go.Proofs.Ytcnhjofpmpipfaa
end
