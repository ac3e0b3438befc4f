/- Texts: Jv, Jy, Jvs, Jhx, Jra, Qsp, Qg1, Qp1, Qg2, Jcl, Qcl, Qp2, Qp3, Qnm, Rsp, Rg1, Rp1, Rp2, Rg2, Rp3, Rp4, Jca, Jcb, Jcc, Jcd. -/
import Derived.Test.YtcnhjofpmpipfaaMg3
import Derived.Test.YtcnhjofpmpipfaaMg1
import Derived.Laws.RangeAny
/- Functions that take functions: what they compute, in both forms. -/
section
set_option linter.unusedVariables false
namespace Go.Jx
open Go Go.Sx Go.RowKit
universe u

def idxO {α : Type} (p : α → Option Bool) : List α → Nat → Option Int
  | [], _ => some (-1)
  | x :: l, i => match p x with
    | none => none
    | some b => cond b (some (Int.ofNat i)) (idxO p l (i + 1))
theorem idxO_some {α : Type} {p : α → Option Bool} {q : α → Bool} : ∀ {l : List α} {i : Nat}, (∀ x ∈ l, p x = some (q x)) → idxO p l i = some (match l.findIdx? q with | some j => Int.ofNat (i + j) | none => -1)
  | [], i, h => rfl
  | x :: l, i, h => by
    unfold idxO
    rw [h x List.mem_cons_self, List.findIdx?_cons]
    cases hq : q x with
    | true => rfl
    | false =>
      simp only [cond_false]
      rw [idxO_some fun y hy => h y (List.mem_cons_of_mem _ hy)]
      cases l.findIdx? q with
      | none => rfl
      | some j => exact congrArg (fun n => some (Int.ofNat n)) (show i + 1 + j = i + (j + 1) by omega)
def below (N : Nat) : Nat := 2 ^ N - 1
def ansB (m : Nat) (r : Res) : Option Bool := match r.v with
  | .bool b => cond (Nat.beq r.wr 0 && subm r.rd m) (some b) none
  | _ => none
def idxF (c : TC) (cl : Cl) (vs : List IV) (S : IS) : Option Res := match vs with
  | [.lst c' l, .fn g caps] => match recast c' c l with
    | none => none
    | some l => match idxO (fun x => ob (cl (.fn g) (asIV c x :: caps) S) (ansB (below S.next))) l 0 with
      | none => none
      | some i => some ⟨.int .i64 i, S, below S.next, 0⟩
  | _ => none
def idxK (c : TC) (clP : ClP) (R : Type) (vs : List IV) (S : IS) (kk : Res → Option R) : Option R := match vs with
  | [.lst c' l, .fn g caps] => match recast c' c l with
    | none => none
    | some l => match idxO (fun x => clP Bool (.fn g) (asIV c x :: caps) S (ansB (below S.next))) l 0 with
      | none => none
      | some i => kk ⟨.int .i64 i, S, below S.next, 0⟩
  | _ => none
theorem idx_eq (c : TC) (cl : Cl) (clP : ClP) (h : ∀ R, ClEq cl (clP R)) (R : Type) (vs : List IV) (S : IS) (kk : Res → Option R) : idxK c clP R vs S kk = ob (idxF c cl vs S) kk := by
  unfold idxK idxF
  split
  · rename_i c' l g caps
    cases recast c' c l with
    | none => rfl
    | some l =>
      simp only [h Bool _ _ _ _]
      cases idxO (fun x => ob (cl (.fn g) (asIV c x :: caps) S) (ansB (below S.next))) l 0 <;> rfl
  · rfl
def idxHx (c : TC) : Hx := ⟨idxF c, idxK c, idx_eq c⟩
theorem idxF_inv {c : TC} {cl : Cl} {vs : List IV} {S : IS} {r : Res} (h : idxF c cl vs S = some r) : ∃ c' l0 g caps l i, vs = [.lst c' l0, .fn g caps] ∧ recast c' c l0 = some l ∧ idxO (fun x => ob (cl (.fn g) (asIV c x :: caps) S) (ansB (below S.next))) l 0 = some i ∧ r = ⟨.int .i64 i, S, below S.next, 0⟩ := by
  unfold idxF at h
  split at h
  · rename_i c' l g caps
    cases hr : recast c' c l with
    | none => rw [hr] at h; cases h
    | some l2 =>
      rw [hr] at h
      simp only at h
      split at h <;> cases h
      rename_i i hi
      exact ⟨_, _, _, _, _, _, rfl, hr, hi, rfl⟩
  · cases h

/-! ### The body of such a function -/
def tup (ss : List Nat) (r : CRes) : IEx × List IV × IS × List Nat × Nat × Nat := (r.e, ss.map (slot r.fr), r.S, r.ds, r.rd, r.wr)
theorem mb_zero (B : Nat) : mb B 0 = 0 := by unfold mb; cases Nat.beq B 0 <;> rfl
theorem lor_zero (a : Nat) : Nat.lor a 0 = a := Nat.or_zero a
theorem zero_lor (a : Nat) : Nat.lor 0 a = a := Nat.zero_or a
theorem run_tup {P : Program} {tt : Nat → Option TI} {nm : Nat → Option Nm} {B nt lf : Nat} {cl : Cl} {c : Code} {fr : PT IV} {S : IS} {ds : List Nat} {ss : List Nat} {y : IEx × List IV × IS × List Nat × Nat × Nat}
    (h : icodeK P tt nm B nt (fun t vs S kk => ob (cl t vs S) kk) lf none c fr S ds (fun r => some (tup ss r)) = some y) : ∃ r, icode P tt nm B nt cl lf none c fr S ds = some r ∧ tup ss r = y := by
  rw [icodeK_eq (cl := cl) (fun _ _ _ _ => rfl)] at h
  cases hr : icode P tt nm B nt cl lf none c fr S ds with
  | none => rw [hr] at h; cases h
  | some r => rw [hr] at h; cases h; exact ⟨r, rfl, rfl⟩
theorem keepO_eq {fr fr' : PT IV} : ∀ {l : List Nat} {r : PT IV}, (∀ t ∈ l, slot fr t = slot fr' t) → keepO fr l r = keepO fr' l r
  | [], r, h => rfl
  | t :: l, r, h => by
    unfold keepO
    rw [h t List.mem_cons_self]
    exact keepO_eq fun k hk => h k (List.mem_cons_of_mem _ hk)
theorem headedO {P : Program} {tt : Nat → Option TI} {nm : Nat → Option Nm} {B nt lf : Nat} {cl : Cl} {m : Nm} {h : Nat} (hm : nm h = some m) (hf : m.fo = true) {fr fr' : PT IV} (hs : ∀ t ∈ m.keep, slot fr t = slot fr' t) :
    ∀ {c : Code} {S : IS} {ds : List Nat}, okC nm (fun k => Nat.beq k h) (fun k => Nat.beq k h) c (some h) = true → icode P tt nm B nt cl lf none c fr S ds = icode P tt nm B nt cl lf none c fr' S ds
  | .region id ops draw, S, ds, hc => by
    simp only [okC, Bool.and_eq_true] at hc
    obtain rfl := Nat.eq_of_beq_eq_true hc.1
    simp only [icode, hm, inorm, hf, cond_true, keepO_eq hs]
  | .seq a b, S, ds, hc => by
    simp only [okC, Bool.and_eq_true] at hc
    simp only [icode]
    rw [headedO hm hf hs (c := a) hc.1]
  | .cond _ a b, S, ds, hc => by simp [okC] at hc
  | .block _ c, S, ds, hc => by
    simp only [icode]
    rw [headedO hm hf hs (c := c) hc]
  | .scope c, S, ds, hc => by
    simp only [icode]
    rw [headedO hm hf hs (c := c) hc]
  | .loop c, S, ds, hc => by simp [okC] at hc
  | .skip, S, ds, hc => by simp [okC] at hc
  | .label _, S, ds, hc => by simp [okC] at hc
  | .exit _, S, ds, hc => by simp [okC] at hc
  | .goto _, S, ds, hc => by simp [okC] at hc
  | .ret, S, ds, hc => by simp [okC] at hc
  | .refuse _, S, ds, hc => by simp [okC] at hc
  | .rangeFunc .., S, ds, hc => by simp [okC] at hc
def nmI (k : Nat) (keep : List Nat) (mr : Nat) : Nat → Option Nm := fun j => cond (Nat.beq j k) (some ⟨keep, [], [], [], [], mr, 0, true⟩) none
theorem mB_I (keep : List Nat) (mr B : Nat) : mB (nmI 2 keep mr) B = B := rfl
def frI (c : TC) (l : List (El c)) (g : Nat) (caps : List IV) (i : Int) : PT IV := (((PT.leaf.set (.lst c l) 0).set (.fn g caps) 1).set (.int .i64 (Int.ofNat l.length)) 7).set (.int .i64 i) 8
def frA (c : TC) (l : List (El c)) (g : Nat) (caps : List IV) : PT IV := (argGo [.lst c l, .fn g caps] 0 .leaf).set (.int .i64 0) 4
def frB (c : TC) (l : List (El c)) (g : Nat) (caps : List IV) : PT IV := (((frA c l g caps).set (.lst c l) 6).set (.int .i64 (Int.ofNat l.length)) 7).set (.int .i64 0) 8
structure IdxFacts (P : Program) (tt : Nat → Option TI) (c : TC) (fi : FI) (A B L C : Code) : Prop where
  body : fi.body = .seq A (.seq (.seq B (.block 0 (.loop L))) C)
  two : Nat.ble 2 fi.nt = true
  head : ∀ mr, okC (nmI 2 [0, 1, 7, 8] mr) (fun k => Nat.beq k 2) (fun k => Nat.beq k 2) L (some 2) = true
  a : ∀ (R : Type) (clK : ClK R) (B0 mr lf : Nat) (l : List (El c)) (g : Nat) (caps : List IV) (S : IS) (kk : CRes → Option R), icodeK P tt (nmI 2 [0, 1, 7, 8] mr) B0 fi.nt clK lf none A (argGo [.lst c l, .fn g caps] 0 .leaf) S [] kk = kk ⟨.normal, frA c l g caps, S, [], mb B0 0, mb B0 0⟩
  b : ∀ (R : Type) (clK : ClK R) (B0 mr lf : Nat) (l : List (El c)) (g : Nat) (caps : List IV) (S : IS) (kk : CRes → Option R), icodeK P tt (nmI 2 [0, 1, 7, 8] mr) B0 fi.nt clK lf none B (frA c l g caps) S [] kk = kk ⟨.normal, frB c l g caps, S, [], mb B0 0, mb B0 0⟩
  l : ∀ (R : Type) (clK : ClK R) (B0 mr lf : Nat) (l : List (El c)) (g : Nat) (caps : List IV) (S : IS) (i : Int) (kk : _ → Option R), icodeK P tt (nmI 2 [0, 1, 7, 8] mr) B0 fi.nt clK lf none L (frI c l g caps i) S [] (fun r => kk (tup [0, 1, 4, 7, 8] r)) =
    cond (iltI i (Int.ofNat l.length)) (match jget l i with
      | none => none
      | some x => clK (.fn g) (asIV c x :: caps) S fun r => match r.v with
        | .bool b => cond b
          (kk (.ret, [.lst c l, .fn g caps, .int .i64 i, .int .i64 (Int.ofNat l.length), .int .i64 i], r.S, [], (mb B0 0).lor (Nat.lor 0 ((mb B0 0).lor ((mb B0 (Nat.lor 0 (Nat.lor 0 (Nat.lor 0 (Nat.lor 0 (Nat.lor 0 (r.rd.lor 0))))))).lor ((mb B0 0).lor 0)))),
            (mb B0 0).lor (Nat.lor 0 ((mb B0 0).lor ((mb B0 (Nat.lor 0 (Nat.lor 0 (Nat.lor 0 (Nat.lor 0 (Nat.lor 0 (Nat.lor 0 (r.wr.lor 0)))))))).lor ((mb B0 0).lor 0))))))
          (kk (.normal, [.lst c l, .fn g caps, .unk, .int .i64 (Int.ofNat l.length), .int .i64 (IntKind.i64.wrap (i + 1))], r.S, [], (mb B0 0).lor (Nat.lor 0 (((mb B0 0).lor ((mb B0 (Nat.lor 0 (Nat.lor 0 (Nat.lor 0 (Nat.lor 0 (Nat.lor 0 (r.rd.lor 0))))))).lor 0)).lor (mb B0 0))),
            (mb B0 0).lor (Nat.lor 0 (((mb B0 0).lor ((mb B0 (Nat.lor 0 (Nat.lor 0 (Nat.lor 0 (Nat.lor 0 (Nat.lor 0 (Nat.lor 0 (r.wr.lor 0)))))))).lor 0)).lor (mb B0 0)))))
        | _ => none)
      (kk (.exit 0, [.lst c l, .fn g caps, .unk, .int .i64 (Int.ofNat l.length), .int .i64 i], S, [], (mb B0 0).lor 0, (mb B0 0).lor 0))
  e : ∀ (R : Type) (clK : ClK R) (B0 mr lf : Nat) (fr : PT IV) (S : IS) (kk : CRes → Option R), icodeK P tt (nmI 2 [0, 1, 7, 8] mr) B0 fi.nt clK lf none C fr S [] kk = kk ⟨.ret, fr.set (.int .i64 (-1)) 4, S, [], (mb B0 0).lor 0, (mb B0 0).lor 0⟩
  res : fi.res = [.tmp 4]
  nt4 : Nat.blt 4 fi.nt = true
  lm : ∀ mr, loopM (nmI 2 [0, 1, 7, 8] mr) L = some (mr, 0)
variable {P : Program} {tt : Nat → Option TI} {c : TC} {fi : FI} {A B L C : Code}
theorem subm_self (a : Nat) : subm a a = true := by unfold subm; rw [Nat.or_self]; exact Nat.beq_refl a
theorem subm_zero (a : Nat) : subm 0 a = true := by unfold subm; rw [Nat.zero_or]; exact Nat.beq_refl a
theorem mb_subm {B0 a m : Nat} (h : subm a m = true) : subm (mb B0 a) m = true := by
  unfold mb
  cases Nat.beq B0 0
  · exact h
  · exact subm_zero m
theorem idx_loop (F : IdxFacts P tt c fi A B L C) {cl : Cl} (hcalm : Calm cl) {l : List (El c)} (hl : l.length * bsz c ≤ 140737488355328) {g : Nat} {caps : List IV} {S : IS} {i : Int} {lf : Nat} : ∀ (rest pre : List (El c)) (fuel : Nat) (fr : PT IV),
    l = pre ++ rest → rest.length < fuel → (slot fr 0 = .lst c l ∧ slot fr 1 = .fn g caps ∧ slot fr 7 = .int .i64 (Int.ofNat l.length) ∧ slot fr 8 = .int .i64 (Int.ofNat pre.length)) →
    idxO (fun x => ob (cl (.fn g) (asIV c x :: caps) S) (ansB (below S.next))) rest pre.length = some i →
    ∃ r, iiterM (icode P tt (nmI 2 [0, 1, 7, 8] (below S.next)) S.next fi.nt cl lf none L) (below S.next) 0 fuel fr S [] = some r ∧ r.S = S ∧ r.ds = [] ∧ r.wr = 0 ∧ ((r.e = .ret ∧ slot r.fr 4 = .int .i64 i) ∨ (r.e = .exit 0 ∧ i = -1)) := by
  intro rest
  induction rest with
  | nil =>
    intro pre fuel fr hp hf hs hi
    cases fuel with
    | zero => exact absurd hf (by simp)
    | succ n =>
    cases hi
    have e1 := headedO (P := P) (tt := tt) (B := S.next) (nt := fi.nt) (lf := lf) (cl := cl) (h := 2) (m := ⟨[0, 1, 7, 8], [], [], [], [], below S.next, 0, true⟩) rfl rfl (fr := fr) (fr' := frI c l g caps (Int.ofNat pre.length)) (by
      intro t ht
      simp only [List.mem_cons, List.not_mem_nil, or_false] at ht
      rcases ht with rfl | rfl | rfl | rfl
      · exact hs.1
      · exact hs.2.1
      · exact hs.2.2.1
      · exact hs.2.2.2) (c := L) (S := S) (ds := []) (F.head _)
    have e2 := F.l (IEx × List IV × IS × List Nat × Nat × Nat) (fun t vs S kk => ob (cl t vs S) kk) S.next (below S.next) lf l g caps S (Int.ofNat pre.length) some
    rw [show iltI (Int.ofNat pre.length) (Int.ofNat l.length) = false by rw [iltI_eq, hp]; simp, cond_false] at e2
    obtain ⟨r, hr, ht⟩ := run_tup e2
    simp only [tup, Prod.mk.injEq, mb_zero, lor_zero] at ht
    obtain ⟨t1, t2, t3, t4, t5, t6⟩ := ht
    refine ⟨⟨.exit 0, r.fr, S, [], below S.next, 0⟩, ?_, rfl, rfl, rfl, .inr ⟨rfl, rfl⟩⟩
    unfold iiterM
    rw [e1]
    have hr' : icode P tt (nmI 2 [0, 1, 7, 8] (below S.next)) S.next fi.nt cl lf none L (frI c l g caps (Int.ofNat pre.length)) S [] = some r := hr
    simp only [hr', t5, t6, subm_zero, Bool.and_self, cond_true, t1, t3, t4]
  | cons x rest ih =>
    intro pre fuel fr hp hf hs hi
    cases fuel with
    | zero => exact absurd hf (by simp)
    | succ n =>
    have e1 := headedO (P := P) (tt := tt) (B := S.next) (nt := fi.nt) (lf := lf) (cl := cl) (h := 2) (m := ⟨[0, 1, 7, 8], [], [], [], [], below S.next, 0, true⟩) rfl rfl (fr := fr) (fr' := frI c l g caps (Int.ofNat pre.length)) (by
      intro t ht
      simp only [List.mem_cons, List.not_mem_nil, or_false] at ht
      rcases ht with rfl | rfl | rfl | rfl
      · exact hs.1
      · exact hs.2.1
      · exact hs.2.2.1
      · exact hs.2.2.2) (c := L) (S := S) (ds := []) (F.head _)
    have e2 := F.l (IEx × List IV × IS × List Nat × Nat × Nat) (fun t vs S kk => ob (cl t vs S) kk) S.next (below S.next) lf l g caps S (Int.ofNat pre.length) some
    have hlen : l.length = pre.length + (rest.length + 1) := by rw [hp]; simp
    rw [show iltI (Int.ofNat pre.length) (Int.ofNat l.length) = true by rw [iltI_eq]; simp; omega, cond_true,
      show jget l (Int.ofNat pre.length) = some x by unfold jget; rw [if_pos (by simp)]; rw [hp]; simp] at e2
    simp only at e2
    unfold idxO at hi
    cases hc : cl (.fn g) (asIV c x :: caps) S with
    | none => rw [hc] at hi; cases hi
    | some r0 =>
    rw [hc] at hi e2
    simp only [ob] at hi e2
    cases hv : r0.v <;> simp only [ansB, hv] at hi <;> try (cases hi; done)
    rename_i b
    cases hmk : (Nat.beq r0.wr 0 && subm r0.rd (below S.next)) with
    | false => rw [hmk] at hi; cases hi
    | true =>
    rw [hmk] at hi
    simp only [Bool.and_eq_true] at hmk
    have hw0 : r0.wr = 0 := Nat.eq_of_beq_eq_true hmk.1
    have hS : r0.S = S := hcalm _ _ _ _ hc hw0 (by rw [hv]; rfl)
    simp only [hv, hS, hw0, mb_zero, lor_zero, zero_lor] at e2
    simp only [cond_true] at hi
    have hsm : subm (mb S.next r0.rd) (below S.next) = true := mb_subm hmk.2
    cases b with
    | true =>
      cases hi
      rw [cond_true] at e2
      obtain ⟨r, hr, ht⟩ := run_tup e2
      simp only [tup, Prod.mk.injEq, List.map_cons, List.cons.injEq] at ht
      obtain ⟨t1, t2, t3, t4, t5, t6⟩ := ht
      refine ⟨⟨.ret, r.fr, S, [], below S.next, 0⟩, ?_, rfl, rfl, rfl, .inl ⟨rfl, t2.2.2.1⟩⟩
      unfold iiterM
      rw [e1]
      have hr' : icode P tt (nmI 2 [0, 1, 7, 8] (below S.next)) S.next fi.nt cl lf none L (frI c l g caps (Int.ofNat pre.length)) S [] = some r := hr
      simp only [hr', t5, t6, hsm, subm_zero, Bool.and_self, cond_true, t1, t3, t4]
    | false =>
      rw [cond_false] at e2 hi
      obtain ⟨r, hr, ht⟩ := run_tup e2
      simp only [tup, Prod.mk.injEq, List.map_cons, List.cons.injEq] at ht
      obtain ⟨t1, t2, t3, t4, t5, t6⟩ := ht
      have hw : IntKind.i64.wrap (Int.ofNat pre.length + 1) = Int.ofNat (pre ++ [x]).length := by
        rw [show Int.ofNat (pre ++ [x]).length = Int.ofNat pre.length + 1 by simp]
        refine wrap64_in ?_
        have hb : 1 ≤ bsz c := bsz_one c
        have : l.length * 1 ≤ l.length * bsz c := Nat.mul_le_mul_left _ hb
        simp; omega
      obtain ⟨q, q1, q2⟩ := ih (pre ++ [x]) n r.fr (by rw [hp]; simp) (by simp at hf; omega) ⟨t2.1, t2.2.1, t2.2.2.2.1, by rw [← hw]; exact t2.2.2.2.2.1⟩ (by rw [show (pre ++ [x]).length = pre.length + 1 by simp]; exact hi)
      refine ⟨q, ?_, q2⟩
      unfold iiterM
      rw [e1]
      have hr' : icode P tt (nmI 2 [0, 1, 7, 8] (below S.next)) S.next fi.nt cl lf none L (frI c l g caps (Int.ofNat pre.length)) S [] = some r := hr
      simp only [hr', t5, t6, hsm, subm_zero, Bool.and_self, cond_true, t1, t3, t4]
      exact q1
where bsz_one : ∀ c : TC, 1 ≤ bsz c
  | .int k => by cases k <;> simp [bsz]
  | .bool => by simp [bsz]
  | .str => by simp [bsz]
  | .list _ => by simp [bsz]
  | .two a b => by have := bsz_one a; simp only [bsz]; omega

theorem runK {nm : Nat → Option Nm} {B nt lf : Nat} {cl : Cl} {c : Code} {fr : PT IV} {S : IS} {ds : List Nat} {y : CRes}
    (h : icodeK P tt nm B nt (fun t vs S kk => ob (cl t vs S) kk) lf none c fr S ds some = some y) : icode P tt nm B nt cl lf none c fr S ds = some y := by
  rw [icodeK_eq (cl := cl) (fun _ _ _ _ => rfl)] at h
  cases hr : icode P tt nm B nt cl lf none c fr S ds with
  | none => rw [hr] at h; cases h
  | some r => rw [hr] at h; cases h; rfl
theorem below_tin {T : Nat → Prop} {n a : Nat} (h : tin T (below n)) : tin T (a % 2 ^ n) := fun j hj => h j (by
  rw [Nat.testBit_mod_two_pow] at hj
  simp only [Bool.and_eq_true, decide_eq_true_eq] at hj
  unfold below
  rw [Nat.testBit_two_pow_sub_one]
  simpa using hj.1)
theorem lst_len {E : Env} {c : TC} {l : List (El c)} {u : Value} (h : VR E (.lst c l) u) : l.length * bsz c ≤ 140737488355328 := by
  cases h with
  | lst0 hc => simp
  | lst us h1 h2 h3 hb hh hc hu => exact h3
theorem hx_int {f : Nat} {nm : Nat → Option Nm} {lf : Nat} {cl : Cl} {vs : List IV} {S : IS} {fr : PT IV} {e : IEx} {rd : Nat} {k : IntKind} {i : Int} {t : Nat} (hz : frzF nm = false) (hm : P.follows .mixedOrders = true) (htt : TT P tt) (hfi : FIok P f fi) (hcl : ClOK P cl) (hfr : ClFr cl)
    (hb : Nat.ble vs.length fi.nt = true) (hr : icode P tt nm S.next fi.nt cl lf none fi.body (argGo vs 0 .leaf) S [] = some ⟨e, fr, S, [], rd, 0⟩) (he : e.leaves = true) (hres : fi.res = [.tmp t]) (hnt : Nat.blt t fi.nt = true) (hs : slot fr t = .int k i)
    {T : TW} {E : Env} {us : List Value} (p : Pre T E S) (hrd : tin T.r (below S.next)) (hv : VRs E vs us) : Callable P f ∧ CallsIn Fence.wide 0 P f us.toArray E.w (RetE T E S ⟨.int k i, S, below S.next, 0⟩) := by
  refine body_ok (fi := fi) (r := ⟨.int k i, S, (rd ||| 0) % 2 ^ S.next, 0⟩) hz hm htt hfi hcl hfr hb hr he ?_ p (below_tin hrd) (fun j hj => by simp at hj) hv
  have e1 : imarks ([] : List Nat) S = some (S, 0) := rfl
  simp only [ileave, e1, hres, ires, hnt, cond_true, hs]
  simp only [tupI, Nat.or_self, igc, Nat.zero_mod, low2, low0, Nat.beq_refl, Bool.and_self, cond_true]
theorem idx_ok {f : Nat} (F : IdxFacts P tt c fi A B L C) (hm : P.follows .mixedOrders = true) (htt : TT P tt) (hfi : FIok P f fi) : HxOK P f (idxF c) := by
  refine ⟨fun cl hcl hfr hcalm vs S r h T E us p hrd hwr hv => ?_, fun cl hfr vs S r h => ?_, fun cl hcalm vs S r h _ _ => ?_⟩
  · obtain ⟨c', l1, g, caps, l0, i, rfl, hrc, hi, rfl⟩ := idxF_inv h
    obtain ⟨rfl, rfl⟩ := recast_some hrc
    have hlen : l0.length * bsz c' ≤ 140737488355328 := by
      obtain ⟨u, us, _, a1, _⟩ := hv.inv
      exact lst_len a1
    have ha := runK (F.a CRes (fun t vs S kk => ob (cl t vs S) kk) S.next (below S.next) (l0.length + 1) l0 g caps S some)
    have hb := runK (F.b CRes (fun t vs S kk => ob (cl t vs S) kk) S.next (below S.next) (l0.length + 1) l0 g caps S some)
    obtain ⟨r, hr, hS, hds, hw, hcase⟩ := idx_loop F hcalm hlen (lf := l0.length + 1) l0 [] (l0.length + 1) (frB c' l0 g caps) rfl (Nat.lt_succ_self _) ⟨rfl, rfl, rfl, rfl⟩ hi
    obtain ⟨re, rfr, rS, rds, rrd, rwr⟩ := r
    simp only at hS hds hw hcase
    subst hS; subst hds; subst hw
    rcases hcase with ⟨he, hs⟩ | ⟨he, hi2⟩
    · subst he
      refine hx_int (vs := [.lst c' l0, .fn g caps]) (nm := nmI 2 [0, 1, 7, 8] (below rS.next)) (lf := l0.length + 1) (fr := rfr) (e := .ret) (k := .i64) (i := i) (t := 4) (rd := mb rS.next rrd) rfl hm htt hfi hcl hfr F.two ?_ rfl F.res F.nt4 hs p hrd hv
      rw [F.body]
      simp only [icode, ha, hb, F.lm, hr, mbO, mbR, mB_I, mb_zero, CRes.or, Nat.zero_or]
    · subst he; subst hi2
      have hc := runK (F.e CRes (fun t vs S kk => ob (cl t vs S) kk) rS.next (below rS.next) (l0.length + 1) rfr rS some)
      refine hx_int (vs := [.lst c' l0, .fn g caps]) (nm := nmI 2 [0, 1, 7, 8] (below rS.next)) (lf := l0.length + 1) (fr := rfr.set (.int .i64 (-1)) 4) (e := .ret) (k := .i64) (i := -1) (t := 4) (rd := mb rS.next rrd) rfl hm htt hfi hcl hfr F.two ?_ rfl F.res F.nt4 (by rw [slot_set, if_pos rfl]) p hrd hv
      rw [F.body]
      simp only [icode, ha, hb, F.lm, hr, mbO, mbR, mB_I, mb_zero, CRes.or, Nat.zero_or, Nat.beq_refl, cond_true, hc, lor_zero, Nat.or_zero]
  · obtain ⟨_, _, _, _, _, _, _, _, _, rfl⟩ := idxF_inv h
    exact FrO.same _ rfl
  · obtain ⟨_, _, _, _, _, _, _, _, _, rfl⟩ := idxF_inv h
    rfl
/-! ### Parts of code -/
def cL : Code → Code
  | .seq a _ => a
  | c => c
def cR : Code → Code
  | .seq _ b => b
  | c => c
def cB : Code → Code
  | .block _ c => c
  | .loop c => c
  | .scope c => c
  | c => c
end Go.Jx
end

/- Contracts out of plain forms; tables of contracts as lists. -/
section
set_option linter.unusedVariables false
namespace Go.Jx
open Go Go.Sx Go.RowKit
universe u

def smL : List (Nat × Sm) → Nat → Option Sm
  | [], _ => none
  | e :: l, f => cond (Nat.beq f e.1) (some e.2) (smL l f)
def SmOK (P : Program) : List (Nat × Sm) → Prop
  | [] => True
  | e :: l => Con P e.1 e.2 ∧ SmOK P l
theorem smL_ok {P : Program} : ∀ {l : List (Nat × Sm)}, SmOK P l → ∀ f s, smL l f = some s → Con P f s
  | [], _, f, s, h => by cases h
  | e :: l, hl, f, s, h => by
    unfold smL at h
    cases hb : Nat.beq f e.1 with
    | true => rw [hb, cond_true] at h; cases h; rw [Nat.eq_of_beq_eq_true hb]; exact hl.1
    | false => rw [hb, cond_false] at h; exact smL_ok hl.2 f s h
def hxL : List (Nat × Hx) → Nat → Option Hx
  | [], _ => none
  | e :: l, f => cond (Nat.beq f e.1) (some e.2) (hxL l f)
def HxsOK (P : Program) : List (Nat × Hx) → Prop
  | [] => True
  | e :: l => HxOK P e.1 e.2.f ∧ HxsOK P l
theorem hxL_ok {P : Program} : ∀ {l : List (Nat × Hx)}, HxsOK P l → ∀ f s, hxL l f = some s → HxOK P f s.f
  | [], _, f, s, h => by cases h
  | e :: l, hl, f, s, h => by
    unfold hxL at h
    cases hb : Nat.beq f e.1 with
    | true => rw [hb, cond_true] at h; cases h; rw [Nat.eq_of_beq_eq_true hb]; exact hl.1
    | false => rw [hb, cond_false] at h; exact hxL_ok hl.2 f s h
def nm1 (f : Nat) (nmf : Nat → Option Nm) : Nat → Nat → Option Nm := fun g => cond (Nat.beq g f) nmf fun _ => none
theorem nm1_self (f : Nat) (nmf : Nat → Option Nm) : nm1 f nmf f = nmf := by unfold nm1; rw [Nat.beq_refl, cond_true]
theorem conT {P : Program} {tt : Nat → Option TI} {ft : Nat → Option FI} {sml : List (Nat × Sm)} {hxl : List (Nat × Hx)} {f : Nat} {s : Sm} {fi : FI} {nmf : Nat → Option Nm} {st hd : Nat → Bool} (n : Nat) (hm : P.follows .mixedOrders = true) (htt : TT P tt) (hft : FT P ft) (hsm : SmOK P sml)
    (hhx : HxsOK P hxl) (hC : Callable P f) (h1 : smL sml f = none) (h2 : hxL hxl f = none) (h3 : ft f = some fi) (h4 : ∀ x, Nat.ble (argV s.pts x).length fi.nt = true) (hn : (regs fi.body).Nodup) (hl : okC nmf st hd fi.body none = true)
    (hrun : ∀ (x : ElA s.pts) (y : ElR s.rts), WfA s.pts x → s.f x = some y → ∃ lf,
      icodeT P tt nmf fi.nt (icallK P tt ft (nm1 f nmf) (smL sml) (hxL hxl) lf n (ElR s.rts)) lf st (atN P tt nmf fi s (icallK P tt ft (nm1 f nmf) (smL sml) (hxL hxl) lf n (ElR s.rts)) lf hd) fi.body [] (argGo (argV s.pts x) 0 .leaf) S0 [] (lastK tt fi s) = some y) (hz : frzF nmf = false := by rfl) : Con P f s := by
  refine conK (nm := nm1 f nmf) (sm := smL sml) (hx := hxL hxl) hm htt hft (smL_ok hsm) (hxL_ok hhx) hC fun x y hx2 hy => ?_
  obtain ⟨lf, hr⟩ := hrun x y hx2 hy
  refine ⟨n + 1, lf, ?_⟩
  rw [← at_in (icallK_eq n _) hn hl] at hr
  have e := nm1_self f nmf
  unfold icallK
  simp only [h1, h2, h3, h4, cond_true, e, hz, cond_false]
  exact hr
def S.lit (l : List Nat) : ByteArray := ⟨⟨l.map UInt8.ofNat⟩⟩
end Go.Jx
end

/- The calls of strings.IndexFunc; the interpreter is monotone in its calls. -/
section
set_option linter.unusedVariables false
namespace Go.Jx
open Go Go.Sx Go.RowKit
universe u

section
variable {P : Program} {tt : Nat → Option TI} {nm : Nat → Option Nm} {B nt lf : Nat} {round : Option Nat} {cl cl' : Cl}
def ClLe (cl cl' : Cl) : Prop := ∀ t vs S r, cl t vs S = some r → cl' t vs S = some r
theorem istep_mono (h : ClLe cl cl') {fr : PT IV} {S : IS} {o : Oper} {r : Res} (hr : istep P tt nt cl fr S o = some r) : istep P tt nt cl' fr S o = some r := by
  obtain ⟨dst, op, ty, pos, aft, g⟩ := o
  cases op <;> try exact hr
  rename_i c
  obtain ⟨callee, args, ts⟩ := c
  cases callee <;> try exact hr
  rename_i x
  simp only [istep, oget] at hr ⊢
  generalize evo nt fr x = e1 at hr ⊢
  cases e1 with
  | none => cases hr
  | some v =>
    simp only at hr ⊢
    generalize evL nt fr args.toList = e2 at hr ⊢
    cases e2 with
    | none => cases hr
    | some vs =>
      cases v <;> simp only at hr ⊢ <;> first | (cases hr; done) | exact h _ _ _ _ hr
theorem iseq_mono (h : ClLe cl cl') {ops : List Oper} : ∀ {l : List Oper} {fr : PT IV} {S : IS} {q : FRes}, iseq P tt nt cl ops l fr S = some q → iseq P tt nt cl' ops l fr S = some q
  | [], fr, S, q, hq => hq
  | o :: l, fr, S, q, hq => by
    unfold iseq at hq ⊢
    cases hgk : gOK ops fr o.guard with
    | false => rw [hgk] at hq; cases hq
    | true =>
    rw [hgk, cond_true] at hq
    rw [cond_true]
    cases hw : wantI ops nt fr o.guard with
    | true =>
      rw [hw, cond_true] at hq
      rw [cond_true]
      cases hs : istep P tt nt cl fr S o with
      | none => rw [hs] at hq; cases hq
      | some r =>
        rw [hs] at hq
        rw [istep_mono h hs]
        simp only at hq ⊢
        cases hn : iseq P tt nt cl ops l (putD o.dst r.v fr) r.S with
        | none => rw [hn] at hq; cases hq
        | some q2 => rw [hn] at hq; rw [iseq_mono h hn]; exact hq
    | false =>
      rw [hw, cond_false] at hq
      rw [cond_false]
      exact iseq_mono h hq
theorem irecs_mono (h : ClLe cl cl') {ops : List Oper} : ∀ {l : List Oper} {fr : PT IV} {S : IS} {q : Recs}, irecs P tt nt cl ops l fr S = some q → irecs P tt nt cl' ops l fr S = some q
  | [], fr, S, q, hq => hq
  | o :: l, fr, S, q, hq => by
    unfold irecs at hq ⊢
    cases hgk : gOK ops fr o.guard with
    | false => rw [hgk] at hq; cases hq
    | true =>
    rw [hgk, cond_true] at hq
    rw [cond_true]
    cases hw : wantI ops nt fr o.guard with
    | true =>
      rw [hw, cond_true] at hq
      rw [cond_true]
      cases hs : istep P tt nt cl fr S o with
      | none => rw [hs] at hq; cases hq
      | some r =>
        rw [hs] at hq
        rw [istep_mono h hs]
        simp only at hq ⊢
        cases hn : irecs P tt nt cl ops l (putD o.dst r.v fr) r.S with
        | none => rw [hn] at hq; cases hq
        | some q2 => rw [hn] at hq; rw [irecs_mono h hn]; exact hq
    | false =>
      rw [hw, cond_false] at hq
      rw [cond_false]
      cases hn : irecs P tt nt cl ops l (putD o.dst (.tup []) fr) S with
      | none => rw [hn] at hq; cases hq
      | some q2 => rw [hn] at hq; rw [irecs_mono h hn]; exact hq
theorem iany_mono (h : ClLe cl cl') {ops : List Oper} {fr : PT IV} {S : IS} {q : FRes} (hq : iany P tt nt cl ops fr S = some q) : iany P tt nt cl' ops fr S = some q := by
  unfold iany at hq ⊢
  cases hn : irecs P tt nt cl ops ops fr S with
  | none => rw [hn] at hq; cases hq
  | some q2 => rw [hn] at hq; rw [irecs_mono h hn]; exact hq
theorem ifin_mono (h : ClLe cl cl') {f : Nat} {caps : List IV} {S : IS} {id : Nat} {fr : PT IV} {ds : List Nat} {rd : Nat} {q : CRes} (hq : ifin cl f caps S id fr ds rd = some q) : ifin cl' f caps S id fr ds rd = some q := by
  unfold ifin at hq ⊢
  cases hn : cl (.fn f) (.yield id :: caps) S with
  | none => rw [hn] at hq; cases hq
  | some r => rw [hn] at hq; rw [h _ _ _ _ hn]; exact hq
theorem icode_mono (h : ClLe cl cl') : ∀ (c : Code) {fr : PT IV} {S : IS} {ds : List Nat} {q : CRes}, icode P tt nm B nt cl lf round c fr S ds = some q → icode P tt nm B nt cl' lf round c fr S ds = some q := by
  intro c
  induction c with
  | skip => intro fr S ds q hq; exact hq
  | label l => intro fr S ds q hq; exact hq
  | exit id => intro fr S ds q hq; exact hq
  | goto l => intro fr S ds q hq; exact hq
  | ret => intro fr S ds q hq; exact hq
  | refuse _ => intro fr S ds q hq; exact hq
  | region id ops draw =>
    intro fr S ds q hq
    simp only [icode] at hq ⊢
    cases hx : inorm nt (nm id) B fr S ds with
    | none => rw [hx] at hq; cases hq
    | some x =>
      rw [hx] at hq
      simp only at hq ⊢
      cases draw with
      | true =>
        simp only [cond_true] at hq ⊢
        cases hn : iany P tt nt cl ops.toList x.fr x.S with
        | none => rw [hn] at hq; cases hq
        | some r => rw [hn] at hq; rw [iany_mono h hn]; exact hq
      | false =>
        simp only [cond_false] at hq ⊢
        cases hn : iseq P tt nt cl ops.toList ops.toList x.fr x.S with
        | none => rw [hn] at hq; cases hq
        | some r => rw [hn] at hq; rw [iseq_mono h hn]; exact hq
  | seq x y ihx ihy =>
    intro fr S ds q hq
    simp only [icode] at hq ⊢
    cases hn : icode P tt nm B nt cl lf round x fr S ds with
    | none => rw [hn] at hq; cases hq
    | some r =>
      rw [hn] at hq
      rw [ihx hn]
      simp only at hq ⊢
      cases he : r.e <;> rw [he] at hq <;> simp only at hq ⊢ <;> try exact hq
      cases hn2 : icode P tt nm B nt cl lf round y r.fr r.S r.ds with
      | none => rw [hn2] at hq; cases hq
      | some r2 => rw [hn2] at hq; rw [ihy hn2]; exact hq
  | cond c x y ihx ihy =>
    intro fr S ds q hq
    simp only [icode] at hq ⊢
    cases hv : evo nt fr c with
    | none => rw [hv] at hq; cases hq
    | some v =>
      rw [hv] at hq
      cases v <;> simp only at hq ⊢ <;> try (cases hq; done)
      rename_i b
      cases b with
      | true => exact ihx hq
      | false => exact ihy hq
  | block id c ih =>
    intro fr S ds q hq
    simp only [icode] at hq ⊢
    cases hn : icode P tt nm B nt cl lf round c fr S ds with
    | none => rw [hn] at hq; cases hq
    | some r => rw [hn] at hq; rw [ih hn]; exact hq
  | scope c ih =>
    intro fr S ds q hq
    simp only [icode] at hq ⊢
    cases hn : icode P tt nm B nt cl lf round c fr S ds with
    | none => rw [hn] at hq; cases hq
    | some r => rw [hn] at hq; rw [ih hn]; exact hq
  | loop c ih =>
    intro fr S ds q hq
    simp only [icode] at hq ⊢
    cases hm : loopM nm c with
    | some m =>
      rw [hm] at hq
      simp only at hq ⊢
      obtain ⟨q0, hq0, rfl⟩ := mbO_some hq
      have key : ∀ n fr S ds q, iiterM (icode P tt nm B nt cl lf round c) m.1 m.2 n fr S ds = some q → iiterM (icode P tt nm B nt cl' lf round c) m.1 m.2 n fr S ds = some q := by
        intro n
        induction n with
        | zero => intro fr S ds q hq; exact hq
        | succ n ihn =>
          intro fr S ds q hq
          unfold iiterM at hq ⊢
          cases hn : icode P tt nm B nt cl lf round c fr S ds with
          | none => rw [hn] at hq; cases hq
          | some r =>
            rw [hn] at hq
            rw [ih hn]
            simp only at hq ⊢
            cases hb : (subm r.rd m.1 && subm r.wr m.2) with
            | false => rw [hb] at hq; cases hq
            | true =>
              rw [hb, cond_true] at hq
              rw [cond_true]
              cases he : r.e <;> rw [he] at hq <;> simp only at hq ⊢ <;> first | exact ihn _ _ _ _ hq | exact hq
      rw [key _ _ _ _ _ hq0]
      rfl
    | none =>
      rw [hm] at hq
      simp only at hq ⊢
      have key : ∀ n fr S ds q, iiter (icode P tt nm B nt cl lf round c) n fr S ds = some q → iiter (icode P tt nm B nt cl' lf round c) n fr S ds = some q := by
        intro n
        induction n with
        | zero => intro fr S ds q hq; exact hq
        | succ n ihn =>
          intro fr S ds q hq
          unfold iiter at hq ⊢
          cases hn : icode P tt nm B nt cl lf round c fr S ds with
          | none => rw [hn] at hq; cases hq
          | some r =>
            rw [hn] at hq
            rw [ih hn]
            simp only at hq ⊢
            cases he : r.e <;> rw [he] at hq <;> simp only at hq ⊢ <;> try exact hq
            cases hn2 : iiter (icode P tt nm B nt cl lf round c) n r.fr r.S r.ds with
            | none => rw [hn2] at hq; cases hq
            | some r2 => rw [hn2] at hq; rw [ihn _ _ _ _ hn2]; exact hq
      exact key _ _ _ _ _ hq
  | rangeFunc g ps assign body ih1 ih2 =>
    intro fr S ds q hq
    simp only [icode] at hq ⊢
    obtain ⟨q0, hq0, rfl⟩ := mbO_some hq
    cases hv : evo nt fr g with
    | none => rw [hv] at hq0; cases hq0
    | some v =>
      rw [hv] at hq0
      cases v <;> simp only at hq0 ⊢ <;> try (cases hq0; done)
      cases round with
      | none => simp only at hq0 ⊢; rw [ifin_mono h hq0]; rfl
      | some l =>
        simp only at hq0 ⊢
        cases ho : S.heap.get l with
        | none => rw [ho] at hq0; cases hq0
        | some o =>
          rw [ho] at hq0
          cases o <;> simp only at hq0 ⊢ <;> try (cases hq0; done)
          rw [ifin_mono h hq0]; rfl
end

/-! ### Runes of a text -/
def sixO (p : Nat → Int → Option Bool) (s : ByteArray) (b : Bool) : Nat → Nat → Option Int
  | 0, _ => none
  | n + 1, i => cond (Nat.blt i s.size) (match p (i + (Utf8.decode s i).2) (Int.ofNat (Utf8.decode s i).1) with
    | none => none
    | some a => cond (decide (a = b)) (some (Int.ofNat i)) (sixO p s b n (i + (Utf8.decode s i).2))) (some (-1))
def sixF (cl : Cl) (vs : List IV) (S : IS) : Option Res := match vs with
  | [.str s, .fn g caps, .bool b] => match sixO (fun q x => ob (cl (.fn g) (.int .i32 x :: caps) (S.new (.iter s q))) (ansB (below S.next))) s b (s.size + 1) 0 with
    | none => none
    | some i => some ⟨.int .i64 i, S, below S.next, 0⟩
  | _ => none
def sixK (clP : ClP) (R : Type) (vs : List IV) (S : IS) (kk : Res → Option R) : Option R := match vs with
  | [.str s, .fn g caps, .bool b] => match sixO (fun q x => clP Bool (.fn g) (.int .i32 x :: caps) (S.new (.iter s q)) (ansB (below S.next))) s b (s.size + 1) 0 with
    | none => none
    | some i => kk ⟨.int .i64 i, S, below S.next, 0⟩
  | _ => none
theorem six_eq (cl : Cl) (clP : ClP) (h : ∀ R, ClEq cl (clP R)) (R : Type) (vs : List IV) (S : IS) (kk : Res → Option R) : sixK clP R vs S kk = ob (sixF cl vs S) kk := by
  unfold sixK sixF
  split
  · rename_i s g caps b
    simp only [h Bool _ _ _ _]
    cases sixO (fun q x => ob (cl (.fn g) (.int .i32 x :: caps) (S.new (.iter s q))) (ansB (below S.next))) s b (s.size + 1) 0 <;> rfl
  · rfl
def sixHx : Hx := ⟨sixF, sixK, six_eq⟩
theorem sixF_inv {cl : Cl} {vs : List IV} {S : IS} {r : Res} (h : sixF cl vs S = some r) : ∃ s g caps b i, vs = [.str s, .fn g caps, .bool b] ∧ sixO (fun q x => ob (cl (.fn g) (.int .i32 x :: caps) (S.new (.iter s q))) (ansB (below S.next))) s b (s.size + 1) 0 = some i ∧ r = ⟨.int .i64 i, S, below S.next, 0⟩ := by
  unfold sixF at h
  split at h
  · rename_i s g caps b
    split at h <;> cases h
    rename_i i hi
    exact ⟨_, _, _, _, _, rfl, hi, rfl⟩
  · cases h
def nmS (mr mw : Nat) : Nat → Option Nm := fun j => cond (Nat.beq j 2) (some ⟨[1, 2, 10], [], [], [], [], mr, mw, true⟩) none
theorem mB_S (mr mw B : Nat) : mB (nmS mr mw) B = B := rfl
def frS (g : Nat) (caps : List IV) (b : Bool) (id : Nat) : PT IV := ((PT.leaf.set (.fn g caps) 1).set (.bool b) 2).set (.ptr id 0) 10
def clT (test : Tgt → List IV → IS → Bool) (c : Res) : Cl := fun t vs S => cond (test t vs S) (some c) none
structure SixFacts (P : Program) (tt : Nat → Option TI) (fi : FI) (A B L C : Code) : Prop where
  body : fi.body = .seq A (.seq (.seq B (.block 0 (.loop L))) C)
  three : Nat.ble 3 fi.nt = true
  head : ∀ mr mw, okC (nmS mr mw) (fun k => Nat.beq k 2) (fun k => Nat.beq k 2) L (some 2) = true
  ab : ∀ (R : Type) (clK : ClK R) (B0 mr mw lf : Nat) (s : ByteArray) (g : Nat) (caps : List IV) (b : Bool) (S : IS) (kk : _ → Option R), icodeK P tt (nmS mr mw) B0 fi.nt clK lf none (.seq A B) (argGo [.str s, .fn g caps, .bool b] 0 .leaf) S [] (fun r => kk (tup [1, 2, 10] r)) =
    kk (.normal, [.fn g caps, .bool b, .ptr S.next 0], S.new (.iter s 0), [], (mb B0 0).lor (mb B0 0), (mb B0 0).lor (mb B0 0))
  l : ∀ (R : Type) (B0 mr mw lf : Nat) (g : Nat) (caps : List IV) (b a : Bool) (id rd : Nat) (S S' : IS) (test : Tgt → List IV → IS → Bool) (kk : _ → Option R), icodeK P tt (nmS mr mw) B0 fi.nt (fun t vs S kk => cond (test t vs S) (kk ⟨.bool a, S', rd, 0⟩) none) lf none L (frS g caps b id) S [] (fun r => kk (tup [1, 2, 6, 10] r)) =
    match S.heap.get id with
    | some (.iter s p) => cond (Nat.blt p s.size)
      (cond (test (.fn g) (.int .i32 (Int.ofNat (Utf8.decode s p).1) :: caps) (S.set id (.iter s (p + (Utf8.decode s p).2))))
        (cond (decide (a = b))
          (kk (.ret, [.fn g caps, .bool b, .int .i64 (Int.ofNat p), .ptr id 0], S', [], (mb B0 0).lor (Nat.lor 0 ((mb B0 0).lor ((mb B0 (Nat.lor 0 (Nat.lor 0 (rd.lor 0)))).lor ((mb B0 0).lor 0)))),
            (mb B0 (Nat.lor 0 ((Nat.pow 2 id).lor 0))).lor (Nat.lor 0 ((mb B0 0).lor ((mb B0 0).lor ((mb B0 0).lor 0))))))
          (kk (.normal, [.fn g caps, .bool b, .unk, .ptr id 0], S', [], (mb B0 0).lor (Nat.lor 0 ((mb B0 0).lor ((mb B0 (Nat.lor 0 (Nat.lor 0 (rd.lor 0)))).lor 0))),
            (mb B0 (Nat.lor 0 ((Nat.pow 2 id).lor 0))).lor (Nat.lor 0 ((mb B0 0).lor ((mb B0 0).lor 0))))))
        none)
      (kk (.exit 0, [.fn g caps, .bool b, .unk, .ptr id 0], S, [], (mb B0 ((Nat.pow 2 id).lor 0)).lor 0, (mb B0 0).lor 0))
    | _ => none
  e : ∀ (R : Type) (clK : ClK R) (B0 mr mw lf : Nat) (fr : PT IV) (S : IS) (kk : CRes → Option R), icodeK P tt (nmS mr mw) B0 fi.nt clK lf none C fr S [] kk = kk ⟨.ret, fr.set (.int .i64 (-1)) 6, S, [], (mb B0 0).lor 0, (mb B0 0).lor 0⟩
  res : fi.res = [.tmp 6]
  nt6 : Nat.blt 6 fi.nt = true
  lm : ∀ mr mw, loopM (nmS mr mw) L = some (mr, mw)
theorem PT.one_set {α : Type u} (x y : α) : ∀ (f n : Nat), n ≤ f → (PT.one x f n).set y n = PT.one y f n
  | 0, n, h => by
    obtain rfl : n = 0 := by omega
    rfl
  | f + 1, n, h => by
    by_cases hn : n = 0
    · subst hn; rfl
    · by_cases h2 : n % 2 = 1
      · simp only [PT.one, beq_f hn, cond_false, beq_t h2, cond_true, PT.set]
        rw [PT.one_set x y f _ (by omega)]
      · simp only [PT.one, beq_f hn, cond_false, beq_f h2, PT.set]
        rw [PT.one_set x y f _ (by omega)]
theorem PT.set_set {α : Type u} (x y : α) : ∀ (t : PT α) (n : Nat), (t.set x n).set y n = t.set y n
  | .leaf, n => PT.one_set x y n n (Nat.le_refl _)
  | .node v l r, n => by
    by_cases hn : n = 0
    · subst hn; rfl
    · by_cases h2 : n % 2 = 1
      · simp only [PT.set, beq_f hn, cond_false, beq_t h2, cond_true]
        rw [PT.set_set x y l]
      · simp only [PT.set, beq_f hn, cond_false, beq_f h2]
        rw [PT.set_set x y r]
theorem IS.new_set (S : IS) (o o' : IObj) : (S.new o).set S.next o' = S.new o' := by
  unfold IS.new IS.set
  simp only [PT.set_set]
theorem IS.new_get (S : IS) (o : IObj) : (S.new o).heap.get S.next = some o := by
  unfold IS.new
  simp only [PT.get_set, if_true]
theorem subm_iff {a m : Nat} : subm a m = true ↔ ∀ j, a.testBit j = true → m.testBit j = true := by
  constructor
  · intro h j hj; exact subm_tin (T := fun j => m.testBit j = true) h (fun j hj => hj) j hj
  · intro h
    unfold subm
    have : a ||| m = m := Nat.eq_of_testBit_eq fun j => by
      rw [Nat.testBit_or]
      cases ha : a.testBit j with
      | false => rfl
      | true => rw [h j ha]; rfl
    rw [this]; exact Nat.beq_refl m
theorem below_bit (n j : Nat) : (below n).testBit j = decide (j < n) := by unfold below; exact Nat.testBit_two_pow_sub_one ..
theorem hx_int2 {P : Program} {tt : Nat → Option TI} {fi : FI} {f : Nat} {nm : Nat → Option Nm} {lf : Nat} {cl : Cl} {vs : List IV} {S S1 : IS} {fr : PT IV} {e : IEx} {rd wr : Nat} {k : IntKind} {i : Int} {t : Nat} (hz : frzF nm = false) (hm : P.follows .mixedOrders = true) (htt : TT P tt) (hfi : FIok P f fi) (hcl : ClOK P cl) (hfr : ClFr cl)
    (hb : Nat.ble vs.length fi.nt = true) (hr : icode P tt nm S.next fi.nt cl lf none fi.body (argGo vs 0 .leaf) S [] = some ⟨e, fr, S1, [], rd, wr⟩) (hw : wr % 2 ^ S.next = 0) (he : e.leaves = true) (hres : fi.res = [.tmp t]) (hnt : Nat.blt t fi.nt = true) (hs : slot fr t = .int k i)
    {T : TW} {E : Env} {us : List Value} (p : Pre T E S) (hrd : tin T.r (below S.next)) (hv : VRs E vs us) : Callable P f ∧ CallsIn Fence.wide 0 P f us.toArray E.w (RetE T E S ⟨.int k i, S, below S.next, 0⟩) := by
  refine body_ok (fi := fi) (r := ⟨.int k i, S, (rd ||| 0) % 2 ^ S.next, 0⟩) hz hm htt hfi hcl hfr hb hr he ?_ p (below_tin hrd) (fun j hj => by simp at hj) hv
  have e1 : imarks ([] : List Nat) S1 = some (S1, 0) := rfl
  simp only [ileave, e1, hres, ires, hnt, cond_true, hs]
  simp only [tupI, igc, low2, low0, Nat.or_zero, hw, Nat.beq_refl, Bool.and_self, cond_true]
variable {P : Program} {tt : Nat → Option TI} {fi : FI} {A B L C : Code}
theorem six_loop (F : SixFacts P tt fi A B L C) {cl : Cl} (hcalm : Calm cl) {s : ByteArray} {b : Bool} {g : Nat} {caps : List IV} {S : IS} {i : Int} {lf : Nat} : ∀ (fuel p : Nat) (fr : PT IV), (slot fr 1 = .fn g caps ∧ slot fr 2 = .bool b ∧ slot fr 10 = .ptr S.next 0) →
    sixO (fun q x => ob (cl (.fn g) (.int .i32 x :: caps) (S.new (.iter s q))) (ansB (below S.next))) s b fuel p = some i →
    ∃ r, iiterM (icode P tt (nmS (below (S.next + 1)) (2 ^ S.next)) S.next fi.nt cl lf none L) (below (S.next + 1)) (2 ^ S.next) fuel fr (S.new (.iter s p)) [] = some r ∧ r.ds = [] ∧ r.rd = below (S.next + 1) ∧ r.wr = 2 ^ S.next ∧ ((r.e = .ret ∧ slot r.fr 6 = .int .i64 i) ∨ (r.e = .exit 0 ∧ i = -1)) := by
  intro fuel
  induction fuel with
  | zero => intro p fr hs hi; cases hi
  | succ n ih =>
    intro p fr hs hi
    have e1 := fun cl => headedO (P := P) (tt := tt) (B := S.next) (nt := fi.nt) (lf := lf) (cl := cl) (h := 2) (m := ⟨[1, 2, 10], [], [], [], [], below (S.next + 1), 2 ^ S.next, true⟩) rfl rfl (fr := fr) (fr' := frS g caps b S.next) (by
      intro t ht
      simp only [List.mem_cons, List.not_mem_nil, or_false] at ht
      rcases ht with rfl | rfl | rfl
      · exact hs.1
      · exact hs.2.1
      · exact hs.2.2) (c := L) (S := S.new (.iter s p)) (ds := []) (F.head _ _)
    have hb1 : ∀ x, subm x (below S.next) = true → subm (mb S.next x) (below (S.next + 1)) = true := fun x hx => mb_subm (by
      rw [subm_iff] at hx ⊢
      intro j hj
      have := hx j hj
      rw [below_bit] at this ⊢
      simp only [decide_eq_true_eq] at this ⊢
      omega)
    have hb2 : subm (mb S.next (2 ^ S.next)) (2 ^ S.next) = true := mb_subm (subm_self _)
    have hb3 : subm (mb S.next (2 ^ S.next)) (below (S.next + 1)) = true := mb_subm (by
      rw [subm_iff]
      intro j hj
      rw [Nat.testBit_two_pow] at hj
      rw [below_bit]
      simp only [decide_eq_true_eq] at hj ⊢
      omega)
    have hpw : Nat.pow 2 S.next = 2 ^ S.next := rfl
    unfold sixO at hi
    cases hlt : Nat.blt p s.size with
    | false =>
      rw [hlt, cond_false] at hi
      cases hi
      have e2 := F.l (IEx × List IV × IS × List Nat × Nat × Nat) S.next (below (S.next + 1)) (2 ^ S.next) lf g caps b false S.next 0 (S.new (.iter s p)) S (fun _ _ _ => false) some
      rw [IS.new_get] at e2
      simp only [hlt, cond_false, cond_true, mb_zero, lor_zero, zero_lor] at e2
      have ec : (fun (t : Tgt) (vs : List IV) (S : IS) (kk : Res → Option (IEx × List IV × IS × List Nat × Nat × Nat)) => (none : Option (IEx × List IV × IS × List Nat × Nat × Nat))) = fun t vs S kk => ob ((fun _ _ _ => none : Cl) t vs S) kk := rfl
      rw [ec] at e2
      obtain ⟨r, hr, ht⟩ := run_tup e2
      have hr := icode_mono (cl' := cl) (fun t vs S r h => by cases h) _ hr
      simp only [tup, Prod.mk.injEq] at ht
      obtain ⟨t1, t2, t3, t4, t5, t6⟩ := ht
      refine ⟨⟨.exit 0, r.fr, S.new (.iter s p), [], below (S.next + 1), 2 ^ S.next⟩, ?_, rfl, rfl, rfl, .inr ⟨rfl, rfl⟩⟩
      unfold iiterM
      rw [e1 cl]
      have hr' : icode P tt (nmS (below (S.next + 1)) (2 ^ S.next)) S.next fi.nt cl lf none L (frS g caps b S.next) (S.new (.iter s p)) [] = some r := hr
      simp only [hr', t5, t6, hpw, hb3, subm_zero, Bool.and_self, cond_true, t1, t3, t4]
    | true =>
      rw [hlt, cond_true] at hi
      cases hc : cl (.fn g) (.int .i32 (Int.ofNat (Utf8.decode s p).1) :: caps) (S.new (.iter s (p + (Utf8.decode s p).2))) with
      | none => rw [hc] at hi; cases hi
      | some r0 =>
      rw [hc] at hi
      simp only [ob] at hi
      obtain ⟨v0, S0', rd0, wr0⟩ := r0
      cases v0 <;> simp only [ansB] at hi <;> try (cases hi; done)
      rename_i a
      cases hmk : (Nat.beq wr0 0 && subm rd0 (below S.next)) with
      | false => rw [hmk] at hi; cases hi
      | true =>
      rw [hmk] at hi
      simp only [Bool.and_eq_true] at hmk
      have hw0 : wr0 = 0 := Nat.eq_of_beq_eq_true hmk.1
      subst hw0
      have hS : S0' = S.new (.iter s (p + (Utf8.decode s p).2)) := hcalm _ _ _ _ hc rfl rfl
      subst hS
      simp only [cond_true] at hi
      have hsm := hb1 _ hmk.2
      let c0 : Res := ⟨.bool a, S.new (.iter s (p + (Utf8.decode s p).2)), rd0, 0⟩
      let test : Tgt → List IV → IS → Bool := fun t vs S => @decide (cl t vs S = some c0) (Classical.propDecidable _)
      have hle : ClLe (clT test c0) cl := fun t vs S r h => by
        unfold clT at h
        cases ht : test t vs S with
        | false => rw [ht] at h; cases h
        | true =>
          rw [ht] at h; cases h
          exact @of_decide_eq_true _ (Classical.propDecidable _) ht
      have e2 := F.l (IEx × List IV × IS × List Nat × Nat × Nat) S.next (below (S.next + 1)) (2 ^ S.next) lf g caps b a S.next rd0 (S.new (.iter s p)) (S.new (.iter s (p + (Utf8.decode s p).2))) test some
      rw [IS.new_get] at e2
      have htest : test (.fn g) (.int .i32 (Int.ofNat (Utf8.decode s p).1) :: caps) ((S.new (.iter s p)).set S.next (.iter s (p + (Utf8.decode s p).2))) = true := by
        rw [IS.new_set]
        exact @decide_eq_true _ (Classical.propDecidable _) hc
      simp only [hlt, htest, cond_true, mb_zero, lor_zero, zero_lor] at e2
      cases hab : decide (a = b) with
      | true =>
        rw [hab, cond_true] at e2 hi
        cases hi
        have ec : (fun (t : Tgt) (vs : List IV) (S : IS) (kk : Res → Option (IEx × List IV × IS × List Nat × Nat × Nat)) => cond (test t vs S) (kk c0) none) = fun t vs S kk => ob (clT test c0 t vs S) kk := by
          funext t vs S kk
          unfold clT
          cases test t vs S <;> rfl
        rw [ec] at e2
        obtain ⟨r, hr, ht⟩ := run_tup e2
        have hr := icode_mono hle _ hr
        simp only [tup, Prod.mk.injEq, List.map_cons, List.cons.injEq] at ht
        obtain ⟨t1, t2, t3, t4, t5, t6⟩ := ht
        refine ⟨⟨.ret, r.fr, S.new (.iter s (p + (Utf8.decode s p).2)), [], below (S.next + 1), 2 ^ S.next⟩, ?_, rfl, rfl, rfl, .inl ⟨rfl, t2.2.2.1⟩⟩
        unfold iiterM
        rw [e1 cl]
        have hr' : icode P tt (nmS (below (S.next + 1)) (2 ^ S.next)) S.next fi.nt cl lf none L (frS g caps b S.next) (S.new (.iter s p)) [] = some r := hr
        simp only [hr', t5, t6, hpw, hsm, hb2, Bool.and_self, cond_true, t1, t3, t4]
      | false =>
        rw [hab, cond_false] at e2 hi
        have ec : (fun (t : Tgt) (vs : List IV) (S : IS) (kk : Res → Option (IEx × List IV × IS × List Nat × Nat × Nat)) => cond (test t vs S) (kk c0) none) = fun t vs S kk => ob (clT test c0 t vs S) kk := by
          funext t vs S kk
          unfold clT
          cases test t vs S <;> rfl
        rw [ec] at e2
        obtain ⟨r, hr, ht⟩ := run_tup e2
        have hr := icode_mono hle _ hr
        simp only [tup, Prod.mk.injEq, List.map_cons, List.cons.injEq] at ht
        obtain ⟨t1, t2, t3, t4, t5, t6⟩ := ht
        obtain ⟨q, q1, q2⟩ := ih (p + (Utf8.decode s p).2) r.fr ⟨t2.1, t2.2.1, t2.2.2.2.1⟩ hi
        refine ⟨q, ?_, q2⟩
        unfold iiterM
        rw [e1 cl]
        have hr' : icode P tt (nmS (below (S.next + 1)) (2 ^ S.next)) S.next fi.nt cl lf none L (frS g caps b S.next) (S.new (.iter s p)) [] = some r := hr
        simp only [hr', t5, t6, hpw, hsm, hb2, Bool.and_self, cond_true, t1, t3, t4]
        exact q1
theorem mb_mod (n : Nat) : mb n (2 ^ n) % 2 ^ n = 0 := by
  unfold mb
  cases Nat.beq n 0
  · exact Nat.mod_self _
  · exact Nat.zero_mod _
theorem six_ok {f : Nat} (F : SixFacts P tt fi A B L C) (hm : P.follows .mixedOrders = true) (htt : TT P tt) (hfi : FIok P f fi) : HxOK P f sixF := by
  refine ⟨fun cl hcl hfr hcalm vs S r h T E us p hrd hwr hv => ?_, fun cl hfr vs S r h => ?_, fun cl hcalm vs S r h _ _ => ?_⟩
  · obtain ⟨s, g, caps, b, i, rfl, hi, rfl⟩ := sixF_inv h
    obtain ⟨ra, hra, hta⟩ := run_tup (cl := cl) (F.ab (IEx × List IV × IS × List Nat × Nat × Nat) (fun t vs S kk => ob (cl t vs S) kk) S.next (below (S.next + 1)) (2 ^ S.next) (s.size + 1) s g caps b S some)
    obtain ⟨rae, rafr, raS, rads, rard, rawr⟩ := ra
    simp only [tup, Prod.mk.injEq, List.map_cons, List.map_nil, List.cons.injEq, mb_zero, lor_zero] at hta
    obtain ⟨rfl, ⟨s1, s2, s3, _⟩, rfl, rfl, rfl, rfl⟩ := hta
    obtain ⟨r, hr, hds, hrd2, hwr2, hcase⟩ := six_loop F hcalm (lf := s.size + 1) (s.size + 1) 0 rafr ⟨s1, s2, s3⟩ hi
    obtain ⟨re, rfr, rS, rds, rrd, rwr⟩ := r
    simp only at hds hrd2 hwr2 hcase
    subst hds; subst hrd2; subst hwr2
    simp only [icode] at hra
    cases hA : icode P tt (nmS (below (S.next + 1)) (2 ^ S.next)) S.next fi.nt cl (s.size + 1) none A (argGo [.str s, .fn g caps, .bool b] 0 .leaf) S [] with
    | none => rw [hA] at hra; cases hra
    | some qa =>
    rw [hA] at hra
    simp only at hra
    obtain ⟨qe, qfr, qS, qds, qrd, qwr⟩ := qa
    cases qe <;> simp only at hra <;> try (cases hra; done)
    cases hB : icode P tt (nmS (below (S.next + 1)) (2 ^ S.next)) S.next fi.nt cl (s.size + 1) none B qfr qS qds with
    | none => rw [hB] at hra; cases hra
    | some qb =>
    rw [hB] at hra
    obtain ⟨be, bfr, bS, bds, brd, bwr⟩ := qb
    simp only [CRes.or, Option.some.injEq, CRes.mk.injEq] at hra
    obtain ⟨rfl, rfl, rfl, rfl, h5, h6⟩ := hra
    obtain ⟨z1, z2⟩ : qwr = 0 ∧ bwr = 0 := by
      constructor
      · exact Nat.eq_of_testBit_eq fun j => by have := congrArg (fun x => x.testBit j) h6; simp [Nat.testBit_or] at this; simp [this.1]
      · exact Nat.eq_of_testBit_eq fun j => by have := congrArg (fun x => x.testBit j) h6; simp [Nat.testBit_or] at this; simp [this.2]
    subst z1; subst z2
    rcases hcase with ⟨he, hs⟩ | ⟨he, hi2⟩
    · subst he
      refine hx_int2 (vs := [.str s, .fn g caps, .bool b]) (nm := nmS (below (S.next + 1)) (2 ^ S.next)) (lf := s.size + 1) (fr := rfr) (e := .ret) (k := .i64) (i := i) (t := 6) (S1 := rS) (rd := qrd ||| (brd ||| mb S.next (below (S.next + 1)))) (wr := mb S.next (2 ^ S.next)) rfl hm htt hfi hcl hfr F.three ?_ (mb_mod _) rfl F.res F.nt6 hs p hrd hv
      rw [F.body]
      simp only [icode, hA, hB, F.lm, hr, mbO, mbR, mB_S, CRes.or, Nat.zero_or]
    · subst he; subst hi2
      have hc := runK (F.e CRes (fun t vs S kk => ob (cl t vs S) kk) S.next (below (S.next + 1)) (2 ^ S.next) (s.size + 1) rfr rS some)
      refine hx_int2 (vs := [.str s, .fn g caps, .bool b]) (nm := nmS (below (S.next + 1)) (2 ^ S.next)) (lf := s.size + 1) (fr := rfr.set (.int .i64 (-1)) 6) (e := .ret) (k := .i64) (i := -1) (t := 6) (S1 := rS) (rd := qrd ||| ((brd ||| mb S.next (below (S.next + 1))) ||| 0)) (wr := mb S.next (2 ^ S.next)) rfl hm htt hfi hcl hfr F.three ?_ (mb_mod _) rfl F.res F.nt6 (by rw [slot_set, if_pos rfl]) p hrd hv
      rw [F.body]
      simp only [icode, hA, hB, F.lm, hr, mbO, mbR, mB_S, mb_zero, CRes.or, Nat.zero_or, Nat.beq_refl, cond_true, hc, lor_zero, Nat.or_zero]
  · obtain ⟨_, _, _, _, _, _, _, rfl⟩ := sixF_inv h
    exact FrO.same _ rfl
  · obtain ⟨_, _, _, _, _, _, _, rfl⟩ := sixF_inv h
    rfl
end Go.Jx
end

/- The calls of slices.IndexFunc and of strings.IndexFunc. -/
section
set_option linter.unusedVariables false
set_option maxRecDepth 100000
noncomputable section
namespace Go.Proofs.Ytcnhjofpmpipfaa
open Go Go.Sx Go.RowKit Go.Jx
theorem ixF125 : IdxFacts Try.prog ttT.get cForm fi125 (cL fb125) (cL (cL (cR fb125))) (cB (cB (cR (cL (cR fb125))))) (cR (cR fb125)) :=
  ⟨by kernel_rfl, by kernel_rfl, fun mr => by kernel_rfl, fun R clK B0 mr lf l g caps S kk => by kernel_rfl, fun R clK B0 mr lf l g caps S kk => by kernel_rfl, fun R clK B0 mr lf l g caps S i kk => by kernel_rfl, fun R clK B0 mr lf fr S kk => by kernel_rfl, by kernel_rfl, by kernel_rfl, fun mr => by kernel_rfl⟩
theorem ixO125 : HxOK Try.prog 125 (idxF cForm) := idx_ok ixF125 mixed ttOK fo125
theorem ixF135 : IdxFacts Try.prog ttT.get cNode fi135 (cL fb135) (cL (cL (cR fb135))) (cB (cB (cR (cL (cR fb135))))) (cR (cR fb135)) :=
  ⟨by kernel_rfl, by kernel_rfl, fun mr => by kernel_rfl, fun R clK B0 mr lf l g caps S kk => by kernel_rfl, fun R clK B0 mr lf l g caps S kk => by kernel_rfl, fun R clK B0 mr lf l g caps S i kk => by kernel_rfl, fun R clK B0 mr lf fr S kk => by kernel_rfl, by kernel_rfl, by kernel_rfl, fun mr => by kernel_rfl⟩
theorem ixO135 : HxOK Try.prog 135 (idxF cNode) := idx_ok ixF135 mixed ttOK fo135
theorem ixF137 : IdxFacts Try.prog ttT.get cVal fi137 (cL fb137) (cL (cL (cR fb137))) (cB (cB (cR (cL (cR fb137))))) (cR (cR fb137)) :=
  ⟨by kernel_rfl, by kernel_rfl, fun mr => by kernel_rfl, fun R clK B0 mr lf l g caps S kk => by kernel_rfl, fun R clK B0 mr lf l g caps S kk => by kernel_rfl, fun R clK B0 mr lf l g caps S i kk => by kernel_rfl, fun R clK B0 mr lf fr S kk => by kernel_rfl, by kernel_rfl, by kernel_rfl, fun mr => by kernel_rfl⟩
theorem ixO137 : HxOK Try.prog 137 (idxF cVal) := idx_ok ixF137 mixed ttOK fo137
theorem sxF143 : SixFacts Try.prog ttT.get fi143 (cL fb143) (cL (cL (cR fb143))) (cB (cB (cR (cL (cR fb143))))) (cR (cR fb143)) :=
  ⟨by kernel_rfl, by kernel_rfl, fun mr mw => by kernel_rfl, fun R clK B0 mr mw lf s g caps b S kk => by kernel_rfl, fun R B0 mr mw lf g caps b a id rd S S' test kk => by kernel_rfl, fun R clK B0 mr mw lf fr S kk => by kernel_rfl, by kernel_rfl, by kernel_rfl, fun mr mw => by kernel_rfl⟩
theorem ixO143 : HxOK Try.prog 143 sixF := six_ok sxF143 mixed ttOK fo143
theorem ixF144 : IdxFacts Try.prog ttT.get cCol fi144 (cL fb144) (cL (cL (cR fb144))) (cB (cB (cR (cL (cR fb144))))) (cR (cR fb144)) :=
  ⟨by kernel_rfl, by kernel_rfl, fun mr => by kernel_rfl, fun R clK B0 mr lf l g caps S kk => by kernel_rfl, fun R clK B0 mr lf l g caps S kk => by kernel_rfl, fun R clK B0 mr lf l g caps S i kk => by kernel_rfl, fun R clK B0 mr lf fr S kk => by kernel_rfl, by kernel_rfl, by kernel_rfl, fun mr => by kernel_rfl⟩
theorem ixO144 : HxOK Try.prog 144 (idxF cCol) := idx_ok ixF144 mixed ttOK fo144
end Go.Proofs.Ytcnhjofpmpipfaa

end
end

/- Loops over lists by an index, and what helps to read plain forms. -/
section
set_option linter.unusedVariables false
namespace Go.Jx
open Go Go.Sx Go.RowKit
universe u

theorem cond_if {α : Type} (b : Bool) (x y : α) : cond b x y = if b = true then x else y := by cases b <;> rfl
theorem oL : Int.ofNat 0 = 0 ∧ Int.ofNat 1 = 1 ∧ Int.ofNat 2 = 2 ∧ Int.ofNat 3 = 3 ∧ Int.ofNat 4 = 4 ∧ Int.ofNat 5 = 5 ∧ Int.ofNat 6 = 6 ∧ Int.ofNat 7 = 7 ∧ Int.ofNat 8 = 8 ∧ Int.ofNat 9 = 9 ∧ Int.ofNat 10 = 10 ∧ Int.ofNat 12 = 12 ∧ Int.ofNat 16 = 16 ∧ Int.ofNat 20 = 20 ∧ Int.ofNat 24 = 24 ∧ Int.ofNat 30 = 30 ∧ Int.ofNat 31 = 31 ∧ Int.ofNat 40 = 40 ∧ Int.ofNat 45 = 45 ∧ Int.ofNat 48 = 48 ∧ Int.ofNat 57 = 57 ∧ Int.ofNat 60 = 60 ∧ Int.ofNat 64 = 64 ∧ Int.ofNat 65 = 65 ∧ Int.ofNat 70 = 70 ∧ Int.ofNat 90 = 90 ∧ Int.ofNat 95 = 95 ∧ Int.ofNat 97 = 97 ∧ Int.ofNat 100 = 100 ∧ Int.ofNat 122 = 122 ∧ Int.ofNat 127 = 127 ∧ Int.ofNat 128 = 128 ∧ Int.ofNat 200 = 200 ∧ Int.ofNat 256 = 256 ∧ Int.ofNat 400 = 400 ∧ Int.ofNat 410 = 410 ∧ Int.ofNat 1500 = 1500 ∧ Int.ofNat 60000 = 60000 ∧ Int.ofNat 60010 = 60010 ∧ Int.ofNat 65536 = 65536 ∧ Int.ofNat 16777216 = 16777216 ∧ Int.ofNat 2147483647 = 2147483647 ∧ Int.ofNat 1099511627776 = 1099511627776 :=
  ⟨rfl, rfl, rfl, rfl, rfl, rfl, rfl, rfl, rfl, rfl, rfl, rfl, rfl, rfl, rfl, rfl, rfl, rfl, rfl, rfl, rfl, rfl, rfl, rfl, rfl, rfl, rfl, rfl, rfl, rfl, rfl, rfl, rfl, rfl, rfl, rfl, rfl, rfl, rfl, rfl, rfl, rfl, rfl⟩
theorem oLn : Int.negSucc 0 = -1 ∧ Int.negSucc 1099511627775 = -1099511627776 := ⟨rfl, rfl⟩
theorem jget_nat {α : Type} {l : List α} {i : Nat} : jget l (Int.ofNat i) = l[i]? := by unfold jget; rw [if_pos (by simp)]; simp
theorem jget_of {α : Type} {l : List α} {i : Int} (h0 : 0 ≤ i) (h1 : i < l.length) : ∃ x, jget l i = some x ∧ l[i.toNat]? = some x ∧ x ∈ l := by
  have h2 : i.toNat < l.length := by omega
  refine ⟨l[i.toNat], ?_, List.getElem?_eq_getElem h2, List.getElem_mem h2⟩
  unfold jget
  rw [if_pos h0, List.getElem?_eq_getElem h2]
theorem bsz_one : ∀ c : TC, 1 ≤ bsz c
  | .int k => by cases k <;> simp [bsz]
  | .bool => by simp [bsz]
  | .str => by simp [bsz]
  | .list _ => by simp [bsz]
  | .two a b => by have := bsz_one a; simp only [bsz]; omega
def LF : Nat := 9223372036854775808
theorem wf_len {c : TC} {l : El (.list c)} (h : WfE (.list c) l) : List.length (α := El c) l < LF := by
  have h1 := h.1
  have h2 := bsz_one c
  have : List.length (α := El c) l * 1 ≤ List.length (α := El c) l * bsz c := Nat.mul_le_mul_left _ h2
  unfold LF
  omega
theorem wf_mem {c : TC} {l : El (.list c)} (h : WfE (.list c) l) {x : El c} (hx : List.Mem (α := El c) x l) : WfE c x := h.2 x hx
theorem wrap_succ {n : Nat} (h : n + 1 < LF) : IntKind.i64.wrap (Int.add (Int.ofNat n) (Int.ofNat 1)) = Int.ofNat (n + 1) := by
  unfold LF at h
  rw [show Int.add (Int.ofNat n) (Int.ofNat 1) = Int.ofNat (n + 1) from rfl]
  exact wrap64_in (by simp; omega)
structure Rnd {α : Type} (l : List α) (i : Nat) (v : α) (rest : List α) : Prop where
  drop : l.drop i = v :: rest
  mem : v ∈ l
  lt : i < l.length
  ilt : iltI (Int.ofNat i) (Int.ofNat l.length) = true
  get : jget l (Int.ofNat i) = some v
  get? : l[i]? = some v
  next : IntKind.i64.wrap (Int.add (Int.ofNat i) (Int.ofNat 1)) = Int.ofNat (i + 1)
  tail : l.drop (i + 1) = rest
  take : l.take (i + 1) = l.take i ++ [v]
theorem ilt_self (n : Nat) : iltI (Int.ofNat n) (Int.ofNat n) = false := by rw [iltI_eq]; simp
theorem rnd_of {α : Type} {l : List α} {i : Nat} (h : i < l.length) (hl : l.length < LF) : ∃ v rest, Rnd l i v rest := by
  refine ⟨l[i], l.drop (i + 1), List.drop_eq_getElem_cons h, List.getElem_mem h, h, by rw [iltI_eq]; simp; omega, ?_, List.getElem?_eq_getElem h, wrap_succ (by omega), rfl, ?_⟩
  · rw [jget_nat]; exact List.getElem?_eq_getElem h
  · rw [List.take_succ_eq_append_getElem h]
theorem range_by {α σ A R : Type} {T : (A → Option R) → A → Option R} (l : List α) (mk : Int → σ → A) (I : Nat → σ → Prop) (g : List α → Nat → σ → Option R) (hl : l.length < LF)
    (hnil : ∀ K s, I l.length s → T K (mk (Int.ofNat l.length) s) = g [] l.length s)
    (hcons : ∀ K i v rest s, I i s → Rnd l i v rest → (∀ s', I (i + 1) s' → K (mk (Int.ofNat (i + 1)) s') = g rest (i + 1) s') → T K (mk (Int.ofNat i) s) = g (v :: rest) i s) :
    ∀ n i s, i ≤ l.length → I i s → l.length - i < n → rounds T n (mk (Int.ofNat i) s) = g (l.drop i) i s
  | 0, i, s, _, _, h => by omega
  | n + 1, i, s, hi, hI, h => by
    show T (rounds T n) (mk (Int.ofNat i) s) = _
    by_cases e : i = l.length
    · subst e
      rw [hnil _ _ hI, List.drop_length]
    · obtain ⟨v, rest, r⟩ := rnd_of (l := l) (i := i) (by omega) hl
      rw [hcons (rounds T n) i v rest s hI r fun s' hI' => ?_, r.drop]
      rw [range_by l mk I g hl hnil hcons n (i + 1) s' (by have := r.lt; omega) hI' (by omega), r.tail]
theorem range0 {α σ A R : Type} {T : (A → Option R) → A → Option R} (l : List α) (mk : Int → σ → A) (I : Nat → σ → Prop) (g : List α → Nat → σ → Option R) (hl : l.length < LF)
    (hnil : ∀ K s, I l.length s → T K (mk (Int.ofNat l.length) s) = g [] l.length s)
    (hcons : ∀ K i v rest s, I i s → Rnd l i v rest → (∀ s', I (i + 1) s' → K (mk (Int.ofNat (i + 1)) s') = g rest (i + 1) s') → T K (mk (Int.ofNat i) s) = g (v :: rest) i s)
    (s : σ) (hI : I 0 s) : rounds T LF (mk (Int.ofNat 0) s) = g l 0 s := by
  have := range_by l mk I g hl hnil hcons LF 0 s (Nat.zero_le _) hI (by omega)
  rwa [List.drop_zero] at this
theorem range1 {α R : Type} {T : (Int → Option R) → Int → Option R} (l : List α) (g : List α → Nat → Option R) (hl : l.length < LF)
    (hnil : ∀ K, T K (Int.ofNat l.length) = g [] l.length)
    (hcons : ∀ K i v rest, Rnd l i v rest → K (Int.ofNat (i + 1)) = g rest (i + 1) → T K (Int.ofNat i) = g (v :: rest) i) : rounds T LF (Int.ofNat 0) = g l 0 :=
  range0 (σ := Unit) l (fun i _ => i) (fun _ _ => True) (fun rest i _ => g rest i) hl (fun K _ _ => hnil K) (fun K i v rest _ _ r h => hcons K i v rest r (h () trivial)) () trivial
theorem sixO_some {p : Nat → Int → Option Bool} {q : Int → Bool} (hp : ∀ i r, p i r = some (q r)) (s : ByteArray) (b : Bool) : ∀ (n i : Nat), s.size - i < n → ∃ k, sixO p s b n i = some k
  | 0, i, h => by omega
  | n + 1, i, h => by
    unfold sixO
    cases hlt : Nat.blt i s.size with
    | false => exact ⟨_, rfl⟩
    | true =>
      have h1 : i < s.size := by simpa using hlt
      simp only [cond_true, hp]
      cases decide (q (Int.ofNat (Utf8.decode s i).1) = b) with
      | true => exact ⟨_, rfl⟩
      | false =>
        rw [cond_false]
        have := decode_width s i
        exact sixO_some hp s b n _ (by omega)
namespace S
def idx {α : Type} (p : α → Bool) (l : List α) : Int := match l.findIdx? p with
  | some j => Int.ofNat j
  | none => -1
theorem idx_nonneg {α : Type} (p : α → Bool) (l : List α) : 0 ≤ idx p l ↔ l.any p = true := by
  unfold idx
  cases h : l.findIdx? p with
  | none =>
    simp only
    rw [List.findIdx?_eq_none_iff] at h
    constructor
    · intro h; omega
    · intro h2
      rw [List.any_eq_true] at h2
      obtain ⟨x, hx, hp⟩ := h2
      rw [h x hx] at hp; cases hp
  | some j =>
    simp only
    obtain ⟨h1, h2, h3⟩ := List.findIdx?_eq_some_iff_getElem.1 h
    constructor
    · intro _
      rw [List.any_eq_true]
      exact ⟨_, List.getElem_mem h1, h2⟩
    · intro _; exact Int.natCast_nonneg _
theorem idx_get {α : Type} {p : α → Bool} {l : List α} (h : 0 ≤ idx p l) : ∃ x, jget l (idx p l) = some x ∧ l[(idx p l).toNat]? = some x ∧ p x = true ∧ x ∈ l ∧ idx p l < l.length ∧ l.find? p = some x := by
  unfold idx at h ⊢
  cases hf : l.findIdx? p with
  | none => rw [hf] at h; simp at h
  | some j =>
    simp only
    obtain ⟨h1, h2, h3⟩ := List.findIdx?_eq_some_iff_getElem.1 hf
    refine ⟨l[j], ?_, by simp [h1], h2, List.getElem_mem h1, by simpa using h1, ?_⟩
    · rw [jget_nat]; exact List.getElem?_eq_getElem h1
    · rw [List.find?_eq_some_iff_getElem]
      exact ⟨h2, j, h1, rfl, fun k hk => by simpa using h3 k hk⟩
end S
theorem idxO_idx {α : Type} {p : α → Option Bool} (q : α → Bool) {l : List α} (h : ∀ x ∈ l, p x = some (q x)) : idxO p l 0 = some (S.idx q l) := by
  rw [idxO_some h]
  unfold S.idx
  cases l.findIdx? q <;> simp
end Go.Jx
end

/- What the functions of package pack compute: plain functions over data. -/
section
set_option linter.unusedVariables false
noncomputable section
namespace Go.Proofs.Ytcnhjofpmpipfaa
open Go Go.Sx Go.RowKit Go.Jx
abbrev DVal : Type := Int × Int
abbrev DNode : Type := ByteArray × List DVal
abbrev DGraph : Type := List DNode × List DVal
abbrev DCol : Type := ByteArray × Int × ByteArray
abbrev DForm : Type := ByteArray × List DCol
abbrev DGive : Type := ByteArray × Int × Int
abbrev DRule : Type := ByteArray × ByteArray × List DGive
abbrev DRefusal : Type := Int × ByteArray
namespace S
open Go.Jx.S
def within (n lo hi : Int) : Bool := decide (lo ≤ n) && decide (n ≤ hi)
def unlessE (b : Bool) (e : Int) : Int := cond b 0 e
def first : List Int → Int
  | [] => 0
  | e :: l => if e = 0 then first l else e
def ANY : ByteArray := S.lit [65, 78, 89]
def form (l : List DForm) (n : ByteArray) : Int := idx (fun f => keqS f.1 n) l
def col (l : List DCol) (n : ByteArray) : Int := idx (fun c => keqS c.1 n) l
def zRule : DRule := (S.lit [], S.lit [], [])
def zCol : DCol := (S.lit [], 0, S.lit [])
def zGive : DGive := (S.lit [], 0, 0)
def zForm : DForm := (S.lit [], [])
def zVal : DVal := (0, 0)
def zNode : DNode := (S.lit [], [])
def zGraph : DGraph := ([], [])
def zRefusal : DRefusal := (0, S.lit [])
def at_ {α : Type} (d : α) (l : List α) (i : Int) : α := (l[i.toNat]?).getD d
def ruleOf (l : List DRule) (c : ByteArray) : DRule × Bool := match l.find? (fun r => keqS r.1 c) with
  | some r => (r, true)
  | none => (zRule, false)
def badR (r lo hi : Int) : Bool := !((decide (lo ≤ r) && decide (r ≤ hi)) || (decide (48 ≤ r) && decide (r ≤ 57)) || decide (r = 95))
def named (s : ByteArray) (lo hi : Int) : Bool :=
  if s = S.lit [] then false
  else if 20 < s.size then false
  else match (byteList s)[0]? with
    | none => false
    | some b => if b < lo then false else if hi < b then false else match sixO (fun _ r => some (badR r lo hi)) s true (s.size + 1) 0 with
      | none => false
      | some i => decide (i < 0)
def classWords : List ByteArray := [S.lit [73, 78, 84, 69, 71, 69, 82], S.lit [66, 79, 79, 76, 69, 65, 78], ANY, S.lit [78, 79, 78, 69]]
def smallWords : List ByteArray := [S.lit [116, 114, 117, 101], S.lit [102, 97, 108, 115, 101], S.lit [118, 111, 105, 100], S.lit [99, 117, 114, 114, 101, 110, 116], S.lit [114, 101, 115, 117, 108, 116]]
def index (l : List ByteArray) (v : ByteArray) : Int := idx (fun x => keqS v x) l
def class_ (s : ByteArray) : Bool := named s 65 90 && decide (index classWords s < 0)
def small (s : ByteArray) : Bool := named s 97 122 && decide (index smallWords s < 0)
def ccGo (l : List DCol) : Nat → List DCol → Int
  | _, [] => 0
  | k, c :: r =>
    if small c.1 = false then 4
    else if ¬ col (l.take k) c.1 < 0 then 6
    else if within c.2.1 1 3 = false then 1
    else if ¬ c.2.1 = 3 ∧ ¬ c.2.2 = S.lit [] then 1
    else ccGo l (k + 1) r
def checkCols (l : List DCol) : Int := if 30 < l.length then 3 else ccGo l 0 l
def cfIn (l : List DForm) : List DCol → Bool
  | [] => true
  | c :: r => if c.2.1 = 3 ∧ ¬ c.2.2 = ANY ∧ form l c.2.2 < 0 then false else cfIn l r
def cfGo2 (l : List DForm) : List DForm → Int
  | [] => 0
  | f :: r => if cfIn l f.2 = true then cfGo2 l r else 5
def cfGo (l : List DForm) : Nat → List DForm → Int
  | _, [] => cfGo2 l l
  | k, f :: r =>
    let e := first [unlessE (class_ f.1) 4, unlessE (decide (form (l.take k) f.1 < 0)) 6, checkCols f.2]
    if e = 0 then cfGo l (k + 1) r else e
def checkForms (l : List DForm) : Int := if 24 < l.length then 3 else cfGo l 0 l
def value (v : DVal) (many : Int) : Bool :=
  if v.1 = 1 then within v.2 (-1099511627776) 1099511627776
  else if v.1 = 2 then within v.2 0 1
  else if v.1 = 3 then decide (v.2 = 0)
  else if v.1 = 4 then within v.2 0 (IntKind.i64.wrap (Int.sub many (Int.ofNat 1)))
  else false
def refers (v : DVal) : Bool := decide (v.1 = 3) || decide (v.1 = 4)
def formed (g : DGraph) : Int :=
  if 400 < g.1.length ∨ 60 < g.2.length then 3
  else if g.1.any (fun n => decide (30 < n.2.length)) then 3
  else if g.1.any (fun n => n.2.any fun v => !value v (Int.ofNat g.1.length)) then 2
  else if g.2.any (fun v => !value v (Int.ofNat g.1.length) || !refers v) then 2
  else 0
def refOK (g : DGraph) (v : DVal) : Bool := decide (v.1 = 4 → 0 ≤ v.2 ∧ v.2 < g.1.length)
def suits (g : DGraph) (c : DCol) (v : DVal) : Bool :=
  if c.2.1 = 1 then decide (v.1 = 1)
  else if c.2.1 = 2 then decide (v.1 = 2)
  else decide (v.1 = 3) || (decide (v.1 = 4) && (decide (c.2.2 = ANY) || decide ((at_ zNode g.1 v.2).1 = c.2.2)))
def colsOf (l : List DForm) (c : ByteArray) : List DCol := (at_ zForm l (form l c)).2
def suitsAll (g : DGraph) : List DCol → List DVal → Bool
  | c :: cs, v :: vs => if suits g c v = true then suitsAll g cs vs else false
  | _, _ => true
def typed (l : List DForm) (g : DGraph) : List DNode → Bool
  | [] => true
  | n :: ns => if n.2.length = (colsOf l n.1).length then (if suitsAll g (colsOf l n.1) n.2 = true then typed l g ns else false) else false
def typedPre (l : List DForm) (g : DGraph) : Bool := g.1.all fun n => decide (0 ≤ form l n.1) && n.2.all (refOK g)
def check (l : List DForm) (g : DGraph) : Int :=
  if ¬ formed g = 0 then formed g
  else if g.1.any (fun n => decide (form l n.1 < 0)) then 4
  else unlessE (typed l g g.1) 8
def checkG (l : List DForm) (g : DGraph) : Int := if ¬ checkForms l = 0 then checkForms l else check l g
def leads (l : List DRule) (a b : ByteArray) : Bool := decide (b = ANY) || ((ruleOf l a).2 && decide ((ruleOf l a).1.2.1 = b))
def fits (l : List DRule) (g : DGive) (a b : DCol) : Bool :=
  if g.2.1 = 1 then decide (a.2.1 = b.2.1) && (decide (¬ a.2.1 = 3) || leads l a.2.2 b.2.2)
  else if g.2.1 = 2 then decide (a.2.1 = 2) && decide (b.2.1 = 1)
  else if g.2.1 = 3 then decide (a.2.1 = 1) && decide (b.2.1 = 2)
  else if g.2.1 = 4 then decide (a.2.1 = 1) && decide (b.2.1 = 1)
  else if g.2.1 = 5 then decide (a.2.1 = 3) && (decide (b.2.1 = 3) && leads l a.2.2 b.2.2)
  else if g.2.1 = 6 then decide (b.2.1 = 1) || (decide (b.2.1 = 2) && within g.2.2 0 1)
  else decide (b.2.1 = 3)
def most (g : DGive) : Int := if g.2.1 = 4 ∨ g.2.1 = 6 then 1099511627776 else 0
def give (l : List DRule) (g : DGive) (cols : List DCol) (b : DCol) : Int :=
  if within g.2.1 1 5 = true ∧ col cols g.1 < 0 then 4
  else if within g.2.1 1 7 = false ∨ (within g.2.1 1 5 = false ∧ ¬ g.1 = S.lit []) ∨ within g.2.2 (-most g) (most g) = false ∨ (g.2.1 = 6 ∧ b.2.1 = 2 ∧ within g.2.2 0 1 = false) then 1
  else unlessE (fits l g (if within g.2.1 1 5 = true then at_ zCol cols (col cols g.1) else zCol) b) 8
def crGives (l : List DRule) (was : List DCol) : List DCol → List DGive → Int
  | c :: now, g :: r => if give l g was c = 0 then crGives l was now r else give l g was c
  | _, _ => 0
def crGo3 (a b : List DForm) (l : List DRule) : List DRule → Int
  | [] => 0
  | r :: rs =>
    if r.2.2.length = (colsOf b r.2.1).length then
      (if crGives l (colsOf a r.1) (colsOf b r.2.1) r.2.2 = 0 then crGo3 a b l rs else crGives l (colsOf a r.1) (colsOf b r.2.1) r.2.2)
    else 2
def crGo2 (a b : List DForm) (l : List DRule) : List DForm → Int
  | [] => crGo3 a b l l
  | f :: fs => if (ruleOf l f.1).2 = true then crGo2 a b l fs else 5
def crGo (a b : List DForm) (l : List DRule) : Nat → List DRule → Int
  | _, [] => crGo2 a b l a
  | k, r :: rs => if form a r.1 < 0 then 4 else if form b r.2.1 < 0 then 4 else if (ruleOf (l.take k) r.1).2 = true then 6 else crGo a b l (k + 1) rs
def checkRules0 (a b : List DForm) (l : List DRule) : Int := if 24 < l.length then 3 else crGo a b l 0 l
def checkRules (a b : List DForm) (l : List DRule) : Int := if first [checkForms a, checkForms b] = 0 then checkRules0 a b l else first [checkForms a, checkForms b]
def src (g : DGive) (cols : List DCol) (l : List DVal) : DVal := at_ zVal l (col cols g.1)
def made (g : DGive) (cols : List DCol) (l : List DVal) (b : DCol) : DVal × Bool :=
  if g.2.1 = 6 then (if b.2.1 = 2 then ((2, g.2.2), true) else ((1, g.2.2), true))
  else if g.2.1 = 7 then ((3, 0), true)
  else if g.2.1 = 2 then ((1, (src g cols l).2), true)
  else if g.2.1 = 3 then ((2, (src g cols l).2), within (src g cols l).2 0 1)
  else if g.2.1 = 4 then (src g cols l, decide ((src g cols l).2 < g.2.2))
  else if g.2.1 = 5 then (src g cols l, decide ((src g cols l).1 = 4))
  else (src g cols l, true)
def cvIn (cols : List DCol) (vs : List DVal) : List DGive → List DCol → List DVal → Option (List DVal) × ByteArray
  | g :: gs, c :: cs, acc => if (made g cols vs c).2 = true then cvIn cols vs gs cs (acc ++ [(made g cols vs c).1]) else (none, c.1)
  | _, _, acc => (some acc, S.lit [])
def cvGo (a b : List DForm) (l : List DRule) (roots : List DVal) : Nat → List DNode → List DNode → DGraph × DRefusal × Int
  | _, [], acc => ((acc, roots), zRefusal, 0)
  | i, n :: ns, acc =>
    let r := (ruleOf l n.1).1
    match cvIn (colsOf a n.1) n.2 r.2.2 (colsOf b r.2.1) [] with
    | (some vs, _) => cvGo a b l roots (i + 1) ns (acc ++ [(r.2.1, vs)])
    | (none, c) => (zGraph, (Int.ofNat i, c), 10)
def convert (a b : List DForm) (l : List DRule) (g : DGraph) : DGraph × DRefusal × Int :=
  if ¬ checkRules a b l = 0 then (zGraph, zRefusal, checkRules a b l)
  else if ¬ check a g = 0 then (zGraph, zRefusal, check a g)
  else cvGo a b l g.2 0 g.1 []
def keeps (l : List DRule) (a b : DCol) : Bool :=
  if ¬ a.2.1 = 3 then true
  else if a.2.2 = ANY ∨ b.2.2 = ANY then decide (a.2.2 = b.2.2)
  else leads l a.2.2 b.2.2
end S
def sp_p_within : Sm := ⟨[.int .i64, .int .i64, .int .i64], [(false, .bool)], fun x => some (S.within x.1 x.2.1 x.2.2.1, ())⟩
def sp_p_first : Sm := ⟨[.list (.int .i64)], [(false, .int .i64)], fun x => some (S.first x.1, ())⟩
def sp_p_form : Sm := ⟨[.list cForm, .str], [(false, .int .i64)], fun x => some (S.form x.1 x.2.1, ())⟩
def sp_p_col : Sm := ⟨[.list cCol, .str], [(false, .int .i64)], fun x => some (S.col x.1 x.2.1, ())⟩
def sp_p_named : Sm := ⟨[.str, .int .u8, .int .u8], [(false, .bool)], fun x => some (S.named x.1 x.2.1 x.2.2.1, ())⟩
def sp_slices_Index_string : Sm := ⟨[.list .str, .str], [(false, .int .i64)], fun x => some (S.index x.1 x.2.1, ())⟩
def sp_p_class : Sm := ⟨[.str], [(false, .bool)], fun x => some (S.class_ x.1, ())⟩
def sp_p_small : Sm := ⟨[.str], [(false, .bool)], fun x => some (S.small x.1, ())⟩
def sp_p_checkCols : Sm := ⟨[.list cCol], [(false, .int .i64)], fun x => some (S.checkCols x.1, ())⟩
def sp_p_CheckForms : Sm := ⟨[.list cForm], [(false, .int .i64)], fun x => some (S.checkForms x.1, ())⟩
def sp_p_value : Sm := ⟨[cVal, .int .i64], [(false, .bool)], fun x => some (S.value x.1 x.2.1, ())⟩
def sp_p_formed : Sm := ⟨[cGraph], [(false, .int .i64)], fun x => some (S.formed x.1, ())⟩
def sp_p_suits : Sm := ⟨[cGraph, cCol, cVal], [(false, .bool)], fun x => cond (S.refOK x.1 x.2.2.1) (some (S.suits x.1 x.2.1 x.2.2.1, ())) none⟩
def sp_p_typed : Sm := ⟨[.list cForm, cGraph], [(false, .bool)], fun x => cond (S.typedPre x.1 x.2.1) (some (S.typed x.1 x.2.1 x.2.1.1, ())) none⟩
def sp_p_check : Sm := ⟨[.list cForm, cGraph], [(false, .int .i64)], fun x => some (S.check x.1 x.2.1, ())⟩
def sp_p_Check : Sm := ⟨[.list cForm, cGraph], [(false, .int .i64)], fun x => some (S.checkG x.1 x.2.1, ())⟩
end Go.Proofs.Ytcnhjofpmpipfaa

end
end

/- Made by program: plain forms of functions. -/
section
set_option linter.unusedVariables false
set_option maxRecDepth 100000
noncomputable section
namespace Go.Proofs.Ytcnhjofpmpipfaa
open Go Go.Sx Go.RowKit Go.Jx
def nm_p_within : Nat → Option Nm := fun k => none
def st_p_within : Nat → Bool := fun k => false
def hd_p_within : Nat → Bool := fun k => false
abbrev Rt_p_within : Type := Bool × Unit
def sml_p_within : List (Nat × Sm) := []
def hxl_p_within : List (Nat × Hx) := []
def cl_p_within (R : Type) (lf : Nat) : ClK R := icallK Try.prog ttT.get ftT.get (nm1 83 nm_p_within) (smL sml_p_within) (hxL hxl_p_within) lf 20 R
abbrev id_p_within : Nat := 83
def R_p_within_in (lf : Nat) (x1 : Int) (x2 : Int) (x3 : Int) : Option Rt_p_within := (cond (Bool.not (iltI x1 x2)) (some ((Bool.not (iltI x3 x1)), ())) (some (Bool.false, ())))
theorem in_p_within (g : ElA [(.int .i64), (.int .i64), (.int .i64)] → Option Rt_p_within) (J : Nat → List Nat → NRes → Option Rt_p_within) (lf : Nat) (x1 : Int) (x2 : Int) (x3 : Int) : icodeT Try.prog ttT.get nm_p_within fi83.nt (cl_p_within _ lf) lf st_p_within J fi83.body [] (argGo (argV [(.int .i64), (.int .i64), (.int .i64)] (x1, x2, x3, ())) 0 .leaf) S0 [] (lastK ttT.get fi83 ⟨[(.int .i64), (.int .i64), (.int .i64)], [(false, .bool)], g⟩) = R_p_within_in lf x1 x2 x3 := by kernel_rfl
theorem nd_p_within : (regs fi83.body).Nodup := by decide +kernel
theorem ok_p_within : okC nm_p_within st_p_within hd_p_within fi83.body none = true := by kernel_rfl
def A_p_within (g : ElA [(.int .i64), (.int .i64), (.int .i64)] → Option Rt_p_within) (lf : Nat) : Nat → List Nat → NRes → Option Rt_p_within := atN Try.prog ttT.get nm_p_within fi83 ⟨[(.int .i64), (.int .i64), (.int .i64)], [(false, .bool)], g⟩ (cl_p_within _ lf) lf hd_p_within
def F_p_within (lf : Nat) (x1 : Int) (x2 : Int) (x3 : Int) : Option Rt_p_within := R_p_within_in lf x1 x2 x3
theorem run_p_within (g : ElA [(.int .i64), (.int .i64), (.int .i64)] → Option Rt_p_within) (lf : Nat) (x1 : Int) (x2 : Int) (x3 : Int) : icodeT Try.prog ttT.get nm_p_within fi83.nt (cl_p_within _ lf) lf st_p_within (A_p_within g lf) fi83.body [] (argGo (argV [(.int .i64), (.int .i64), (.int .i64)] (x1, x2, x3, ())) 0 .leaf) S0 [] (lastK ttT.get fi83 ⟨[(.int .i64), (.int .i64), (.int .i64)], [(false, .bool)], g⟩) = F_p_within lf x1 x2 x3 := by
    refine (in_p_within g (A_p_within g lf) lf x1 x2 x3).trans ?_
    rfl
theorem hxs_p_within : HxsOK Try.prog hxl_p_within := trivial
theorem mk_p_within {g : ElA [(.int .i64), (.int .i64), (.int .i64)] → Option Rt_p_within} (hsm : SmOK Try.prog sml_p_within) (hg : ∀ (x : ElA [(.int .i64), (.int .i64), (.int .i64)]) (y : Rt_p_within), WfA [(.int .i64), (.int .i64), (.int .i64)] x → g x = some y → ∃ lf, F_p_within lf x.1 x.2.1 x.2.2.1 = some y) : Con Try.prog 83 ⟨[(.int .i64), (.int .i64), (.int .i64)], [(false, .bool)], g⟩ :=
  conT (nmf := nm_p_within) (sml := sml_p_within) (hxl := hxl_p_within) (st := st_p_within) (hd := hd_p_within) 20 mixed ttOK ftOK hsm hxs_p_within cal83 rfl rfl (by kernel_rfl) (fun x => by kernel_rfl) nd_p_within ok_p_within fun x y hx hy => by
    obtain ⟨lf, h⟩ := hg x y hx hy
    exact ⟨lf, (run_p_within g lf x.1 x.2.1 x.2.2.1).trans h⟩
def nm_p_first : Nat → Option Nm := fun k => cond (Nat.beq k 2) (some ⟨[5, 6, 7], [], [], [], [], 0, 0, false⟩) (none)
def st_p_first : Nat → Bool := fun k => cond (Nat.beq k 2) true (false)
def hd_p_first : Nat → Bool := fun k => cond (Nat.beq k 2) true (false)
abbrev Rt_p_first : Type := Int × Unit
def sml_p_first : List (Nat × Sm) := []
def hxl_p_first : List (Nat × Hx) := []
def cl_p_first (R : Type) (lf : Nat) : ClK R := icallK Try.prog ttT.get ftT.get (nm1 49 nm_p_first) (smL sml_p_first) (hxL hxl_p_first) lf 20 R
abbrev id_p_first : Nat := 49
def enc_p_first_2 (x1 : (List Int)) (p : Int) : NRes := (NRes.mk (PT.node none (PT.node none (PT.node none (PT.node (some (IV.int Go.IntKind.i64 p)) PT.leaf PT.leaf) PT.leaf) (PT.node (some (IV.lst (TC.int Go.IntKind.i64) x1)) PT.leaf PT.leaf)) (PT.node none PT.leaf (PT.node (some (IV.int Go.IntKind.i64 (Int.ofNat (List.length x1)))) PT.leaf PT.leaf))) (IS.mk PT.leaf 0) [] 0)
def R_p_first_in (lf : Nat) (x1 : (List Int)) (L2 : Int → Option Rt_p_first) : Option Rt_p_first := (L2 (Int.ofNat 0))
def R_p_first_2 (lf : Nat) (x1 : (List Int)) (L2 : Int → Option Rt_p_first) (p : Int) : Option Rt_p_first := (cond (iltI p (Int.ofNat (List.length x1))) (match (jget x1 p) with | .none  => none | .some v0 => (cond (Bool.not (ieqI v0 (Int.ofNat 0))) (some (v0, ())) (L2 (Go.IntKind.wrap Go.IntKind.i64 (Int.add p (Int.ofNat 1)))))) (some ((Int.ofNat 0), ())))
theorem in_p_first (g : ElA [(.list (.int .i64))] → Option Rt_p_first) (J : Nat → List Nat → NRes → Option Rt_p_first) (lf : Nat) (x1 : (List Int)) : icodeT Try.prog ttT.get nm_p_first fi49.nt (cl_p_first _ lf) lf st_p_first J fi49.body [] (argGo (argV [(.list (.int .i64))] (x1, ())) 0 .leaf) S0 [] (lastK ttT.get fi49 ⟨[(.list (.int .i64))], [(false, (.int .i64))], g⟩) = R_p_first_in lf x1 (fun q => J 2 [lf] (enc_p_first_2 x1 q)) := by kernel_rfl
theorem st_p_first_2 (g : ElA [(.list (.int .i64))] → Option Rt_p_first) (J : Nat → List Nat → NRes → Option Rt_p_first) (lf : Nat) (x1 : (List Int)) (m1 : Nat) (p : Int) : icodeFT Try.prog ttT.get nm_p_first fi49.nt (cl_p_first _ lf) lf st_p_first J 2 fi49.body [] [m1] (enc_p_first_2 x1 p) (lastK ttT.get fi49 ⟨[(.list (.int .i64))], [(false, (.int .i64))], g⟩) = R_p_first_2 lf x1 (fun q => J 2 [m1] (enc_p_first_2 x1 q)) p := by kernel_rfl
theorem nd_p_first : (regs fi49.body).Nodup := by decide +kernel
theorem ok_p_first : okC nm_p_first st_p_first hd_p_first fi49.body none = true := by kernel_rfl
def A_p_first (g : ElA [(.list (.int .i64))] → Option Rt_p_first) (lf : Nat) : Nat → List Nat → NRes → Option Rt_p_first := atN Try.prog ttT.get nm_p_first fi49 ⟨[(.list (.int .i64))], [(false, (.int .i64))], g⟩ (cl_p_first _ lf) lf hd_p_first
def G_p_first_2 (lf : Nat) (x1 : (List Int)) : Nat → (Int) → Option Rt_p_first := rounds fun K p => R_p_first_2 lf x1 K p
theorem at_p_first_2 (g : ElA [(.list (.int .i64))] → Option Rt_p_first) (lf : Nat) (x1 : (List Int)) : ∀ (n : Nat) (p : Int), A_p_first g lf 2 [n] (enc_p_first_2 x1 p) = G_p_first_2 lf x1 n p
  | 0, p => atN_zero 2 [0] rfl _
  | n + 1, p => by
    have ih := at_p_first_2 g lf x1 n
    refine (atN_eq (icallK_eq 20 _) nd_p_first ok_p_first 2 [n + 1] [n] rfl _).trans ((st_p_first_2 g (A_p_first g lf) lf x1 n p).trans ?_)
    rw [(show (fun q => A_p_first g lf 2 [n] (enc_p_first_2 x1 q)) = (fun q => G_p_first_2 lf x1 n q) from funext ih)]
    rfl
def F_p_first (lf : Nat) (x1 : (List Int)) : Option Rt_p_first := R_p_first_in lf x1 (fun q => G_p_first_2 lf x1 lf q)
theorem run_p_first (g : ElA [(.list (.int .i64))] → Option Rt_p_first) (lf : Nat) (x1 : (List Int)) : icodeT Try.prog ttT.get nm_p_first fi49.nt (cl_p_first _ lf) lf st_p_first (A_p_first g lf) fi49.body [] (argGo (argV [(.list (.int .i64))] (x1, ())) 0 .leaf) S0 [] (lastK ttT.get fi49 ⟨[(.list (.int .i64))], [(false, (.int .i64))], g⟩) = F_p_first lf x1 := by
    refine (in_p_first g (A_p_first g lf) lf x1).trans ?_
    rw [(show (fun q => A_p_first g lf 2 [lf] (enc_p_first_2 x1 q)) = (fun q => G_p_first_2 lf x1 lf q) from funext fun q => at_p_first_2 g lf x1 lf q)]
    rfl
theorem hxs_p_first : HxsOK Try.prog hxl_p_first := trivial
theorem mk_p_first {g : ElA [(.list (.int .i64))] → Option Rt_p_first} (hsm : SmOK Try.prog sml_p_first) (hg : ∀ (x : ElA [(.list (.int .i64))]) (y : Rt_p_first), WfA [(.list (.int .i64))] x → g x = some y → ∃ lf, F_p_first lf x.1 = some y) : Con Try.prog 49 ⟨[(.list (.int .i64))], [(false, (.int .i64))], g⟩ :=
  conT (nmf := nm_p_first) (sml := sml_p_first) (hxl := hxl_p_first) (st := st_p_first) (hd := hd_p_first) 20 mixed ttOK ftOK hsm hxs_p_first cal49 rfl rfl (by kernel_rfl) (fun x => by kernel_rfl) nd_p_first ok_p_first fun x y hx hy => by
    obtain ⟨lf, h⟩ := hg x y hx hy
    exact ⟨lf, (run_p_first g lf x.1).trans h⟩
def nm_p_form : Nat → Option Nm := fun k => none
def st_p_form : Nat → Bool := fun k => false
def hd_p_form : Nat → Bool := fun k => false
abbrev Rt_p_form : Type := Int × Unit
def sml_p_form : List (Nat × Sm) := []
def hxl_p_form : List (Nat × Hx) := [(125, idxHx cForm)]
def cl_p_form (R : Type) (lf : Nat) : ClK R := icallK Try.prog ttT.get ftT.get (nm1 52 nm_p_form) (smL sml_p_form) (hxL hxl_p_form) lf 20 R
abbrev id_p_form : Nat := 52
def R_p_form_in (lf : Nat) (x1 : (List DForm)) (x2 : ByteArray) : Option Rt_p_form := (match (idxO (fun v0 => (some (keqS v0.1 x2))) x1 0) with | .none  => none | .some v1 => (some (v1, ())))
theorem in_p_form (g : ElA [(.list cForm), .str] → Option Rt_p_form) (J : Nat → List Nat → NRes → Option Rt_p_form) (lf : Nat) (x1 : (List DForm)) (x2 : ByteArray) : icodeT Try.prog ttT.get nm_p_form fi52.nt (cl_p_form _ lf) lf st_p_form J fi52.body [] (argGo (argV [(.list cForm), .str] (x1, x2, ())) 0 .leaf) S0 [] (lastK ttT.get fi52 ⟨[(.list cForm), .str], [(false, (.int .i64))], g⟩) = R_p_form_in lf x1 x2 := by kernel_rfl
theorem nd_p_form : (regs fi52.body).Nodup := by decide +kernel
theorem ok_p_form : okC nm_p_form st_p_form hd_p_form fi52.body none = true := by kernel_rfl
def A_p_form (g : ElA [(.list cForm), .str] → Option Rt_p_form) (lf : Nat) : Nat → List Nat → NRes → Option Rt_p_form := atN Try.prog ttT.get nm_p_form fi52 ⟨[(.list cForm), .str], [(false, (.int .i64))], g⟩ (cl_p_form _ lf) lf hd_p_form
def F_p_form (lf : Nat) (x1 : (List DForm)) (x2 : ByteArray) : Option Rt_p_form := R_p_form_in lf x1 x2
theorem run_p_form (g : ElA [(.list cForm), .str] → Option Rt_p_form) (lf : Nat) (x1 : (List DForm)) (x2 : ByteArray) : icodeT Try.prog ttT.get nm_p_form fi52.nt (cl_p_form _ lf) lf st_p_form (A_p_form g lf) fi52.body [] (argGo (argV [(.list cForm), .str] (x1, x2, ())) 0 .leaf) S0 [] (lastK ttT.get fi52 ⟨[(.list cForm), .str], [(false, (.int .i64))], g⟩) = F_p_form lf x1 x2 := by
    refine (in_p_form g (A_p_form g lf) lf x1 x2).trans ?_
    rfl
theorem hxs_p_form : HxsOK Try.prog hxl_p_form := ⟨ixO125, trivial⟩
theorem mk_p_form {g : ElA [(.list cForm), .str] → Option Rt_p_form} (hsm : SmOK Try.prog sml_p_form) (hg : ∀ (x : ElA [(.list cForm), .str]) (y : Rt_p_form), WfA [(.list cForm), .str] x → g x = some y → ∃ lf, F_p_form lf x.1 x.2.1 = some y) : Con Try.prog 52 ⟨[(.list cForm), .str], [(false, (.int .i64))], g⟩ :=
  conT (nmf := nm_p_form) (sml := sml_p_form) (hxl := hxl_p_form) (st := st_p_form) (hd := hd_p_form) 20 mixed ttOK ftOK hsm hxs_p_form cal52 rfl rfl (by kernel_rfl) (fun x => by kernel_rfl) nd_p_form ok_p_form fun x y hx hy => by
    obtain ⟨lf, h⟩ := hg x y hx hy
    exact ⟨lf, (run_p_form g lf x.1 x.2.1).trans h⟩
def nm_p_col : Nat → Option Nm := fun k => none
def st_p_col : Nat → Bool := fun k => false
def hd_p_col : Nat → Bool := fun k => false
abbrev Rt_p_col : Type := Int × Unit
def sml_p_col : List (Nat × Sm) := []
def hxl_p_col : List (Nat × Hx) := [(144, idxHx cCol)]
def cl_p_col (R : Type) (lf : Nat) : ClK R := icallK Try.prog ttT.get ftT.get (nm1 95 nm_p_col) (smL sml_p_col) (hxL hxl_p_col) lf 20 R
abbrev id_p_col : Nat := 95
def R_p_col_in (lf : Nat) (x1 : (List DCol)) (x2 : ByteArray) : Option Rt_p_col := (match (idxO (fun v0 => (some (keqS v0.1 x2))) x1 0) with | .none  => none | .some v1 => (some (v1, ())))
theorem in_p_col (g : ElA [(.list cCol), .str] → Option Rt_p_col) (J : Nat → List Nat → NRes → Option Rt_p_col) (lf : Nat) (x1 : (List DCol)) (x2 : ByteArray) : icodeT Try.prog ttT.get nm_p_col fi95.nt (cl_p_col _ lf) lf st_p_col J fi95.body [] (argGo (argV [(.list cCol), .str] (x1, x2, ())) 0 .leaf) S0 [] (lastK ttT.get fi95 ⟨[(.list cCol), .str], [(false, (.int .i64))], g⟩) = R_p_col_in lf x1 x2 := by kernel_rfl
theorem nd_p_col : (regs fi95.body).Nodup := by decide +kernel
theorem ok_p_col : okC nm_p_col st_p_col hd_p_col fi95.body none = true := by kernel_rfl
def A_p_col (g : ElA [(.list cCol), .str] → Option Rt_p_col) (lf : Nat) : Nat → List Nat → NRes → Option Rt_p_col := atN Try.prog ttT.get nm_p_col fi95 ⟨[(.list cCol), .str], [(false, (.int .i64))], g⟩ (cl_p_col _ lf) lf hd_p_col
def F_p_col (lf : Nat) (x1 : (List DCol)) (x2 : ByteArray) : Option Rt_p_col := R_p_col_in lf x1 x2
theorem run_p_col (g : ElA [(.list cCol), .str] → Option Rt_p_col) (lf : Nat) (x1 : (List DCol)) (x2 : ByteArray) : icodeT Try.prog ttT.get nm_p_col fi95.nt (cl_p_col _ lf) lf st_p_col (A_p_col g lf) fi95.body [] (argGo (argV [(.list cCol), .str] (x1, x2, ())) 0 .leaf) S0 [] (lastK ttT.get fi95 ⟨[(.list cCol), .str], [(false, (.int .i64))], g⟩) = F_p_col lf x1 x2 := by
    refine (in_p_col g (A_p_col g lf) lf x1 x2).trans ?_
    rfl
theorem hxs_p_col : HxsOK Try.prog hxl_p_col := ⟨ixO144, trivial⟩
theorem mk_p_col {g : ElA [(.list cCol), .str] → Option Rt_p_col} (hsm : SmOK Try.prog sml_p_col) (hg : ∀ (x : ElA [(.list cCol), .str]) (y : Rt_p_col), WfA [(.list cCol), .str] x → g x = some y → ∃ lf, F_p_col lf x.1 x.2.1 = some y) : Con Try.prog 95 ⟨[(.list cCol), .str], [(false, (.int .i64))], g⟩ :=
  conT (nmf := nm_p_col) (sml := sml_p_col) (hxl := hxl_p_col) (st := st_p_col) (hd := hd_p_col) 20 mixed ttOK ftOK hsm hxs_p_col cal95 rfl rfl (by kernel_rfl) (fun x => by kernel_rfl) nd_p_col ok_p_col fun x y hx hy => by
    obtain ⟨lf, h⟩ := hg x y hx hy
    exact ⟨lf, (run_p_col g lf x.1 x.2.1).trans h⟩
def nm_p_named : Nat → Option Nm := fun k => none
def st_p_named : Nat → Bool := fun k => false
def hd_p_named : Nat → Bool := fun k => false
abbrev Rt_p_named : Type := Bool × Unit
def sml_p_named : List (Nat × Sm) := []
def hxl_p_named : List (Nat × Hx) := [(143, sixHx)]
def cl_p_named (R : Type) (lf : Nat) : ClK R := icallK Try.prog ttT.get ftT.get (nm1 90 nm_p_named) (smL sml_p_named) (hxL hxl_p_named) lf 20 R
abbrev id_p_named : Nat := 90
def R_p_named_in (lf : Nat) (x1 : ByteArray) (x2 : Int) (x3 : Int) : Option Rt_p_named := (cond (keqS x1 (S.lit [])) (some (Bool.false, ())) (cond (iltI (Int.ofNat 20) (Int.ofNat (ByteArray.size x1))) (some (Bool.false, ())) (match (jget (byteList x1) (Int.ofNat 0)) with | .none  => none | .some v0 => (cond (iltI v0 x2) (some (Bool.false, ())) (match (jget (byteList x1) (Int.ofNat 0)) with | .none  => none | .some v1 => (cond (iltI x3 v1) (some (Bool.false, ())) (match (sixO (fun v2 v3 => (cond (Bool.not (iltI v3 (Go.IntKind.wrap Go.IntKind.i32 x2))) (cond (Bool.not (iltI (Go.IntKind.wrap Go.IntKind.i32 x3) v3)) (some Bool.false) (cond (Bool.not (iltI v3 (Int.ofNat 48))) (cond (Bool.not (iltI (Int.ofNat 57) v3)) (some Bool.false) (some (Bool.not (ieqI v3 (Int.ofNat 95))))) (some (Bool.not (ieqI v3 (Int.ofNat 95)))))) (cond (Bool.not (iltI v3 (Int.ofNat 48))) (cond (Bool.not (iltI (Int.ofNat 57) v3)) (some Bool.false) (some (Bool.not (ieqI v3 (Int.ofNat 95))))) (some (Bool.not (ieqI v3 (Int.ofNat 95))))))) x1 Bool.true (Nat.add (ByteArray.size x1) 1) 0) with | .none  => none | .some v4 => (some ((iltI v4 (Int.ofNat 0)), ())))))))))
theorem in_p_named (g : ElA [.str, (.int .u8), (.int .u8)] → Option Rt_p_named) (J : Nat → List Nat → NRes → Option Rt_p_named) (lf : Nat) (x1 : ByteArray) (x2 : Int) (x3 : Int) : icodeT Try.prog ttT.get nm_p_named fi90.nt (cl_p_named _ lf) lf st_p_named J fi90.body [] (argGo (argV [.str, (.int .u8), (.int .u8)] (x1, x2, x3, ())) 0 .leaf) S0 [] (lastK ttT.get fi90 ⟨[.str, (.int .u8), (.int .u8)], [(false, .bool)], g⟩) = R_p_named_in lf x1 x2 x3 := by kernel_rfl
theorem nd_p_named : (regs fi90.body).Nodup := by decide +kernel
theorem ok_p_named : okC nm_p_named st_p_named hd_p_named fi90.body none = true := by kernel_rfl
def A_p_named (g : ElA [.str, (.int .u8), (.int .u8)] → Option Rt_p_named) (lf : Nat) : Nat → List Nat → NRes → Option Rt_p_named := atN Try.prog ttT.get nm_p_named fi90 ⟨[.str, (.int .u8), (.int .u8)], [(false, .bool)], g⟩ (cl_p_named _ lf) lf hd_p_named
def F_p_named (lf : Nat) (x1 : ByteArray) (x2 : Int) (x3 : Int) : Option Rt_p_named := R_p_named_in lf x1 x2 x3
theorem run_p_named (g : ElA [.str, (.int .u8), (.int .u8)] → Option Rt_p_named) (lf : Nat) (x1 : ByteArray) (x2 : Int) (x3 : Int) : icodeT Try.prog ttT.get nm_p_named fi90.nt (cl_p_named _ lf) lf st_p_named (A_p_named g lf) fi90.body [] (argGo (argV [.str, (.int .u8), (.int .u8)] (x1, x2, x3, ())) 0 .leaf) S0 [] (lastK ttT.get fi90 ⟨[.str, (.int .u8), (.int .u8)], [(false, .bool)], g⟩) = F_p_named lf x1 x2 x3 := by
    refine (in_p_named g (A_p_named g lf) lf x1 x2 x3).trans ?_
    rfl
theorem hxs_p_named : HxsOK Try.prog hxl_p_named := ⟨ixO143, trivial⟩
theorem mk_p_named {g : ElA [.str, (.int .u8), (.int .u8)] → Option Rt_p_named} (hsm : SmOK Try.prog sml_p_named) (hg : ∀ (x : ElA [.str, (.int .u8), (.int .u8)]) (y : Rt_p_named), WfA [.str, (.int .u8), (.int .u8)] x → g x = some y → ∃ lf, F_p_named lf x.1 x.2.1 x.2.2.1 = some y) : Con Try.prog 90 ⟨[.str, (.int .u8), (.int .u8)], [(false, .bool)], g⟩ :=
  conT (nmf := nm_p_named) (sml := sml_p_named) (hxl := hxl_p_named) (st := st_p_named) (hd := hd_p_named) 20 mixed ttOK ftOK hsm hxs_p_named cal90 rfl rfl (by kernel_rfl) (fun x => by kernel_rfl) nd_p_named ok_p_named fun x y hx hy => by
    obtain ⟨lf, h⟩ := hg x y hx hy
    exact ⟨lf, (run_p_named g lf x.1 x.2.1 x.2.2.1).trans h⟩
def nm_slices_Index_string : Nat → Option Nm := fun k => cond (Nat.beq k 2) (some ⟨[0, 1, 7, 8], [], [], [], [], 0, 0, false⟩) (none)
def st_slices_Index_string : Nat → Bool := fun k => cond (Nat.beq k 2) true (false)
def hd_slices_Index_string : Nat → Bool := fun k => cond (Nat.beq k 2) true (false)
abbrev Rt_slices_Index_string : Type := Int × Unit
def sml_slices_Index_string : List (Nat × Sm) := []
def hxl_slices_Index_string : List (Nat × Hx) := []
def cl_slices_Index_string (R : Type) (lf : Nat) : ClK R := icallK Try.prog ttT.get ftT.get (nm1 124 nm_slices_Index_string) (smL sml_slices_Index_string) (hxL hxl_slices_Index_string) lf 20 R
abbrev id_slices_Index_string : Nat := 124
def enc_slices_Index_string_2 (x1 : (List ByteArray)) (x2 : ByteArray) (p : Int) : NRes := (NRes.mk (PT.node (some (IV.lst TC.str x1)) (PT.node (some (IV.str x2)) (PT.node none (PT.node (some (IV.int Go.IntKind.i64 (Int.ofNat (List.length x1)))) PT.leaf PT.leaf) PT.leaf) PT.leaf) (PT.node none (PT.node none (PT.node (some (IV.int Go.IntKind.i64 p)) PT.leaf PT.leaf) PT.leaf) PT.leaf)) (IS.mk PT.leaf 0) [] 0)
def R_slices_Index_string_in (lf : Nat) (x1 : (List ByteArray)) (x2 : ByteArray) (L2 : Int → Option Rt_slices_Index_string) : Option Rt_slices_Index_string := (L2 (Int.ofNat 0))
def R_slices_Index_string_2 (lf : Nat) (x1 : (List ByteArray)) (x2 : ByteArray) (L2 : Int → Option Rt_slices_Index_string) (p : Int) : Option Rt_slices_Index_string := (cond (iltI p (Int.ofNat (List.length x1))) (match (jget x1 p) with | .none  => none | .some v0 => (cond (keqS x2 v0) (some (p, ())) (L2 (Go.IntKind.wrap Go.IntKind.i64 (Int.add p (Int.ofNat 1)))))) (some ((Int.negSucc 0), ())))
theorem in_slices_Index_string (g : ElA [(.list .str), .str] → Option Rt_slices_Index_string) (J : Nat → List Nat → NRes → Option Rt_slices_Index_string) (lf : Nat) (x1 : (List ByteArray)) (x2 : ByteArray) : icodeT Try.prog ttT.get nm_slices_Index_string fi124.nt (cl_slices_Index_string _ lf) lf st_slices_Index_string J fi124.body [] (argGo (argV [(.list .str), .str] (x1, x2, ())) 0 .leaf) S0 [] (lastK ttT.get fi124 ⟨[(.list .str), .str], [(false, (.int .i64))], g⟩) = R_slices_Index_string_in lf x1 x2 (fun q => J 2 [lf] (enc_slices_Index_string_2 x1 x2 q)) := by kernel_rfl
theorem st_slices_Index_string_2 (g : ElA [(.list .str), .str] → Option Rt_slices_Index_string) (J : Nat → List Nat → NRes → Option Rt_slices_Index_string) (lf : Nat) (x1 : (List ByteArray)) (x2 : ByteArray) (m1 : Nat) (p : Int) : icodeFT Try.prog ttT.get nm_slices_Index_string fi124.nt (cl_slices_Index_string _ lf) lf st_slices_Index_string J 2 fi124.body [] [m1] (enc_slices_Index_string_2 x1 x2 p) (lastK ttT.get fi124 ⟨[(.list .str), .str], [(false, (.int .i64))], g⟩) = R_slices_Index_string_2 lf x1 x2 (fun q => J 2 [m1] (enc_slices_Index_string_2 x1 x2 q)) p := by kernel_rfl
theorem nd_slices_Index_string : (regs fi124.body).Nodup := by decide +kernel
theorem ok_slices_Index_string : okC nm_slices_Index_string st_slices_Index_string hd_slices_Index_string fi124.body none = true := by kernel_rfl
def A_slices_Index_string (g : ElA [(.list .str), .str] → Option Rt_slices_Index_string) (lf : Nat) : Nat → List Nat → NRes → Option Rt_slices_Index_string := atN Try.prog ttT.get nm_slices_Index_string fi124 ⟨[(.list .str), .str], [(false, (.int .i64))], g⟩ (cl_slices_Index_string _ lf) lf hd_slices_Index_string
def G_slices_Index_string_2 (lf : Nat) (x1 : (List ByteArray)) (x2 : ByteArray) : Nat → (Int) → Option Rt_slices_Index_string := rounds fun K p => R_slices_Index_string_2 lf x1 x2 K p
theorem at_slices_Index_string_2 (g : ElA [(.list .str), .str] → Option Rt_slices_Index_string) (lf : Nat) (x1 : (List ByteArray)) (x2 : ByteArray) : ∀ (n : Nat) (p : Int), A_slices_Index_string g lf 2 [n] (enc_slices_Index_string_2 x1 x2 p) = G_slices_Index_string_2 lf x1 x2 n p
  | 0, p => atN_zero 2 [0] rfl _
  | n + 1, p => by
    have ih := at_slices_Index_string_2 g lf x1 x2 n
    refine (atN_eq (icallK_eq 20 _) nd_slices_Index_string ok_slices_Index_string 2 [n + 1] [n] rfl _).trans ((st_slices_Index_string_2 g (A_slices_Index_string g lf) lf x1 x2 n p).trans ?_)
    rw [(show (fun q => A_slices_Index_string g lf 2 [n] (enc_slices_Index_string_2 x1 x2 q)) = (fun q => G_slices_Index_string_2 lf x1 x2 n q) from funext ih)]
    rfl
def F_slices_Index_string (lf : Nat) (x1 : (List ByteArray)) (x2 : ByteArray) : Option Rt_slices_Index_string := R_slices_Index_string_in lf x1 x2 (fun q => G_slices_Index_string_2 lf x1 x2 lf q)
theorem run_slices_Index_string (g : ElA [(.list .str), .str] → Option Rt_slices_Index_string) (lf : Nat) (x1 : (List ByteArray)) (x2 : ByteArray) : icodeT Try.prog ttT.get nm_slices_Index_string fi124.nt (cl_slices_Index_string _ lf) lf st_slices_Index_string (A_slices_Index_string g lf) fi124.body [] (argGo (argV [(.list .str), .str] (x1, x2, ())) 0 .leaf) S0 [] (lastK ttT.get fi124 ⟨[(.list .str), .str], [(false, (.int .i64))], g⟩) = F_slices_Index_string lf x1 x2 := by
    refine (in_slices_Index_string g (A_slices_Index_string g lf) lf x1 x2).trans ?_
    rw [(show (fun q => A_slices_Index_string g lf 2 [lf] (enc_slices_Index_string_2 x1 x2 q)) = (fun q => G_slices_Index_string_2 lf x1 x2 lf q) from funext fun q => at_slices_Index_string_2 g lf x1 x2 lf q)]
    rfl
theorem hxs_slices_Index_string : HxsOK Try.prog hxl_slices_Index_string := trivial
theorem mk_slices_Index_string {g : ElA [(.list .str), .str] → Option Rt_slices_Index_string} (hsm : SmOK Try.prog sml_slices_Index_string) (hg : ∀ (x : ElA [(.list .str), .str]) (y : Rt_slices_Index_string), WfA [(.list .str), .str] x → g x = some y → ∃ lf, F_slices_Index_string lf x.1 x.2.1 = some y) : Con Try.prog 124 ⟨[(.list .str), .str], [(false, (.int .i64))], g⟩ :=
  conT (nmf := nm_slices_Index_string) (sml := sml_slices_Index_string) (hxl := hxl_slices_Index_string) (st := st_slices_Index_string) (hd := hd_slices_Index_string) 20 mixed ttOK ftOK hsm hxs_slices_Index_string cal124 rfl rfl (by kernel_rfl) (fun x => by kernel_rfl) nd_slices_Index_string ok_slices_Index_string fun x y hx hy => by
    obtain ⟨lf, h⟩ := hg x y hx hy
    exact ⟨lf, (run_slices_Index_string g lf x.1 x.2.1).trans h⟩
def nm_p_class : Nat → Option Nm := fun k => none
def st_p_class : Nat → Bool := fun k => false
def hd_p_class : Nat → Bool := fun k => false
abbrev Rt_p_class : Type := Bool × Unit
def sml_p_class : List (Nat × Sm) := [(90, sp_p_named), (124, sp_slices_Index_string)]
def hxl_p_class : List (Nat × Hx) := []
def cl_p_class (R : Type) (lf : Nat) : ClK R := icallK Try.prog ttT.get ftT.get (nm1 51 nm_p_class) (smL sml_p_class) (hxL hxl_p_class) lf 20 R
abbrev id_p_class : Nat := 51
def R_p_class_in (lf : Nat) (x1 : ByteArray) : Option Rt_p_class := (cond (Go.Proofs.Ytcnhjofpmpipfaa.S.named x1 (Int.ofNat 65) (Int.ofNat 90)) (some ((Bool.not (Bool.not (iltI (Go.Proofs.Ytcnhjofpmpipfaa.S.index (List.cons (S.lit [73, 78, 84, 69, 71, 69, 82]) (List.cons (S.lit [66, 79, 79, 76, 69, 65, 78]) (List.cons (S.lit [65, 78, 89]) (List.cons (S.lit [78, 79, 78, 69]) [])))) x1) (Int.ofNat 0)))), ())) (some (Bool.false, ())))
theorem in_p_class (g : ElA [.str] → Option Rt_p_class) (J : Nat → List Nat → NRes → Option Rt_p_class) (lf : Nat) (x1 : ByteArray) : icodeT Try.prog ttT.get nm_p_class fi51.nt (cl_p_class _ lf) lf st_p_class J fi51.body [] (argGo (argV [.str] (x1, ())) 0 .leaf) S0 [] (lastK ttT.get fi51 ⟨[.str], [(false, .bool)], g⟩) = R_p_class_in lf x1 := by kernel_rfl
theorem nd_p_class : (regs fi51.body).Nodup := by decide +kernel
theorem ok_p_class : okC nm_p_class st_p_class hd_p_class fi51.body none = true := by kernel_rfl
def A_p_class (g : ElA [.str] → Option Rt_p_class) (lf : Nat) : Nat → List Nat → NRes → Option Rt_p_class := atN Try.prog ttT.get nm_p_class fi51 ⟨[.str], [(false, .bool)], g⟩ (cl_p_class _ lf) lf hd_p_class
def F_p_class (lf : Nat) (x1 : ByteArray) : Option Rt_p_class := R_p_class_in lf x1
theorem run_p_class (g : ElA [.str] → Option Rt_p_class) (lf : Nat) (x1 : ByteArray) : icodeT Try.prog ttT.get nm_p_class fi51.nt (cl_p_class _ lf) lf st_p_class (A_p_class g lf) fi51.body [] (argGo (argV [.str] (x1, ())) 0 .leaf) S0 [] (lastK ttT.get fi51 ⟨[.str], [(false, .bool)], g⟩) = F_p_class lf x1 := by
    refine (in_p_class g (A_p_class g lf) lf x1).trans ?_
    rfl
theorem hxs_p_class : HxsOK Try.prog hxl_p_class := trivial
theorem mk_p_class {g : ElA [.str] → Option Rt_p_class} (hsm : SmOK Try.prog sml_p_class) (hg : ∀ (x : ElA [.str]) (y : Rt_p_class), WfA [.str] x → g x = some y → ∃ lf, F_p_class lf x.1 = some y) : Con Try.prog 51 ⟨[.str], [(false, .bool)], g⟩ :=
  conT (nmf := nm_p_class) (sml := sml_p_class) (hxl := hxl_p_class) (st := st_p_class) (hd := hd_p_class) 20 mixed ttOK ftOK hsm hxs_p_class cal51 rfl rfl (by kernel_rfl) (fun x => by kernel_rfl) nd_p_class ok_p_class fun x y hx hy => by
    obtain ⟨lf, h⟩ := hg x y hx hy
    exact ⟨lf, (run_p_class g lf x.1).trans h⟩
def nm_p_small : Nat → Option Nm := fun k => none
def st_p_small : Nat → Bool := fun k => false
def hd_p_small : Nat → Bool := fun k => false
abbrev Rt_p_small : Type := Bool × Unit
def sml_p_small : List (Nat × Sm) := [(90, sp_p_named), (124, sp_slices_Index_string)]
def hxl_p_small : List (Nat × Hx) := []
def cl_p_small (R : Type) (lf : Nat) : ClK R := icallK Try.prog ttT.get ftT.get (nm1 94 nm_p_small) (smL sml_p_small) (hxL hxl_p_small) lf 20 R
abbrev id_p_small : Nat := 94
def R_p_small_in (lf : Nat) (x1 : ByteArray) : Option Rt_p_small := (cond (Go.Proofs.Ytcnhjofpmpipfaa.S.named x1 (Int.ofNat 97) (Int.ofNat 122)) (some ((Bool.not (Bool.not (iltI (Go.Proofs.Ytcnhjofpmpipfaa.S.index (List.cons (S.lit [116, 114, 117, 101]) (List.cons (S.lit [102, 97, 108, 115, 101]) (List.cons (S.lit [118, 111, 105, 100]) (List.cons (S.lit [99, 117, 114, 114, 101, 110, 116]) (List.cons (S.lit [114, 101, 115, 117, 108, 116]) []))))) x1) (Int.ofNat 0)))), ())) (some (Bool.false, ())))
theorem in_p_small (g : ElA [.str] → Option Rt_p_small) (J : Nat → List Nat → NRes → Option Rt_p_small) (lf : Nat) (x1 : ByteArray) : icodeT Try.prog ttT.get nm_p_small fi94.nt (cl_p_small _ lf) lf st_p_small J fi94.body [] (argGo (argV [.str] (x1, ())) 0 .leaf) S0 [] (lastK ttT.get fi94 ⟨[.str], [(false, .bool)], g⟩) = R_p_small_in lf x1 := by kernel_rfl
theorem nd_p_small : (regs fi94.body).Nodup := by decide +kernel
theorem ok_p_small : okC nm_p_small st_p_small hd_p_small fi94.body none = true := by kernel_rfl
def A_p_small (g : ElA [.str] → Option Rt_p_small) (lf : Nat) : Nat → List Nat → NRes → Option Rt_p_small := atN Try.prog ttT.get nm_p_small fi94 ⟨[.str], [(false, .bool)], g⟩ (cl_p_small _ lf) lf hd_p_small
def F_p_small (lf : Nat) (x1 : ByteArray) : Option Rt_p_small := R_p_small_in lf x1
theorem run_p_small (g : ElA [.str] → Option Rt_p_small) (lf : Nat) (x1 : ByteArray) : icodeT Try.prog ttT.get nm_p_small fi94.nt (cl_p_small _ lf) lf st_p_small (A_p_small g lf) fi94.body [] (argGo (argV [.str] (x1, ())) 0 .leaf) S0 [] (lastK ttT.get fi94 ⟨[.str], [(false, .bool)], g⟩) = F_p_small lf x1 := by
    refine (in_p_small g (A_p_small g lf) lf x1).trans ?_
    rfl
theorem hxs_p_small : HxsOK Try.prog hxl_p_small := trivial
theorem mk_p_small {g : ElA [.str] → Option Rt_p_small} (hsm : SmOK Try.prog sml_p_small) (hg : ∀ (x : ElA [.str]) (y : Rt_p_small), WfA [.str] x → g x = some y → ∃ lf, F_p_small lf x.1 = some y) : Con Try.prog 94 ⟨[.str], [(false, .bool)], g⟩ :=
  conT (nmf := nm_p_small) (sml := sml_p_small) (hxl := hxl_p_small) (st := st_p_small) (hd := hd_p_small) 20 mixed ttOK ftOK hsm hxs_p_small cal94 rfl rfl (by kernel_rfl) (fun x => by kernel_rfl) nd_p_small ok_p_small fun x y hx hy => by
    obtain ⟨lf, h⟩ := hg x y hx hy
    exact ⟨lf, (run_p_small g lf x.1).trans h⟩
def nm_p_checkCols : Nat → Option Nm := fun k => cond (Nat.beq k 4) (some ⟨[0, 8, 9, 10], [], [], [], [], 0, 0, false⟩) (none)
def st_p_checkCols : Nat → Bool := fun k => cond (Nat.beq k 4) true (false)
def hd_p_checkCols : Nat → Bool := fun k => cond (Nat.beq k 4) true (false)
abbrev Rt_p_checkCols : Type := Int × Unit
def sml_p_checkCols : List (Nat × Sm) := [(94, sp_p_small), (95, sp_p_col), (83, sp_p_within)]
def hxl_p_checkCols : List (Nat × Hx) := []
def cl_p_checkCols (R : Type) (lf : Nat) : ClK R := icallK Try.prog ttT.get ftT.get (nm1 53 nm_p_checkCols) (smL sml_p_checkCols) (hxL hxl_p_checkCols) lf 20 R
abbrev id_p_checkCols : Nat := 53
def enc_p_checkCols_4 (x1 : (List DCol)) (p : Int) : NRes := (NRes.mk (PT.node (some (IV.lst cCol x1)) (PT.node none PT.leaf (PT.node none (PT.node (some (IV.int Go.IntKind.i64 (Int.ofNat (List.length x1)))) PT.leaf PT.leaf) PT.leaf)) (PT.node none (PT.node none (PT.node (some (IV.lst cCol x1)) PT.leaf PT.leaf) PT.leaf) (PT.node none (PT.node (some (IV.int Go.IntKind.i64 p)) PT.leaf PT.leaf) PT.leaf))) (IS.mk PT.leaf 0) [] 0)
def R_p_checkCols_in (lf : Nat) (x1 : (List DCol)) (L4 : Int → Option Rt_p_checkCols) : Option Rt_p_checkCols := (cond (iltI (Int.ofNat 30) (Int.ofNat (List.length x1))) (some ((Int.ofNat 3), ())) (L4 (Int.ofNat 0)))
def R_p_checkCols_4 (lf : Nat) (x1 : (List DCol)) (L4 : Int → Option Rt_p_checkCols) (p : Int) : Option Rt_p_checkCols := (cond (iltI p (Int.ofNat (List.length x1))) (match (jget x1 p) with | .none  => none | .some v0 => (cond (Bool.not (Go.Proofs.Ytcnhjofpmpipfaa.S.small v0.1)) (some ((Int.ofNat 4), ())) (cond (lchk (Int.ofNat 0) p (Int.ofNat (List.length x1)) (Int.ofNat (List.length x1))) (cond (Bool.not (iltI (Go.Proofs.Ytcnhjofpmpipfaa.S.col (lsub x1 (Int.ofNat 0) p) v0.1) (Int.ofNat 0))) (some ((Int.ofNat 6), ())) (cond (Bool.not (Go.Proofs.Ytcnhjofpmpipfaa.S.within v0.2.1 (Int.ofNat 1) (Int.ofNat 3))) (some ((Int.ofNat 1), ())) (cond (Bool.not (ieqI v0.2.1 (Int.ofNat 3))) (cond (Bool.not (keqS v0.2.2 (S.lit []))) (some ((Int.ofNat 1), ())) (L4 (Go.IntKind.wrap Go.IntKind.i64 (Int.add p (Int.ofNat 1))))) (L4 (Go.IntKind.wrap Go.IntKind.i64 (Int.add p (Int.ofNat 1))))))) none))) (some ((Int.ofNat 0), ())))
theorem in_p_checkCols (g : ElA [(.list cCol)] → Option Rt_p_checkCols) (J : Nat → List Nat → NRes → Option Rt_p_checkCols) (lf : Nat) (x1 : (List DCol)) : icodeT Try.prog ttT.get nm_p_checkCols fi53.nt (cl_p_checkCols _ lf) lf st_p_checkCols J fi53.body [] (argGo (argV [(.list cCol)] (x1, ())) 0 .leaf) S0 [] (lastK ttT.get fi53 ⟨[(.list cCol)], [(false, (.int .i64))], g⟩) = R_p_checkCols_in lf x1 (fun q => J 4 [lf] (enc_p_checkCols_4 x1 q)) := by kernel_rfl
theorem st_p_checkCols_4 (g : ElA [(.list cCol)] → Option Rt_p_checkCols) (J : Nat → List Nat → NRes → Option Rt_p_checkCols) (lf : Nat) (x1 : (List DCol)) (m1 : Nat) (p : Int) : icodeFT Try.prog ttT.get nm_p_checkCols fi53.nt (cl_p_checkCols _ lf) lf st_p_checkCols J 4 fi53.body [] [m1] (enc_p_checkCols_4 x1 p) (lastK ttT.get fi53 ⟨[(.list cCol)], [(false, (.int .i64))], g⟩) = R_p_checkCols_4 lf x1 (fun q => J 4 [m1] (enc_p_checkCols_4 x1 q)) p := by kernel_rfl
theorem nd_p_checkCols : (regs fi53.body).Nodup := by decide +kernel
theorem ok_p_checkCols : okC nm_p_checkCols st_p_checkCols hd_p_checkCols fi53.body none = true := by kernel_rfl
def A_p_checkCols (g : ElA [(.list cCol)] → Option Rt_p_checkCols) (lf : Nat) : Nat → List Nat → NRes → Option Rt_p_checkCols := atN Try.prog ttT.get nm_p_checkCols fi53 ⟨[(.list cCol)], [(false, (.int .i64))], g⟩ (cl_p_checkCols _ lf) lf hd_p_checkCols
def G_p_checkCols_4 (lf : Nat) (x1 : (List DCol)) : Nat → (Int) → Option Rt_p_checkCols := rounds fun K p => R_p_checkCols_4 lf x1 K p
theorem at_p_checkCols_4 (g : ElA [(.list cCol)] → Option Rt_p_checkCols) (lf : Nat) (x1 : (List DCol)) : ∀ (n : Nat) (p : Int), A_p_checkCols g lf 4 [n] (enc_p_checkCols_4 x1 p) = G_p_checkCols_4 lf x1 n p
  | 0, p => atN_zero 4 [0] rfl _
  | n + 1, p => by
    have ih := at_p_checkCols_4 g lf x1 n
    refine (atN_eq (icallK_eq 20 _) nd_p_checkCols ok_p_checkCols 4 [n + 1] [n] rfl _).trans ((st_p_checkCols_4 g (A_p_checkCols g lf) lf x1 n p).trans ?_)
    rw [(show (fun q => A_p_checkCols g lf 4 [n] (enc_p_checkCols_4 x1 q)) = (fun q => G_p_checkCols_4 lf x1 n q) from funext ih)]
    rfl
def F_p_checkCols (lf : Nat) (x1 : (List DCol)) : Option Rt_p_checkCols := R_p_checkCols_in lf x1 (fun q => G_p_checkCols_4 lf x1 lf q)
theorem run_p_checkCols (g : ElA [(.list cCol)] → Option Rt_p_checkCols) (lf : Nat) (x1 : (List DCol)) : icodeT Try.prog ttT.get nm_p_checkCols fi53.nt (cl_p_checkCols _ lf) lf st_p_checkCols (A_p_checkCols g lf) fi53.body [] (argGo (argV [(.list cCol)] (x1, ())) 0 .leaf) S0 [] (lastK ttT.get fi53 ⟨[(.list cCol)], [(false, (.int .i64))], g⟩) = F_p_checkCols lf x1 := by
    refine (in_p_checkCols g (A_p_checkCols g lf) lf x1).trans ?_
    rw [(show (fun q => A_p_checkCols g lf 4 [lf] (enc_p_checkCols_4 x1 q)) = (fun q => G_p_checkCols_4 lf x1 lf q) from funext fun q => at_p_checkCols_4 g lf x1 lf q)]
    rfl
theorem hxs_p_checkCols : HxsOK Try.prog hxl_p_checkCols := trivial
theorem mk_p_checkCols {g : ElA [(.list cCol)] → Option Rt_p_checkCols} (hsm : SmOK Try.prog sml_p_checkCols) (hg : ∀ (x : ElA [(.list cCol)]) (y : Rt_p_checkCols), WfA [(.list cCol)] x → g x = some y → ∃ lf, F_p_checkCols lf x.1 = some y) : Con Try.prog 53 ⟨[(.list cCol)], [(false, (.int .i64))], g⟩ :=
  conT (nmf := nm_p_checkCols) (sml := sml_p_checkCols) (hxl := hxl_p_checkCols) (st := st_p_checkCols) (hd := hd_p_checkCols) 20 mixed ttOK ftOK hsm hxs_p_checkCols cal53 rfl rfl (by kernel_rfl) (fun x => by kernel_rfl) nd_p_checkCols ok_p_checkCols fun x y hx hy => by
    obtain ⟨lf, h⟩ := hg x y hx hy
    exact ⟨lf, (run_p_checkCols g lf x.1).trans h⟩
def nm_p_CheckForms : Nat → Option Nm := fun k => cond (Nat.beq k 4) (some ⟨[0, 13, 14, 15], [], [], [], [], 0, 0, false⟩) (cond (Nat.beq k 11) (some ⟨[0, 41, 42, 43], [], [], [], [], 0, 0, false⟩) (cond (Nat.beq k 14) (some ⟨[0, 41, 42, 43, 48, 49, 50], [], [], [], [], 0, 0, false⟩) (none)))
def st_p_CheckForms : Nat → Bool := fun k => cond (Nat.beq k 4) true (cond (Nat.beq k 11) true (cond (Nat.beq k 14) true (false)))
def hd_p_CheckForms : Nat → Bool := fun k => cond (Nat.beq k 4) true (cond (Nat.beq k 11) true (cond (Nat.beq k 14) true (false)))
abbrev Rt_p_CheckForms : Type := Int × Unit
def sml_p_CheckForms : List (Nat × Sm) := [(51, sp_p_class), (52, sp_p_form), (53, sp_p_checkCols), (49, sp_p_first)]
def hxl_p_CheckForms : List (Nat × Hx) := []
def cl_p_CheckForms (R : Type) (lf : Nat) : ClK R := icallK Try.prog ttT.get ftT.get (nm1 16 nm_p_CheckForms) (smL sml_p_CheckForms) (hxL hxl_p_CheckForms) lf 20 R
abbrev id_p_CheckForms : Nat := 16
def enc_p_CheckForms_4 (x1 : (List DForm)) (p : Int) : NRes := (NRes.mk (PT.node (some (IV.lst cForm x1)) (PT.node none (PT.node none (PT.node none (PT.node (some (IV.int Go.IntKind.i64 p)) PT.leaf PT.leaf) PT.leaf) PT.leaf) (PT.node none PT.leaf (PT.node (some (IV.lst cForm x1)) PT.leaf PT.leaf))) (PT.node none PT.leaf (PT.node none PT.leaf (PT.node (some (IV.int Go.IntKind.i64 (Int.ofNat (List.length x1)))) PT.leaf PT.leaf)))) (IS.mk PT.leaf 0) [] 0)
def enc_p_CheckForms_11 (x1 : (List DForm)) (p : Int) : NRes := (NRes.mk (PT.node (some (IV.lst cForm x1)) (PT.node none (PT.node none PT.leaf (PT.node none PT.leaf (PT.node none (PT.node (some (IV.int Go.IntKind.i64 p)) PT.leaf PT.leaf) PT.leaf))) (PT.node none (PT.node none PT.leaf (PT.node none (PT.node (some (IV.lst cForm x1)) PT.leaf PT.leaf) PT.leaf)) PT.leaf)) (PT.node none PT.leaf (PT.node none (PT.node none PT.leaf (PT.node none (PT.node (some (IV.int Go.IntKind.i64 (Int.ofNat (List.length x1)))) PT.leaf PT.leaf) PT.leaf)) PT.leaf))) (IS.mk PT.leaf 0) [] 0)
def enc_p_CheckForms_14 (x1 : (List DForm)) (p : (List DCol) × Int × Int) : NRes := (NRes.mk (PT.node (some (IV.lst cForm x1)) (PT.node none (PT.node none PT.leaf (PT.node none PT.leaf (PT.node none (PT.node (some (IV.int Go.IntKind.i64 p.2.2)) PT.leaf PT.leaf) PT.leaf))) (PT.node none (PT.node none (PT.node none PT.leaf (PT.node (some (IV.int Go.IntKind.i64 (Int.ofNat (List.length p.1)))) PT.leaf PT.leaf)) (PT.node none (PT.node (some (IV.lst cForm x1)) PT.leaf PT.leaf) PT.leaf)) PT.leaf)) (PT.node none (PT.node none (PT.node none (PT.node none PT.leaf (PT.node (some (IV.lst cCol p.1)) PT.leaf PT.leaf)) PT.leaf) PT.leaf) (PT.node none (PT.node none (PT.node none PT.leaf (PT.node (some (IV.int Go.IntKind.i64 p.2.1)) PT.leaf PT.leaf)) (PT.node none (PT.node (some (IV.int Go.IntKind.i64 (Int.ofNat (List.length x1)))) PT.leaf PT.leaf) PT.leaf)) PT.leaf))) (IS.mk PT.leaf 0) [] 0)
def R_p_CheckForms_in (lf : Nat) (x1 : (List DForm)) (L4 : Int → Option Rt_p_CheckForms) : Option Rt_p_CheckForms := (cond (iltI (Int.ofNat 24) (Int.ofNat (List.length x1))) (some ((Int.ofNat 3), ())) (L4 (Int.ofNat 0)))
def R_p_CheckForms_4 (lf : Nat) (x1 : (List DForm)) (L4 : Int → Option Rt_p_CheckForms) (L11 : Int → Option Rt_p_CheckForms) (p : Int) : Option Rt_p_CheckForms := (cond (iltI p (Int.ofNat (List.length x1))) (match (jget x1 p) with | .none  => none | .some v0 => (cond (Go.Proofs.Ytcnhjofpmpipfaa.S.class_ v0.1) (cond (lchk (Int.ofNat 0) p (Int.ofNat (List.length x1)) (Int.ofNat (List.length x1))) (cond (iltI (Go.Proofs.Ytcnhjofpmpipfaa.S.form (lsub x1 (Int.ofNat 0) p) v0.1) (Int.ofNat 0)) (cond (Bool.not (ieqI (Go.Proofs.Ytcnhjofpmpipfaa.S.first (List.cons (Int.ofNat 0) (List.cons (Int.ofNat 0) (List.cons (Go.Proofs.Ytcnhjofpmpipfaa.S.checkCols v0.2) [])))) (Int.ofNat 0))) (some ((Go.Proofs.Ytcnhjofpmpipfaa.S.first (List.cons (Int.ofNat 0) (List.cons (Int.ofNat 0) (List.cons (Go.Proofs.Ytcnhjofpmpipfaa.S.checkCols v0.2) [])))), ())) (L4 (Go.IntKind.wrap Go.IntKind.i64 (Int.add p (Int.ofNat 1))))) (cond (Bool.not (ieqI (Go.Proofs.Ytcnhjofpmpipfaa.S.first (List.cons (Int.ofNat 0) (List.cons (Int.ofNat 6) (List.cons (Go.Proofs.Ytcnhjofpmpipfaa.S.checkCols v0.2) [])))) (Int.ofNat 0))) (some ((Go.Proofs.Ytcnhjofpmpipfaa.S.first (List.cons (Int.ofNat 0) (List.cons (Int.ofNat 6) (List.cons (Go.Proofs.Ytcnhjofpmpipfaa.S.checkCols v0.2) [])))), ())) (L4 (Go.IntKind.wrap Go.IntKind.i64 (Int.add p (Int.ofNat 1)))))) none) (cond (lchk (Int.ofNat 0) p (Int.ofNat (List.length x1)) (Int.ofNat (List.length x1))) (cond (iltI (Go.Proofs.Ytcnhjofpmpipfaa.S.form (lsub x1 (Int.ofNat 0) p) v0.1) (Int.ofNat 0)) (cond (Bool.not (ieqI (Go.Proofs.Ytcnhjofpmpipfaa.S.first (List.cons (Int.ofNat 4) (List.cons (Int.ofNat 0) (List.cons (Go.Proofs.Ytcnhjofpmpipfaa.S.checkCols v0.2) [])))) (Int.ofNat 0))) (some ((Go.Proofs.Ytcnhjofpmpipfaa.S.first (List.cons (Int.ofNat 4) (List.cons (Int.ofNat 0) (List.cons (Go.Proofs.Ytcnhjofpmpipfaa.S.checkCols v0.2) [])))), ())) (L4 (Go.IntKind.wrap Go.IntKind.i64 (Int.add p (Int.ofNat 1))))) (cond (Bool.not (ieqI (Go.Proofs.Ytcnhjofpmpipfaa.S.first (List.cons (Int.ofNat 4) (List.cons (Int.ofNat 6) (List.cons (Go.Proofs.Ytcnhjofpmpipfaa.S.checkCols v0.2) [])))) (Int.ofNat 0))) (some ((Go.Proofs.Ytcnhjofpmpipfaa.S.first (List.cons (Int.ofNat 4) (List.cons (Int.ofNat 6) (List.cons (Go.Proofs.Ytcnhjofpmpipfaa.S.checkCols v0.2) [])))), ())) (L4 (Go.IntKind.wrap Go.IntKind.i64 (Int.add p (Int.ofNat 1)))))) none))) (L11 (Int.ofNat 0)))
def R_p_CheckForms_11 (lf : Nat) (x1 : (List DForm)) (L14 : ((List DCol) × Int × Int) → Option Rt_p_CheckForms) (p : Int) : Option Rt_p_CheckForms := (cond (iltI p (Int.ofNat (List.length x1))) (match (jget x1 p) with | .none  => none | .some v0 => (L14 (v0.2, (Int.ofNat 0), p))) (some ((Int.ofNat 0), ())))
def R_p_CheckForms_14 (lf : Nat) (x1 : (List DForm)) (L14 : ((List DCol) × Int × Int) → Option Rt_p_CheckForms) (L11 : Int → Option Rt_p_CheckForms) (p : (List DCol) × Int × Int) : Option Rt_p_CheckForms := (cond (iltI p.2.1 (Int.ofNat (List.length p.1))) (match (jget p.1 p.2.1) with | .none  => none | .some v0 => (cond (ieqI v0.2.1 (Int.ofNat 3)) (cond (Bool.not (keqS v0.2.2 (S.lit [65, 78, 89]))) (cond (iltI (Go.Proofs.Ytcnhjofpmpipfaa.S.form x1 v0.2.2) (Int.ofNat 0)) (some ((Int.ofNat 5), ())) (L14 (p.1, (Go.IntKind.wrap Go.IntKind.i64 (Int.add p.2.1 (Int.ofNat 1))), p.2.2))) (L14 (p.1, (Go.IntKind.wrap Go.IntKind.i64 (Int.add p.2.1 (Int.ofNat 1))), p.2.2))) (L14 (p.1, (Go.IntKind.wrap Go.IntKind.i64 (Int.add p.2.1 (Int.ofNat 1))), p.2.2)))) (L11 (Go.IntKind.wrap Go.IntKind.i64 (Int.add p.2.2 (Int.ofNat 1)))))
theorem in_p_CheckForms (g : ElA [(.list cForm)] → Option Rt_p_CheckForms) (J : Nat → List Nat → NRes → Option Rt_p_CheckForms) (lf : Nat) (x1 : (List DForm)) : icodeT Try.prog ttT.get nm_p_CheckForms fi16.nt (cl_p_CheckForms _ lf) lf st_p_CheckForms J fi16.body [] (argGo (argV [(.list cForm)] (x1, ())) 0 .leaf) S0 [] (lastK ttT.get fi16 ⟨[(.list cForm)], [(false, (.int .i64))], g⟩) = R_p_CheckForms_in lf x1 (fun q => J 4 [lf] (enc_p_CheckForms_4 x1 q)) := by kernel_rfl
theorem st_p_CheckForms_4 (g : ElA [(.list cForm)] → Option Rt_p_CheckForms) (J : Nat → List Nat → NRes → Option Rt_p_CheckForms) (lf : Nat) (x1 : (List DForm)) (m1 : Nat) (p : Int) : icodeFT Try.prog ttT.get nm_p_CheckForms fi16.nt (cl_p_CheckForms _ lf) lf st_p_CheckForms J 4 fi16.body [] [m1] (enc_p_CheckForms_4 x1 p) (lastK ttT.get fi16 ⟨[(.list cForm)], [(false, (.int .i64))], g⟩) = R_p_CheckForms_4 lf x1 (fun q => J 4 [m1] (enc_p_CheckForms_4 x1 q)) (fun q => J 11 [lf] (enc_p_CheckForms_11 x1 q)) p := by kernel_rfl
theorem st_p_CheckForms_11 (g : ElA [(.list cForm)] → Option Rt_p_CheckForms) (J : Nat → List Nat → NRes → Option Rt_p_CheckForms) (lf : Nat) (x1 : (List DForm)) (m1 : Nat) (p : Int) : icodeFT Try.prog ttT.get nm_p_CheckForms fi16.nt (cl_p_CheckForms _ lf) lf st_p_CheckForms J 11 fi16.body [] [m1] (enc_p_CheckForms_11 x1 p) (lastK ttT.get fi16 ⟨[(.list cForm)], [(false, (.int .i64))], g⟩) = R_p_CheckForms_11 lf x1 (fun q => J 14 [m1, lf] (enc_p_CheckForms_14 x1 q)) p := by kernel_rfl
theorem st_p_CheckForms_14 (g : ElA [(.list cForm)] → Option Rt_p_CheckForms) (J : Nat → List Nat → NRes → Option Rt_p_CheckForms) (lf : Nat) (x1 : (List DForm)) (m1 : Nat) (m2 : Nat) (p : (List DCol) × Int × Int) : icodeFT Try.prog ttT.get nm_p_CheckForms fi16.nt (cl_p_CheckForms _ lf) lf st_p_CheckForms J 14 fi16.body [] [m1, m2] (enc_p_CheckForms_14 x1 p) (lastK ttT.get fi16 ⟨[(.list cForm)], [(false, (.int .i64))], g⟩) = R_p_CheckForms_14 lf x1 (fun q => J 14 [m1, m2] (enc_p_CheckForms_14 x1 q)) (fun q => J 11 [m1] (enc_p_CheckForms_11 x1 q)) p := by kernel_rfl
theorem nd_p_CheckForms : (regs fi16.body).Nodup := by decide +kernel
theorem ok_p_CheckForms : okC nm_p_CheckForms st_p_CheckForms hd_p_CheckForms fi16.body none = true := by kernel_rfl
def A_p_CheckForms (g : ElA [(.list cForm)] → Option Rt_p_CheckForms) (lf : Nat) : Nat → List Nat → NRes → Option Rt_p_CheckForms := atN Try.prog ttT.get nm_p_CheckForms fi16 ⟨[(.list cForm)], [(false, (.int .i64))], g⟩ (cl_p_CheckForms _ lf) lf hd_p_CheckForms
def G_p_CheckForms_14 (lf : Nat) (x1 : (List DForm)) (K11 : Int → Option Rt_p_CheckForms) : Nat → ((List DCol) × Int × Int) → Option Rt_p_CheckForms := rounds fun K p => R_p_CheckForms_14 lf x1 K K11 p
theorem at_p_CheckForms_14 (g : ElA [(.list cForm)] → Option Rt_p_CheckForms) (lf : Nat) (x1 : (List DForm)) (m1 : Nat) : ∀ (n : Nat) (p : (List DCol) × Int × Int), A_p_CheckForms g lf 14 [m1, n] (enc_p_CheckForms_14 x1 p) = G_p_CheckForms_14 lf x1 (fun q => A_p_CheckForms g lf 11 [m1] (enc_p_CheckForms_11 x1 q)) n p
  | 0, p => atN_zero 14 [m1, 0] rfl _
  | n + 1, p => by
    have ih := at_p_CheckForms_14 g lf x1 m1 n
    refine (atN_eq (icallK_eq 20 _) nd_p_CheckForms ok_p_CheckForms 14 [m1, n + 1] [m1, n] rfl _).trans ((st_p_CheckForms_14 g (A_p_CheckForms g lf) lf x1 m1 n p).trans ?_)
    rw [(show (fun q => A_p_CheckForms g lf 14 [m1, n] (enc_p_CheckForms_14 x1 q)) = (fun q => G_p_CheckForms_14 lf x1 (fun q => A_p_CheckForms g lf 11 [m1] (enc_p_CheckForms_11 x1 q)) n q) from funext ih)]
    rfl
def G_p_CheckForms_11 (lf : Nat) (x1 : (List DForm)) : Nat → (Int) → Option Rt_p_CheckForms := rounds fun K p => R_p_CheckForms_11 lf x1 (fun q => G_p_CheckForms_14 lf x1 K lf q) p
theorem at_p_CheckForms_11 (g : ElA [(.list cForm)] → Option Rt_p_CheckForms) (lf : Nat) (x1 : (List DForm)) : ∀ (n : Nat) (p : Int), A_p_CheckForms g lf 11 [n] (enc_p_CheckForms_11 x1 p) = G_p_CheckForms_11 lf x1 n p
  | 0, p => atN_zero 11 [0] rfl _
  | n + 1, p => by
    have ih := at_p_CheckForms_11 g lf x1 n
    refine (atN_eq (icallK_eq 20 _) nd_p_CheckForms ok_p_CheckForms 11 [n + 1] [n] rfl _).trans ((st_p_CheckForms_11 g (A_p_CheckForms g lf) lf x1 n p).trans ?_)
    rw [(show (fun q => A_p_CheckForms g lf 14 [n, lf] (enc_p_CheckForms_14 x1 q)) = (fun q => G_p_CheckForms_14 lf x1 (fun q => A_p_CheckForms g lf 11 [n] (enc_p_CheckForms_11 x1 q)) lf q) from funext fun q => at_p_CheckForms_14 g lf x1 n lf q), (show (fun q => A_p_CheckForms g lf 11 [n] (enc_p_CheckForms_11 x1 q)) = (fun q => G_p_CheckForms_11 lf x1 n q) from funext ih)]
    rfl
def G_p_CheckForms_4 (lf : Nat) (x1 : (List DForm)) : Nat → (Int) → Option Rt_p_CheckForms := rounds fun K p => R_p_CheckForms_4 lf x1 K (fun q => G_p_CheckForms_11 lf x1 lf q) p
theorem at_p_CheckForms_4 (g : ElA [(.list cForm)] → Option Rt_p_CheckForms) (lf : Nat) (x1 : (List DForm)) : ∀ (n : Nat) (p : Int), A_p_CheckForms g lf 4 [n] (enc_p_CheckForms_4 x1 p) = G_p_CheckForms_4 lf x1 n p
  | 0, p => atN_zero 4 [0] rfl _
  | n + 1, p => by
    have ih := at_p_CheckForms_4 g lf x1 n
    refine (atN_eq (icallK_eq 20 _) nd_p_CheckForms ok_p_CheckForms 4 [n + 1] [n] rfl _).trans ((st_p_CheckForms_4 g (A_p_CheckForms g lf) lf x1 n p).trans ?_)
    rw [(show (fun q => A_p_CheckForms g lf 11 [lf] (enc_p_CheckForms_11 x1 q)) = (fun q => G_p_CheckForms_11 lf x1 lf q) from funext fun q => at_p_CheckForms_11 g lf x1 lf q), (show (fun q => A_p_CheckForms g lf 4 [n] (enc_p_CheckForms_4 x1 q)) = (fun q => G_p_CheckForms_4 lf x1 n q) from funext ih)]
    rfl
def F_p_CheckForms (lf : Nat) (x1 : (List DForm)) : Option Rt_p_CheckForms := R_p_CheckForms_in lf x1 (fun q => G_p_CheckForms_4 lf x1 lf q)
theorem run_p_CheckForms (g : ElA [(.list cForm)] → Option Rt_p_CheckForms) (lf : Nat) (x1 : (List DForm)) : icodeT Try.prog ttT.get nm_p_CheckForms fi16.nt (cl_p_CheckForms _ lf) lf st_p_CheckForms (A_p_CheckForms g lf) fi16.body [] (argGo (argV [(.list cForm)] (x1, ())) 0 .leaf) S0 [] (lastK ttT.get fi16 ⟨[(.list cForm)], [(false, (.int .i64))], g⟩) = F_p_CheckForms lf x1 := by
    refine (in_p_CheckForms g (A_p_CheckForms g lf) lf x1).trans ?_
    rw [(show (fun q => A_p_CheckForms g lf 4 [lf] (enc_p_CheckForms_4 x1 q)) = (fun q => G_p_CheckForms_4 lf x1 lf q) from funext fun q => at_p_CheckForms_4 g lf x1 lf q)]
    rfl
theorem hxs_p_CheckForms : HxsOK Try.prog hxl_p_CheckForms := trivial
theorem mk_p_CheckForms {g : ElA [(.list cForm)] → Option Rt_p_CheckForms} (hsm : SmOK Try.prog sml_p_CheckForms) (hg : ∀ (x : ElA [(.list cForm)]) (y : Rt_p_CheckForms), WfA [(.list cForm)] x → g x = some y → ∃ lf, F_p_CheckForms lf x.1 = some y) : Con Try.prog 16 ⟨[(.list cForm)], [(false, (.int .i64))], g⟩ :=
  conT (nmf := nm_p_CheckForms) (sml := sml_p_CheckForms) (hxl := hxl_p_CheckForms) (st := st_p_CheckForms) (hd := hd_p_CheckForms) 20 mixed ttOK ftOK hsm hxs_p_CheckForms cal16 rfl rfl (by kernel_rfl) (fun x => by kernel_rfl) nd_p_CheckForms ok_p_CheckForms fun x y hx hy => by
    obtain ⟨lf, h⟩ := hg x y hx hy
    exact ⟨lf, (run_p_CheckForms g lf x.1).trans h⟩
def nm_p_value : Nat → Option Nm := fun k => none
def st_p_value : Nat → Bool := fun k => false
def hd_p_value : Nat → Bool := fun k => false
abbrev Rt_p_value : Type := Bool × Unit
def sml_p_value : List (Nat × Sm) := [(83, sp_p_within)]
def hxl_p_value : List (Nat × Hx) := []
def cl_p_value (R : Type) (lf : Nat) : ClK R := icallK Try.prog ttT.get ftT.get (nm1 106 nm_p_value) (smL sml_p_value) (hxL hxl_p_value) lf 20 R
abbrev id_p_value : Nat := 106
def R_p_value_in (lf : Nat) (x1 : DVal) (x2 : Int) : Option Rt_p_value := (cond (ieqI x1.1 (Int.ofNat 1)) (some ((Go.Proofs.Ytcnhjofpmpipfaa.S.within x1.2 (Int.negSucc 1099511627775) (Int.ofNat 1099511627776)), ())) (cond (ieqI x1.1 (Int.ofNat 2)) (some ((Go.Proofs.Ytcnhjofpmpipfaa.S.within x1.2 (Int.ofNat 0) (Int.ofNat 1)), ())) (cond (ieqI x1.1 (Int.ofNat 3)) (some ((ieqI x1.2 (Int.ofNat 0)), ())) (cond (ieqI x1.1 (Int.ofNat 4)) (some ((Go.Proofs.Ytcnhjofpmpipfaa.S.within x1.2 (Int.ofNat 0) (Go.IntKind.wrap Go.IntKind.i64 (Int.sub x2 (Int.ofNat 1)))), ())) (some (Bool.false, ()))))))
theorem in_p_value (g : ElA [cVal, (.int .i64)] → Option Rt_p_value) (J : Nat → List Nat → NRes → Option Rt_p_value) (lf : Nat) (x1 : DVal) (x2 : Int) : icodeT Try.prog ttT.get nm_p_value fi106.nt (cl_p_value _ lf) lf st_p_value J fi106.body [] (argGo (argV [cVal, (.int .i64)] (x1, x2, ())) 0 .leaf) S0 [] (lastK ttT.get fi106 ⟨[cVal, (.int .i64)], [(false, .bool)], g⟩) = R_p_value_in lf x1 x2 := by kernel_rfl
theorem nd_p_value : (regs fi106.body).Nodup := by decide +kernel
theorem ok_p_value : okC nm_p_value st_p_value hd_p_value fi106.body none = true := by kernel_rfl
def A_p_value (g : ElA [cVal, (.int .i64)] → Option Rt_p_value) (lf : Nat) : Nat → List Nat → NRes → Option Rt_p_value := atN Try.prog ttT.get nm_p_value fi106 ⟨[cVal, (.int .i64)], [(false, .bool)], g⟩ (cl_p_value _ lf) lf hd_p_value
def F_p_value (lf : Nat) (x1 : DVal) (x2 : Int) : Option Rt_p_value := R_p_value_in lf x1 x2
theorem run_p_value (g : ElA [cVal, (.int .i64)] → Option Rt_p_value) (lf : Nat) (x1 : DVal) (x2 : Int) : icodeT Try.prog ttT.get nm_p_value fi106.nt (cl_p_value _ lf) lf st_p_value (A_p_value g lf) fi106.body [] (argGo (argV [cVal, (.int .i64)] (x1, x2, ())) 0 .leaf) S0 [] (lastK ttT.get fi106 ⟨[cVal, (.int .i64)], [(false, .bool)], g⟩) = F_p_value lf x1 x2 := by
    refine (in_p_value g (A_p_value g lf) lf x1 x2).trans ?_
    rfl
theorem hxs_p_value : HxsOK Try.prog hxl_p_value := trivial
theorem mk_p_value {g : ElA [cVal, (.int .i64)] → Option Rt_p_value} (hsm : SmOK Try.prog sml_p_value) (hg : ∀ (x : ElA [cVal, (.int .i64)]) (y : Rt_p_value), WfA [cVal, (.int .i64)] x → g x = some y → ∃ lf, F_p_value lf x.1 x.2.1 = some y) : Con Try.prog 106 ⟨[cVal, (.int .i64)], [(false, .bool)], g⟩ :=
  conT (nmf := nm_p_value) (sml := sml_p_value) (hxl := hxl_p_value) (st := st_p_value) (hd := hd_p_value) 20 mixed ttOK ftOK hsm hxs_p_value cal106 rfl rfl (by kernel_rfl) (fun x => by kernel_rfl) nd_p_value ok_p_value fun x y hx hy => by
    obtain ⟨lf, h⟩ := hg x y hx hy
    exact ⟨lf, (run_p_value g lf x.1 x.2.1).trans h⟩
def nm_p_formed : Nat → Option Nm := fun k => cond (Nat.beq k 4) (some ⟨[1, 19, 20, 21], [], [], [], [], 0, 0, false⟩) (cond (Nat.beq k 11) (some ⟨[1, 5, 32, 33, 34], [], [], [], [], 0, 0, false⟩) (none))
def st_p_formed : Nat → Bool := fun k => cond (Nat.beq k 4) true (cond (Nat.beq k 11) true (false))
def hd_p_formed : Nat → Bool := fun k => cond (Nat.beq k 4) true (cond (Nat.beq k 11) true (false))
abbrev Rt_p_formed : Type := Int × Unit
def sml_p_formed : List (Nat × Sm) := [(106, sp_p_value)]
def hxl_p_formed : List (Nat × Hx) := [(137, idxHx cVal)]
def cl_p_formed (R : Type) (lf : Nat) : ClK R := icallK Try.prog ttT.get ftT.get (nm1 70 nm_p_formed) (smL sml_p_formed) (hxL hxl_p_formed) lf 20 R
abbrev id_p_formed : Nat := 70
def enc_p_formed_4 (x1 : DGraph) (p : Int) : NRes := (NRes.mk (PT.node none (PT.node (some (IV.ptr 0 0)) (PT.node none PT.leaf (PT.node none (PT.node (some (IV.lst cNode x1.1)) PT.leaf PT.leaf) PT.leaf)) (PT.node none PT.leaf (PT.node none (PT.node (some (IV.int Go.IntKind.i64 p)) PT.leaf PT.leaf) PT.leaf))) (PT.node none (PT.node none PT.leaf (PT.node none (PT.node (some (IV.int Go.IntKind.i64 (Int.ofNat (List.length x1.1)))) PT.leaf PT.leaf) PT.leaf)) PT.leaf)) (IS.mk (PT.node (some (IObj.row (List.cons (IV.lst cNode x1.1) (List.cons (IV.lst cVal x1.2) [])))) PT.leaf PT.leaf) 1) [] 0)
def enc_p_formed_11 (x1 : DGraph) (p : Int) : NRes := (NRes.mk (PT.node none (PT.node (some (IV.ptr 0 0)) PT.leaf (PT.node (some (IV.ptr 1 0)) (PT.node none (PT.node none (PT.node (some (IV.int Go.IntKind.i64 (Int.ofNat (List.length x1.1)))) PT.leaf PT.leaf) PT.leaf) PT.leaf) PT.leaf)) (PT.node none (PT.node none (PT.node none (PT.node none (PT.node (some (IV.lst cNode x1.1)) PT.leaf PT.leaf) PT.leaf) PT.leaf) PT.leaf) (PT.node none (PT.node none (PT.node none (PT.node (some (IV.int Go.IntKind.i64 p)) PT.leaf PT.leaf) PT.leaf) PT.leaf) PT.leaf))) (IS.mk (PT.node (some (IObj.row (List.cons (IV.lst cNode x1.1) (List.cons (IV.lst cVal x1.2) [])))) (PT.node (some (IObj.row (List.cons (IV.fn 105 (List.cons (IV.ptr 0 0) [])) []))) PT.leaf PT.leaf) PT.leaf) 2) [] 0)
def R_p_formed_in (lf : Nat) (x1 : DGraph) (L4 : Int → Option Rt_p_formed) : Option Rt_p_formed := (cond (iltI (Int.ofNat 400) (Int.ofNat (List.length x1.1))) (some ((Int.ofNat 3), ())) (cond (iltI (Int.ofNat 60) (Int.ofNat (List.length x1.2))) (some ((Int.ofNat 3), ())) (L4 (Int.ofNat 0))))
def R_p_formed_4 (lf : Nat) (x1 : DGraph) (L4 : Int → Option Rt_p_formed) (L11 : Int → Option Rt_p_formed) (p : Int) : Option Rt_p_formed := (cond (iltI p (Int.ofNat (List.length x1.1))) (match (jget x1.1 p) with | .none  => none | .some v0 => (cond (iltI (Int.ofNat 30) (Int.ofNat (List.length v0.2))) (some ((Int.ofNat 3), ())) (L4 (Go.IntKind.wrap Go.IntKind.i64 (Int.add p (Int.ofNat 1)))))) (L11 (Int.ofNat 0)))
def R_p_formed_11 (lf : Nat) (x1 : DGraph) (L11 : Int → Option Rt_p_formed) (p : Int) : Option Rt_p_formed := (cond (iltI p (Int.ofNat (List.length x1.1))) (match (jget x1.1 p) with | .none  => none | .some v0 => (match (idxO (fun v1 => (some (Bool.not (Go.Proofs.Ytcnhjofpmpipfaa.S.value (v1.1, v1.2) (Int.ofNat (List.length x1.1)))))) v0.2 0) with | .none  => none | .some v2 => (cond (Bool.not (iltI v2 (Int.ofNat 0))) (some ((Int.ofNat 2), ())) (L11 (Go.IntKind.wrap Go.IntKind.i64 (Int.add p (Int.ofNat 1))))))) (match (idxO (fun v26 => (cond (Bool.not (Go.Proofs.Ytcnhjofpmpipfaa.S.value (v26.1, v26.2) (Int.ofNat (List.length x1.1)))) (some Bool.true) (cond (ieqI v26.1 (Int.ofNat 3)) (some Bool.false) (some (Bool.not (ieqI v26.1 (Int.ofNat 4))))))) x1.2 0) with | .none  => none | .some v27 => (cond (Bool.not (Bool.not (iltI v27 (Int.ofNat 0)))) (some ((Int.ofNat 0), ())) (some ((Int.ofNat 2), ())))))
theorem in_p_formed (g : ElA [cGraph] → Option Rt_p_formed) (J : Nat → List Nat → NRes → Option Rt_p_formed) (lf : Nat) (x1 : DGraph) : icodeT Try.prog ttT.get nm_p_formed fi70.nt (cl_p_formed _ lf) lf st_p_formed J fi70.body [] (argGo (argV [cGraph] (x1, ())) 0 .leaf) S0 [] (lastK ttT.get fi70 ⟨[cGraph], [(false, (.int .i64))], g⟩) = R_p_formed_in lf x1 (fun q => J 4 [lf] (enc_p_formed_4 x1 q)) := by kernel_rfl
theorem st_p_formed_4 (g : ElA [cGraph] → Option Rt_p_formed) (J : Nat → List Nat → NRes → Option Rt_p_formed) (lf : Nat) (x1 : DGraph) (m1 : Nat) (p : Int) : icodeFT Try.prog ttT.get nm_p_formed fi70.nt (cl_p_formed _ lf) lf st_p_formed J 4 fi70.body [] [m1] (enc_p_formed_4 x1 p) (lastK ttT.get fi70 ⟨[cGraph], [(false, (.int .i64))], g⟩) = R_p_formed_4 lf x1 (fun q => J 4 [m1] (enc_p_formed_4 x1 q)) (fun q => J 11 [lf] (enc_p_formed_11 x1 q)) p := by kernel_rfl
theorem st_p_formed_11 (g : ElA [cGraph] → Option Rt_p_formed) (J : Nat → List Nat → NRes → Option Rt_p_formed) (lf : Nat) (x1 : DGraph) (m1 : Nat) (p : Int) : icodeFT Try.prog ttT.get nm_p_formed fi70.nt (cl_p_formed _ lf) lf st_p_formed J 11 fi70.body [] [m1] (enc_p_formed_11 x1 p) (lastK ttT.get fi70 ⟨[cGraph], [(false, (.int .i64))], g⟩) = R_p_formed_11 lf x1 (fun q => J 11 [m1] (enc_p_formed_11 x1 q)) p := by kernel_rfl
theorem nd_p_formed : (regs fi70.body).Nodup := by decide +kernel
theorem ok_p_formed : okC nm_p_formed st_p_formed hd_p_formed fi70.body none = true := by kernel_rfl
def A_p_formed (g : ElA [cGraph] → Option Rt_p_formed) (lf : Nat) : Nat → List Nat → NRes → Option Rt_p_formed := atN Try.prog ttT.get nm_p_formed fi70 ⟨[cGraph], [(false, (.int .i64))], g⟩ (cl_p_formed _ lf) lf hd_p_formed
def G_p_formed_11 (lf : Nat) (x1 : DGraph) : Nat → (Int) → Option Rt_p_formed := rounds fun K p => R_p_formed_11 lf x1 K p
theorem at_p_formed_11 (g : ElA [cGraph] → Option Rt_p_formed) (lf : Nat) (x1 : DGraph) : ∀ (n : Nat) (p : Int), A_p_formed g lf 11 [n] (enc_p_formed_11 x1 p) = G_p_formed_11 lf x1 n p
  | 0, p => atN_zero 11 [0] rfl _
  | n + 1, p => by
    have ih := at_p_formed_11 g lf x1 n
    refine (atN_eq (icallK_eq 20 _) nd_p_formed ok_p_formed 11 [n + 1] [n] rfl _).trans ((st_p_formed_11 g (A_p_formed g lf) lf x1 n p).trans ?_)
    rw [(show (fun q => A_p_formed g lf 11 [n] (enc_p_formed_11 x1 q)) = (fun q => G_p_formed_11 lf x1 n q) from funext ih)]
    rfl
def G_p_formed_4 (lf : Nat) (x1 : DGraph) : Nat → (Int) → Option Rt_p_formed := rounds fun K p => R_p_formed_4 lf x1 K (fun q => G_p_formed_11 lf x1 lf q) p
theorem at_p_formed_4 (g : ElA [cGraph] → Option Rt_p_formed) (lf : Nat) (x1 : DGraph) : ∀ (n : Nat) (p : Int), A_p_formed g lf 4 [n] (enc_p_formed_4 x1 p) = G_p_formed_4 lf x1 n p
  | 0, p => atN_zero 4 [0] rfl _
  | n + 1, p => by
    have ih := at_p_formed_4 g lf x1 n
    refine (atN_eq (icallK_eq 20 _) nd_p_formed ok_p_formed 4 [n + 1] [n] rfl _).trans ((st_p_formed_4 g (A_p_formed g lf) lf x1 n p).trans ?_)
    rw [(show (fun q => A_p_formed g lf 11 [lf] (enc_p_formed_11 x1 q)) = (fun q => G_p_formed_11 lf x1 lf q) from funext fun q => at_p_formed_11 g lf x1 lf q), (show (fun q => A_p_formed g lf 4 [n] (enc_p_formed_4 x1 q)) = (fun q => G_p_formed_4 lf x1 n q) from funext ih)]
    rfl
def F_p_formed (lf : Nat) (x1 : DGraph) : Option Rt_p_formed := R_p_formed_in lf x1 (fun q => G_p_formed_4 lf x1 lf q)
theorem run_p_formed (g : ElA [cGraph] → Option Rt_p_formed) (lf : Nat) (x1 : DGraph) : icodeT Try.prog ttT.get nm_p_formed fi70.nt (cl_p_formed _ lf) lf st_p_formed (A_p_formed g lf) fi70.body [] (argGo (argV [cGraph] (x1, ())) 0 .leaf) S0 [] (lastK ttT.get fi70 ⟨[cGraph], [(false, (.int .i64))], g⟩) = F_p_formed lf x1 := by
    refine (in_p_formed g (A_p_formed g lf) lf x1).trans ?_
    rw [(show (fun q => A_p_formed g lf 4 [lf] (enc_p_formed_4 x1 q)) = (fun q => G_p_formed_4 lf x1 lf q) from funext fun q => at_p_formed_4 g lf x1 lf q)]
    rfl
theorem hxs_p_formed : HxsOK Try.prog hxl_p_formed := ⟨ixO137, trivial⟩
theorem mk_p_formed {g : ElA [cGraph] → Option Rt_p_formed} (hsm : SmOK Try.prog sml_p_formed) (hg : ∀ (x : ElA [cGraph]) (y : Rt_p_formed), WfA [cGraph] x → g x = some y → ∃ lf, F_p_formed lf x.1 = some y) : Con Try.prog 70 ⟨[cGraph], [(false, (.int .i64))], g⟩ :=
  conT (nmf := nm_p_formed) (sml := sml_p_formed) (hxl := hxl_p_formed) (st := st_p_formed) (hd := hd_p_formed) 20 mixed ttOK ftOK hsm hxs_p_formed cal70 rfl rfl (by kernel_rfl) (fun x => by kernel_rfl) nd_p_formed ok_p_formed fun x y hx hy => by
    obtain ⟨lf, h⟩ := hg x y hx hy
    exact ⟨lf, (run_p_formed g lf x.1).trans h⟩
def nm_p_suits : Nat → Option Nm := fun k => none
def st_p_suits : Nat → Bool := fun k => false
def hd_p_suits : Nat → Bool := fun k => false
abbrev Rt_p_suits : Type := Bool × Unit
def sml_p_suits : List (Nat × Sm) := []
def hxl_p_suits : List (Nat × Hx) := []
def cl_p_suits (R : Type) (lf : Nat) : ClK R := icallK Try.prog ttT.get ftT.get (nm1 121 nm_p_suits) (smL sml_p_suits) (hxL hxl_p_suits) lf 20 R
abbrev id_p_suits : Nat := 121
def R_p_suits_in (lf : Nat) (x1 : DGraph) (x2 : DCol) (x3 : DVal) : Option Rt_p_suits := (cond (ieqI x2.2.1 (Int.ofNat 1)) (some ((ieqI x3.1 (Int.ofNat 1)), ())) (cond (ieqI x2.2.1 (Int.ofNat 2)) (some ((ieqI x3.1 (Int.ofNat 2)), ())) (cond (ieqI x3.1 (Int.ofNat 3)) (some (Bool.true, ())) (cond (ieqI x3.1 (Int.ofNat 4)) (cond (keqS x2.2.2 (S.lit [65, 78, 89])) (some (Bool.true, ())) (match (jget x1.1 x3.2) with | .none  => none | .some v0 => (some ((keqS v0.1 x2.2.2), ())))) (some (Bool.false, ()))))))
theorem in_p_suits (g : ElA [cGraph, cCol, cVal] → Option Rt_p_suits) (J : Nat → List Nat → NRes → Option Rt_p_suits) (lf : Nat) (x1 : DGraph) (x2 : DCol) (x3 : DVal) : icodeT Try.prog ttT.get nm_p_suits fi121.nt (cl_p_suits _ lf) lf st_p_suits J fi121.body [] (argGo (argV [cGraph, cCol, cVal] (x1, x2, x3, ())) 0 .leaf) S0 [] (lastK ttT.get fi121 ⟨[cGraph, cCol, cVal], [(false, .bool)], g⟩) = R_p_suits_in lf x1 x2 x3 := by kernel_rfl
theorem nd_p_suits : (regs fi121.body).Nodup := by decide +kernel
theorem ok_p_suits : okC nm_p_suits st_p_suits hd_p_suits fi121.body none = true := by kernel_rfl
def A_p_suits (g : ElA [cGraph, cCol, cVal] → Option Rt_p_suits) (lf : Nat) : Nat → List Nat → NRes → Option Rt_p_suits := atN Try.prog ttT.get nm_p_suits fi121 ⟨[cGraph, cCol, cVal], [(false, .bool)], g⟩ (cl_p_suits _ lf) lf hd_p_suits
def F_p_suits (lf : Nat) (x1 : DGraph) (x2 : DCol) (x3 : DVal) : Option Rt_p_suits := R_p_suits_in lf x1 x2 x3
theorem run_p_suits (g : ElA [cGraph, cCol, cVal] → Option Rt_p_suits) (lf : Nat) (x1 : DGraph) (x2 : DCol) (x3 : DVal) : icodeT Try.prog ttT.get nm_p_suits fi121.nt (cl_p_suits _ lf) lf st_p_suits (A_p_suits g lf) fi121.body [] (argGo (argV [cGraph, cCol, cVal] (x1, x2, x3, ())) 0 .leaf) S0 [] (lastK ttT.get fi121 ⟨[cGraph, cCol, cVal], [(false, .bool)], g⟩) = F_p_suits lf x1 x2 x3 := by
    refine (in_p_suits g (A_p_suits g lf) lf x1 x2 x3).trans ?_
    rfl
theorem hxs_p_suits : HxsOK Try.prog hxl_p_suits := trivial
theorem mk_p_suits {g : ElA [cGraph, cCol, cVal] → Option Rt_p_suits} (hsm : SmOK Try.prog sml_p_suits) (hg : ∀ (x : ElA [cGraph, cCol, cVal]) (y : Rt_p_suits), WfA [cGraph, cCol, cVal] x → g x = some y → ∃ lf, F_p_suits lf x.1 x.2.1 x.2.2.1 = some y) : Con Try.prog 121 ⟨[cGraph, cCol, cVal], [(false, .bool)], g⟩ :=
  conT (nmf := nm_p_suits) (sml := sml_p_suits) (hxl := hxl_p_suits) (st := st_p_suits) (hd := hd_p_suits) 20 mixed ttOK ftOK hsm hxs_p_suits cal121 rfl rfl (by kernel_rfl) (fun x => by kernel_rfl) nd_p_suits ok_p_suits fun x y hx hy => by
    obtain ⟨lf, h⟩ := hg x y hx hy
    exact ⟨lf, (run_p_suits g lf x.1 x.2.1 x.2.2.1).trans h⟩
def nm_p_typed : Nat → Option Nm := fun k => cond (Nat.beq k 2) (some ⟨[0, 3, 11, 12, 13], [], [], [], [], 0, 0, false⟩) (cond (Nat.beq k 8) (some ⟨[0, 3, 6, 11, 12, 13, 31, 32, 33], [], [], [], [], 0, 0, false⟩) (none))
def st_p_typed : Nat → Bool := fun k => cond (Nat.beq k 2) true (cond (Nat.beq k 8) true (false))
def hd_p_typed : Nat → Bool := fun k => cond (Nat.beq k 2) true (cond (Nat.beq k 8) true (false))
abbrev Rt_p_typed : Type := Bool × Unit
def sml_p_typed : List (Nat × Sm) := [(52, sp_p_form), (121, sp_p_suits)]
def hxl_p_typed : List (Nat × Hx) := []
def cl_p_typed (R : Type) (lf : Nat) : ClK R := icallK Try.prog ttT.get ftT.get (nm1 88 nm_p_typed) (smL sml_p_typed) (hxL hxl_p_typed) lf 20 R
abbrev id_p_typed : Nat := 88
def enc_p_typed_2 (x1 : (List DForm)) (x2 : DGraph) (p : Int) : NRes := (NRes.mk (PT.node (some (IV.lst cForm x1)) (PT.node none (PT.node (some (IV.ptr 0 0)) PT.leaf (PT.node (some (IV.lst cNode x2.1)) PT.leaf PT.leaf)) (PT.node none PT.leaf (PT.node (some (IV.int Go.IntKind.i64 p)) PT.leaf PT.leaf))) (PT.node none (PT.node none PT.leaf (PT.node (some (IV.int Go.IntKind.i64 (Int.ofNat (List.length x2.1)))) PT.leaf PT.leaf)) PT.leaf)) (IS.mk (PT.node (some (IObj.row (List.cons (IV.lst cNode x2.1) (List.cons (IV.lst cVal x2.2) [])))) PT.leaf PT.leaf) 1) [] 0)
def enc_p_typed_8 (x1 : (List DForm)) (x2 : DGraph) (p : (List DVal) × (List DCol) × ByteArray × Int × Int) : NRes := (NRes.mk (PT.node (some (IV.lst cForm x1)) (PT.node none (PT.node (some (IV.ptr 0 0)) (PT.node none (PT.node none (PT.node (some (IV.lst cCol p.2.1)) PT.leaf PT.leaf) PT.leaf) PT.leaf) (PT.node (some (IV.lst cNode x2.1)) PT.leaf PT.leaf)) (PT.node none (PT.node none (PT.node none (PT.node (some (IV.int Go.IntKind.i64 p.2.2.2.1)) PT.leaf PT.leaf) PT.leaf) PT.leaf) (PT.node (some (IV.int Go.IntKind.i64 p.2.2.2.2)) PT.leaf PT.leaf))) (PT.node none (PT.node none (PT.node none (PT.node none (PT.node (some (IV.int Go.IntKind.i64 (Int.ofNat (List.length p.2.1)))) PT.leaf PT.leaf) PT.leaf) PT.leaf) (PT.node (some (IV.int Go.IntKind.i64 (Int.ofNat (List.length x2.1)))) PT.leaf PT.leaf)) (PT.node (some (IV.ptr 1 0)) PT.leaf PT.leaf))) (IS.mk (PT.node (some (IObj.row (List.cons (IV.lst cNode x2.1) (List.cons (IV.lst cVal x2.2) [])))) (PT.node (some (IObj.row (List.cons (IV.str p.2.2.1) (List.cons (IV.lst cVal p.1) [])))) PT.leaf PT.leaf) PT.leaf) 2) [] 0)
def R_p_typed_in (lf : Nat) (x1 : (List DForm)) (x2 : DGraph) (L2 : Int → Option Rt_p_typed) : Option Rt_p_typed := (L2 (Int.ofNat 0))
def R_p_typed_2 (lf : Nat) (x1 : (List DForm)) (x2 : DGraph) (L8 : ((List DVal) × (List DCol) × ByteArray × Int × Int) → Option Rt_p_typed) (p : Int) : Option Rt_p_typed := (cond (iltI p (Int.ofNat (List.length x2.1))) (match (jget x2.1 p) with | .none  => none | .some v0 => (match (jget x1 (Go.Proofs.Ytcnhjofpmpipfaa.S.form x1 v0.1)) with | .none  => none | .some v1 => (cond (Bool.not (ieqI (Int.ofNat (List.length v0.2)) (Int.ofNat (List.length v1.2)))) (some (Bool.false, ())) (L8 (v0.2, v1.2, v0.1, (Int.ofNat 0), p))))) (some (Bool.true, ())))
def R_p_typed_8 (lf : Nat) (x1 : (List DForm)) (x2 : DGraph) (L8 : ((List DVal) × (List DCol) × ByteArray × Int × Int) → Option Rt_p_typed) (L2 : Int → Option Rt_p_typed) (p : (List DVal) × (List DCol) × ByteArray × Int × Int) : Option Rt_p_typed := (cond (iltI p.2.2.2.1 (Int.ofNat (List.length p.2.1))) (match (jget p.2.1 p.2.2.2.1) with | .none  => none | .some v0 => (match (jget p.1 p.2.2.2.1) with | .none  => none | .some v1 => (match (cond (Go.Proofs.Ytcnhjofpmpipfaa.S.refOK (x2.1, x2.2) (v1.1, v1.2)) (some ((Go.Proofs.Ytcnhjofpmpipfaa.S.suits (x2.1, x2.2) (v0.1, (v0.2.1, v0.2.2)) (v1.1, v1.2)), ())) none) with | .none  => none | .some v2 => (cond (Bool.not v2.1) (some (Bool.false, ())) (L8 (p.1, p.2.1, p.2.2.1, (Go.IntKind.wrap Go.IntKind.i64 (Int.add p.2.2.2.1 (Int.ofNat 1))), p.2.2.2.2)))))) (L2 (Go.IntKind.wrap Go.IntKind.i64 (Int.add p.2.2.2.2 (Int.ofNat 1)))))
theorem in_p_typed (g : ElA [(.list cForm), cGraph] → Option Rt_p_typed) (J : Nat → List Nat → NRes → Option Rt_p_typed) (lf : Nat) (x1 : (List DForm)) (x2 : DGraph) : icodeT Try.prog ttT.get nm_p_typed fi88.nt (cl_p_typed _ lf) lf st_p_typed J fi88.body [] (argGo (argV [(.list cForm), cGraph] (x1, x2, ())) 0 .leaf) S0 [] (lastK ttT.get fi88 ⟨[(.list cForm), cGraph], [(false, .bool)], g⟩) = R_p_typed_in lf x1 x2 (fun q => J 2 [lf] (enc_p_typed_2 x1 x2 q)) := by kernel_rfl
theorem st_p_typed_2 (g : ElA [(.list cForm), cGraph] → Option Rt_p_typed) (J : Nat → List Nat → NRes → Option Rt_p_typed) (lf : Nat) (x1 : (List DForm)) (x2 : DGraph) (m1 : Nat) (p : Int) : icodeFT Try.prog ttT.get nm_p_typed fi88.nt (cl_p_typed _ lf) lf st_p_typed J 2 fi88.body [] [m1] (enc_p_typed_2 x1 x2 p) (lastK ttT.get fi88 ⟨[(.list cForm), cGraph], [(false, .bool)], g⟩) = R_p_typed_2 lf x1 x2 (fun q => J 8 [m1, lf] (enc_p_typed_8 x1 x2 q)) p := by kernel_rfl
theorem st_p_typed_8 (g : ElA [(.list cForm), cGraph] → Option Rt_p_typed) (J : Nat → List Nat → NRes → Option Rt_p_typed) (lf : Nat) (x1 : (List DForm)) (x2 : DGraph) (m1 : Nat) (m2 : Nat) (p : (List DVal) × (List DCol) × ByteArray × Int × Int) : icodeFT Try.prog ttT.get nm_p_typed fi88.nt (cl_p_typed _ lf) lf st_p_typed J 8 fi88.body [] [m1, m2] (enc_p_typed_8 x1 x2 p) (lastK ttT.get fi88 ⟨[(.list cForm), cGraph], [(false, .bool)], g⟩) = R_p_typed_8 lf x1 x2 (fun q => J 8 [m1, m2] (enc_p_typed_8 x1 x2 q)) (fun q => J 2 [m1] (enc_p_typed_2 x1 x2 q)) p := by kernel_rfl
theorem nd_p_typed : (regs fi88.body).Nodup := by decide +kernel
theorem ok_p_typed : okC nm_p_typed st_p_typed hd_p_typed fi88.body none = true := by kernel_rfl
def A_p_typed (g : ElA [(.list cForm), cGraph] → Option Rt_p_typed) (lf : Nat) : Nat → List Nat → NRes → Option Rt_p_typed := atN Try.prog ttT.get nm_p_typed fi88 ⟨[(.list cForm), cGraph], [(false, .bool)], g⟩ (cl_p_typed _ lf) lf hd_p_typed
def G_p_typed_8 (lf : Nat) (x1 : (List DForm)) (x2 : DGraph) (K2 : Int → Option Rt_p_typed) : Nat → ((List DVal) × (List DCol) × ByteArray × Int × Int) → Option Rt_p_typed := rounds fun K p => R_p_typed_8 lf x1 x2 K K2 p
theorem at_p_typed_8 (g : ElA [(.list cForm), cGraph] → Option Rt_p_typed) (lf : Nat) (x1 : (List DForm)) (x2 : DGraph) (m1 : Nat) : ∀ (n : Nat) (p : (List DVal) × (List DCol) × ByteArray × Int × Int), A_p_typed g lf 8 [m1, n] (enc_p_typed_8 x1 x2 p) = G_p_typed_8 lf x1 x2 (fun q => A_p_typed g lf 2 [m1] (enc_p_typed_2 x1 x2 q)) n p
  | 0, p => atN_zero 8 [m1, 0] rfl _
  | n + 1, p => by
    have ih := at_p_typed_8 g lf x1 x2 m1 n
    refine (atN_eq (icallK_eq 20 _) nd_p_typed ok_p_typed 8 [m1, n + 1] [m1, n] rfl _).trans ((st_p_typed_8 g (A_p_typed g lf) lf x1 x2 m1 n p).trans ?_)
    rw [(show (fun q => A_p_typed g lf 8 [m1, n] (enc_p_typed_8 x1 x2 q)) = (fun q => G_p_typed_8 lf x1 x2 (fun q => A_p_typed g lf 2 [m1] (enc_p_typed_2 x1 x2 q)) n q) from funext ih)]
    rfl
def G_p_typed_2 (lf : Nat) (x1 : (List DForm)) (x2 : DGraph) : Nat → (Int) → Option Rt_p_typed := rounds fun K p => R_p_typed_2 lf x1 x2 (fun q => G_p_typed_8 lf x1 x2 K lf q) p
theorem at_p_typed_2 (g : ElA [(.list cForm), cGraph] → Option Rt_p_typed) (lf : Nat) (x1 : (List DForm)) (x2 : DGraph) : ∀ (n : Nat) (p : Int), A_p_typed g lf 2 [n] (enc_p_typed_2 x1 x2 p) = G_p_typed_2 lf x1 x2 n p
  | 0, p => atN_zero 2 [0] rfl _
  | n + 1, p => by
    have ih := at_p_typed_2 g lf x1 x2 n
    refine (atN_eq (icallK_eq 20 _) nd_p_typed ok_p_typed 2 [n + 1] [n] rfl _).trans ((st_p_typed_2 g (A_p_typed g lf) lf x1 x2 n p).trans ?_)
    rw [(show (fun q => A_p_typed g lf 8 [n, lf] (enc_p_typed_8 x1 x2 q)) = (fun q => G_p_typed_8 lf x1 x2 (fun q => A_p_typed g lf 2 [n] (enc_p_typed_2 x1 x2 q)) lf q) from funext fun q => at_p_typed_8 g lf x1 x2 n lf q), (show (fun q => A_p_typed g lf 2 [n] (enc_p_typed_2 x1 x2 q)) = (fun q => G_p_typed_2 lf x1 x2 n q) from funext ih)]
    rfl
def F_p_typed (lf : Nat) (x1 : (List DForm)) (x2 : DGraph) : Option Rt_p_typed := R_p_typed_in lf x1 x2 (fun q => G_p_typed_2 lf x1 x2 lf q)
theorem run_p_typed (g : ElA [(.list cForm), cGraph] → Option Rt_p_typed) (lf : Nat) (x1 : (List DForm)) (x2 : DGraph) : icodeT Try.prog ttT.get nm_p_typed fi88.nt (cl_p_typed _ lf) lf st_p_typed (A_p_typed g lf) fi88.body [] (argGo (argV [(.list cForm), cGraph] (x1, x2, ())) 0 .leaf) S0 [] (lastK ttT.get fi88 ⟨[(.list cForm), cGraph], [(false, .bool)], g⟩) = F_p_typed lf x1 x2 := by
    refine (in_p_typed g (A_p_typed g lf) lf x1 x2).trans ?_
    rw [(show (fun q => A_p_typed g lf 2 [lf] (enc_p_typed_2 x1 x2 q)) = (fun q => G_p_typed_2 lf x1 x2 lf q) from funext fun q => at_p_typed_2 g lf x1 x2 lf q)]
    rfl
theorem hxs_p_typed : HxsOK Try.prog hxl_p_typed := trivial
theorem mk_p_typed {g : ElA [(.list cForm), cGraph] → Option Rt_p_typed} (hsm : SmOK Try.prog sml_p_typed) (hg : ∀ (x : ElA [(.list cForm), cGraph]) (y : Rt_p_typed), WfA [(.list cForm), cGraph] x → g x = some y → ∃ lf, F_p_typed lf x.1 x.2.1 = some y) : Con Try.prog 88 ⟨[(.list cForm), cGraph], [(false, .bool)], g⟩ :=
  conT (nmf := nm_p_typed) (sml := sml_p_typed) (hxl := hxl_p_typed) (st := st_p_typed) (hd := hd_p_typed) 20 mixed ttOK ftOK hsm hxs_p_typed cal88 rfl rfl (by kernel_rfl) (fun x => by kernel_rfl) nd_p_typed ok_p_typed fun x y hx hy => by
    obtain ⟨lf, h⟩ := hg x y hx hy
    exact ⟨lf, (run_p_typed g lf x.1 x.2.1).trans h⟩
def nm_p_check : Nat → Option Nm := fun k => none
def st_p_check : Nat → Bool := fun k => false
def hd_p_check : Nat → Bool := fun k => false
abbrev Rt_p_check : Type := Int × Unit
def sml_p_check : List (Nat × Sm) := [(70, sp_p_formed), (52, sp_p_form), (88, sp_p_typed)]
def hxl_p_check : List (Nat × Hx) := [(135, idxHx cNode)]
def cl_p_check (R : Type) (lf : Nat) : ClK R := icallK Try.prog ttT.get ftT.get (nm1 59 nm_p_check) (smL sml_p_check) (hxL hxl_p_check) lf 20 R
abbrev id_p_check : Nat := 59
def R_p_check_in (lf : Nat) (x1 : (List DForm)) (x2 : DGraph) : Option Rt_p_check := (cond (Bool.not (ieqI (Go.Proofs.Ytcnhjofpmpipfaa.S.formed (x2.1, x2.2)) (Int.ofNat 0))) (some ((Go.Proofs.Ytcnhjofpmpipfaa.S.formed (x2.1, x2.2)), ())) (match (idxO (fun v0 => (some (iltI (Go.Proofs.Ytcnhjofpmpipfaa.S.form x1 v0.1) (Int.ofNat 0)))) x2.1 0) with | .none  => none | .some v1 => (cond (Bool.not (iltI v1 (Int.ofNat 0))) (some ((Int.ofNat 4), ())) (match (cond (Go.Proofs.Ytcnhjofpmpipfaa.S.typedPre x1 (x2.1, x2.2)) (some ((Go.Proofs.Ytcnhjofpmpipfaa.S.typed x1 (x2.1, x2.2) x2.1), ())) none) with | .none  => none | .some v2 => (cond v2.1 (some ((Int.ofNat 0), ())) (some ((Int.ofNat 8), ())))))))
theorem in_p_check (g : ElA [(.list cForm), cGraph] → Option Rt_p_check) (J : Nat → List Nat → NRes → Option Rt_p_check) (lf : Nat) (x1 : (List DForm)) (x2 : DGraph) : icodeT Try.prog ttT.get nm_p_check fi59.nt (cl_p_check _ lf) lf st_p_check J fi59.body [] (argGo (argV [(.list cForm), cGraph] (x1, x2, ())) 0 .leaf) S0 [] (lastK ttT.get fi59 ⟨[(.list cForm), cGraph], [(false, (.int .i64))], g⟩) = R_p_check_in lf x1 x2 := by kernel_rfl
theorem nd_p_check : (regs fi59.body).Nodup := by decide +kernel
theorem ok_p_check : okC nm_p_check st_p_check hd_p_check fi59.body none = true := by kernel_rfl
def A_p_check (g : ElA [(.list cForm), cGraph] → Option Rt_p_check) (lf : Nat) : Nat → List Nat → NRes → Option Rt_p_check := atN Try.prog ttT.get nm_p_check fi59 ⟨[(.list cForm), cGraph], [(false, (.int .i64))], g⟩ (cl_p_check _ lf) lf hd_p_check
def F_p_check (lf : Nat) (x1 : (List DForm)) (x2 : DGraph) : Option Rt_p_check := R_p_check_in lf x1 x2
theorem run_p_check (g : ElA [(.list cForm), cGraph] → Option Rt_p_check) (lf : Nat) (x1 : (List DForm)) (x2 : DGraph) : icodeT Try.prog ttT.get nm_p_check fi59.nt (cl_p_check _ lf) lf st_p_check (A_p_check g lf) fi59.body [] (argGo (argV [(.list cForm), cGraph] (x1, x2, ())) 0 .leaf) S0 [] (lastK ttT.get fi59 ⟨[(.list cForm), cGraph], [(false, (.int .i64))], g⟩) = F_p_check lf x1 x2 := by
    refine (in_p_check g (A_p_check g lf) lf x1 x2).trans ?_
    rfl
theorem hxs_p_check : HxsOK Try.prog hxl_p_check := ⟨ixO135, trivial⟩
theorem mk_p_check {g : ElA [(.list cForm), cGraph] → Option Rt_p_check} (hsm : SmOK Try.prog sml_p_check) (hg : ∀ (x : ElA [(.list cForm), cGraph]) (y : Rt_p_check), WfA [(.list cForm), cGraph] x → g x = some y → ∃ lf, F_p_check lf x.1 x.2.1 = some y) : Con Try.prog 59 ⟨[(.list cForm), cGraph], [(false, (.int .i64))], g⟩ :=
  conT (nmf := nm_p_check) (sml := sml_p_check) (hxl := hxl_p_check) (st := st_p_check) (hd := hd_p_check) 20 mixed ttOK ftOK hsm hxs_p_check cal59 rfl rfl (by kernel_rfl) (fun x => by kernel_rfl) nd_p_check ok_p_check fun x y hx hy => by
    obtain ⟨lf, h⟩ := hg x y hx hy
    exact ⟨lf, (run_p_check g lf x.1 x.2.1).trans h⟩
def nm_p_Check : Nat → Option Nm := fun k => none
def st_p_Check : Nat → Bool := fun k => false
def hd_p_Check : Nat → Bool := fun k => false
abbrev Rt_p_Check : Type := Int × Unit
def sml_p_Check : List (Nat × Sm) := [(16, sp_p_CheckForms), (59, sp_p_check)]
def hxl_p_Check : List (Nat × Hx) := []
def cl_p_Check (R : Type) (lf : Nat) : ClK R := icallK Try.prog ttT.get ftT.get (nm1 18 nm_p_Check) (smL sml_p_Check) (hxL hxl_p_Check) lf 20 R
abbrev id_p_Check : Nat := 18
def R_p_Check_in (lf : Nat) (x1 : (List DForm)) (x2 : DGraph) : Option Rt_p_Check := (cond (Bool.not (ieqI (Go.Proofs.Ytcnhjofpmpipfaa.S.checkForms x1) (Int.ofNat 0))) (some ((Go.Proofs.Ytcnhjofpmpipfaa.S.checkForms x1), ())) (some ((Go.Proofs.Ytcnhjofpmpipfaa.S.check x1 (x2.1, x2.2)), ())))
theorem in_p_Check (g : ElA [(.list cForm), cGraph] → Option Rt_p_Check) (J : Nat → List Nat → NRes → Option Rt_p_Check) (lf : Nat) (x1 : (List DForm)) (x2 : DGraph) : icodeT Try.prog ttT.get nm_p_Check fi18.nt (cl_p_Check _ lf) lf st_p_Check J fi18.body [] (argGo (argV [(.list cForm), cGraph] (x1, x2, ())) 0 .leaf) S0 [] (lastK ttT.get fi18 ⟨[(.list cForm), cGraph], [(false, (.int .i64))], g⟩) = R_p_Check_in lf x1 x2 := by kernel_rfl
theorem nd_p_Check : (regs fi18.body).Nodup := by decide +kernel
theorem ok_p_Check : okC nm_p_Check st_p_Check hd_p_Check fi18.body none = true := by kernel_rfl
def A_p_Check (g : ElA [(.list cForm), cGraph] → Option Rt_p_Check) (lf : Nat) : Nat → List Nat → NRes → Option Rt_p_Check := atN Try.prog ttT.get nm_p_Check fi18 ⟨[(.list cForm), cGraph], [(false, (.int .i64))], g⟩ (cl_p_Check _ lf) lf hd_p_Check
def F_p_Check (lf : Nat) (x1 : (List DForm)) (x2 : DGraph) : Option Rt_p_Check := R_p_Check_in lf x1 x2
theorem run_p_Check (g : ElA [(.list cForm), cGraph] → Option Rt_p_Check) (lf : Nat) (x1 : (List DForm)) (x2 : DGraph) : icodeT Try.prog ttT.get nm_p_Check fi18.nt (cl_p_Check _ lf) lf st_p_Check (A_p_Check g lf) fi18.body [] (argGo (argV [(.list cForm), cGraph] (x1, x2, ())) 0 .leaf) S0 [] (lastK ttT.get fi18 ⟨[(.list cForm), cGraph], [(false, (.int .i64))], g⟩) = F_p_Check lf x1 x2 := by
    refine (in_p_Check g (A_p_Check g lf) lf x1 x2).trans ?_
    rfl
theorem hxs_p_Check : HxsOK Try.prog hxl_p_Check := trivial
theorem mk_p_Check {g : ElA [(.list cForm), cGraph] → Option Rt_p_Check} (hsm : SmOK Try.prog sml_p_Check) (hg : ∀ (x : ElA [(.list cForm), cGraph]) (y : Rt_p_Check), WfA [(.list cForm), cGraph] x → g x = some y → ∃ lf, F_p_Check lf x.1 x.2.1 = some y) : Con Try.prog 18 ⟨[(.list cForm), cGraph], [(false, (.int .i64))], g⟩ :=
  conT (nmf := nm_p_Check) (sml := sml_p_Check) (hxl := hxl_p_Check) (st := st_p_Check) (hd := hd_p_Check) 20 mixed ttOK ftOK hsm hxs_p_Check cal18 rfl rfl (by kernel_rfl) (fun x => by kernel_rfl) nd_p_Check ok_p_Check fun x y hx hy => by
    obtain ⟨lf, h⟩ := hg x y hx hy
    exact ⟨lf, (run_p_Check g lf x.1 x.2.1).trans h⟩
end Go.Proofs.Ytcnhjofpmpipfaa

end
end

/- The contracts of package pack, first part. -/
section
set_option linter.unusedVariables false
namespace Go.Proofs.Ytcnhjofpmpipfaa
open Go Go.Sx Go.RowKit Go.Jx
theorem F_p_within_eq (lf : Nat) (n lo hi : Int) : F_p_within lf n lo hi = some (S.within n lo hi, ()) := by
  simp only [F_p_within, R_p_within_in, S.within, iltI_eq, cond_if]
  by_cases h1 : n < lo
  · simp [h1]; omega
  · by_cases h2 : hi < n <;> simp [h1, h2] <;> omega
theorem con_p_within : Con Try.prog id_p_within sp_p_within := mk_p_within trivial fun x y _ h => ⟨0, (F_p_within_eq _ _ _ _).trans h⟩
theorem F_p_first_eq (l : List Int) (hl : l.length < LF) : F_p_first LF l = some (S.first l, ()) := by
  refine range1 (R := Rt_p_first) l (fun rest _ => some (S.first rest, ())) hl (fun K => ?_) (fun K i v rest r h => ?_)
  · simp only [R_p_first_2, ilt_self, cond_false]; rfl
  · simp only [R_p_first_2, r.ilt, r.get, r.next, h, cond_true, S.first, ieqI_eq, cond_if]
    by_cases hv : v = 0
    · simp [hv]
    · simp [hv]
theorem con_p_first : Con Try.prog id_p_first sp_p_first := mk_p_first trivial fun x y hx h => ⟨LF, (F_p_first_eq _ (wf_len hx.1)).trans h⟩
theorem F_p_form_eq (lf : Nat) (l : List DForm) (n : ByteArray) : F_p_form lf l n = some (S.form l n, ()) := by
  simp only [F_p_form, R_p_form_in]
  rw [idxO_idx (l := l) (fun f : DForm => keqS f.1 n) fun x _ => rfl]
  rfl
theorem con_p_form : Con Try.prog id_p_form sp_p_form := mk_p_form trivial fun x y _ h => ⟨0, (F_p_form_eq _ _ _).trans h⟩
theorem F_p_col_eq (lf : Nat) (l : List DCol) (n : ByteArray) : F_p_col lf l n = some (S.col l n, ()) := by
  simp only [F_p_col, R_p_col_in]
  rw [idxO_idx (l := l) (fun f : DCol => keqS f.1 n) fun x _ => rfl]
  rfl
theorem con_p_col : Con Try.prog id_p_col sp_p_col := mk_p_col trivial fun x y _ h => ⟨0, (F_p_col_eq _ _ _).trans h⟩
theorem byteList_get {s : ByteArray} (h : 0 < s.size) : ∃ b, (byteList s)[0]? = some b := by
  unfold byteList
  have : 0 < s.data.toList.length := by simpa using h
  exact ⟨_, by rw [List.getElem?_map, List.getElem?_eq_getElem this]; rfl⟩
theorem size_pos {s : ByteArray} (h : ¬ s = S.lit []) : 0 < s.size := by
  rcases Nat.eq_zero_or_pos s.size with h0 | h0
  · exfalso; apply h
    obtain ⟨a⟩ := s
    have : a = #[] := by simpa [ByteArray.size] using h0
    rw [this]; rfl
  · exact h0
theorem F_p_named_eq (lf : Nat) (s : ByteArray) (lo hi : Int) (h1 : IntKind.u8.wrap lo = lo) (h2 : IntKind.u8.wrap hi = hi) : F_p_named lf s lo hi = some (S.named s lo hi, ()) := by
  have w1 : IntKind.i32.wrap lo = lo := by rw [wrap_iff] at *; simp [IntKind.min, IntKind.max, IntKind.bits, IntKind.signed] at *; omega
  have w2 : IntKind.i32.wrap hi = hi := by rw [wrap_iff] at *; simp [IntKind.min, IntKind.max, IntKind.bits, IntKind.signed] at *; omega
  simp only [F_p_named, R_p_named_in, S.named, w1, w2]
  by_cases hs : s = S.lit []
  · subst hs; simp [keqS]
  have hp := size_pos hs
  rw [if_neg hs, show keqS s (S.lit []) = false by simp [keqS, hs], cond_false]
  by_cases h20 : 20 < s.size
  · rw [if_pos h20, show iltI (Int.ofNat 20) (Int.ofNat s.size) = true by rw [iltI_eq]; exact decide_eq_true (Int.ofNat_lt.2 h20), cond_true]
  rw [if_neg h20, show iltI (Int.ofNat 20) (Int.ofNat s.size) = false by rw [iltI_eq]; simp; omega, cond_false]
  obtain ⟨b, hb⟩ := byteList_get hp
  have hj : jget (byteList s) (Int.ofNat 0) = some b := by rw [jget_nat, hb]
  simp only [hj, hb, iltI_eq, cond_if, decide_eq_true_eq]
  by_cases hlo : b < lo
  · rw [if_pos hlo, if_pos hlo]
  rw [if_neg hlo, if_neg hlo]
  by_cases hhi : hi < b
  · rw [if_pos hhi, if_pos hhi]
  rw [if_neg hhi, if_neg hhi]
  have e : (fun (v2 : Nat) (v3 : Int) => (if (!decide (v3 < lo)) = true then if (!decide (hi < v3)) = true then some false else if (!decide (v3 < Int.ofNat 48)) = true then if (!decide (Int.ofNat 57 < v3)) = true then some false else some (!ieqI v3 (Int.ofNat 95)) else some (!ieqI v3 (Int.ofNat 95)) else if (!decide (v3 < Int.ofNat 48)) = true then if (!decide (Int.ofNat 57 < v3)) = true then some false else some (!ieqI v3 (Int.ofNat 95)) else some (!ieqI v3 (Int.ofNat 95)) : Option Bool)) = fun _ r => some (S.badR r lo hi) := by
    funext _ r
    have e48 : Int.ofNat 48 = 48 := rfl
    have e57 : Int.ofNat 57 = 57 := rfl
    have e95 : Int.ofNat 95 = 95 := rfl
    simp only [S.badR, ieqI_eq, e48, e57, e95]
    by_cases a : r < lo <;> by_cases b : hi < r <;> by_cases c : r < 48 <;> by_cases d : 57 < r <;> by_cases e : r = 95 <;> simp [a, b, c, d, e] <;> omega
  rw [e]
  have e0 : Int.ofNat 0 = 0 := rfl
  obtain ⟨k, hk⟩ := sixO_some (p := fun _ r => some (S.badR r lo hi)) (q := fun r => S.badR r lo hi) (fun _ _ => rfl) s true (s.size + 1) 0 (by omega)
  have hk2 : sixO (fun _ r => some (S.badR r lo hi)) s Bool.true (Nat.add s.size 1) 0 = some k := hk
  simp only [hk, hk2, e0]
theorem con_p_named : Con Try.prog id_p_named sp_p_named := mk_p_named trivial fun x y hx h => ⟨0, (F_p_named_eq _ _ _ _ hx.2.1 hx.2.2.1).trans h⟩
theorem F_slices_Index_string_eq (l : List ByteArray) (v : ByteArray) (hl : l.length < LF) : F_slices_Index_string LF l v = some (S.index l v, ()) := by
  refine (range1 (R := Rt_slices_Index_string) l (fun rest i => some ((match rest.findIdx? (fun x => keqS v x) with | some j => Int.ofNat (i + j) | none => -1), ())) hl (fun K => ?_) (fun K i w rest r h => ?_)).trans ?_
  · simp only [R_slices_Index_string_2, ilt_self, cond_false]; rfl
  · simp only [R_slices_Index_string_2, r.ilt, r.get, r.next, h, cond_true, List.findIdx?_cons]
    cases keqS v w with
    | true => rfl
    | false =>
      simp only [cond_false]
      cases List.findIdx? (fun x => keqS v x) rest with
      | none => rfl
      | some j => simp; omega
  · simp only [S.index, S.idx, Nat.zero_add]; all_goals rfl
theorem con_slices_Index_string : Con Try.prog id_slices_Index_string sp_slices_Index_string := mk_slices_Index_string trivial fun x y hx h => ⟨LF, (F_slices_Index_string_eq _ _ (wf_len hx.1)).trans h⟩
theorem F_p_class_eq (lf : Nat) (s : ByteArray) : F_p_class lf s = some (S.class_ s, ()) := by
  simp only [F_p_class, R_p_class_in, S.class_, iltI_eq]
  have e1 : Int.ofNat 65 = 65 := rfl
  have e2 : Int.ofNat 90 = 90 := rfl
  rw [e1, e2]
  cases S.named s 65 90
  · rfl
  · simp; rfl
theorem con_p_class : Con Try.prog id_p_class sp_p_class := mk_p_class ⟨con_p_named, con_slices_Index_string, trivial⟩ fun x y hx h => ⟨LF, (F_p_class_eq _ _).trans h⟩
theorem F_p_small_eq (lf : Nat) (s : ByteArray) : F_p_small lf s = some (S.small s, ()) := by
  simp only [F_p_small, R_p_small_in, S.small, iltI_eq]
  have e1 : Int.ofNat 97 = 97 := rfl
  have e2 : Int.ofNat 122 = 122 := rfl
  rw [e1, e2]
  cases S.named s 97 122
  · rfl
  · simp; rfl
theorem con_p_small : Con Try.prog id_p_small sp_p_small := mk_p_small ⟨con_p_named, con_slices_Index_string, trivial⟩ fun x y hx h => ⟨LF, (F_p_small_eq _ _).trans h⟩

/-! ### Classes -/
theorem lchk_pre {α : Type} (l : List α) {i : Nat} (h : i ≤ l.length) : lchk (Int.ofNat 0) (Int.ofNat i) (Int.ofNat l.length) (Int.ofNat l.length) = true := by
  simp [lchk, iltI_eq]; omega
theorem lsub_pre {α : Type} (l : List α) (i : Nat) : lsub l (Int.ofNat 0) (Int.ofNat i) = l.take i := by
  simp [lsub]
theorem F_p_checkCols_eq (l : List DCol) (hl : l.length < LF) : F_p_checkCols LF l = some (S.checkCols l, ()) := by
  simp only [F_p_checkCols, R_p_checkCols_in, S.checkCols]
  by_cases h30 : 30 < l.length
  · rw [if_pos h30, show iltI (Int.ofNat 30) (Int.ofNat l.length) = true by rw [iltI_eq]; exact decide_eq_true (Int.ofNat_lt.2 h30)]; rfl
  rw [if_neg h30, show iltI (Int.ofNat 30) (Int.ofNat l.length) = false by rw [iltI_eq]; exact decide_eq_false (fun h => h30 (Int.ofNat_lt.1 h)), cond_false]
  refine range1 (R := Rt_p_checkCols) l (fun rest i => some (S.ccGo l i rest, ())) hl (fun K => ?_) (fun K i v rest r h => ?_)
  · simp only [R_p_checkCols_4, ilt_self, cond_false]; rfl
  · simp only [R_p_checkCols_4, r.ilt, r.get, r.next, h, cond_true, lchk_pre l (Nat.le_of_lt r.lt), lsub_pre, S.ccGo, iltI_eq, ieqI_eq, keqS, cond_if]
    simp only [oL]
    generalize S.small v.1 = b1
    generalize S.within v.2.1 1 3 = b2
    by_cases hc : S.col (l.take i) v.1 < 0 <;> by_cases h3 : v.2.1 = 3 <;> by_cases hn : v.2.2 = S.lit [] <;> cases b1 <;> cases b2 <;> simp [hc, h3, hn]
theorem con_p_checkCols : Con Try.prog id_p_checkCols sp_p_checkCols := mk_p_checkCols ⟨con_p_small, con_p_col, con_p_within, trivial⟩ fun x y hx h => ⟨LF, (F_p_checkCols_eq _ (wf_len hx.1)).trans h⟩
theorem cf_inner (x1 : List DForm) (K11 : Int → Option Rt_p_CheckForms) (f : DForm) (hf : f.2.length < LF) (i : Nat) :
    G_p_CheckForms_14 LF x1 K11 LF (f.2, Int.ofNat 0, Int.ofNat i) = if S.cfIn x1 f.2 = true then K11 (IntKind.i64.wrap (Int.add (Int.ofNat i) (Int.ofNat 1))) else some (5, ()) := by
  refine range0 (σ := Unit) (R := Rt_p_CheckForms) f.2 (fun k _ => (f.2, k, Int.ofNat i)) (fun _ _ => True) (fun rest _ _ => if S.cfIn x1 rest = true then K11 (IntKind.i64.wrap (Int.add (Int.ofNat i) (Int.ofNat 1))) else some (5, ())) hf (fun K s _ => ?_) (fun K k c rest s _ r h => ?_) () trivial
  · simp only [R_p_CheckForms_14, ilt_self, cond_false]; rfl
  · have h := h () trivial
    have e3 : Int.ofNat 3 = 3 := rfl
    have e0 : Int.ofNat 0 = 0 := rfl
    simp only [R_p_CheckForms_14, r.ilt, r.get, r.next, h, cond_true, iltI_eq, ieqI_eq, keqS, cond_if, S.cfIn]
    simp only [e3, e0]
    have ea : S.lit [65, 78, 89] = S.ANY := rfl
    simp only [ea, decide_eq_true_eq, Bool.not_eq_true', decide_eq_false_iff_not]
    by_cases h3 : c.2.1 = 3 <;> by_cases hn : c.2.2 = S.ANY <;> by_cases hf : S.form x1 c.2.2 < 0 <;> simp [h3, hn, hf]
theorem cf_second (x1 : List DForm) (hl : x1.length < LF) (hw : ∀ f ∈ x1, f.2.length < LF) : G_p_CheckForms_11 LF x1 LF (Int.ofNat 0) = some (S.cfGo2 x1 x1, ()) := by
  refine range1 (R := Rt_p_CheckForms) x1 (fun rest i => some (S.cfGo2 x1 rest, ())) hl (fun K => ?_) (fun K i v rest r h => ?_)
  · simp only [R_p_CheckForms_11, ilt_self, cond_false]; rfl
  · simp only [R_p_CheckForms_11, r.ilt, r.get, cond_true]
    refine (cf_inner x1 K v (hw v r.mem) i).trans ?_
    rw [r.next, h]
    simp only [S.cfGo2]
    split <;> rfl
theorem first3 (a b c : Int) : S.first [a, b, c] = if a = 0 then (if b = 0 then c else b) else a := by
  simp only [S.first]
  split
  · split
    · split <;> simp_all
    · rfl
  · rfl
theorem F_p_CheckForms_eq (l : List DForm) (hl : l.length < LF) (hw : ∀ f ∈ l, f.2.length < LF) : F_p_CheckForms LF l = some (S.checkForms l, ()) := by
  simp only [F_p_CheckForms, R_p_CheckForms_in, S.checkForms]
  by_cases h24 : 24 < l.length
  · rw [if_pos h24, show iltI (Int.ofNat 24) (Int.ofNat l.length) = true by rw [iltI_eq]; exact decide_eq_true (Int.ofNat_lt.2 h24)]; rfl
  rw [if_neg h24, show iltI (Int.ofNat 24) (Int.ofNat l.length) = false by rw [iltI_eq]; exact decide_eq_false (fun h => h24 (Int.ofNat_lt.1 h)), cond_false]
  refine range1 (R := Rt_p_CheckForms) l (fun rest i => some (S.cfGo l i rest, ())) hl (fun K => ?_) (fun K i v rest r h => ?_)
  · simp only [R_p_CheckForms_4, ilt_self, cond_false, S.cfGo]
    exact cf_second l hl hw
  · have e0 : Int.ofNat 0 = 0 := rfl
    simp only [R_p_CheckForms_4, r.ilt, r.get, r.next, h, cond_true, lchk_pre l (Nat.le_of_lt r.lt), lsub_pre, S.cfGo, iltI_eq, ieqI_eq, cond_if, S.unlessE, first3]
    simp only [e0]
    have e4 : Int.ofNat 4 = 4 := rfl
    have e6 : Int.ofNat 6 = 6 := rfl
    simp only [e4, e6]
    cases S.class_ v.1 <;> by_cases hf : S.form (l.take i) v.1 < 0 <;> by_cases hc : S.checkCols v.2 = 0 <;> simp [hf, hc]
theorem con_p_CheckForms : Con Try.prog id_p_CheckForms sp_p_CheckForms := mk_p_CheckForms ⟨con_p_class, con_p_form, con_p_checkCols, con_p_first, trivial⟩ fun x y hx h => ⟨LF, (F_p_CheckForms_eq _ (wf_len hx.1) fun f hf => wf_len (hx.1.2 f hf).2).trans h⟩

/-! ### Graphs -/
theorem F_p_value_eq (lf : Nat) (v : DVal) (many : Int) : F_p_value lf v many = some (S.value v many, ()) := by
  simp only [F_p_value, R_p_value_in, S.value, ieqI_eq, cond_if]
  simp only [oL, oLn, decide_eq_true_eq]
  split
  · rfl
  split
  · rfl
  split
  · rfl
  split <;> rfl
theorem con_p_value : Con Try.prog id_p_value sp_p_value := mk_p_value ⟨con_p_within, trivial⟩ fun x y hx h => ⟨LF, (F_p_value_eq _ _ _).trans h⟩
theorem idx_any {α : Type} (p : α → Bool) (l : List α) : (!iltI (S.idx p l) (Int.ofNat 0)) = l.any p := by
  have := S.idx_nonneg p l
  rw [iltI_eq, Bool.eq_iff_iff]
  simp only [oL, Bool.not_eq_true', decide_eq_false_iff_not, Int.not_lt]
  exact this
theorem idx_any0 {α : Type} (p : α → Bool) (l : List α) : (!iltI (S.idx p l) 0) = l.any p := idx_any p l
theorem fm_third (g : DGraph) (hl : g.1.length < LF) : G_p_formed_11 LF g LF (Int.ofNat 0) = some ((if g.1.any (fun n => n.2.any fun v => !S.value v (Int.ofNat g.1.length)) then 2 else if g.2.any (fun v => !S.value v (Int.ofNat g.1.length) || !S.refers v) then 2 else 0), ()) := by
  refine (range1 (R := Rt_p_formed) g.1 (fun rest i => some ((if rest.any (fun n => n.2.any fun v => !S.value v (Int.ofNat g.1.length)) then 2 else if g.2.any (fun v => !S.value v (Int.ofNat g.1.length) || !S.refers v) then 2 else 0), ())) hl (fun K => ?_) (fun K i n rest r h => ?_))
  · simp only [R_p_formed_11, ilt_self, cond_false]
    rw [idxO_idx (l := g.2) (fun v : DVal => !S.value v (Int.ofNat g.1.length) || !S.refers v) fun v _ => ?_]
    · simp only [idx_any, cond_if, List.any_nil, Bool.not_eq_true', oL]
      simp only [idx_any0]
      cases h : (g.2.any fun v => !S.value v (Int.ofNat g.1.length) || !S.refers v) <;> rfl
    · simp only [S.refers, ieqI_eq, oL, cond_if]
      generalize S.value (v.1, v.2) (Int.ofNat g.1.length) = b
      by_cases h3 : v.1 = 3 <;> by_cases h4 : v.1 = 4 <;> cases b <;> simp [h3, h4]
  · simp only [R_p_formed_11, r.ilt, r.get, r.next, h, cond_true, Prod.eta]
    rw [idxO_idx (l := n.2) (fun v : DVal => !S.value v (Int.ofNat g.1.length)) fun v _ => rfl]
    simp only [idx_any]
    have e2 : (n :: rest).any (fun n => n.2.any fun v => !S.value v (Int.ofNat g.1.length)) = ((n.2.any fun v => !S.value v (Int.ofNat g.1.length)) || rest.any (fun n => n.2.any fun v => !S.value v (Int.ofNat g.1.length))) := rfl
    rw [e2]
    cases hb : (n.2.any fun v => !S.value v (Int.ofNat g.1.length)) with
    | true => rw [cond_true, Bool.true_or, if_pos rfl]; rfl
    | false => rw [cond_false, Bool.false_or]
theorem fm_second (g : DGraph) (hl : g.1.length < LF) : G_p_formed_4 LF g LF (Int.ofNat 0) = some ((if g.1.any (fun n => decide (30 < n.2.length)) then 3 else if g.1.any (fun n => n.2.any fun v => !S.value v (Int.ofNat g.1.length)) then 2 else if g.2.any (fun v => !S.value v (Int.ofNat g.1.length) || !S.refers v) then 2 else 0), ()) := by
  refine (range1 (R := Rt_p_formed) g.1 (fun rest i => some ((if rest.any (fun n => decide (30 < n.2.length)) then 3 else if g.1.any (fun n => n.2.any fun v => !S.value v (Int.ofNat g.1.length)) then 2 else if g.2.any (fun v => !S.value v (Int.ofNat g.1.length) || !S.refers v) then 2 else 0), ())) hl (fun K => ?_) (fun K i n rest r h => ?_))
  · simp only [R_p_formed_4, ilt_self, cond_false]
    exact fm_third g hl
  · have e : (iltI (Int.ofNat 30) (Int.ofNat n.2.length)) = decide (30 < n.2.length) := by
      rw [iltI_eq, Bool.eq_iff_iff]; simp only [decide_eq_true_eq]; exact Int.ofNat_lt
    simp only [R_p_formed_4, r.ilt, r.get, r.next, h, cond_true, e]
    have e2 : (n :: rest).any (fun n => decide (30 < n.2.length)) = (decide (30 < n.2.length) || rest.any (fun n => decide (30 < n.2.length))) := rfl
    rw [e2]
    by_cases hb : 30 < n.2.length
    · rw [decide_eq_true hb, cond_true, Bool.true_or, if_pos rfl]; rfl
    · rw [decide_eq_false hb, cond_false, Bool.false_or]
theorem ilt_nat (a b : Nat) : iltI (Int.ofNat a) (Int.ofNat b) = decide (a < b) := by
  rw [iltI_eq, Bool.eq_iff_iff]; simp only [decide_eq_true_eq]; exact Int.ofNat_lt
theorem F_p_formed_eq (g : DGraph) (hl : g.1.length < LF) : F_p_formed LF g = some (S.formed g, ()) := by
  simp only [F_p_formed, R_p_formed_in, S.formed, ilt_nat, cond_if]
  by_cases h1 : 400 < g.1.length
  · simp [h1, oL]
  by_cases h2 : 60 < g.2.length
  · simp [h1, h2, oL]
  rw [if_neg (by simpa using h1), if_neg (by simpa using h2), if_neg (by omega)]
  exact fm_second g hl
theorem con_p_formed : Con Try.prog id_p_formed sp_p_formed := mk_p_formed ⟨con_p_value, trivial⟩ fun x y hx h => ⟨LF, (F_p_formed_eq _ (wf_len hx.1.1)).trans h⟩
theorem F_p_suits_eq (lf : Nat) (g : DGraph) (c : DCol) (v : DVal) (h : S.refOK g v = true) : F_p_suits lf g c v = some (S.suits g c v, ()) := by
  simp only [F_p_suits, R_p_suits_in, S.suits, ieqI_eq, keqS, cond_if]
  have ea : S.lit [65, 78, 89] = S.ANY := rfl
  simp only [ea, oL, decide_eq_true_eq]
  by_cases h1 : c.2.1 = 1
  · simp [h1]
  by_cases h2 : c.2.1 = 2
  · simp [h2]
  by_cases h3 : v.1 = 3
  · simp [h1, h2, h3]
  by_cases h4 : v.1 = 4
  · unfold S.refOK at h
    obtain ⟨a, b⟩ := of_decide_eq_true h h4
    obtain ⟨x, e1, e2, e3⟩ := jget_of a b
    have e4 : S.at_ S.zNode g.1 v.2 = x := by unfold S.at_; rw [e2]; rfl
    rw [e1, e4]
    by_cases hA : c.2.2 = S.ANY <;> simp [h1, h2, h3, h4, hA]
  · simp [h1, h2, h3, h4]
theorem con_p_suits : Con Try.prog id_p_suits sp_p_suits := mk_p_suits trivial fun x y hx h => ⟨0, by
  have h : cond (S.refOK x.1 x.2.2.1) (some (S.suits x.1 x.2.1 x.2.2.1, ())) none = some y := h
  cases hr : S.refOK x.1 x.2.2.1 with
  | false => rw [hr] at h; cases h
  | true => rw [hr] at h; exact (F_p_suits_eq _ _ _ _ hr).trans h⟩
theorem ieq_nat (a b : Nat) : ieqI (Int.ofNat a) (Int.ofNat b) = decide (a = b) := by
  rw [ieqI_eq, Bool.eq_iff_iff]; simp only [decide_eq_true_eq]; exact Int.ofNat_inj
theorem ty_inner (l : List DForm) (g : DGraph) (K2 : Int → Option Rt_p_typed) (nm : ByteArray) (vs : List DVal) (hv : ∀ v ∈ vs, S.refOK g v = true) (cs : List DCol) (hc : cs.length < LF) (hlen : vs.length = cs.length) (i : Nat) :
    G_p_typed_8 LF l g K2 LF (vs, cs, nm, Int.ofNat 0, Int.ofNat i) = if S.suitsAll g cs vs = true then K2 (IntKind.i64.wrap (Int.add (Int.ofNat i) (Int.ofNat 1))) else some (false, ()) := by
  refine range0 (σ := Unit) (R := Rt_p_typed) cs (fun k _ => (vs, cs, nm, k, Int.ofNat i)) (fun _ _ => True) (fun rest k _ => if S.suitsAll g rest (vs.drop k) = true then K2 (IntKind.i64.wrap (Int.add (Int.ofNat i) (Int.ofNat 1))) else some (false, ())) hc (fun K s _ => ?_) (fun K k c rest s _ r h => ?_) () trivial
  · simp only [R_p_typed_8, ilt_self, cond_false, S.suitsAll]; rfl
  · have h := h () trivial
    have hk : k < vs.length := by rw [hlen]; exact r.lt
    have hj : jget vs (Int.ofNat k) = some vs[k] := by rw [jget_nat]; exact List.getElem?_eq_getElem hk
    have hr := hv _ (List.getElem_mem hk)
    rw [List.drop_eq_getElem_cons hk, S.suitsAll]
    simp only [R_p_typed_8, r.ilt, r.get, r.next, h, cond_true, hj, Prod.eta, hr]
    cases S.suits g c vs[k] <;> simp
theorem F_p_typed_eq (l : List DForm) (g : DGraph) (hl : g.1.length < LF) (hw : ∀ f ∈ l, f.2.length < LF) (hp : S.typedPre l g = true) : F_p_typed LF l g = some (S.typed l g g.1, ()) := by
  show G_p_typed_2 LF l g LF (Int.ofNat 0) = _
  refine range1 (R := Rt_p_typed) g.1 (fun rest i => some (S.typed l g rest, ())) hl (fun K => ?_) (fun K i n rest r h => ?_)
  · simp only [R_p_typed_2, ilt_self, cond_false, S.typed]
  · unfold S.typedPre at hp
    have hn := List.all_eq_true.1 hp n r.mem
    simp only [Bool.and_eq_true, decide_eq_true_eq] at hn
    obtain ⟨f, f1, f2, f3, f4, f5, f6⟩ := S.idx_get (p := fun f : DForm => keqS f.1 n.1) (l := l) hn.1
    have f1' : jget l (S.form l n.1) = some f := f1
    have hc : S.colsOf l n.1 = f.2 := by
      unfold S.colsOf S.at_ S.form
      rw [f2]; rfl
    simp only [R_p_typed_2, r.ilt, r.get, f1', cond_true, ieq_nat]
    rw [S.typed, hc]
    by_cases hlen : n.2.length = f.2.length
    · rw [if_pos hlen, decide_eq_true hlen, Bool.not_true, cond_false]
      refine (ty_inner l g K n.1 n.2 (List.all_eq_true.1 hn.2) f.2 (hw f f4) hlen i).trans ?_
      rw [r.next, h]
      split <;> rfl
    · rw [if_neg hlen, decide_eq_false hlen, Bool.not_false, cond_true]
theorem con_p_typed : Con Try.prog id_p_typed sp_p_typed := mk_p_typed ⟨con_p_form, con_p_suits, trivial⟩ fun x y hx h => ⟨LF, by
  have h : cond (S.typedPre x.1 x.2.1) (some (S.typed x.1 x.2.1 x.2.1.1, ())) none = some y := h
  cases hr : S.typedPre x.1 x.2.1 with
  | false => rw [hr] at h; cases h
  | true => rw [hr] at h; exact (F_p_typed_eq _ _ (wf_len hx.2.1.1) (fun f hf => wf_len (hx.1.2 f hf).2) hr).trans h⟩
theorem refOK_of_value {g : DGraph} {v : DVal} (hl : g.1.length < LF) (h : S.value v (Int.ofNat g.1.length) = true) : S.refOK g v = true := by
  unfold S.refOK
  refine decide_eq_true fun h4 => ?_
  unfold S.value at h
  have hw : IntKind.i64.wrap (Int.sub (Int.ofNat g.1.length) (Int.ofNat 1)) = (g.1.length : Int) - 1 := wrap64_in (by
    unfold LF at hl
    show -9223372036854775808 ≤ (g.1.length : Int) - 1 ∧ (g.1.length : Int) - 1 < 9223372036854775808
    omega)
  rw [hw] at h
  simp [h4, S.within] at h
  omega
theorem formed_zero {g : DGraph} (h : S.formed g = 0) : g.1.length ≤ 400 ∧ g.2.length ≤ 60 ∧ (∀ n ∈ g.1, n.2.length ≤ 30) ∧ (∀ n ∈ g.1, ∀ v ∈ n.2, S.value v (Int.ofNat g.1.length) = true) ∧ ∀ v ∈ g.2, S.value v (Int.ofNat g.1.length) = true ∧ S.refers v = true := by
  unfold S.formed at h
  split at h
  · cases h
  split at h
  · cases h
  split at h
  · cases h
  split at h
  · cases h
  rename_i h1 h2 h3 h4
  simp only [List.any_eq_true, not_exists, not_and, decide_eq_true_eq, Bool.not_eq_true', Bool.not_eq_false, Bool.or_eq_true, not_or] at h2 h3 h4
  exact ⟨by omega, by omega, fun n hn => by have := h2 n hn; omega, fun n hn v hv => h3 n hn v hv, fun v hv => h4 v hv⟩
theorem ne_zero (a : Int) : (!ieqI a (Int.ofNat 0)) = decide (¬ a = 0) := by
  rw [ieqI_eq, Bool.eq_iff_iff]; simp [oL]
theorem check_pre {l : List DForm} {g : DGraph} (hl : g.1.length < LF) (h0 : S.formed g = 0) (hb : g.1.any (fun n => decide (S.form l n.1 < 0)) = false) : S.typedPre l g = true := by
  obtain ⟨_, _, _, hv, _⟩ := formed_zero h0
  unfold S.typedPre
  rw [List.all_eq_true]
  intro n hn
  simp only [Bool.and_eq_true, decide_eq_true_eq, List.all_eq_true]
  rw [List.any_eq_false] at hb
  have := hb n hn
  simp only [decide_eq_true_eq] at this
  exact ⟨by omega, fun v hv2 => refOK_of_value hl (hv n hn v hv2)⟩
theorem F_p_check_eq (lf : Nat) (l : List DForm) (g : DGraph) (hl : g.1.length < LF) : F_p_check lf l g = some (S.check l g, ()) := by
  simp only [F_p_check, R_p_check_in, S.check, Prod.eta, ne_zero]
  by_cases h0 : S.formed g = 0
  · rw [decide_eq_false (by simpa using h0), cond_false, if_neg (by simpa using h0)]
    rw [idxO_idx (l := g.1) (fun n : DNode => decide (S.form l n.1 < 0)) fun v _ => by rw [iltI_eq]; rfl]
    simp only [idx_any]
    cases hb : g.1.any (fun n => decide (S.form l n.1 < 0)) with
    | true => rw [cond_true, if_pos rfl]; rfl
    | false =>
      rw [check_pre hl h0 hb, cond_false, if_neg (by simp)]
      simp only [cond_true, S.unlessE]
      cases S.typed l g g.1 <;> rfl
  · rw [decide_eq_true (by simpa using h0), cond_true, if_pos (by simpa using h0)]
theorem con_p_check : Con Try.prog id_p_check sp_p_check := mk_p_check ⟨con_p_formed, con_p_form, con_p_typed, trivial⟩ fun x y hx h => ⟨LF, (F_p_check_eq _ _ _ (wf_len hx.2.1.1)).trans h⟩
theorem F_p_Check_eq (lf : Nat) (l : List DForm) (g : DGraph) : F_p_Check lf l g = some (S.checkG l g, ()) := by
  simp only [F_p_Check, R_p_Check_in, S.checkG, Prod.eta, ne_zero]
  by_cases h0 : S.checkForms l = 0
  · rw [decide_eq_false (by simpa using h0), cond_false, if_neg (by simpa using h0)]
  · rw [decide_eq_true (by simpa using h0), cond_true, if_pos (by simpa using h0)]
theorem con_p_Check : Con Try.prog id_p_Check sp_p_Check := mk_p_Check ⟨con_p_CheckForms, con_p_check, trivial⟩ fun x y hx h => ⟨LF, (F_p_Check_eq _ _ _).trans h⟩
end Go.Proofs.Ytcnhjofpmpipfaa
end

/- Made by program: plain forms of functions. -/
section
set_option linter.unusedVariables false
set_option maxRecDepth 100000
noncomputable section
namespace Go.Proofs.Ytcnhjofpmpipfaa
open Go Go.Sx Go.RowKit Go.Jx
end Go.Proofs.Ytcnhjofpmpipfaa

end
end

/- What a call leaves that makes an empty list. -/
section
set_option linter.unusedVariables false
namespace Go.Jx
open Go Go.Sx Go.RowKit
universe u
inductive NoD (n : Nat) : Type
instance (n : Nat) : Dat (NoD n) where
  sz := n
  enc _ _ _ x := nomatch x
  len {_ _ _ x} _ := nomatch x
  mono {_ _ _ _ _ x} _ _ := nomatch x
  ones {_ _ _ x} _ := nomatch x
theorem lst_nil2 {E : Env} {c : TC} {u : Value} (h : VR E (.lst c []) u) : ∃ a cap, u = .slice a 0 cap ∧ cap < 9223372036854775808 := by
  cases h with
  | lst0 hc => exact ⟨_, _, rfl, hc⟩
  | lst us h1 h2 h3 hb hh hc hu => exact ⟨_, _, rfl, h2⟩
end Go.Jx
end

/- The calls of slices.Clone. -/
section
set_option linter.unusedVariables false
set_option maxRecDepth 100000
namespace Go.Proofs.Ytcnhjofpmpipfaa
open Go Go.Sx Go.RowKit Go.Jx

end Go.Proofs.Ytcnhjofpmpipfaa
end

/- The contracts of package pack, second part: rules. -/
section
set_option linter.unusedVariables false
set_option maxRecDepth 100000
namespace Go.Proofs.Ytcnhjofpmpipfaa
open Go Go.Sx Go.RowKit Go.Jx

end Go.Proofs.Ytcnhjofpmpipfaa
end

/- The contract of pack.Convert; what right rules are. -/
section
set_option linter.unusedVariables false
set_option maxRecDepth 100000
namespace Go.Proofs.Ytcnhjofpmpipfaa
open Go Go.Sx Go.RowKit Go.Jx
structure RulesOK (a b : List DForm) (l : List DRule) : Prop where
  len : l.length ≤ 24
  has : ∀ r ∈ l, 0 ≤ S.form a r.1 ∧ 0 ≤ S.form b r.2.1
  one : ∀ k (h : k < l.length), (S.ruleOf (l.take k) l[k].1).2 = false
  all : ∀ f ∈ a, (S.ruleOf l f.1).2 = true
  glen : ∀ r ∈ l, r.2.2.length = (S.colsOf b r.2.1).length
  gok : ∀ r ∈ l, ∀ k (h : k < r.2.2.length) (h' : k < (S.colsOf b r.2.1).length), S.give l r.2.2[k] (S.colsOf a r.1) (S.colsOf b r.2.1)[k] = 0
theorem typed_len {l : List DForm} {g : DGraph} : ∀ {ns : List DNode}, S.typed l g ns = true → ∀ n ∈ ns, n.2.length = (S.colsOf l n.1).length ∧ S.suitsAll g (S.colsOf l n.1) n.2 = true
  | [], _, n, hn => by cases hn
  | m :: ns, h, n, hn => by
    rw [S.typed] at h
    split at h
    · rename_i h1
      split at h
      · rename_i h2
        rcases List.mem_cons.1 hn with rfl | hn
        · exact ⟨h1, h2⟩
        · exact typed_len h n hn
      · cases h
    · cases h
structure GraphOK (l : List DForm) (g : DGraph) : Prop where
  formed : S.formed g = 0
  has : ∀ n ∈ g.1, 0 ≤ S.form l n.1
  typed : S.typed l g g.1 = true
theorem graphOK_iff (l : List DForm) (g : DGraph) : S.check l g = 0 ↔ GraphOK l g := by
  unfold S.check
  by_cases h0 : S.formed g = 0
  · rw [if_neg (by simpa using h0)]
    cases hb : g.1.any (fun n => decide (S.form l n.1 < 0)) with
    | true =>
      rw [if_pos rfl]
      refine ⟨fun h => (by cases h), fun h => ?_⟩
      obtain ⟨n, h1, h2⟩ := List.any_eq_true.1 hb
      have := h.has n h1
      have := of_decide_eq_true h2
      omega
    | false =>
      rw [if_neg (by simp)]
      rw [List.any_eq_false] at hb
      have hh : ∀ n ∈ g.1, 0 ≤ S.form l n.1 := fun n hn => by have := hb n hn; simpa using this
      unfold S.unlessE
      cases ht : S.typed l g g.1 with
      | true => exact ⟨fun _ => ⟨h0, hh, ht⟩, fun _ => rfl⟩
      | false => exact ⟨fun h => (by cases h), fun h => (by have := h.typed; rw [ht] at this; cases this)⟩
  · rw [if_pos h0]
    exact ⟨fun h => absurd h h0, fun h => absurd h.formed h0⟩
end Go.Proofs.Ytcnhjofpmpipfaa
end

/- Names, byte by byte. -/
section
set_option linter.unusedVariables false
namespace Go.Proofs.Ytcnhjofpmpipfaa
open Go Go.Sx Go.RowKit Go.Jx
namespace S
def isSmall (b : Int) : Bool := decide (97 ≤ b) && decide (b ≤ 122)
def isCap (b : Int) : Bool := decide (65 ≤ b) && decide (b ≤ 90)
def isDig (b : Int) : Bool := decide (48 ≤ b) && decide (b ≤ 57)
def isPart (b : Int) : Bool := isSmall b || isCap b || isDig b || decide (b = 95)
end S
end Go.Proofs.Ytcnhjofpmpipfaa
end

/- What the functions of the reference compute: the same as those of the package. -/
section
set_option linter.unusedVariables false
noncomputable section
namespace Go.Proofs.Ytcnhjofpmpipfaa
open Go Go.Sx Go.RowKit Go.Jx
namespace S
def has (l : List ByteArray) (s : ByteArray) : Bool := l.any fun x => keqS x s
def run0 (s : ByteArray) : Int := Int.ofNat ((byteList s).takeWhile isPart).length
def numGo : List Int → Int → Int × Int
  | [], n => (n, 0)
  | b :: r, n =>
    let m := IntKind.i64.wrap (Int.sub (IntKind.i64.wrap (Int.add (IntKind.i64.wrap (Int.mul (Int.ofNat 10) n)) b)) (Int.ofNat 48))
    if 1099511627776 < m then (0, 3) else numGo r m
def number (s : ByteArray) : Int × Int :=
  if (byteList s).all isDig = false then (0, 2)
  else if (byteList s)[0]? = some 48 ∧ 1 < s.size then (0, 2)
  else numGo (byteList s) 0
def wordsT : List ByteArray := [S.lit [84, 114, 117, 101], S.lit [70, 97, 108, 115, 101], S.lit [86, 111, 105, 100], S.lit [67, 117, 114, 114, 101, 110, 116], S.lit [82, 101, 115, 117, 108, 116]]
def keywords : List ByteArray := [S.lit [97, 110, 100], S.lit [97, 115], S.lit [97, 116, 116, 97, 99, 104, 101, 100], S.lit [99, 104, 101, 99, 107], S.lit [99, 108, 97, 115, 115], S.lit [99, 114, 101, 97, 116, 101], S.lit [100, 101, 102, 101, 114, 114, 101, 100], S.lit [100, 101, 116, 97, 99, 104, 97, 98, 108, 101], S.lit [100, 111], S.lit [101, 108, 115, 101], S.lit [101, 110, 100], S.lit [101, 110, 115, 117, 114, 101], S.lit [102, 101, 97, 116, 117, 114, 101], S.lit [102, 114, 111, 109], S.lit [105, 102], S.lit [105, 109, 112, 108, 105, 101, 115], S.lit [105, 110, 104, 101, 114, 105, 116], S.lit [105, 110, 118, 97, 114, 105, 97, 110, 116], S.lit [108, 111, 99, 97, 108], S.lit [108, 111, 111, 112], S.lit [110, 111, 116], S.lit [111, 108, 100], S.lit [111, 114], S.lit [112, 117, 116], S.lit [114, 97, 105, 115, 101], S.lit [114, 101, 100, 101, 102, 105, 110, 101], S.lit [114, 101, 110, 97, 109, 101], S.lit [114, 101, 113, 117, 105, 114, 101], S.lit [114, 101, 115, 99, 117, 101], S.lit [114, 101, 116, 114, 121], S.lit [115, 101, 108, 101, 99, 116], S.lit [115, 101, 112, 97, 114, 97, 116, 101], S.lit [116, 104, 101, 110], S.lit [117, 110, 100, 101, 102, 105, 110, 101], S.lit [117, 110, 116, 105, 108], S.lit [118, 97, 114, 105, 97, 110, 116], S.lit [119, 104, 101, 110]]
def signs : List ByteArray := [S.lit [58, 61], S.lit [47, 61], S.lit [60, 61], S.lit [62, 61], S.lit [47, 47], S.lit [61], S.lit [60], S.lit [62], S.lit [43], S.lit [45], S.lit [42], S.lit [37], S.lit [40], S.lit [41], S.lit [91], S.lit [93], S.lit [123], S.lit [125], S.lit [44], S.lit [59], S.lit [58], S.lit [46]]
def word (s : ByteArray) : Int × Int :=
  if has keywords s || has wordsT s then (3, 0)
  else if has smallWords s then (0, 4)
  else if (byteList s).any isSmall && (byteList s).any isCap then (0, 2)
  else if 20 < s.size then (0, 3)
  else if (byteList s).any isSmall then (1, 0)
  else (2, 0)
def shape (s : ByteArray) : Int × Int :=
  if has signs s then (5, 0)
  else match (byteList s)[0]? with
    | none => (0, 2)
    | some b => if run0 s < Int.ofNat s.size then (0, 2)
      else if b = 95 then (0, 2)
      else if isDig b then (if (number s).2 = 0 then (4, 0) else (0, (number s).2))
      else word s
end S
namespace S
end S
namespace S
end S
end Go.Proofs.Ytcnhjofpmpipfaa

end
end

/- Made by program: plain forms of functions. -/
section
set_option linter.unusedVariables false
set_option maxRecDepth 100000
noncomputable section
namespace Go.Proofs.Ytcnhjofpmpipfaa
open Go Go.Sx Go.RowKit Go.Jx
end Go.Proofs.Ytcnhjofpmpipfaa

end
end

/- The reference's functions: names, places, values. -/
section
set_option linter.unusedVariables false
set_option maxRecDepth 100000
namespace Go.Proofs.Ytcnhjofpmpipfaa
open Go Go.Sx Go.RowKit Go.Jx
end Go.Proofs.Ytcnhjofpmpipfaa
end

/- The reference's CheckForms. -/
section
set_option linter.unusedVariables false
set_option maxRecDepth 100000
namespace Go.Proofs.Ytcnhjofpmpipfaa
open Go Go.Sx Go.RowKit Go.Jx
end Go.Proofs.Ytcnhjofpmpipfaa
end

/- Made by program: plain forms of functions. -/
section
set_option linter.unusedVariables false
set_option maxRecDepth 100000
noncomputable section
namespace Go.Proofs.Ytcnhjofpmpipfaa
open Go Go.Sx Go.RowKit Go.Jx
end Go.Proofs.Ytcnhjofpmpipfaa

end
end

/- The reference's names of classes. -/
section
set_option linter.unusedVariables false
set_option maxRecDepth 100000
namespace Go.Proofs.Ytcnhjofpmpipfaa
open Go Go.Sx Go.RowKit Go.Jx
end Go.Proofs.Ytcnhjofpmpipfaa
end

/- The reference's classed is the package's class. -/
section
set_option linter.unusedVariables false
set_option maxRecDepth 100000
namespace Go.Proofs.Ytcnhjofpmpipfaa
open Go Go.Sx Go.RowKit Go.Jx
end Go.Proofs.Ytcnhjofpmpipfaa
end

/- A part of a state by itself, and what comes back of it. -/
section
set_option linter.unusedVariables false
namespace Go.Jx
open Go Go.Sx Go.RowKit
universe u

structure ObjTo (E : Env) (S : IS) (E' : Env) (id k : Nat) (o : IObj) : Prop where
  rel : OR E' k o
  live : o.live = true → ∃ o0, S.H id = some o0 ∧ o0.live = true
  blk : o.blk = true → E'.hb k = true
theorem ol_inj {B : Nat} {q : List Nat} (hnd : q.Nodup) (hqB : ∀ id ∈ q, B ≤ id) : ∀ i j, i < B + q.length → j < B + q.length → ol B q i = ol B q j → i = j := fun i j hi hj h => by
  have hol : ∀ id, B ≤ id → id < B + q.length → B ≤ ol B q id := fun id h1 h2 => by
    have h3 : id - B < q.length := by omega
    unfold ol
    rw [if_neg (by omega), List.getD_eq_getElem?_getD, List.getElem?_eq_getElem h3]
    exact hqB _ (List.getElem_mem h3)
  rcases Nat.lt_or_ge i B with h1 | h1
  · have e1 : ol B q i = i := if_pos h1
    rcases Nat.lt_or_ge j B with h2 | h2
    · rwa [e1, show ol B q j = j from if_pos h2] at h
    · have := hol j h2 hj; omega
  · rcases Nat.lt_or_ge j B with h2 | h2
    · have e2 : ol B q j = j := if_pos h2
      have := hol i h1 hi; omega
    · have h3 : i - B < q.length := by omega
      have h4 : j - B < q.length := by omega
      have e1 : ol B q i = q[i - B] := by unfold ol; rw [if_neg (by omega), List.getD_eq_getElem?_getD, List.getElem?_eq_getElem h3]; rfl
      have e2 : ol B q j = q[j - B] := by unfold ol; rw [if_neg (by omega), List.getD_eq_getElem?_getD, List.getElem?_eq_getElem h4]; rfl
      rw [e1, e2] at h
      have := (List.getElem_inj hnd).1 h
      omega
theorem ol_mem {q : List Nat} {k : Nat} (h : k < q.length) : ol 0 q k ∈ q ∧ q[k]? = some (ol 0 q k) := by
  have e : ol 0 q k = q[k] := by unfold ol; rw [if_neg (by omega), Nat.sub_zero, List.getD_eq_getElem?_getD, List.getElem?_eq_getElem h]; rfl
  rw [e]; exact ⟨List.getElem_mem h, List.getElem?_eq_getElem h⟩
theorem mem_ol {q : List Nat} {id : Nat} (h : id ∈ q) : ∃ k, k < q.length ∧ ol 0 q k = id := by
  obtain ⟨k, hk, rfl⟩ := List.mem_iff_getElem.1 h
  refine ⟨k, hk, ?_⟩
  unfold ol; rw [if_neg (by omega), Nat.sub_zero, List.getD_eq_getElem?_getD, List.getElem?_eq_getElem hk]; rfl
theorem Pre.re {T : TW} {E : Env} {S S' : IS} {q : List Nat} (p : Pre T E S) (hn : q.Nodup) (hT : ∀ id ∈ q, T.r id) (hN : S'.next = q.length)
    (ho : ∀ k o, k < q.length → E.A (ol 0 q k) → S'.H k = some o → ObjTo E S (renE 0 q E) (ol 0 q k) k o) : Pre T0 (renE 0 q E) S' := by
  have hl : ∀ k, (renE 0 q E).A k → k < q.length := fun k h => by have := h.1; omega
  have hTr : ∀ k, k < q.length → T.r (ol 0 q k) := fun k h => hT _ (ol_mem h).1
  have hlv : ∀ k, (renE 0 q E).A k → Live (renE 0 q E) S'.H k → Live E S.H (ol 0 q k) := fun k ha ⟨h0, o, h1, h2⟩ => ⟨h0, (ho k o (hl k ha) ha.2 h1).live h2⟩
  refine ⟨⟨fun k _ ha o h => (ho k o (hl k ha) ha.2 h).rel, fun k _ ha o h hb => (ho k o (hl k ha) ha.2 h).blk hb, fun k _ ha h => p.st.own _ (hTr k (hl k ha)) ha.2 (hlv k ha h),
    fun i j _ _ c d e f h => ol_inj hn (fun _ _ => Nat.zero_le _) i j (by have := hl i c; omega) (by have := hl j d; omega) (p.st.inj _ _ (hTr i (hl i c)) (hTr j (hl j d)) c.2 d.2 (hlv i c e) (hlv j d f) h), p.st.lo⟩, fun k ha => by rw [hN]; exact hl k ha, fun _ _ => trivial⟩
theorem PostB.re {T : TW} {E : Env} {S S' : IS} {B : Nat} {q : List Nat} (p : Pre T E S) (hT : ∀ id, B ≤ id → T.w id) (hn : q.Nodup) (hqB : ∀ id ∈ q, B ≤ id) (hN : S'.next = B + q.length)
    (ho : ∀ k o, k < B + q.length → E.A (ol B q k) → S'.H k = some o → ObjTo E S (renE B q E) (ol B q k) k o) : PostB B T E S (renE B q E) S' := by
  have hol : ∀ id, B ≤ id → id < B + q.length → B ≤ ol B q id := fun id h1 h2 => by
    have h3 : id - B < q.length := by omega
    unfold ol
    rw [if_neg (by omega), List.getD_eq_getElem?_getD, List.getElem?_eq_getElem h3]
    exact hqB _ (List.getElem_mem h3)
  have hTr : ∀ id, id < B + q.length → T.r id → T.r (ol B q id) := fun id h1 h2 => by
    rcases Nat.lt_or_ge id B with h3 | h3
    · rw [show ol B q id = id from if_pos h3]; exact h2
    · exact T.sub _ (hT _ (hol id h3 h1))
  have hlv : ∀ k, (renE B q E).A k → Live (renE B q E) S'.H k → Live E S.H (ol B q k) := fun k ha ⟨h0, o, h1, h2⟩ => ⟨h0, (ho k o ha.1 ha.2 h1).live h2⟩
  refine ⟨⟨fun k ht ha o h => (ho k o ha.1 ha.2 h).rel, fun k ht ha o h hb => (ho k o ha.1 ha.2 h).blk hb, fun k ht ha h => p.st.own _ (hTr k ha.1 ht) ha.2 (hlv k ha h),
    fun i j a b c d e f h => ol_inj hn hqB i j c.1 d.1 (p.st.inj _ _ (hTr i c.1 a) (hTr j d.1 b) c.2 d.2 (hlv i c e) (hlv j d f) h), p.st.lo⟩,
    rfl, rfl, rfl, Nat.le_refl _, fun _ _ _ => rfl, fun id hb hA => ?_, fun id hb ha hl => .inr ⟨ol B q id, hT _ (hol id hb ha.1), ha.2, hlv id ha hl, rfl⟩, fun id hb ht ha hl => ?_, fun b h => .inl h, fun b h _ => .inl h, fun id ha => by rw [hN]; exact ha.1, by rw [hN]; exact Nat.le_add_right _ _, fun id hb ha => ?_⟩
  · have e : ol B q id = id := if_pos hb
    exact ⟨⟨by omega, by rw [e]; exact hA⟩, by simp only [renE, e], by simp only [renE, e], by simp only [renE, e], by simp only [renE, e]⟩
  · have e : ol B q id = id := if_pos hb
    have := hlv id ⟨by omega, by rw [e]; exact ha⟩ hl
    rwa [e] at this
  · have e : ol B q id = id := if_pos hb
    have := ha.2
    rwa [e] at this
def mrgR (E Er : Env) (n m : Nat) : Env :=
  ⟨fun id => if id < n then E.ρ id else Er.ρ (id - n + m), fun id => if id < n then E.κ id else Er.κ (id - n + m), fun id => if id < n then E.hd id else Er.hd (id - n + m), fun id => if id < n then E.hb id else Er.hb (id - n + m),
    fun id => (id < n ∧ E.A id) ∨ (n ≤ id ∧ Er.A (id - n + m)), Er.m, Er.w⟩
section
variable {E Er : Env} {n m : Nat}
theorem mrgR_old {id : Nat} (h : id < n) : (mrgR E Er n m).ρ id = E.ρ id ∧ (mrgR E Er n m).κ id = E.κ id ∧ (mrgR E Er n m).hd id = E.hd id ∧ (mrgR E Er n m).hb id = E.hb id := by
  refine ⟨?_, ?_, ?_, ?_⟩ <;> simp only [mrgR, if_pos h]
theorem mrgR_new {k : Nat} (h : m ≤ k) : (mrgR E Er n m).ρ (n + (k - m)) = Er.ρ k ∧ (mrgR E Er n m).κ (n + (k - m)) = Er.κ k ∧ (mrgR E Er n m).hd (n + (k - m)) = Er.hd k ∧ (mrgR E Er n m).hb (n + (k - m)) = Er.hb k ∧ (Er.A k → (mrgR E Er n m).A (n + (k - m))) := by
  have h1 : ¬ n + (k - m) < n := by omega
  have h2 : n + (k - m) - n + m = k := by omega
  refine ⟨?_, ?_, ?_, ?_, fun hA => .inr ⟨by omega, by rw [h2]; exact hA⟩⟩ <;> simp only [mrgR, if_neg h1, h2]
theorem merge_back {T : TW} {S Sx Sr S' : IS} {q : List Nat} (p : Pre T E S) (hnd : q.Nodup) (hT : ∀ id ∈ q, T.w id) (hA : ∀ id ∈ q, E.A id) (hm : m ≤ q.length) (hn : n = S.next)
    (hsx : ∀ k, k < q.length → Live (renE 0 q E) Sx.H k → Live E S.H (ol 0 q k)) (h : PostB m T0 (renE 0 q E) Sx Er Sr)
    (hN : S'.next = n + (Sr.next - m))
    (h1 : ∀ id, id < n → id ∉ q → S'.H id = S.H id)
    (h2 : ∀ k o, k < m → S'.H (ol 0 q k) = some o → ObjTo Er Sr (mrgR E Er n m) k (ol 0 q k) o)
    (h3 : ∀ k o, m ≤ k → k < q.length → S'.H (ol 0 q k) = some o → o = .dead)
    (h4 : ∀ k o, m ≤ k → Er.A k → S'.H (n + (k - m)) = some o → ObjTo Er Sr (mrgR E Er n m) k (n + (k - m)) o) :
    Post T E S (mrgR E Er n m) S' ∧ Fresh E S (mrgR E Er n m) := by
  have hlt : ∀ id, E.A id → id < n := fun id h => by rw [hn]; exact p.bnd id h
  have hqA : ∀ k, k < q.length → (renE 0 q E).A k := fun k hk => ⟨by omega, hA _ (ol_mem hk).1⟩
  -- a live object of the caller's beside these is at no block of theirs
  have hapart : ∀ id, id ∉ q → T.r id → E.A id → Live E S.H id → ∀ k, (renE 0 q E).A k → Live (renE 0 q E) Sx.H k → (renE 0 q E).ρ k ≠ E.ρ id := fun id hid ht ha hl k hk hkl e => by
    have hk1 : k < q.length := by have := hk.1; omega
    have h5 := (ol_mem hk1).1
    have := p.st.inj _ _ (T.sub _ (hT _ h5)) ht hk.2 ha (hsx k hk1 hkl) hl e
    exact hid (this ▸ h5)
  have hsame : ∀ b, b < E.w.heap.size → (∀ k, (renE 0 q E).A k → Live (renE 0 q E) Sx.H k → (renE 0 q E).ρ k ≠ b) → Er.w.heap[b]? = E.w.heap[b]? := fun b hb hk => h.same b hb fun k _ => hk k
  have hown : ∀ k, (renE 0 q E).A k → Live (renE 0 q E) Sx.H k → (renE 0 q E).ρ k ∈ E.m := fun k hk hkl => by
    have hk1 : k < q.length := by have := hk.1; omega
    exact p.st.own _ (T.sub _ (hT _ (ol_mem hk1).1)) hk.2 (hsx k hk1 hkl)
  have hle : E.Le (mrgR E Er n m) := ⟨fun id ha => by
    obtain ⟨m1, m2, m3, m4⟩ := mrgR_old (E := E) (Er := Er) (m := m) (hlt id ha)
    exact ⟨.inl ⟨hlt id ha, ha⟩, m1, m2, m3, m4⟩, ⟨fun b hb hbm => ⟨fun h' => by
      rcases h.memo b h' with h5 | h5
      · exact hbm h5
      · have : (renE 0 q E).w.heap.size = E.w.heap.size := rfl
        omega, hsame b hb fun k hk hkl e => hbm (e ▸ hown k hk hkl)⟩⟩⟩
  -- rows
  have hrow : ∀ k, k < m → (renE 0 q E).A k ∧ Er.A k ∧ Er.ρ k = E.ρ (ol 0 q k) ∧ Er.hb k = E.hb (ol 0 q k) ∧ ol 0 q k < n := fun k hk => by
    have ha := hqA k (by omega)
    obtain ⟨a1, a2, a3, a4, a5⟩ := h.alw k hk ha
    exact ⟨ha, a1, a2, a5, hlt _ ha.2⟩
  -- where a live object of the new state comes from
  have hcase : ∀ id, (mrgR E Er n m).A id → Live (mrgR E Er n m) S'.H id →
      (id < n ∧ id ∉ q ∧ E.A id ∧ Live E S.H id) ∨ ∃ k, Er.A k ∧ Live Er Sr.H k ∧ (mrgR E Er n m).ρ id = Er.ρ k ∧ ((k < m ∧ id = ol 0 q k) ∨ (m ≤ k ∧ id = n + (k - m))) := fun id ha ⟨g1, o, g2, g3⟩ => by
    rcases ha with ⟨hi, ha⟩ | ⟨hi, ha⟩
    · by_cases hq : id ∈ q
      · obtain ⟨k, hk, rfl⟩ := mem_ol hq
        by_cases hkm : k < m
        · obtain ⟨r1, r2, r3, r4, r5⟩ := hrow k hkm
          refine .inr ⟨k, r2, ⟨?_, (h2 k o hkm g2).live g3⟩, (mrgR_old hi).1.trans r3.symm, .inl ⟨hkm, rfl⟩⟩
          rw [r4, ← (mrgR_old (E := E) (Er := Er) (m := m) hi).2.2.2]; exact g1
        · have := h3 k o (by omega) hk g2
          subst this; cases g3
      · rw [h1 id hi hq] at g2
        exact .inl ⟨hi, hq, ha, by rw [← (mrgR_old (E := E) (Er := Er) (m := m) hi).2.2.2]; exact g1, o, g2, g3⟩
    · obtain ⟨k, hk, rfl⟩ : ∃ k, m ≤ k ∧ id = n + (k - m) := ⟨id - n + m, by omega, by omega⟩
      have e : n + (k - m) - n + m = k := by omega
      rw [e] at ha
      obtain ⟨m1, m2, m3, m4, m5⟩ := mrgR_new (E := E) (Er := Er) (n := n) hk
      exact .inr ⟨k, ha, ⟨by rw [← m4]; exact g1, (h4 k o hk ha g2).live g3⟩, m1, .inr ⟨hk, rfl⟩⟩
  have hin : ∀ id, id < n → id ∉ q → T.r id → E.A id → Live E S.H id → (mrgR E Er n m).ρ id ∈ Er.m ∧ ∀ k, Er.A k → Live Er Sr.H k → Er.ρ k ≠ E.ρ id := fun id hi hq ht ha hl => by
    have hmem := p.st.own id ht ha hl
    refine ⟨?_, fun k hk hkl e => ?_⟩
    · rw [(mrgR_old hi).1]
      rcases h.mem _ hmem (p.st.lo _ hmem) with g | ⟨k, _, g1, g2, g3⟩
      · exact g
      · exact absurd g3 (hapart id hq ht ha hl k g1 g2)
    · by_cases hkm : k < m
      · exact hapart id hq ht ha hl k (hrow k hkm).1 (h.old k hkm trivial (hrow k hkm).1 hkl) (by rw [← e]; exact (hrow k hkm).2.2.1.symm)
      · rcases h.new k (by omega) hk hkl with g | ⟨j, _, g1, g2, g3⟩
        · have := p.st.lo _ hmem
          have e2 : (renE 0 q E).w.heap.size = E.w.heap.size := rfl
          omega
        · exact hapart id hq ht ha hl j g1 g2 (by rw [← g3]; exact e)
  refine ⟨⟨⟨?_, ?_, ?_, ?_, h.st.lo⟩, ⟨h.os, h.tape, h.output, h.size, fun b hb hk => ?_, hle.alw, ?_, ?_, fun b hb => h.memo b hb, fun b hb hl => ?_⟩, ?_, ?_⟩, ⟨?_⟩⟩
  · intro id ht ha o ho
    rcases ha with ⟨hi, ha⟩ | ⟨hi, ha⟩
    · by_cases hq : id ∈ q
      · obtain ⟨k, hk, rfl⟩ := mem_ol hq
        by_cases hkm : k < m
        · exact (h2 k o hkm ho).rel
        · have := h3 k o (by omega) hk ho
          subst this; trivial
      · rw [h1 id hi hq] at ho
        exact (p.st.objs id ht ha o ho).mono hle ha (p.st.blk id ht ha o ho) fun hl hb => hsame _ ((p.st.objs id ht ha o ho).lt hl hb) (hapart id hq ht ha ⟨hb, o, ho, hl⟩)
    · obtain ⟨k, hk, rfl⟩ : ∃ k, m ≤ k ∧ id = n + (k - m) := ⟨id - n + m, by omega, by omega⟩
      have e : n + (k - m) - n + m = k := by omega
      rw [e] at ha
      exact (h4 k o hk ha ho).rel
  · intro id ht ha o ho hb
    rcases ha with ⟨hi, ha⟩ | ⟨hi, ha⟩
    · by_cases hq : id ∈ q
      · obtain ⟨k, hk, rfl⟩ := mem_ol hq
        by_cases hkm : k < m
        · exact (h2 k o hkm ho).blk hb
        · have := h3 k o (by omega) hk ho
          subst this; cases hb
      · rw [h1 id hi hq] at ho
        rw [(mrgR_old hi).2.2.2]
        exact p.st.blk id ht ha o ho hb
    · obtain ⟨k, hk, rfl⟩ : ∃ k, m ≤ k ∧ id = n + (k - m) := ⟨id - n + m, by omega, by omega⟩
      have e : n + (k - m) - n + m = k := by omega
      rw [e] at ha
      exact (h4 k o hk ha ho).blk hb
  · intro id ht ha hl
    rcases hcase id ha hl with ⟨g1, g2, g3, g4⟩ | ⟨k, g1, g2, g3, _⟩
    · exact (hin id g1 g2 ht g3 g4).1
    · rw [g3]; exact h.st.own k trivial g1 g2
  · intro i j ti tj hi hj li lj he
    rcases hcase i hi li with ⟨a1, a2, a3, a4⟩ | ⟨k, a1, a2, a3, a4⟩ <;> rcases hcase j hj lj with ⟨b1, b2, b3, b4⟩ | ⟨k', b1, b2, b3, b4⟩
    · rw [(mrgR_old a1).1, (mrgR_old b1).1] at he
      exact p.st.inj i j ti tj a3 b3 a4 b4 he
    · rw [(mrgR_old a1).1, b3] at he
      exact absurd he.symm ((hin i a1 a2 ti a3 a4).2 k' b1 b2)
    · rw [(mrgR_old b1).1, a3] at he
      exact absurd he ((hin j b1 b2 tj b3 b4).2 k a1 a2)
    · rw [a3, b3] at he
      have := h.st.inj k k' trivial trivial a1 b1 a2 b2 he
      subst this
      rcases a4 with ⟨a4, rfl⟩ | ⟨a4, rfl⟩ <;> rcases b4 with ⟨b4, rfl⟩ | ⟨b4, rfl⟩ <;> first | rfl | omega
  · refine hsame b hb fun k hk1 hkl e => ?_
    have hk2 : k < q.length := by have := hk1.1; omega
    exact hk _ (hT _ (ol_mem hk2).1) hk1.2 (hsx k hk2 hkl) e
  · intro id ha hna hl
    rcases hcase id ha hl with ⟨g1, g2, g3, g4⟩ | ⟨k, g1, g2, g3, g4⟩
    · exact absurd g3 hna
    · rcases g4 with ⟨g4, rfl⟩ | ⟨g4, rfl⟩
      · exact absurd (hrow k g4).1.2 hna
      · rw [g3]
        rcases h.new k g4 g1 g2 with g | ⟨j, _, j1, j2, j3⟩
        · exact .inl g
        · have hj : j < q.length := by have := j1.1; omega
          exact .inr ⟨_, hT _ (ol_mem hj).1, j1.2, hsx j hj j2, j3⟩
  · intro id ht ha hl
    rcases hcase id (.inl ⟨hlt id ha, ha⟩) hl with ⟨g1, g2, g3, g4⟩ | ⟨k, g1, g2, g3, g4⟩
    · exact g4
    · rcases g4 with ⟨g4, rfl⟩ | ⟨g4, rfl⟩
      · exact hsx k (by omega) (h.old k g4 trivial (hrow k g4).1 g2)
      · have := hlt _ ha; omega
  · rcases h.mem b hb hl with g | ⟨k, _, g1, g2, g3⟩
    · exact .inl g
    · have hk : k < q.length := by have := g1.1; omega
      exact .inr ⟨_, hT _ (ol_mem hk).1, g1.2, hsx k hk g2, g3⟩
  · intro id ha
    rw [hN]
    rcases ha with ⟨hi, _⟩ | ⟨hi, ha⟩
    · omega
    · have := h.bnd _ ha; omega
  · rw [hN]; omega
  · intro id ha hna
    rcases ha with ⟨_, ha⟩ | ⟨hi, _⟩
    · exact absurd ha hna
    · omega
end
end Go.Jx
end

/- Contracts of functions that turn what their pointers lead to: the form of such states, and how they are read. -/
section
set_option linter.unusedVariables false
namespace Go.Jx
open Go Go.Sx Go.RowKit
universe u

inductive CT : Type
  | dat (c : TC)
  | arr (c : TC)
  | map (k v : TC)
def ElC : CT → Type
  | .dat c => El c
  | .arr c => List (El c)
  | .map k v => List (El k × El v)
def ElRow : List CT → Type
  | [] => Unit
  | c :: cs => ElC c × ElRow cs
inductive RK : Type
  | box (r : List CT)
  | sl (c : TC)
def ElK : RK → Type
  | .box r => ElRow r
  | .sl c => Option (List (El c))
inductive PK : Type
  | dat (c : TC)
  | ref (r : RK)
  | fn (f : Nat)
def ElP : List PK → Type
  | [] => Unit
  | .dat c :: l => El c × ElP l
  | .fn _ :: l => ElP l
  | .ref r :: l => ElK r × ElP l
def refs : List PK → List PK
  | [] => []
  | .dat _ :: l => refs l
  | .fn _ :: l => refs l
  | .ref r :: l => .ref r :: refs l
def nC : CT → Nat
  | .dat _ => 0
  | _ => 1
def nR : List CT → Nat
  | [] => 0
  | c :: cs => nC c + nR cs
def nK : RK → Nat
  | .box r => nR r
  | .sl _ => 0
def nP : List PK → Nat
  | [] => 0
  | .dat _ :: l => nP l
  | .fn _ :: l => nP l
  | .ref r :: l => nK r + nP l
def mP : List PK → Nat
  | [] => 0
  | .dat _ :: l => mP l
  | .fn _ :: l => mP l
  | .ref _ :: l => mP l + 1
def cellC : (c : CT) → (Nat → Nat) → Nat → ElC c → List IV
  | .dat c, _, _, x => cel c x
  | .arr _, ι, n, _ => [.arr (ι n)]
  | .map _ _, ι, n, _ => [.map (ι n)]
def cellR : (r : List CT) → (Nat → Nat) → Nat → ElRow r → List IV
  | [], _, _, _ => []
  | c :: cs, ι, n, x => cellC c ι n x.1 ++ cellR cs ι (n + nC c) x.2
def subC : (c : CT) → ElC c → List IObj
  | .dat _, _ => []
  | .arr c, l => [.arr c l]
  | .map k v, es => [.tmap k v es]
def subR : (r : List CT) → ElRow r → List IObj
  | [], _ => []
  | c :: cs, x => subC c x.1 ++ subR cs x.2
def objK : (k : RK) → (Nat → Nat) → Nat → ElK k → IObj
  | .box r, ι, n, x => .row (cellR r ι n x)
  | .sl c, _, _, x => match x with
    | some l => .arr c l
    | none => .dead
def subK : (k : RK) → ElK k → List IObj
  | .box r, x => subR r x
  | .sl _, _ => []
def argK : RK → Nat → IV
  | .box _, id => .ptr id 0
  | .sl _, id => .arr id
def rowsP : (l : List PK) → (Nat → Nat) → Nat → ElP l → List IObj
  | [], _, _, _ => []
  | .dat _ :: l, ι, n, x => rowsP l ι n x.2
  | .fn _ :: l, ι, n, x => rowsP l ι n x
  | .ref r :: l, ι, n, x => objK r ι n x.1 :: rowsP l ι (n + nK r) x.2
def subsP : (l : List PK) → ElP l → List IObj
  | [], _ => []
  | .dat _ :: l, x => subsP l x.2
  | .fn _ :: l, x => subsP l x
  | .ref r :: l, x => subK r x.1 ++ subsP l x.2
def argsP : (l : List PK) → (Nat → Nat) → Nat → ElP l → List IV
  | [], _, _, _ => []
  | .dat c :: l, ρ, k, x => asIV c x.1 :: argsP l ρ k x.2
  | .fn f :: l, ρ, k, x => .fn f [] :: argsP l ρ k x
  | .ref r :: l, ρ, k, x => argK r (ρ k) :: argsP l ρ (k + 1) x.2
def idN (k : Nat) : Nat := k
def Sc (l : List PK) (x : ElP l) : IS := addO (rowsP l idN (mP l) x ++ subsP l x) S0
theorem subC_len : ∀ (c : CT) (x : ElC c), (subC c x).length = nC c
  | .dat _, _ => rfl
  | .arr _, _ => rfl
  | .map _ _, _ => rfl
theorem subR_len : ∀ (r : List CT) (x : ElRow r), (subR r x).length = nR r
  | [], _ => rfl
  | c :: cs, x => by simp only [subR, nR, List.length_append, subC_len, subR_len cs]
theorem subK_len : ∀ (k : RK) (x : ElK k), (subK k x).length = nK k
  | .box r, x => subR_len r x
  | .sl _, _ => rfl
theorem subsP_len : ∀ (l : List PK) (x : ElP l), (subsP l x).length = nP l
  | [], _ => rfl
  | .dat _ :: l, x => subsP_len l x.2
  | .fn _ :: l, x => subsP_len l x
  | .ref r :: l, x => by simp only [subsP, nP, List.length_append, subK_len, subsP_len l]
theorem rowsP_len : ∀ (l : List PK) (ι : Nat → Nat) (n : Nat) (x : ElP l), (rowsP l ι n x).length = mP l
  | [], _, _, _ => rfl
  | .dat _ :: l, ι, n, x => rowsP_len l ι n x.2
  | .fn _ :: l, ι, n, x => rowsP_len l ι n x
  | .ref r :: l, ι, n, x => by simp only [rowsP, mP, List.length_cons, rowsP_len l]
theorem rowsP_get : ∀ (l : List PK) (ι : Nat → Nat) (n : Nat) (x : ElP l) (j : Nat) (o : IObj), (rowsP l ι n x)[j]? = some o →
    ∃ r nj xj, o = objK r ι nj xj ∧ n ≤ nj ∧ nj + nK r ≤ n + nP l ∧ ∀ ι', (rowsP l ι' n x)[j]? = some (objK r ι' nj xj)
  | [], ι, n, x, j, o, h => by simp [rowsP] at h
  | .dat _ :: l, ι, n, x, j, o, h => rowsP_get l ι n x.2 j o h
  | .fn _ :: l, ι, n, x, j, o, h => rowsP_get l ι n x j o h
  | .ref r :: l, ι, n, x, j, o, h => by
    cases j with
    | zero =>
      simp only [rowsP, List.getElem?_cons_zero, Option.some.injEq] at h
      exact ⟨r, n, x.1, h.symm, Nat.le_refl _, by simp only [nP]; omega, fun ι' => rfl⟩
    | succ j =>
      simp only [rowsP, List.getElem?_cons_succ] at h
      obtain ⟨r', nj, xj, h1, h2, h3, h4⟩ := rowsP_get l ι _ x.2 j o h
      exact ⟨r', nj, xj, h1, by omega, by simp only [nP]; omega, fun ι' => by simpa only [rowsP, List.getElem?_cons_succ] using h4 ι'⟩
theorem Sc_next (l : List PK) (x : ElP l) : (Sc l x).next = mP l + nP l := by
  unfold Sc; rw [addO_next, List.length_append, rowsP_len, subsP_len]
  show 0 + _ = _
  omega
theorem addO_H0 (l : List IObj) (k : Nat) : (addO l S0).H k = l[k]? := by
  rw [addO_H]
  have e : S0.next = 0 := rfl
  rw [e, if_neg (by omega), Nat.zero_add, Nat.sub_zero]
  by_cases h : k < l.length
  · rw [if_pos h]
  · rw [if_neg h, List.getElem?_eq_none (by omega)]; rfl

/-! ### The same under other numbers -/
section
variable {E E' : Env}
def NumTo (E E' : Env) (i j : Nat) : Prop := E.A i → E'.A j ∧ E'.ρ j = E.ρ i ∧ E'.κ j = E.κ i ∧ E'.hd j = E.hd i ∧ E'.hb j = E.hb i
theorem cellC_env (hm : ∀ b, b ∈ E'.m → b ∈ E.m) (hw : E'.w = E.w) {ι ι' : Nat → Nat} : ∀ (c : CT) {n : Nat} {x : ElC c} {us : List Value}, (∀ j, n ≤ j → j < n + nC c → NumTo E E' (ι j) (ι' j)) →
    VRs E (cellC c ι n x) us → VRs E' (cellC c ι' n x) us
  | .dat c, n, x, us, hn, h => ⟨h.1, fun i a b => (VR.noid hm hw (h.2 i a b)).2.2 _ _ (List.getElem_mem a)⟩
  | .arr c, n, x, us, hn, h => by
    obtain ⟨u, us, rfl, a1, a2⟩ := VRs.inv (v := .arr (ι n)) (cs := []) h
    have e : us = [] := by have := a2.1; simpa using this.symm
    subst e
    cases a1 with
    | arr hA hh =>
      obtain ⟨b1, b2, b3, b4, b5⟩ := hn n (Nat.le_refl _) (by simp [nC]) hA
      exact VRs.cons (.arr b1 (b4.trans hh)) VRs.nil
  | .map k v, n, x, us, hn, h => by
    obtain ⟨u, us, rfl, a1, a2⟩ := VRs.inv (v := .map (ι n)) (cs := []) h
    have e : us = [] := by have := a2.1; simpa using this.symm
    subst e
    cases a1 with
    | map hA =>
      obtain ⟨b1, b2, b3, b4, b5⟩ := hn n (Nat.le_refl _) (by simp [nC]) hA
      rw [← b2]
      exact VRs.cons (.map b1) VRs.nil
theorem VRs.split {E : Env} {cs ds : List IV} {us : List Value} (h : VRs E (cs ++ ds) us) : ∃ us1 us2, us = us1 ++ us2 ∧ VRs E cs us1 ∧ VRs E ds us2 := by
  have h1 := h.take cs.length
  have h2 := h.drop cs.length
  rw [List.take_left] at h1
  rw [List.drop_left] at h2
  exact ⟨_, _, (List.take_append_drop _ _).symm, h1, h2⟩
theorem cellR_env (hm : ∀ b, b ∈ E'.m → b ∈ E.m) (hw : E'.w = E.w) {ι ι' : Nat → Nat} : ∀ (r : List CT) {n : Nat} {x : ElRow r} {us : List Value}, (∀ j, n ≤ j → j < n + nR r → NumTo E E' (ι j) (ι' j)) →
    VRs E (cellR r ι n x) us → VRs E' (cellR r ι' n x) us
  | [], n, x, us, hn, h => by have := h.1; cases us with | nil => exact VRs.nil | cons _ _ => simp [cellR] at this
  | c :: cs, n, x, us, hn, h => by
    obtain ⟨us1, us2, rfl, h1, h2⟩ := VRs.split (cs := cellC c ι n x.1) (ds := cellR cs ι (n + nC c) x.2) h
    exact VRs.append (cellC_env hm hw c (fun j a b => hn j a (by simp only [nR]; omega)) h1) (cellR_env hm hw cs (fun j a b => hn j (by omega) (by simp only [nR]; omega)) h2)
theorem cellC_len (c : CT) (ι ι' : Nat → Nat) (n : Nat) (x : ElC c) : (cellC c ι n x).length = (cellC c ι' n x).length := by cases c <;> rfl
theorem cellR_len : ∀ (r : List CT) (ι ι' : Nat → Nat) (n : Nat) (x : ElRow r), (cellR r ι n x).length = (cellR r ι' n x).length
  | [], _, _, _, _ => rfl
  | c :: cs, ι, ι', n, x => by simp only [cellR, List.length_append, cellC_len c ι ι', cellR_len cs ι ι']
theorem OR.row_to (hm : ∀ b, b ∈ E'.m → b ∈ E.m) (hw : E'.w = E.w) {ι ι' : Nat → Nat} {r : List CT} {n i j : Nat} {x : ElRow r} (hA : E.A i) (hi : NumTo E E' i j) (hn : ∀ j, n ≤ j → j < n + nR r → NumTo E E' (ι j) (ι' j))
    (h : OR E i (.row (cellR r ι n x))) : OR E' j (.row (cellR r ι' n x)) := by
  obtain ⟨cells, t, h1, h2, h3, h4⟩ := h
  obtain ⟨b1, b2, b3, b4, b5⟩ := hi hA
  refine ⟨cells, t, by rw [hw, b2]; exact h1, by rw [b3]; exact h2, by rw [cellR_len r ι' ι]; exact h3, ?_⟩
  rw [cellR_len r ι' ι]
  exact cellR_env hm hw r hn h4
def datO : IObj → Bool
  | .arr _ _ => true
  | .tmap _ _ _ => true
  | _ => false
theorem OR.dat_to (hm : ∀ b, b ∈ E'.m → b ∈ E.m) (hw : E'.w = E.w) {i j : Nat} {o : IObj} (hA : E.A i) (hi : NumTo E E' i j) (ho : datO o = true) (h : OR E i o) : OR E' j o := by
  obtain ⟨b1, b2, b3, b4, b5⟩ := hi hA
  have hno : ∀ {v : IV} {u : Value}, VR E v u → _ := fun h => VR.noid (E := E) (E' := E') hm hw h
  cases o <;> try (cases ho; done)
  · obtain ⟨a, cap, h1, h2, h3, h4, h5⟩ := h
    exact ⟨a, cap, by rw [b4]; exact h1, h2, h3, h4, h5.imp (fun ⟨x, y⟩ => ⟨by rw [b5]; exact x, y⟩) fun ⟨c1, c2, cells, t, c3, c4, us, c5, c6⟩ => ⟨by rw [b5]; exact c1, by rw [b2]; exact c2, cells, t, by rw [hw, b2]; exact c3, c4, us, c5, fun i hi j hj => (hno (c6 i hi j hj)).2.2 _ _ (List.getElem_mem hj)⟩⟩
  · obtain ⟨ents, c, h1, h2, h3⟩ := h
    refine ⟨ents, c, by rw [hw, b2]; exact h1, ⟨h2.1, fun i a b => ?_⟩, ⟨h3.1, fun i a b => ?_⟩⟩
    · have := h2.2 i a b
      simp only [tmEs, List.getElem_map] at this ⊢
      exact as_env hm hw this
    · have := h3.2 i a b
      simp only [tmEs, List.getElem_map] at this ⊢
      exact as_env hm hw this
theorem OR.objK_to (hm : ∀ b, b ∈ E'.m → b ∈ E.m) (hw : E'.w = E.w) {ι ι' : Nat → Nat} : ∀ {r : RK} {n i j : Nat} {x : ElK r} (hA : E.A i) (hi : NumTo E E' i j) (hn : ∀ j, n ≤ j → j < n + nK r → NumTo E E' (ι j) (ι' j))
    (h : OR E i (objK r ι n x)), OR E' j (objK r ι' n x)
  | .box r, n, i, j, x, hA, hi, hn, h => OR.row_to hm hw hA hi hn h
  | .sl c, n, i, j, some l, hA, hi, hn, h => OR.dat_to hm hw hA hi (o := .arr c l) rfl h
  | .sl c, n, i, j, none, hA, hi, hn, h => trivial
theorem objK_live : ∀ {r : RK} {ι ι' : Nat → Nat} {n : Nat} {x : ElK r}, (objK r ι n x).live = (objK r ι' n x).live
  | .box r, ι, ι', n, x => rfl
  | .sl c, ι, ι', n, some l => rfl
  | .sl c, ι, ι', n, none => rfl
theorem objK_blk : ∀ {r : RK} {ι ι' : Nat → Nat} {n : Nat} {x : ElK r}, (objK r ι n x).blk = (objK r ι' n x).blk
  | .box r, ι, ι', n, x => rfl
  | .sl c, ι, ι', n, some l => rfl
  | .sl c, ι, ι', n, none => rfl
theorem argK_A {r : RK} {id : Nat} {u : Value} (h : VR E (argK r id) u) : E.A id := by
  cases r with
  | box r => cases h; assumption
  | sl c => cases h; assumption
theorem argK_to {r : RK} {i j : Nat} {u : Value} (hi : NumTo E E' i j) (h : VR E (argK r i) u) : VR E' (argK r j) u := by
  cases r with
  | box r =>
    cases h with
    | ptr hA =>
      obtain ⟨b1, b2, b3, b4, b5⟩ := hi hA
      show VR E' (.ptr j 0) _
      rw [← b2]; exact .ptr b1
  | sl c =>
    cases h with
    | arr hA hh =>
      obtain ⟨b1, b2, b3, b4, b5⟩ := hi hA
      exact .arr b1 (b4.trans hh)
theorem argsP_env (hm : ∀ b, b ∈ E'.m → b ∈ E.m) (hw : E'.w = E.w) {ρ ρ' : Nat → Nat} : ∀ (l : List PK) {k : Nat} {x : ElP l} {us : List Value}, (∀ j, k ≤ j → j < k + mP l → NumTo E E' (ρ j) (ρ' j)) →
    VRs E (argsP l ρ k x) us → VRs E' (argsP l ρ' k x) us
  | [], k, x, us, hn, h => by have := h.1; cases us with | nil => exact VRs.nil | cons _ _ => simp [argsP] at this
  | .dat c :: l, k, x, us, hn, h => by
    obtain ⟨u, us, rfl, a1, a2⟩ := VRs.inv (v := asIV c x.1) (cs := argsP l ρ k x.2) h
    exact VRs.cons (as_env hm hw a1) (argsP_env hm hw l hn a2)
  | .fn f :: l, k, x, us, hn, h => by
    obtain ⟨u, us, rfl, a1, a2⟩ := VRs.inv (v := .fn f []) (cs := argsP l ρ k x) h
    refine VRs.cons ?_ (argsP_env hm hw l hn a2)
    cases a1 with
    | fn hl hh =>
      rename_i us0
      have : us0 = [] := List.length_eq_zero_iff.1 hl.symm
      subst this
      exact .fn (cs := []) rfl (fun i h => by simp at h)
  | .ref r :: l, k, x, us, hn, h => by
    obtain ⟨u, us, rfl, a1, a2⟩ := VRs.inv (v := argK r (ρ k)) (cs := argsP l ρ (k + 1) x.2) h
    exact VRs.cons (argK_to (hn k (Nat.le_refl _) (by simp only [mP]; omega)) a1) (argsP_env hm hw l (fun j a b => hn j (by omega) (by simp only [mP]; omega)) a2)
theorem argsP_refs {ρ : Nat → Nat} : ∀ (l : List PK) {k : Nat} {x : ElP l} {us : List Value} (z : ElP (refs l)), VRs E (argsP l ρ k x) us → ∃ us', VRs E (argsP (refs l) ρ k z) us'
  | [], k, x, us, z, h => ⟨[], VRs.nil⟩
  | .dat c :: l, k, x, us, z, h => by
    obtain ⟨u, us, rfl, a1, a2⟩ := VRs.inv (v := asIV c x.1) (cs := argsP l ρ k x.2) h
    exact argsP_refs l z a2
  | .fn f :: l, k, x, us, z, h => by
    obtain ⟨u, us, rfl, a1, a2⟩ := VRs.inv (v := .fn f []) (cs := argsP l ρ k x) h
    exact argsP_refs l z a2
  | .ref r :: l, k, x, us, z, h => by
    obtain ⟨u, us, rfl, a1, a2⟩ := VRs.inv (v := argK r (ρ k)) (cs := argsP l ρ (k + 1) x.2) h
    obtain ⟨us', h'⟩ := argsP_refs l z.2 a2
    exact ⟨u :: us', VRs.cons a1 h'⟩
end

/-! ### Reading -/
def rdC : (c : CT) → IS → List IV → Option (ElC c × List Nat × List IV × IS × Nat)
  | .dat c, S, cs => match icl c S cs with
    | some (x, r, S1, w) => some (x, [], r, S1, w)
    | none => none
  | .arr c, S, cs => match cs with
    | v :: r => match coeV S c v with
      | some (.arr id, S1, w) => some ([], [id], r, S1, w)
      | _ => none
    | [] => none
  | .map k v, S, cs => match cs with
    | .map id :: r => match coeM1 S k v (.map id) with
      | some (S1, w) => some ([], [id], r, S1, w)
      | none => none
    | _ => none
def rdR : (r : List CT) → IS → List IV → Option (ElRow r × List Nat × List IV × IS × Nat)
  | [], S, cs => some ((), [], cs, S, 0)
  | c :: l, S, cs => match rdC c S cs with
    | none => none
    | some (x, i1, r1, S1, w1) => match rdR l S1 r1 with
      | none => none
      | some (y, i2, r2, S2, w2) => some ((x, y), i1 ++ i2, r2, S2, w1 ||| w2)
def rdS (c : TC) (S : IS) (v : IV) : Option (Nat × IS × Nat) :=
  match v with
  | .arr id => some (id, S, 2 ^ id)
  | _ => match coeV S c v with
    | some (.arr id, S1, w) => some (id, S1, w)
    | _ => none
def rdP : (l : List PK) → IS → List IV → Option (ElP l × List Nat × List Nat × IS × Nat)
  | [], S, vs => match vs with
    | [] => some ((), [], [], S, 0)
    | _ => none
  | .dat c :: l, S, vs => match vs with
    | v :: vs => cond (fitV c v) (match icl c S (cellsOf v) with
      | some (x, [], S1, w1) => match rdP l S1 vs with
        | some (y, q1, q2, S2, w2) => some ((x, y), q1, q2, S2, w1 ||| w2)
        | none => none
      | _ => none) none
    | [] => none
  | .fn f :: l, S, vs => match vs with
    | .fn g [] :: vs => cond (Nat.beq g f) (rdP l S vs) none
    | _ => none
  | .ref (.sl c) :: l, S, vs => match vs with
    | v :: vs => match rdS c S v with
      | some (id, S1, w1) => match rdP l S1 vs with
        | some (y, q1, q2, S2, w2) => some ((none, y), id :: q1, q2, S2, w1 ||| w2)
        | none => none
      | none => none
    | [] => none
  | .ref (.box r) :: l, S, vs => match vs with
    | .ptr id 0 :: vs => match S.heap.get id with
      | some (.row cs) => match rdR r S cs with
        | some (x, i1, [], S1, w1) => match rdP l S1 vs with
          | some (y, q1, q2, S2, w2) => some ((x, y), id :: q1, i1 ++ q2, S2, 2 ^ id ||| (w1 ||| w2))
          | none => none
        | _ => none
      | _ => none
    | _ => none
section
variable {T : TW} {E : Env} {S : IS}
def Nums (ι : Nat → Nat) (n : Nat) (q : List Nat) : Prop := ∀ (j id : Nat), q[j]? = some id → ι (n + j) = id
theorem Nums.fst {ι : Nat → Nat} {n : Nat} {a b : List Nat} (h : Nums ι n (a ++ b)) : Nums ι n a := fun j id hj => h j id (by rw [List.getElem?_append_left (List.getElem?_eq_some_iff.1 hj).1]; exact hj)
theorem Nums.snd {ι : Nat → Nat} {n : Nat} {a b : List Nat} (h : Nums ι n (a ++ b)) : Nums ι (n + a.length) b := fun j id hj => by
  have := h (a.length + j) id (by rw [List.getElem?_append_right (by omega), Nat.add_sub_cancel_left]; exact hj)
  rwa [← Nat.add_assoc] at this
theorem rdC_sound : ∀ (c : CT) {E : Env} {S : IS} {cs : List IV} {x : ElC c} {ids : List Nat} {r : List IV} {S' : IS} {w : Nat} {us : List Value}, rdC c S cs = some (x, ids, r, S', w) → Pre T E S → tin T.w w → VRs E cs us →
    ∃ E', E'.w = E.w ∧ Post T E S E' S' ∧ Fresh E S E' ∧ ids.length = nC c ∧ (∀ id ∈ ids, E'.A id) ∧ ∃ us1 us2, us = us1 ++ us2 ∧ (∀ ι n, Nums ι n ids → VRs E' (cellC c ι n x) us1) ∧ VRs E' r us2
  | .dat c, E, S, cs, x, ids, r, S', w, us, h, p, hw, hv => by
    simp only [rdC] at h
    split at h <;> cases h
    rename_i h1
    obtain ⟨E1, e1, q1, f1, us1, us2, e2, v1, v2⟩ := icl_sound c h1 p hw hv
    exact ⟨E1, e1, q1, f1, rfl, fun id h => (by cases h), us1, us2, e2, fun ι n _ => v1, v2⟩
  | .arr c, E, S, cs, x, ids, r, S', w, us, h, p, hw, hv => by
    simp only [rdC] at h
    cases cs with
    | nil => cases h
    | cons v cs =>
    simp only at h
    split at h <;> cases h
    rename_i id h1
    obtain ⟨u, us, rfl, a1, a2⟩ := hv.inv
    obtain ⟨E1, e1, q1, f1, v1⟩ := coeV_sound p h1 hw a1
    have hA : E1.A id := by cases v1; assumption
    refine ⟨E1, e1, q1, f1, rfl, fun id' h => by rw [List.mem_singleton.1 h]; exact hA, [u], us, rfl, fun ι n hn => ?_, a2.mono (q1.env p)⟩
    have := hn 0 id rfl
    simp only [cellC]
    rw [Nat.add_zero] at this
    rw [this]; exact VRs.cons v1 VRs.nil
  | .map kc vc, E, S, cs, x, ids, r, S', w, us, h, p, hw, hv => by
    cases cs with
    | nil => cases h
    | cons v cs =>
    cases v <;> try (cases h; done)
    rename_i id
    simp only [rdC] at h
    split at h <;> cases h
    rename_i h1
    obtain ⟨u, us, rfl, a1, a2⟩ := hv.inv
    obtain ⟨E1, e1, q1, f1⟩ := coeM1_sound p h1 hw a1
    have v1 := a1.mono (q1.env p)
    have hA : E1.A id := by cases v1; assumption
    refine ⟨E1, e1, q1, f1, rfl, fun id' h => by rw [List.mem_singleton.1 h]; exact hA, [u], us, rfl, fun ι n hn => ?_, a2.mono (q1.env p)⟩
    have := hn 0 id rfl
    simp only [cellC]
    rw [Nat.add_zero] at this
    rw [this]; exact VRs.cons v1 VRs.nil
theorem rdR_sound : ∀ (c : List CT) {E : Env} {S : IS} {cs : List IV} {x : ElRow c} {ids : List Nat} {r : List IV} {S' : IS} {w : Nat} {us : List Value}, rdR c S cs = some (x, ids, r, S', w) → Pre T E S → tin T.w w → VRs E cs us →
    ∃ E', E'.w = E.w ∧ Post T E S E' S' ∧ Fresh E S E' ∧ ids.length = nR c ∧ (∀ id ∈ ids, E'.A id) ∧ ∃ us1 us2, us = us1 ++ us2 ∧ (∀ ι n, Nums ι n ids → VRs E' (cellR c ι n x) us1) ∧ VRs E' r us2
  | [], E, S, cs, x, ids, r, S', w, us, h, p, hw, hv => by
    cases h
    exact ⟨E, rfl, Post.refl p, Fresh.refl E S, rfl, fun id h => (by cases h), [], us, rfl, fun _ _ _ => VRs.nil, hv⟩
  | c :: l, E, S, cs, x, ids, r, S', w, us, h, p, hw, hv => by
    simp only [rdR] at h
    split at h
    · cases h
    rename_i x1 i1 r1 S1 w1 h1
    split at h <;> cases h
    rename_i y i2 w2 h2
    obtain ⟨g1, g2⟩ := tin_or hw
    obtain ⟨E1, e1, q1, f1, l1, A1, us1, us2, rfl, v1, v2⟩ := rdC_sound c h1 p g1 hv
    obtain ⟨E2, e2, q2, f2, l2, A2, us3, us4, rfl, v3, v4⟩ := rdR_sound l h2 (q1.pre p) g2 v2
    have hle := q2.env (q1.pre p)
    refine ⟨E2, e2.trans e1, Post.trans p q1 f1 q2, f1.trans f2 q1.le, by simp [l1, l2, nR], fun id h => ?_, us1 ++ us3, us4, (List.append_assoc _ _ _).symm, fun ι n hn => ?_, v4⟩
    · rcases List.mem_append.1 h with h | h
      · exact (hle.alw _ (A1 id h)).1
      · exact A2 id h
    · refine VRs.append ((v1 ι n hn.fst).mono hle) (v3 ι _ ?_)
      rw [← l1]; exact hn.snd
def RowsAt (E : Env) (rows : List Nat) (os : List IObj) : Prop := ∀ (j : Nat) (o : IObj), os[j]? = some o → ∃ id, rows[j]? = some id ∧ E.A id ∧ (o.blk = true → E.hb id = true) ∧ OR E id o
theorem rdS_sound {c : TC} {v : IV} {id : Nat} {S' : IS} {w : Nat} {u : Value} (h : rdS c S v = some (id, S', w)) (p : Pre T E S) (hw : tin T.w w) (hv : VR E v u) :
    ∃ E', E'.w = E.w ∧ Post T E S E' S' ∧ Fresh E S E' ∧ E'.A id ∧ VR E' (.arr id) u := by
  unfold rdS at h
  split at h
  · cases h
    have hA : E.A id := by cases hv; assumption
    exact ⟨E, rfl, Post.refl p, Fresh.refl E S, hA, hv⟩
  · split at h <;> cases h
    rename_i h1
    obtain ⟨E1, e1, q1, f1, v1⟩ := coeV_sound p h1 hw hv
    have hA : E1.A id := by cases v1; assumption
    exact ⟨E1, e1, q1, f1, hA, v1⟩
theorem rdP_sound : ∀ (l : List PK) {E : Env} {S : IS} {vs : List IV} {x : ElP l} {rows subs : List Nat} {S' : IS} {w : Nat} {us : List Value}, rdP l S vs = some (x, rows, subs, S', w) → Pre T E S → tin T.w w → VRs E vs us →
    ∃ E', E'.w = E.w ∧ Post T E S E' S' ∧ Fresh E S E' ∧ rows.length = mP l ∧ subs.length = nP l ∧ (∀ id ∈ subs, E'.A id) ∧ (∀ ρ k, Nums ρ k rows → VRs E' (argsP l ρ k x) us) ∧ (∀ ι n, Nums ι n subs → RowsAt E' rows (rowsP l ι n x))
  | [], E, S, vs, x, rows, subs, S', w, us, h, p, hw, hv => by
    cases vs with
    | cons v vs => cases h
    | nil => cases h; exact ⟨E, rfl, Post.refl p, Fresh.refl E S, rfl, rfl, fun id h => (by cases h), fun _ _ _ => hv, fun _ _ _ j o h => (by simp [rowsP] at h)⟩
  | .dat c :: l, E, S, vs, x, rows, subs, S', w, us, h, p, hw, hv => by
    cases vs with
    | nil => cases h
    | cons v vs =>
    simp only [rdP] at h
    cases hb : fitV c v with
    | false => rw [hb] at h; cases h
    | true =>
    rw [hb, cond_true] at h
    split at h <;> try cases h
    rename_i x1 S1 w1 h1
    split at h <;> cases h
    rename_i y w2 h2
    obtain ⟨g1, g2⟩ := tin_or hw
    obtain ⟨u, us, rfl, a1, a2⟩ := hv.inv
    obtain ⟨E1, e1, q1, f1, us1, us2, e2, v1, v2⟩ := icl_sound c h1 p g1 (a1.cells (fit_known hb))
    have : us2 = [] := by have := v2.1; simpa using this.symm
    subst this
    rw [List.append_nil] at e2
    rw [← e2] at v1
    have b1 := fit_as hb a1 v1
    obtain ⟨E2, e3, q2, f2, l1, l2, A2, b2, b3⟩ := rdP_sound l h2 (q1.pre p) g2 (a2.mono (q1.env p))
    exact ⟨E2, e3.trans e1, Post.trans p q1 f1 q2, f1.trans f2 q1.le, l1, l2, A2, fun ρ k hk => VRs.cons (b1.mono (q2.env (q1.pre p))) (b2 ρ k hk), b3⟩
  | .fn f :: l, E, S, vs, x, rows, subs, S', w, us, h, p, hw, hv => by
    simp only [rdP] at h
    split at h <;> try cases h
    rename_i g vs
    cases hb : Nat.beq g f with
    | false => rw [hb] at h; cases h
    | true =>
    rw [hb] at h
    have h : rdP l S vs = some (x, rows, subs, S', w) := h
    obtain rfl := Nat.eq_of_beq_eq_true hb
    obtain ⟨u, us, rfl, a1, a2⟩ := hv.inv
    obtain ⟨E2, e3, q2, f2, l1, l2, A2, b2, b3⟩ := rdP_sound l h p hw a2
    exact ⟨E2, e3, q2, f2, l1, l2, A2, fun ρ k hk => VRs.cons (a1.mono (q2.env p)) (b2 ρ k hk), b3⟩
  | .ref (.sl c) :: l, E, S, vs, x, rows, subs, S', w, us, h, p, hw, hv => by
    cases vs with
    | nil => cases h
    | cons v vs =>
    simp only [rdP] at h
    split at h <;> try cases h
    rename_i id S1 w1 h1
    split at h <;> cases h
    rename_i y q1 w2 h2
    obtain ⟨g1, g2⟩ := tin_or hw
    obtain ⟨u, us, rfl, a1, a2⟩ := hv.inv
    obtain ⟨E1, e1, p1, f1, A1, v1⟩ := rdS_sound h1 p g1 a1
    have hle1 := p1.env p
    obtain ⟨E2, e3, p2, f2, l2, l3, A2, b2, b3⟩ := rdP_sound l h2 (p1.pre p) g2 (a2.mono hle1)
    have hle2 := p2.env (p1.pre p)
    have v2 := v1.mono hle2
    have hA2 : E2.A id := by cases v2; assumption
    refine ⟨E2, e3.trans e1, Post.trans p p1 f1 p2, f1.trans f2 p1.le, by simp [l2, mP], by simp [l3, nP, nK], A2, fun ρ k hk => ?_, fun ι n hn j o hj => ?_⟩
    · refine VRs.cons ?_ (b2 ρ (k + 1) fun j id' hj => ?_)
      · have := hk 0 id rfl
        rw [Nat.add_zero] at this
        rw [this]; exact v2
      · have := hk (j + 1) id' (by simpa using hj)
        rwa [show k + (j + 1) = k + 1 + j by omega] at this
    · cases j with
      | zero =>
        simp only [rowsP, List.getElem?_cons_zero, Option.some.injEq] at hj
        subst hj
        exact ⟨id, rfl, hA2, fun h => (by cases h), trivial⟩
      | succ j =>
        simp only [rowsP, List.getElem?_cons_succ] at hj
        obtain ⟨id', d1, d2, d3, d4⟩ := b3 ι _ hn j o hj
        exact ⟨id', (by rw [List.getElem?_cons_succ]; exact d1), d2, d3, d4⟩
  | .ref (.box r) :: l, E, S, vs, x, rows, subs, S', w, us, h, p, hw, hv => by
    cases vs with
    | nil => cases h
    | cons v vs =>
    cases v <;> try (cases h; done)
    rename_i id off
    cases off with
    | succ _ => cases h
    | zero =>
    simp only [rdP] at h
    split at h <;> try cases h
    rename_i cs ho
    split at h <;> try cases h
    rename_i x1 i1 S1 w1 h1
    split at h <;> cases h
    rename_i y q1 q2 w2 h2
    obtain ⟨g0, g3⟩ := tin_or hw
    obtain ⟨g1, g2⟩ := tin_or g3
    have hT := tin_bit g0
    obtain ⟨u, us, rfl, a1, a2⟩ := hv.inv
    have hA : E.A id := by cases a1; assumption
    obtain ⟨cells, t, k1, k2, k3, k4⟩ := p.st.objs id (T.sub _ hT) hA _ ho
    have hblk := p.st.blk id (T.sub _ hT) hA _ ho rfl
    obtain ⟨E1, e1, p1, f1, l1, A1, us1, us2, e2, v1, v2⟩ := rdR_sound r h1 p g1 k4
    have : us2 = [] := by have := v2.1; simpa using this.symm
    subst this
    rw [List.append_nil] at e2
    have hle1 := p1.env p
    obtain ⟨E2, e3, p2, f2, l2, l3, A2, b2, b3⟩ := rdP_sound l h2 (p1.pre p) g2 (a2.mono hle1)
    have hle2 := p2.env (p1.pre p)
    obtain ⟨c1, c2, c3, c4, c5⟩ := (hle1.trans hle2).alw id hA
    refine ⟨E2, e3.trans e1, Post.trans p p1 f1 p2, f1.trans f2 p1.le, by simp [l2, mP], by simp [l1, l3, nP, nK], fun id' h => ?_, fun ρ k hk => ?_, fun ι n hn j o hj => ?_⟩
    · rcases List.mem_append.1 h with h | h
      · exact (hle2.alw _ (A1 id' h)).1
      · exact A2 id' h
    · refine VRs.cons ?_ (b2 ρ (k + 1) fun j id' hj => ?_)
      · have := hk 0 id rfl
        rw [Nat.add_zero] at this
        rw [this]; exact a1.mono (hle1.trans hle2)
      · have := hk (j + 1) id' (by simpa using hj)
        rwa [show k + (j + 1) = k + 1 + j by omega] at this
    · cases j with
      | zero =>
        simp only [rowsP, List.getElem?_cons_zero, Option.some.injEq] at hj
        subst hj
        refine ⟨id, rfl, c1, fun _ => c5.trans hblk, ?_⟩
        have hv1 := (v1 ι n hn.fst).mono hle2
        have hl : (cellR r ι n x1).length = cs.length := by rw [hv1.1, ← e2, ← k4.1]
        refine ⟨cells, t, by rw [c2, e3, e1]; exact k1, by rw [c3]; exact k2, by rw [hl]; exact k3, ?_⟩
        rw [hl, e2]; exact hv1
      | succ j =>
        simp only [rowsP, List.getElem?_cons_succ] at hj
        have hn2 : Nums ι (n + nK (.box r)) q2 := by show Nums ι (n + nR r) q2; rw [← l1]; exact hn.snd
        obtain ⟨id', d1, d2, d3, d4⟩ := b3 ι _ hn2 j o hj
        exact ⟨id', (by rw [List.getElem?_cons_succ]; exact d1), d2, d3, d4⟩
end

/-! ### The slices and maps as they are at last -/
def recast2 (k v k' v' : TC) (l : List (El k × El v)) : Option (List (El k' × El v')) :=
  if h : TC.beq k k' = true ∧ TC.beq v v' = true then some (TC.beq_eq h.1 ▸ TC.beq_eq h.2 ▸ l) else none
theorem recast2_some {k v k' v' : TC} {l : List (El k × El v)} {l' : List (El k' × El v')} (h : recast2 k v k' v' l = some l') : IObj.tmap k v l = .tmap k' v' l' := by
  unfold recast2 at h
  split at h
  · rename_i e
    have e1 := TC.beq_eq e.1
    have e2 := TC.beq_eq e.2
    subst e1; subst e2
    cases h; rfl
  · cases h
theorem recast_obj {c d : TC} {l : List (El c)} {l' : List (El d)} (h : recast c d l = some l') : IObj.arr c l = .arr d l' := by
  obtain ⟨rfl, rfl⟩ := recast_some h; rfl
def fiC : (c : CT) → List Nat → IS → ElC c → Option (ElC c × List Nat)
  | .dat _, q, _, x => some (x, q)
  | .arr c, q, S, _ => match q with
    | id :: q => match S.heap.get id with
      | some (.arr c' l) => match recast c' c l with
        | some l' => some (l', q)
        | none => none
      | _ => none
    | [] => none
  | .map k v, q, S, _ => match q with
    | id :: q => match S.heap.get id with
      | some (.tmap k' v' es) => match recast2 k' v' k v es with
        | some l' => some (l', q)
        | none => none
      | _ => none
    | [] => none
def fiR : (r : List CT) → List Nat → IS → ElRow r → Option (ElRow r × List Nat)
  | [], q, _, _ => some ((), q)
  | c :: cs, q, S, x => match fiC c q S x.1 with
    | none => none
    | some (x1, q1) => match fiR cs q1 S x.2 with
      | none => none
      | some (x2, q2) => some ((x1, x2), q2)
def rowB (S : IS) (id : Nat) : Bool := match S.heap.get id with
  | some (.row _) => true
  | _ => false
theorem rowB_spec {S : IS} {id : Nat} (h : rowB S id = true) : ∃ cs, S.H id = some (.row cs) := by
  unfold rowB at h
  split at h
  · rename_i cs ho; exact ⟨cs, ho⟩
  · cases h
def fiS (c : TC) (id : Nat) (S : IS) : Option (Option (List (El c))) := match S.heap.get id with
  | some (.arr c' l) => match recast c' c l with
    | some l' => some (some l')
    | none => none
  | some .dead => some none
  | _ => none
def fiP : (l : List PK) → List Nat → List Nat → IS → ElP l → Option (ElP l)
  | [], _, _, _, _ => some ()
  | .dat _ :: l, r, q, S, x => match fiP l r q S x.2 with
    | some y => some (x.1, y)
    | none => none
  | .fn _ :: l, r, q, S, x => fiP l r q S x
  | .ref (.box k) :: l, r, q, S, x => match r with
    | id :: r => cond (rowB S id) (match fiR k q S x.1 with
      | none => none
      | some (x1, q1) => match fiP l r q1 S x.2 with
        | some y => some (x1, y)
        | none => none) none
    | [] => none
  | .ref (.sl c) :: l, r, q, S, x => match r with
    | id :: r => match fiS c id S with
      | none => none
      | some x1 => match fiP l r q S x.2 with
        | some y => some (x1, y)
        | none => none
    | [] => none
theorem fiC_spec {S : IS} : ∀ (c : CT) {q q' : List Nat} {x x' : ElC c}, fiC c q S x = some (x', q') → (∀ ι n, cellC c ι n x' = cellC c ι n x) ∧ ∃ q1, q = q1 ++ q' ∧ q1.length = nC c ∧ ∀ j : Nat, (subC c x')[j]? = (q1[j]?).bind fun id => S.heap.get id
  | .dat c, q, q', x, x', h => by cases h; exact ⟨fun _ _ => rfl, [], rfl, rfl, fun j => by simp [subC]⟩
  | .arr c, q, q', x, x', h => by
    cases q with
    | nil => cases h
    | cons id q =>
    simp only [fiC] at h
    split at h <;> try cases h
    rename_i c' l ho
    split at h <;> cases h
    rename_i hl
    refine ⟨fun _ _ => rfl, [id], rfl, rfl, fun j => ?_⟩
    cases j with
    | zero => simp only [subC, List.getElem?_cons_zero, Option.bind_some, ho, recast_obj hl]
    | succ j => simp [subC]
  | .map k v, q, q', x, x', h => by
    cases q with
    | nil => cases h
    | cons id q =>
    simp only [fiC] at h
    split at h <;> try cases h
    rename_i k' v' es ho
    split at h <;> cases h
    rename_i hl
    refine ⟨fun _ _ => rfl, [id], rfl, rfl, fun j => ?_⟩
    cases j with
    | zero => simp only [subC, List.getElem?_cons_zero, Option.bind_some, ho, recast2_some hl]
    | succ j => simp [subC]
theorem get_app {α β : Type} {f : α → Option β} {a1 a2 : List β} {q1 q2 : List α} (hl : a1.length = q1.length) (h1 : ∀ j : Nat, a1[j]? = (q1[j]?).bind f) (h2 : ∀ j : Nat, a2[j]? = (q2[j]?).bind f) (j : Nat) :
    (a1 ++ a2)[j]? = ((q1 ++ q2)[j]?).bind f := by
  by_cases h : j < a1.length
  · rw [List.getElem?_append_left h, List.getElem?_append_left (by omega), h1]
  · rw [List.getElem?_append_right (by omega), List.getElem?_append_right (by omega), h2, hl]
theorem fiR_spec {S : IS} : ∀ (c : List CT) {q q' : List Nat} {x x' : ElRow c}, fiR c q S x = some (x', q') → (∀ ι n, cellR c ι n x' = cellR c ι n x) ∧ ∃ q1, q = q1 ++ q' ∧ q1.length = nR c ∧ ∀ j : Nat, (subR c x')[j]? = (q1[j]?).bind fun id => S.heap.get id
  | [], q, q', x, x', h => by cases h; exact ⟨fun _ _ => rfl, [], rfl, rfl, fun j => by simp [subR]⟩
  | c :: cs, q, q', x, x', h => by
    simp only [fiR] at h
    split at h
    · cases h
    rename_i x1 q1 h1
    split at h <;> cases h
    rename_i x2 h2
    obtain ⟨a1, p1, rfl, a2, a3⟩ := fiC_spec c h1
    obtain ⟨b1, p2, rfl, b2, b3⟩ := fiR_spec cs h2
    refine ⟨fun ι n => by simp only [cellR, a1, b1], p1 ++ p2, (List.append_assoc _ _ _).symm, by simp [a2, b2, nR], fun j => ?_⟩
    exact get_app (by rw [subC_len, a2]) a3 b3 j
theorem fiS_spec {c : TC} {id : Nat} {S : IS} {x : Option (List (El c))} (h : fiS c id S = some x) (ι : Nat → Nat) (n : Nat) : S.heap.get id = some (objK (.sl c) ι n x) := by
  unfold fiS at h
  split at h <;> try cases h
  · rename_i c' l ho
    split at h <;> cases h
    rename_i l' hl
    rw [ho]; exact congrArg some (recast_obj hl)
  · rename_i ho; exact ho
theorem fiP_spec {S : IS} : ∀ (l : List PK) {r q : List Nat} {x x' : ElP l}, fiP l r q S x = some x' → q.length = nP l →
    (∀ (ι : Nat → Nat) (n j : Nat) (o : IObj), (rowsP l ι n x')[j]? = some o → ∃ id, r[j]? = some id ∧ (((rowsP l ι n x)[j]? = some o ∧ rowB S id = true) ∨ S.heap.get id = some o)) ∧ (∀ ρ k, argsP l ρ k x' = argsP l ρ k x) ∧ ∀ j : Nat, (subsP l x')[j]? = (q[j]?).bind fun id => S.heap.get id
  | [], r, q, x, x', h, hl => by
    cases h
    have : q = [] := by simpa [nP] using hl
    subst this
    exact ⟨fun _ _ j o hj => by simp [rowsP] at hj, fun _ _ => rfl, fun j => by simp [subsP]⟩
  | .dat _ :: l, r, q, x, x', h, hl => by
    simp only [fiP] at h
    split at h <;> cases h
    rename_i y h1
    obtain ⟨a1, a2, a3⟩ := fiP_spec l h1 hl
    exact ⟨fun ι n => a1 ι n, fun ρ k => by simp only [argsP, a2], a3⟩
  | .fn f :: l, r, q, x, x', h, hl => by
    obtain ⟨a1, a2, a3⟩ := fiP_spec l h hl
    exact ⟨fun ι n => a1 ι n, fun ρ k => congrArg (fun q => IV.fn f [] :: q) (a2 ρ k), a3⟩
  | .ref (.box k) :: l, r, q, x, x', h, hl => by
    cases r with
    | nil => cases h
    | cons id r =>
    simp only [fiP] at h
    cases hb : rowB S id with
    | false => rw [hb] at h; cases h
    | true =>
    rw [hb, cond_true] at h
    split at h
    · cases h
    rename_i x1 q1 h1
    split at h <;> cases h
    rename_i y h2
    obtain ⟨a1, p1, rfl, a2, a3⟩ := fiR_spec k h1
    obtain ⟨b1, b2, b3⟩ := fiP_spec l h2 (by simp only [List.length_append, nP, nK] at hl; omega)
    refine ⟨fun ι n j o hj => ?_, fun ρ k => by simp only [argsP, b2], fun j => ?_⟩
    · cases j with
      | zero =>
        simp only [rowsP, List.getElem?_cons_zero, Option.some.injEq] at hj
        refine ⟨id, rfl, .inl ⟨?_, hb⟩⟩
        rw [← hj]
        simp only [rowsP, List.getElem?_cons_zero, objK, a1]
      | succ j => exact b1 ι _ j o hj
    · exact get_app ((subR_len k x1).trans a2.symm) a3 b3 j
  | .ref (.sl c) :: l, r, q, x, x', h, hl => by
    cases r with
    | nil => cases h
    | cons id r =>
    simp only [fiP] at h
    split at h
    · cases h
    rename_i x1 h1
    split at h <;> cases h
    rename_i y h2
    obtain ⟨b1, b2, b3⟩ := fiP_spec l h2 (by simpa only [nP, nK, Nat.zero_add] using hl)
    refine ⟨fun ι n j o hj => ?_, fun ρ k => by simp only [argsP, b2], b3⟩
    cases j with
    | zero =>
      simp only [rowsP, List.getElem?_cons_zero, Option.some.injEq] at hj
      exact ⟨id, rfl, .inr (by rw [← hj]; exact fiS_spec h1 ι n)⟩
    | succ j => exact b1 ι _ j o hj
def RowsL (E : Env) (S : IS) (rows : List Nat) (os : List IObj) : Prop := ∀ (j : Nat) (o : IObj), os[j]? = some o → ∃ id, rows[j]? = some id ∧ E.A id ∧ (o.blk = true → E.hb id = true) ∧ OR E id o ∧ (o.live = true → ∃ o0, S.H id = some o0 ∧ o0.live = true)
theorem fill_rows {T : TW} {E : Env} {S : IS} {l : List PK} {rows q : List Nat} {x x' : ElP l} (h : fiP l rows q S x = some x') (hl : q.length = nP l) (p : Pre T E S) (hT : ∀ id ∈ rows, T.r id) {ι : Nat → Nat} {n : Nat}
    (hr : RowsAt E rows (rowsP l ι n x)) : RowsL E S rows (rowsP l ι n x') := fun j o hj => by
  obtain ⟨id, d1, d2⟩ := (fiP_spec l h hl).1 ι n j o hj
  rcases d2 with ⟨d2, d3⟩ | d2
  · obtain ⟨id', g1, g2, g3, g4⟩ := hr j o d2
    rw [d1] at g1; cases g1
    obtain ⟨cs, hcs⟩ := rowB_spec d3
    exact ⟨id, d1, g2, g3, g4, fun _ => ⟨_, hcs, rfl⟩⟩
  · have hj2 : j < (rowsP l ι n x).length := by
      have := (List.getElem?_eq_some_iff.1 hj).1
      rw [rowsP_len] at this ⊢; exact this
    obtain ⟨id', g1, g2, g3, g4⟩ := hr j _ (List.getElem?_eq_getElem hj2)
    rw [d1] at g1; cases g1
    have hTr := hT id (List.mem_of_getElem? d1)
    exact ⟨id, d1, g2, fun hb => p.st.blk id hTr g2 o d2 hb, p.st.objs id hTr g2 o d2, fun hl => ⟨o, d2, hl⟩⟩
end Go.Jx
end

/- Contracts of functions that turn what their pointers lead to, and calls by them. -/
section
set_option linter.unusedVariables false
namespace Go.Jx
open Go Go.Sx Go.RowKit
universe u

structure SmR where
  ps : List PK
  rts : List (Bool × TC)
  f : ElP ps → Option (ElR rts × ElP (refs ps))
def RetB (B : Nat) (T : TW) (E : Env) (S : IS) (r : Res) : Ending → World → Prop := fun e w' => ∃ u E', e = .returned u ∧ E'.w = w' ∧ VR E' r.v u ∧ PostB B T E S E' r.S
def newO (s : SmR) (y : ElR s.rts) (z : ElP (refs s.ps)) : List IObj := subsP (refs s.ps) z ++ resO s.rts y
def ScB (s : SmR) (y : ElR s.rts) (z : ElP (refs s.ps)) : IS := addO (rowsP (refs s.ps) idN (mP s.ps) z ++ newO s y z) S0
def vB (s : SmR) (base : Nat) (y : ElR s.rts) : IV := tupI (resV s.rts (base + nP (refs s.ps)) y)
structure ConR (P : Program) (f : Nat) (s : SmR) : Prop where
  callable : Callable P f
  calls : ∀ (E : Env) (x : ElP s.ps) (us : List Value) (y : ElR s.rts) (z : ElP (refs s.ps)), s.f x = some (y, z) → Pre T0 E (Sc s.ps x) → VRs E (argsP s.ps idN 0 x) us →
    CallsIn Fence.wide 0 P f us.toArray E.w (RetB (mP s.ps) T0 E (Sc s.ps x) ⟨vB s (mP s.ps) y, ScB s y z, 0, 0⟩)
theorem refs_m : ∀ l : List PK, mP (refs l) = mP l
  | [] => rfl
  | .dat _ :: l => refs_m l
  | .fn _ :: l => refs_m l
  | .ref _ :: l => by simp only [refs, mP, refs_m l]
/-! ### The caller's state -/
def bitsL : List Nat → Nat
  | [] => 0
  | id :: l => 2 ^ id ||| bitsL l
theorem bitsL_mem {T : Nat → Prop} : ∀ {l : List Nat}, tin T (bitsL l) → ∀ id ∈ l, T id
  | [], _, id, h => by cases h
  | i :: l, ht, id, h => by
    obtain ⟨h1, h2⟩ := tin_or ht
    rcases List.mem_cons.1 h with h | h
    · rw [h]; exact tin_bit h1
    · exact bitsL_mem h2 id h
theorem bitsL_bit : ∀ {l : List Nat} {id : Nat}, id ∈ l → (bitsL l).testBit id = true
  | [], id, h => by cases h
  | i :: l, id, h => by
    simp only [bitsL, Nat.testBit_or, Bool.or_eq_true]
    rcases List.mem_cons.1 h with h | h
    · rw [h]; exact .inl (Nat.testBit_two_pow_self)
    · exact .inr (bitsL_bit h)
def killL : List Nat → IS → IS
  | [], S => S
  | id :: l, S => killL l (S.set id .dead)
def setL : List Nat → List IObj → IS → IS
  | id :: l, o :: os, S => setL l os (S.set id o)
  | _, _, S => S
theorem killL_next : ∀ (l : List Nat) (S : IS), (killL l S).next = S.next
  | [], S => rfl
  | id :: l, S => killL_next l _
theorem setL_next : ∀ (l : List Nat) (os : List IObj) (S : IS), (setL l os S).next = S.next
  | [], os, S => rfl
  | _ :: _, [], S => rfl
  | id :: l, o :: os, S => setL_next l os _
theorem killL_out : ∀ {l : List Nat} {S : IS} {k : Nat}, k ∉ l → (killL l S).H k = S.H k
  | [], S, k, h => rfl
  | id :: l, S, k, h => by
    simp only [List.mem_cons, not_or] at h
    unfold killL
    rw [killL_out h.2, IS.H_set, up_ne _ _ h.1]
theorem killL_in : ∀ {l : List Nat} {S : IS} {k : Nat}, k ∈ l → (killL l S).H k = some .dead
  | [], S, k, h => by cases h
  | id :: l, S, k, h => by
    unfold killL
    by_cases hk : k ∈ l
    · exact killL_in hk
    · rw [killL_out hk, IS.H_set]
      rcases List.mem_cons.1 h with h | h
      · rw [h, up_self]
      · exact absurd h hk
theorem setL_out : ∀ {l : List Nat} {os : List IObj} {S : IS} {k : Nat}, k ∉ l → (setL l os S).H k = S.H k
  | [], os, S, k, h => rfl
  | _ :: _, [], S, k, h => rfl
  | id :: l, o :: os, S, k, h => by
    simp only [List.mem_cons, not_or] at h
    unfold setL
    rw [setL_out h.2, IS.H_set, up_ne _ _ h.1]
theorem setL_in : ∀ {l : List Nat} {os : List IObj} {S : IS} {j k : Nat}, l.Nodup → os.length = l.length → l[j]? = some k → (setL l os S).H k = os[j]?
  | [], os, S, j, k, hn, hl, h => by simp at h
  | _ :: _, [], S, j, k, hn, hl, h => by simp at hl
  | id :: l, o :: os, S, j, k, hn, hl, h => by
    obtain ⟨h1, h2⟩ := List.nodup_cons.1 hn
    unfold setL
    cases j with
    | zero =>
      simp only [List.getElem?_cons_zero, Option.some.injEq] at h
      subst h
      rw [setL_out h1, IS.H_set, up_self]; rfl
    | succ j =>
      rw [List.getElem?_cons_succ] at h ⊢
      exact setL_in h2 (by simpa using hl) h
def backS (s : SmR) (n : Nat) (rows subs : List Nat) (y : ElR s.rts) (z : ElP (refs s.ps)) (S : IS) : IS :=
  addO (newO s y z) (setL rows (rowsP (refs s.ps) (fun k => n + (k - mP s.ps)) (mP s.ps) z) (killL subs S))
def exR (s : SmR) (vs : List IV) (S : IS) : Option Res :=
  match rdP s.ps S vs with
  | none => none
  | some (x0, rows, subs, S1, w) => cond (ndB (rows ++ subs)) (match fiP s.ps rows subs S1 x0 with
    | none => none
    | some x => match s.f x with
      | none => none
      | some (y, z) => some ⟨vB s S1.next y, backS s S1.next rows subs y z S1, 0, (w ||| bitsL (rows ++ subs)) ||| cond (Nat.blt 0 rows.length) 0 (2 ^ S1.next)⟩) none
theorem subsP_dat : ∀ (l : List PK) (x : ElP l) (o : IObj), o ∈ subsP l x → datO o = true := by
  have hr : ∀ (r : List CT) (x : ElRow r) (o : IObj), o ∈ subR r x → datO o = true := by
    intro r
    induction r with
    | nil => intro x o h; cases h
    | cons c cs ih =>
      intro x o h
      rcases List.mem_append.1 h with h | h
      · cases c with
        | dat c => cases h
        | arr c => rw [List.mem_singleton.1 h]; rfl
        | map k v => rw [List.mem_singleton.1 h]; rfl
      · exact ih x.2 o h
  intro l
  induction l with
  | nil => intro x o h; cases h
  | cons p l ih =>
    intro x o h
    cases p with
    | dat c => exact ih x.2 o h
    | fn f => exact ih x o h
    | ref r =>
      rcases List.mem_append.1 h with h | h
      · cases r with
        | box r => exact hr r x.1 o h
        | sl c => cases h
      · exact ih x.2 o h
theorem newO_dat {s : SmR} {y : ElR s.rts} {z : ElP (refs s.ps)} {o : IObj} (h : o ∈ newO s y z) : datO o = true := by
  rcases List.mem_append.1 h with h | h
  · exact subsP_dat _ _ o h
  · obtain ⟨c, l, rfl⟩ := resO_live _ _ _ h; rfl
theorem resV_env {E E' : Env} (hm : ∀ b, b ∈ E'.m → b ∈ E.m) (hw : E'.w = E.w) : ∀ (cs : List (Bool × TC)) {k k' : Nat} {y : ElR cs} {us : List Value}, (∀ j, NumTo E E' (k + j) (k' + j)) → VRs E (resV cs k y) us → VRs E' (resV cs k' y) us
  | [], k, k', y, us, hn, h => by have := h.1; cases us with | nil => exact VRs.nil | cons _ _ => simp [resV] at this
  | (true, c) :: cs, k, k', y, us, hn, h => by
    obtain ⟨u, us, rfl, a1, a2⟩ := VRs.inv (v := .arr k) (cs := resV cs (k + 1) y.2) h
    refine VRs.cons ?_ (resV_env hm hw cs (fun j => ?_) a2)
    · cases a1 with
      | arr hA hh =>
        obtain ⟨b1, b2, b3, b4, b5⟩ := hn 0 hA
        exact .arr b1 (b4.trans hh)
    · have := hn (j + 1)
      rwa [show k + (j + 1) = k + 1 + j by omega, show k' + (j + 1) = k' + 1 + j by omega] at this
  | (false, c) :: cs, k, k', y, us, hn, h => by
    obtain ⟨u, us, rfl, a1, a2⟩ := VRs.inv (v := asIV c y.1) (cs := resV cs k y.2) h
    exact VRs.cons (as_env hm hw a1) (resV_env hm hw cs hn a2)
theorem resV_len : ∀ (cs : List (Bool × TC)) (i : Nat) (y : ElR cs), (resV cs i y).length = cs.length
  | [], _, _ => rfl
  | (true, _) :: cs, i, y => by simp only [resV, List.length_cons, resV_len cs]
  | (false, _) :: cs, i, y => by simp only [resV, List.length_cons, resV_len cs]
theorem tup_to {E E' : Env} {vs ws : List IV} {u : Value} (h : ∀ us, VRs E vs us → VRs E' ws us) (hl : vs.length = ws.length) (hu : VR E (tupI vs) u) : VR E' (tupI ws) u := by
  match vs, ws, hl with
  | [], [], _ =>
    cases hu with
    | tup hl hh => have := h _ ⟨hl, hh⟩; exact .tup this.1 this.2
  | [v], [w], _ =>
    have := h [u] (VRs.cons hu VRs.nil)
    exact this.2 0 (by simp) (by simp)
  | v1 :: v2 :: vs, w1 :: w2 :: ws, _ =>
    cases hu with
    | tup hl hh => have := h _ ⟨hl, hh⟩; exact .tup this.1 this.2
section
variable {P : Program} {T : TW} {E : Env} {S : IS}
theorem exR_sound {f : Nat} {s : SmR} (hc : ConR P f s) {vs : List IV} {r : Res} (h : exR s vs S = some r) {us : List Value} (p : Pre T E S) (hwr : tin T.w r.wr) (hv : VRs E vs us) :
    Callable P f ∧ CallsIn Fence.wide 0 P f us.toArray E.w (RetE T E S r) := by
  refine ⟨hc.callable, ?_⟩
  unfold exR at h
  split at h
  · cases h
  rename_i x0 rows subs S1 w hrd
  cases hb1 : ndB (rows ++ subs) with
  | false => rw [hb1] at h; cases h
  | true =>
  rw [hb1, cond_true] at h
  split at h
  · cases h
  rename_i x hfi
  split at h
  · cases h
  rename_i y z hf
  cases h
  obtain ⟨g1, g2⟩ := tin_or (tin_or hwr).1
  obtain ⟨E1, e1, q1, f1, l1, l2, A2, b2, b3⟩ := rdP_sound s.ps hrd p g1 hv
  have p1 := q1.pre p
  obtain ⟨_, c2, c3⟩ := fiP_spec s.ps hfi l2
  have hnd := ndB_nodup hb1
  have hT := bitsL_mem g2
  generalize hq : rows ++ subs = q at hnd hT
  have hql : q.length = mP s.ps + nP s.ps := by rw [← hq, List.length_append, l1, l2]
  have hnq : Nums (ol 0 q) 0 q := fun j id hj => by
    rw [Nat.zero_add]
    unfold ol; rw [if_neg (by omega), Nat.sub_zero, List.getD_eq_getElem?_getD, hj]; rfl
  have hnr : Nums (ol 0 q) 0 rows := by rw [← hq] at hnq ⊢; exact hnq.fst
  have hns : Nums (ol 0 q) (mP s.ps) subs := by
    have := hnq
    rw [← hq] at this
    have := this.snd
    rwa [Nat.zero_add, l1, hq] at this
  have hTr : ∀ id ∈ rows, T.r id := fun id hid => T.sub _ (hT id (by rw [← hq]; exact List.mem_append_left _ hid))
  have hrows := fill_rows hfi l2 p1 hTr (b3 _ _ hns)
  have hrk : ∀ k, k < mP s.ps → rows[k]? = some (ol 0 q k) := fun k hk => by
    have h1 : k < rows.length := by omega
    rw [List.getElem?_eq_getElem h1, ← hnr k _ (List.getElem?_eq_getElem h1), Nat.zero_add]
  have hsk : ∀ k, mP s.ps ≤ k → k < q.length → subs[k - mP s.ps]? = some (ol 0 q k) := fun k h1 h2 => by
    have h3 : k - mP s.ps < subs.length := by omega
    rw [List.getElem?_eq_getElem h3, ← hns _ _ (List.getElem?_eq_getElem h3), Nat.add_sub_cancel' h1]
  have hrowA : ∀ k, k < mP s.ps → ∃ r nj xj, (∀ ι, (rowsP s.ps ι (mP s.ps) x)[k]? = some (objK r ι nj xj)) ∧ mP s.ps ≤ nj ∧ nj + nK r ≤ q.length ∧ E1.A (ol 0 q k) ∧ ((objK r (ol 0 q) nj xj).blk = true → E1.hb (ol 0 q k) = true) ∧ OR E1 (ol 0 q k) (objK r (ol 0 q) nj xj) ∧ ((objK r (ol 0 q) nj xj).live = true → ∃ o0, S1.H (ol 0 q k) = some o0 ∧ o0.live = true) := fun k hk => by
    have h1 : k < (rowsP s.ps (ol 0 q) (mP s.ps) x).length := by rw [rowsP_len]; exact hk
    obtain ⟨r, nj, xj, d1, d2, d3, d4⟩ := rowsP_get s.ps (ol 0 q) (mP s.ps) x k _ (List.getElem?_eq_getElem h1)
    obtain ⟨id, i1, i2, i3, i4, i5⟩ := hrows k _ (d4 (ol 0 q))
    rw [hrk k hk] at i1
    cases i1
    exact ⟨r, nj, xj, d4, d2, by omega, i2, i3, i4, i5⟩
  have hA : ∀ id ∈ q, E1.A id := fun id hid => by
    rw [← hq] at hid
    rcases List.mem_append.1 hid with hid | hid
    · obtain ⟨k, hk, rfl⟩ := List.mem_iff_getElem.1 hid
      obtain ⟨_, _, _, _, _, _, i2, _, _⟩ := hrowA k (by omega)
      have := hrk k (by omega)
      rw [List.getElem?_eq_getElem hk, Option.some.injEq] at this
      rw [this]; exact i2
    · exact A2 id hid
  have hnum : ∀ k, k < q.length → NumTo E1 (renE 0 q E1) (ol 0 q k) k := fun k hk hA => ⟨⟨by omega, hA⟩, rfl, rfl, rfl, rfl⟩
  have hobj : ∀ k o, k < q.length → E1.A (ol 0 q k) → (Sc s.ps x).H k = some o → ObjTo E1 S1 (renE 0 q E1) (ol 0 q k) k o := fun k o hk hAk ho => by
    unfold Sc at ho
    rw [addO_H0] at ho
    by_cases hkm : k < mP s.ps
    · rw [List.getElem?_append_left (by rw [rowsP_len]; exact hkm)] at ho
      obtain ⟨r, nj, xj, d1, d2, d3, d4, d5, d6, d7⟩ := hrowA k hkm
      rw [d1 idN] at ho
      cases ho
      exact ⟨OR.objK_to (E := E1) (E' := renE 0 q E1) (fun _ h => h) rfl hAk (hnum k hk) (fun j a b => hnum j (by omega)) d6, fun hl => d7 (objK_live.trans hl), fun hb => d5 (objK_blk.trans hb)⟩
    · rw [List.getElem?_append_right (by rw [rowsP_len]; omega), rowsP_len] at ho
      have hd := subsP_dat _ _ _ (List.mem_of_getElem? ho)
      rw [c3, hsk k (by omega) hk] at ho
      have hid := (ol_mem hk).1
      exact ⟨OR.dat_to (E := E1) (E' := renE 0 q E1) (fun _ h => h) rfl hAk (hnum k hk) hd (p1.st.objs _ (T.sub _ (hT _ hid)) hAk _ ho), fun hl => ⟨_, ho, hl⟩, fun hbk => p1.st.blk _ (T.sub _ (hT _ hid)) hAk _ ho hbk⟩
  have hpre : Pre T0 (renE 0 q E1) (Sc s.ps x) := Pre.re p1 hnd (fun id h => T.sub _ (hT id h)) (by rw [Sc_next, hql]) hobj
  have hargs : VRs (renE 0 q E1) (argsP s.ps idN 0 x) us := argsP_env (E := E1) (E' := renE 0 q E1) (ρ := ol 0 q) (fun _ h => h) rfl s.ps (fun j a b => hnum j (by omega)) (by rw [c2]; exact b2 _ _ hnr)
  have hcall := hc.calls _ x us y z hf hpre hargs
  rw [show (renE 0 q E1).w = E.w from e1] at hcall
  refine hcall.mono fun e w' hR => ?_
  obtain ⟨u, Er, rfl, rfl, k1, k2⟩ := hR
  have hlt : ∀ id, id ∈ q → id < S1.next := fun id h => p1.bnd id (hA id h)
  have hsb : ∀ k, k < q.length → Live (renE 0 q E1) (Sc s.ps x).H k → Live E1 S1.H (ol 0 q k) := fun k hk ⟨h0, o, h1, h2⟩ => ⟨h0, (hobj k o hk (hA _ (ol_mem hk).1) h1).live h2⟩
  have hbn : (setL rows (rowsP (refs s.ps) (fun k => S1.next + (k - mP s.ps)) (mP s.ps) z) (killL subs S1)).next = S1.next := by rw [setL_next, killL_next]
  have hndr : rows.Nodup := by rw [← hq] at hnd; exact (List.nodup_append.1 hnd).1
  have hrs : ∀ id, id ∈ rows → id ∉ subs := fun id h1 h2 => by
    rw [← hq] at hnd; exact (List.nodup_append.1 hnd).2.2 id h1 id h2 rfl
  have hScB : ∀ k, (ScB s y z).H k = (rowsP (refs s.ps) idN (mP s.ps) z ++ newO s y z)[k]? := fun k => addO_H0 _ k
  have hEA : ∀ k, k < mP s.ps → Er.A k ∧ Er.ρ k = E1.ρ (ol 0 q k) ∧ Er.κ k = E1.κ (ol 0 q k) ∧ Er.hd k = E1.hd (ol 0 q k) ∧ Er.hb k = E1.hb (ol 0 q k) := fun k hk => by
    obtain ⟨a1, a2, a3, a4, a5⟩ := k2.alw k hk ⟨by omega, hA _ (ol_mem (by omega)).1⟩
    exact ⟨a1, a2, a3, a4, a5⟩
  obtain ⟨m1, m2⟩ := merge_back (n := S1.next) (m := mP s.ps) (S' := backS s S1.next rows subs y z S1) p1 hnd hT hA (by omega) rfl hsb k2 (by
      unfold backS ScB
      rw [addO_next, addO_next, hbn, List.length_append, rowsP_len, refs_m]
      have : S0.next = 0 := rfl
      omega) (fun id hid hnq => by
      unfold backS
      rw [addO_H, hbn, if_pos hid, setL_out (fun h => hnq (by rw [← hq]; exact List.mem_append_left _ h)), killL_out (fun h => hnq (by rw [← hq]; exact List.mem_append_right _ h))]) (fun k o hk ho => by
      unfold backS at ho
      have hin := (ol_mem (q := q) (k := k) (by omega)).1
      rw [addO_H, hbn, if_pos (hlt _ hin), setL_in hndr (by rw [rowsP_len, refs_m, l1]) (hrk k hk)] at ho
      obtain ⟨r, nj, xj, rfl, d2, d3, d4⟩ := rowsP_get _ _ _ _ _ _ ho
      have hsr : (ScB s y z).H k = some (objK r idN nj xj) := by
        rw [hScB, List.getElem?_append_left (by rw [rowsP_len, refs_m]; exact hk)]; exact d4 idN
      obtain ⟨a1, a2, a3, a4, a5⟩ := hEA k hk
      obtain ⟨o1, o2, o3, o4⟩ := mrgR_old (E := E1) (Er := Er) (n := S1.next) (m := mP s.ps) (hlt _ hin)
      obtain ⟨_, _, _, _, _, _, i2, _⟩ := hrowA k hk
      exact ⟨OR.objK_to (E := Er) (E' := mrgR E1 Er S1.next (mP s.ps)) (fun _ h => h) rfl a1 (fun _ => ⟨.inl ⟨hlt _ hin, i2⟩, o1.trans a2.symm, o2.trans a3.symm, o3.trans a4.symm, o4.trans a5.symm⟩) (fun j a b hAj => by
        obtain ⟨r1, r2, r3, r4, r5⟩ := mrgR_new (E := E1) (Er := Er) (n := S1.next) (m := mP s.ps) (k := j) (by omega)
        exact ⟨r5 hAj, r1, r2, r3, r4⟩) (k2.st.objs k trivial a1 _ hsr), fun hl => ⟨_, hsr, objK_live.trans hl⟩, fun hb => (o4.trans a5.symm).trans (k2.st.blk k trivial a1 _ hsr (objK_blk.trans hb))⟩) (fun k o h1 h2 ho => by
      unfold backS at ho
      have hin := (ol_mem (q := q) (k := k) h2).1
      have hin2 := List.mem_of_getElem? (hsk k h1 h2)
      rw [addO_H, hbn, if_pos (hlt _ hin), setL_out (fun h => hrs _ h hin2), killL_in hin2] at ho
      cases ho; rfl) (fun k o h1 hAk ho => by
      unfold backS at ho
      have hkb := k2.bnd k hAk
      unfold ScB at hkb
      rw [addO_next, List.length_append, rowsP_len, refs_m] at hkb
      have e0 : S0.next = 0 := rfl
      rw [addO_H, hbn, if_neg (by omega), if_pos (by omega), Nat.add_sub_cancel_left] at ho
      have hd := newO_dat (List.mem_of_getElem? ho)
      have hsr : (ScB s y z).H k = some o := by
        rw [hScB, List.getElem?_append_right (by rw [rowsP_len, refs_m]; exact h1), rowsP_len, refs_m]; exact ho
      obtain ⟨r1, r2, r3, r4, r5⟩ := mrgR_new (E := E1) (Er := Er) (n := S1.next) (m := mP s.ps) (k := k) h1
      exact ⟨OR.dat_to (E := Er) (E' := mrgR E1 Er S1.next (mP s.ps)) (fun _ h => h) rfl hAk (fun hA => ⟨r5 hA, r1, r2, r3, r4⟩) hd (k2.st.objs k trivial hAk _ hsr), fun hl => ⟨_, hsr, hl⟩, fun hbk => r4.trans (k2.st.blk k trivial hAk _ hsr hbk)⟩)
  refine ⟨u, mrgR E1 Er S1.next (mP s.ps), rfl, rfl, ?_, Post.trans p q1 f1 m1, f1.trans m2 q1.le⟩
  refine tup_to (E := Er) (E' := mrgR E1 Er S1.next (mP s.ps)) (fun us h => resV_env (E := Er) (E' := mrgR E1 Er S1.next (mP s.ps)) (fun _ h => h) rfl s.rts (fun j hAj => ?_) h) (by rw [resV_len, resV_len]) k1
  obtain ⟨r1, r2, r3, r4, r5⟩ := mrgR_new (E := E1) (Er := Er) (n := S1.next) (m := mP s.ps) (k := mP s.ps + nP (refs s.ps) + j) (by omega)
  have e : S1.next + (mP s.ps + nP (refs s.ps) + j - mP s.ps) = S1.next + nP (refs s.ps) + j := by omega
  rw [e] at r1 r2 r3 r4 r5
  exact ⟨r5 hAj, r1, r2, r3, r4⟩
end
end Go.Jx
end

/- Contracts with boxes: as calls known otherwise, and out of runs. -/
section
set_option linter.unusedVariables false
namespace Go.Jx
open Go Go.Sx Go.RowKit
universe u

/-! ### As a call known otherwise -/
def exRK {R : Type} (s : SmR) (vs : List IV) (S : IS) (kk : Res → Option R) : Option R :=
  match rdP s.ps S vs with
  | none => none
  | some (x0, rows, subs, S1, w) => cond (ndB (rows ++ subs)) (match fiP s.ps rows subs S1 x0 with
    | none => none
    | some x => match s.f x with
      | none => none
      | some (y, z) => kk ⟨vB s S1.next y, backS s S1.next rows subs y z S1, 0, (w ||| bitsL (rows ++ subs)) ||| cond (Nat.blt 0 rows.length) 0 (2 ^ S1.next)⟩) none
theorem exRK_eq {R : Type} (s : SmR) (vs : List IV) (S : IS) (kk : Res → Option R) : exRK s vs S kk = ob (exR s vs S) kk := by
  simp only [exRK, exR]
  cases rdP s.ps S vs with
  | none => rfl
  | some q =>
    obtain ⟨x0, rows, subs, S1, w⟩ := q
    simp only [ob_cond]
    cases fiP s.ps rows subs S1 x0 with
    | none => rfl
    | some x =>
      simp only
      cases s.f x with
      | none => rfl
      | some q => rfl
def hxR (s : SmR) : Hx := ⟨fun _ vs S => exR s vs S, fun _ _ vs S kk => exRK s vs S kk, fun _ _ _ _ vs S kk => exRK_eq s vs S kk⟩
theorem rdC_fr {S S' : IS} : ∀ (c : CT) {cs : List IV} {x : ElC c} {ids : List Nat} {r : List IV} {w : Nat}, rdC c S cs = some (x, ids, r, S', w) → FrX S S' w
  | .dat c, cs, x, ids, r, w, h => by
    simp only [rdC] at h
    split at h <;> cases h
    rename_i h1
    obtain ⟨a1, a2⟩ := icl_fr c _ _ _ _ _ _ h1
    exact ⟨Nat.le_of_eq a1.symm, fun id _ hb => a2 id hb⟩
  | .arr c, cs, x, ids, r, w, h => by
    cases cs with
    | nil => cases h
    | cons v cs =>
    simp only [rdC] at h
    split at h <;> cases h
    rename_i h1
    exact coeV_fr h1
  | .map k v, cs, x, ids, r, w, h => by
    cases cs with
    | nil => cases h
    | cons u cs =>
    cases u <;> try (cases h; done)
    simp only [rdC] at h
    split at h <;> cases h
    rename_i h1
    exact coeM1_fr h1
theorem rdR_fr : ∀ (c : List CT) {S S' : IS} {cs : List IV} {x : ElRow c} {ids : List Nat} {r : List IV} {w : Nat}, rdR c S cs = some (x, ids, r, S', w) → FrX S S' w
  | [], S, S', cs, x, ids, r, w, h => by cases h; exact FrX.refl _ _
  | c :: l, S, S', cs, x, ids, r, w, h => by
    simp only [rdR] at h
    split at h
    · cases h
    rename_i h1
    split at h <;> cases h
    rename_i h2
    exact (rdC_fr c h1).trans (rdR_fr l h2)
theorem rdS_fr {S S' : IS} {c : TC} {v : IV} {id w : Nat} (h : rdS c S v = some (id, S', w)) : FrX S S' w := by
  unfold rdS at h
  split at h
  · cases h; exact FrX.refl _ _
  · split at h <;> cases h
    rename_i h1
    exact coeV_fr h1
theorem rdP_fr : ∀ (l : List PK) {S S' : IS} {vs : List IV} {x : ElP l} {q1 q2 : List Nat} {w : Nat}, rdP l S vs = some (x, q1, q2, S', w) → FrX S S' w
  | [], S, S', vs, x, q1, q2, w, h => by
    cases vs with
    | cons v vs => cases h
    | nil => cases h; exact FrX.refl _ _
  | .dat c :: l, S, S', vs, x, q1, q2, w, h => by
    cases vs with
    | nil => cases h
    | cons v vs =>
    simp only [rdP] at h
    cases hb : fitV c v with
    | false => rw [hb] at h; cases h
    | true =>
    rw [hb, cond_true] at h
    split at h <;> try cases h
    rename_i h1
    split at h <;> cases h
    rename_i h2
    obtain ⟨a1, a2⟩ := icl_fr c _ _ _ _ _ _ h1
    exact FrX.trans ⟨Nat.le_of_eq a1.symm, fun id _ hb => a2 id hb⟩ (rdP_fr l h2)
  | .fn f :: l, S, S', vs, x, q1, q2, w, h => by
    simp only [rdP] at h
    split at h <;> try cases h
    rename_i g vs
    cases hb : Nat.beq g f with
    | false => rw [hb] at h; cases h
    | true =>
    rw [hb] at h
    have h : rdP l S vs = some (x, q1, q2, S', w) := h
    exact rdP_fr l h
  | .ref (.sl c) :: l, S, S', vs, x, q1, q2, w, h => by
    cases vs with
    | nil => cases h
    | cons v vs =>
    simp only [rdP] at h
    split at h <;> try cases h
    rename_i h1
    split at h <;> cases h
    rename_i h2
    exact (rdS_fr h1).trans (rdP_fr l h2)
  | .ref (.box r) :: l, S, S', vs, x, q1, q2, w, h => by
    cases vs with
    | nil => cases h
    | cons v vs =>
    cases v <;> try (cases h; done)
    rename_i id off
    cases off with
    | succ _ => cases h
    | zero =>
    simp only [rdP] at h
    split at h <;> try cases h
    split at h <;> try cases h
    rename_i h1
    split at h <;> cases h
    rename_i h2
    have := (FrX.refl S (2 ^ id)).trans ((rdR_fr r h1).trans (rdP_fr l h2))
    exact this
theorem killL_fr : ∀ (l : List Nat) (S : IS), FrX S (killL l S) (bitsL l)
  | [], S => FrX.refl _ _
  | id :: l, S => (FrX.set S id .dead).trans (killL_fr l _)
theorem setL_fr : ∀ (l : List Nat) (os : List IObj) (S : IS), FrX S (setL l os S) (bitsL l)
  | [], os, S => FrX.refl _ _
  | _ :: _, [], S => FrX.refl _ _
  | id :: l, o :: os, S => (FrX.set S id o).trans (setL_fr l os _)
theorem bitsL_app : ∀ (a b : List Nat), bitsL (a ++ b) = bitsL a ||| bitsL b
  | [], b => by simp [bitsL]
  | x :: a, b => by simp only [List.cons_append, bitsL, bitsL_app a, Nat.or_assoc]
theorem exR_fr {s : SmR} {vs : List IV} {S : IS} : FrO S (exR s vs S) := fun r h => by
  unfold exR at h
  split at h
  · cases h
  rename_i x0 rows subs S1 w hrd
  cases hb : ndB (rows ++ subs) with
  | false => rw [hb] at h; cases h
  | true =>
  rw [hb, cond_true] at h
  split at h
  · cases h
  split at h
  · cases h
  rename_i y z hf
  cases h
  have h1 := rdP_fr _ hrd
  have h2 := (killL_fr subs S1).trans ((setL_fr rows (rowsP (refs s.ps) (fun k => S1.next + (k - mP s.ps)) (mP s.ps) z) _).trans (addO_fr (newO s y z) _ 0))
  have h3 := h1.trans h2
  rw [Nat.or_zero, Nat.or_comm (bitsL subs), ← bitsL_app] at h3
  have h4 := h3.trans (FrX.refl _ (cond (Nat.blt 0 rows.length) 0 (2 ^ S1.next)))
  exact h4
theorem exR_calm {s : SmR} {vs : List IV} {S : IS} {r : Res} (h : exR s vs S = some r) (hw : r.wr = 0) : False := by
  unfold exR at h
  split at h
  · cases h
  rename_i x0 rows subs S1 w hrd
  cases hb : ndB (rows ++ subs) with
  | false => rw [hb] at h; cases h
  | true =>
  rw [hb, cond_true] at h
  split at h
  · cases h
  split at h
  · cases h
  cases h
  have h2 : bitsL (rows ++ subs) = 0 := (or_zero (or_zero hw).1).2
  cases rows with
  | nil =>
    have h3 : 2 ^ S1.next = 0 := (or_zero hw).2
    have := Nat.one_le_two_pow (n := S1.next)
    omega
  | cons id rows =>
    have := bitsL_bit (l := id :: rows ++ subs) (id := id) (by simp)
    rw [h2] at this; simp at this
theorem hxR_ok {P : Program} {f : Nat} {s : SmR} (hc : ConR P f s) : HxOK P f (hxR s).f :=
  ⟨fun cl _ _ _ vs S r h T E us p _ hw hv => exR_sound hc h p hw hv, fun cl _ vs S => exR_fr, fun cl _ vs S r h hw _ => (exR_calm h hw).elim⟩

/-! ### What a run leaves -/
def ptrP : List PK → Nat → List IV
  | [], _ => []
  | .dat _ :: l, k => ptrP l k
  | .fn _ :: l, k => ptrP l k
  | .ref r :: l, k => argK r k :: ptrP l (k + 1)
theorem argsP_ptr : ∀ (l : List PK) (k : Nat) (z : ElP (refs l)), argsP (refs l) idN k z = ptrP l k
  | [], _, _ => rfl
  | .dat _ :: l, k, z => argsP_ptr l k z
  | .fn _ :: l, k, z => argsP_ptr l k z
  | .ref r :: l, k, z => by
    show argK r (idN k) :: argsP (refs l) idN (k + 1) z.2 = _
    rw [argsP_ptr l]; rfl
theorem ptrP_env {E E' : Env} : ∀ (l : List PK) {k : Nat} {us : List Value}, (∀ j, j < mP l → NumTo E E' (k + j) (k + j)) → VRs E (ptrP l k) us → VRs E' (ptrP l k) us
  | [], k, us, hn, h => by have := h.1; cases us with | nil => exact VRs.nil | cons _ _ => simp [ptrP] at this
  | .dat _ :: l, k, us, hn, h => ptrP_env l hn h
  | .fn _ :: l, k, us, hn, h => ptrP_env l hn h
  | .ref r :: l, k, us, hn, h => by
    obtain ⟨u, us, rfl, a1, a2⟩ := VRs.inv (v := argK r k) (cs := ptrP l (k + 1)) h
    refine VRs.cons (argK_to (hn 0 (by simp only [mP]; omega)) a1) (ptrP_env l (fun j hj => ?_) a2)
    have := hn (j + 1) (by simp only [mP]; omega)
    rwa [show k + (j + 1) = k + 1 + j by omega] at this
theorem rdP_ptr : ∀ (l : List PK) {k : Nat} {S S' : IS} {x : ElP (refs l)} {q1 q2 : List Nat} {w : Nat}, rdP (refs l) S (ptrP l k) = some (x, q1, q2, S', w) → ∀ j, j < mP l → q1[j]? = some (k + j)
  | [], k, S, S', x, q1, q2, w, h, j, hj => by simp [mP] at hj
  | .dat _ :: l, k, S, S', x, q1, q2, w, h, j, hj => rdP_ptr l h j hj
  | .fn _ :: l, k, S, S', x, q1, q2, w, h, j, hj => rdP_ptr l h j hj
  | .ref (.sl c) :: l, k, S, S', x, q1, q2, w, h, j, hj => by
    simp only [refs, ptrP, argK, rdP, rdS] at h
    split at h <;> cases h
    rename_i h2
    cases j with
    | zero => rfl
    | succ j =>
      have := rdP_ptr l h2 j (by simp only [mP] at hj; omega)
      rw [List.getElem?_cons_succ, this]; congr 1; omega
  | .ref (.box r) :: l, k, S, S', x, q1, q2, w, h, j, hj => by
    simp only [refs, ptrP, argK, rdP] at h
    split at h <;> try cases h
    split at h <;> try cases h
    split at h <;> cases h
    rename_i h2
    cases j with
    | zero => rfl
    | succ j =>
      have := rdP_ptr l h2 j (by simp only [mP] at hj; omega)
      rw [List.getElem?_cons_succ, this]; congr 1; omega
def lowN : Nat → Nat → List Nat
  | 0, _ => []
  | m + 1, k => k :: lowN m (k + 1)
theorem lowN_len : ∀ (m k : Nat), (lowN m k).length = m
  | 0, _ => rfl
  | m + 1, k => congrArg (· + 1) (lowN_len m (k + 1))
theorem lowN_get : ∀ (m k j : Nat), j < m → (lowN m k)[j]? = some (k + j)
  | 0, k, j, h => absurd h (Nat.not_lt_zero j)
  | m + 1, k, 0, h => rfl
  | m + 1, k, j + 1, h => by
    have := lowN_get m (k + 1) j (by omega)
    unfold lowN; rw [List.getElem?_cons_succ, this]; congr 1; omega
def runQ (s : SmR) (r : Res) : Option (ElR s.rts × ElP (refs s.ps)) :=
  match untup s.rts.length r.v with
  | none => none
  | some vs => match clR s.rts r.S vs with
    | none => none
    | some (a, S2, _) => match rdP (refs s.ps) S2 (ptrP s.ps 0) with
      | none => none
      | some (b, _, subs, S3, _) => cond (ndB (subs ++ idsQ s.rts a) && (subs ++ idsQ s.rts a).all (Nat.ble (mP s.ps))) (match fillR s.rts a S3 with
        | none => none
        | some y => match fiP (refs s.ps) (lowN (mP s.ps) 0) subs S3 b with
          | none => none
          | some z => some (y, z)) none
theorem valQ_env {E E' : Env} (hm : ∀ b, b ∈ E'.m → b ∈ E.m) (hw : E'.w = E.w) : ∀ (cs : List (Bool × TC)) {a : ElQ cs} {S : IS} {y : ElR cs} {k : Nat} {us : List Value}, fillR cs a S = some y → (∀ (j id : Nat), (idsQ cs a)[j]? = some id → NumTo E E' id (k + j)) → VRs E (valQ cs a) us → VRs E' (resV cs k y) us
  | [], a, S, y, k, us, h, hn, hv => by have := hv.1; cases us with | nil => exact VRs.nil | cons _ _ => simp [valQ] at this
  | (true, c) :: cs, a, S, y, k, us, h, hn, hv => by
    obtain ⟨u, us, rfl, a1, a2⟩ := VRs.inv (v := .arr a.1) (cs := valQ cs a.2) hv
    simp only [fillR] at h
    split at h <;> try cases h
    split at h <;> try cases h
    split at h <;> cases h
    rename_i y' hy
    refine VRs.cons ?_ (valQ_env hm hw cs hy (fun j id hj => ?_) a2)
    · cases a1 with
      | arr hA hh =>
        obtain ⟨b1, b2, b3, b4, b5⟩ := hn 0 a.1 rfl hA
        exact .arr b1 (b4.trans hh)
    · have := hn (j + 1) id (by simp only [idsQ, List.getElem?_cons_succ]; exact hj)
      rwa [show k + (j + 1) = k + 1 + j by omega] at this
  | (false, c) :: cs, a, S, y, k, us, h, hn, hv => by
    obtain ⟨u, us, rfl, a1, a2⟩ := VRs.inv (v := asIV c a.1) (cs := valQ cs a.2) hv
    simp only [fillR] at h
    split at h <;> cases h
    rename_i y' hy
    exact VRs.cons (as_env hm hw a1) (valQ_env hm hw cs hy hn a2)
theorem untup_spec {n : Nat} {v : IV} {vs : List IV} {E : Env} {u : Value} (h : untup n v = some vs) (hv : VR E v u) : ∃ us : List Value, VRs E vs us ∧ ∀ (E' : Env) (ws : List IV), ws.length = n → VRs E' ws us → VR E' (tupI ws) u := by
  unfold untup at h
  cases hone : Nat.beq n 1 with
  | true =>
    rw [hone, cond_true] at h; cases h
    have hlen := Nat.eq_of_beq_eq_true hone
    exact ⟨[u], VRs.cons hv VRs.nil, fun E' ws hl hw => by
      rw [hlen] at hl
      match ws, hl with
      | [a], _ => exact hw.2 0 (by simp) (by simp)⟩
  | false =>
    rw [hone, cond_false] at h
    split at h <;> try cases h
    rename_i ws0
    cases hb : Nat.beq ws0.length n with
    | false => rw [hb] at h; cases h
    | true =>
    rw [hb, cond_true] at h; cases h
    cases hv with
    | tup hl hh =>
    refine ⟨_, ⟨hl, hh⟩, fun E' ws hl' hw => ?_⟩
    match ws, hl' with
    | [], _ => exact .tup hw.1 hw.2
    | [a], hl' => rw [← hl'] at hone; cases hone
    | a :: b :: ws, _ => exact .tup hw.1 hw.2
theorem runQ_sound {s : SmR} {r : Res} {x : ElP s.ps} {y : ElR s.rts} {z : ElP (refs s.ps)} {E E1 : Env} {us : List Value} {u : Value} (h : runQ s r = some (y, z)) (p0 : Pre T0 E (Sc s.ps x)) (hargs : VRs E (argsP s.ps idN 0 x) us)
    (hpb : PostB (mP s.ps) T0 E (Sc s.ps x) E1 r.S) (hv : VR E1 r.v u) : ∃ E', E'.w = E1.w ∧ VR E' (vB s (mP s.ps) y) u ∧ PostB (mP s.ps) T0 E (Sc s.ps x) E' (ScB s y z) := by
  have hT : ∀ id, mP s.ps ≤ id → T0.w id := fun _ _ => trivial
  have p1 := hpb.pre hT
  unfold runQ at h
  split at h
  · cases h
  rename_i vs hvs
  split at h
  · cases h
  rename_i a S2 w2 ha
  split at h
  · cases h
  rename_i b rows subs S3 w3 hb
  cases hc : (ndB (subs ++ idsQ s.rts a) && (subs ++ idsQ s.rts a).all (Nat.ble (mP s.ps))) with
  | false => rw [hc] at h; cases h
  | true =>
  rw [hc, cond_true] at h
  simp only [Bool.and_eq_true] at hc
  obtain ⟨hc1, hc2⟩ := hc
  split at h
  · cases h
  rename_i y' hy
  split at h <;> cases h
  rename_i hz
  obtain ⟨us1, hus, hfin⟩ := untup_spec hvs hv
  obtain ⟨E2, e2, q2, f2, hv2⟩ := clR_sound s.rts ha p1 (fun _ _ => trivial) hus
  have p2 := q2.pre p1
  -- the pointers
  have hA0 : ∀ k, k < mP s.ps → E.A k := by
    have key : ∀ (l : List PK) (k : Nat) (x : ElP l) (us : List Value), VRs E (argsP l idN k x) us → ∀ j, j < mP l → E.A (k + j) := by
      intro l
      induction l with
      | nil => intro k x us _ j hj; simp [mP] at hj
      | cons pk l ih =>
        intro k x us hv j hj
        cases pk with
        | dat c =>
          obtain ⟨u, us, rfl, a1, a2⟩ := VRs.inv (v := asIV c x.1) (cs := argsP l idN k x.2) hv
          exact ih k x.2 us a2 j hj
        | fn f =>
          obtain ⟨u, us, rfl, a1, a2⟩ := VRs.inv (v := .fn f []) (cs := argsP l idN k x) hv
          exact ih k x us a2 j hj
        | ref r =>
          obtain ⟨u, us, rfl, a1, a2⟩ := VRs.inv (v := argK r (idN k)) (cs := argsP l idN (k + 1) x.2) hv
          cases j with
          | zero => exact argK_A a1
          | succ j =>
            have := ih (k + 1) x.2 us a2 j (by simp only [mP] at hj; omega)
            rwa [show k + (j + 1) = k + 1 + j by omega]
    intro k hk
    have := key s.ps 0 x us hargs k hk
    rwa [Nat.zero_add] at this
  have hptr : ∃ us', VRs E2 (ptrP s.ps 0) us' := by
    obtain ⟨us', h'⟩ := argsP_refs s.ps b hargs
    rw [argsP_ptr] at h'
    refine ⟨us', ptrP_env s.ps (fun j hj hA => ?_) h'⟩
    rw [Nat.zero_add] at hA ⊢
    obtain ⟨a1, a2, a3, a4, a5⟩ := hpb.alw j hj hA
    obtain ⟨b1, b2, b3, b4, b5⟩ := (q2.env p1).alw _ a1
    exact ⟨b1, b2.trans a2, b3.trans a3, b4.trans a4, b5.trans a5⟩
  obtain ⟨us', hptr⟩ := hptr
  obtain ⟨E3, e3, q3, f3, l1, l2, A3, b2, b3⟩ := rdP_sound (refs s.ps) hb p2 (fun _ _ => trivial) hptr
  have p3 := q3.pre p2
  obtain ⟨_, c2, c3⟩ := fiP_spec (refs s.ps) hz l2
  obtain ⟨g1, g2⟩ := fillR_spec s.rts hy
  have hnd := ndB_nodup hc1
  have hqB : ∀ id ∈ subs ++ idsQ s.rts a, mP s.ps ≤ id := fun id hi => Nat.le_of_ble_eq_true ((List.all_eq_true.1 hc2) id hi)
  have hnew : ∀ j : Nat, (newO s y z)[j]? = ((subs ++ idsQ s.rts a)[j]?).bind fun id => S3.heap.get id := get_app (by rw [subsP_len, l2]) c3 g2
  have hlen : (newO s y z).length = (subs ++ idsQ s.rts a).length := by
    unfold newO; rw [List.length_append, List.length_append, subsP_len, l2, g1]
  generalize hq : subs ++ idsQ s.rts a = q at hnd hqB hnew hlen
  have hlow : ∀ k, k < mP s.ps → ol (mP s.ps) q k = k := fun k hk => if_pos hk
  have hhigh : ∀ k, mP s.ps ≤ k → k < mP s.ps + q.length → q[k - mP s.ps]? = some (ol (mP s.ps) q k) := fun k h1 h2 => by
    have h3 : k - mP s.ps < q.length := by omega
    unfold ol; rw [if_neg (by omega), List.getD_eq_getElem?_getD, List.getElem?_eq_getElem h3]; rfl
  have hnum : ∀ k, k < mP s.ps + q.length → NumTo E3 (renE (mP s.ps) q E3) (ol (mP s.ps) q k) k := fun k hk hA => ⟨⟨hk, hA⟩, rfl, rfl, rfl, rfl⟩
  have hns : Nums (ol (mP s.ps) q) (mP s.ps) subs := fun j id hj => by
    have h1 : j < subs.length := (List.getElem?_eq_some_iff.1 hj).1
    have h2 := hhigh (mP s.ps + j) (by omega) (by rw [← hq, List.length_append]; omega)
    rw [Nat.add_sub_cancel_left, ← hq, List.getElem?_append_left h1, hj, hq] at h2
    exact (Option.some.inj h2).symm
  have hlr : rows = lowN (mP s.ps) 0 := List.ext_getElem? fun j => by
    by_cases hj : j < mP s.ps
    · rw [rdP_ptr s.ps hb j hj, lowN_get _ _ _ hj]
    · rw [List.getElem?_eq_none (by rw [l1, refs_m]; omega), List.getElem?_eq_none (by rw [lowN_len]; omega)]
  rw [← hlr] at hz
  have hrows := fill_rows hz l2 p3 (fun _ _ => trivial) (b3 _ _ hns)
  have hScB : ∀ k, (ScB s y z).H k = (rowsP (refs s.ps) idN (mP s.ps) z ++ newO s y z)[k]? := fun k => addO_H0 _ k
  have hsl : nP (refs s.ps) ≤ q.length := by rw [← hq, List.length_append, l2]; omega
  have hre := PostB.re (T := T0) (B := mP s.ps) (q := q) (S' := ScB s y z) p3 hT hnd hqB (by
      unfold ScB
      rw [addO_next, List.length_append, rowsP_len, refs_m, hlen]
      have : S0.next = 0 := rfl
      omega) (fun k o hk hAk ho => by
      rw [hScB] at ho
      by_cases hkm : k < mP s.ps
      · rw [List.getElem?_append_left (by rw [rowsP_len, refs_m]; exact hkm)] at ho
        obtain ⟨r', nj, xj, rfl, d2, d3, d4⟩ := rowsP_get _ _ _ _ _ _ ho
        obtain ⟨id, i1, i2, i3, i4, i5⟩ := hrows k _ (d4 _)
        have := rdP_ptr s.ps hb k hkm
        rw [Nat.zero_add, i1] at this
        cases this
        have e := hlow k hkm
        rw [e]
        refine ⟨OR.objK_to (E := E3) (E' := renE (mP s.ps) q E3) (fun _ h => h) rfl i2 (by have := hnum k hk; rwa [e] at this) (fun j a b => hnum j (by omega)) i4, fun hl => i5 (objK_live.trans hl), fun hb => ?_⟩
        show E3.hb (ol (mP s.ps) q k) = true
        rw [e]; exact i3 (objK_blk.trans hb)
      · rw [List.getElem?_append_right (by rw [rowsP_len, refs_m]; omega), rowsP_len, refs_m] at ho
        have hd := newO_dat (List.mem_of_getElem? ho)
        rw [hnew, hhigh k (by omega) hk] at ho
        exact ⟨OR.dat_to (E := E3) (E' := renE (mP s.ps) q E3) (fun _ h => h) rfl hAk (hnum k hk) hd (p3.st.objs _ trivial hAk _ ho), fun hl => ⟨_, ho, hl⟩, fun hbk => p3.st.blk _ trivial hAk _ ho hbk⟩)
  have hpost := Post.trans p1 q2 f2 q3
  have hfr := f2.trans f3 q2.le
  refine ⟨renE (mP s.ps) q E3, e3.trans e2, ?_, (hpb.trans (PostB.of hpb.le hT hpost hfr)).trans hre⟩
  refine hfin _ _ (resV_len _ _ _) (valQ_env (E := E3) (E' := renE (mP s.ps) q E3) (fun _ h => h) rfl s.rts hy (fun j id hj => ?_) (hv2.mono (q3.env p2)))
  have h1 : j < (idsQ s.rts a).length := (List.getElem?_eq_some_iff.1 hj).1
  have h2 : mP s.ps + nP (refs s.ps) + j < mP s.ps + q.length := by rw [← hq, List.length_append, l2]; omega
  have h3 := hhigh _ (by omega) h2
  rw [show mP s.ps + nP (refs s.ps) + j - mP s.ps = subs.length + j by omega, ← hq, List.getElem?_append_right (by omega), Nat.add_sub_cancel_left, hj, hq] at h3
  have h4 := Option.some.inj h3
  have := hnum _ h2
  rwa [← h4] at this
end Go.Jx
end
