/- Texts: Jv, Jy, Jvs, Jhx, Jra, Qsp, Qg1, Qp1, Qg2, Jcl, Qcl, Qp2, Qp3, Qnm, Rsp, Rg1, Rp1, Rp2. -/
import Derived.Test.YtcnhjofpmpipfaaGreatCha3
import Derived.Test.YtcnhjofpmpipfaaGreatCha1
import Derived.Laws.RangeAny
/- Functions that take functions: what they compute, in both forms. -/
section
set_option linter.unusedVariables false
namespace Go.Jx
open Go Go.Sx Go.RowKit
universe u

/-- The first of a list that is so, by a way of asking that may fail. -/
def idxO {α : Type} (p : α → Option Bool) : List α → Nat → Option Int
  | [], _ => some (-1)
  | x :: l, i => match p x with
    | none => none
    | some b => cond b (some (Int.ofNat i)) (idxO p l (i + 1))
theorem idxO_some {α : Type} {p : α → Option Bool} {q : α → Bool} : ∀ {l : List α} {i : Nat}, (∀ x ∈ l, p x = some (q x)) → idxO p l i = some (match l.findIdx? q with | some j => Int.ofNat (i + j) | none => -1)
  | [], i, h => rfl
  | x :: l, i, h => by
    unfold idxO
    rw [h x List.mem_cons_self, List.findIdx?_cons]
    cases hq : q x with
    | true => rfl
    | false =>
      simp only [cond_false]
      rw [idxO_some fun y hy => h y (List.mem_cons_of_mem _ hy)]
      cases l.findIdx? q with
      | none => rfl
      | some j => exact congrArg (fun n => some (Int.ofNat n)) (show i + 1 + j = i + (j + 1) by omega)
def below (N : Nat) : Nat := 2 ^ N - 1
/-- The answer of a call that writes nothing. -/
def ansB (m : Nat) (r : Res) : Option Bool := match r.v with
  | .bool b => cond (Nat.beq r.wr 0 && subm r.rd m) (some b) none
  | _ => none
def idxF (c : TC) (cl : Cl) (vs : List IV) (S : IS) : Option Res := match vs with
  | [.lst c' l, .fn g caps] => match recast c' c l with
    | none => none
    | some l => match idxO (fun x => ob (cl (.fn g) (asIV c x :: caps) S) (ansB (below S.next))) l 0 with
      | none => none
      | some i => some ⟨.int .i64 i, S, below S.next, 0⟩
  | _ => none
def idxK (c : TC) (clP : ClP) (R : Type) (vs : List IV) (S : IS) (kk : Res → Option R) : Option R := match vs with
  | [.lst c' l, .fn g caps] => match recast c' c l with
    | none => none
    | some l => match idxO (fun x => clP Bool (.fn g) (asIV c x :: caps) S (ansB (below S.next))) l 0 with
      | none => none
      | some i => kk ⟨.int .i64 i, S, below S.next, 0⟩
  | _ => none
theorem idx_eq (c : TC) (cl : Cl) (clP : ClP) (h : ∀ R, ClEq cl (clP R)) (R : Type) (vs : List IV) (S : IS) (kk : Res → Option R) : idxK c clP R vs S kk = ob (idxF c cl vs S) kk := by
  unfold idxK idxF
  split
  · rename_i c' l g caps
    cases recast c' c l with
    | none => rfl
    | some l =>
      simp only [h Bool _ _ _ _]
      cases idxO (fun x => ob (cl (.fn g) (asIV c x :: caps) S) (ansB (below S.next))) l 0 <;> rfl
  · rfl
def idxHx (c : TC) : Hx := ⟨idxF c, idxK c, idx_eq c⟩
theorem idxF_inv {c : TC} {cl : Cl} {vs : List IV} {S : IS} {r : Res} (h : idxF c cl vs S = some r) : ∃ c' l0 g caps l i, vs = [.lst c' l0, .fn g caps] ∧ recast c' c l0 = some l ∧ idxO (fun x => ob (cl (.fn g) (asIV c x :: caps) S) (ansB (below S.next))) l 0 = some i ∧ r = ⟨.int .i64 i, S, below S.next, 0⟩ := by
  unfold idxF at h
  split at h
  · rename_i c' l g caps
    cases hr : recast c' c l with
    | none => rw [hr] at h; cases h
    | some l2 =>
      rw [hr] at h
      simp only at h
      split at h <;> cases h
      rename_i i hi
      exact ⟨_, _, _, _, _, _, rfl, hr, hi, rfl⟩
  · cases h

/-! ### The body of such a function -/
def tup (ss : List Nat) (r : CRes) : IEx × List IV × IS × List Nat × Nat × Nat := (r.e, ss.map (slot r.fr), r.S, r.ds, r.rd, r.wr)
theorem mb_zero (B : Nat) : mb B 0 = 0 := by unfold mb; cases Nat.beq B 0 <;> rfl
theorem lor_zero (a : Nat) : Nat.lor a 0 = a := Nat.or_zero a
theorem zero_lor (a : Nat) : Nat.lor 0 a = a := Nat.zero_or a
/-- A run, told by a continuation that only looks at some slots. -/
theorem run_tup {P : Program} {tt : Nat → Option TI} {nm : Nat → Option Nm} {B nt lf : Nat} {cl : Cl} {c : Code} {fr : PT IV} {S : IS} {ds : List Nat} {ss : List Nat} {y : IEx × List IV × IS × List Nat × Nat × Nat}
    (h : icodeK P tt nm B nt (fun t vs S kk => ob (cl t vs S) kk) lf none c fr S ds (fun r => some (tup ss r)) = some y) : ∃ r, icode P tt nm B nt cl lf none c fr S ds = some r ∧ tup ss r = y := by
  rw [icodeK_eq (cl := cl) (fun _ _ _ _ => rfl)] at h
  cases hr : icode P tt nm B nt cl lf none c fr S ds with
  | none => rw [hr] at h; cases h
  | some r => rw [hr] at h; cases h; exact ⟨r, rfl, rfl⟩
theorem keepO_eq {fr fr' : PT IV} : ∀ {l : List Nat} {r : PT IV}, (∀ t ∈ l, slot fr t = slot fr' t) → keepO fr l r = keepO fr' l r
  | [], r, h => rfl
  | t :: l, r, h => by
    unfold keepO
    rw [h t List.mem_cons_self]
    exact keepO_eq fun k hk => h k (List.mem_cons_of_mem _ hk)
/-- Code that begins with a region does not look further back than the norm there. -/
theorem headedO {P : Program} {tt : Nat → Option TI} {nm : Nat → Option Nm} {B nt lf : Nat} {cl : Cl} {m : Nm} {h : Nat} (hm : nm h = some m) (hf : m.fo = true) {fr fr' : PT IV} (hs : ∀ t ∈ m.keep, slot fr t = slot fr' t) :
    ∀ {c : Code} {S : IS} {ds : List Nat}, okC nm (fun k => Nat.beq k h) (fun k => Nat.beq k h) c (some h) = true → icode P tt nm B nt cl lf none c fr S ds = icode P tt nm B nt cl lf none c fr' S ds
  | .region id ops draw, S, ds, hc => by
    simp only [okC, Bool.and_eq_true] at hc
    obtain rfl := Nat.eq_of_beq_eq_true hc.1
    simp only [icode, hm, inorm, hf, cond_true, keepO_eq hs]
  | .seq a b, S, ds, hc => by
    simp only [okC, Bool.and_eq_true] at hc
    simp only [icode]
    rw [headedO hm hf hs (c := a) hc.1]
  | .cond _ a b, S, ds, hc => by simp [okC] at hc
  | .block _ c, S, ds, hc => by
    simp only [icode]
    rw [headedO hm hf hs (c := c) hc]
  | .scope c, S, ds, hc => by
    simp only [icode]
    rw [headedO hm hf hs (c := c) hc]
  | .loop c, S, ds, hc => by simp [okC] at hc
  | .skip, S, ds, hc => by simp [okC] at hc
  | .label _, S, ds, hc => by simp [okC] at hc
  | .exit _, S, ds, hc => by simp [okC] at hc
  | .goto _, S, ds, hc => by simp [okC] at hc
  | .ret, S, ds, hc => by simp [okC] at hc
  | .refuse _, S, ds, hc => by simp [okC] at hc
  | .rangeFunc .., S, ds, hc => by simp [okC] at hc
def nmI (k : Nat) (keep : List Nat) (mr : Nat) : Nat → Option Nm := fun j => cond (Nat.beq j k) (some ⟨keep, [], [], [], [], mr, 0, true⟩) none
def frI (c : TC) (l : List (El c)) (g : Nat) (caps : List IV) (i : Int) : PT IV := (((PT.leaf.set (.lst c l) 0).set (.fn g caps) 1).set (.int .i64 (Int.ofNat l.length)) 7).set (.int .i64 i) 8
def frA (c : TC) (l : List (El c)) (g : Nat) (caps : List IV) : PT IV := (argGo [.lst c l, .fn g caps] 0 .leaf).set (.int .i64 0) 4
def frB (c : TC) (l : List (El c)) (g : Nat) (caps : List IV) : PT IV := (((frA c l g caps).set (.lst c l) 6).set (.int .i64 (Int.ofNat l.length)) 7).set (.int .i64 0) 8
/-- What is to be seen by evaluation. -/
structure IdxFacts (P : Program) (tt : Nat → Option TI) (c : TC) (fi : FI) (A B L C : Code) : Prop where
  body : fi.body = .seq A (.seq (.seq B (.block 0 (.loop L))) C)
  two : Nat.ble 2 fi.nt = true
  head : ∀ mr, okC (nmI 2 [0, 1, 7, 8] mr) (fun k => Nat.beq k 2) (fun k => Nat.beq k 2) L (some 2) = true
  a : ∀ (R : Type) (clK : ClK R) (B0 mr lf : Nat) (l : List (El c)) (g : Nat) (caps : List IV) (S : IS) (kk : CRes → Option R), icodeK P tt (nmI 2 [0, 1, 7, 8] mr) B0 fi.nt clK lf none A (argGo [.lst c l, .fn g caps] 0 .leaf) S [] kk = kk ⟨.normal, frA c l g caps, S, [], mb B0 0, mb B0 0⟩
  b : ∀ (R : Type) (clK : ClK R) (B0 mr lf : Nat) (l : List (El c)) (g : Nat) (caps : List IV) (S : IS) (kk : CRes → Option R), icodeK P tt (nmI 2 [0, 1, 7, 8] mr) B0 fi.nt clK lf none B (frA c l g caps) S [] kk = kk ⟨.normal, frB c l g caps, S, [], mb B0 0, mb B0 0⟩
  l : ∀ (R : Type) (clK : ClK R) (B0 mr lf : Nat) (l : List (El c)) (g : Nat) (caps : List IV) (S : IS) (i : Int) (kk : _ → Option R), icodeK P tt (nmI 2 [0, 1, 7, 8] mr) B0 fi.nt clK lf none L (frI c l g caps i) S [] (fun r => kk (tup [0, 1, 4, 7, 8] r)) =
    cond (iltI i (Int.ofNat l.length)) (match jget l i with
      | none => none
      | some x => clK (.fn g) (asIV c x :: caps) S fun r => match r.v with
        | .bool b => cond b
          (kk (.ret, [.lst c l, .fn g caps, .int .i64 i, .int .i64 (Int.ofNat l.length), .int .i64 i], r.S, [], (mb B0 0).lor (Nat.lor 0 ((mb B0 0).lor ((mb B0 (Nat.lor 0 (Nat.lor 0 (Nat.lor 0 (Nat.lor 0 (Nat.lor 0 (r.rd.lor 0))))))).lor ((mb B0 0).lor 0)))),
            (mb B0 0).lor (Nat.lor 0 ((mb B0 0).lor ((mb B0 (Nat.lor 0 (Nat.lor 0 (Nat.lor 0 (Nat.lor 0 (Nat.lor 0 (Nat.lor 0 (r.wr.lor 0)))))))).lor ((mb B0 0).lor 0))))))
          (kk (.normal, [.lst c l, .fn g caps, .unk, .int .i64 (Int.ofNat l.length), .int .i64 (IntKind.i64.wrap (i + 1))], r.S, [], (mb B0 0).lor (Nat.lor 0 (((mb B0 0).lor ((mb B0 (Nat.lor 0 (Nat.lor 0 (Nat.lor 0 (Nat.lor 0 (Nat.lor 0 (r.rd.lor 0))))))).lor 0)).lor (mb B0 0))),
            (mb B0 0).lor (Nat.lor 0 (((mb B0 0).lor ((mb B0 (Nat.lor 0 (Nat.lor 0 (Nat.lor 0 (Nat.lor 0 (Nat.lor 0 (Nat.lor 0 (r.wr.lor 0)))))))).lor 0)).lor (mb B0 0)))))
        | _ => none)
      (kk (.exit 0, [.lst c l, .fn g caps, .unk, .int .i64 (Int.ofNat l.length), .int .i64 i], S, [], (mb B0 0).lor 0, (mb B0 0).lor 0))
  e : ∀ (R : Type) (clK : ClK R) (B0 mr lf : Nat) (fr : PT IV) (S : IS) (kk : CRes → Option R), icodeK P tt (nmI 2 [0, 1, 7, 8] mr) B0 fi.nt clK lf none C fr S [] kk = kk ⟨.ret, fr.set (.int .i64 (-1)) 4, S, [], (mb B0 0).lor 0, (mb B0 0).lor 0⟩
  res : fi.res = [.tmp 4]
  nt4 : Nat.blt 4 fi.nt = true
  lm : ∀ mr, loopM (nmI 2 [0, 1, 7, 8] mr) L = some (mr, 0)
variable {P : Program} {tt : Nat → Option TI} {c : TC} {fi : FI} {A B L C : Code}
theorem subm_self (a : Nat) : subm a a = true := by unfold subm; rw [Nat.or_self]; exact Nat.beq_refl a
theorem subm_zero (a : Nat) : subm 0 a = true := by unfold subm; rw [Nat.zero_or]; exact Nat.beq_refl a
theorem mb_subm {B0 a m : Nat} (h : subm a m = true) : subm (mb B0 a) m = true := by
  unfold mb
  cases Nat.beq B0 0
  · exact h
  · exact subm_zero m
theorem idx_loop (F : IdxFacts P tt c fi A B L C) {cl : Cl} (hcalm : Calm cl) {l : List (El c)} (hl : l.length * bsz c ≤ 140737488355328) {g : Nat} {caps : List IV} {S : IS} {i : Int} {lf : Nat} : ∀ (rest pre : List (El c)) (fuel : Nat) (fr : PT IV),
    l = pre ++ rest → rest.length < fuel → (slot fr 0 = .lst c l ∧ slot fr 1 = .fn g caps ∧ slot fr 7 = .int .i64 (Int.ofNat l.length) ∧ slot fr 8 = .int .i64 (Int.ofNat pre.length)) →
    idxO (fun x => ob (cl (.fn g) (asIV c x :: caps) S) (ansB (below S.next))) rest pre.length = some i →
    ∃ r, iiterM (icode P tt (nmI 2 [0, 1, 7, 8] (below S.next)) S.next fi.nt cl lf none L) (below S.next) 0 fuel fr S [] = some r ∧ r.S = S ∧ r.ds = [] ∧ r.wr = 0 ∧ ((r.e = .ret ∧ slot r.fr 4 = .int .i64 i) ∨ (r.e = .exit 0 ∧ i = -1)) := by
  intro rest
  induction rest with
  | nil =>
    intro pre fuel fr hp hf hs hi
    cases fuel with
    | zero => exact absurd hf (by simp)
    | succ n =>
    cases hi
    have e1 := headedO (P := P) (tt := tt) (B := S.next) (nt := fi.nt) (lf := lf) (cl := cl) (h := 2) (m := ⟨[0, 1, 7, 8], [], [], [], [], below S.next, 0, true⟩) rfl rfl (fr := fr) (fr' := frI c l g caps (Int.ofNat pre.length)) (by
      intro t ht
      simp only [List.mem_cons, List.not_mem_nil, or_false] at ht
      rcases ht with rfl | rfl | rfl | rfl
      · exact hs.1
      · exact hs.2.1
      · exact hs.2.2.1
      · exact hs.2.2.2) (c := L) (S := S) (ds := []) (F.head _)
    have e2 := F.l (IEx × List IV × IS × List Nat × Nat × Nat) (fun t vs S kk => ob (cl t vs S) kk) S.next (below S.next) lf l g caps S (Int.ofNat pre.length) some
    rw [show iltI (Int.ofNat pre.length) (Int.ofNat l.length) = false by rw [iltI_eq, hp]; simp, cond_false] at e2
    obtain ⟨r, hr, ht⟩ := run_tup e2
    simp only [tup, Prod.mk.injEq, mb_zero, lor_zero] at ht
    obtain ⟨t1, t2, t3, t4, t5, t6⟩ := ht
    refine ⟨⟨.exit 0, r.fr, S, [], below S.next, 0⟩, ?_, rfl, rfl, rfl, .inr ⟨rfl, rfl⟩⟩
    unfold iiterM
    rw [e1]
    have hr' : icode P tt (nmI 2 [0, 1, 7, 8] (below S.next)) S.next fi.nt cl lf none L (frI c l g caps (Int.ofNat pre.length)) S [] = some r := hr
    simp only [hr', t5, t6, subm_zero, Bool.and_self, cond_true, t1, t3, t4]
  | cons x rest ih =>
    intro pre fuel fr hp hf hs hi
    cases fuel with
    | zero => exact absurd hf (by simp)
    | succ n =>
    have e1 := headedO (P := P) (tt := tt) (B := S.next) (nt := fi.nt) (lf := lf) (cl := cl) (h := 2) (m := ⟨[0, 1, 7, 8], [], [], [], [], below S.next, 0, true⟩) rfl rfl (fr := fr) (fr' := frI c l g caps (Int.ofNat pre.length)) (by
      intro t ht
      simp only [List.mem_cons, List.not_mem_nil, or_false] at ht
      rcases ht with rfl | rfl | rfl | rfl
      · exact hs.1
      · exact hs.2.1
      · exact hs.2.2.1
      · exact hs.2.2.2) (c := L) (S := S) (ds := []) (F.head _)
    have e2 := F.l (IEx × List IV × IS × List Nat × Nat × Nat) (fun t vs S kk => ob (cl t vs S) kk) S.next (below S.next) lf l g caps S (Int.ofNat pre.length) some
    have hlen : l.length = pre.length + (rest.length + 1) := by rw [hp]; simp
    rw [show iltI (Int.ofNat pre.length) (Int.ofNat l.length) = true by rw [iltI_eq]; simp; omega, cond_true,
      show jget l (Int.ofNat pre.length) = some x by unfold jget; rw [if_pos (by simp)]; rw [hp]; simp] at e2
    simp only at e2
    unfold idxO at hi
    cases hc : cl (.fn g) (asIV c x :: caps) S with
    | none => rw [hc] at hi; cases hi
    | some r0 =>
    rw [hc] at hi e2
    simp only [ob] at hi e2
    cases hv : r0.v <;> simp only [ansB, hv] at hi <;> try (cases hi; done)
    rename_i b
    cases hmk : (Nat.beq r0.wr 0 && subm r0.rd (below S.next)) with
    | false => rw [hmk] at hi; cases hi
    | true =>
    rw [hmk] at hi
    simp only [Bool.and_eq_true] at hmk
    have hw0 : r0.wr = 0 := Nat.eq_of_beq_eq_true hmk.1
    have hS : r0.S = S := hcalm _ _ _ _ hc hw0 (by rw [hv]; rfl)
    simp only [hv, hS, hw0, mb_zero, lor_zero, zero_lor] at e2
    simp only [cond_true] at hi
    have hsm : subm (mb S.next r0.rd) (below S.next) = true := mb_subm hmk.2
    cases b with
    | true =>
      cases hi
      rw [cond_true] at e2
      obtain ⟨r, hr, ht⟩ := run_tup e2
      simp only [tup, Prod.mk.injEq, List.map_cons, List.cons.injEq] at ht
      obtain ⟨t1, t2, t3, t4, t5, t6⟩ := ht
      refine ⟨⟨.ret, r.fr, S, [], below S.next, 0⟩, ?_, rfl, rfl, rfl, .inl ⟨rfl, t2.2.2.1⟩⟩
      unfold iiterM
      rw [e1]
      have hr' : icode P tt (nmI 2 [0, 1, 7, 8] (below S.next)) S.next fi.nt cl lf none L (frI c l g caps (Int.ofNat pre.length)) S [] = some r := hr
      simp only [hr', t5, t6, hsm, subm_zero, Bool.and_self, cond_true, t1, t3, t4]
    | false =>
      rw [cond_false] at e2 hi
      obtain ⟨r, hr, ht⟩ := run_tup e2
      simp only [tup, Prod.mk.injEq, List.map_cons, List.cons.injEq] at ht
      obtain ⟨t1, t2, t3, t4, t5, t6⟩ := ht
      have hw : IntKind.i64.wrap (Int.ofNat pre.length + 1) = Int.ofNat (pre ++ [x]).length := by
        rw [show Int.ofNat (pre ++ [x]).length = Int.ofNat pre.length + 1 by simp]
        refine wrap64_in ?_
        have hb : 1 ≤ bsz c := bsz_one c
        have : l.length * 1 ≤ l.length * bsz c := Nat.mul_le_mul_left _ hb
        simp; omega
      obtain ⟨q, q1, q2⟩ := ih (pre ++ [x]) n r.fr (by rw [hp]; simp) (by simp at hf; omega) ⟨t2.1, t2.2.1, t2.2.2.2.1, by rw [← hw]; exact t2.2.2.2.2.1⟩ (by rw [show (pre ++ [x]).length = pre.length + 1 by simp]; exact hi)
      refine ⟨q, ?_, q2⟩
      unfold iiterM
      rw [e1]
      have hr' : icode P tt (nmI 2 [0, 1, 7, 8] (below S.next)) S.next fi.nt cl lf none L (frI c l g caps (Int.ofNat pre.length)) S [] = some r := hr
      simp only [hr', t5, t6, hsm, subm_zero, Bool.and_self, cond_true, t1, t3, t4]
      exact q1
where bsz_one : ∀ c : TC, 1 ≤ bsz c
  | .int k => by cases k <;> simp [bsz]
  | .bool => by simp [bsz]
  | .str => by simp [bsz]
  | .list _ => by simp [bsz]
  | .two a b => by have := bsz_one a; simp only [bsz]; omega

theorem runK {nm : Nat → Option Nm} {B nt lf : Nat} {cl : Cl} {c : Code} {fr : PT IV} {S : IS} {ds : List Nat} {y : CRes}
    (h : icodeK P tt nm B nt (fun t vs S kk => ob (cl t vs S) kk) lf none c fr S ds some = some y) : icode P tt nm B nt cl lf none c fr S ds = some y := by
  rw [icodeK_eq (cl := cl) (fun _ _ _ _ => rfl)] at h
  cases hr : icode P tt nm B nt cl lf none c fr S ds with
  | none => rw [hr] at h; cases h
  | some r => rw [hr] at h; cases h; rfl
theorem below_tin {T : Nat → Prop} {n a : Nat} (h : tin T (below n)) : tin T (a % 2 ^ n) := fun j hj => h j (by
  rw [Nat.testBit_mod_two_pow] at hj
  simp only [Bool.and_eq_true, decide_eq_true_eq] at hj
  unfold below
  rw [Nat.testBit_two_pow_sub_one]
  simpa using hj.1)
theorem lst_len {E : Env} {c : TC} {l : List (El c)} {u : Value} (h : VR E (.lst c l) u) : l.length * bsz c ≤ 140737488355328 := by
  cases h with
  | lst0 hc => simp
  | lst us h1 h2 h3 hb hh hc hu => exact h3
/-- The machine's call, where the body's run is known to write nothing, and to answer an integer. -/
theorem hx_int {f : Nat} {nm : Nat → Option Nm} {lf : Nat} {cl : Cl} {vs : List IV} {S : IS} {fr : PT IV} {e : IEx} {rd : Nat} {k : IntKind} {i : Int} {t : Nat} (hm : P.follows .mixedOrders = true) (htt : TT P tt) (hfi : FIok P f fi) (hcl : ClOK P cl) (hfr : ClFr cl)
    (hb : Nat.ble vs.length fi.nt = true) (hr : icode P tt nm S.next fi.nt cl lf none fi.body (argGo vs 0 .leaf) S [] = some ⟨e, fr, S, [], rd, 0⟩) (he : e.leaves = true) (hres : fi.res = [.tmp t]) (hnt : Nat.blt t fi.nt = true) (hs : slot fr t = .int k i)
    {T : TW} {E : Env} {us : List Value} (p : Pre T E S) (hrd : tin T.r (below S.next)) (hv : VRs E vs us) : Callable P f ∧ CallsIn Fence.wide 0 P f us.toArray E.w (RetE T E S ⟨.int k i, S, below S.next, 0⟩) := by
  refine body_ok (fi := fi) (r := ⟨.int k i, S, (rd ||| 0) % 2 ^ S.next, 0⟩) hm htt hfi hcl hfr hb hr he ?_ p (below_tin hrd) (fun j hj => by simp at hj) hv
  have e1 : imarks ([] : List Nat) S = some (S, 0) := rfl
  simp only [ileave, e1, hres, ires, hnt, cond_true, hs]
  simp only [tupI, Nat.or_self, igc, Nat.zero_mod, low2, low0, Nat.beq_refl, Bool.and_self, cond_true]
theorem idx_ok {f : Nat} (F : IdxFacts P tt c fi A B L C) (hm : P.follows .mixedOrders = true) (htt : TT P tt) (hfi : FIok P f fi) : HxOK P f (idxF c) := by
  refine ⟨fun cl hcl hfr hcalm vs S r h T E us p hrd hwr hv => ?_, fun cl hfr vs S r h => ?_, fun cl hcalm vs S r h _ _ => ?_⟩
  · obtain ⟨c', l1, g, caps, l0, i, rfl, hrc, hi, rfl⟩ := idxF_inv h
    obtain ⟨rfl, rfl⟩ := recast_some hrc
    have hlen : l0.length * bsz c' ≤ 140737488355328 := by
      obtain ⟨u, us, _, a1, _⟩ := hv.inv
      exact lst_len a1
    have ha := runK (F.a CRes (fun t vs S kk => ob (cl t vs S) kk) S.next (below S.next) (l0.length + 1) l0 g caps S some)
    have hb := runK (F.b CRes (fun t vs S kk => ob (cl t vs S) kk) S.next (below S.next) (l0.length + 1) l0 g caps S some)
    obtain ⟨r, hr, hS, hds, hw, hcase⟩ := idx_loop F hcalm hlen (lf := l0.length + 1) l0 [] (l0.length + 1) (frB c' l0 g caps) rfl (Nat.lt_succ_self _) ⟨rfl, rfl, rfl, rfl⟩ hi
    obtain ⟨re, rfr, rS, rds, rrd, rwr⟩ := r
    simp only at hS hds hw hcase
    subst hS; subst hds; subst hw
    rcases hcase with ⟨he, hs⟩ | ⟨he, hi2⟩
    · subst he
      refine hx_int (vs := [.lst c' l0, .fn g caps]) (nm := nmI 2 [0, 1, 7, 8] (below rS.next)) (lf := l0.length + 1) (fr := rfr) (e := .ret) (k := .i64) (i := i) (t := 4) (rd := mb rS.next rrd) hm htt hfi hcl hfr F.two ?_ rfl F.res F.nt4 hs p hrd hv
      rw [F.body]
      simp only [icode, ha, hb, F.lm, hr, mbO, mbR, mb_zero, CRes.or, Nat.zero_or]
    · subst he; subst hi2
      have hc := runK (F.e CRes (fun t vs S kk => ob (cl t vs S) kk) rS.next (below rS.next) (l0.length + 1) rfr rS some)
      refine hx_int (vs := [.lst c' l0, .fn g caps]) (nm := nmI 2 [0, 1, 7, 8] (below rS.next)) (lf := l0.length + 1) (fr := rfr.set (.int .i64 (-1)) 4) (e := .ret) (k := .i64) (i := -1) (t := 4) (rd := mb rS.next rrd) hm htt hfi hcl hfr F.two ?_ rfl F.res F.nt4 (by rw [slot_set, if_pos rfl]) p hrd hv
      rw [F.body]
      simp only [icode, ha, hb, F.lm, hr, mbO, mbR, mb_zero, CRes.or, Nat.zero_or, Nat.beq_refl, cond_true, hc, lor_zero, Nat.or_zero]
  · obtain ⟨_, _, _, _, _, _, _, _, _, rfl⟩ := idxF_inv h
    exact FrO.same _ rfl
  · obtain ⟨_, _, _, _, _, _, _, _, _, rfl⟩ := idxF_inv h
    rfl
/-! ### Parts of code -/
def cL : Code → Code
  | .seq a _ => a
  | c => c
def cR : Code → Code
  | .seq _ b => b
  | c => c
def cB : Code → Code
  | .block _ c => c
  | .loop c => c
  | .scope c => c
  | c => c
end Go.Jx
end

/- Contracts out of plain forms; tables of contracts as lists. -/
section
set_option linter.unusedVariables false
namespace Go.Jx
open Go Go.Sx Go.RowKit
universe u

def smL : List (Nat × Sm) → Nat → Option Sm
  | [], _ => none
  | e :: l, f => cond (Nat.beq f e.1) (some e.2) (smL l f)
def SmOK (P : Program) : List (Nat × Sm) → Prop
  | [] => True
  | e :: l => Con P e.1 e.2 ∧ SmOK P l
theorem smL_ok {P : Program} : ∀ {l : List (Nat × Sm)}, SmOK P l → ∀ f s, smL l f = some s → Con P f s
  | [], _, f, s, h => by cases h
  | e :: l, hl, f, s, h => by
    unfold smL at h
    cases hb : Nat.beq f e.1 with
    | true => rw [hb, cond_true] at h; cases h; rw [Nat.eq_of_beq_eq_true hb]; exact hl.1
    | false => rw [hb, cond_false] at h; exact smL_ok hl.2 f s h
def hxL : List (Nat × Hx) → Nat → Option Hx
  | [], _ => none
  | e :: l, f => cond (Nat.beq f e.1) (some e.2) (hxL l f)
def HxsOK (P : Program) : List (Nat × Hx) → Prop
  | [] => True
  | e :: l => HxOK P e.1 e.2.f ∧ HxsOK P l
theorem hxL_ok {P : Program} : ∀ {l : List (Nat × Hx)}, HxsOK P l → ∀ f s, hxL l f = some s → HxOK P f s.f
  | [], _, f, s, h => by cases h
  | e :: l, hl, f, s, h => by
    unfold hxL at h
    cases hb : Nat.beq f e.1 with
    | true => rw [hb, cond_true] at h; cases h; rw [Nat.eq_of_beq_eq_true hb]; exact hl.1
    | false => rw [hb, cond_false] at h; exact hxL_ok hl.2 f s h
def nm1 (f : Nat) (nmf : Nat → Option Nm) : Nat → Nat → Option Nm := fun g => cond (Nat.beq g f) nmf fun _ => none
theorem nm1_self (f : Nat) (nmf : Nat → Option Nm) : nm1 f nmf f = nmf := by unfold nm1; rw [Nat.beq_refl, cond_true]
/-- The contract of a function out of its run with stops ahead of rounds. -/
theorem conT {P : Program} {tt : Nat → Option TI} {ft : Nat → Option FI} {sml : List (Nat × Sm)} {hxl : List (Nat × Hx)} {f : Nat} {s : Sm} {fi : FI} {nmf : Nat → Option Nm} {st hd : Nat → Bool} (n : Nat) (hm : P.follows .mixedOrders = true) (htt : TT P tt) (hft : FT P ft) (hsm : SmOK P sml)
    (hhx : HxsOK P hxl) (hC : Callable P f) (h1 : smL sml f = none) (h2 : hxL hxl f = none) (h3 : ft f = some fi) (h4 : ∀ x, Nat.ble (argV s.pts x).length fi.nt = true) (hn : (regs fi.body).Nodup) (hl : okC nmf st hd fi.body none = true)
    (hrun : ∀ (x : ElA s.pts) (y : ElR s.rts), WfA s.pts x → s.f x = some y → ∃ lf,
      icodeT P tt nmf fi.nt (icallK P tt ft (nm1 f nmf) (smL sml) (hxL hxl) lf n (ElR s.rts)) lf st (atN P tt nmf fi s (icallK P tt ft (nm1 f nmf) (smL sml) (hxL hxl) lf n (ElR s.rts)) lf hd) fi.body [] (argGo (argV s.pts x) 0 .leaf) S0 [] (lastK tt fi s) = some y) : Con P f s := by
  refine conK (nm := nm1 f nmf) (sm := smL sml) (hx := hxL hxl) hm htt hft (smL_ok hsm) (hxL_ok hhx) hC fun x y hx2 hy => ?_
  obtain ⟨lf, hr⟩ := hrun x y hx2 hy
  refine ⟨n + 1, lf, ?_⟩
  rw [← at_in (icallK_eq n _) hn hl] at hr
  have e := nm1_self f nmf
  unfold icallK
  simp only [h1, h2, h3, h4, cond_true, e]
  exact hr
/-- A text out of its bytes. -/
def S.lit (l : List Nat) : ByteArray := ⟨⟨l.map UInt8.ofNat⟩⟩
end Go.Jx
end

/- The calls of strings.IndexFunc; the interpreter is monotone in its calls. -/
section
set_option linter.unusedVariables false
namespace Go.Jx
open Go Go.Sx Go.RowKit
universe u

section
variable {P : Program} {tt : Nat → Option TI} {nm : Nat → Option Nm} {B nt lf : Nat} {round : Option Nat} {cl cl' : Cl}
def ClLe (cl cl' : Cl) : Prop := ∀ t vs S r, cl t vs S = some r → cl' t vs S = some r
theorem istep_mono (h : ClLe cl cl') {fr : PT IV} {S : IS} {o : Oper} {r : Res} (hr : istep P tt nt cl fr S o = some r) : istep P tt nt cl' fr S o = some r := by
  obtain ⟨dst, op, ty, pos, aft, g⟩ := o
  cases op <;> try exact hr
  rename_i c
  obtain ⟨callee, args, ts⟩ := c
  cases callee <;> try exact hr
  rename_i x
  simp only [istep, oget] at hr ⊢
  generalize evo nt fr x = e1 at hr ⊢
  cases e1 with
  | none => cases hr
  | some v =>
    simp only at hr ⊢
    generalize evL nt fr args.toList = e2 at hr ⊢
    cases e2 with
    | none => cases hr
    | some vs =>
      cases v <;> simp only at hr ⊢ <;> first | (cases hr; done) | exact h _ _ _ _ hr
theorem iseq_mono (h : ClLe cl cl') {ops : List Oper} : ∀ {l : List Oper} {fr : PT IV} {S : IS} {q : FRes}, iseq P tt nt cl ops l fr S = some q → iseq P tt nt cl' ops l fr S = some q
  | [], fr, S, q, hq => hq
  | o :: l, fr, S, q, hq => by
    unfold iseq at hq ⊢
    cases hgk : gOK ops fr o.guard with
    | false => rw [hgk] at hq; cases hq
    | true =>
    rw [hgk, cond_true] at hq
    rw [cond_true]
    cases hw : wantI ops nt fr o.guard with
    | true =>
      rw [hw, cond_true] at hq
      rw [cond_true]
      cases hs : istep P tt nt cl fr S o with
      | none => rw [hs] at hq; cases hq
      | some r =>
        rw [hs] at hq
        rw [istep_mono h hs]
        simp only at hq ⊢
        cases hn : iseq P tt nt cl ops l (putD o.dst r.v fr) r.S with
        | none => rw [hn] at hq; cases hq
        | some q2 => rw [hn] at hq; rw [iseq_mono h hn]; exact hq
    | false =>
      rw [hw, cond_false] at hq
      rw [cond_false]
      exact iseq_mono h hq
theorem irecs_mono (h : ClLe cl cl') {ops : List Oper} : ∀ {l : List Oper} {fr : PT IV} {S : IS} {q : Recs}, irecs P tt nt cl ops l fr S = some q → irecs P tt nt cl' ops l fr S = some q
  | [], fr, S, q, hq => hq
  | o :: l, fr, S, q, hq => by
    unfold irecs at hq ⊢
    cases hgk : gOK ops fr o.guard with
    | false => rw [hgk] at hq; cases hq
    | true =>
    rw [hgk, cond_true] at hq
    rw [cond_true]
    cases hw : wantI ops nt fr o.guard with
    | true =>
      rw [hw, cond_true] at hq
      rw [cond_true]
      cases hs : istep P tt nt cl fr S o with
      | none => rw [hs] at hq; cases hq
      | some r =>
        rw [hs] at hq
        rw [istep_mono h hs]
        simp only at hq ⊢
        cases hn : irecs P tt nt cl ops l (putD o.dst r.v fr) r.S with
        | none => rw [hn] at hq; cases hq
        | some q2 => rw [hn] at hq; rw [irecs_mono h hn]; exact hq
    | false =>
      rw [hw, cond_false] at hq
      rw [cond_false]
      cases hn : irecs P tt nt cl ops l (putD o.dst (.tup []) fr) S with
      | none => rw [hn] at hq; cases hq
      | some q2 => rw [hn] at hq; rw [irecs_mono h hn]; exact hq
theorem iany_mono (h : ClLe cl cl') {ops : List Oper} {fr : PT IV} {S : IS} {q : FRes} (hq : iany P tt nt cl ops fr S = some q) : iany P tt nt cl' ops fr S = some q := by
  unfold iany at hq ⊢
  cases hn : irecs P tt nt cl ops ops fr S with
  | none => rw [hn] at hq; cases hq
  | some q2 => rw [hn] at hq; rw [irecs_mono h hn]; exact hq
theorem ifin_mono (h : ClLe cl cl') {f : Nat} {caps : List IV} {S : IS} {id : Nat} {fr : PT IV} {ds : List Nat} {rd : Nat} {q : CRes} (hq : ifin cl f caps S id fr ds rd = some q) : ifin cl' f caps S id fr ds rd = some q := by
  unfold ifin at hq ⊢
  cases hn : cl (.fn f) (.yield id :: caps) S with
  | none => rw [hn] at hq; cases hq
  | some r => rw [hn] at hq; rw [h _ _ _ _ hn]; exact hq
theorem icode_mono (h : ClLe cl cl') : ∀ (c : Code) {fr : PT IV} {S : IS} {ds : List Nat} {q : CRes}, icode P tt nm B nt cl lf round c fr S ds = some q → icode P tt nm B nt cl' lf round c fr S ds = some q := by
  intro c
  induction c with
  | skip => intro fr S ds q hq; exact hq
  | label l => intro fr S ds q hq; exact hq
  | exit id => intro fr S ds q hq; exact hq
  | goto l => intro fr S ds q hq; exact hq
  | ret => intro fr S ds q hq; exact hq
  | refuse _ => intro fr S ds q hq; exact hq
  | region id ops draw =>
    intro fr S ds q hq
    simp only [icode] at hq ⊢
    cases hx : inorm nt (nm id) B fr S ds with
    | none => rw [hx] at hq; cases hq
    | some x =>
      rw [hx] at hq
      simp only at hq ⊢
      cases draw with
      | true =>
        simp only [cond_true] at hq ⊢
        cases hn : iany P tt nt cl ops.toList x.fr x.S with
        | none => rw [hn] at hq; cases hq
        | some r => rw [hn] at hq; rw [iany_mono h hn]; exact hq
      | false =>
        simp only [cond_false] at hq ⊢
        cases hn : iseq P tt nt cl ops.toList ops.toList x.fr x.S with
        | none => rw [hn] at hq; cases hq
        | some r => rw [hn] at hq; rw [iseq_mono h hn]; exact hq
  | seq x y ihx ihy =>
    intro fr S ds q hq
    simp only [icode] at hq ⊢
    cases hn : icode P tt nm B nt cl lf round x fr S ds with
    | none => rw [hn] at hq; cases hq
    | some r =>
      rw [hn] at hq
      rw [ihx hn]
      simp only at hq ⊢
      cases he : r.e <;> rw [he] at hq <;> simp only at hq ⊢ <;> try exact hq
      cases hn2 : icode P tt nm B nt cl lf round y r.fr r.S r.ds with
      | none => rw [hn2] at hq; cases hq
      | some r2 => rw [hn2] at hq; rw [ihy hn2]; exact hq
  | cond c x y ihx ihy =>
    intro fr S ds q hq
    simp only [icode] at hq ⊢
    cases hv : evo nt fr c with
    | none => rw [hv] at hq; cases hq
    | some v =>
      rw [hv] at hq
      cases v <;> simp only at hq ⊢ <;> try (cases hq; done)
      rename_i b
      cases b with
      | true => exact ihx hq
      | false => exact ihy hq
  | block id c ih =>
    intro fr S ds q hq
    simp only [icode] at hq ⊢
    cases hn : icode P tt nm B nt cl lf round c fr S ds with
    | none => rw [hn] at hq; cases hq
    | some r => rw [hn] at hq; rw [ih hn]; exact hq
  | scope c ih =>
    intro fr S ds q hq
    simp only [icode] at hq ⊢
    cases hn : icode P tt nm B nt cl lf round c fr S ds with
    | none => rw [hn] at hq; cases hq
    | some r => rw [hn] at hq; rw [ih hn]; exact hq
  | loop c ih =>
    intro fr S ds q hq
    simp only [icode] at hq ⊢
    cases hm : loopM nm c with
    | some m =>
      rw [hm] at hq
      simp only at hq ⊢
      obtain ⟨q0, hq0, rfl⟩ := mbO_some hq
      have key : ∀ n fr S ds q, iiterM (icode P tt nm B nt cl lf round c) m.1 m.2 n fr S ds = some q → iiterM (icode P tt nm B nt cl' lf round c) m.1 m.2 n fr S ds = some q := by
        intro n
        induction n with
        | zero => intro fr S ds q hq; exact hq
        | succ n ihn =>
          intro fr S ds q hq
          unfold iiterM at hq ⊢
          cases hn : icode P tt nm B nt cl lf round c fr S ds with
          | none => rw [hn] at hq; cases hq
          | some r =>
            rw [hn] at hq
            rw [ih hn]
            simp only at hq ⊢
            cases hb : (subm r.rd m.1 && subm r.wr m.2) with
            | false => rw [hb] at hq; cases hq
            | true =>
              rw [hb, cond_true] at hq
              rw [cond_true]
              cases he : r.e <;> rw [he] at hq <;> simp only at hq ⊢ <;> first | exact ihn _ _ _ _ hq | exact hq
      rw [key _ _ _ _ _ hq0]
      rfl
    | none =>
      rw [hm] at hq
      simp only at hq ⊢
      have key : ∀ n fr S ds q, iiter (icode P tt nm B nt cl lf round c) n fr S ds = some q → iiter (icode P tt nm B nt cl' lf round c) n fr S ds = some q := by
        intro n
        induction n with
        | zero => intro fr S ds q hq; exact hq
        | succ n ihn =>
          intro fr S ds q hq
          unfold iiter at hq ⊢
          cases hn : icode P tt nm B nt cl lf round c fr S ds with
          | none => rw [hn] at hq; cases hq
          | some r =>
            rw [hn] at hq
            rw [ih hn]
            simp only at hq ⊢
            cases he : r.e <;> rw [he] at hq <;> simp only at hq ⊢ <;> try exact hq
            cases hn2 : iiter (icode P tt nm B nt cl lf round c) n r.fr r.S r.ds with
            | none => rw [hn2] at hq; cases hq
            | some r2 => rw [hn2] at hq; rw [ihn _ _ _ _ hn2]; exact hq
      exact key _ _ _ _ _ hq
  | rangeFunc g ps assign body ih1 ih2 =>
    intro fr S ds q hq
    simp only [icode] at hq ⊢
    obtain ⟨q0, hq0, rfl⟩ := mbO_some hq
    cases hv : evo nt fr g with
    | none => rw [hv] at hq0; cases hq0
    | some v =>
      rw [hv] at hq0
      cases v <;> simp only at hq0 ⊢ <;> try (cases hq0; done)
      cases round with
      | none => simp only at hq0 ⊢; rw [ifin_mono h hq0]; rfl
      | some l =>
        simp only at hq0 ⊢
        cases ho : S.heap.get l with
        | none => rw [ho] at hq0; cases hq0
        | some o =>
          rw [ho] at hq0
          cases o <;> simp only at hq0 ⊢ <;> try (cases hq0; done)
          rw [ifin_mono h hq0]; rfl
end

/-! ### Runes of a text -/
def sixO (p : Nat → Int → Option Bool) (s : ByteArray) (b : Bool) : Nat → Nat → Option Int
  | 0, _ => none
  | n + 1, i => cond (Nat.blt i s.size) (match p (i + (Utf8.decode s i).2) (Int.ofNat (Utf8.decode s i).1) with
    | none => none
    | some a => cond (decide (a = b)) (some (Int.ofNat i)) (sixO p s b n (i + (Utf8.decode s i).2))) (some (-1))
def sixF (cl : Cl) (vs : List IV) (S : IS) : Option Res := match vs with
  | [.str s, .fn g caps, .bool b] => match sixO (fun q x => ob (cl (.fn g) (.int .i32 x :: caps) (S.new (.iter s q))) (ansB (below S.next))) s b (s.size + 1) 0 with
    | none => none
    | some i => some ⟨.int .i64 i, S, below S.next, 0⟩
  | _ => none
def sixK (clP : ClP) (R : Type) (vs : List IV) (S : IS) (kk : Res → Option R) : Option R := match vs with
  | [.str s, .fn g caps, .bool b] => match sixO (fun q x => clP Bool (.fn g) (.int .i32 x :: caps) (S.new (.iter s q)) (ansB (below S.next))) s b (s.size + 1) 0 with
    | none => none
    | some i => kk ⟨.int .i64 i, S, below S.next, 0⟩
  | _ => none
theorem six_eq (cl : Cl) (clP : ClP) (h : ∀ R, ClEq cl (clP R)) (R : Type) (vs : List IV) (S : IS) (kk : Res → Option R) : sixK clP R vs S kk = ob (sixF cl vs S) kk := by
  unfold sixK sixF
  split
  · rename_i s g caps b
    simp only [h Bool _ _ _ _]
    cases sixO (fun q x => ob (cl (.fn g) (.int .i32 x :: caps) (S.new (.iter s q))) (ansB (below S.next))) s b (s.size + 1) 0 <;> rfl
  · rfl
def sixHx : Hx := ⟨sixF, sixK, six_eq⟩
theorem sixF_inv {cl : Cl} {vs : List IV} {S : IS} {r : Res} (h : sixF cl vs S = some r) : ∃ s g caps b i, vs = [.str s, .fn g caps, .bool b] ∧ sixO (fun q x => ob (cl (.fn g) (.int .i32 x :: caps) (S.new (.iter s q))) (ansB (below S.next))) s b (s.size + 1) 0 = some i ∧ r = ⟨.int .i64 i, S, below S.next, 0⟩ := by
  unfold sixF at h
  split at h
  · rename_i s g caps b
    split at h <;> cases h
    rename_i i hi
    exact ⟨_, _, _, _, _, rfl, hi, rfl⟩
  · cases h
def nmS (mr mw : Nat) : Nat → Option Nm := fun j => cond (Nat.beq j 2) (some ⟨[1, 2, 10], [], [], [], [], mr, mw, true⟩) none
def frS (g : Nat) (caps : List IV) (b : Bool) (id : Nat) : PT IV := ((PT.leaf.set (.fn g caps) 1).set (.bool b) 2).set (.ptr id 0) 10
def clT (test : Tgt → List IV → IS → Bool) (c : Res) : Cl := fun t vs S => cond (test t vs S) (some c) none
structure SixFacts (P : Program) (tt : Nat → Option TI) (fi : FI) (A B L C : Code) : Prop where
  body : fi.body = .seq A (.seq (.seq B (.block 0 (.loop L))) C)
  three : Nat.ble 3 fi.nt = true
  head : ∀ mr mw, okC (nmS mr mw) (fun k => Nat.beq k 2) (fun k => Nat.beq k 2) L (some 2) = true
  ab : ∀ (R : Type) (clK : ClK R) (B0 mr mw lf : Nat) (s : ByteArray) (g : Nat) (caps : List IV) (b : Bool) (S : IS) (kk : _ → Option R), icodeK P tt (nmS mr mw) B0 fi.nt clK lf none (.seq A B) (argGo [.str s, .fn g caps, .bool b] 0 .leaf) S [] (fun r => kk (tup [1, 2, 10] r)) =
    kk (.normal, [.fn g caps, .bool b, .ptr S.next 0], S.new (.iter s 0), [], (mb B0 0).lor (mb B0 0), (mb B0 0).lor (mb B0 0))
  l : ∀ (R : Type) (B0 mr mw lf : Nat) (g : Nat) (caps : List IV) (b a : Bool) (id rd : Nat) (S S' : IS) (test : Tgt → List IV → IS → Bool) (kk : _ → Option R), icodeK P tt (nmS mr mw) B0 fi.nt (fun t vs S kk => cond (test t vs S) (kk ⟨.bool a, S', rd, 0⟩) none) lf none L (frS g caps b id) S [] (fun r => kk (tup [1, 2, 6, 10] r)) =
    match S.heap.get id with
    | some (.iter s p) => cond (Nat.blt p s.size)
      (cond (test (.fn g) (.int .i32 (Int.ofNat (Utf8.decode s p).1) :: caps) (S.set id (.iter s (p + (Utf8.decode s p).2))))
        (cond (decide (a = b))
          (kk (.ret, [.fn g caps, .bool b, .int .i64 (Int.ofNat p), .ptr id 0], S', [], (mb B0 0).lor (Nat.lor 0 ((mb B0 0).lor ((mb B0 (Nat.lor 0 (Nat.lor 0 (rd.lor 0)))).lor ((mb B0 0).lor 0)))),
            (mb B0 (Nat.lor 0 ((Nat.pow 2 id).lor 0))).lor (Nat.lor 0 ((mb B0 0).lor ((mb B0 0).lor ((mb B0 0).lor 0))))))
          (kk (.normal, [.fn g caps, .bool b, .unk, .ptr id 0], S', [], (mb B0 0).lor (Nat.lor 0 ((mb B0 0).lor ((mb B0 (Nat.lor 0 (Nat.lor 0 (rd.lor 0)))).lor 0))),
            (mb B0 (Nat.lor 0 ((Nat.pow 2 id).lor 0))).lor (Nat.lor 0 ((mb B0 0).lor ((mb B0 0).lor 0))))))
        none)
      (kk (.exit 0, [.fn g caps, .bool b, .unk, .ptr id 0], S, [], (mb B0 ((Nat.pow 2 id).lor 0)).lor 0, (mb B0 0).lor 0))
    | _ => none
  e : ∀ (R : Type) (clK : ClK R) (B0 mr mw lf : Nat) (fr : PT IV) (S : IS) (kk : CRes → Option R), icodeK P tt (nmS mr mw) B0 fi.nt clK lf none C fr S [] kk = kk ⟨.ret, fr.set (.int .i64 (-1)) 6, S, [], (mb B0 0).lor 0, (mb B0 0).lor 0⟩
  res : fi.res = [.tmp 6]
  nt6 : Nat.blt 6 fi.nt = true
  lm : ∀ mr mw, loopM (nmS mr mw) L = some (mr, mw)
theorem PT.one_set {α : Type u} (x y : α) : ∀ (f n : Nat), n ≤ f → (PT.one x f n).set y n = PT.one y f n
  | 0, n, h => by
    obtain rfl : n = 0 := by omega
    rfl
  | f + 1, n, h => by
    by_cases hn : n = 0
    · subst hn; rfl
    · by_cases h2 : n % 2 = 1
      · simp only [PT.one, beq_f hn, cond_false, beq_t h2, cond_true, PT.set]
        rw [PT.one_set x y f _ (by omega)]
      · simp only [PT.one, beq_f hn, cond_false, beq_f h2, PT.set]
        rw [PT.one_set x y f _ (by omega)]
theorem PT.set_set {α : Type u} (x y : α) : ∀ (t : PT α) (n : Nat), (t.set x n).set y n = t.set y n
  | .leaf, n => PT.one_set x y n n (Nat.le_refl _)
  | .node v l r, n => by
    by_cases hn : n = 0
    · subst hn; rfl
    · by_cases h2 : n % 2 = 1
      · simp only [PT.set, beq_f hn, cond_false, beq_t h2, cond_true]
        rw [PT.set_set x y l]
      · simp only [PT.set, beq_f hn, cond_false, beq_f h2]
        rw [PT.set_set x y r]
theorem IS.new_set (S : IS) (o o' : IObj) : (S.new o).set S.next o' = S.new o' := by
  unfold IS.new IS.set
  simp only [PT.set_set]
theorem IS.new_get (S : IS) (o : IObj) : (S.new o).heap.get S.next = some o := by
  unfold IS.new
  simp only [PT.get_set, if_true]
theorem subm_iff {a m : Nat} : subm a m = true ↔ ∀ j, a.testBit j = true → m.testBit j = true := by
  constructor
  · intro h j hj; exact subm_tin (T := fun j => m.testBit j = true) h (fun j hj => hj) j hj
  · intro h
    unfold subm
    have : a ||| m = m := Nat.eq_of_testBit_eq fun j => by
      rw [Nat.testBit_or]
      cases ha : a.testBit j with
      | false => rfl
      | true => rw [h j ha]; rfl
    rw [this]; exact Nat.beq_refl m
theorem below_bit (n j : Nat) : (below n).testBit j = decide (j < n) := by unfold below; exact Nat.testBit_two_pow_sub_one ..
theorem hx_int2 {P : Program} {tt : Nat → Option TI} {fi : FI} {f : Nat} {nm : Nat → Option Nm} {lf : Nat} {cl : Cl} {vs : List IV} {S S1 : IS} {fr : PT IV} {e : IEx} {rd wr : Nat} {k : IntKind} {i : Int} {t : Nat} (hm : P.follows .mixedOrders = true) (htt : TT P tt) (hfi : FIok P f fi) (hcl : ClOK P cl) (hfr : ClFr cl)
    (hb : Nat.ble vs.length fi.nt = true) (hr : icode P tt nm S.next fi.nt cl lf none fi.body (argGo vs 0 .leaf) S [] = some ⟨e, fr, S1, [], rd, wr⟩) (hw : wr % 2 ^ S.next = 0) (he : e.leaves = true) (hres : fi.res = [.tmp t]) (hnt : Nat.blt t fi.nt = true) (hs : slot fr t = .int k i)
    {T : TW} {E : Env} {us : List Value} (p : Pre T E S) (hrd : tin T.r (below S.next)) (hv : VRs E vs us) : Callable P f ∧ CallsIn Fence.wide 0 P f us.toArray E.w (RetE T E S ⟨.int k i, S, below S.next, 0⟩) := by
  refine body_ok (fi := fi) (r := ⟨.int k i, S, (rd ||| 0) % 2 ^ S.next, 0⟩) hm htt hfi hcl hfr hb hr he ?_ p (below_tin hrd) (fun j hj => by simp at hj) hv
  have e1 : imarks ([] : List Nat) S1 = some (S1, 0) := rfl
  simp only [ileave, e1, hres, ires, hnt, cond_true, hs]
  simp only [tupI, igc, low2, low0, Nat.or_zero, hw, Nat.beq_refl, Bool.and_self, cond_true]
variable {P : Program} {tt : Nat → Option TI} {fi : FI} {A B L C : Code}
theorem six_loop (F : SixFacts P tt fi A B L C) {cl : Cl} (hcalm : Calm cl) {s : ByteArray} {b : Bool} {g : Nat} {caps : List IV} {S : IS} {i : Int} {lf : Nat} : ∀ (fuel p : Nat) (fr : PT IV), (slot fr 1 = .fn g caps ∧ slot fr 2 = .bool b ∧ slot fr 10 = .ptr S.next 0) →
    sixO (fun q x => ob (cl (.fn g) (.int .i32 x :: caps) (S.new (.iter s q))) (ansB (below S.next))) s b fuel p = some i →
    ∃ r, iiterM (icode P tt (nmS (below (S.next + 1)) (2 ^ S.next)) S.next fi.nt cl lf none L) (below (S.next + 1)) (2 ^ S.next) fuel fr (S.new (.iter s p)) [] = some r ∧ r.ds = [] ∧ r.rd = below (S.next + 1) ∧ r.wr = 2 ^ S.next ∧ ((r.e = .ret ∧ slot r.fr 6 = .int .i64 i) ∨ (r.e = .exit 0 ∧ i = -1)) := by
  intro fuel
  induction fuel with
  | zero => intro p fr hs hi; cases hi
  | succ n ih =>
    intro p fr hs hi
    have e1 := fun cl => headedO (P := P) (tt := tt) (B := S.next) (nt := fi.nt) (lf := lf) (cl := cl) (h := 2) (m := ⟨[1, 2, 10], [], [], [], [], below (S.next + 1), 2 ^ S.next, true⟩) rfl rfl (fr := fr) (fr' := frS g caps b S.next) (by
      intro t ht
      simp only [List.mem_cons, List.not_mem_nil, or_false] at ht
      rcases ht with rfl | rfl | rfl
      · exact hs.1
      · exact hs.2.1
      · exact hs.2.2) (c := L) (S := S.new (.iter s p)) (ds := []) (F.head _ _)
    have hb1 : ∀ x, subm x (below S.next) = true → subm (mb S.next x) (below (S.next + 1)) = true := fun x hx => mb_subm (by
      rw [subm_iff] at hx ⊢
      intro j hj
      have := hx j hj
      rw [below_bit] at this ⊢
      simp only [decide_eq_true_eq] at this ⊢
      omega)
    have hb2 : subm (mb S.next (2 ^ S.next)) (2 ^ S.next) = true := mb_subm (subm_self _)
    have hb3 : subm (mb S.next (2 ^ S.next)) (below (S.next + 1)) = true := mb_subm (by
      rw [subm_iff]
      intro j hj
      rw [Nat.testBit_two_pow] at hj
      rw [below_bit]
      simp only [decide_eq_true_eq] at hj ⊢
      omega)
    have hpw : Nat.pow 2 S.next = 2 ^ S.next := rfl
    unfold sixO at hi
    cases hlt : Nat.blt p s.size with
    | false =>
      rw [hlt, cond_false] at hi
      cases hi
      have e2 := F.l (IEx × List IV × IS × List Nat × Nat × Nat) S.next (below (S.next + 1)) (2 ^ S.next) lf g caps b false S.next 0 (S.new (.iter s p)) S (fun _ _ _ => false) some
      rw [IS.new_get] at e2
      simp only [hlt, cond_false, cond_true, mb_zero, lor_zero, zero_lor] at e2
      have ec : (fun (t : Tgt) (vs : List IV) (S : IS) (kk : Res → Option (IEx × List IV × IS × List Nat × Nat × Nat)) => (none : Option (IEx × List IV × IS × List Nat × Nat × Nat))) = fun t vs S kk => ob ((fun _ _ _ => none : Cl) t vs S) kk := rfl
      rw [ec] at e2
      obtain ⟨r, hr, ht⟩ := run_tup e2
      have hr := icode_mono (cl' := cl) (fun t vs S r h => by cases h) _ hr
      simp only [tup, Prod.mk.injEq] at ht
      obtain ⟨t1, t2, t3, t4, t5, t6⟩ := ht
      refine ⟨⟨.exit 0, r.fr, S.new (.iter s p), [], below (S.next + 1), 2 ^ S.next⟩, ?_, rfl, rfl, rfl, .inr ⟨rfl, rfl⟩⟩
      unfold iiterM
      rw [e1 cl]
      have hr' : icode P tt (nmS (below (S.next + 1)) (2 ^ S.next)) S.next fi.nt cl lf none L (frS g caps b S.next) (S.new (.iter s p)) [] = some r := hr
      simp only [hr', t5, t6, hpw, hb3, subm_zero, Bool.and_self, cond_true, t1, t3, t4]
    | true =>
      rw [hlt, cond_true] at hi
      cases hc : cl (.fn g) (.int .i32 (Int.ofNat (Utf8.decode s p).1) :: caps) (S.new (.iter s (p + (Utf8.decode s p).2))) with
      | none => rw [hc] at hi; cases hi
      | some r0 =>
      rw [hc] at hi
      simp only [ob] at hi
      obtain ⟨v0, S0', rd0, wr0⟩ := r0
      cases v0 <;> simp only [ansB] at hi <;> try (cases hi; done)
      rename_i a
      cases hmk : (Nat.beq wr0 0 && subm rd0 (below S.next)) with
      | false => rw [hmk] at hi; cases hi
      | true =>
      rw [hmk] at hi
      simp only [Bool.and_eq_true] at hmk
      have hw0 : wr0 = 0 := Nat.eq_of_beq_eq_true hmk.1
      subst hw0
      have hS : S0' = S.new (.iter s (p + (Utf8.decode s p).2)) := hcalm _ _ _ _ hc rfl rfl
      subst hS
      simp only [cond_true] at hi
      have hsm := hb1 _ hmk.2
      let c0 : Res := ⟨.bool a, S.new (.iter s (p + (Utf8.decode s p).2)), rd0, 0⟩
      let test : Tgt → List IV → IS → Bool := fun t vs S => @decide (cl t vs S = some c0) (Classical.propDecidable _)
      have hle : ClLe (clT test c0) cl := fun t vs S r h => by
        unfold clT at h
        cases ht : test t vs S with
        | false => rw [ht] at h; cases h
        | true =>
          rw [ht] at h; cases h
          exact @of_decide_eq_true _ (Classical.propDecidable _) ht
      have e2 := F.l (IEx × List IV × IS × List Nat × Nat × Nat) S.next (below (S.next + 1)) (2 ^ S.next) lf g caps b a S.next rd0 (S.new (.iter s p)) (S.new (.iter s (p + (Utf8.decode s p).2))) test some
      rw [IS.new_get] at e2
      have htest : test (.fn g) (.int .i32 (Int.ofNat (Utf8.decode s p).1) :: caps) ((S.new (.iter s p)).set S.next (.iter s (p + (Utf8.decode s p).2))) = true := by
        rw [IS.new_set]
        exact @decide_eq_true _ (Classical.propDecidable _) hc
      simp only [hlt, htest, cond_true, mb_zero, lor_zero, zero_lor] at e2
      cases hab : decide (a = b) with
      | true =>
        rw [hab, cond_true] at e2 hi
        cases hi
        have ec : (fun (t : Tgt) (vs : List IV) (S : IS) (kk : Res → Option (IEx × List IV × IS × List Nat × Nat × Nat)) => cond (test t vs S) (kk c0) none) = fun t vs S kk => ob (clT test c0 t vs S) kk := by
          funext t vs S kk
          unfold clT
          cases test t vs S <;> rfl
        rw [ec] at e2
        obtain ⟨r, hr, ht⟩ := run_tup e2
        have hr := icode_mono hle _ hr
        simp only [tup, Prod.mk.injEq, List.map_cons, List.cons.injEq] at ht
        obtain ⟨t1, t2, t3, t4, t5, t6⟩ := ht
        refine ⟨⟨.ret, r.fr, S.new (.iter s (p + (Utf8.decode s p).2)), [], below (S.next + 1), 2 ^ S.next⟩, ?_, rfl, rfl, rfl, .inl ⟨rfl, t2.2.2.1⟩⟩
        unfold iiterM
        rw [e1 cl]
        have hr' : icode P tt (nmS (below (S.next + 1)) (2 ^ S.next)) S.next fi.nt cl lf none L (frS g caps b S.next) (S.new (.iter s p)) [] = some r := hr
        simp only [hr', t5, t6, hpw, hsm, hb2, Bool.and_self, cond_true, t1, t3, t4]
      | false =>
        rw [hab, cond_false] at e2 hi
        have ec : (fun (t : Tgt) (vs : List IV) (S : IS) (kk : Res → Option (IEx × List IV × IS × List Nat × Nat × Nat)) => cond (test t vs S) (kk c0) none) = fun t vs S kk => ob (clT test c0 t vs S) kk := by
          funext t vs S kk
          unfold clT
          cases test t vs S <;> rfl
        rw [ec] at e2
        obtain ⟨r, hr, ht⟩ := run_tup e2
        have hr := icode_mono hle _ hr
        simp only [tup, Prod.mk.injEq, List.map_cons, List.cons.injEq] at ht
        obtain ⟨t1, t2, t3, t4, t5, t6⟩ := ht
        obtain ⟨q, q1, q2⟩ := ih (p + (Utf8.decode s p).2) r.fr ⟨t2.1, t2.2.1, t2.2.2.2.1⟩ hi
        refine ⟨q, ?_, q2⟩
        unfold iiterM
        rw [e1 cl]
        have hr' : icode P tt (nmS (below (S.next + 1)) (2 ^ S.next)) S.next fi.nt cl lf none L (frS g caps b S.next) (S.new (.iter s p)) [] = some r := hr
        simp only [hr', t5, t6, hpw, hsm, hb2, Bool.and_self, cond_true, t1, t3, t4]
        exact q1
theorem mb_mod (n : Nat) : mb n (2 ^ n) % 2 ^ n = 0 := by
  unfold mb
  cases Nat.beq n 0
  · exact Nat.mod_self _
  · exact Nat.zero_mod _
theorem six_ok {f : Nat} (F : SixFacts P tt fi A B L C) (hm : P.follows .mixedOrders = true) (htt : TT P tt) (hfi : FIok P f fi) : HxOK P f sixF := by
  refine ⟨fun cl hcl hfr hcalm vs S r h T E us p hrd hwr hv => ?_, fun cl hfr vs S r h => ?_, fun cl hcalm vs S r h _ _ => ?_⟩
  · obtain ⟨s, g, caps, b, i, rfl, hi, rfl⟩ := sixF_inv h
    obtain ⟨ra, hra, hta⟩ := run_tup (cl := cl) (F.ab (IEx × List IV × IS × List Nat × Nat × Nat) (fun t vs S kk => ob (cl t vs S) kk) S.next (below (S.next + 1)) (2 ^ S.next) (s.size + 1) s g caps b S some)
    obtain ⟨rae, rafr, raS, rads, rard, rawr⟩ := ra
    simp only [tup, Prod.mk.injEq, List.map_cons, List.map_nil, List.cons.injEq, mb_zero, lor_zero] at hta
    obtain ⟨rfl, ⟨s1, s2, s3, _⟩, rfl, rfl, rfl, rfl⟩ := hta
    obtain ⟨r, hr, hds, hrd2, hwr2, hcase⟩ := six_loop F hcalm (lf := s.size + 1) (s.size + 1) 0 rafr ⟨s1, s2, s3⟩ hi
    obtain ⟨re, rfr, rS, rds, rrd, rwr⟩ := r
    simp only at hds hrd2 hwr2 hcase
    subst hds; subst hrd2; subst hwr2
    simp only [icode] at hra
    cases hA : icode P tt (nmS (below (S.next + 1)) (2 ^ S.next)) S.next fi.nt cl (s.size + 1) none A (argGo [.str s, .fn g caps, .bool b] 0 .leaf) S [] with
    | none => rw [hA] at hra; cases hra
    | some qa =>
    rw [hA] at hra
    simp only at hra
    obtain ⟨qe, qfr, qS, qds, qrd, qwr⟩ := qa
    cases qe <;> simp only at hra <;> try (cases hra; done)
    cases hB : icode P tt (nmS (below (S.next + 1)) (2 ^ S.next)) S.next fi.nt cl (s.size + 1) none B qfr qS qds with
    | none => rw [hB] at hra; cases hra
    | some qb =>
    rw [hB] at hra
    obtain ⟨be, bfr, bS, bds, brd, bwr⟩ := qb
    simp only [CRes.or, Option.some.injEq, CRes.mk.injEq] at hra
    obtain ⟨rfl, rfl, rfl, rfl, h5, h6⟩ := hra
    obtain ⟨z1, z2⟩ : qwr = 0 ∧ bwr = 0 := by
      constructor
      · exact Nat.eq_of_testBit_eq fun j => by have := congrArg (fun x => x.testBit j) h6; simp [Nat.testBit_or] at this; simp [this.1]
      · exact Nat.eq_of_testBit_eq fun j => by have := congrArg (fun x => x.testBit j) h6; simp [Nat.testBit_or] at this; simp [this.2]
    subst z1; subst z2
    rcases hcase with ⟨he, hs⟩ | ⟨he, hi2⟩
    · subst he
      refine hx_int2 (vs := [.str s, .fn g caps, .bool b]) (nm := nmS (below (S.next + 1)) (2 ^ S.next)) (lf := s.size + 1) (fr := rfr) (e := .ret) (k := .i64) (i := i) (t := 6) (S1 := rS) (rd := qrd ||| (brd ||| mb S.next (below (S.next + 1)))) (wr := mb S.next (2 ^ S.next)) hm htt hfi hcl hfr F.three ?_ (mb_mod _) rfl F.res F.nt6 hs p hrd hv
      rw [F.body]
      simp only [icode, hA, hB, F.lm, hr, mbO, mbR, CRes.or, Nat.zero_or]
    · subst he; subst hi2
      have hc := runK (F.e CRes (fun t vs S kk => ob (cl t vs S) kk) S.next (below (S.next + 1)) (2 ^ S.next) (s.size + 1) rfr rS some)
      refine hx_int2 (vs := [.str s, .fn g caps, .bool b]) (nm := nmS (below (S.next + 1)) (2 ^ S.next)) (lf := s.size + 1) (fr := rfr.set (.int .i64 (-1)) 6) (e := .ret) (k := .i64) (i := -1) (t := 6) (S1 := rS) (rd := qrd ||| ((brd ||| mb S.next (below (S.next + 1))) ||| 0)) (wr := mb S.next (2 ^ S.next)) hm htt hfi hcl hfr F.three ?_ (mb_mod _) rfl F.res F.nt6 (by rw [slot_set, if_pos rfl]) p hrd hv
      rw [F.body]
      simp only [icode, hA, hB, F.lm, hr, mbO, mbR, mb_zero, CRes.or, Nat.zero_or, Nat.beq_refl, cond_true, hc, lor_zero, Nat.or_zero]
  · obtain ⟨_, _, _, _, _, _, _, rfl⟩ := sixF_inv h
    exact FrO.same _ rfl
  · obtain ⟨_, _, _, _, _, _, _, rfl⟩ := sixF_inv h
    rfl
end Go.Jx
end

/- The calls of slices.IndexFunc and of strings.IndexFunc. -/
section
set_option linter.unusedVariables false
set_option maxRecDepth 100000
noncomputable section
namespace Go.Proofs.YtcnhjofpmpipfaaGreat
open Go Go.Sx Go.RowKit Go.Jx
theorem ixF97 : IdxFacts Tryz.prog ttT.get cRule fi97 (cL fb97) (cL (cL (cR fb97))) (cB (cB (cR (cL (cR fb97))))) (cR (cR fb97)) :=
  ⟨by kernel_rfl, by kernel_rfl, fun mr => by kernel_rfl, fun R clK B0 mr lf l g caps S kk => by kernel_rfl, fun R clK B0 mr lf l g caps S kk => by kernel_rfl, fun R clK B0 mr lf l g caps S i kk => by kernel_rfl, fun R clK B0 mr lf fr S kk => by kernel_rfl, by kernel_rfl, by kernel_rfl, fun mr => by kernel_rfl⟩
theorem ixO97 : HxOK Tryz.prog 97 (idxF cRule) := idx_ok ixF97 mixed ttOK fo97
theorem ixF117 : IdxFacts Tryz.prog ttT.get cForm fi117 (cL fb117) (cL (cL (cR fb117))) (cB (cB (cR (cL (cR fb117))))) (cR (cR fb117)) :=
  ⟨by kernel_rfl, by kernel_rfl, fun mr => by kernel_rfl, fun R clK B0 mr lf l g caps S kk => by kernel_rfl, fun R clK B0 mr lf l g caps S kk => by kernel_rfl, fun R clK B0 mr lf l g caps S i kk => by kernel_rfl, fun R clK B0 mr lf fr S kk => by kernel_rfl, by kernel_rfl, by kernel_rfl, fun mr => by kernel_rfl⟩
theorem ixO117 : HxOK Tryz.prog 117 (idxF cForm) := idx_ok ixF117 mixed ttOK fo117
theorem ixF132 : IdxFacts Tryz.prog ttT.get cCol fi132 (cL fb132) (cL (cL (cR fb132))) (cB (cB (cR (cL (cR fb132))))) (cR (cR fb132)) :=
  ⟨by kernel_rfl, by kernel_rfl, fun mr => by kernel_rfl, fun R clK B0 mr lf l g caps S kk => by kernel_rfl, fun R clK B0 mr lf l g caps S kk => by kernel_rfl, fun R clK B0 mr lf l g caps S i kk => by kernel_rfl, fun R clK B0 mr lf fr S kk => by kernel_rfl, by kernel_rfl, by kernel_rfl, fun mr => by kernel_rfl⟩
theorem ixO132 : HxOK Tryz.prog 132 (idxF cCol) := idx_ok ixF132 mixed ttOK fo132
theorem sxF144 : SixFacts Tryz.prog ttT.get fi144 (cL fb144) (cL (cL (cR fb144))) (cB (cB (cR (cL (cR fb144))))) (cR (cR fb144)) :=
  ⟨by kernel_rfl, by kernel_rfl, fun mr mw => by kernel_rfl, fun R clK B0 mr mw lf s g caps b S kk => by kernel_rfl, fun R B0 mr mw lf g caps b a id rd S S' test kk => by kernel_rfl, fun R clK B0 mr mw lf fr S kk => by kernel_rfl, by kernel_rfl, by kernel_rfl, fun mr mw => by kernel_rfl⟩
theorem ixO144 : HxOK Tryz.prog 144 sixF := six_ok sxF144 mixed ttOK fo144
end Go.Proofs.YtcnhjofpmpipfaaGreat

end
end

/- Loops over lists by an index, and what helps to read plain forms. -/
section
set_option linter.unusedVariables false
namespace Go.Jx
open Go Go.Sx Go.RowKit
universe u

theorem cond_if {α : Type} (b : Bool) (x y : α) : cond b x y = if b = true then x else y := by cases b <;> rfl
/-- Small numbers. -/
theorem oL : Int.ofNat 0 = 0 ∧ Int.ofNat 1 = 1 ∧ Int.ofNat 2 = 2 ∧ Int.ofNat 3 = 3 ∧ Int.ofNat 4 = 4 ∧ Int.ofNat 5 = 5 ∧ Int.ofNat 6 = 6 ∧ Int.ofNat 7 = 7 ∧ Int.ofNat 8 = 8 ∧ Int.ofNat 9 = 9 ∧ Int.ofNat 10 = 10 ∧ Int.ofNat 12 = 12 ∧ Int.ofNat 16 = 16 ∧ Int.ofNat 20 = 20 ∧ Int.ofNat 24 = 24 ∧ Int.ofNat 30 = 30 ∧ Int.ofNat 31 = 31 ∧ Int.ofNat 40 = 40 ∧ Int.ofNat 45 = 45 ∧ Int.ofNat 48 = 48 ∧ Int.ofNat 57 = 57 ∧ Int.ofNat 60 = 60 ∧ Int.ofNat 64 = 64 ∧ Int.ofNat 65 = 65 ∧ Int.ofNat 70 = 70 ∧ Int.ofNat 90 = 90 ∧ Int.ofNat 95 = 95 ∧ Int.ofNat 97 = 97 ∧ Int.ofNat 100 = 100 ∧ Int.ofNat 122 = 122 ∧ Int.ofNat 127 = 127 ∧ Int.ofNat 128 = 128 ∧ Int.ofNat 200 = 200 ∧ Int.ofNat 256 = 256 ∧ Int.ofNat 400 = 400 ∧ Int.ofNat 410 = 410 ∧ Int.ofNat 1500 = 1500 ∧ Int.ofNat 60000 = 60000 ∧ Int.ofNat 60010 = 60010 ∧ Int.ofNat 65536 = 65536 ∧ Int.ofNat 16777216 = 16777216 ∧ Int.ofNat 2147483647 = 2147483647 ∧ Int.ofNat 1099511627776 = 1099511627776 :=
  ⟨rfl, rfl, rfl, rfl, rfl, rfl, rfl, rfl, rfl, rfl, rfl, rfl, rfl, rfl, rfl, rfl, rfl, rfl, rfl, rfl, rfl, rfl, rfl, rfl, rfl, rfl, rfl, rfl, rfl, rfl, rfl, rfl, rfl, rfl, rfl, rfl, rfl, rfl, rfl, rfl, rfl, rfl, rfl⟩
theorem oLn : Int.negSucc 0 = -1 ∧ Int.negSucc 1099511627775 = -1099511627776 := ⟨rfl, rfl⟩
theorem jget_nat {α : Type} {l : List α} {i : Nat} : jget l (Int.ofNat i) = l[i]? := by unfold jget; rw [if_pos (by simp)]; simp
theorem jget_of {α : Type} {l : List α} {i : Int} (h0 : 0 ≤ i) (h1 : i < l.length) : ∃ x, jget l i = some x ∧ l[i.toNat]? = some x ∧ x ∈ l := by
  have h2 : i.toNat < l.length := by omega
  refine ⟨l[i.toNat], ?_, List.getElem?_eq_getElem h2, List.getElem_mem h2⟩
  unfold jget
  rw [if_pos h0, List.getElem?_eq_getElem h2]
theorem bsz_one : ∀ c : TC, 1 ≤ bsz c
  | .int k => by cases k <;> simp [bsz]
  | .bool => by simp [bsz]
  | .str => by simp [bsz]
  | .list _ => by simp [bsz]
  | .two a b => by have := bsz_one a; simp only [bsz]; omega
def LF : Nat := 9223372036854775808
theorem wf_len {c : TC} {l : El (.list c)} (h : WfE (.list c) l) : List.length (α := El c) l < LF := by
  have h1 := h.1
  have h2 := bsz_one c
  have : List.length (α := El c) l * 1 ≤ List.length (α := El c) l * bsz c := Nat.mul_le_mul_left _ h2
  unfold LF
  omega
theorem wrap_succ {n : Nat} (h : n + 1 < LF) : IntKind.i64.wrap (Int.add (Int.ofNat n) (Int.ofNat 1)) = Int.ofNat (n + 1) := by
  unfold LF at h
  rw [show Int.add (Int.ofNat n) (Int.ofNat 1) = Int.ofNat (n + 1) from rfl]
  exact wrap64_in (by simp; omega)
/-- What is known at a round over an element of a list. -/
structure Rnd {α : Type} (l : List α) (i : Nat) (v : α) (rest : List α) : Prop where
  drop : l.drop i = v :: rest
  mem : v ∈ l
  lt : i < l.length
  ilt : iltI (Int.ofNat i) (Int.ofNat l.length) = true
  get : jget l (Int.ofNat i) = some v
  get? : l[i]? = some v
  next : IntKind.i64.wrap (Int.add (Int.ofNat i) (Int.ofNat 1)) = Int.ofNat (i + 1)
  tail : l.drop (i + 1) = rest
  take : l.take (i + 1) = l.take i ++ [v]
theorem ilt_self (n : Nat) : iltI (Int.ofNat n) (Int.ofNat n) = false := by rw [iltI_eq]; simp
theorem rnd_of {α : Type} {l : List α} {i : Nat} (h : i < l.length) (hl : l.length < LF) : ∃ v rest, Rnd l i v rest := by
  refine ⟨l[i], l.drop (i + 1), List.drop_eq_getElem_cons h, List.getElem_mem h, h, by rw [iltI_eq]; simp; omega, ?_, List.getElem?_eq_getElem h, wrap_succ (by omega), rfl, ?_⟩
  · rw [jget_nat]; exact List.getElem?_eq_getElem h
  · rw [List.take_succ_eq_append_getElem h]
/-- A loop over a list by an index. -/
theorem range_by {α σ A R : Type} {T : (A → Option R) → A → Option R} (l : List α) (mk : Int → σ → A) (I : Nat → σ → Prop) (g : List α → Nat → σ → Option R) (hl : l.length < LF)
    (hnil : ∀ K s, I l.length s → T K (mk (Int.ofNat l.length) s) = g [] l.length s)
    (hcons : ∀ K i v rest s, I i s → Rnd l i v rest → (∀ s', I (i + 1) s' → K (mk (Int.ofNat (i + 1)) s') = g rest (i + 1) s') → T K (mk (Int.ofNat i) s) = g (v :: rest) i s) :
    ∀ n i s, i ≤ l.length → I i s → l.length - i < n → rounds T n (mk (Int.ofNat i) s) = g (l.drop i) i s
  | 0, i, s, _, _, h => by omega
  | n + 1, i, s, hi, hI, h => by
    show T (rounds T n) (mk (Int.ofNat i) s) = _
    by_cases e : i = l.length
    · subst e
      rw [hnil _ _ hI, List.drop_length]
    · obtain ⟨v, rest, r⟩ := rnd_of (l := l) (i := i) (by omega) hl
      rw [hcons (rounds T n) i v rest s hI r fun s' hI' => ?_, r.drop]
      rw [range_by l mk I g hl hnil hcons n (i + 1) s' (by have := r.lt; omega) hI' (by omega), r.tail]
/-- The same from the start. -/
theorem range0 {α σ A R : Type} {T : (A → Option R) → A → Option R} (l : List α) (mk : Int → σ → A) (I : Nat → σ → Prop) (g : List α → Nat → σ → Option R) (hl : l.length < LF)
    (hnil : ∀ K s, I l.length s → T K (mk (Int.ofNat l.length) s) = g [] l.length s)
    (hcons : ∀ K i v rest s, I i s → Rnd l i v rest → (∀ s', I (i + 1) s' → K (mk (Int.ofNat (i + 1)) s') = g rest (i + 1) s') → T K (mk (Int.ofNat i) s) = g (v :: rest) i s)
    (s : σ) (hI : I 0 s) : rounds T LF (mk (Int.ofNat 0) s) = g l 0 s := by
  have := range_by l mk I g hl hnil hcons LF 0 s (Nat.zero_le _) hI (by omega)
  rwa [List.drop_zero] at this
/-- Without a state. -/
theorem range1 {α R : Type} {T : (Int → Option R) → Int → Option R} (l : List α) (g : List α → Nat → Option R) (hl : l.length < LF)
    (hnil : ∀ K, T K (Int.ofNat l.length) = g [] l.length)
    (hcons : ∀ K i v rest, Rnd l i v rest → K (Int.ofNat (i + 1)) = g rest (i + 1) → T K (Int.ofNat i) = g (v :: rest) i) : rounds T LF (Int.ofNat 0) = g l 0 :=
  range0 (σ := Unit) l (fun i _ => i) (fun _ _ => True) (fun rest i _ => g rest i) hl (fun K _ _ => hnil K) (fun K i v rest _ _ r h => hcons K i v rest r (h () trivial)) () trivial
theorem sixO_some {p : Nat → Int → Option Bool} {q : Int → Bool} (hp : ∀ i r, p i r = some (q r)) (s : ByteArray) (b : Bool) : ∀ (n i : Nat), s.size - i < n → ∃ k, sixO p s b n i = some k
  | 0, i, h => by omega
  | n + 1, i, h => by
    unfold sixO
    cases hlt : Nat.blt i s.size with
    | false => exact ⟨_, rfl⟩
    | true =>
      have h1 : i < s.size := by simpa using hlt
      simp only [cond_true, hp]
      cases decide (q (Int.ofNat (Utf8.decode s i).1) = b) with
      | true => exact ⟨_, rfl⟩
      | false =>
        rw [cond_false]
        have := decode_width s i
        exact sixO_some hp s b n _ (by omega)
namespace S
/-- The index of the first that is so; -1 if there is none. -/
def idx {α : Type} (p : α → Bool) (l : List α) : Int := match l.findIdx? p with
  | some j => Int.ofNat j
  | none => -1
theorem idx_nonneg {α : Type} (p : α → Bool) (l : List α) : 0 ≤ idx p l ↔ l.any p = true := by
  unfold idx
  cases h : l.findIdx? p with
  | none =>
    simp only
    rw [List.findIdx?_eq_none_iff] at h
    constructor
    · intro h; omega
    · intro h2
      rw [List.any_eq_true] at h2
      obtain ⟨x, hx, hp⟩ := h2
      rw [h x hx] at hp; cases hp
  | some j =>
    simp only
    obtain ⟨h1, h2, h3⟩ := List.findIdx?_eq_some_iff_getElem.1 h
    constructor
    · intro _
      rw [List.any_eq_true]
      exact ⟨_, List.getElem_mem h1, h2⟩
    · intro _; exact Int.natCast_nonneg _
theorem idx_get {α : Type} {p : α → Bool} {l : List α} (h : 0 ≤ idx p l) : ∃ x, jget l (idx p l) = some x ∧ l[(idx p l).toNat]? = some x ∧ p x = true ∧ x ∈ l ∧ idx p l < l.length ∧ l.find? p = some x := by
  unfold idx at h ⊢
  cases hf : l.findIdx? p with
  | none => rw [hf] at h; simp at h
  | some j =>
    simp only
    obtain ⟨h1, h2, h3⟩ := List.findIdx?_eq_some_iff_getElem.1 hf
    refine ⟨l[j], ?_, by simp [h1], h2, List.getElem_mem h1, by simpa using h1, ?_⟩
    · rw [jget_nat]; exact List.getElem?_eq_getElem h1
    · rw [List.find?_eq_some_iff_getElem]
      exact ⟨h2, j, h1, rfl, fun k hk => by simpa using h3 k hk⟩
theorem idx_neg {α : Type} {p : α → Bool} {l : List α} (h : idx p l < 0) : l.find? p = none := by
  have h2 : l.any p = false := by
    cases ha : l.any p with
    | false => rfl
    | true => have := (idx_nonneg p l).2 ha; omega
  rw [List.find?_eq_none]
  rw [List.any_eq_false] at h2
  exact h2
end S
theorem idxO_idx {α : Type} {p : α → Option Bool} (q : α → Bool) {l : List α} (h : ∀ x ∈ l, p x = some (q x)) : idxO p l 0 = some (S.idx q l) := by
  rw [idxO_some h]
  unfold S.idx
  cases l.findIdx? q <;> simp
end Go.Jx
end

/- What the functions of package pack compute: plain functions over data. -/
section
set_option linter.unusedVariables false
noncomputable section
namespace Go.Proofs.YtcnhjofpmpipfaaGreat
open Go Go.Sx Go.RowKit Go.Jx
abbrev DVal : Type := Int × Int
abbrev DNode : Type := ByteArray × List DVal
abbrev DGraph : Type := List DNode × List DVal
abbrev DCol : Type := ByteArray × Int × ByteArray
abbrev DForm : Type := ByteArray × List DCol
abbrev DGive : Type := ByteArray × Int × Int
abbrev DRule : Type := ByteArray × ByteArray × List DGive
abbrev DRefusal : Type := Int × ByteArray
namespace S
open Go.Jx.S
def within (n lo hi : Int) : Bool := decide (lo ≤ n) && decide (n ≤ hi)
def unlessE (b : Bool) (e : Int) : Int := cond b 0 e
def first : List Int → Int
  | [] => 0
  | e :: l => if e = 0 then first l else e
def ANY : ByteArray := S.lit [65, 78, 89]
def form (l : List DForm) (n : ByteArray) : Int := idx (fun f => keqS f.1 n) l
def col (l : List DCol) (n : ByteArray) : Int := idx (fun c => keqS c.1 n) l
def zRule : DRule := (S.lit [], S.lit [], [])
def zCol : DCol := (S.lit [], 0, S.lit [])
def zGive : DGive := (S.lit [], 0, 0)
def zForm : DForm := (S.lit [], [])
def zVal : DVal := (0, 0)
def zNode : DNode := (S.lit [], [])
def zGraph : DGraph := ([], [])
def zRefusal : DRefusal := (0, S.lit [])
def at_ {α : Type} (d : α) (l : List α) (i : Int) : α := (l[i.toNat]?).getD d
def ruleOf (l : List DRule) (c : ByteArray) : DRule × Bool := match l.find? (fun r => keqS r.1 c) with
  | some r => (r, true)
  | none => (zRule, false)
def badR (r lo hi : Int) : Bool := !((decide (lo ≤ r) && decide (r ≤ hi)) || (decide (48 ≤ r) && decide (r ≤ 57)) || decide (r = 95))
def named (s : ByteArray) (lo hi : Int) : Bool :=
  if s = S.lit [] then false
  else if 20 < s.size then false
  else match (byteList s)[0]? with
    | none => false
    | some b => if b < lo then false else if hi < b then false else match sixO (fun _ r => some (badR r lo hi)) s true (s.size + 1) 0 with
      | none => false
      | some i => decide (i < 0)
def classWords : List ByteArray := [S.lit [73, 78, 84, 69, 71, 69, 82], S.lit [66, 79, 79, 76, 69, 65, 78], ANY, S.lit [78, 79, 78, 69]]
def smallWords : List ByteArray := [S.lit [116, 114, 117, 101], S.lit [102, 97, 108, 115, 101], S.lit [118, 111, 105, 100], S.lit [99, 117, 114, 114, 101, 110, 116], S.lit [114, 101, 115, 117, 108, 116]]
def index (l : List ByteArray) (v : ByteArray) : Int := idx (fun x => keqS v x) l
def class_ (s : ByteArray) : Bool := named s 65 90 && decide (index classWords s < 0)
def small (s : ByteArray) : Bool := named s 97 122 && decide (index smallWords s < 0)
def ccGo (l : List DCol) : Nat → List DCol → Int
  | _, [] => 0
  | k, c :: r =>
    if small c.1 = false then 4
    else if ¬ col (l.take k) c.1 < 0 then 6
    else if within c.2.1 1 3 = false then 1
    else if ¬ c.2.1 = 3 ∧ ¬ c.2.2 = S.lit [] then 1
    else ccGo l (k + 1) r
def checkCols (l : List DCol) : Int := if 30 < l.length then 3 else ccGo l 0 l
def cfIn (l : List DForm) : List DCol → Bool
  | [] => true
  | c :: r => if c.2.1 = 3 ∧ ¬ c.2.2 = ANY ∧ form l c.2.2 < 0 then false else cfIn l r
def cfGo2 (l : List DForm) : List DForm → Int
  | [] => 0
  | f :: r => if cfIn l f.2 = true then cfGo2 l r else 5
def cfGo (l : List DForm) : Nat → List DForm → Int
  | _, [] => cfGo2 l l
  | k, f :: r =>
    let e := first [unlessE (class_ f.1) 4, unlessE (decide (form (l.take k) f.1 < 0)) 6, checkCols f.2]
    if e = 0 then cfGo l (k + 1) r else e
def checkForms (l : List DForm) : Int := if 24 < l.length then 3 else cfGo l 0 l
def value (v : DVal) (many : Int) : Bool :=
  if v.1 = 1 then within v.2 (-1099511627776) 1099511627776
  else if v.1 = 2 then within v.2 0 1
  else if v.1 = 3 then decide (v.2 = 0)
  else if v.1 = 4 then within v.2 0 (IntKind.i64.wrap (Int.sub many (Int.ofNat 1)))
  else false
def refers (v : DVal) : Bool := decide (v.1 = 3) || decide (v.1 = 4)
def formed (g : DGraph) : Int :=
  if 400 < g.1.length ∨ 60 < g.2.length then 3
  else if g.1.any (fun n => decide (30 < n.2.length)) then 3
  else if g.1.any (fun n => n.2.any fun v => !value v (Int.ofNat g.1.length)) then 2
  else if g.2.any (fun v => !value v (Int.ofNat g.1.length) || !refers v) then 2
  else 0
def suits (g : DGraph) (c : DCol) (v : DVal) : Bool :=
  if c.2.1 = 1 then decide (v.1 = 1)
  else if c.2.1 = 2 then decide (v.1 = 2)
  else decide (v.1 = 3) || (decide (v.1 = 4) && (decide (c.2.2 = ANY) || decide ((at_ zNode g.1 v.2).1 = c.2.2)))
def colsOf (l : List DForm) (c : ByteArray) : List DCol := (at_ zForm l (form l c)).2
def suitsAll (g : DGraph) : List DCol → List DVal → Bool
  | c :: cs, v :: vs => if suits g c v = true then suitsAll g cs vs else false
  | _, _ => true
def typed (l : List DForm) (g : DGraph) : List DNode → Bool
  | [] => true
  | n :: ns => if n.2.length = (colsOf l n.1).length then (if suitsAll g (colsOf l n.1) n.2 = true then typed l g ns else false) else false
def check (l : List DForm) (g : DGraph) : Int :=
  if ¬ formed g = 0 then formed g
  else if g.1.any (fun n => decide (form l n.1 < 0)) then 4
  else unlessE (typed l g g.1) 8
def leads (l : List DRule) (a b : ByteArray) : Bool := decide (b = ANY) || ((ruleOf l a).2 && decide ((ruleOf l a).1.2.1 = b))
def fits (l : List DRule) (g : DGive) (a b : DCol) : Bool :=
  if g.2.1 = 1 then decide (a.2.1 = b.2.1) && (decide (¬ a.2.1 = 3) || leads l a.2.2 b.2.2)
  else if g.2.1 = 2 then decide (a.2.1 = 2) && decide (b.2.1 = 1)
  else if g.2.1 = 3 then decide (a.2.1 = 1) && decide (b.2.1 = 2)
  else if g.2.1 = 4 then decide (a.2.1 = 1) && decide (b.2.1 = 1)
  else if g.2.1 = 5 then decide (a.2.1 = 3) && (decide (b.2.1 = 3) && leads l a.2.2 b.2.2)
  else if g.2.1 = 6 then decide (b.2.1 = 1) || (decide (b.2.1 = 2) && within g.2.2 0 1)
  else decide (b.2.1 = 3)
def most (g : DGive) : Int := if g.2.1 = 4 ∨ g.2.1 = 6 then 1099511627776 else 0
def give (l : List DRule) (g : DGive) (cols : List DCol) (b : DCol) : Int :=
  if within g.2.1 1 5 = true ∧ col cols g.1 < 0 then 4
  else if within g.2.1 1 7 = false ∨ (within g.2.1 1 5 = false ∧ ¬ g.1 = S.lit []) ∨ within g.2.2 (-most g) (most g) = false ∨ (g.2.1 = 6 ∧ b.2.1 = 2 ∧ within g.2.2 0 1 = false) then 1
  else unlessE (fits l g (if within g.2.1 1 5 = true then at_ zCol cols (col cols g.1) else zCol) b) 8
def crGives (l : List DRule) (was : List DCol) : List DCol → List DGive → Int
  | c :: now, g :: r => if give l g was c = 0 then crGives l was now r else give l g was c
  | _, _ => 0
def crGo3 (a b : List DForm) (l : List DRule) : List DRule → Int
  | [] => 0
  | r :: rs =>
    if r.2.2.length = (colsOf b r.2.1).length then
      (if crGives l (colsOf a r.1) (colsOf b r.2.1) r.2.2 = 0 then crGo3 a b l rs else crGives l (colsOf a r.1) (colsOf b r.2.1) r.2.2)
    else 2
def crGo2 (a b : List DForm) (l : List DRule) : List DForm → Int
  | [] => crGo3 a b l l
  | f :: fs => if (ruleOf l f.1).2 = true then crGo2 a b l fs else 5
def crGo (a b : List DForm) (l : List DRule) : Nat → List DRule → Int
  | _, [] => crGo2 a b l a
  | k, r :: rs => if form a r.1 < 0 then 4 else if form b r.2.1 < 0 then 4 else if (ruleOf (l.take k) r.1).2 = true then 6 else crGo a b l (k + 1) rs
def checkRules0 (a b : List DForm) (l : List DRule) : Int := if 24 < l.length then 3 else crGo a b l 0 l
def checkRules (a b : List DForm) (l : List DRule) : Int := if first [checkForms a, checkForms b] = 0 then checkRules0 a b l else first [checkForms a, checkForms b]
/-- The value that a way takes. -/
def src (g : DGive) (cols : List DCol) (l : List DVal) : DVal := at_ zVal l (col cols g.1)
def made (g : DGive) (cols : List DCol) (l : List DVal) (b : DCol) : DVal × Bool :=
  if g.2.1 = 6 then (if b.2.1 = 2 then ((2, g.2.2), true) else ((1, g.2.2), true))
  else if g.2.1 = 7 then ((3, 0), true)
  else if g.2.1 = 2 then ((1, (src g cols l).2), true)
  else if g.2.1 = 3 then ((2, (src g cols l).2), within (src g cols l).2 0 1)
  else if g.2.1 = 4 then (src g cols l, decide ((src g cols l).2 < g.2.2))
  else if g.2.1 = 5 then (src g cols l, decide ((src g cols l).1 = 4))
  else (src g cols l, true)
/-- The values of an object, or the name of the field that cannot be made. -/
def cvIn (cols : List DCol) (vs : List DVal) : List DGive → List DCol → List DVal → Option (List DVal) × ByteArray
  | g :: gs, c :: cs, acc => if (made g cols vs c).2 = true then cvIn cols vs gs cs (acc ++ [(made g cols vs c).1]) else (none, c.1)
  | _, _, acc => (some acc, S.lit [])
def cvGo (a b : List DForm) (l : List DRule) (roots : List DVal) : Nat → List DNode → List DNode → DGraph × DRefusal × Int
  | _, [], acc => ((acc, roots), zRefusal, 0)
  | i, n :: ns, acc =>
    let r := (ruleOf l n.1).1
    match cvIn (colsOf a n.1) n.2 r.2.2 (colsOf b r.2.1) [] with
    | (some vs, _) => cvGo a b l roots (i + 1) ns (acc ++ [(r.2.1, vs)])
    | (none, c) => (zGraph, (Int.ofNat i, c), 10)
def convert (a b : List DForm) (l : List DRule) (g : DGraph) : DGraph × DRefusal × Int :=
  if ¬ checkRules a b l = 0 then (zGraph, zRefusal, checkRules a b l)
  else if ¬ check a g = 0 then (zGraph, zRefusal, check a g)
  else cvGo a b l g.2 0 g.1 []
end S
def sp_p_within : Sm := ⟨[.int .i64, .int .i64, .int .i64], [(false, .bool)], fun x => some (S.within x.1 x.2.1 x.2.2.1, ())⟩
def sp_p_first : Sm := ⟨[.list (.int .i64)], [(false, .int .i64)], fun x => some (S.first x.1, ())⟩
def sp_p_form : Sm := ⟨[.list cForm, .str], [(false, .int .i64)], fun x => some (S.form x.1 x.2.1, ())⟩
def sp_p_col : Sm := ⟨[.list cCol, .str], [(false, .int .i64)], fun x => some (S.col x.1 x.2.1, ())⟩
def sp_p_ruleOf : Sm := ⟨[.list cRule, .str], [(false, cRule), (false, .bool)], fun x => some ((S.ruleOf x.1 x.2.1).1, (S.ruleOf x.1 x.2.1).2, ())⟩
def sp_p_named : Sm := ⟨[.str, .int .u8, .int .u8], [(false, .bool)], fun x => some (S.named x.1 x.2.1 x.2.2.1, ())⟩
def sp_slices_Index_string : Sm := ⟨[.list .str, .str], [(false, .int .i64)], fun x => some (S.index x.1 x.2.1, ())⟩
def sp_p_class : Sm := ⟨[.str], [(false, .bool)], fun x => some (S.class_ x.1, ())⟩
def sp_p_small : Sm := ⟨[.str], [(false, .bool)], fun x => some (S.small x.1, ())⟩
def sp_p_checkCols : Sm := ⟨[.list cCol], [(false, .int .i64)], fun x => some (S.checkCols x.1, ())⟩
def sp_p_CheckForms : Sm := ⟨[.list cForm], [(false, .int .i64)], fun x => some (S.checkForms x.1, ())⟩
def sp_p_leads : Sm := ⟨[.list cRule, .str, .str], [(false, .bool)], fun x => some (S.leads x.1 x.2.1 x.2.2.1, ())⟩
def sp_p_fits : Sm := ⟨[.list cRule, cGive, cCol, cCol], [(false, .bool)], fun x => some (S.fits x.1 x.2.1 x.2.2.1 x.2.2.2.1, ())⟩
def sp_p_give : Sm := ⟨[.list cRule, cGive, .list cCol, cCol], [(false, .int .i64)], fun x => some (S.give x.1 x.2.1 x.2.2.1 x.2.2.2.1, ())⟩
def sp_p_checkRules : Sm := ⟨[.list cForm, .list cForm, .list cRule], [(false, .int .i64)], fun x => some (S.checkRules0 x.1 x.2.1 x.2.2.1, ())⟩
end Go.Proofs.YtcnhjofpmpipfaaGreat

end
end

/- Made by program: plain forms of functions. -/
section
set_option linter.unusedVariables false
set_option maxRecDepth 100000
noncomputable section
namespace Go.Proofs.YtcnhjofpmpipfaaGreat
open Go Go.Sx Go.RowKit Go.Jx
def nm_p_within : Nat → Option Nm := fun k => none
def st_p_within : Nat → Bool := fun k => false
def hd_p_within : Nat → Bool := fun k => false
abbrev Rt_p_within : Type := Bool × Unit
def sml_p_within : List (Nat × Sm) := []
def hxl_p_within : List (Nat × Hx) := []
def cl_p_within (R : Type) (lf : Nat) : ClK R := icallK Tryz.prog ttT.get ftT.get (nm1 86 nm_p_within) (smL sml_p_within) (hxL hxl_p_within) lf 20 R
abbrev id_p_within : Nat := 86
def R_p_within_in (lf : Nat) (x1 : Int) (x2 : Int) (x3 : Int) : Option Rt_p_within := (cond (Bool.not (iltI x1 x2)) (some ((Bool.not (iltI x3 x1)), ())) (some (Bool.false, ())))
theorem in_p_within (g : ElA [(.int .i64), (.int .i64), (.int .i64)] → Option Rt_p_within) (J : Nat → List Nat → NRes → Option Rt_p_within) (lf : Nat) (x1 : Int) (x2 : Int) (x3 : Int) : icodeT Tryz.prog ttT.get nm_p_within fi86.nt (cl_p_within _ lf) lf st_p_within J fi86.body [] (argGo (argV [(.int .i64), (.int .i64), (.int .i64)] (x1, x2, x3, ())) 0 .leaf) S0 [] (lastK ttT.get fi86 ⟨[(.int .i64), (.int .i64), (.int .i64)], [(false, .bool)], g⟩) = R_p_within_in lf x1 x2 x3 := by kernel_rfl
theorem nd_p_within : (regs fi86.body).Nodup := by decide +kernel
theorem ok_p_within : okC nm_p_within st_p_within hd_p_within fi86.body none = true := by kernel_rfl
def A_p_within (g : ElA [(.int .i64), (.int .i64), (.int .i64)] → Option Rt_p_within) (lf : Nat) : Nat → List Nat → NRes → Option Rt_p_within := atN Tryz.prog ttT.get nm_p_within fi86 ⟨[(.int .i64), (.int .i64), (.int .i64)], [(false, .bool)], g⟩ (cl_p_within _ lf) lf hd_p_within
def F_p_within (lf : Nat) (x1 : Int) (x2 : Int) (x3 : Int) : Option Rt_p_within := R_p_within_in lf x1 x2 x3
theorem run_p_within (g : ElA [(.int .i64), (.int .i64), (.int .i64)] → Option Rt_p_within) (lf : Nat) (x1 : Int) (x2 : Int) (x3 : Int) : icodeT Tryz.prog ttT.get nm_p_within fi86.nt (cl_p_within _ lf) lf st_p_within (A_p_within g lf) fi86.body [] (argGo (argV [(.int .i64), (.int .i64), (.int .i64)] (x1, x2, x3, ())) 0 .leaf) S0 [] (lastK ttT.get fi86 ⟨[(.int .i64), (.int .i64), (.int .i64)], [(false, .bool)], g⟩) = F_p_within lf x1 x2 x3 := by
    refine (in_p_within g (A_p_within g lf) lf x1 x2 x3).trans ?_
    rfl
theorem hxs_p_within : HxsOK Tryz.prog hxl_p_within := trivial
theorem mk_p_within {g : ElA [(.int .i64), (.int .i64), (.int .i64)] → Option Rt_p_within} (hsm : SmOK Tryz.prog sml_p_within) (hg : ∀ (x : ElA [(.int .i64), (.int .i64), (.int .i64)]) (y : Rt_p_within), WfA [(.int .i64), (.int .i64), (.int .i64)] x → g x = some y → ∃ lf, F_p_within lf x.1 x.2.1 x.2.2.1 = some y) : Con Tryz.prog 86 ⟨[(.int .i64), (.int .i64), (.int .i64)], [(false, .bool)], g⟩ :=
  conT (nmf := nm_p_within) (sml := sml_p_within) (hxl := hxl_p_within) (st := st_p_within) (hd := hd_p_within) 20 mixed ttOK ftOK hsm hxs_p_within cal86 rfl rfl (by kernel_rfl) (fun x => by kernel_rfl) nd_p_within ok_p_within fun x y hx hy => by
    obtain ⟨lf, h⟩ := hg x y hx hy
    exact ⟨lf, (run_p_within g lf x.1 x.2.1 x.2.2.1).trans h⟩
def nm_p_first : Nat → Option Nm := fun k => cond (Nat.beq k 2) (some ⟨[5, 6, 7], [], [], [], [], 0, 0, false⟩) (none)
def st_p_first : Nat → Bool := fun k => cond (Nat.beq k 2) true (false)
def hd_p_first : Nat → Bool := fun k => cond (Nat.beq k 2) true (false)
abbrev Rt_p_first : Type := Int × Unit
def sml_p_first : List (Nat × Sm) := []
def hxl_p_first : List (Nat × Hx) := []
def cl_p_first (R : Type) (lf : Nat) : ClK R := icallK Tryz.prog ttT.get ftT.get (nm1 33 nm_p_first) (smL sml_p_first) (hxL hxl_p_first) lf 20 R
abbrev id_p_first : Nat := 33
def enc_p_first_2 (x1 : (List Int)) (p : Int) : NRes := (NRes.mk (PT.node none (PT.node none (PT.node none (PT.node (some (IV.int Go.IntKind.i64 p)) PT.leaf PT.leaf) PT.leaf) (PT.node (some (IV.lst (TC.int Go.IntKind.i64) x1)) PT.leaf PT.leaf)) (PT.node none PT.leaf (PT.node (some (IV.int Go.IntKind.i64 (Int.ofNat (List.length x1)))) PT.leaf PT.leaf))) (IS.mk PT.leaf 0) [] 0)
def R_p_first_in (lf : Nat) (x1 : (List Int)) (L2 : Int → Option Rt_p_first) : Option Rt_p_first := (L2 (Int.ofNat 0))
def R_p_first_2 (lf : Nat) (x1 : (List Int)) (L2 : Int → Option Rt_p_first) (p : Int) : Option Rt_p_first := (cond (iltI p (Int.ofNat (List.length x1))) (match (jget x1 p) with | .none  => none | .some v0 => (cond (Bool.not (ieqI v0 (Int.ofNat 0))) (some (v0, ())) (L2 (Go.IntKind.wrap Go.IntKind.i64 (Int.add p (Int.ofNat 1)))))) (some ((Int.ofNat 0), ())))
theorem in_p_first (g : ElA [(.list (.int .i64))] → Option Rt_p_first) (J : Nat → List Nat → NRes → Option Rt_p_first) (lf : Nat) (x1 : (List Int)) : icodeT Tryz.prog ttT.get nm_p_first fi33.nt (cl_p_first _ lf) lf st_p_first J fi33.body [] (argGo (argV [(.list (.int .i64))] (x1, ())) 0 .leaf) S0 [] (lastK ttT.get fi33 ⟨[(.list (.int .i64))], [(false, (.int .i64))], g⟩) = R_p_first_in lf x1 (fun q => J 2 [lf] (enc_p_first_2 x1 q)) := by kernel_rfl
theorem st_p_first_2 (g : ElA [(.list (.int .i64))] → Option Rt_p_first) (J : Nat → List Nat → NRes → Option Rt_p_first) (lf : Nat) (x1 : (List Int)) (m1 : Nat) (p : Int) : icodeFT Tryz.prog ttT.get nm_p_first fi33.nt (cl_p_first _ lf) lf st_p_first J 2 fi33.body [] [m1] (enc_p_first_2 x1 p) (lastK ttT.get fi33 ⟨[(.list (.int .i64))], [(false, (.int .i64))], g⟩) = R_p_first_2 lf x1 (fun q => J 2 [m1] (enc_p_first_2 x1 q)) p := by kernel_rfl
theorem nd_p_first : (regs fi33.body).Nodup := by decide +kernel
theorem ok_p_first : okC nm_p_first st_p_first hd_p_first fi33.body none = true := by kernel_rfl
def A_p_first (g : ElA [(.list (.int .i64))] → Option Rt_p_first) (lf : Nat) : Nat → List Nat → NRes → Option Rt_p_first := atN Tryz.prog ttT.get nm_p_first fi33 ⟨[(.list (.int .i64))], [(false, (.int .i64))], g⟩ (cl_p_first _ lf) lf hd_p_first
def G_p_first_2 (lf : Nat) (x1 : (List Int)) : Nat → (Int) → Option Rt_p_first := rounds fun K p => R_p_first_2 lf x1 K p
theorem at_p_first_2 (g : ElA [(.list (.int .i64))] → Option Rt_p_first) (lf : Nat) (x1 : (List Int)) : ∀ (n : Nat) (p : Int), A_p_first g lf 2 [n] (enc_p_first_2 x1 p) = G_p_first_2 lf x1 n p
  | 0, p => atN_zero 2 [0] rfl _
  | n + 1, p => by
    have ih := at_p_first_2 g lf x1 n
    refine (atN_eq (icallK_eq 20 _) nd_p_first ok_p_first 2 [n + 1] [n] rfl _).trans ((st_p_first_2 g (A_p_first g lf) lf x1 n p).trans ?_)
    rw [(show (fun q => A_p_first g lf 2 [n] (enc_p_first_2 x1 q)) = (fun q => G_p_first_2 lf x1 n q) from funext ih)]
    rfl
def F_p_first (lf : Nat) (x1 : (List Int)) : Option Rt_p_first := R_p_first_in lf x1 (fun q => G_p_first_2 lf x1 lf q)
theorem run_p_first (g : ElA [(.list (.int .i64))] → Option Rt_p_first) (lf : Nat) (x1 : (List Int)) : icodeT Tryz.prog ttT.get nm_p_first fi33.nt (cl_p_first _ lf) lf st_p_first (A_p_first g lf) fi33.body [] (argGo (argV [(.list (.int .i64))] (x1, ())) 0 .leaf) S0 [] (lastK ttT.get fi33 ⟨[(.list (.int .i64))], [(false, (.int .i64))], g⟩) = F_p_first lf x1 := by
    refine (in_p_first g (A_p_first g lf) lf x1).trans ?_
    rw [(show (fun q => A_p_first g lf 2 [lf] (enc_p_first_2 x1 q)) = (fun q => G_p_first_2 lf x1 lf q) from funext fun q => at_p_first_2 g lf x1 lf q)]
    rfl
theorem hxs_p_first : HxsOK Tryz.prog hxl_p_first := trivial
theorem mk_p_first {g : ElA [(.list (.int .i64))] → Option Rt_p_first} (hsm : SmOK Tryz.prog sml_p_first) (hg : ∀ (x : ElA [(.list (.int .i64))]) (y : Rt_p_first), WfA [(.list (.int .i64))] x → g x = some y → ∃ lf, F_p_first lf x.1 = some y) : Con Tryz.prog 33 ⟨[(.list (.int .i64))], [(false, (.int .i64))], g⟩ :=
  conT (nmf := nm_p_first) (sml := sml_p_first) (hxl := hxl_p_first) (st := st_p_first) (hd := hd_p_first) 20 mixed ttOK ftOK hsm hxs_p_first cal33 rfl rfl (by kernel_rfl) (fun x => by kernel_rfl) nd_p_first ok_p_first fun x y hx hy => by
    obtain ⟨lf, h⟩ := hg x y hx hy
    exact ⟨lf, (run_p_first g lf x.1).trans h⟩
def nm_p_form : Nat → Option Nm := fun k => none
def st_p_form : Nat → Bool := fun k => false
def hd_p_form : Nat → Bool := fun k => false
abbrev Rt_p_form : Type := Int × Unit
def sml_p_form : List (Nat × Sm) := []
def hxl_p_form : List (Nat × Hx) := [(117, idxHx cForm)]
def cl_p_form (R : Type) (lf : Nat) : ClK R := icallK Tryz.prog ttT.get ftT.get (nm1 37 nm_p_form) (smL sml_p_form) (hxL hxl_p_form) lf 20 R
abbrev id_p_form : Nat := 37
def R_p_form_in (lf : Nat) (x1 : (List DForm)) (x2 : ByteArray) : Option Rt_p_form := (match (idxO (fun v0 => (some (keqS v0.1 x2))) x1 0) with | .none  => none | .some v1 => (some (v1, ())))
theorem in_p_form (g : ElA [(.list cForm), .str] → Option Rt_p_form) (J : Nat → List Nat → NRes → Option Rt_p_form) (lf : Nat) (x1 : (List DForm)) (x2 : ByteArray) : icodeT Tryz.prog ttT.get nm_p_form fi37.nt (cl_p_form _ lf) lf st_p_form J fi37.body [] (argGo (argV [(.list cForm), .str] (x1, x2, ())) 0 .leaf) S0 [] (lastK ttT.get fi37 ⟨[(.list cForm), .str], [(false, (.int .i64))], g⟩) = R_p_form_in lf x1 x2 := by kernel_rfl
theorem nd_p_form : (regs fi37.body).Nodup := by decide +kernel
theorem ok_p_form : okC nm_p_form st_p_form hd_p_form fi37.body none = true := by kernel_rfl
def A_p_form (g : ElA [(.list cForm), .str] → Option Rt_p_form) (lf : Nat) : Nat → List Nat → NRes → Option Rt_p_form := atN Tryz.prog ttT.get nm_p_form fi37 ⟨[(.list cForm), .str], [(false, (.int .i64))], g⟩ (cl_p_form _ lf) lf hd_p_form
def F_p_form (lf : Nat) (x1 : (List DForm)) (x2 : ByteArray) : Option Rt_p_form := R_p_form_in lf x1 x2
theorem run_p_form (g : ElA [(.list cForm), .str] → Option Rt_p_form) (lf : Nat) (x1 : (List DForm)) (x2 : ByteArray) : icodeT Tryz.prog ttT.get nm_p_form fi37.nt (cl_p_form _ lf) lf st_p_form (A_p_form g lf) fi37.body [] (argGo (argV [(.list cForm), .str] (x1, x2, ())) 0 .leaf) S0 [] (lastK ttT.get fi37 ⟨[(.list cForm), .str], [(false, (.int .i64))], g⟩) = F_p_form lf x1 x2 := by
    refine (in_p_form g (A_p_form g lf) lf x1 x2).trans ?_
    rfl
theorem hxs_p_form : HxsOK Tryz.prog hxl_p_form := ⟨ixO117, trivial⟩
theorem mk_p_form {g : ElA [(.list cForm), .str] → Option Rt_p_form} (hsm : SmOK Tryz.prog sml_p_form) (hg : ∀ (x : ElA [(.list cForm), .str]) (y : Rt_p_form), WfA [(.list cForm), .str] x → g x = some y → ∃ lf, F_p_form lf x.1 x.2.1 = some y) : Con Tryz.prog 37 ⟨[(.list cForm), .str], [(false, (.int .i64))], g⟩ :=
  conT (nmf := nm_p_form) (sml := sml_p_form) (hxl := hxl_p_form) (st := st_p_form) (hd := hd_p_form) 20 mixed ttOK ftOK hsm hxs_p_form cal37 rfl rfl (by kernel_rfl) (fun x => by kernel_rfl) nd_p_form ok_p_form fun x y hx hy => by
    obtain ⟨lf, h⟩ := hg x y hx hy
    exact ⟨lf, (run_p_form g lf x.1 x.2.1).trans h⟩
def nm_p_col : Nat → Option Nm := fun k => none
def st_p_col : Nat → Bool := fun k => false
def hd_p_col : Nat → Bool := fun k => false
abbrev Rt_p_col : Type := Int × Unit
def sml_p_col : List (Nat × Sm) := []
def hxl_p_col : List (Nat × Hx) := [(132, idxHx cCol)]
def cl_p_col (R : Type) (lf : Nat) : ClK R := icallK Tryz.prog ttT.get ftT.get (nm1 85 nm_p_col) (smL sml_p_col) (hxL hxl_p_col) lf 20 R
abbrev id_p_col : Nat := 85
def R_p_col_in (lf : Nat) (x1 : (List DCol)) (x2 : ByteArray) : Option Rt_p_col := (match (idxO (fun v0 => (some (keqS v0.1 x2))) x1 0) with | .none  => none | .some v1 => (some (v1, ())))
theorem in_p_col (g : ElA [(.list cCol), .str] → Option Rt_p_col) (J : Nat → List Nat → NRes → Option Rt_p_col) (lf : Nat) (x1 : (List DCol)) (x2 : ByteArray) : icodeT Tryz.prog ttT.get nm_p_col fi85.nt (cl_p_col _ lf) lf st_p_col J fi85.body [] (argGo (argV [(.list cCol), .str] (x1, x2, ())) 0 .leaf) S0 [] (lastK ttT.get fi85 ⟨[(.list cCol), .str], [(false, (.int .i64))], g⟩) = R_p_col_in lf x1 x2 := by kernel_rfl
theorem nd_p_col : (regs fi85.body).Nodup := by decide +kernel
theorem ok_p_col : okC nm_p_col st_p_col hd_p_col fi85.body none = true := by kernel_rfl
def A_p_col (g : ElA [(.list cCol), .str] → Option Rt_p_col) (lf : Nat) : Nat → List Nat → NRes → Option Rt_p_col := atN Tryz.prog ttT.get nm_p_col fi85 ⟨[(.list cCol), .str], [(false, (.int .i64))], g⟩ (cl_p_col _ lf) lf hd_p_col
def F_p_col (lf : Nat) (x1 : (List DCol)) (x2 : ByteArray) : Option Rt_p_col := R_p_col_in lf x1 x2
theorem run_p_col (g : ElA [(.list cCol), .str] → Option Rt_p_col) (lf : Nat) (x1 : (List DCol)) (x2 : ByteArray) : icodeT Tryz.prog ttT.get nm_p_col fi85.nt (cl_p_col _ lf) lf st_p_col (A_p_col g lf) fi85.body [] (argGo (argV [(.list cCol), .str] (x1, x2, ())) 0 .leaf) S0 [] (lastK ttT.get fi85 ⟨[(.list cCol), .str], [(false, (.int .i64))], g⟩) = F_p_col lf x1 x2 := by
    refine (in_p_col g (A_p_col g lf) lf x1 x2).trans ?_
    rfl
theorem hxs_p_col : HxsOK Tryz.prog hxl_p_col := ⟨ixO132, trivial⟩
theorem mk_p_col {g : ElA [(.list cCol), .str] → Option Rt_p_col} (hsm : SmOK Tryz.prog sml_p_col) (hg : ∀ (x : ElA [(.list cCol), .str]) (y : Rt_p_col), WfA [(.list cCol), .str] x → g x = some y → ∃ lf, F_p_col lf x.1 x.2.1 = some y) : Con Tryz.prog 85 ⟨[(.list cCol), .str], [(false, (.int .i64))], g⟩ :=
  conT (nmf := nm_p_col) (sml := sml_p_col) (hxl := hxl_p_col) (st := st_p_col) (hd := hd_p_col) 20 mixed ttOK ftOK hsm hxs_p_col cal85 rfl rfl (by kernel_rfl) (fun x => by kernel_rfl) nd_p_col ok_p_col fun x y hx hy => by
    obtain ⟨lf, h⟩ := hg x y hx hy
    exact ⟨lf, (run_p_col g lf x.1 x.2.1).trans h⟩
def nm_p_ruleOf : Nat → Option Nm := fun k => none
def st_p_ruleOf : Nat → Bool := fun k => false
def hd_p_ruleOf : Nat → Bool := fun k => false
abbrev Rt_p_ruleOf : Type := DRule × Bool × Unit
def sml_p_ruleOf : List (Nat × Sm) := []
def hxl_p_ruleOf : List (Nat × Hx) := [(97, idxHx cRule)]
def cl_p_ruleOf (R : Type) (lf : Nat) : ClK R := icallK Tryz.prog ttT.get ftT.get (nm1 36 nm_p_ruleOf) (smL sml_p_ruleOf) (hxL hxl_p_ruleOf) lf 20 R
abbrev id_p_ruleOf : Nat := 36
def R_p_ruleOf_in (lf : Nat) (x1 : (List DRule)) (x2 : ByteArray) : Option Rt_p_ruleOf := (match (idxO (fun v0 => (some (keqS v0.1 x2))) x1 0) with | .none  => none | .some v1 => (cond (iltI v1 (Int.ofNat 0)) (some (((S.lit []), ((S.lit []), [])), (Bool.false, ()))) (match (jget x1 v1) with | .none  => none | .some v2 => (some ((v2.1, (v2.2.1, v2.2.2)), (Bool.true, ()))))))
theorem in_p_ruleOf (g : ElA [(.list cRule), .str] → Option Rt_p_ruleOf) (J : Nat → List Nat → NRes → Option Rt_p_ruleOf) (lf : Nat) (x1 : (List DRule)) (x2 : ByteArray) : icodeT Tryz.prog ttT.get nm_p_ruleOf fi36.nt (cl_p_ruleOf _ lf) lf st_p_ruleOf J fi36.body [] (argGo (argV [(.list cRule), .str] (x1, x2, ())) 0 .leaf) S0 [] (lastK ttT.get fi36 ⟨[(.list cRule), .str], [(false, cRule), (false, .bool)], g⟩) = R_p_ruleOf_in lf x1 x2 := by kernel_rfl
theorem nd_p_ruleOf : (regs fi36.body).Nodup := by decide +kernel
theorem ok_p_ruleOf : okC nm_p_ruleOf st_p_ruleOf hd_p_ruleOf fi36.body none = true := by kernel_rfl
def A_p_ruleOf (g : ElA [(.list cRule), .str] → Option Rt_p_ruleOf) (lf : Nat) : Nat → List Nat → NRes → Option Rt_p_ruleOf := atN Tryz.prog ttT.get nm_p_ruleOf fi36 ⟨[(.list cRule), .str], [(false, cRule), (false, .bool)], g⟩ (cl_p_ruleOf _ lf) lf hd_p_ruleOf
def F_p_ruleOf (lf : Nat) (x1 : (List DRule)) (x2 : ByteArray) : Option Rt_p_ruleOf := R_p_ruleOf_in lf x1 x2
theorem run_p_ruleOf (g : ElA [(.list cRule), .str] → Option Rt_p_ruleOf) (lf : Nat) (x1 : (List DRule)) (x2 : ByteArray) : icodeT Tryz.prog ttT.get nm_p_ruleOf fi36.nt (cl_p_ruleOf _ lf) lf st_p_ruleOf (A_p_ruleOf g lf) fi36.body [] (argGo (argV [(.list cRule), .str] (x1, x2, ())) 0 .leaf) S0 [] (lastK ttT.get fi36 ⟨[(.list cRule), .str], [(false, cRule), (false, .bool)], g⟩) = F_p_ruleOf lf x1 x2 := by
    refine (in_p_ruleOf g (A_p_ruleOf g lf) lf x1 x2).trans ?_
    rfl
theorem hxs_p_ruleOf : HxsOK Tryz.prog hxl_p_ruleOf := ⟨ixO97, trivial⟩
theorem mk_p_ruleOf {g : ElA [(.list cRule), .str] → Option Rt_p_ruleOf} (hsm : SmOK Tryz.prog sml_p_ruleOf) (hg : ∀ (x : ElA [(.list cRule), .str]) (y : Rt_p_ruleOf), WfA [(.list cRule), .str] x → g x = some y → ∃ lf, F_p_ruleOf lf x.1 x.2.1 = some y) : Con Tryz.prog 36 ⟨[(.list cRule), .str], [(false, cRule), (false, .bool)], g⟩ :=
  conT (nmf := nm_p_ruleOf) (sml := sml_p_ruleOf) (hxl := hxl_p_ruleOf) (st := st_p_ruleOf) (hd := hd_p_ruleOf) 20 mixed ttOK ftOK hsm hxs_p_ruleOf cal36 rfl rfl (by kernel_rfl) (fun x => by kernel_rfl) nd_p_ruleOf ok_p_ruleOf fun x y hx hy => by
    obtain ⟨lf, h⟩ := hg x y hx hy
    exact ⟨lf, (run_p_ruleOf g lf x.1 x.2.1).trans h⟩
def nm_p_named : Nat → Option Nm := fun k => none
def st_p_named : Nat → Bool := fun k => false
def hd_p_named : Nat → Bool := fun k => false
abbrev Rt_p_named : Type := Bool × Unit
def sml_p_named : List (Nat × Sm) := []
def hxl_p_named : List (Nat × Hx) := [(144, sixHx)]
def cl_p_named (R : Type) (lf : Nat) : ClK R := icallK Tryz.prog ttT.get ftT.get (nm1 121 nm_p_named) (smL sml_p_named) (hxL hxl_p_named) lf 20 R
abbrev id_p_named : Nat := 121
def R_p_named_in (lf : Nat) (x1 : ByteArray) (x2 : Int) (x3 : Int) : Option Rt_p_named := (cond (keqS x1 (S.lit [])) (some (Bool.false, ())) (cond (iltI (Int.ofNat 20) (Int.ofNat (ByteArray.size x1))) (some (Bool.false, ())) (match (jget (byteList x1) (Int.ofNat 0)) with | .none  => none | .some v0 => (cond (iltI v0 x2) (some (Bool.false, ())) (match (jget (byteList x1) (Int.ofNat 0)) with | .none  => none | .some v1 => (cond (iltI x3 v1) (some (Bool.false, ())) (match (sixO (fun v2 v3 => (cond (Bool.not (iltI v3 (Go.IntKind.wrap Go.IntKind.i32 x2))) (cond (Bool.not (iltI (Go.IntKind.wrap Go.IntKind.i32 x3) v3)) (some Bool.false) (cond (Bool.not (iltI v3 (Int.ofNat 48))) (cond (Bool.not (iltI (Int.ofNat 57) v3)) (some Bool.false) (some (Bool.not (ieqI v3 (Int.ofNat 95))))) (some (Bool.not (ieqI v3 (Int.ofNat 95)))))) (cond (Bool.not (iltI v3 (Int.ofNat 48))) (cond (Bool.not (iltI (Int.ofNat 57) v3)) (some Bool.false) (some (Bool.not (ieqI v3 (Int.ofNat 95))))) (some (Bool.not (ieqI v3 (Int.ofNat 95))))))) x1 Bool.true (Nat.add (ByteArray.size x1) 1) 0) with | .none  => none | .some v4 => (some ((iltI v4 (Int.ofNat 0)), ())))))))))
theorem in_p_named (g : ElA [.str, (.int .u8), (.int .u8)] → Option Rt_p_named) (J : Nat → List Nat → NRes → Option Rt_p_named) (lf : Nat) (x1 : ByteArray) (x2 : Int) (x3 : Int) : icodeT Tryz.prog ttT.get nm_p_named fi121.nt (cl_p_named _ lf) lf st_p_named J fi121.body [] (argGo (argV [.str, (.int .u8), (.int .u8)] (x1, x2, x3, ())) 0 .leaf) S0 [] (lastK ttT.get fi121 ⟨[.str, (.int .u8), (.int .u8)], [(false, .bool)], g⟩) = R_p_named_in lf x1 x2 x3 := by kernel_rfl
theorem nd_p_named : (regs fi121.body).Nodup := by decide +kernel
theorem ok_p_named : okC nm_p_named st_p_named hd_p_named fi121.body none = true := by kernel_rfl
def A_p_named (g : ElA [.str, (.int .u8), (.int .u8)] → Option Rt_p_named) (lf : Nat) : Nat → List Nat → NRes → Option Rt_p_named := atN Tryz.prog ttT.get nm_p_named fi121 ⟨[.str, (.int .u8), (.int .u8)], [(false, .bool)], g⟩ (cl_p_named _ lf) lf hd_p_named
def F_p_named (lf : Nat) (x1 : ByteArray) (x2 : Int) (x3 : Int) : Option Rt_p_named := R_p_named_in lf x1 x2 x3
theorem run_p_named (g : ElA [.str, (.int .u8), (.int .u8)] → Option Rt_p_named) (lf : Nat) (x1 : ByteArray) (x2 : Int) (x3 : Int) : icodeT Tryz.prog ttT.get nm_p_named fi121.nt (cl_p_named _ lf) lf st_p_named (A_p_named g lf) fi121.body [] (argGo (argV [.str, (.int .u8), (.int .u8)] (x1, x2, x3, ())) 0 .leaf) S0 [] (lastK ttT.get fi121 ⟨[.str, (.int .u8), (.int .u8)], [(false, .bool)], g⟩) = F_p_named lf x1 x2 x3 := by
    refine (in_p_named g (A_p_named g lf) lf x1 x2 x3).trans ?_
    rfl
theorem hxs_p_named : HxsOK Tryz.prog hxl_p_named := ⟨ixO144, trivial⟩
theorem mk_p_named {g : ElA [.str, (.int .u8), (.int .u8)] → Option Rt_p_named} (hsm : SmOK Tryz.prog sml_p_named) (hg : ∀ (x : ElA [.str, (.int .u8), (.int .u8)]) (y : Rt_p_named), WfA [.str, (.int .u8), (.int .u8)] x → g x = some y → ∃ lf, F_p_named lf x.1 x.2.1 x.2.2.1 = some y) : Con Tryz.prog 121 ⟨[.str, (.int .u8), (.int .u8)], [(false, .bool)], g⟩ :=
  conT (nmf := nm_p_named) (sml := sml_p_named) (hxl := hxl_p_named) (st := st_p_named) (hd := hd_p_named) 20 mixed ttOK ftOK hsm hxs_p_named cal121 rfl rfl (by kernel_rfl) (fun x => by kernel_rfl) nd_p_named ok_p_named fun x y hx hy => by
    obtain ⟨lf, h⟩ := hg x y hx hy
    exact ⟨lf, (run_p_named g lf x.1 x.2.1 x.2.2.1).trans h⟩
def nm_slices_Index_string : Nat → Option Nm := fun k => cond (Nat.beq k 2) (some ⟨[0, 1, 7, 8], [], [], [], [], 0, 0, false⟩) (none)
def st_slices_Index_string : Nat → Bool := fun k => cond (Nat.beq k 2) true (false)
def hd_slices_Index_string : Nat → Bool := fun k => cond (Nat.beq k 2) true (false)
abbrev Rt_slices_Index_string : Type := Int × Unit
def sml_slices_Index_string : List (Nat × Sm) := []
def hxl_slices_Index_string : List (Nat × Hx) := []
def cl_slices_Index_string (R : Type) (lf : Nat) : ClK R := icallK Tryz.prog ttT.get ftT.get (nm1 136 nm_slices_Index_string) (smL sml_slices_Index_string) (hxL hxl_slices_Index_string) lf 20 R
abbrev id_slices_Index_string : Nat := 136
def enc_slices_Index_string_2 (x1 : (List ByteArray)) (x2 : ByteArray) (p : Int) : NRes := (NRes.mk (PT.node (some (IV.lst TC.str x1)) (PT.node (some (IV.str x2)) (PT.node none (PT.node (some (IV.int Go.IntKind.i64 (Int.ofNat (List.length x1)))) PT.leaf PT.leaf) PT.leaf) PT.leaf) (PT.node none (PT.node none (PT.node (some (IV.int Go.IntKind.i64 p)) PT.leaf PT.leaf) PT.leaf) PT.leaf)) (IS.mk PT.leaf 0) [] 0)
def R_slices_Index_string_in (lf : Nat) (x1 : (List ByteArray)) (x2 : ByteArray) (L2 : Int → Option Rt_slices_Index_string) : Option Rt_slices_Index_string := (L2 (Int.ofNat 0))
def R_slices_Index_string_2 (lf : Nat) (x1 : (List ByteArray)) (x2 : ByteArray) (L2 : Int → Option Rt_slices_Index_string) (p : Int) : Option Rt_slices_Index_string := (cond (iltI p (Int.ofNat (List.length x1))) (match (jget x1 p) with | .none  => none | .some v0 => (cond (keqS x2 v0) (some (p, ())) (L2 (Go.IntKind.wrap Go.IntKind.i64 (Int.add p (Int.ofNat 1)))))) (some ((Int.negSucc 0), ())))
theorem in_slices_Index_string (g : ElA [(.list .str), .str] → Option Rt_slices_Index_string) (J : Nat → List Nat → NRes → Option Rt_slices_Index_string) (lf : Nat) (x1 : (List ByteArray)) (x2 : ByteArray) : icodeT Tryz.prog ttT.get nm_slices_Index_string fi136.nt (cl_slices_Index_string _ lf) lf st_slices_Index_string J fi136.body [] (argGo (argV [(.list .str), .str] (x1, x2, ())) 0 .leaf) S0 [] (lastK ttT.get fi136 ⟨[(.list .str), .str], [(false, (.int .i64))], g⟩) = R_slices_Index_string_in lf x1 x2 (fun q => J 2 [lf] (enc_slices_Index_string_2 x1 x2 q)) := by kernel_rfl
theorem st_slices_Index_string_2 (g : ElA [(.list .str), .str] → Option Rt_slices_Index_string) (J : Nat → List Nat → NRes → Option Rt_slices_Index_string) (lf : Nat) (x1 : (List ByteArray)) (x2 : ByteArray) (m1 : Nat) (p : Int) : icodeFT Tryz.prog ttT.get nm_slices_Index_string fi136.nt (cl_slices_Index_string _ lf) lf st_slices_Index_string J 2 fi136.body [] [m1] (enc_slices_Index_string_2 x1 x2 p) (lastK ttT.get fi136 ⟨[(.list .str), .str], [(false, (.int .i64))], g⟩) = R_slices_Index_string_2 lf x1 x2 (fun q => J 2 [m1] (enc_slices_Index_string_2 x1 x2 q)) p := by kernel_rfl
theorem nd_slices_Index_string : (regs fi136.body).Nodup := by decide +kernel
theorem ok_slices_Index_string : okC nm_slices_Index_string st_slices_Index_string hd_slices_Index_string fi136.body none = true := by kernel_rfl
def A_slices_Index_string (g : ElA [(.list .str), .str] → Option Rt_slices_Index_string) (lf : Nat) : Nat → List Nat → NRes → Option Rt_slices_Index_string := atN Tryz.prog ttT.get nm_slices_Index_string fi136 ⟨[(.list .str), .str], [(false, (.int .i64))], g⟩ (cl_slices_Index_string _ lf) lf hd_slices_Index_string
def G_slices_Index_string_2 (lf : Nat) (x1 : (List ByteArray)) (x2 : ByteArray) : Nat → (Int) → Option Rt_slices_Index_string := rounds fun K p => R_slices_Index_string_2 lf x1 x2 K p
theorem at_slices_Index_string_2 (g : ElA [(.list .str), .str] → Option Rt_slices_Index_string) (lf : Nat) (x1 : (List ByteArray)) (x2 : ByteArray) : ∀ (n : Nat) (p : Int), A_slices_Index_string g lf 2 [n] (enc_slices_Index_string_2 x1 x2 p) = G_slices_Index_string_2 lf x1 x2 n p
  | 0, p => atN_zero 2 [0] rfl _
  | n + 1, p => by
    have ih := at_slices_Index_string_2 g lf x1 x2 n
    refine (atN_eq (icallK_eq 20 _) nd_slices_Index_string ok_slices_Index_string 2 [n + 1] [n] rfl _).trans ((st_slices_Index_string_2 g (A_slices_Index_string g lf) lf x1 x2 n p).trans ?_)
    rw [(show (fun q => A_slices_Index_string g lf 2 [n] (enc_slices_Index_string_2 x1 x2 q)) = (fun q => G_slices_Index_string_2 lf x1 x2 n q) from funext ih)]
    rfl
def F_slices_Index_string (lf : Nat) (x1 : (List ByteArray)) (x2 : ByteArray) : Option Rt_slices_Index_string := R_slices_Index_string_in lf x1 x2 (fun q => G_slices_Index_string_2 lf x1 x2 lf q)
theorem run_slices_Index_string (g : ElA [(.list .str), .str] → Option Rt_slices_Index_string) (lf : Nat) (x1 : (List ByteArray)) (x2 : ByteArray) : icodeT Tryz.prog ttT.get nm_slices_Index_string fi136.nt (cl_slices_Index_string _ lf) lf st_slices_Index_string (A_slices_Index_string g lf) fi136.body [] (argGo (argV [(.list .str), .str] (x1, x2, ())) 0 .leaf) S0 [] (lastK ttT.get fi136 ⟨[(.list .str), .str], [(false, (.int .i64))], g⟩) = F_slices_Index_string lf x1 x2 := by
    refine (in_slices_Index_string g (A_slices_Index_string g lf) lf x1 x2).trans ?_
    rw [(show (fun q => A_slices_Index_string g lf 2 [lf] (enc_slices_Index_string_2 x1 x2 q)) = (fun q => G_slices_Index_string_2 lf x1 x2 lf q) from funext fun q => at_slices_Index_string_2 g lf x1 x2 lf q)]
    rfl
theorem hxs_slices_Index_string : HxsOK Tryz.prog hxl_slices_Index_string := trivial
theorem mk_slices_Index_string {g : ElA [(.list .str), .str] → Option Rt_slices_Index_string} (hsm : SmOK Tryz.prog sml_slices_Index_string) (hg : ∀ (x : ElA [(.list .str), .str]) (y : Rt_slices_Index_string), WfA [(.list .str), .str] x → g x = some y → ∃ lf, F_slices_Index_string lf x.1 x.2.1 = some y) : Con Tryz.prog 136 ⟨[(.list .str), .str], [(false, (.int .i64))], g⟩ :=
  conT (nmf := nm_slices_Index_string) (sml := sml_slices_Index_string) (hxl := hxl_slices_Index_string) (st := st_slices_Index_string) (hd := hd_slices_Index_string) 20 mixed ttOK ftOK hsm hxs_slices_Index_string cal136 rfl rfl (by kernel_rfl) (fun x => by kernel_rfl) nd_slices_Index_string ok_slices_Index_string fun x y hx hy => by
    obtain ⟨lf, h⟩ := hg x y hx hy
    exact ⟨lf, (run_slices_Index_string g lf x.1 x.2.1).trans h⟩
def nm_p_class : Nat → Option Nm := fun k => none
def st_p_class : Nat → Bool := fun k => false
def hd_p_class : Nat → Bool := fun k => false
abbrev Rt_p_class : Type := Bool × Unit
def sml_p_class : List (Nat × Sm) := [(121, sp_p_named), (136, sp_slices_Index_string)]
def hxl_p_class : List (Nat × Hx) := []
def cl_p_class (R : Type) (lf : Nat) : ClK R := icallK Tryz.prog ttT.get ftT.get (nm1 89 nm_p_class) (smL sml_p_class) (hxL hxl_p_class) lf 20 R
abbrev id_p_class : Nat := 89
def R_p_class_in (lf : Nat) (x1 : ByteArray) : Option Rt_p_class := (cond (Go.Proofs.YtcnhjofpmpipfaaGreat.S.named x1 (Int.ofNat 65) (Int.ofNat 90)) (some ((Bool.not (Bool.not (iltI (Go.Proofs.YtcnhjofpmpipfaaGreat.S.index (List.cons (S.lit [73, 78, 84, 69, 71, 69, 82]) (List.cons (S.lit [66, 79, 79, 76, 69, 65, 78]) (List.cons (S.lit [65, 78, 89]) (List.cons (S.lit [78, 79, 78, 69]) [])))) x1) (Int.ofNat 0)))), ())) (some (Bool.false, ())))
theorem in_p_class (g : ElA [.str] → Option Rt_p_class) (J : Nat → List Nat → NRes → Option Rt_p_class) (lf : Nat) (x1 : ByteArray) : icodeT Tryz.prog ttT.get nm_p_class fi89.nt (cl_p_class _ lf) lf st_p_class J fi89.body [] (argGo (argV [.str] (x1, ())) 0 .leaf) S0 [] (lastK ttT.get fi89 ⟨[.str], [(false, .bool)], g⟩) = R_p_class_in lf x1 := by kernel_rfl
theorem nd_p_class : (regs fi89.body).Nodup := by decide +kernel
theorem ok_p_class : okC nm_p_class st_p_class hd_p_class fi89.body none = true := by kernel_rfl
def A_p_class (g : ElA [.str] → Option Rt_p_class) (lf : Nat) : Nat → List Nat → NRes → Option Rt_p_class := atN Tryz.prog ttT.get nm_p_class fi89 ⟨[.str], [(false, .bool)], g⟩ (cl_p_class _ lf) lf hd_p_class
def F_p_class (lf : Nat) (x1 : ByteArray) : Option Rt_p_class := R_p_class_in lf x1
theorem run_p_class (g : ElA [.str] → Option Rt_p_class) (lf : Nat) (x1 : ByteArray) : icodeT Tryz.prog ttT.get nm_p_class fi89.nt (cl_p_class _ lf) lf st_p_class (A_p_class g lf) fi89.body [] (argGo (argV [.str] (x1, ())) 0 .leaf) S0 [] (lastK ttT.get fi89 ⟨[.str], [(false, .bool)], g⟩) = F_p_class lf x1 := by
    refine (in_p_class g (A_p_class g lf) lf x1).trans ?_
    rfl
theorem hxs_p_class : HxsOK Tryz.prog hxl_p_class := trivial
theorem mk_p_class {g : ElA [.str] → Option Rt_p_class} (hsm : SmOK Tryz.prog sml_p_class) (hg : ∀ (x : ElA [.str]) (y : Rt_p_class), WfA [.str] x → g x = some y → ∃ lf, F_p_class lf x.1 = some y) : Con Tryz.prog 89 ⟨[.str], [(false, .bool)], g⟩ :=
  conT (nmf := nm_p_class) (sml := sml_p_class) (hxl := hxl_p_class) (st := st_p_class) (hd := hd_p_class) 20 mixed ttOK ftOK hsm hxs_p_class cal89 rfl rfl (by kernel_rfl) (fun x => by kernel_rfl) nd_p_class ok_p_class fun x y hx hy => by
    obtain ⟨lf, h⟩ := hg x y hx hy
    exact ⟨lf, (run_p_class g lf x.1).trans h⟩
def nm_p_small : Nat → Option Nm := fun k => none
def st_p_small : Nat → Bool := fun k => false
def hd_p_small : Nat → Bool := fun k => false
abbrev Rt_p_small : Type := Bool × Unit
def sml_p_small : List (Nat × Sm) := [(121, sp_p_named), (136, sp_slices_Index_string)]
def hxl_p_small : List (Nat × Hx) := []
def cl_p_small (R : Type) (lf : Nat) : ClK R := icallK Tryz.prog ttT.get ftT.get (nm1 123 nm_p_small) (smL sml_p_small) (hxL hxl_p_small) lf 20 R
abbrev id_p_small : Nat := 123
def R_p_small_in (lf : Nat) (x1 : ByteArray) : Option Rt_p_small := (cond (Go.Proofs.YtcnhjofpmpipfaaGreat.S.named x1 (Int.ofNat 97) (Int.ofNat 122)) (some ((Bool.not (Bool.not (iltI (Go.Proofs.YtcnhjofpmpipfaaGreat.S.index (List.cons (S.lit [116, 114, 117, 101]) (List.cons (S.lit [102, 97, 108, 115, 101]) (List.cons (S.lit [118, 111, 105, 100]) (List.cons (S.lit [99, 117, 114, 114, 101, 110, 116]) (List.cons (S.lit [114, 101, 115, 117, 108, 116]) []))))) x1) (Int.ofNat 0)))), ())) (some (Bool.false, ())))
theorem in_p_small (g : ElA [.str] → Option Rt_p_small) (J : Nat → List Nat → NRes → Option Rt_p_small) (lf : Nat) (x1 : ByteArray) : icodeT Tryz.prog ttT.get nm_p_small fi123.nt (cl_p_small _ lf) lf st_p_small J fi123.body [] (argGo (argV [.str] (x1, ())) 0 .leaf) S0 [] (lastK ttT.get fi123 ⟨[.str], [(false, .bool)], g⟩) = R_p_small_in lf x1 := by kernel_rfl
theorem nd_p_small : (regs fi123.body).Nodup := by decide +kernel
theorem ok_p_small : okC nm_p_small st_p_small hd_p_small fi123.body none = true := by kernel_rfl
def A_p_small (g : ElA [.str] → Option Rt_p_small) (lf : Nat) : Nat → List Nat → NRes → Option Rt_p_small := atN Tryz.prog ttT.get nm_p_small fi123 ⟨[.str], [(false, .bool)], g⟩ (cl_p_small _ lf) lf hd_p_small
def F_p_small (lf : Nat) (x1 : ByteArray) : Option Rt_p_small := R_p_small_in lf x1
theorem run_p_small (g : ElA [.str] → Option Rt_p_small) (lf : Nat) (x1 : ByteArray) : icodeT Tryz.prog ttT.get nm_p_small fi123.nt (cl_p_small _ lf) lf st_p_small (A_p_small g lf) fi123.body [] (argGo (argV [.str] (x1, ())) 0 .leaf) S0 [] (lastK ttT.get fi123 ⟨[.str], [(false, .bool)], g⟩) = F_p_small lf x1 := by
    refine (in_p_small g (A_p_small g lf) lf x1).trans ?_
    rfl
theorem hxs_p_small : HxsOK Tryz.prog hxl_p_small := trivial
theorem mk_p_small {g : ElA [.str] → Option Rt_p_small} (hsm : SmOK Tryz.prog sml_p_small) (hg : ∀ (x : ElA [.str]) (y : Rt_p_small), WfA [.str] x → g x = some y → ∃ lf, F_p_small lf x.1 = some y) : Con Tryz.prog 123 ⟨[.str], [(false, .bool)], g⟩ :=
  conT (nmf := nm_p_small) (sml := sml_p_small) (hxl := hxl_p_small) (st := st_p_small) (hd := hd_p_small) 20 mixed ttOK ftOK hsm hxs_p_small cal123 rfl rfl (by kernel_rfl) (fun x => by kernel_rfl) nd_p_small ok_p_small fun x y hx hy => by
    obtain ⟨lf, h⟩ := hg x y hx hy
    exact ⟨lf, (run_p_small g lf x.1).trans h⟩
def nm_p_checkCols : Nat → Option Nm := fun k => cond (Nat.beq k 4) (some ⟨[0, 8, 9, 10], [], [], [], [], 0, 0, false⟩) (none)
def st_p_checkCols : Nat → Bool := fun k => cond (Nat.beq k 4) true (false)
def hd_p_checkCols : Nat → Bool := fun k => cond (Nat.beq k 4) true (false)
abbrev Rt_p_checkCols : Type := Int × Unit
def sml_p_checkCols : List (Nat × Sm) := [(123, sp_p_small), (85, sp_p_col), (86, sp_p_within)]
def hxl_p_checkCols : List (Nat × Hx) := []
def cl_p_checkCols (R : Type) (lf : Nat) : ClK R := icallK Tryz.prog ttT.get ftT.get (nm1 90 nm_p_checkCols) (smL sml_p_checkCols) (hxL hxl_p_checkCols) lf 20 R
abbrev id_p_checkCols : Nat := 90
def enc_p_checkCols_4 (x1 : (List DCol)) (p : Int) : NRes := (NRes.mk (PT.node (some (IV.lst cCol x1)) (PT.node none PT.leaf (PT.node none (PT.node (some (IV.int Go.IntKind.i64 (Int.ofNat (List.length x1)))) PT.leaf PT.leaf) PT.leaf)) (PT.node none (PT.node none (PT.node (some (IV.lst cCol x1)) PT.leaf PT.leaf) PT.leaf) (PT.node none (PT.node (some (IV.int Go.IntKind.i64 p)) PT.leaf PT.leaf) PT.leaf))) (IS.mk PT.leaf 0) [] 0)
def R_p_checkCols_in (lf : Nat) (x1 : (List DCol)) (L4 : Int → Option Rt_p_checkCols) : Option Rt_p_checkCols := (cond (iltI (Int.ofNat 30) (Int.ofNat (List.length x1))) (some ((Int.ofNat 3), ())) (L4 (Int.ofNat 0)))
def R_p_checkCols_4 (lf : Nat) (x1 : (List DCol)) (L4 : Int → Option Rt_p_checkCols) (p : Int) : Option Rt_p_checkCols := (cond (iltI p (Int.ofNat (List.length x1))) (match (jget x1 p) with | .none  => none | .some v0 => (cond (Bool.not (Go.Proofs.YtcnhjofpmpipfaaGreat.S.small v0.1)) (some ((Int.ofNat 4), ())) (cond (lchk (Int.ofNat 0) p (Int.ofNat (List.length x1)) (Int.ofNat (List.length x1))) (cond (Bool.not (iltI (Go.Proofs.YtcnhjofpmpipfaaGreat.S.col (lsub x1 (Int.ofNat 0) p) v0.1) (Int.ofNat 0))) (some ((Int.ofNat 6), ())) (cond (Bool.not (Go.Proofs.YtcnhjofpmpipfaaGreat.S.within v0.2.1 (Int.ofNat 1) (Int.ofNat 3))) (some ((Int.ofNat 1), ())) (cond (Bool.not (ieqI v0.2.1 (Int.ofNat 3))) (cond (Bool.not (keqS v0.2.2 (S.lit []))) (some ((Int.ofNat 1), ())) (L4 (Go.IntKind.wrap Go.IntKind.i64 (Int.add p (Int.ofNat 1))))) (L4 (Go.IntKind.wrap Go.IntKind.i64 (Int.add p (Int.ofNat 1))))))) none))) (some ((Int.ofNat 0), ())))
theorem in_p_checkCols (g : ElA [(.list cCol)] → Option Rt_p_checkCols) (J : Nat → List Nat → NRes → Option Rt_p_checkCols) (lf : Nat) (x1 : (List DCol)) : icodeT Tryz.prog ttT.get nm_p_checkCols fi90.nt (cl_p_checkCols _ lf) lf st_p_checkCols J fi90.body [] (argGo (argV [(.list cCol)] (x1, ())) 0 .leaf) S0 [] (lastK ttT.get fi90 ⟨[(.list cCol)], [(false, (.int .i64))], g⟩) = R_p_checkCols_in lf x1 (fun q => J 4 [lf] (enc_p_checkCols_4 x1 q)) := by kernel_rfl
theorem st_p_checkCols_4 (g : ElA [(.list cCol)] → Option Rt_p_checkCols) (J : Nat → List Nat → NRes → Option Rt_p_checkCols) (lf : Nat) (x1 : (List DCol)) (m1 : Nat) (p : Int) : icodeFT Tryz.prog ttT.get nm_p_checkCols fi90.nt (cl_p_checkCols _ lf) lf st_p_checkCols J 4 fi90.body [] [m1] (enc_p_checkCols_4 x1 p) (lastK ttT.get fi90 ⟨[(.list cCol)], [(false, (.int .i64))], g⟩) = R_p_checkCols_4 lf x1 (fun q => J 4 [m1] (enc_p_checkCols_4 x1 q)) p := by kernel_rfl
theorem nd_p_checkCols : (regs fi90.body).Nodup := by decide +kernel
theorem ok_p_checkCols : okC nm_p_checkCols st_p_checkCols hd_p_checkCols fi90.body none = true := by kernel_rfl
def A_p_checkCols (g : ElA [(.list cCol)] → Option Rt_p_checkCols) (lf : Nat) : Nat → List Nat → NRes → Option Rt_p_checkCols := atN Tryz.prog ttT.get nm_p_checkCols fi90 ⟨[(.list cCol)], [(false, (.int .i64))], g⟩ (cl_p_checkCols _ lf) lf hd_p_checkCols
def G_p_checkCols_4 (lf : Nat) (x1 : (List DCol)) : Nat → (Int) → Option Rt_p_checkCols := rounds fun K p => R_p_checkCols_4 lf x1 K p
theorem at_p_checkCols_4 (g : ElA [(.list cCol)] → Option Rt_p_checkCols) (lf : Nat) (x1 : (List DCol)) : ∀ (n : Nat) (p : Int), A_p_checkCols g lf 4 [n] (enc_p_checkCols_4 x1 p) = G_p_checkCols_4 lf x1 n p
  | 0, p => atN_zero 4 [0] rfl _
  | n + 1, p => by
    have ih := at_p_checkCols_4 g lf x1 n
    refine (atN_eq (icallK_eq 20 _) nd_p_checkCols ok_p_checkCols 4 [n + 1] [n] rfl _).trans ((st_p_checkCols_4 g (A_p_checkCols g lf) lf x1 n p).trans ?_)
    rw [(show (fun q => A_p_checkCols g lf 4 [n] (enc_p_checkCols_4 x1 q)) = (fun q => G_p_checkCols_4 lf x1 n q) from funext ih)]
    rfl
def F_p_checkCols (lf : Nat) (x1 : (List DCol)) : Option Rt_p_checkCols := R_p_checkCols_in lf x1 (fun q => G_p_checkCols_4 lf x1 lf q)
theorem run_p_checkCols (g : ElA [(.list cCol)] → Option Rt_p_checkCols) (lf : Nat) (x1 : (List DCol)) : icodeT Tryz.prog ttT.get nm_p_checkCols fi90.nt (cl_p_checkCols _ lf) lf st_p_checkCols (A_p_checkCols g lf) fi90.body [] (argGo (argV [(.list cCol)] (x1, ())) 0 .leaf) S0 [] (lastK ttT.get fi90 ⟨[(.list cCol)], [(false, (.int .i64))], g⟩) = F_p_checkCols lf x1 := by
    refine (in_p_checkCols g (A_p_checkCols g lf) lf x1).trans ?_
    rw [(show (fun q => A_p_checkCols g lf 4 [lf] (enc_p_checkCols_4 x1 q)) = (fun q => G_p_checkCols_4 lf x1 lf q) from funext fun q => at_p_checkCols_4 g lf x1 lf q)]
    rfl
theorem hxs_p_checkCols : HxsOK Tryz.prog hxl_p_checkCols := trivial
theorem mk_p_checkCols {g : ElA [(.list cCol)] → Option Rt_p_checkCols} (hsm : SmOK Tryz.prog sml_p_checkCols) (hg : ∀ (x : ElA [(.list cCol)]) (y : Rt_p_checkCols), WfA [(.list cCol)] x → g x = some y → ∃ lf, F_p_checkCols lf x.1 = some y) : Con Tryz.prog 90 ⟨[(.list cCol)], [(false, (.int .i64))], g⟩ :=
  conT (nmf := nm_p_checkCols) (sml := sml_p_checkCols) (hxl := hxl_p_checkCols) (st := st_p_checkCols) (hd := hd_p_checkCols) 20 mixed ttOK ftOK hsm hxs_p_checkCols cal90 rfl rfl (by kernel_rfl) (fun x => by kernel_rfl) nd_p_checkCols ok_p_checkCols fun x y hx hy => by
    obtain ⟨lf, h⟩ := hg x y hx hy
    exact ⟨lf, (run_p_checkCols g lf x.1).trans h⟩
def nm_p_CheckForms : Nat → Option Nm := fun k => cond (Nat.beq k 4) (some ⟨[0, 13, 14, 15], [], [], [], [], 0, 0, false⟩) (cond (Nat.beq k 11) (some ⟨[0, 41, 42, 43], [], [], [], [], 0, 0, false⟩) (cond (Nat.beq k 14) (some ⟨[0, 41, 42, 43, 48, 49, 50], [], [], [], [], 0, 0, false⟩) (none)))
def st_p_CheckForms : Nat → Bool := fun k => cond (Nat.beq k 4) true (cond (Nat.beq k 11) true (cond (Nat.beq k 14) true (false)))
def hd_p_CheckForms : Nat → Bool := fun k => cond (Nat.beq k 4) true (cond (Nat.beq k 11) true (cond (Nat.beq k 14) true (false)))
abbrev Rt_p_CheckForms : Type := Int × Unit
def sml_p_CheckForms : List (Nat × Sm) := [(89, sp_p_class), (37, sp_p_form), (90, sp_p_checkCols), (33, sp_p_first)]
def hxl_p_CheckForms : List (Nat × Hx) := []
def cl_p_CheckForms (R : Type) (lf : Nat) : ClK R := icallK Tryz.prog ttT.get ftT.get (nm1 44 nm_p_CheckForms) (smL sml_p_CheckForms) (hxL hxl_p_CheckForms) lf 20 R
abbrev id_p_CheckForms : Nat := 44
def enc_p_CheckForms_4 (x1 : (List DForm)) (p : Int) : NRes := (NRes.mk (PT.node (some (IV.lst cForm x1)) (PT.node none (PT.node none (PT.node none (PT.node (some (IV.int Go.IntKind.i64 p)) PT.leaf PT.leaf) PT.leaf) PT.leaf) (PT.node none PT.leaf (PT.node (some (IV.lst cForm x1)) PT.leaf PT.leaf))) (PT.node none PT.leaf (PT.node none PT.leaf (PT.node (some (IV.int Go.IntKind.i64 (Int.ofNat (List.length x1)))) PT.leaf PT.leaf)))) (IS.mk PT.leaf 0) [] 0)
def enc_p_CheckForms_11 (x1 : (List DForm)) (p : Int) : NRes := (NRes.mk (PT.node (some (IV.lst cForm x1)) (PT.node none (PT.node none PT.leaf (PT.node none PT.leaf (PT.node none (PT.node (some (IV.int Go.IntKind.i64 p)) PT.leaf PT.leaf) PT.leaf))) (PT.node none (PT.node none PT.leaf (PT.node none (PT.node (some (IV.lst cForm x1)) PT.leaf PT.leaf) PT.leaf)) PT.leaf)) (PT.node none PT.leaf (PT.node none (PT.node none PT.leaf (PT.node none (PT.node (some (IV.int Go.IntKind.i64 (Int.ofNat (List.length x1)))) PT.leaf PT.leaf) PT.leaf)) PT.leaf))) (IS.mk PT.leaf 0) [] 0)
def enc_p_CheckForms_14 (x1 : (List DForm)) (p : (List DCol) × Int × Int) : NRes := (NRes.mk (PT.node (some (IV.lst cForm x1)) (PT.node none (PT.node none PT.leaf (PT.node none PT.leaf (PT.node none (PT.node (some (IV.int Go.IntKind.i64 p.2.2)) PT.leaf PT.leaf) PT.leaf))) (PT.node none (PT.node none (PT.node none PT.leaf (PT.node (some (IV.int Go.IntKind.i64 (Int.ofNat (List.length p.1)))) PT.leaf PT.leaf)) (PT.node none (PT.node (some (IV.lst cForm x1)) PT.leaf PT.leaf) PT.leaf)) PT.leaf)) (PT.node none (PT.node none (PT.node none (PT.node none PT.leaf (PT.node (some (IV.lst cCol p.1)) PT.leaf PT.leaf)) PT.leaf) PT.leaf) (PT.node none (PT.node none (PT.node none PT.leaf (PT.node (some (IV.int Go.IntKind.i64 p.2.1)) PT.leaf PT.leaf)) (PT.node none (PT.node (some (IV.int Go.IntKind.i64 (Int.ofNat (List.length x1)))) PT.leaf PT.leaf) PT.leaf)) PT.leaf))) (IS.mk PT.leaf 0) [] 0)
def R_p_CheckForms_in (lf : Nat) (x1 : (List DForm)) (L4 : Int → Option Rt_p_CheckForms) : Option Rt_p_CheckForms := (cond (iltI (Int.ofNat 24) (Int.ofNat (List.length x1))) (some ((Int.ofNat 3), ())) (L4 (Int.ofNat 0)))
def R_p_CheckForms_4 (lf : Nat) (x1 : (List DForm)) (L4 : Int → Option Rt_p_CheckForms) (L11 : Int → Option Rt_p_CheckForms) (p : Int) : Option Rt_p_CheckForms := (cond (iltI p (Int.ofNat (List.length x1))) (match (jget x1 p) with | .none  => none | .some v0 => (cond (Go.Proofs.YtcnhjofpmpipfaaGreat.S.class_ v0.1) (cond (lchk (Int.ofNat 0) p (Int.ofNat (List.length x1)) (Int.ofNat (List.length x1))) (cond (iltI (Go.Proofs.YtcnhjofpmpipfaaGreat.S.form (lsub x1 (Int.ofNat 0) p) v0.1) (Int.ofNat 0)) (cond (Bool.not (ieqI (Go.Proofs.YtcnhjofpmpipfaaGreat.S.first (List.cons (Int.ofNat 0) (List.cons (Int.ofNat 0) (List.cons (Go.Proofs.YtcnhjofpmpipfaaGreat.S.checkCols v0.2) [])))) (Int.ofNat 0))) (some ((Go.Proofs.YtcnhjofpmpipfaaGreat.S.first (List.cons (Int.ofNat 0) (List.cons (Int.ofNat 0) (List.cons (Go.Proofs.YtcnhjofpmpipfaaGreat.S.checkCols v0.2) [])))), ())) (L4 (Go.IntKind.wrap Go.IntKind.i64 (Int.add p (Int.ofNat 1))))) (cond (Bool.not (ieqI (Go.Proofs.YtcnhjofpmpipfaaGreat.S.first (List.cons (Int.ofNat 0) (List.cons (Int.ofNat 6) (List.cons (Go.Proofs.YtcnhjofpmpipfaaGreat.S.checkCols v0.2) [])))) (Int.ofNat 0))) (some ((Go.Proofs.YtcnhjofpmpipfaaGreat.S.first (List.cons (Int.ofNat 0) (List.cons (Int.ofNat 6) (List.cons (Go.Proofs.YtcnhjofpmpipfaaGreat.S.checkCols v0.2) [])))), ())) (L4 (Go.IntKind.wrap Go.IntKind.i64 (Int.add p (Int.ofNat 1)))))) none) (cond (lchk (Int.ofNat 0) p (Int.ofNat (List.length x1)) (Int.ofNat (List.length x1))) (cond (iltI (Go.Proofs.YtcnhjofpmpipfaaGreat.S.form (lsub x1 (Int.ofNat 0) p) v0.1) (Int.ofNat 0)) (cond (Bool.not (ieqI (Go.Proofs.YtcnhjofpmpipfaaGreat.S.first (List.cons (Int.ofNat 4) (List.cons (Int.ofNat 0) (List.cons (Go.Proofs.YtcnhjofpmpipfaaGreat.S.checkCols v0.2) [])))) (Int.ofNat 0))) (some ((Go.Proofs.YtcnhjofpmpipfaaGreat.S.first (List.cons (Int.ofNat 4) (List.cons (Int.ofNat 0) (List.cons (Go.Proofs.YtcnhjofpmpipfaaGreat.S.checkCols v0.2) [])))), ())) (L4 (Go.IntKind.wrap Go.IntKind.i64 (Int.add p (Int.ofNat 1))))) (cond (Bool.not (ieqI (Go.Proofs.YtcnhjofpmpipfaaGreat.S.first (List.cons (Int.ofNat 4) (List.cons (Int.ofNat 6) (List.cons (Go.Proofs.YtcnhjofpmpipfaaGreat.S.checkCols v0.2) [])))) (Int.ofNat 0))) (some ((Go.Proofs.YtcnhjofpmpipfaaGreat.S.first (List.cons (Int.ofNat 4) (List.cons (Int.ofNat 6) (List.cons (Go.Proofs.YtcnhjofpmpipfaaGreat.S.checkCols v0.2) [])))), ())) (L4 (Go.IntKind.wrap Go.IntKind.i64 (Int.add p (Int.ofNat 1)))))) none))) (L11 (Int.ofNat 0)))
def R_p_CheckForms_11 (lf : Nat) (x1 : (List DForm)) (L14 : ((List DCol) × Int × Int) → Option Rt_p_CheckForms) (p : Int) : Option Rt_p_CheckForms := (cond (iltI p (Int.ofNat (List.length x1))) (match (jget x1 p) with | .none  => none | .some v0 => (L14 (v0.2, (Int.ofNat 0), p))) (some ((Int.ofNat 0), ())))
def R_p_CheckForms_14 (lf : Nat) (x1 : (List DForm)) (L14 : ((List DCol) × Int × Int) → Option Rt_p_CheckForms) (L11 : Int → Option Rt_p_CheckForms) (p : (List DCol) × Int × Int) : Option Rt_p_CheckForms := (cond (iltI p.2.1 (Int.ofNat (List.length p.1))) (match (jget p.1 p.2.1) with | .none  => none | .some v0 => (cond (ieqI v0.2.1 (Int.ofNat 3)) (cond (Bool.not (keqS v0.2.2 (S.lit [65, 78, 89]))) (cond (iltI (Go.Proofs.YtcnhjofpmpipfaaGreat.S.form x1 v0.2.2) (Int.ofNat 0)) (some ((Int.ofNat 5), ())) (L14 (p.1, (Go.IntKind.wrap Go.IntKind.i64 (Int.add p.2.1 (Int.ofNat 1))), p.2.2))) (L14 (p.1, (Go.IntKind.wrap Go.IntKind.i64 (Int.add p.2.1 (Int.ofNat 1))), p.2.2))) (L14 (p.1, (Go.IntKind.wrap Go.IntKind.i64 (Int.add p.2.1 (Int.ofNat 1))), p.2.2)))) (L11 (Go.IntKind.wrap Go.IntKind.i64 (Int.add p.2.2 (Int.ofNat 1)))))
theorem in_p_CheckForms (g : ElA [(.list cForm)] → Option Rt_p_CheckForms) (J : Nat → List Nat → NRes → Option Rt_p_CheckForms) (lf : Nat) (x1 : (List DForm)) : icodeT Tryz.prog ttT.get nm_p_CheckForms fi44.nt (cl_p_CheckForms _ lf) lf st_p_CheckForms J fi44.body [] (argGo (argV [(.list cForm)] (x1, ())) 0 .leaf) S0 [] (lastK ttT.get fi44 ⟨[(.list cForm)], [(false, (.int .i64))], g⟩) = R_p_CheckForms_in lf x1 (fun q => J 4 [lf] (enc_p_CheckForms_4 x1 q)) := by kernel_rfl
theorem st_p_CheckForms_4 (g : ElA [(.list cForm)] → Option Rt_p_CheckForms) (J : Nat → List Nat → NRes → Option Rt_p_CheckForms) (lf : Nat) (x1 : (List DForm)) (m1 : Nat) (p : Int) : icodeFT Tryz.prog ttT.get nm_p_CheckForms fi44.nt (cl_p_CheckForms _ lf) lf st_p_CheckForms J 4 fi44.body [] [m1] (enc_p_CheckForms_4 x1 p) (lastK ttT.get fi44 ⟨[(.list cForm)], [(false, (.int .i64))], g⟩) = R_p_CheckForms_4 lf x1 (fun q => J 4 [m1] (enc_p_CheckForms_4 x1 q)) (fun q => J 11 [lf] (enc_p_CheckForms_11 x1 q)) p := by kernel_rfl
theorem st_p_CheckForms_11 (g : ElA [(.list cForm)] → Option Rt_p_CheckForms) (J : Nat → List Nat → NRes → Option Rt_p_CheckForms) (lf : Nat) (x1 : (List DForm)) (m1 : Nat) (p : Int) : icodeFT Tryz.prog ttT.get nm_p_CheckForms fi44.nt (cl_p_CheckForms _ lf) lf st_p_CheckForms J 11 fi44.body [] [m1] (enc_p_CheckForms_11 x1 p) (lastK ttT.get fi44 ⟨[(.list cForm)], [(false, (.int .i64))], g⟩) = R_p_CheckForms_11 lf x1 (fun q => J 14 [m1, lf] (enc_p_CheckForms_14 x1 q)) p := by kernel_rfl
theorem st_p_CheckForms_14 (g : ElA [(.list cForm)] → Option Rt_p_CheckForms) (J : Nat → List Nat → NRes → Option Rt_p_CheckForms) (lf : Nat) (x1 : (List DForm)) (m1 : Nat) (m2 : Nat) (p : (List DCol) × Int × Int) : icodeFT Tryz.prog ttT.get nm_p_CheckForms fi44.nt (cl_p_CheckForms _ lf) lf st_p_CheckForms J 14 fi44.body [] [m1, m2] (enc_p_CheckForms_14 x1 p) (lastK ttT.get fi44 ⟨[(.list cForm)], [(false, (.int .i64))], g⟩) = R_p_CheckForms_14 lf x1 (fun q => J 14 [m1, m2] (enc_p_CheckForms_14 x1 q)) (fun q => J 11 [m1] (enc_p_CheckForms_11 x1 q)) p := by kernel_rfl
theorem nd_p_CheckForms : (regs fi44.body).Nodup := by decide +kernel
theorem ok_p_CheckForms : okC nm_p_CheckForms st_p_CheckForms hd_p_CheckForms fi44.body none = true := by kernel_rfl
def A_p_CheckForms (g : ElA [(.list cForm)] → Option Rt_p_CheckForms) (lf : Nat) : Nat → List Nat → NRes → Option Rt_p_CheckForms := atN Tryz.prog ttT.get nm_p_CheckForms fi44 ⟨[(.list cForm)], [(false, (.int .i64))], g⟩ (cl_p_CheckForms _ lf) lf hd_p_CheckForms
def G_p_CheckForms_14 (lf : Nat) (x1 : (List DForm)) (K11 : Int → Option Rt_p_CheckForms) : Nat → ((List DCol) × Int × Int) → Option Rt_p_CheckForms := rounds fun K p => R_p_CheckForms_14 lf x1 K K11 p
theorem at_p_CheckForms_14 (g : ElA [(.list cForm)] → Option Rt_p_CheckForms) (lf : Nat) (x1 : (List DForm)) (m1 : Nat) : ∀ (n : Nat) (p : (List DCol) × Int × Int), A_p_CheckForms g lf 14 [m1, n] (enc_p_CheckForms_14 x1 p) = G_p_CheckForms_14 lf x1 (fun q => A_p_CheckForms g lf 11 [m1] (enc_p_CheckForms_11 x1 q)) n p
  | 0, p => atN_zero 14 [m1, 0] rfl _
  | n + 1, p => by
    have ih := at_p_CheckForms_14 g lf x1 m1 n
    refine (atN_eq (icallK_eq 20 _) nd_p_CheckForms ok_p_CheckForms 14 [m1, n + 1] [m1, n] rfl _).trans ((st_p_CheckForms_14 g (A_p_CheckForms g lf) lf x1 m1 n p).trans ?_)
    rw [(show (fun q => A_p_CheckForms g lf 14 [m1, n] (enc_p_CheckForms_14 x1 q)) = (fun q => G_p_CheckForms_14 lf x1 (fun q => A_p_CheckForms g lf 11 [m1] (enc_p_CheckForms_11 x1 q)) n q) from funext ih)]
    rfl
def G_p_CheckForms_11 (lf : Nat) (x1 : (List DForm)) : Nat → (Int) → Option Rt_p_CheckForms := rounds fun K p => R_p_CheckForms_11 lf x1 (fun q => G_p_CheckForms_14 lf x1 K lf q) p
theorem at_p_CheckForms_11 (g : ElA [(.list cForm)] → Option Rt_p_CheckForms) (lf : Nat) (x1 : (List DForm)) : ∀ (n : Nat) (p : Int), A_p_CheckForms g lf 11 [n] (enc_p_CheckForms_11 x1 p) = G_p_CheckForms_11 lf x1 n p
  | 0, p => atN_zero 11 [0] rfl _
  | n + 1, p => by
    have ih := at_p_CheckForms_11 g lf x1 n
    refine (atN_eq (icallK_eq 20 _) nd_p_CheckForms ok_p_CheckForms 11 [n + 1] [n] rfl _).trans ((st_p_CheckForms_11 g (A_p_CheckForms g lf) lf x1 n p).trans ?_)
    rw [(show (fun q => A_p_CheckForms g lf 14 [n, lf] (enc_p_CheckForms_14 x1 q)) = (fun q => G_p_CheckForms_14 lf x1 (fun q => A_p_CheckForms g lf 11 [n] (enc_p_CheckForms_11 x1 q)) lf q) from funext fun q => at_p_CheckForms_14 g lf x1 n lf q), (show (fun q => A_p_CheckForms g lf 11 [n] (enc_p_CheckForms_11 x1 q)) = (fun q => G_p_CheckForms_11 lf x1 n q) from funext ih)]
    rfl
def G_p_CheckForms_4 (lf : Nat) (x1 : (List DForm)) : Nat → (Int) → Option Rt_p_CheckForms := rounds fun K p => R_p_CheckForms_4 lf x1 K (fun q => G_p_CheckForms_11 lf x1 lf q) p
theorem at_p_CheckForms_4 (g : ElA [(.list cForm)] → Option Rt_p_CheckForms) (lf : Nat) (x1 : (List DForm)) : ∀ (n : Nat) (p : Int), A_p_CheckForms g lf 4 [n] (enc_p_CheckForms_4 x1 p) = G_p_CheckForms_4 lf x1 n p
  | 0, p => atN_zero 4 [0] rfl _
  | n + 1, p => by
    have ih := at_p_CheckForms_4 g lf x1 n
    refine (atN_eq (icallK_eq 20 _) nd_p_CheckForms ok_p_CheckForms 4 [n + 1] [n] rfl _).trans ((st_p_CheckForms_4 g (A_p_CheckForms g lf) lf x1 n p).trans ?_)
    rw [(show (fun q => A_p_CheckForms g lf 11 [lf] (enc_p_CheckForms_11 x1 q)) = (fun q => G_p_CheckForms_11 lf x1 lf q) from funext fun q => at_p_CheckForms_11 g lf x1 lf q), (show (fun q => A_p_CheckForms g lf 4 [n] (enc_p_CheckForms_4 x1 q)) = (fun q => G_p_CheckForms_4 lf x1 n q) from funext ih)]
    rfl
def F_p_CheckForms (lf : Nat) (x1 : (List DForm)) : Option Rt_p_CheckForms := R_p_CheckForms_in lf x1 (fun q => G_p_CheckForms_4 lf x1 lf q)
theorem run_p_CheckForms (g : ElA [(.list cForm)] → Option Rt_p_CheckForms) (lf : Nat) (x1 : (List DForm)) : icodeT Tryz.prog ttT.get nm_p_CheckForms fi44.nt (cl_p_CheckForms _ lf) lf st_p_CheckForms (A_p_CheckForms g lf) fi44.body [] (argGo (argV [(.list cForm)] (x1, ())) 0 .leaf) S0 [] (lastK ttT.get fi44 ⟨[(.list cForm)], [(false, (.int .i64))], g⟩) = F_p_CheckForms lf x1 := by
    refine (in_p_CheckForms g (A_p_CheckForms g lf) lf x1).trans ?_
    rw [(show (fun q => A_p_CheckForms g lf 4 [lf] (enc_p_CheckForms_4 x1 q)) = (fun q => G_p_CheckForms_4 lf x1 lf q) from funext fun q => at_p_CheckForms_4 g lf x1 lf q)]
    rfl
theorem hxs_p_CheckForms : HxsOK Tryz.prog hxl_p_CheckForms := trivial
theorem mk_p_CheckForms {g : ElA [(.list cForm)] → Option Rt_p_CheckForms} (hsm : SmOK Tryz.prog sml_p_CheckForms) (hg : ∀ (x : ElA [(.list cForm)]) (y : Rt_p_CheckForms), WfA [(.list cForm)] x → g x = some y → ∃ lf, F_p_CheckForms lf x.1 = some y) : Con Tryz.prog 44 ⟨[(.list cForm)], [(false, (.int .i64))], g⟩ :=
  conT (nmf := nm_p_CheckForms) (sml := sml_p_CheckForms) (hxl := hxl_p_CheckForms) (st := st_p_CheckForms) (hd := hd_p_CheckForms) 20 mixed ttOK ftOK hsm hxs_p_CheckForms cal44 rfl rfl (by kernel_rfl) (fun x => by kernel_rfl) nd_p_CheckForms ok_p_CheckForms fun x y hx hy => by
    obtain ⟨lf, h⟩ := hg x y hx hy
    exact ⟨lf, (run_p_CheckForms g lf x.1).trans h⟩
end Go.Proofs.YtcnhjofpmpipfaaGreat

end
end

/- The contracts of package pack, first part. -/
section
set_option linter.unusedVariables false
namespace Go.Proofs.YtcnhjofpmpipfaaGreat
open Go Go.Sx Go.RowKit Go.Jx
theorem F_p_within_eq (lf : Nat) (n lo hi : Int) : F_p_within lf n lo hi = some (S.within n lo hi, ()) := by
  simp only [F_p_within, R_p_within_in, S.within, iltI_eq, cond_if]
  by_cases h1 : n < lo
  · simp [h1]; omega
  · by_cases h2 : hi < n <;> simp [h1, h2] <;> omega
theorem con_p_within : Con Tryz.prog id_p_within sp_p_within := mk_p_within trivial fun x y _ h => ⟨0, (F_p_within_eq _ _ _ _).trans h⟩
theorem F_p_first_eq (l : List Int) (hl : l.length < LF) : F_p_first LF l = some (S.first l, ()) := by
  refine range1 (R := Rt_p_first) l (fun rest _ => some (S.first rest, ())) hl (fun K => ?_) (fun K i v rest r h => ?_)
  · simp only [R_p_first_2, ilt_self, cond_false]; rfl
  · simp only [R_p_first_2, r.ilt, r.get, r.next, h, cond_true, S.first, ieqI_eq, cond_if]
    by_cases hv : v = 0
    · simp [hv]
    · simp [hv]
theorem con_p_first : Con Tryz.prog id_p_first sp_p_first := mk_p_first trivial fun x y hx h => ⟨LF, (F_p_first_eq _ (wf_len hx.1)).trans h⟩
theorem F_p_form_eq (lf : Nat) (l : List DForm) (n : ByteArray) : F_p_form lf l n = some (S.form l n, ()) := by
  simp only [F_p_form, R_p_form_in]
  rw [idxO_idx (l := l) (fun f : DForm => keqS f.1 n) fun x _ => rfl]
  rfl
theorem con_p_form : Con Tryz.prog id_p_form sp_p_form := mk_p_form trivial fun x y _ h => ⟨0, (F_p_form_eq _ _ _).trans h⟩
theorem F_p_col_eq (lf : Nat) (l : List DCol) (n : ByteArray) : F_p_col lf l n = some (S.col l n, ()) := by
  simp only [F_p_col, R_p_col_in]
  rw [idxO_idx (l := l) (fun f : DCol => keqS f.1 n) fun x _ => rfl]
  rfl
theorem con_p_col : Con Tryz.prog id_p_col sp_p_col := mk_p_col trivial fun x y _ h => ⟨0, (F_p_col_eq _ _ _).trans h⟩
theorem F_p_ruleOf_eq (lf : Nat) (l : List DRule) (n : ByteArray) : F_p_ruleOf lf l n = some ((S.ruleOf l n).1, (S.ruleOf l n).2, ()) := by
  simp only [F_p_ruleOf, R_p_ruleOf_in]
  rw [idxO_idx (l := l) (fun f : DRule => keqS f.1 n) fun x _ => rfl]
  simp only [iltI_eq, cond_if]
  by_cases h : S.idx (fun f : DRule => keqS f.1 n) l < 0
  · have := S.idx_neg h
    simp only [S.ruleOf, this]
    rw [if_pos (by simpa using h)]
    rfl
  · obtain ⟨x, h1, h2, h3, h4, h5, h6⟩ := S.idx_get (p := fun f : DRule => keqS f.1 n) (l := l) (by omega)
    simp only [S.ruleOf, h6, h1]
    rw [if_neg (by simpa using h)]
theorem con_p_ruleOf : Con Tryz.prog id_p_ruleOf sp_p_ruleOf := mk_p_ruleOf trivial fun x y _ h => ⟨0, (F_p_ruleOf_eq _ _ _).trans h⟩
theorem byteList_get {s : ByteArray} (h : 0 < s.size) : ∃ b, (byteList s)[0]? = some b := by
  unfold byteList
  have : 0 < s.data.toList.length := by simpa using h
  exact ⟨_, by rw [List.getElem?_map, List.getElem?_eq_getElem this]; rfl⟩
theorem size_pos {s : ByteArray} (h : ¬ s = S.lit []) : 0 < s.size := by
  rcases Nat.eq_zero_or_pos s.size with h0 | h0
  · exfalso; apply h
    obtain ⟨a⟩ := s
    have : a = #[] := by simpa [ByteArray.size] using h0
    rw [this]; rfl
  · exact h0
theorem F_p_named_eq (lf : Nat) (s : ByteArray) (lo hi : Int) (h1 : IntKind.u8.wrap lo = lo) (h2 : IntKind.u8.wrap hi = hi) : F_p_named lf s lo hi = some (S.named s lo hi, ()) := by
  have w1 : IntKind.i32.wrap lo = lo := by rw [wrap_iff] at *; simp [IntKind.min, IntKind.max, IntKind.bits, IntKind.signed] at *; omega
  have w2 : IntKind.i32.wrap hi = hi := by rw [wrap_iff] at *; simp [IntKind.min, IntKind.max, IntKind.bits, IntKind.signed] at *; omega
  simp only [F_p_named, R_p_named_in, S.named, w1, w2]
  by_cases hs : s = S.lit []
  · subst hs; simp [keqS]
  have hp := size_pos hs
  rw [if_neg hs, show keqS s (S.lit []) = false by simp [keqS, hs], cond_false]
  by_cases h20 : 20 < s.size
  · rw [if_pos h20, show iltI (Int.ofNat 20) (Int.ofNat s.size) = true by rw [iltI_eq]; exact decide_eq_true (Int.ofNat_lt.2 h20), cond_true]
  rw [if_neg h20, show iltI (Int.ofNat 20) (Int.ofNat s.size) = false by rw [iltI_eq]; simp; omega, cond_false]
  obtain ⟨b, hb⟩ := byteList_get hp
  have hj : jget (byteList s) (Int.ofNat 0) = some b := by rw [jget_nat, hb]
  simp only [hj, hb, iltI_eq, cond_if, decide_eq_true_eq]
  by_cases hlo : b < lo
  · rw [if_pos hlo, if_pos hlo]
  rw [if_neg hlo, if_neg hlo]
  by_cases hhi : hi < b
  · rw [if_pos hhi, if_pos hhi]
  rw [if_neg hhi, if_neg hhi]
  have e : (fun (v2 : Nat) (v3 : Int) => (if (!decide (v3 < lo)) = true then if (!decide (hi < v3)) = true then some false else if (!decide (v3 < Int.ofNat 48)) = true then if (!decide (Int.ofNat 57 < v3)) = true then some false else some (!ieqI v3 (Int.ofNat 95)) else some (!ieqI v3 (Int.ofNat 95)) else if (!decide (v3 < Int.ofNat 48)) = true then if (!decide (Int.ofNat 57 < v3)) = true then some false else some (!ieqI v3 (Int.ofNat 95)) else some (!ieqI v3 (Int.ofNat 95)) : Option Bool)) = fun _ r => some (S.badR r lo hi) := by
    funext _ r
    have e48 : Int.ofNat 48 = 48 := rfl
    have e57 : Int.ofNat 57 = 57 := rfl
    have e95 : Int.ofNat 95 = 95 := rfl
    simp only [S.badR, ieqI_eq, e48, e57, e95]
    by_cases a : r < lo <;> by_cases b : hi < r <;> by_cases c : r < 48 <;> by_cases d : 57 < r <;> by_cases e : r = 95 <;> simp [a, b, c, d, e] <;> omega
  rw [e]
  have e0 : Int.ofNat 0 = 0 := rfl
  obtain ⟨k, hk⟩ := sixO_some (p := fun _ r => some (S.badR r lo hi)) (q := fun r => S.badR r lo hi) (fun _ _ => rfl) s true (s.size + 1) 0 (by omega)
  have hk2 : sixO (fun _ r => some (S.badR r lo hi)) s Bool.true (Nat.add s.size 1) 0 = some k := hk
  simp only [hk, hk2, e0]
theorem con_p_named : Con Tryz.prog id_p_named sp_p_named := mk_p_named trivial fun x y hx h => ⟨0, (F_p_named_eq _ _ _ _ hx.2.1 hx.2.2.1).trans h⟩
theorem F_slices_Index_string_eq (l : List ByteArray) (v : ByteArray) (hl : l.length < LF) : F_slices_Index_string LF l v = some (S.index l v, ()) := by
  refine (range1 (R := Rt_slices_Index_string) l (fun rest i => some ((match rest.findIdx? (fun x => keqS v x) with | some j => Int.ofNat (i + j) | none => -1), ())) hl (fun K => ?_) (fun K i w rest r h => ?_)).trans ?_
  · simp only [R_slices_Index_string_2, ilt_self, cond_false]; rfl
  · simp only [R_slices_Index_string_2, r.ilt, r.get, r.next, h, cond_true, List.findIdx?_cons]
    cases keqS v w with
    | true => rfl
    | false =>
      simp only [cond_false]
      cases List.findIdx? (fun x => keqS v x) rest with
      | none => rfl
      | some j => simp; omega
  · simp only [S.index, S.idx, Nat.zero_add]; all_goals rfl
theorem con_slices_Index_string : Con Tryz.prog id_slices_Index_string sp_slices_Index_string := mk_slices_Index_string trivial fun x y hx h => ⟨LF, (F_slices_Index_string_eq _ _ (wf_len hx.1)).trans h⟩
theorem F_p_class_eq (lf : Nat) (s : ByteArray) : F_p_class lf s = some (S.class_ s, ()) := by
  simp only [F_p_class, R_p_class_in, S.class_, iltI_eq]
  have e1 : Int.ofNat 65 = 65 := rfl
  have e2 : Int.ofNat 90 = 90 := rfl
  rw [e1, e2]
  cases S.named s 65 90
  · rfl
  · simp; rfl
theorem con_p_class : Con Tryz.prog id_p_class sp_p_class := mk_p_class ⟨con_p_named, con_slices_Index_string, trivial⟩ fun x y hx h => ⟨LF, (F_p_class_eq _ _).trans h⟩
theorem F_p_small_eq (lf : Nat) (s : ByteArray) : F_p_small lf s = some (S.small s, ()) := by
  simp only [F_p_small, R_p_small_in, S.small, iltI_eq]
  have e1 : Int.ofNat 97 = 97 := rfl
  have e2 : Int.ofNat 122 = 122 := rfl
  rw [e1, e2]
  cases S.named s 97 122
  · rfl
  · simp; rfl
theorem con_p_small : Con Tryz.prog id_p_small sp_p_small := mk_p_small ⟨con_p_named, con_slices_Index_string, trivial⟩ fun x y hx h => ⟨LF, (F_p_small_eq _ _).trans h⟩

/-! ### Classes -/
theorem lchk_pre {α : Type} (l : List α) {i : Nat} (h : i ≤ l.length) : lchk (Int.ofNat 0) (Int.ofNat i) (Int.ofNat l.length) (Int.ofNat l.length) = true := by
  simp [lchk, iltI_eq]; omega
theorem lsub_pre {α : Type} (l : List α) (i : Nat) : lsub l (Int.ofNat 0) (Int.ofNat i) = l.take i := by
  simp [lsub]
theorem F_p_checkCols_eq (l : List DCol) (hl : l.length < LF) : F_p_checkCols LF l = some (S.checkCols l, ()) := by
  simp only [F_p_checkCols, R_p_checkCols_in, S.checkCols]
  by_cases h30 : 30 < l.length
  · rw [if_pos h30, show iltI (Int.ofNat 30) (Int.ofNat l.length) = true by rw [iltI_eq]; exact decide_eq_true (Int.ofNat_lt.2 h30)]; rfl
  rw [if_neg h30, show iltI (Int.ofNat 30) (Int.ofNat l.length) = false by rw [iltI_eq]; exact decide_eq_false (fun h => h30 (Int.ofNat_lt.1 h)), cond_false]
  refine range1 (R := Rt_p_checkCols) l (fun rest i => some (S.ccGo l i rest, ())) hl (fun K => ?_) (fun K i v rest r h => ?_)
  · simp only [R_p_checkCols_4, ilt_self, cond_false]; rfl
  · simp only [R_p_checkCols_4, r.ilt, r.get, r.next, h, cond_true, lchk_pre l (Nat.le_of_lt r.lt), lsub_pre, S.ccGo, iltI_eq, ieqI_eq, keqS, cond_if]
    simp only [oL]
    generalize S.small v.1 = b1
    generalize S.within v.2.1 1 3 = b2
    by_cases hc : S.col (l.take i) v.1 < 0 <;> by_cases h3 : v.2.1 = 3 <;> by_cases hn : v.2.2 = S.lit [] <;> cases b1 <;> cases b2 <;> simp [hc, h3, hn]
theorem con_p_checkCols : Con Tryz.prog id_p_checkCols sp_p_checkCols := mk_p_checkCols ⟨con_p_small, con_p_col, con_p_within, trivial⟩ fun x y hx h => ⟨LF, (F_p_checkCols_eq _ (wf_len hx.1)).trans h⟩
theorem cf_inner (x1 : List DForm) (K11 : Int → Option Rt_p_CheckForms) (f : DForm) (hf : f.2.length < LF) (i : Nat) :
    G_p_CheckForms_14 LF x1 K11 LF (f.2, Int.ofNat 0, Int.ofNat i) = if S.cfIn x1 f.2 = true then K11 (IntKind.i64.wrap (Int.add (Int.ofNat i) (Int.ofNat 1))) else some (5, ()) := by
  refine range0 (σ := Unit) (R := Rt_p_CheckForms) f.2 (fun k _ => (f.2, k, Int.ofNat i)) (fun _ _ => True) (fun rest _ _ => if S.cfIn x1 rest = true then K11 (IntKind.i64.wrap (Int.add (Int.ofNat i) (Int.ofNat 1))) else some (5, ())) hf (fun K s _ => ?_) (fun K k c rest s _ r h => ?_) () trivial
  · simp only [R_p_CheckForms_14, ilt_self, cond_false]; rfl
  · have h := h () trivial
    have e3 : Int.ofNat 3 = 3 := rfl
    have e0 : Int.ofNat 0 = 0 := rfl
    simp only [R_p_CheckForms_14, r.ilt, r.get, r.next, h, cond_true, iltI_eq, ieqI_eq, keqS, cond_if, S.cfIn]
    simp only [e3, e0]
    have ea : S.lit [65, 78, 89] = S.ANY := rfl
    simp only [ea, decide_eq_true_eq, Bool.not_eq_true', decide_eq_false_iff_not]
    by_cases h3 : c.2.1 = 3 <;> by_cases hn : c.2.2 = S.ANY <;> by_cases hf : S.form x1 c.2.2 < 0 <;> simp [h3, hn, hf]
theorem cf_second (x1 : List DForm) (hl : x1.length < LF) (hw : ∀ f ∈ x1, f.2.length < LF) : G_p_CheckForms_11 LF x1 LF (Int.ofNat 0) = some (S.cfGo2 x1 x1, ()) := by
  refine range1 (R := Rt_p_CheckForms) x1 (fun rest i => some (S.cfGo2 x1 rest, ())) hl (fun K => ?_) (fun K i v rest r h => ?_)
  · simp only [R_p_CheckForms_11, ilt_self, cond_false]; rfl
  · simp only [R_p_CheckForms_11, r.ilt, r.get, cond_true]
    refine (cf_inner x1 K v (hw v r.mem) i).trans ?_
    rw [r.next, h]
    simp only [S.cfGo2]
    split <;> rfl
theorem first3 (a b c : Int) : S.first [a, b, c] = if a = 0 then (if b = 0 then c else b) else a := by
  simp only [S.first]
  split
  · split
    · split <;> simp_all
    · rfl
  · rfl
theorem F_p_CheckForms_eq (l : List DForm) (hl : l.length < LF) (hw : ∀ f ∈ l, f.2.length < LF) : F_p_CheckForms LF l = some (S.checkForms l, ()) := by
  simp only [F_p_CheckForms, R_p_CheckForms_in, S.checkForms]
  by_cases h24 : 24 < l.length
  · rw [if_pos h24, show iltI (Int.ofNat 24) (Int.ofNat l.length) = true by rw [iltI_eq]; exact decide_eq_true (Int.ofNat_lt.2 h24)]; rfl
  rw [if_neg h24, show iltI (Int.ofNat 24) (Int.ofNat l.length) = false by rw [iltI_eq]; exact decide_eq_false (fun h => h24 (Int.ofNat_lt.1 h)), cond_false]
  refine range1 (R := Rt_p_CheckForms) l (fun rest i => some (S.cfGo l i rest, ())) hl (fun K => ?_) (fun K i v rest r h => ?_)
  · simp only [R_p_CheckForms_4, ilt_self, cond_false, S.cfGo]
    exact cf_second l hl hw
  · have e0 : Int.ofNat 0 = 0 := rfl
    simp only [R_p_CheckForms_4, r.ilt, r.get, r.next, h, cond_true, lchk_pre l (Nat.le_of_lt r.lt), lsub_pre, S.cfGo, iltI_eq, ieqI_eq, cond_if, S.unlessE, first3]
    simp only [e0]
    have e4 : Int.ofNat 4 = 4 := rfl
    have e6 : Int.ofNat 6 = 6 := rfl
    simp only [e4, e6]
    cases S.class_ v.1 <;> by_cases hf : S.form (l.take i) v.1 < 0 <;> by_cases hc : S.checkCols v.2 = 0 <;> simp [hf, hc]
theorem con_p_CheckForms : Con Tryz.prog id_p_CheckForms sp_p_CheckForms := mk_p_CheckForms ⟨con_p_class, con_p_form, con_p_checkCols, con_p_first, trivial⟩ fun x y hx h => ⟨LF, (F_p_CheckForms_eq _ (wf_len hx.1) fun f hf => wf_len (hx.1.2 f hf).2).trans h⟩

theorem ilt_nat (a b : Nat) : iltI (Int.ofNat a) (Int.ofNat b) = decide (a < b) := by
  rw [iltI_eq, Bool.eq_iff_iff]; simp only [decide_eq_true_eq]; exact Int.ofNat_lt
theorem ieq_nat (a b : Nat) : ieqI (Int.ofNat a) (Int.ofNat b) = decide (a = b) := by
  rw [ieqI_eq, Bool.eq_iff_iff]; simp only [decide_eq_true_eq]; exact Int.ofNat_inj
theorem ne_zero (a : Int) : (!ieqI a (Int.ofNat 0)) = decide (¬ a = 0) := by
  rw [ieqI_eq, Bool.eq_iff_iff]; simp [oL]
end Go.Proofs.YtcnhjofpmpipfaaGreat
end

/- Made by program: plain forms of functions. -/
section
set_option linter.unusedVariables false
set_option maxRecDepth 100000
noncomputable section
namespace Go.Proofs.YtcnhjofpmpipfaaGreat
open Go Go.Sx Go.RowKit Go.Jx
def nm_p_leads : Nat → Option Nm := fun k => none
def st_p_leads : Nat → Bool := fun k => false
def hd_p_leads : Nat → Bool := fun k => false
abbrev Rt_p_leads : Type := Bool × Unit
def sml_p_leads : List (Nat × Sm) := [(36, sp_p_ruleOf)]
def hxl_p_leads : List (Nat × Hx) := []
def cl_p_leads (R : Type) (lf : Nat) : ClK R := icallK Tryz.prog ttT.get ftT.get (nm1 125 nm_p_leads) (smL sml_p_leads) (hxL hxl_p_leads) lf 20 R
abbrev id_p_leads : Nat := 125
def R_p_leads_in (lf : Nat) (x1 : (List DRule)) (x2 : ByteArray) (x3 : ByteArray) : Option Rt_p_leads := (cond (keqS x3 (S.lit [65, 78, 89])) (some (Bool.true, ())) (cond (Go.Proofs.YtcnhjofpmpipfaaGreat.S.ruleOf x1 x2).2 (some ((keqS (Go.Proofs.YtcnhjofpmpipfaaGreat.S.ruleOf x1 x2).1.2.1 x3), ())) (some (Bool.false, ()))))
theorem in_p_leads (g : ElA [(.list cRule), .str, .str] → Option Rt_p_leads) (J : Nat → List Nat → NRes → Option Rt_p_leads) (lf : Nat) (x1 : (List DRule)) (x2 : ByteArray) (x3 : ByteArray) : icodeT Tryz.prog ttT.get nm_p_leads fi125.nt (cl_p_leads _ lf) lf st_p_leads J fi125.body [] (argGo (argV [(.list cRule), .str, .str] (x1, x2, x3, ())) 0 .leaf) S0 [] (lastK ttT.get fi125 ⟨[(.list cRule), .str, .str], [(false, .bool)], g⟩) = R_p_leads_in lf x1 x2 x3 := by kernel_rfl
theorem nd_p_leads : (regs fi125.body).Nodup := by decide +kernel
theorem ok_p_leads : okC nm_p_leads st_p_leads hd_p_leads fi125.body none = true := by kernel_rfl
def A_p_leads (g : ElA [(.list cRule), .str, .str] → Option Rt_p_leads) (lf : Nat) : Nat → List Nat → NRes → Option Rt_p_leads := atN Tryz.prog ttT.get nm_p_leads fi125 ⟨[(.list cRule), .str, .str], [(false, .bool)], g⟩ (cl_p_leads _ lf) lf hd_p_leads
def F_p_leads (lf : Nat) (x1 : (List DRule)) (x2 : ByteArray) (x3 : ByteArray) : Option Rt_p_leads := R_p_leads_in lf x1 x2 x3
theorem run_p_leads (g : ElA [(.list cRule), .str, .str] → Option Rt_p_leads) (lf : Nat) (x1 : (List DRule)) (x2 : ByteArray) (x3 : ByteArray) : icodeT Tryz.prog ttT.get nm_p_leads fi125.nt (cl_p_leads _ lf) lf st_p_leads (A_p_leads g lf) fi125.body [] (argGo (argV [(.list cRule), .str, .str] (x1, x2, x3, ())) 0 .leaf) S0 [] (lastK ttT.get fi125 ⟨[(.list cRule), .str, .str], [(false, .bool)], g⟩) = F_p_leads lf x1 x2 x3 := by
    refine (in_p_leads g (A_p_leads g lf) lf x1 x2 x3).trans ?_
    rfl
theorem hxs_p_leads : HxsOK Tryz.prog hxl_p_leads := trivial
theorem mk_p_leads {g : ElA [(.list cRule), .str, .str] → Option Rt_p_leads} (hsm : SmOK Tryz.prog sml_p_leads) (hg : ∀ (x : ElA [(.list cRule), .str, .str]) (y : Rt_p_leads), WfA [(.list cRule), .str, .str] x → g x = some y → ∃ lf, F_p_leads lf x.1 x.2.1 x.2.2.1 = some y) : Con Tryz.prog 125 ⟨[(.list cRule), .str, .str], [(false, .bool)], g⟩ :=
  conT (nmf := nm_p_leads) (sml := sml_p_leads) (hxl := hxl_p_leads) (st := st_p_leads) (hd := hd_p_leads) 20 mixed ttOK ftOK hsm hxs_p_leads cal125 rfl rfl (by kernel_rfl) (fun x => by kernel_rfl) nd_p_leads ok_p_leads fun x y hx hy => by
    obtain ⟨lf, h⟩ := hg x y hx hy
    exact ⟨lf, (run_p_leads g lf x.1 x.2.1 x.2.2.1).trans h⟩
def nm_p_fits : Nat → Option Nm := fun k => none
def st_p_fits : Nat → Bool := fun k => false
def hd_p_fits : Nat → Bool := fun k => false
abbrev Rt_p_fits : Type := Bool × Unit
def sml_p_fits : List (Nat × Sm) := [(86, sp_p_within), (125, sp_p_leads)]
def hxl_p_fits : List (Nat × Hx) := []
def cl_p_fits (R : Type) (lf : Nat) : ClK R := icallK Tryz.prog ttT.get ftT.get (nm1 94 nm_p_fits) (smL sml_p_fits) (hxL hxl_p_fits) lf 20 R
abbrev id_p_fits : Nat := 94
def R_p_fits_in (lf : Nat) (x1 : (List DRule)) (x2 : DGive) (x3 : DCol) (x4 : DCol) : Option Rt_p_fits := (cond (ieqI x2.2.1 (Int.ofNat 1)) (cond (ieqI x3.2.1 x4.2.1) (cond (Bool.not (ieqI x3.2.1 (Int.ofNat 3))) (some (Bool.true, ())) (some ((Go.Proofs.YtcnhjofpmpipfaaGreat.S.leads x1 x3.2.2 x4.2.2), ()))) (some (Bool.false, ()))) (cond (ieqI x2.2.1 (Int.ofNat 2)) (cond (ieqI x3.2.1 (Int.ofNat 2)) (some ((ieqI x4.2.1 (Int.ofNat 1)), ())) (some (Bool.false, ()))) (cond (ieqI x2.2.1 (Int.ofNat 3)) (cond (ieqI x3.2.1 (Int.ofNat 1)) (some ((ieqI x4.2.1 (Int.ofNat 2)), ())) (some (Bool.false, ()))) (cond (ieqI x2.2.1 (Int.ofNat 4)) (cond (ieqI x3.2.1 (Int.ofNat 1)) (some ((ieqI x4.2.1 (Int.ofNat 1)), ())) (some (Bool.false, ()))) (cond (ieqI x2.2.1 (Int.ofNat 5)) (cond (ieqI x3.2.1 (Int.ofNat 3)) (cond (ieqI x4.2.1 (Int.ofNat 3)) (some ((Go.Proofs.YtcnhjofpmpipfaaGreat.S.leads x1 x3.2.2 x4.2.2), ())) (some (Bool.false, ()))) (some (Bool.false, ()))) (cond (ieqI x2.2.1 (Int.ofNat 6)) (cond (ieqI x4.2.1 (Int.ofNat 1)) (some (Bool.true, ())) (cond (ieqI x4.2.1 (Int.ofNat 2)) (some ((Go.Proofs.YtcnhjofpmpipfaaGreat.S.within x2.2.2 (Int.ofNat 0) (Int.ofNat 1)), ())) (some (Bool.false, ())))) (some ((ieqI x4.2.1 (Int.ofNat 3)), ()))))))))
theorem in_p_fits (g : ElA [(.list cRule), cGive, cCol, cCol] → Option Rt_p_fits) (J : Nat → List Nat → NRes → Option Rt_p_fits) (lf : Nat) (x1 : (List DRule)) (x2 : DGive) (x3 : DCol) (x4 : DCol) : icodeT Tryz.prog ttT.get nm_p_fits fi94.nt (cl_p_fits _ lf) lf st_p_fits J fi94.body [] (argGo (argV [(.list cRule), cGive, cCol, cCol] (x1, x2, x3, x4, ())) 0 .leaf) S0 [] (lastK ttT.get fi94 ⟨[(.list cRule), cGive, cCol, cCol], [(false, .bool)], g⟩) = R_p_fits_in lf x1 x2 x3 x4 := by kernel_rfl
theorem nd_p_fits : (regs fi94.body).Nodup := by decide +kernel
theorem ok_p_fits : okC nm_p_fits st_p_fits hd_p_fits fi94.body none = true := by kernel_rfl
def A_p_fits (g : ElA [(.list cRule), cGive, cCol, cCol] → Option Rt_p_fits) (lf : Nat) : Nat → List Nat → NRes → Option Rt_p_fits := atN Tryz.prog ttT.get nm_p_fits fi94 ⟨[(.list cRule), cGive, cCol, cCol], [(false, .bool)], g⟩ (cl_p_fits _ lf) lf hd_p_fits
def F_p_fits (lf : Nat) (x1 : (List DRule)) (x2 : DGive) (x3 : DCol) (x4 : DCol) : Option Rt_p_fits := R_p_fits_in lf x1 x2 x3 x4
theorem run_p_fits (g : ElA [(.list cRule), cGive, cCol, cCol] → Option Rt_p_fits) (lf : Nat) (x1 : (List DRule)) (x2 : DGive) (x3 : DCol) (x4 : DCol) : icodeT Tryz.prog ttT.get nm_p_fits fi94.nt (cl_p_fits _ lf) lf st_p_fits (A_p_fits g lf) fi94.body [] (argGo (argV [(.list cRule), cGive, cCol, cCol] (x1, x2, x3, x4, ())) 0 .leaf) S0 [] (lastK ttT.get fi94 ⟨[(.list cRule), cGive, cCol, cCol], [(false, .bool)], g⟩) = F_p_fits lf x1 x2 x3 x4 := by
    refine (in_p_fits g (A_p_fits g lf) lf x1 x2 x3 x4).trans ?_
    rfl
theorem hxs_p_fits : HxsOK Tryz.prog hxl_p_fits := trivial
theorem mk_p_fits {g : ElA [(.list cRule), cGive, cCol, cCol] → Option Rt_p_fits} (hsm : SmOK Tryz.prog sml_p_fits) (hg : ∀ (x : ElA [(.list cRule), cGive, cCol, cCol]) (y : Rt_p_fits), WfA [(.list cRule), cGive, cCol, cCol] x → g x = some y → ∃ lf, F_p_fits lf x.1 x.2.1 x.2.2.1 x.2.2.2.1 = some y) : Con Tryz.prog 94 ⟨[(.list cRule), cGive, cCol, cCol], [(false, .bool)], g⟩ :=
  conT (nmf := nm_p_fits) (sml := sml_p_fits) (hxl := hxl_p_fits) (st := st_p_fits) (hd := hd_p_fits) 20 mixed ttOK ftOK hsm hxs_p_fits cal94 rfl rfl (by kernel_rfl) (fun x => by kernel_rfl) nd_p_fits ok_p_fits fun x y hx hy => by
    obtain ⟨lf, h⟩ := hg x y hx hy
    exact ⟨lf, (run_p_fits g lf x.1 x.2.1 x.2.2.1 x.2.2.2.1).trans h⟩
def nm_p_give : Nat → Option Nm := fun k => cond (Nat.beq k 8) (some ⟨[0, 2, 5, 7, 9, 10, 11], [], [], [], [], 0, 0, false⟩) (cond (Nat.beq k 11) (some ⟨[0, 2, 5, 7, 9, 10, 12], [], [], [], [], 0, 0, false⟩) (cond (Nat.beq k 13) (some ⟨[0, 5, 7, 12], [], [], [], [], 0, 0, false⟩) (none)))
def st_p_give : Nat → Bool := fun k => cond (Nat.beq k 8) true (cond (Nat.beq k 11) true (cond (Nat.beq k 13) true (false)))
def hd_p_give : Nat → Bool := fun k => false
abbrev Rt_p_give : Type := Int × Unit
def sml_p_give : List (Nat × Sm) := [(85, sp_p_col), (86, sp_p_within), (94, sp_p_fits)]
def hxl_p_give : List (Nat × Hx) := []
def cl_p_give (R : Type) (lf : Nat) : ClK R := icallK Tryz.prog ttT.get ftT.get (nm1 54 nm_p_give) (smL sml_p_give) (hxL hxl_p_give) lf 20 R
abbrev id_p_give : Nat := 54
def enc_p_give_8 (x1 : (List DRule)) (x2 : DGive) (x3 : (List DCol)) (x4 : DCol) (p : Int) : NRes := (NRes.mk (PT.node (some (IV.lst cRule x1)) (PT.node none (PT.node none (PT.node (some (IV.ptr 1 0)) PT.leaf PT.leaf) (PT.node (some (IV.int Go.IntKind.i64 p)) PT.leaf PT.leaf)) (PT.node (some (IV.ptr 0 0)) (PT.node (some (IV.int Go.IntKind.i64 (Go.Proofs.YtcnhjofpmpipfaaGreat.S.col x3 x2.1))) PT.leaf PT.leaf) PT.leaf)) (PT.node (some (IV.lst cCol x3)) PT.leaf (PT.node none (PT.node (some (IV.bool (Go.Proofs.YtcnhjofpmpipfaaGreat.S.within x2.2.1 (Int.ofNat 1) (Int.ofNat 5)))) PT.leaf PT.leaf) PT.leaf))) (IS.mk (PT.node (some (IObj.row (List.cons (IV.str x2.1) (List.cons (IV.int Go.IntKind.i64 x2.2.1) (List.cons (IV.int Go.IntKind.i64 x2.2.2) []))))) (PT.node (some (IObj.row (List.cons (IV.str x4.1) (List.cons (IV.int Go.IntKind.i64 x4.2.1) (List.cons (IV.str x4.2.2) []))))) PT.leaf PT.leaf) PT.leaf) 2) [] 0)
def enc_p_give_11 (x1 : (List DRule)) (x2 : DGive) (x3 : (List DCol)) (x4 : DCol) (p : Unit) : NRes := (NRes.mk (PT.node (some (IV.lst cRule x1)) (PT.node none (PT.node none (PT.node (some (IV.ptr 1 0)) PT.leaf PT.leaf) PT.leaf) (PT.node (some (IV.ptr 0 0)) (PT.node (some (IV.int Go.IntKind.i64 (Go.Proofs.YtcnhjofpmpipfaaGreat.S.col x3 x2.1))) PT.leaf PT.leaf) PT.leaf)) (PT.node (some (IV.lst cCol x3)) (PT.node none PT.leaf (PT.node (some (IV.ptr 2 0)) PT.leaf PT.leaf)) (PT.node none (PT.node (some (IV.bool (Go.Proofs.YtcnhjofpmpipfaaGreat.S.within x2.2.1 (Int.ofNat 1) (Int.ofNat 5)))) PT.leaf PT.leaf) PT.leaf))) (IS.mk (PT.node (some (IObj.row (List.cons (IV.str x2.1) (List.cons (IV.int Go.IntKind.i64 x2.2.1) (List.cons (IV.int Go.IntKind.i64 x2.2.2) []))))) (PT.node (some (IObj.row (List.cons (IV.str x4.1) (List.cons (IV.int Go.IntKind.i64 x4.2.1) (List.cons (IV.str x4.2.2) []))))) PT.leaf PT.leaf) (PT.node (some (IObj.row (List.cons (IV.str (S.lit [])) (List.cons (IV.int Go.IntKind.i64 (Int.ofNat 0)) (List.cons (IV.str (S.lit [])) []))))) PT.leaf PT.leaf)) 3) [] 0)
def enc_p_give_13 (x1 : (List DRule)) (x2 : DGive) (x3 : (List DCol)) (x4 : DCol) (p : ByteArray × Int × ByteArray) : NRes := (NRes.mk (PT.node (some (IV.lst cRule x1)) (PT.node none (PT.node none (PT.node (some (IV.ptr 1 0)) PT.leaf PT.leaf) PT.leaf) (PT.node (some (IV.ptr 0 0)) PT.leaf PT.leaf)) (PT.node none (PT.node none PT.leaf (PT.node (some (IV.ptr 2 0)) PT.leaf PT.leaf)) PT.leaf)) (IS.mk (PT.node (some (IObj.row (List.cons (IV.str x2.1) (List.cons (IV.int Go.IntKind.i64 x2.2.1) (List.cons (IV.int Go.IntKind.i64 x2.2.2) []))))) (PT.node (some (IObj.row (List.cons (IV.str x4.1) (List.cons (IV.int Go.IntKind.i64 x4.2.1) (List.cons (IV.str x4.2.2) []))))) PT.leaf PT.leaf) (PT.node (some (IObj.row (List.cons (IV.str p.1) (List.cons (IV.int Go.IntKind.i64 p.2.1) (List.cons (IV.str p.2.2) []))))) PT.leaf PT.leaf)) 3) [] 0)
def R_p_give_in (lf : Nat) (x1 : (List DRule)) (x2 : DGive) (x3 : (List DCol)) (x4 : DCol) (L8 : Int → Option Rt_p_give) : Option Rt_p_give := (cond (Go.Proofs.YtcnhjofpmpipfaaGreat.S.within x2.2.1 (Int.ofNat 1) (Int.ofNat 5)) (cond (iltI (Go.Proofs.YtcnhjofpmpipfaaGreat.S.col x3 x2.1) (Int.ofNat 0)) (some ((Int.ofNat 4), ())) (cond (ieqI x2.2.1 (Int.ofNat 4)) (L8 (Int.ofNat 1099511627776)) (cond (ieqI x2.2.1 (Int.ofNat 6)) (L8 (Int.ofNat 1099511627776)) (L8 (Int.ofNat 0))))) (cond (ieqI x2.2.1 (Int.ofNat 4)) (L8 (Int.ofNat 1099511627776)) (cond (ieqI x2.2.1 (Int.ofNat 6)) (L8 (Int.ofNat 1099511627776)) (L8 (Int.ofNat 0)))))
def R_p_give_8 (lf : Nat) (x1 : (List DRule)) (x2 : DGive) (x3 : (List DCol)) (x4 : DCol) (L11 : Unit → Option Rt_p_give) (p : Int) : Option Rt_p_give := (cond (Bool.not (Go.Proofs.YtcnhjofpmpipfaaGreat.S.within x2.2.1 (Int.ofNat 1) (Int.ofNat 7))) (some ((Int.ofNat 1), ())) (cond (Bool.not (Go.Proofs.YtcnhjofpmpipfaaGreat.S.within x2.2.1 (Int.ofNat 1) (Int.ofNat 5))) (cond (Bool.not (keqS x2.1 (S.lit []))) (some ((Int.ofNat 1), ())) (cond (Bool.not (Go.Proofs.YtcnhjofpmpipfaaGreat.S.within x2.2.2 (Go.IntKind.wrap Go.IntKind.i64 (Int.sub (Int.ofNat 0) p)) p)) (some ((Int.ofNat 1), ())) (cond (ieqI x2.2.1 (Int.ofNat 6)) (cond (ieqI x4.2.1 (Int.ofNat 2)) (cond (Bool.not (Go.Proofs.YtcnhjofpmpipfaaGreat.S.within x2.2.2 (Int.ofNat 0) (Int.ofNat 1))) (some ((Int.ofNat 1), ())) (L11 ())) (L11 ())) (L11 ())))) (cond (Bool.not (Go.Proofs.YtcnhjofpmpipfaaGreat.S.within x2.2.2 (Go.IntKind.wrap Go.IntKind.i64 (Int.sub (Int.ofNat 0) p)) p)) (some ((Int.ofNat 1), ())) (cond (ieqI x2.2.1 (Int.ofNat 6)) (cond (ieqI x4.2.1 (Int.ofNat 2)) (cond (Bool.not (Go.Proofs.YtcnhjofpmpipfaaGreat.S.within x2.2.2 (Int.ofNat 0) (Int.ofNat 1))) (some ((Int.ofNat 1), ())) (L11 ())) (L11 ())) (L11 ())))))
def R_p_give_11 (lf : Nat) (x1 : (List DRule)) (x2 : DGive) (x3 : (List DCol)) (x4 : DCol) (L13 : (ByteArray × Int × ByteArray) → Option Rt_p_give) (p : Unit) : Option Rt_p_give := (cond (Go.Proofs.YtcnhjofpmpipfaaGreat.S.within x2.2.1 (Int.ofNat 1) (Int.ofNat 5)) (match (jget x3 (Go.Proofs.YtcnhjofpmpipfaaGreat.S.col x3 x2.1)) with | .none  => none | .some v0 => (L13 (v0.1, v0.2.1, v0.2.2))) (L13 ((S.lit []), (Int.ofNat 0), (S.lit []))))
def R_p_give_13 (lf : Nat) (x1 : (List DRule)) (x2 : DGive) (x3 : (List DCol)) (x4 : DCol) (p : ByteArray × Int × ByteArray) : Option Rt_p_give := (cond (Go.Proofs.YtcnhjofpmpipfaaGreat.S.fits x1 (x2.1, (x2.2.1, x2.2.2)) (p.1, (p.2.1, p.2.2)) (x4.1, (x4.2.1, x4.2.2))) (some ((Int.ofNat 0), ())) (some ((Int.ofNat 8), ())))
theorem in_p_give (g : ElA [(.list cRule), cGive, (.list cCol), cCol] → Option Rt_p_give) (J : Nat → List Nat → NRes → Option Rt_p_give) (lf : Nat) (x1 : (List DRule)) (x2 : DGive) (x3 : (List DCol)) (x4 : DCol) : icodeT Tryz.prog ttT.get nm_p_give fi54.nt (cl_p_give _ lf) lf st_p_give J fi54.body [] (argGo (argV [(.list cRule), cGive, (.list cCol), cCol] (x1, x2, x3, x4, ())) 0 .leaf) S0 [] (lastK ttT.get fi54 ⟨[(.list cRule), cGive, (.list cCol), cCol], [(false, (.int .i64))], g⟩) = R_p_give_in lf x1 x2 x3 x4 (fun q => J 8 [] (enc_p_give_8 x1 x2 x3 x4 q)) := by kernel_rfl
theorem st_p_give_8 (g : ElA [(.list cRule), cGive, (.list cCol), cCol] → Option Rt_p_give) (J : Nat → List Nat → NRes → Option Rt_p_give) (lf : Nat) (x1 : (List DRule)) (x2 : DGive) (x3 : (List DCol)) (x4 : DCol) (p : Int) : icodeFT Tryz.prog ttT.get nm_p_give fi54.nt (cl_p_give _ lf) lf st_p_give J 8 fi54.body [] [] (enc_p_give_8 x1 x2 x3 x4 p) (lastK ttT.get fi54 ⟨[(.list cRule), cGive, (.list cCol), cCol], [(false, (.int .i64))], g⟩) = R_p_give_8 lf x1 x2 x3 x4 (fun q => J 11 [] (enc_p_give_11 x1 x2 x3 x4 q)) p := by kernel_rfl
theorem st_p_give_11 (g : ElA [(.list cRule), cGive, (.list cCol), cCol] → Option Rt_p_give) (J : Nat → List Nat → NRes → Option Rt_p_give) (lf : Nat) (x1 : (List DRule)) (x2 : DGive) (x3 : (List DCol)) (x4 : DCol) (p : Unit) : icodeFT Tryz.prog ttT.get nm_p_give fi54.nt (cl_p_give _ lf) lf st_p_give J 11 fi54.body [] [] (enc_p_give_11 x1 x2 x3 x4 p) (lastK ttT.get fi54 ⟨[(.list cRule), cGive, (.list cCol), cCol], [(false, (.int .i64))], g⟩) = R_p_give_11 lf x1 x2 x3 x4 (fun q => J 13 [] (enc_p_give_13 x1 x2 x3 x4 q)) p := by kernel_rfl
theorem st_p_give_13 (g : ElA [(.list cRule), cGive, (.list cCol), cCol] → Option Rt_p_give) (J : Nat → List Nat → NRes → Option Rt_p_give) (lf : Nat) (x1 : (List DRule)) (x2 : DGive) (x3 : (List DCol)) (x4 : DCol) (p : ByteArray × Int × ByteArray) : icodeFT Tryz.prog ttT.get nm_p_give fi54.nt (cl_p_give _ lf) lf st_p_give J 13 fi54.body [] [] (enc_p_give_13 x1 x2 x3 x4 p) (lastK ttT.get fi54 ⟨[(.list cRule), cGive, (.list cCol), cCol], [(false, (.int .i64))], g⟩) = R_p_give_13 lf x1 x2 x3 x4 p := by kernel_rfl
theorem nd_p_give : (regs fi54.body).Nodup := by decide +kernel
theorem ok_p_give : okC nm_p_give st_p_give hd_p_give fi54.body none = true := by kernel_rfl
def A_p_give (g : ElA [(.list cRule), cGive, (.list cCol), cCol] → Option Rt_p_give) (lf : Nat) : Nat → List Nat → NRes → Option Rt_p_give := atN Tryz.prog ttT.get nm_p_give fi54 ⟨[(.list cRule), cGive, (.list cCol), cCol], [(false, (.int .i64))], g⟩ (cl_p_give _ lf) lf hd_p_give
def G_p_give_13 (lf : Nat) (x1 : (List DRule)) (x2 : DGive) (x3 : (List DCol)) (x4 : DCol) (p : ByteArray × Int × ByteArray) : Option Rt_p_give := R_p_give_13 lf x1 x2 x3 x4 p
theorem at_p_give_13 (g : ElA [(.list cRule), cGive, (.list cCol), cCol] → Option Rt_p_give) (lf : Nat) (x1 : (List DRule)) (x2 : DGive) (x3 : (List DCol)) (x4 : DCol) (p : ByteArray × Int × ByteArray) : A_p_give g lf 13 [] (enc_p_give_13 x1 x2 x3 x4 p) = G_p_give_13 lf x1 x2 x3 x4 p := by
    refine (atN_eq (icallK_eq 20 _) nd_p_give ok_p_give 13 [] [] rfl _).trans ((st_p_give_13 g (A_p_give g lf) lf x1 x2 x3 x4 p).trans ?_)
    rfl
def G_p_give_11 (lf : Nat) (x1 : (List DRule)) (x2 : DGive) (x3 : (List DCol)) (x4 : DCol) (p : Unit) : Option Rt_p_give := R_p_give_11 lf x1 x2 x3 x4 (fun q => G_p_give_13 lf x1 x2 x3 x4 q) p
theorem at_p_give_11 (g : ElA [(.list cRule), cGive, (.list cCol), cCol] → Option Rt_p_give) (lf : Nat) (x1 : (List DRule)) (x2 : DGive) (x3 : (List DCol)) (x4 : DCol) (p : Unit) : A_p_give g lf 11 [] (enc_p_give_11 x1 x2 x3 x4 p) = G_p_give_11 lf x1 x2 x3 x4 p := by
    refine (atN_eq (icallK_eq 20 _) nd_p_give ok_p_give 11 [] [] rfl _).trans ((st_p_give_11 g (A_p_give g lf) lf x1 x2 x3 x4 p).trans ?_)
    rw [(show (fun q => A_p_give g lf 13 [] (enc_p_give_13 x1 x2 x3 x4 q)) = (fun q => G_p_give_13 lf x1 x2 x3 x4 q) from funext fun q => at_p_give_13 g lf x1 x2 x3 x4 q)]
    rfl
def G_p_give_8 (lf : Nat) (x1 : (List DRule)) (x2 : DGive) (x3 : (List DCol)) (x4 : DCol) (p : Int) : Option Rt_p_give := R_p_give_8 lf x1 x2 x3 x4 (fun q => G_p_give_11 lf x1 x2 x3 x4 q) p
theorem at_p_give_8 (g : ElA [(.list cRule), cGive, (.list cCol), cCol] → Option Rt_p_give) (lf : Nat) (x1 : (List DRule)) (x2 : DGive) (x3 : (List DCol)) (x4 : DCol) (p : Int) : A_p_give g lf 8 [] (enc_p_give_8 x1 x2 x3 x4 p) = G_p_give_8 lf x1 x2 x3 x4 p := by
    refine (atN_eq (icallK_eq 20 _) nd_p_give ok_p_give 8 [] [] rfl _).trans ((st_p_give_8 g (A_p_give g lf) lf x1 x2 x3 x4 p).trans ?_)
    rw [(show (fun q => A_p_give g lf 11 [] (enc_p_give_11 x1 x2 x3 x4 q)) = (fun q => G_p_give_11 lf x1 x2 x3 x4 q) from funext fun q => at_p_give_11 g lf x1 x2 x3 x4 q)]
    rfl
def F_p_give (lf : Nat) (x1 : (List DRule)) (x2 : DGive) (x3 : (List DCol)) (x4 : DCol) : Option Rt_p_give := R_p_give_in lf x1 x2 x3 x4 (fun q => G_p_give_8 lf x1 x2 x3 x4 q)
theorem run_p_give (g : ElA [(.list cRule), cGive, (.list cCol), cCol] → Option Rt_p_give) (lf : Nat) (x1 : (List DRule)) (x2 : DGive) (x3 : (List DCol)) (x4 : DCol) : icodeT Tryz.prog ttT.get nm_p_give fi54.nt (cl_p_give _ lf) lf st_p_give (A_p_give g lf) fi54.body [] (argGo (argV [(.list cRule), cGive, (.list cCol), cCol] (x1, x2, x3, x4, ())) 0 .leaf) S0 [] (lastK ttT.get fi54 ⟨[(.list cRule), cGive, (.list cCol), cCol], [(false, (.int .i64))], g⟩) = F_p_give lf x1 x2 x3 x4 := by
    refine (in_p_give g (A_p_give g lf) lf x1 x2 x3 x4).trans ?_
    rw [(show (fun q => A_p_give g lf 8 [] (enc_p_give_8 x1 x2 x3 x4 q)) = (fun q => G_p_give_8 lf x1 x2 x3 x4 q) from funext fun q => at_p_give_8 g lf x1 x2 x3 x4 q)]
    rfl
theorem hxs_p_give : HxsOK Tryz.prog hxl_p_give := trivial
theorem mk_p_give {g : ElA [(.list cRule), cGive, (.list cCol), cCol] → Option Rt_p_give} (hsm : SmOK Tryz.prog sml_p_give) (hg : ∀ (x : ElA [(.list cRule), cGive, (.list cCol), cCol]) (y : Rt_p_give), WfA [(.list cRule), cGive, (.list cCol), cCol] x → g x = some y → ∃ lf, F_p_give lf x.1 x.2.1 x.2.2.1 x.2.2.2.1 = some y) : Con Tryz.prog 54 ⟨[(.list cRule), cGive, (.list cCol), cCol], [(false, (.int .i64))], g⟩ :=
  conT (nmf := nm_p_give) (sml := sml_p_give) (hxl := hxl_p_give) (st := st_p_give) (hd := hd_p_give) 20 mixed ttOK ftOK hsm hxs_p_give cal54 rfl rfl (by kernel_rfl) (fun x => by kernel_rfl) nd_p_give ok_p_give fun x y hx hy => by
    obtain ⟨lf, h⟩ := hg x y hx hy
    exact ⟨lf, (run_p_give g lf x.1 x.2.1 x.2.2.1 x.2.2.2.1).trans h⟩
def nm_p_checkRules : Nat → Option Nm := fun k => cond (Nat.beq k 4) (some ⟨[0, 1, 2, 25, 26, 27], [], [], [], [], 0, 0, false⟩) (cond (Nat.beq k 13) (some ⟨[0, 1, 2, 55, 56, 57], [], [], [], [], 0, 0, false⟩) (cond (Nat.beq k 20) (some ⟨[0, 1, 2, 71, 72, 73], [], [], [], [], 0, 0, false⟩) (cond (Nat.beq k 26) (some ⟨[0, 1, 2, 17, 18, 71, 72, 73, 100, 101, 102], [], [], [], [], 0, 0, false⟩) (none))))
def st_p_checkRules : Nat → Bool := fun k => cond (Nat.beq k 4) true (cond (Nat.beq k 13) true (cond (Nat.beq k 20) true (cond (Nat.beq k 26) true (false))))
def hd_p_checkRules : Nat → Bool := fun k => cond (Nat.beq k 4) true (cond (Nat.beq k 13) true (cond (Nat.beq k 20) true (cond (Nat.beq k 26) true (false))))
abbrev Rt_p_checkRules : Type := Int × Unit
def sml_p_checkRules : List (Nat × Sm) := [(37, sp_p_form), (36, sp_p_ruleOf), (54, sp_p_give)]
def hxl_p_checkRules : List (Nat × Hx) := []
def cl_p_checkRules (R : Type) (lf : Nat) : ClK R := icallK Tryz.prog ttT.get ftT.get (nm1 45 nm_p_checkRules) (smL sml_p_checkRules) (hxL hxl_p_checkRules) lf 20 R
abbrev id_p_checkRules : Nat := 45
def enc_p_checkRules_4 (x1 : (List DForm)) (x2 : (List DForm)) (x3 : (List DRule)) (p : Int) : NRes := (NRes.mk (PT.node (some (IV.lst cForm x1)) (PT.node (some (IV.lst cForm x2)) (PT.node none PT.leaf (PT.node none PT.leaf (PT.node (some (IV.int Go.IntKind.i64 p)) PT.leaf PT.leaf))) (PT.node none (PT.node none PT.leaf (PT.node (some (IV.lst cRule x3)) PT.leaf PT.leaf)) PT.leaf)) (PT.node (some (IV.lst cRule x3)) PT.leaf (PT.node none (PT.node none PT.leaf (PT.node (some (IV.int Go.IntKind.i64 (Int.ofNat (List.length x3)))) PT.leaf PT.leaf)) PT.leaf))) (IS.mk PT.leaf 0) [] 0)
def enc_p_checkRules_13 (x1 : (List DForm)) (x2 : (List DForm)) (x3 : (List DRule)) (p : Int) : NRes := (NRes.mk (PT.node (some (IV.lst cForm x1)) (PT.node (some (IV.lst cForm x2)) (PT.node none (PT.node none PT.leaf (PT.node none PT.leaf (PT.node (some (IV.lst cForm x1)) PT.leaf PT.leaf))) PT.leaf) (PT.node none (PT.node none PT.leaf (PT.node none PT.leaf (PT.node (some (IV.int Go.IntKind.i64 p)) PT.leaf PT.leaf))) PT.leaf)) (PT.node (some (IV.lst cRule x3)) (PT.node none (PT.node none PT.leaf (PT.node none PT.leaf (PT.node (some (IV.int Go.IntKind.i64 (Int.ofNat (List.length x1)))) PT.leaf PT.leaf))) PT.leaf) PT.leaf)) (IS.mk PT.leaf 0) [] 0)
def enc_p_checkRules_20 (x1 : (List DForm)) (x2 : (List DForm)) (x3 : (List DRule)) (p : Int) : NRes := (NRes.mk (PT.node (some (IV.lst cForm x1)) (PT.node (some (IV.lst cForm x2)) (PT.node none (PT.node none PT.leaf (PT.node none (PT.node none (PT.node (some (IV.lst cRule x3)) PT.leaf PT.leaf) PT.leaf) PT.leaf)) PT.leaf) (PT.node none (PT.node none PT.leaf (PT.node none (PT.node none (PT.node (some (IV.int Go.IntKind.i64 p)) PT.leaf PT.leaf) PT.leaf) PT.leaf)) PT.leaf)) (PT.node (some (IV.lst cRule x3)) (PT.node none (PT.node none PT.leaf (PT.node none (PT.node none (PT.node (some (IV.int Go.IntKind.i64 (Int.ofNat (List.length x3)))) PT.leaf PT.leaf) PT.leaf) PT.leaf)) PT.leaf) PT.leaf)) (IS.mk PT.leaf 0) [] 0)
def enc_p_checkRules_26 (x1 : (List DForm)) (x2 : (List DForm)) (x3 : (List DRule)) (p : (List DCol) × (List DCol) × (List DGive) × Int × Int) : NRes := (NRes.mk (PT.node (some (IV.lst cForm x1)) (PT.node (some (IV.lst cForm x2)) (PT.node none (PT.node none PT.leaf (PT.node none (PT.node none (PT.node (some (IV.lst cRule x3)) PT.leaf PT.leaf) PT.leaf) PT.leaf)) PT.leaf) (PT.node none (PT.node none (PT.node (some (IV.lst cCol p.2.1)) PT.leaf PT.leaf) (PT.node none (PT.node none (PT.node (some (IV.int Go.IntKind.i64 p.2.2.2.2)) PT.leaf PT.leaf) PT.leaf) PT.leaf)) (PT.node none (PT.node none (PT.node none PT.leaf (PT.node (some (IV.int Go.IntKind.i64 (Int.ofNat (List.length p.2.2.1)))) PT.leaf PT.leaf)) PT.leaf) PT.leaf))) (PT.node (some (IV.lst cRule x3)) (PT.node none (PT.node none PT.leaf (PT.node none (PT.node none (PT.node (some (IV.int Go.IntKind.i64 (Int.ofNat (List.length x3)))) PT.leaf PT.leaf) PT.leaf) PT.leaf)) (PT.node none (PT.node none (PT.node none PT.leaf (PT.node (some (IV.lst cGive p.2.2.1)) PT.leaf PT.leaf)) PT.leaf) PT.leaf)) (PT.node none (PT.node none (PT.node (some (IV.lst cCol p.1)) PT.leaf PT.leaf) PT.leaf) (PT.node none (PT.node none (PT.node none PT.leaf (PT.node (some (IV.int Go.IntKind.i64 p.2.2.2.1)) PT.leaf PT.leaf)) PT.leaf) PT.leaf)))) (IS.mk PT.leaf 0) [] 0)
def R_p_checkRules_in (lf : Nat) (x1 : (List DForm)) (x2 : (List DForm)) (x3 : (List DRule)) (L4 : Int → Option Rt_p_checkRules) : Option Rt_p_checkRules := (cond (iltI (Int.ofNat 24) (Int.ofNat (List.length x3))) (some ((Int.ofNat 3), ())) (L4 (Int.ofNat 0)))
def R_p_checkRules_4 (lf : Nat) (x1 : (List DForm)) (x2 : (List DForm)) (x3 : (List DRule)) (L4 : Int → Option Rt_p_checkRules) (L13 : Int → Option Rt_p_checkRules) (p : Int) : Option Rt_p_checkRules := (cond (iltI p (Int.ofNat (List.length x3))) (match (jget x3 p) with | .none  => none | .some v0 => (cond (iltI (Go.Proofs.YtcnhjofpmpipfaaGreat.S.form x1 v0.1) (Int.ofNat 0)) (some ((Int.ofNat 4), ())) (cond (iltI (Go.Proofs.YtcnhjofpmpipfaaGreat.S.form x2 v0.2.1) (Int.ofNat 0)) (some ((Int.ofNat 4), ())) (cond (lchk (Int.ofNat 0) p (Int.ofNat (List.length x3)) (Int.ofNat (List.length x3))) (cond (Go.Proofs.YtcnhjofpmpipfaaGreat.S.ruleOf (lsub x3 (Int.ofNat 0) p) v0.1).2 (some ((Int.ofNat 6), ())) (L4 (Go.IntKind.wrap Go.IntKind.i64 (Int.add p (Int.ofNat 1))))) none)))) (L13 (Int.ofNat 0)))
def R_p_checkRules_13 (lf : Nat) (x1 : (List DForm)) (x2 : (List DForm)) (x3 : (List DRule)) (L13 : Int → Option Rt_p_checkRules) (L20 : Int → Option Rt_p_checkRules) (p : Int) : Option Rt_p_checkRules := (cond (iltI p (Int.ofNat (List.length x1))) (match (jget x1 p) with | .none  => none | .some v0 => (cond (Bool.not (Go.Proofs.YtcnhjofpmpipfaaGreat.S.ruleOf x3 v0.1).2) (some ((Int.ofNat 5), ())) (L13 (Go.IntKind.wrap Go.IntKind.i64 (Int.add p (Int.ofNat 1)))))) (L20 (Int.ofNat 0)))
def R_p_checkRules_20 (lf : Nat) (x1 : (List DForm)) (x2 : (List DForm)) (x3 : (List DRule)) (L26 : ((List DCol) × (List DCol) × (List DGive) × Int × Int) → Option Rt_p_checkRules) (p : Int) : Option Rt_p_checkRules := (cond (iltI p (Int.ofNat (List.length x3))) (match (jget x3 p) with | .none  => none | .some v0 => (match (jget x1 (Go.Proofs.YtcnhjofpmpipfaaGreat.S.form x1 v0.1)) with | .none  => none | .some v1 => (match (jget x2 (Go.Proofs.YtcnhjofpmpipfaaGreat.S.form x2 v0.2.1)) with | .none  => none | .some v2 => (cond (Bool.not (ieqI (Int.ofNat (List.length v0.2.2)) (Int.ofNat (List.length v2.2)))) (some ((Int.ofNat 2), ())) (L26 (v2.2, v1.2, v0.2.2, (Int.ofNat 0), p)))))) (some ((Int.ofNat 0), ())))
def R_p_checkRules_26 (lf : Nat) (x1 : (List DForm)) (x2 : (List DForm)) (x3 : (List DRule)) (L26 : ((List DCol) × (List DCol) × (List DGive) × Int × Int) → Option Rt_p_checkRules) (L20 : Int → Option Rt_p_checkRules) (p : (List DCol) × (List DCol) × (List DGive) × Int × Int) : Option Rt_p_checkRules := (cond (iltI p.2.2.2.1 (Int.ofNat (List.length p.2.2.1))) (match (jget p.2.2.1 p.2.2.2.1) with | .none  => none | .some v0 => (match (jget p.1 p.2.2.2.1) with | .none  => none | .some v1 => (cond (Bool.not (ieqI (Go.Proofs.YtcnhjofpmpipfaaGreat.S.give x3 (v0.1, (v0.2.1, v0.2.2)) p.2.1 (v1.1, (v1.2.1, v1.2.2))) (Int.ofNat 0))) (some ((Go.Proofs.YtcnhjofpmpipfaaGreat.S.give x3 (v0.1, (v0.2.1, v0.2.2)) p.2.1 (v1.1, (v1.2.1, v1.2.2))), ())) (L26 (p.1, p.2.1, p.2.2.1, (Go.IntKind.wrap Go.IntKind.i64 (Int.add p.2.2.2.1 (Int.ofNat 1))), p.2.2.2.2))))) (L20 (Go.IntKind.wrap Go.IntKind.i64 (Int.add p.2.2.2.2 (Int.ofNat 1)))))
theorem in_p_checkRules (g : ElA [(.list cForm), (.list cForm), (.list cRule)] → Option Rt_p_checkRules) (J : Nat → List Nat → NRes → Option Rt_p_checkRules) (lf : Nat) (x1 : (List DForm)) (x2 : (List DForm)) (x3 : (List DRule)) : icodeT Tryz.prog ttT.get nm_p_checkRules fi45.nt (cl_p_checkRules _ lf) lf st_p_checkRules J fi45.body [] (argGo (argV [(.list cForm), (.list cForm), (.list cRule)] (x1, x2, x3, ())) 0 .leaf) S0 [] (lastK ttT.get fi45 ⟨[(.list cForm), (.list cForm), (.list cRule)], [(false, (.int .i64))], g⟩) = R_p_checkRules_in lf x1 x2 x3 (fun q => J 4 [lf] (enc_p_checkRules_4 x1 x2 x3 q)) := by kernel_rfl
theorem st_p_checkRules_4 (g : ElA [(.list cForm), (.list cForm), (.list cRule)] → Option Rt_p_checkRules) (J : Nat → List Nat → NRes → Option Rt_p_checkRules) (lf : Nat) (x1 : (List DForm)) (x2 : (List DForm)) (x3 : (List DRule)) (m1 : Nat) (p : Int) : icodeFT Tryz.prog ttT.get nm_p_checkRules fi45.nt (cl_p_checkRules _ lf) lf st_p_checkRules J 4 fi45.body [] [m1] (enc_p_checkRules_4 x1 x2 x3 p) (lastK ttT.get fi45 ⟨[(.list cForm), (.list cForm), (.list cRule)], [(false, (.int .i64))], g⟩) = R_p_checkRules_4 lf x1 x2 x3 (fun q => J 4 [m1] (enc_p_checkRules_4 x1 x2 x3 q)) (fun q => J 13 [lf] (enc_p_checkRules_13 x1 x2 x3 q)) p := by kernel_rfl
theorem st_p_checkRules_13 (g : ElA [(.list cForm), (.list cForm), (.list cRule)] → Option Rt_p_checkRules) (J : Nat → List Nat → NRes → Option Rt_p_checkRules) (lf : Nat) (x1 : (List DForm)) (x2 : (List DForm)) (x3 : (List DRule)) (m1 : Nat) (p : Int) : icodeFT Tryz.prog ttT.get nm_p_checkRules fi45.nt (cl_p_checkRules _ lf) lf st_p_checkRules J 13 fi45.body [] [m1] (enc_p_checkRules_13 x1 x2 x3 p) (lastK ttT.get fi45 ⟨[(.list cForm), (.list cForm), (.list cRule)], [(false, (.int .i64))], g⟩) = R_p_checkRules_13 lf x1 x2 x3 (fun q => J 13 [m1] (enc_p_checkRules_13 x1 x2 x3 q)) (fun q => J 20 [lf] (enc_p_checkRules_20 x1 x2 x3 q)) p := by kernel_rfl
theorem st_p_checkRules_20 (g : ElA [(.list cForm), (.list cForm), (.list cRule)] → Option Rt_p_checkRules) (J : Nat → List Nat → NRes → Option Rt_p_checkRules) (lf : Nat) (x1 : (List DForm)) (x2 : (List DForm)) (x3 : (List DRule)) (m1 : Nat) (p : Int) : icodeFT Tryz.prog ttT.get nm_p_checkRules fi45.nt (cl_p_checkRules _ lf) lf st_p_checkRules J 20 fi45.body [] [m1] (enc_p_checkRules_20 x1 x2 x3 p) (lastK ttT.get fi45 ⟨[(.list cForm), (.list cForm), (.list cRule)], [(false, (.int .i64))], g⟩) = R_p_checkRules_20 lf x1 x2 x3 (fun q => J 26 [m1, lf] (enc_p_checkRules_26 x1 x2 x3 q)) p := by kernel_rfl
theorem st_p_checkRules_26 (g : ElA [(.list cForm), (.list cForm), (.list cRule)] → Option Rt_p_checkRules) (J : Nat → List Nat → NRes → Option Rt_p_checkRules) (lf : Nat) (x1 : (List DForm)) (x2 : (List DForm)) (x3 : (List DRule)) (m1 : Nat) (m2 : Nat) (p : (List DCol) × (List DCol) × (List DGive) × Int × Int) : icodeFT Tryz.prog ttT.get nm_p_checkRules fi45.nt (cl_p_checkRules _ lf) lf st_p_checkRules J 26 fi45.body [] [m1, m2] (enc_p_checkRules_26 x1 x2 x3 p) (lastK ttT.get fi45 ⟨[(.list cForm), (.list cForm), (.list cRule)], [(false, (.int .i64))], g⟩) = R_p_checkRules_26 lf x1 x2 x3 (fun q => J 26 [m1, m2] (enc_p_checkRules_26 x1 x2 x3 q)) (fun q => J 20 [m1] (enc_p_checkRules_20 x1 x2 x3 q)) p := by kernel_rfl
theorem nd_p_checkRules : (regs fi45.body).Nodup := by decide +kernel
theorem ok_p_checkRules : okC nm_p_checkRules st_p_checkRules hd_p_checkRules fi45.body none = true := by kernel_rfl
def A_p_checkRules (g : ElA [(.list cForm), (.list cForm), (.list cRule)] → Option Rt_p_checkRules) (lf : Nat) : Nat → List Nat → NRes → Option Rt_p_checkRules := atN Tryz.prog ttT.get nm_p_checkRules fi45 ⟨[(.list cForm), (.list cForm), (.list cRule)], [(false, (.int .i64))], g⟩ (cl_p_checkRules _ lf) lf hd_p_checkRules
def G_p_checkRules_26 (lf : Nat) (x1 : (List DForm)) (x2 : (List DForm)) (x3 : (List DRule)) (K20 : Int → Option Rt_p_checkRules) : Nat → ((List DCol) × (List DCol) × (List DGive) × Int × Int) → Option Rt_p_checkRules := rounds fun K p => R_p_checkRules_26 lf x1 x2 x3 K K20 p
theorem at_p_checkRules_26 (g : ElA [(.list cForm), (.list cForm), (.list cRule)] → Option Rt_p_checkRules) (lf : Nat) (x1 : (List DForm)) (x2 : (List DForm)) (x3 : (List DRule)) (m1 : Nat) : ∀ (n : Nat) (p : (List DCol) × (List DCol) × (List DGive) × Int × Int), A_p_checkRules g lf 26 [m1, n] (enc_p_checkRules_26 x1 x2 x3 p) = G_p_checkRules_26 lf x1 x2 x3 (fun q => A_p_checkRules g lf 20 [m1] (enc_p_checkRules_20 x1 x2 x3 q)) n p
  | 0, p => atN_zero 26 [m1, 0] rfl _
  | n + 1, p => by
    have ih := at_p_checkRules_26 g lf x1 x2 x3 m1 n
    refine (atN_eq (icallK_eq 20 _) nd_p_checkRules ok_p_checkRules 26 [m1, n + 1] [m1, n] rfl _).trans ((st_p_checkRules_26 g (A_p_checkRules g lf) lf x1 x2 x3 m1 n p).trans ?_)
    rw [(show (fun q => A_p_checkRules g lf 26 [m1, n] (enc_p_checkRules_26 x1 x2 x3 q)) = (fun q => G_p_checkRules_26 lf x1 x2 x3 (fun q => A_p_checkRules g lf 20 [m1] (enc_p_checkRules_20 x1 x2 x3 q)) n q) from funext ih)]
    rfl
def G_p_checkRules_20 (lf : Nat) (x1 : (List DForm)) (x2 : (List DForm)) (x3 : (List DRule)) : Nat → (Int) → Option Rt_p_checkRules := rounds fun K p => R_p_checkRules_20 lf x1 x2 x3 (fun q => G_p_checkRules_26 lf x1 x2 x3 K lf q) p
theorem at_p_checkRules_20 (g : ElA [(.list cForm), (.list cForm), (.list cRule)] → Option Rt_p_checkRules) (lf : Nat) (x1 : (List DForm)) (x2 : (List DForm)) (x3 : (List DRule)) : ∀ (n : Nat) (p : Int), A_p_checkRules g lf 20 [n] (enc_p_checkRules_20 x1 x2 x3 p) = G_p_checkRules_20 lf x1 x2 x3 n p
  | 0, p => atN_zero 20 [0] rfl _
  | n + 1, p => by
    have ih := at_p_checkRules_20 g lf x1 x2 x3 n
    refine (atN_eq (icallK_eq 20 _) nd_p_checkRules ok_p_checkRules 20 [n + 1] [n] rfl _).trans ((st_p_checkRules_20 g (A_p_checkRules g lf) lf x1 x2 x3 n p).trans ?_)
    rw [(show (fun q => A_p_checkRules g lf 26 [n, lf] (enc_p_checkRules_26 x1 x2 x3 q)) = (fun q => G_p_checkRules_26 lf x1 x2 x3 (fun q => A_p_checkRules g lf 20 [n] (enc_p_checkRules_20 x1 x2 x3 q)) lf q) from funext fun q => at_p_checkRules_26 g lf x1 x2 x3 n lf q), (show (fun q => A_p_checkRules g lf 20 [n] (enc_p_checkRules_20 x1 x2 x3 q)) = (fun q => G_p_checkRules_20 lf x1 x2 x3 n q) from funext ih)]
    rfl
def G_p_checkRules_13 (lf : Nat) (x1 : (List DForm)) (x2 : (List DForm)) (x3 : (List DRule)) : Nat → (Int) → Option Rt_p_checkRules := rounds fun K p => R_p_checkRules_13 lf x1 x2 x3 K (fun q => G_p_checkRules_20 lf x1 x2 x3 lf q) p
theorem at_p_checkRules_13 (g : ElA [(.list cForm), (.list cForm), (.list cRule)] → Option Rt_p_checkRules) (lf : Nat) (x1 : (List DForm)) (x2 : (List DForm)) (x3 : (List DRule)) : ∀ (n : Nat) (p : Int), A_p_checkRules g lf 13 [n] (enc_p_checkRules_13 x1 x2 x3 p) = G_p_checkRules_13 lf x1 x2 x3 n p
  | 0, p => atN_zero 13 [0] rfl _
  | n + 1, p => by
    have ih := at_p_checkRules_13 g lf x1 x2 x3 n
    refine (atN_eq (icallK_eq 20 _) nd_p_checkRules ok_p_checkRules 13 [n + 1] [n] rfl _).trans ((st_p_checkRules_13 g (A_p_checkRules g lf) lf x1 x2 x3 n p).trans ?_)
    rw [(show (fun q => A_p_checkRules g lf 20 [lf] (enc_p_checkRules_20 x1 x2 x3 q)) = (fun q => G_p_checkRules_20 lf x1 x2 x3 lf q) from funext fun q => at_p_checkRules_20 g lf x1 x2 x3 lf q), (show (fun q => A_p_checkRules g lf 13 [n] (enc_p_checkRules_13 x1 x2 x3 q)) = (fun q => G_p_checkRules_13 lf x1 x2 x3 n q) from funext ih)]
    rfl
def G_p_checkRules_4 (lf : Nat) (x1 : (List DForm)) (x2 : (List DForm)) (x3 : (List DRule)) : Nat → (Int) → Option Rt_p_checkRules := rounds fun K p => R_p_checkRules_4 lf x1 x2 x3 K (fun q => G_p_checkRules_13 lf x1 x2 x3 lf q) p
theorem at_p_checkRules_4 (g : ElA [(.list cForm), (.list cForm), (.list cRule)] → Option Rt_p_checkRules) (lf : Nat) (x1 : (List DForm)) (x2 : (List DForm)) (x3 : (List DRule)) : ∀ (n : Nat) (p : Int), A_p_checkRules g lf 4 [n] (enc_p_checkRules_4 x1 x2 x3 p) = G_p_checkRules_4 lf x1 x2 x3 n p
  | 0, p => atN_zero 4 [0] rfl _
  | n + 1, p => by
    have ih := at_p_checkRules_4 g lf x1 x2 x3 n
    refine (atN_eq (icallK_eq 20 _) nd_p_checkRules ok_p_checkRules 4 [n + 1] [n] rfl _).trans ((st_p_checkRules_4 g (A_p_checkRules g lf) lf x1 x2 x3 n p).trans ?_)
    rw [(show (fun q => A_p_checkRules g lf 13 [lf] (enc_p_checkRules_13 x1 x2 x3 q)) = (fun q => G_p_checkRules_13 lf x1 x2 x3 lf q) from funext fun q => at_p_checkRules_13 g lf x1 x2 x3 lf q), (show (fun q => A_p_checkRules g lf 4 [n] (enc_p_checkRules_4 x1 x2 x3 q)) = (fun q => G_p_checkRules_4 lf x1 x2 x3 n q) from funext ih)]
    rfl
def F_p_checkRules (lf : Nat) (x1 : (List DForm)) (x2 : (List DForm)) (x3 : (List DRule)) : Option Rt_p_checkRules := R_p_checkRules_in lf x1 x2 x3 (fun q => G_p_checkRules_4 lf x1 x2 x3 lf q)
theorem run_p_checkRules (g : ElA [(.list cForm), (.list cForm), (.list cRule)] → Option Rt_p_checkRules) (lf : Nat) (x1 : (List DForm)) (x2 : (List DForm)) (x3 : (List DRule)) : icodeT Tryz.prog ttT.get nm_p_checkRules fi45.nt (cl_p_checkRules _ lf) lf st_p_checkRules (A_p_checkRules g lf) fi45.body [] (argGo (argV [(.list cForm), (.list cForm), (.list cRule)] (x1, x2, x3, ())) 0 .leaf) S0 [] (lastK ttT.get fi45 ⟨[(.list cForm), (.list cForm), (.list cRule)], [(false, (.int .i64))], g⟩) = F_p_checkRules lf x1 x2 x3 := by
    refine (in_p_checkRules g (A_p_checkRules g lf) lf x1 x2 x3).trans ?_
    rw [(show (fun q => A_p_checkRules g lf 4 [lf] (enc_p_checkRules_4 x1 x2 x3 q)) = (fun q => G_p_checkRules_4 lf x1 x2 x3 lf q) from funext fun q => at_p_checkRules_4 g lf x1 x2 x3 lf q)]
    rfl
theorem hxs_p_checkRules : HxsOK Tryz.prog hxl_p_checkRules := trivial
theorem mk_p_checkRules {g : ElA [(.list cForm), (.list cForm), (.list cRule)] → Option Rt_p_checkRules} (hsm : SmOK Tryz.prog sml_p_checkRules) (hg : ∀ (x : ElA [(.list cForm), (.list cForm), (.list cRule)]) (y : Rt_p_checkRules), WfA [(.list cForm), (.list cForm), (.list cRule)] x → g x = some y → ∃ lf, F_p_checkRules lf x.1 x.2.1 x.2.2.1 = some y) : Con Tryz.prog 45 ⟨[(.list cForm), (.list cForm), (.list cRule)], [(false, (.int .i64))], g⟩ :=
  conT (nmf := nm_p_checkRules) (sml := sml_p_checkRules) (hxl := hxl_p_checkRules) (st := st_p_checkRules) (hd := hd_p_checkRules) 20 mixed ttOK ftOK hsm hxs_p_checkRules cal45 rfl rfl (by kernel_rfl) (fun x => by kernel_rfl) nd_p_checkRules ok_p_checkRules fun x y hx hy => by
    obtain ⟨lf, h⟩ := hg x y hx hy
    exact ⟨lf, (run_p_checkRules g lf x.1 x.2.1 x.2.2.1).trans h⟩
end Go.Proofs.YtcnhjofpmpipfaaGreat

end
end

/- What a call leaves that makes an empty list. -/
section
set_option linter.unusedVariables false
namespace Go.Jx
open Go Go.Sx Go.RowKit
universe u
/-- No data, of so many cells. -/
inductive NoD (n : Nat) : Type
instance (n : Nat) : Dat (NoD n) where
  sz := n
  enc _ _ _ x := nomatch x
  len {_ _ _ x} _ := nomatch x
  mono {_ _ _ _ _ x} _ _ := nomatch x
  ones {_ _ _ x} _ := nomatch x
end Go.Jx
end

/- The calls of slices.Clone. -/
section
set_option linter.unusedVariables false
set_option maxRecDepth 100000
namespace Go.Proofs.YtcnhjofpmpipfaaGreat
open Go Go.Sx Go.RowKit Go.Jx

end Go.Proofs.YtcnhjofpmpipfaaGreat
end

/- The contracts of package pack, second part: rules. -/
section
set_option linter.unusedVariables false
set_option maxRecDepth 100000
namespace Go.Proofs.YtcnhjofpmpipfaaGreat
open Go Go.Sx Go.RowKit Go.Jx

theorem F_p_leads_eq (lf : Nat) (l : List DRule) (a b : ByteArray) : F_p_leads lf l a b = some (S.leads l a b, ()) := by
  simp only [F_p_leads, R_p_leads_in, S.leads, keqS]
  have ea : S.lit [65, 78, 89] = S.ANY := rfl
  rw [ea]
  by_cases h : b = S.ANY
  · simp [h]
  · rw [decide_eq_false h, cond_false, Bool.false_or]
    cases (S.ruleOf l a).2 <;> rfl
theorem con_p_leads : Con Tryz.prog id_p_leads sp_p_leads := mk_p_leads ⟨con_p_ruleOf, trivial⟩ fun x y _ h => ⟨0, (F_p_leads_eq _ _ _ _).trans h⟩
theorem F_p_fits_eq (lf : Nat) (l : List DRule) (g : DGive) (a b : DCol) : F_p_fits lf l g a b = some (S.fits l g a b, ()) := by
  simp only [F_p_fits, R_p_fits_in, S.fits, ieqI_eq, oL]
  generalize S.leads l a.2.2 b.2.2 = bl
  generalize S.within g.2.2 0 1 = bw
  by_cases h1 : g.2.1 = 1
  · simp only [h1, decide_true, cond_true, if_true]
    by_cases h : a.2.1 = b.2.1
    · rw [h]
      by_cases h3 : b.2.1 = 3 <;> simp [h3]
    · simp [h]
  by_cases h2 : g.2.1 = 2
  · by_cases h : a.2.1 = 2 <;> simp [h2, h]
  by_cases h3 : g.2.1 = 3
  · by_cases h : a.2.1 = 1 <;> simp [h3, h]
  by_cases h4 : g.2.1 = 4
  · by_cases h : a.2.1 = 1 <;> simp [h4, h]
  by_cases h5 : g.2.1 = 5
  · by_cases h : a.2.1 = 3 <;> by_cases h' : b.2.1 = 3 <;> simp [h5, h, h']
  by_cases h6 : g.2.1 = 6
  · by_cases h : b.2.1 = 1 <;> by_cases h' : b.2.1 = 2 <;> simp [h6, h, h']
  simp [h1, h2, h3, h4, h5, h6]
theorem con_p_fits : Con Tryz.prog id_p_fits sp_p_fits := mk_p_fits ⟨con_p_within, con_p_leads, trivial⟩ fun x y _ h => ⟨0, (F_p_fits_eq _ _ _ _ _).trans h⟩
theorem gv_end (lf : Nat) (l : List DRule) (g : DGive) (cols : List DCol) (b : DCol) (p : DCol) : G_p_give_13 lf l g cols b p = some (S.unlessE (S.fits l g p b) 8, ()) := by
  simp only [G_p_give_13, R_p_give_13, Prod.eta, S.unlessE]
  cases S.fits l g p b <;> rfl
theorem gv_from (lf : Nat) (l : List DRule) (g : DGive) (cols : List DCol) (b : DCol) (h : S.within g.2.1 1 5 = true → 0 ≤ S.col cols g.1) : G_p_give_11 lf l g cols b () = some (S.unlessE (S.fits l g (if S.within g.2.1 1 5 = true then S.at_ S.zCol cols (S.col cols g.1) else S.zCol) b) 8, ()) := by
  simp only [G_p_give_11, R_p_give_11, gv_end, oL]
  cases hw : S.within g.2.1 1 5 with
  | false => rfl
  | true =>
    obtain ⟨c, c1, c2, _⟩ := S.idx_get (p := fun c : DCol => keqS c.1 g.1) (l := cols) (h hw)
    have c1' : jget cols (S.col cols g.1) = some c := c1
    have c3 : S.at_ S.zCol cols (S.col cols g.1) = c := by
      unfold S.at_ S.col
      rw [c2]; rfl
    simp only [c1', cond_true, if_true, c3, Prod.eta]
theorem F_p_give_eq (lf : Nat) (l : List DRule) (g : DGive) (cols : List DCol) (b : DCol) : F_p_give lf l g cols b = some (S.give l g cols b, ()) := by
  have key : ∀ p, (S.within g.2.1 1 5 = true → 0 ≤ S.col cols g.1) → p = S.most g → G_p_give_8 lf l g cols b p = some ((if S.within g.2.1 1 7 = false ∨ (S.within g.2.1 1 5 = false ∧ ¬ g.1 = S.lit []) ∨ S.within g.2.2 (-S.most g) (S.most g) = false ∨ (g.2.1 = 6 ∧ b.2.1 = 2 ∧ S.within g.2.2 0 1 = false) then 1
  else S.unlessE (S.fits l g (if S.within g.2.1 1 5 = true then S.at_ S.zCol cols (S.col cols g.1) else S.zCol) b) 8), ()) := by
    intro p hc hp
    have hn : IntKind.i64.wrap (Int.sub 0 p) = - S.most g := by
      subst hp
      have : Int.sub 0 (S.most g) = - S.most g := Int.zero_sub _
      rw [this]
      exact wrap64_in (by unfold S.most; split <;> simp)
    simp only [G_p_give_8, R_p_give_8, gv_from lf l g cols b hc, oL, hn, keqS, ieqI_eq]
    rw [hp]
    generalize S.unlessE _ _ = u
    generalize S.within g.2.1 1 7 = b7
    generalize S.within g.2.1 1 5 = b5
    generalize S.within g.2.2 (-S.most g) (S.most g) = bm
    generalize S.within g.2.2 0 1 = b01
    by_cases h1 : g.1 = S.lit [] <;> by_cases h6 : g.2.1 = 6 <;> by_cases h2 : b.2.1 = 2 <;> cases b7 <;> cases b5 <;> cases bm <;> cases b01 <;> simp [h1, h6, h2]
  simp only [F_p_give, R_p_give_in, S.give, oL, iltI_eq, ieqI_eq]
  by_cases hc : S.within g.2.1 1 5 = true ∧ S.col cols g.1 < 0
  · rw [if_pos hc, hc.1, decide_eq_true hc.2]; rfl
  rw [if_neg hc]
  have hc' : S.within g.2.1 1 5 = true → 0 ≤ S.col cols g.1 := fun h => by
    rcases Int.lt_or_le (S.col cols g.1) 0 with h1 | h1
    · exact absurd ⟨h, h1⟩ hc
    · exact h1
  have fin : (cond (decide (g.2.1 = 4)) (G_p_give_8 lf l g cols b 1099511627776) (cond (decide (g.2.1 = 6)) (G_p_give_8 lf l g cols b 1099511627776) (G_p_give_8 lf l g cols b 0))) = G_p_give_8 lf l g cols b (S.most g) := by
    unfold S.most
    by_cases h4 : g.2.1 = 4 <;> by_cases h6 : g.2.1 = 6 <;> simp [h4, h6]
  rw [fin]
  refine Eq.trans ?_ (key _ hc' rfl)
  cases hw : S.within g.2.1 1 5 with
  | false => rfl
  | true => rw [cond_true, decide_eq_false (by have := hc' hw; omega), cond_false]
theorem con_p_give : Con Tryz.prog id_p_give sp_p_give := mk_p_give ⟨con_p_col, con_p_within, con_p_fits, trivial⟩ fun x y _ h => ⟨0, (F_p_give_eq _ _ _ _ _).trans h⟩

/-! ### Lists of rules -/
theorem form_get {l : List DForm} {n : ByteArray} (h : 0 ≤ S.form l n) : ∃ f, jget l (S.form l n) = some f ∧ S.colsOf l n = f.2 ∧ f ∈ l ∧ f.1 = n := by
  obtain ⟨f, f1, f2, f3, f4, f5, f6⟩ := S.idx_get (p := fun f : DForm => keqS f.1 n) (l := l) h
  refine ⟨f, f1, ?_, f4, of_decide_eq_true f3⟩
  unfold S.colsOf S.at_ S.form
  rw [f2]; rfl
theorem cr_inner (a b : List DForm) (l : List DRule) (K20 : Int → Option Rt_p_checkRules) (now was : List DCol) (gs : List DGive) (hg : gs.length < LF) (hlen : gs.length = now.length) (i : Nat) :
    G_p_checkRules_26 LF a b l K20 LF (now, was, gs, Int.ofNat 0, Int.ofNat i) = if S.crGives l was now gs = 0 then K20 (IntKind.i64.wrap (Int.add (Int.ofNat i) (Int.ofNat 1))) else some (S.crGives l was now gs, ()) := by
  refine range0 (σ := Unit) (R := Rt_p_checkRules) gs (fun k _ => (now, was, gs, k, Int.ofNat i)) (fun _ _ => True) (fun rest k _ => if S.crGives l was (now.drop k) rest = 0 then K20 (IntKind.i64.wrap (Int.add (Int.ofNat i) (Int.ofNat 1))) else some (S.crGives l was (now.drop k) rest, ())) hg (fun K s _ => ?_) (fun K k g rest s _ r h => ?_) () trivial
  · have : S.crGives l was (now.drop gs.length) [] = 0 := by unfold S.crGives; split <;> simp_all
    simp only [R_p_checkRules_26, ilt_self, cond_false, this, if_true]
  · have h := h () trivial
    have hk : k < now.length := by rw [← hlen]; exact r.lt
    have hj : jget now (Int.ofNat k) = some now[k] := by rw [jget_nat]; exact List.getElem?_eq_getElem hk
    rw [List.drop_eq_getElem_cons hk, S.crGives]
    simp only [R_p_checkRules_26, r.ilt, r.get, r.next, h, cond_true, hj, Prod.eta, ne_zero]
    by_cases h0 : S.give l g was now[k] = 0
    · rw [decide_eq_false (by simpa using h0), cond_false, if_pos h0]
    · rw [decide_eq_true h0, cond_true, if_neg h0, if_neg h0]
theorem cr_third (a b : List DForm) (l : List DRule) (hl : l.length < LF) (hw : ∀ r ∈ l, r.2.2.length < LF) (hf : ∀ r ∈ l, 0 ≤ S.form a r.1 ∧ 0 ≤ S.form b r.2.1) : G_p_checkRules_20 LF a b l LF (Int.ofNat 0) = some (S.crGo3 a b l l, ()) := by
  refine range1 (R := Rt_p_checkRules) l (fun rest i => some (S.crGo3 a b l rest, ())) hl (fun K => ?_) (fun K i v rest r h => ?_)
  · simp only [R_p_checkRules_20, ilt_self, cond_false]; rfl
  · obtain ⟨fa, a1, a2, a3, a4⟩ := form_get (hf v r.mem).1
    obtain ⟨fb, b1, b2, b3, b4⟩ := form_get (hf v r.mem).2
    simp only [R_p_checkRules_20, r.ilt, r.get, cond_true, a1, b1, ieq_nat]
    rw [S.crGo3, a2, b2]
    by_cases hlen : v.2.2.length = fb.2.length
    · rw [decide_eq_true hlen, Bool.not_true, cond_false, if_pos hlen]
      refine (cr_inner a b l K fb.2 fa.2 v.2.2 (hw v r.mem) hlen i).trans ?_
      rw [r.next, h]
      split <;> rfl
    · rw [decide_eq_false hlen, Bool.not_false, cond_true, if_neg hlen]
      rfl
theorem cr_second (a b : List DForm) (l : List DRule) (ha : a.length < LF) (hl : l.length < LF) (hw : ∀ r ∈ l, r.2.2.length < LF) (hf : ∀ r ∈ l, 0 ≤ S.form a r.1 ∧ 0 ≤ S.form b r.2.1) : G_p_checkRules_13 LF a b l LF (Int.ofNat 0) = some (S.crGo2 a b l a, ()) := by
  refine range1 (R := Rt_p_checkRules) a (fun rest i => some (S.crGo2 a b l rest, ())) ha (fun K => ?_) (fun K i v rest r h => ?_)
  · simp only [R_p_checkRules_13, ilt_self, cond_false]
    exact cr_third a b l hl hw hf
  · simp only [R_p_checkRules_13, r.ilt, r.get, r.next, h, cond_true]
    rw [S.crGo2]
    cases (S.ruleOf l v.1).2 <;> rfl
theorem F_p_checkRules_eq (a b : List DForm) (l : List DRule) (ha : a.length < LF) (hl : l.length < LF) (hw : ∀ r ∈ l, r.2.2.length < LF) : F_p_checkRules LF a b l = some (S.checkRules0 a b l, ()) := by
  simp only [F_p_checkRules, R_p_checkRules_in, S.checkRules0, ilt_nat]
  by_cases h24 : 24 < l.length
  · rw [decide_eq_true h24, cond_true, if_pos h24]; rfl
  rw [decide_eq_false h24, cond_false, if_neg h24]
  refine range0 (σ := Unit) (R := Rt_p_checkRules) l (fun i _ => i) (fun i _ => ∀ r ∈ l.take i, 0 ≤ S.form a r.1 ∧ 0 ≤ S.form b r.2.1) (fun rest i _ => some (S.crGo a b l i rest, ())) hl (fun K s hI => ?_) (fun K i v rest s hI r h => ?_) () (by simp)
  · simp only [R_p_checkRules_4, ilt_self, cond_false]
    rw [List.take_length] at hI
    rw [S.crGo]
    exact cr_second a b l ha hl hw hI
  · simp only [R_p_checkRules_4, r.ilt, r.get, r.next, cond_true, lchk_pre l (Nat.le_of_lt r.lt), lsub_pre, iltI_eq]
    rw [S.crGo]
    simp only [oL]
    by_cases h1 : S.form a v.1 < 0
    · rw [decide_eq_true h1, cond_true, if_pos h1]
    by_cases h2 : S.form b v.2.1 < 0
    · rw [decide_eq_false h1, cond_false, if_neg h1, decide_eq_true h2, cond_true, if_pos h2]
    rw [decide_eq_false h1, cond_false, if_neg h1, decide_eq_false h2, cond_false, if_neg h2]
    cases (S.ruleOf (l.take i) v.1).2 with
    | true => rfl
    | false =>
      rw [cond_false, if_neg (by simp)]
      refine h () fun q hq => ?_
      rw [r.take, List.mem_append] at hq
      rcases hq with hq | hq
      · exact hI q hq
      · simp only [List.mem_cons, List.not_mem_nil, or_false] at hq
        subst hq
        exact ⟨by omega, by omega⟩
theorem con_p_checkRules : Con Tryz.prog id_p_checkRules sp_p_checkRules := mk_p_checkRules ⟨con_p_form, con_p_ruleOf, con_p_give, trivial⟩ fun x y hx h => ⟨LF, (F_p_checkRules_eq _ _ _ (wf_len hx.1) (wf_len hx.2.2.1) fun r hr => wf_len (hx.2.2.1.2 r hr).2.2).trans h⟩
end Go.Proofs.YtcnhjofpmpipfaaGreat
end

/- The contract of pack.Convert; what right rules are. -/
section
set_option linter.unusedVariables false
set_option maxRecDepth 100000
namespace Go.Proofs.YtcnhjofpmpipfaaGreat
open Go Go.Sx Go.RowKit Go.Jx
structure RulesOK (a b : List DForm) (l : List DRule) : Prop where
  len : l.length ≤ 24
  has : ∀ r ∈ l, 0 ≤ S.form a r.1 ∧ 0 ≤ S.form b r.2.1
  one : ∀ k (h : k < l.length), (S.ruleOf (l.take k) l[k].1).2 = false
  all : ∀ f ∈ a, (S.ruleOf l f.1).2 = true
  glen : ∀ r ∈ l, r.2.2.length = (S.colsOf b r.2.1).length
  gok : ∀ r ∈ l, ∀ k (h : k < r.2.2.length) (h' : k < (S.colsOf b r.2.1).length), S.give l r.2.2[k] (S.colsOf a r.1) (S.colsOf b r.2.1)[k] = 0
theorem crGives_iff (l : List DRule) (was : List DCol) : ∀ (now : List DCol) (gs : List DGive), gs.length = now.length → (S.crGives l was now gs = 0 ↔ ∀ k (h : k < gs.length) (h' : k < now.length), S.give l gs[k] was now[k] = 0)
  | [], [], _ => by simp [S.crGives]
  | [], g :: gs, h => by simp at h
  | c :: now, [], h => by simp at h
  | c :: now, g :: gs, h => by
    rw [S.crGives]
    have ih := crGives_iff l was now gs (by simpa using h)
    by_cases h0 : S.give l g was c = 0
    · rw [if_pos h0, ih]
      constructor
      · intro hk k h1 h2
        cases k with
        | zero => exact h0
        | succ k => exact hk k (by simpa using h1) (by simpa using h2)
      · intro hk k h1 h2
        exact hk (k + 1) (by simpa using h1) (by simpa using h2)
    · rw [if_neg h0]
      constructor
      · intro h1; exact absurd h1 h0
      · intro hk; exact absurd (hk 0 (by simp) (by simp)) h0
theorem crGo3_iff (a b : List DForm) (l : List DRule) : ∀ (rs : List DRule), S.crGo3 a b l rs = 0 ↔ ∀ r ∈ rs, r.2.2.length = (S.colsOf b r.2.1).length ∧ S.crGives l (S.colsOf a r.1) (S.colsOf b r.2.1) r.2.2 = 0
  | [] => by simp [S.crGo3]
  | r :: rs => by
    rw [S.crGo3]
    have ih := crGo3_iff a b l rs
    by_cases h1 : r.2.2.length = (S.colsOf b r.2.1).length
    · rw [if_pos h1]
      by_cases h2 : S.crGives l (S.colsOf a r.1) (S.colsOf b r.2.1) r.2.2 = 0
      · rw [if_pos h2, ih]; simp [h1, h2]
      · rw [if_neg h2]; simp [h2]
    · rw [if_neg h1]; simp [h1]
theorem crGo2_iff (a b : List DForm) (l : List DRule) : ∀ (fs : List DForm), S.crGo2 a b l fs = 0 ↔ (∀ f ∈ fs, (S.ruleOf l f.1).2 = true) ∧ S.crGo3 a b l l = 0
  | [] => by simp [S.crGo2]
  | f :: fs => by
    rw [S.crGo2]
    have ih := crGo2_iff a b l fs
    cases h1 : (S.ruleOf l f.1).2 with
    | true => rw [if_pos rfl, ih]; simp [h1]
    | false => rw [if_neg (by simp)]; simp [h1]
theorem crGo_iff (a b : List DForm) (l : List DRule) : ∀ (rest : List DRule) (k : Nat), l.drop k = rest → (S.crGo a b l k rest = 0 ↔ (∀ j (h : j < l.length), k ≤ j → 0 ≤ S.form a l[j].1 ∧ 0 ≤ S.form b l[j].2.1 ∧ (S.ruleOf (l.take j) l[j].1).2 = false) ∧ S.crGo2 a b l a = 0)
  | [], k, hd => by
    rw [S.crGo]
    have : l.length ≤ k := by simpa using hd
    constructor
    · intro h; exact ⟨fun j h1 h2 => by omega, h⟩
    · intro h; exact h.2
  | r :: rs, k, hd => by
    have hk : k < l.length := by
      rcases Nat.lt_or_ge k l.length with h | h
      · exact h
      · rw [List.drop_eq_nil_of_le h] at hd; cases hd
    have hr : l[k] = r := by rw [List.drop_eq_getElem_cons hk] at hd; exact (List.cons.inj hd).1
    have hd' : l.drop (k + 1) = rs := by rw [List.drop_eq_getElem_cons hk] at hd; exact (List.cons.inj hd).2
    have ih := crGo_iff a b l rs (k + 1) hd'
    rw [S.crGo]
    by_cases h1 : S.form a r.1 < 0
    · rw [if_pos h1]
      constructor
      · intro h; cases h
      · intro h; have := (h.1 k hk (Nat.le_refl _)).1; rw [hr] at this; omega
    by_cases h2 : S.form b r.2.1 < 0
    · rw [if_neg h1, if_pos h2]
      constructor
      · intro h; cases h
      · intro h; have := (h.1 k hk (Nat.le_refl _)).2.1; rw [hr] at this; omega
    rw [if_neg h1, if_neg h2]
    cases h3 : (S.ruleOf (l.take k) r.1).2 with
    | true =>
      rw [if_pos rfl]
      constructor
      · intro h; cases h
      · intro h; have := (h.1 k hk (Nat.le_refl _)).2.2; rw [hr, h3] at this; cases this
    | false =>
      rw [if_neg (by simp), ih]
      constructor
      · rintro ⟨h, h'⟩
        refine ⟨fun j hj hkj => ?_, h'⟩
        by_cases e : j = k
        · subst e; rw [hr]; exact ⟨by omega, by omega, h3⟩
        · exact h j hj (by omega)
      · rintro ⟨h, h'⟩
        exact ⟨fun j hj hkj => h j hj (by omega), h'⟩
theorem rulesOK_iff (a b : List DForm) (l : List DRule) : S.checkRules0 a b l = 0 ↔ RulesOK a b l := by
  unfold S.checkRules0
  by_cases h24 : 24 < l.length
  · rw [if_pos h24]
    exact ⟨fun h => (by cases h), fun h => (by have := h.len; omega)⟩
  rw [if_neg h24, crGo_iff a b l l 0 rfl, crGo2_iff, crGo3_iff]
  constructor
  · rintro ⟨h1, h2, h3⟩
    refine ⟨by omega, fun r hr => ?_, fun k hk => (h1 k hk (Nat.zero_le _)).2.2, h2, fun r hr => (h3 r hr).1, fun r hr => (crGives_iff _ _ _ _ (h3 r hr).1).1 (h3 r hr).2⟩
    obtain ⟨k, hk, rfl⟩ := List.mem_iff_getElem.1 hr
    exact ⟨(h1 k hk (Nat.zero_le _)).1, (h1 k hk (Nat.zero_le _)).2.1⟩
  · intro h
    exact ⟨fun j hj _ => ⟨(h.has _ (List.getElem_mem hj)).1, (h.has _ (List.getElem_mem hj)).2, h.one j hj⟩, h.all, fun r hr => ⟨h.glen r hr, (crGives_iff _ _ _ _ (h.glen r hr)).2 (h.gok r hr)⟩⟩
theorem ruleOf_mem {l : List DRule} {c : ByteArray} (h : (S.ruleOf l c).2 = true) : (S.ruleOf l c).1 ∈ l ∧ (S.ruleOf l c).1.1 = c := by
  unfold S.ruleOf at h ⊢
  cases hf : l.find? (fun r => keqS r.1 c) with
  | none => rw [hf] at h; cases h
  | some r =>
    have hk : keqS r.1 c = true := List.find?_some (p := fun r : DRule => keqS r.1 c) hf
    exact ⟨List.mem_of_find?_eq_some hf, of_decide_eq_true hk⟩
theorem give_pre {l : List DRule} {g : DGive} {cols : List DCol} {b : DCol} (h : S.give l g cols b = 0) : S.within g.2.1 1 7 = true ∧ (S.within g.2.1 1 5 = true → 0 ≤ S.col cols g.1) := by
  unfold S.give at h
  split at h
  · cases h
  rename_i h1
  split at h
  · cases h
  rename_i h2
  simp only [not_or] at h2
  refine ⟨by simpa using h2.1, fun hw => ?_⟩
  rcases Int.lt_or_le (S.col cols g.1) 0 with h3 | h3
  · exact absurd ⟨hw, h3⟩ h1
  · exact h3
theorem col_lt (cols : List DCol) (n : ByteArray) (h : 0 ≤ S.col cols n) : S.col cols n < cols.length := by
  obtain ⟨c, _, _, _, _, h5, _⟩ := S.idx_get (p := fun c : DCol => keqS c.1 n) (l := cols) h
  exact h5
theorem ble_mul {n b : Nat} (h : (n + 1) * b ≤ 140737488355328) : Nat.ble (Nat.mul (Nat.add n 1) b) 140737488355328 = true := Nat.ble_eq_true_of_le h
end Go.Proofs.YtcnhjofpmpipfaaGreat
end

/- Names, byte by byte. -/
section
set_option linter.unusedVariables false
namespace Go.Proofs.YtcnhjofpmpipfaaGreat
open Go Go.Sx Go.RowKit Go.Jx
theorem bl_len (s : ByteArray) : (byteList s).length = s.size := by
  unfold byteList
  rw [List.length_map]
  exact Array.length_toList
theorem bl_get {s : ByteArray} {i : Nat} (h : i < s.size) : (byteList s)[i]? = some ((s[i]'h).toNat : Int) := by
  unfold byteList
  rw [List.getElem?_map, List.getElem?_eq_getElem (by simpa using h)]
  rfl
theorem bl_range {s : ByteArray} {b : Int} (h : b ∈ byteList s) : 0 ≤ b ∧ b < 256 := by
  unfold byteList at h
  obtain ⟨x, _, rfl⟩ := List.mem_map.1 h
  have := x.toNat_lt
  constructor <;> omega
theorem six_neg {s : ByteArray} {q : Int → Bool} (hq : ∀ r, 128 ≤ r → q r = true) : ∀ (n i : Nat) (k : Int), s.size - i < n → sixO (fun _ r => some (q r)) s true n i = some k → (k < 0 ↔ ∀ j b, i ≤ j → (byteList s)[j]? = some b → q b = false)
  | 0, i, k, h, _ => by omega
  | n + 1, i, k, h, hk => by
    unfold sixO at hk
    by_cases hlt : i < s.size
    · have hb : Nat.blt i s.size = true := by simpa using hlt
      rw [hb, cond_true] at hk
      simp only at hk
      have hg := bl_get hlt
      by_cases ha : (s[i]'hlt).toNat < 128
      · have hd := decode_ascii s i hlt ha
        rw [hd] at hk
        simp only at hk
        cases hb2 : q (((s[i]'hlt).toNat : Nat) : Int) with
        | true =>
          have e : q (Int.ofNat (s[i]'hlt).toNat) = true := hb2
          rw [e] at hk
          cases hk
          constructor
          · intro h; have : (0 : Int) ≤ Int.ofNat i := Int.natCast_nonneg _; omega
          · intro h; have := h i _ (Nat.le_refl _) hg; rw [hb2] at this; cases this
        | false =>
          have e : q (Int.ofNat (s[i]'hlt).toNat) = false := hb2
          rw [e] at hk
          simp only [Bool.false_eq_true, decide_false, cond_false] at hk
          rw [six_neg hq n (i + 1) k (by omega) hk]
          constructor
          · intro h j b hj hjb
            by_cases e : j = i
            · subst e; rw [hg] at hjb; cases hjb; exact hb2
            · exact h j b (by omega) hjb
          · intro h j b hj hjb; exact h j b (by omega) hjb
      · have hd := decode_high s i hlt (by omega)
        have e : q (Int.ofNat (Utf8.decode s i).1) = true := hq _ (by have := hd.1; show (128 : Int) ≤ ((Utf8.decode s i).1 : Int); omega)
        rw [e] at hk
        cases hk
        constructor
        · intro h; have : (0 : Int) ≤ Int.ofNat i := Int.natCast_nonneg _; omega
        · intro h
          have := h i _ (Nat.le_refl _) hg
          rw [hq _ (by omega)] at this; cases this
    · have hb : Nat.blt i s.size = false := by
        cases hbb : Nat.blt i s.size with
        | false => rfl
        | true => exact absurd (by simpa using hbb) hlt
      rw [hb, cond_false] at hk
      cases hk
      constructor
      · intro _ j b hj hjb
        have := (List.getElem?_eq_some_iff.1 hjb).1
        rw [bl_len] at this
        omega
      · intro _; omega
theorem named_iff {s : ByteArray} {lo hi : Int} (hh : hi < 128) : S.named s lo hi = true ↔ s.size ≤ 20 ∧ (∃ b, (byteList s)[0]? = some b ∧ lo ≤ b ∧ b ≤ hi) ∧ ∀ b ∈ byteList s, S.badR b lo hi = false := by
  unfold S.named
  by_cases h0 : s = S.lit []
  · rw [if_pos h0]
    constructor
    · intro h; cases h
    · rintro ⟨_, ⟨b, hb, _⟩, _⟩
      subst h0
      cases hb
  rw [if_neg h0]
  by_cases h1 : 20 < s.size
  · rw [if_pos h1]
    exact ⟨fun h => (by cases h), fun h => by omega⟩
  rw [if_neg h1]
  obtain ⟨b, hb⟩ := byteList_get (size_pos h0)
  rw [hb]
  simp only
  by_cases h2 : b < lo
  · rw [if_pos h2]
    exact ⟨fun h => (by cases h), fun ⟨_, ⟨b', e, h3, _⟩, _⟩ => by cases e; omega⟩
  rw [if_neg h2]
  by_cases h3 : hi < b
  · rw [if_pos h3]
    exact ⟨fun h => (by cases h), fun ⟨_, ⟨b', e, _, h4⟩, _⟩ => by cases e; omega⟩
  rw [if_neg h3]
  obtain ⟨k, hk⟩ := sixO_some (p := fun _ r => some (S.badR r lo hi)) (q := fun r => S.badR r lo hi) (fun _ _ => rfl) s true (s.size + 1) 0 (by omega)
  rw [hk]
  simp only [decide_eq_true_eq]
  rw [six_neg (q := fun r => S.badR r lo hi) (fun r hr => by simp [S.badR]; omega) _ 0 k (by omega) hk]
  constructor
  · intro h
    refine ⟨by omega, ⟨b, rfl, by omega, by omega⟩, fun c hc => ?_⟩
    obtain ⟨j, hj⟩ := List.mem_iff_getElem?.1 hc
    exact h j c (Nat.zero_le _) hj
  · rintro ⟨_, _, h⟩ j c _ hj
    exact h c (List.mem_of_getElem? hj)
theorem index_neg (l : List ByteArray) (v : ByteArray) : decide (S.index l v < 0) = true ↔ ¬ v ∈ l := by
  have h := S.idx_nonneg (fun x => keqS v x) l
  simp only [decide_eq_true_eq]
  have e : l.any (fun x => keqS v x) = true ↔ v ∈ l := by
    rw [List.any_eq_true]
    constructor
    · rintro ⟨x, hx, h⟩; rw [of_decide_eq_true h]; exact hx
    · intro h; exact ⟨v, h, decide_eq_true rfl⟩
  rw [e] at h
  rw [← h]
  unfold S.index
  omega
namespace S
def isSmall (b : Int) : Bool := decide (97 ≤ b) && decide (b ≤ 122)
def isCap (b : Int) : Bool := decide (65 ≤ b) && decide (b ≤ 90)
def isDig (b : Int) : Bool := decide (48 ≤ b) && decide (b ≤ 57)
def isPart (b : Int) : Bool := isSmall b || isCap b || isDig b || decide (b = 95)
end S
theorem small_iff (s : ByteArray) : S.small s = true ↔ s.size ≤ 20 ∧ (∃ b, (byteList s)[0]? = some b ∧ 97 ≤ b ∧ b ≤ 122) ∧ (∀ b ∈ byteList s, S.badR b 97 122 = false) ∧ ¬ s ∈ S.smallWords := by
  unfold S.small
  rw [Bool.and_eq_true, named_iff (by decide), index_neg]
  simp only [and_assoc]
theorem class_iff (s : ByteArray) : S.class_ s = true ↔ s.size ≤ 20 ∧ (∃ b, (byteList s)[0]? = some b ∧ 65 ≤ b ∧ b ≤ 90) ∧ (∀ b ∈ byteList s, S.isPart b = true ∧ S.isSmall b = false) ∧ ¬ s ∈ S.classWords := by
  unfold S.class_
  rw [Bool.and_eq_true, named_iff (by decide), index_neg]
  have hbad : ∀ b, S.badR b 65 90 = false ↔ (S.isPart b = true ∧ S.isSmall b = false) := fun b => by
    simp only [S.badR, S.isPart, S.isSmall, S.isCap, S.isDig, Bool.not_eq_false', Bool.or_eq_true, Bool.and_eq_true, decide_eq_true_eq, Bool.and_eq_false_iff, decide_eq_false_iff_not]
    omega
  simp only [hbad, and_assoc]
end Go.Proofs.YtcnhjofpmpipfaaGreat
end

/- What the functions of the reference compute: the same as those of the package. -/
section
set_option linter.unusedVariables false
noncomputable section
namespace Go.Proofs.YtcnhjofpmpipfaaGreat
open Go Go.Sx Go.RowKit Go.Jx
abbrev DR1Kinded : Type := Int × Int
abbrev DR1Numbered : Type := Int × Int
abbrev DR22Ruled : Type := List DRule × Bool × Int
abbrev DR22Chained : Type := DGive × Bool
namespace S
def has (l : List ByteArray) (s : ByteArray) : Bool := l.any fun x => keqS x s
def run0 (s : ByteArray) : Int := Int.ofNat ((byteList s).takeWhile isPart).length
def numGo : List Int → Int → Int × Int
  | [], n => (n, 0)
  | b :: r, n =>
    let m := IntKind.i64.wrap (Int.sub (IntKind.i64.wrap (Int.add (IntKind.i64.wrap (Int.mul (Int.ofNat 10) n)) b)) (Int.ofNat 48))
    if 1099511627776 < m then (0, 3) else numGo r m
def number (s : ByteArray) : Int × Int :=
  if (byteList s).all isDig = false then (0, 2)
  else if (byteList s)[0]? = some 48 ∧ 1 < s.size then (0, 2)
  else numGo (byteList s) 0
def wordsT : List ByteArray := [S.lit [84, 114, 117, 101], S.lit [70, 97, 108, 115, 101], S.lit [86, 111, 105, 100], S.lit [67, 117, 114, 114, 101, 110, 116], S.lit [82, 101, 115, 117, 108, 116]]
def keywords : List ByteArray := [S.lit [97, 110, 100], S.lit [97, 115], S.lit [97, 116, 116, 97, 99, 104, 101, 100], S.lit [99, 104, 101, 99, 107], S.lit [99, 108, 97, 115, 115], S.lit [99, 114, 101, 97, 116, 101], S.lit [100, 101, 102, 101, 114, 114, 101, 100], S.lit [100, 101, 116, 97, 99, 104, 97, 98, 108, 101], S.lit [100, 111], S.lit [101, 108, 115, 101], S.lit [101, 110, 100], S.lit [101, 110, 115, 117, 114, 101], S.lit [102, 101, 97, 116, 117, 114, 101], S.lit [102, 114, 111, 109], S.lit [105, 102], S.lit [105, 109, 112, 108, 105, 101, 115], S.lit [105, 110, 104, 101, 114, 105, 116], S.lit [105, 110, 118, 97, 114, 105, 97, 110, 116], S.lit [108, 111, 99, 97, 108], S.lit [108, 111, 111, 112], S.lit [110, 111, 116], S.lit [111, 108, 100], S.lit [111, 114], S.lit [112, 117, 116], S.lit [114, 97, 105, 115, 101], S.lit [114, 101, 100, 101, 102, 105, 110, 101], S.lit [114, 101, 110, 97, 109, 101], S.lit [114, 101, 113, 117, 105, 114, 101], S.lit [114, 101, 115, 99, 117, 101], S.lit [114, 101, 116, 114, 121], S.lit [115, 101, 108, 101, 99, 116], S.lit [115, 101, 112, 97, 114, 97, 116, 101], S.lit [116, 104, 101, 110], S.lit [117, 110, 100, 101, 102, 105, 110, 101], S.lit [117, 110, 116, 105, 108], S.lit [118, 97, 114, 105, 97, 110, 116], S.lit [119, 104, 101, 110]]
def signs : List ByteArray := [S.lit [58, 61], S.lit [47, 61], S.lit [60, 61], S.lit [62, 61], S.lit [47, 47], S.lit [61], S.lit [60], S.lit [62], S.lit [43], S.lit [45], S.lit [42], S.lit [37], S.lit [40], S.lit [41], S.lit [91], S.lit [93], S.lit [123], S.lit [125], S.lit [44], S.lit [59], S.lit [58], S.lit [46]]
def word (s : ByteArray) : Int × Int :=
  if has keywords s || has wordsT s then (3, 0)
  else if has smallWords s then (0, 4)
  else if (byteList s).any isSmall && (byteList s).any isCap then (0, 2)
  else if 20 < s.size then (0, 3)
  else if (byteList s).any isSmall then (1, 0)
  else (2, 0)
def shape (s : ByteArray) : Int × Int :=
  if has signs s then (5, 0)
  else match (byteList s)[0]? with
    | none => (0, 2)
    | some b => if run0 s < Int.ofNat s.size then (0, 2)
      else if b = 95 then (0, 2)
      else if isDig b then (if (number s).2 = 0 then (4, 0) else (0, (number s).2))
      else word s
end S
def sp_q_has : Sm := ⟨[.list .str, .str], [(false, .bool)], fun x => some (S.has x.1 x.2.1, ())⟩
def sp_q_run : Sm := ⟨[.str, .int .i64], [(false, .int .i64)], fun x => cond (ieqI x.2.1 (Int.ofNat 0)) (some (S.run0 x.1, ())) none⟩
def sp_q_number : Sm := ⟨[.str], [(false, cR1Numbered)], fun x => cond (Nat.blt 0 (ByteArray.size x.1)) (some (S.number x.1, ())) none⟩
def sp_q_word : Sm := ⟨[.str], [(false, cR1Kinded)], fun x => some (S.word x.1, ())⟩
def sp_q_Shape : Sm := ⟨[.str], [(false, cR1Kinded)], fun x => some (S.shape x.1, ())⟩
def sp_r_form : Sm := ⟨[.list cForm, .str], [(false, .int .i64)], fun x => some (S.form x.1 x.2.1, ())⟩
def sp_r_column : Sm := ⟨[cForm, .str], [(false, .int .i64)], fun x => some (S.col x.1.2 x.2.1, ())⟩
def sp_r_classed : Sm := ⟨[.str], [(false, .bool)], fun x => some (S.class_ x.1, ())⟩
def sp_r_smallNamed : Sm := ⟨[.str], [(false, .bool)], fun x => some (S.small x.1, ())⟩
def sp_r_CheckForms : Sm := ⟨[.list cForm], [(false, .int .i64)], fun x => some (S.checkForms x.1, ())⟩
def sp_r_rule : Sm := ⟨[.list cRule, .str], [(false, .int .i64)], fun x => some (S.idx (fun r : DRule => keqS r.1 x.2.1) x.1, ())⟩
def sp_r_target : Sm := ⟨[.list cRule, .str], [(false, .str)], fun x => some ((S.ruleOf x.1 x.2.1).1.2.1, ())⟩
namespace S
def rleads (l : List DRule) (a b : DCol) : Bool := decide (b.2.2 = S.ANY) || (decide (¬ a.2.2 = S.ANY) && decide ((S.ruleOf l a.2.2).1.2.1 = b.2.2))
end S
def sp_r_leads : Sm := ⟨[.list cRule, cCol, cCol], [(false, .bool)], fun x => some (S.rleads x.1 x.2.1 x.2.2.1, ())⟩
namespace S
def numbered (g : DGive) (b : DCol) : Bool :=
  if g.2.1 = 4 then within g.2.2 (-1099511627776) 1099511627776
  else if g.2.1 = 6 then (if b.2.1 = 2 then decide (g.1 = S.lit []) && within g.2.2 0 1 else decide (g.1 = S.lit []) && within g.2.2 (-1099511627776) 1099511627776)
  else if g.2.1 = 7 then decide (g.1 = S.lit []) && decide (g.2.2 = 0)
  else decide (g.2.2 = 0)
def sourced (g : DGive) : Bool := within g.2.1 1 5
end S
def sp_r_numbered : Sm := ⟨[cGive, cCol], [(false, .bool)], fun x => some (S.numbered x.1 x.2.1, ())⟩
end Go.Proofs.YtcnhjofpmpipfaaGreat

end
end

/- Made by program: plain forms of functions. -/
section
set_option linter.unusedVariables false
set_option maxRecDepth 100000
noncomputable section
namespace Go.Proofs.YtcnhjofpmpipfaaGreat
open Go Go.Sx Go.RowKit Go.Jx
def nm_q_has : Nat → Option Nm := fun k => cond (Nat.beq k 2) (some ⟨[0, 1, 5], [], [], [], [], 0, 0, false⟩) (none)
def st_q_has : Nat → Bool := fun k => cond (Nat.beq k 2) true (false)
def hd_q_has : Nat → Bool := fun k => cond (Nat.beq k 2) true (false)
abbrev Rt_q_has : Type := Bool × Unit
def sml_q_has : List (Nat × Sm) := []
def hxl_q_has : List (Nat × Hx) := []
def cl_q_has (R : Type) (lf : Nat) : ClK R := icallK Tryz.prog ttT.get ftT.get (nm1 137 nm_q_has) (smL sml_q_has) (hxL hxl_q_has) lf 20 R
abbrev id_q_has : Nat := 137
def enc_q_has_2 (x1 : (List ByteArray)) (x2 : ByteArray) (p : Int) : NRes := (NRes.mk (PT.node (some (IV.lst TC.str x1)) (PT.node (some (IV.str x2)) PT.leaf (PT.node (some (IV.int Go.IntKind.i64 p)) PT.leaf PT.leaf)) PT.leaf) (IS.mk PT.leaf 0) [] 0)
def R_q_has_in (lf : Nat) (x1 : (List ByteArray)) (x2 : ByteArray) (L2 : Int → Option Rt_q_has) : Option Rt_q_has := (L2 (Int.ofNat 0))
def R_q_has_2 (lf : Nat) (x1 : (List ByteArray)) (x2 : ByteArray) (L2 : Int → Option Rt_q_has) (p : Int) : Option Rt_q_has := (cond (iltI p (Int.ofNat (List.length x1))) (match (jget x1 p) with | .none  => none | .some v0 => (cond (keqS v0 x2) (some (Bool.true, ())) (L2 (Go.IntKind.wrap Go.IntKind.i64 (Int.add p (Int.ofNat 1)))))) (some (Bool.false, ())))
theorem in_q_has (g : ElA [(.list .str), .str] → Option Rt_q_has) (J : Nat → List Nat → NRes → Option Rt_q_has) (lf : Nat) (x1 : (List ByteArray)) (x2 : ByteArray) : icodeT Tryz.prog ttT.get nm_q_has fi137.nt (cl_q_has _ lf) lf st_q_has J fi137.body [] (argGo (argV [(.list .str), .str] (x1, x2, ())) 0 .leaf) S0 [] (lastK ttT.get fi137 ⟨[(.list .str), .str], [(false, .bool)], g⟩) = R_q_has_in lf x1 x2 (fun q => J 2 [lf] (enc_q_has_2 x1 x2 q)) := by kernel_rfl
theorem st_q_has_2 (g : ElA [(.list .str), .str] → Option Rt_q_has) (J : Nat → List Nat → NRes → Option Rt_q_has) (lf : Nat) (x1 : (List ByteArray)) (x2 : ByteArray) (m1 : Nat) (p : Int) : icodeFT Tryz.prog ttT.get nm_q_has fi137.nt (cl_q_has _ lf) lf st_q_has J 2 fi137.body [] [m1] (enc_q_has_2 x1 x2 p) (lastK ttT.get fi137 ⟨[(.list .str), .str], [(false, .bool)], g⟩) = R_q_has_2 lf x1 x2 (fun q => J 2 [m1] (enc_q_has_2 x1 x2 q)) p := by kernel_rfl
theorem nd_q_has : (regs fi137.body).Nodup := by decide +kernel
theorem ok_q_has : okC nm_q_has st_q_has hd_q_has fi137.body none = true := by kernel_rfl
def A_q_has (g : ElA [(.list .str), .str] → Option Rt_q_has) (lf : Nat) : Nat → List Nat → NRes → Option Rt_q_has := atN Tryz.prog ttT.get nm_q_has fi137 ⟨[(.list .str), .str], [(false, .bool)], g⟩ (cl_q_has _ lf) lf hd_q_has
def G_q_has_2 (lf : Nat) (x1 : (List ByteArray)) (x2 : ByteArray) : Nat → (Int) → Option Rt_q_has := rounds fun K p => R_q_has_2 lf x1 x2 K p
theorem at_q_has_2 (g : ElA [(.list .str), .str] → Option Rt_q_has) (lf : Nat) (x1 : (List ByteArray)) (x2 : ByteArray) : ∀ (n : Nat) (p : Int), A_q_has g lf 2 [n] (enc_q_has_2 x1 x2 p) = G_q_has_2 lf x1 x2 n p
  | 0, p => atN_zero 2 [0] rfl _
  | n + 1, p => by
    have ih := at_q_has_2 g lf x1 x2 n
    refine (atN_eq (icallK_eq 20 _) nd_q_has ok_q_has 2 [n + 1] [n] rfl _).trans ((st_q_has_2 g (A_q_has g lf) lf x1 x2 n p).trans ?_)
    rw [(show (fun q => A_q_has g lf 2 [n] (enc_q_has_2 x1 x2 q)) = (fun q => G_q_has_2 lf x1 x2 n q) from funext ih)]
    rfl
def F_q_has (lf : Nat) (x1 : (List ByteArray)) (x2 : ByteArray) : Option Rt_q_has := R_q_has_in lf x1 x2 (fun q => G_q_has_2 lf x1 x2 lf q)
theorem run_q_has (g : ElA [(.list .str), .str] → Option Rt_q_has) (lf : Nat) (x1 : (List ByteArray)) (x2 : ByteArray) : icodeT Tryz.prog ttT.get nm_q_has fi137.nt (cl_q_has _ lf) lf st_q_has (A_q_has g lf) fi137.body [] (argGo (argV [(.list .str), .str] (x1, x2, ())) 0 .leaf) S0 [] (lastK ttT.get fi137 ⟨[(.list .str), .str], [(false, .bool)], g⟩) = F_q_has lf x1 x2 := by
    refine (in_q_has g (A_q_has g lf) lf x1 x2).trans ?_
    rw [(show (fun q => A_q_has g lf 2 [lf] (enc_q_has_2 x1 x2 q)) = (fun q => G_q_has_2 lf x1 x2 lf q) from funext fun q => at_q_has_2 g lf x1 x2 lf q)]
    rfl
theorem hxs_q_has : HxsOK Tryz.prog hxl_q_has := trivial
theorem mk_q_has {g : ElA [(.list .str), .str] → Option Rt_q_has} (hsm : SmOK Tryz.prog sml_q_has) (hg : ∀ (x : ElA [(.list .str), .str]) (y : Rt_q_has), WfA [(.list .str), .str] x → g x = some y → ∃ lf, F_q_has lf x.1 x.2.1 = some y) : Con Tryz.prog 137 ⟨[(.list .str), .str], [(false, .bool)], g⟩ :=
  conT (nmf := nm_q_has) (sml := sml_q_has) (hxl := hxl_q_has) (st := st_q_has) (hd := hd_q_has) 20 mixed ttOK ftOK hsm hxs_q_has cal137 rfl rfl (by kernel_rfl) (fun x => by kernel_rfl) nd_q_has ok_q_has fun x y hx hy => by
    obtain ⟨lf, h⟩ := hg x y hx hy
    exact ⟨lf, (run_q_has g lf x.1 x.2.1).trans h⟩
def nm_r_smallNamed : Nat → Option Nm := fun k => cond (Nat.beq k 4) (some ⟨[0, 3], [], [], [], [], 0, 0, false⟩) (none)
def st_r_smallNamed : Nat → Bool := fun k => cond (Nat.beq k 4) true (false)
def hd_r_smallNamed : Nat → Bool := fun k => cond (Nat.beq k 4) true (false)
abbrev Rt_r_smallNamed : Type := Bool × Unit
def sml_r_smallNamed : List (Nat × Sm) := []
def hxl_r_smallNamed : List (Nat × Hx) := []
def cl_r_smallNamed (R : Type) (lf : Nat) : ClK R := icallK Tryz.prog ttT.get ftT.get (nm1 93 nm_r_smallNamed) (smL sml_r_smallNamed) (hxL hxl_r_smallNamed) lf 20 R
abbrev id_r_smallNamed : Nat := 93
def enc_r_smallNamed_4 (x1 : ByteArray) (p : Int) : NRes := (NRes.mk (PT.node (some (IV.str x1)) (PT.node none (PT.node (some (IV.int Go.IntKind.i64 p)) PT.leaf PT.leaf) PT.leaf) PT.leaf) (IS.mk PT.leaf 0) [] 0)
def R_r_smallNamed_in (lf : Nat) (x1 : ByteArray) (L4 : Int → Option Rt_r_smallNamed) : Option Rt_r_smallNamed := (cond (iltI (Int.ofNat (ByteArray.size x1)) (Int.ofNat 1)) (some (Bool.false, ())) (cond (iltI (Int.ofNat 20) (Int.ofNat (ByteArray.size x1))) (some (Bool.false, ())) (match (jget (byteList x1) (Int.ofNat 0)) with | .none  => none | .some v0 => (cond (iltI v0 (Int.ofNat 97)) (some (Bool.false, ())) (match (jget (byteList x1) (Int.ofNat 0)) with | .none  => none | .some v1 => (cond (iltI (Int.ofNat 122) v1) (some (Bool.false, ())) (L4 (Int.ofNat 0))))))))
def R_r_smallNamed_4 (lf : Nat) (x1 : ByteArray) (L4 : Int → Option Rt_r_smallNamed) (p : Int) : Option Rt_r_smallNamed := (cond (iltI p (Int.ofNat (ByteArray.size x1))) (match (jget (byteList x1) p) with | .none  => none | .some v0 => (cond (Bool.not (iltI v0 (Int.ofNat 97))) (match (jget (byteList x1) p) with | .none  => none | .some v1 => (cond (Bool.not (iltI (Int.ofNat 122) v1)) (L4 (Go.IntKind.wrap Go.IntKind.i64 (Int.add p (Int.ofNat 1)))) (match (jget (byteList x1) p) with | .none  => none | .some v25 => (cond (Bool.not (iltI v25 (Int.ofNat 48))) (match (jget (byteList x1) p) with | .none  => none | .some v26 => (cond (Bool.not (iltI (Int.ofNat 57) v26)) (L4 (Go.IntKind.wrap Go.IntKind.i64 (Int.add p (Int.ofNat 1)))) (match (jget (byteList x1) p) with | .none  => none | .some v27 => (cond (Bool.not (ieqI v27 (Int.ofNat 95))) (some (Bool.false, ())) (L4 (Go.IntKind.wrap Go.IntKind.i64 (Int.add p (Int.ofNat 1)))))))) (match (jget (byteList x1) p) with | .none  => none | .some v28 => (cond (Bool.not (ieqI v28 (Int.ofNat 95))) (some (Bool.false, ())) (L4 (Go.IntKind.wrap Go.IntKind.i64 (Int.add p (Int.ofNat 1)))))))))) (match (jget (byteList x1) p) with | .none  => none | .some v29 => (cond (Bool.not (iltI v29 (Int.ofNat 48))) (match (jget (byteList x1) p) with | .none  => none | .some v30 => (cond (Bool.not (iltI (Int.ofNat 57) v30)) (L4 (Go.IntKind.wrap Go.IntKind.i64 (Int.add p (Int.ofNat 1)))) (match (jget (byteList x1) p) with | .none  => none | .some v31 => (cond (Bool.not (ieqI v31 (Int.ofNat 95))) (some (Bool.false, ())) (L4 (Go.IntKind.wrap Go.IntKind.i64 (Int.add p (Int.ofNat 1)))))))) (match (jget (byteList x1) p) with | .none  => none | .some v32 => (cond (Bool.not (ieqI v32 (Int.ofNat 95))) (some (Bool.false, ())) (L4 (Go.IntKind.wrap Go.IntKind.i64 (Int.add p (Int.ofNat 1)))))))))) (cond (Bool.not (keqS x1 (S.lit [116, 114, 117, 101]))) (cond (Bool.not (keqS x1 (S.lit [102, 97, 108, 115, 101]))) (cond (Bool.not (keqS x1 (S.lit [118, 111, 105, 100]))) (cond (Bool.not (keqS x1 (S.lit [99, 117, 114, 114, 101, 110, 116]))) (some ((Bool.not (keqS x1 (S.lit [114, 101, 115, 117, 108, 116]))), ())) (some (Bool.false, ()))) (some (Bool.false, ()))) (some (Bool.false, ()))) (some (Bool.false, ()))))
theorem in_r_smallNamed (g : ElA [.str] → Option Rt_r_smallNamed) (J : Nat → List Nat → NRes → Option Rt_r_smallNamed) (lf : Nat) (x1 : ByteArray) : icodeT Tryz.prog ttT.get nm_r_smallNamed fi93.nt (cl_r_smallNamed _ lf) lf st_r_smallNamed J fi93.body [] (argGo (argV [.str] (x1, ())) 0 .leaf) S0 [] (lastK ttT.get fi93 ⟨[.str], [(false, .bool)], g⟩) = R_r_smallNamed_in lf x1 (fun q => J 4 [lf] (enc_r_smallNamed_4 x1 q)) := by kernel_rfl
theorem st_r_smallNamed_4 (g : ElA [.str] → Option Rt_r_smallNamed) (J : Nat → List Nat → NRes → Option Rt_r_smallNamed) (lf : Nat) (x1 : ByteArray) (m1 : Nat) (p : Int) : icodeFT Tryz.prog ttT.get nm_r_smallNamed fi93.nt (cl_r_smallNamed _ lf) lf st_r_smallNamed J 4 fi93.body [] [m1] (enc_r_smallNamed_4 x1 p) (lastK ttT.get fi93 ⟨[.str], [(false, .bool)], g⟩) = R_r_smallNamed_4 lf x1 (fun q => J 4 [m1] (enc_r_smallNamed_4 x1 q)) p := by kernel_rfl
theorem nd_r_smallNamed : (regs fi93.body).Nodup := by decide +kernel
theorem ok_r_smallNamed : okC nm_r_smallNamed st_r_smallNamed hd_r_smallNamed fi93.body none = true := by kernel_rfl
def A_r_smallNamed (g : ElA [.str] → Option Rt_r_smallNamed) (lf : Nat) : Nat → List Nat → NRes → Option Rt_r_smallNamed := atN Tryz.prog ttT.get nm_r_smallNamed fi93 ⟨[.str], [(false, .bool)], g⟩ (cl_r_smallNamed _ lf) lf hd_r_smallNamed
def G_r_smallNamed_4 (lf : Nat) (x1 : ByteArray) : Nat → (Int) → Option Rt_r_smallNamed := rounds fun K p => R_r_smallNamed_4 lf x1 K p
theorem at_r_smallNamed_4 (g : ElA [.str] → Option Rt_r_smallNamed) (lf : Nat) (x1 : ByteArray) : ∀ (n : Nat) (p : Int), A_r_smallNamed g lf 4 [n] (enc_r_smallNamed_4 x1 p) = G_r_smallNamed_4 lf x1 n p
  | 0, p => atN_zero 4 [0] rfl _
  | n + 1, p => by
    have ih := at_r_smallNamed_4 g lf x1 n
    refine (atN_eq (icallK_eq 20 _) nd_r_smallNamed ok_r_smallNamed 4 [n + 1] [n] rfl _).trans ((st_r_smallNamed_4 g (A_r_smallNamed g lf) lf x1 n p).trans ?_)
    rw [(show (fun q => A_r_smallNamed g lf 4 [n] (enc_r_smallNamed_4 x1 q)) = (fun q => G_r_smallNamed_4 lf x1 n q) from funext ih)]
    rfl
def F_r_smallNamed (lf : Nat) (x1 : ByteArray) : Option Rt_r_smallNamed := R_r_smallNamed_in lf x1 (fun q => G_r_smallNamed_4 lf x1 lf q)
theorem run_r_smallNamed (g : ElA [.str] → Option Rt_r_smallNamed) (lf : Nat) (x1 : ByteArray) : icodeT Tryz.prog ttT.get nm_r_smallNamed fi93.nt (cl_r_smallNamed _ lf) lf st_r_smallNamed (A_r_smallNamed g lf) fi93.body [] (argGo (argV [.str] (x1, ())) 0 .leaf) S0 [] (lastK ttT.get fi93 ⟨[.str], [(false, .bool)], g⟩) = F_r_smallNamed lf x1 := by
    refine (in_r_smallNamed g (A_r_smallNamed g lf) lf x1).trans ?_
    rw [(show (fun q => A_r_smallNamed g lf 4 [lf] (enc_r_smallNamed_4 x1 q)) = (fun q => G_r_smallNamed_4 lf x1 lf q) from funext fun q => at_r_smallNamed_4 g lf x1 lf q)]
    rfl
theorem hxs_r_smallNamed : HxsOK Tryz.prog hxl_r_smallNamed := trivial
theorem mk_r_smallNamed {g : ElA [.str] → Option Rt_r_smallNamed} (hsm : SmOK Tryz.prog sml_r_smallNamed) (hg : ∀ (x : ElA [.str]) (y : Rt_r_smallNamed), WfA [.str] x → g x = some y → ∃ lf, F_r_smallNamed lf x.1 = some y) : Con Tryz.prog 93 ⟨[.str], [(false, .bool)], g⟩ :=
  conT (nmf := nm_r_smallNamed) (sml := sml_r_smallNamed) (hxl := hxl_r_smallNamed) (st := st_r_smallNamed) (hd := hd_r_smallNamed) 20 mixed ttOK ftOK hsm hxs_r_smallNamed cal93 rfl rfl (by kernel_rfl) (fun x => by kernel_rfl) nd_r_smallNamed ok_r_smallNamed fun x y hx hy => by
    obtain ⟨lf, h⟩ := hg x y hx hy
    exact ⟨lf, (run_r_smallNamed g lf x.1).trans h⟩
def nm_r_form : Nat → Option Nm := fun k => cond (Nat.beq k 2) (some ⟨[0, 1, 5], [], [], [], [], 0, 0, false⟩) (none)
def st_r_form : Nat → Bool := fun k => cond (Nat.beq k 2) true (false)
def hd_r_form : Nat → Bool := fun k => cond (Nat.beq k 2) true (false)
abbrev Rt_r_form : Type := Int × Unit
def sml_r_form : List (Nat × Sm) := []
def hxl_r_form : List (Nat × Hx) := []
def cl_r_form (R : Type) (lf : Nat) : ClK R := icallK Tryz.prog ttT.get ftT.get (nm1 40 nm_r_form) (smL sml_r_form) (hxL hxl_r_form) lf 20 R
abbrev id_r_form : Nat := 40
def enc_r_form_2 (x1 : (List DForm)) (x2 : ByteArray) (p : Int) : NRes := (NRes.mk (PT.node (some (IV.lst cForm x1)) (PT.node (some (IV.str x2)) PT.leaf (PT.node (some (IV.int Go.IntKind.i64 p)) PT.leaf PT.leaf)) PT.leaf) (IS.mk PT.leaf 0) [] 0)
def R_r_form_in (lf : Nat) (x1 : (List DForm)) (x2 : ByteArray) (L2 : Int → Option Rt_r_form) : Option Rt_r_form := (L2 (Int.ofNat 0))
def R_r_form_2 (lf : Nat) (x1 : (List DForm)) (x2 : ByteArray) (L2 : Int → Option Rt_r_form) (p : Int) : Option Rt_r_form := (cond (iltI p (Int.ofNat (List.length x1))) (match (jget x1 p) with | .none  => none | .some v0 => (cond (keqS v0.1 x2) (some (p, ())) (L2 (Go.IntKind.wrap Go.IntKind.i64 (Int.add p (Int.ofNat 1)))))) (some ((Int.negSucc 0), ())))
theorem in_r_form (g : ElA [(.list cForm), .str] → Option Rt_r_form) (J : Nat → List Nat → NRes → Option Rt_r_form) (lf : Nat) (x1 : (List DForm)) (x2 : ByteArray) : icodeT Tryz.prog ttT.get nm_r_form fi40.nt (cl_r_form _ lf) lf st_r_form J fi40.body [] (argGo (argV [(.list cForm), .str] (x1, x2, ())) 0 .leaf) S0 [] (lastK ttT.get fi40 ⟨[(.list cForm), .str], [(false, (.int .i64))], g⟩) = R_r_form_in lf x1 x2 (fun q => J 2 [lf] (enc_r_form_2 x1 x2 q)) := by kernel_rfl
theorem st_r_form_2 (g : ElA [(.list cForm), .str] → Option Rt_r_form) (J : Nat → List Nat → NRes → Option Rt_r_form) (lf : Nat) (x1 : (List DForm)) (x2 : ByteArray) (m1 : Nat) (p : Int) : icodeFT Tryz.prog ttT.get nm_r_form fi40.nt (cl_r_form _ lf) lf st_r_form J 2 fi40.body [] [m1] (enc_r_form_2 x1 x2 p) (lastK ttT.get fi40 ⟨[(.list cForm), .str], [(false, (.int .i64))], g⟩) = R_r_form_2 lf x1 x2 (fun q => J 2 [m1] (enc_r_form_2 x1 x2 q)) p := by kernel_rfl
theorem nd_r_form : (regs fi40.body).Nodup := by decide +kernel
theorem ok_r_form : okC nm_r_form st_r_form hd_r_form fi40.body none = true := by kernel_rfl
def A_r_form (g : ElA [(.list cForm), .str] → Option Rt_r_form) (lf : Nat) : Nat → List Nat → NRes → Option Rt_r_form := atN Tryz.prog ttT.get nm_r_form fi40 ⟨[(.list cForm), .str], [(false, (.int .i64))], g⟩ (cl_r_form _ lf) lf hd_r_form
def G_r_form_2 (lf : Nat) (x1 : (List DForm)) (x2 : ByteArray) : Nat → (Int) → Option Rt_r_form := rounds fun K p => R_r_form_2 lf x1 x2 K p
theorem at_r_form_2 (g : ElA [(.list cForm), .str] → Option Rt_r_form) (lf : Nat) (x1 : (List DForm)) (x2 : ByteArray) : ∀ (n : Nat) (p : Int), A_r_form g lf 2 [n] (enc_r_form_2 x1 x2 p) = G_r_form_2 lf x1 x2 n p
  | 0, p => atN_zero 2 [0] rfl _
  | n + 1, p => by
    have ih := at_r_form_2 g lf x1 x2 n
    refine (atN_eq (icallK_eq 20 _) nd_r_form ok_r_form 2 [n + 1] [n] rfl _).trans ((st_r_form_2 g (A_r_form g lf) lf x1 x2 n p).trans ?_)
    rw [(show (fun q => A_r_form g lf 2 [n] (enc_r_form_2 x1 x2 q)) = (fun q => G_r_form_2 lf x1 x2 n q) from funext ih)]
    rfl
def F_r_form (lf : Nat) (x1 : (List DForm)) (x2 : ByteArray) : Option Rt_r_form := R_r_form_in lf x1 x2 (fun q => G_r_form_2 lf x1 x2 lf q)
theorem run_r_form (g : ElA [(.list cForm), .str] → Option Rt_r_form) (lf : Nat) (x1 : (List DForm)) (x2 : ByteArray) : icodeT Tryz.prog ttT.get nm_r_form fi40.nt (cl_r_form _ lf) lf st_r_form (A_r_form g lf) fi40.body [] (argGo (argV [(.list cForm), .str] (x1, x2, ())) 0 .leaf) S0 [] (lastK ttT.get fi40 ⟨[(.list cForm), .str], [(false, (.int .i64))], g⟩) = F_r_form lf x1 x2 := by
    refine (in_r_form g (A_r_form g lf) lf x1 x2).trans ?_
    rw [(show (fun q => A_r_form g lf 2 [lf] (enc_r_form_2 x1 x2 q)) = (fun q => G_r_form_2 lf x1 x2 lf q) from funext fun q => at_r_form_2 g lf x1 x2 lf q)]
    rfl
theorem hxs_r_form : HxsOK Tryz.prog hxl_r_form := trivial
theorem mk_r_form {g : ElA [(.list cForm), .str] → Option Rt_r_form} (hsm : SmOK Tryz.prog sml_r_form) (hg : ∀ (x : ElA [(.list cForm), .str]) (y : Rt_r_form), WfA [(.list cForm), .str] x → g x = some y → ∃ lf, F_r_form lf x.1 x.2.1 = some y) : Con Tryz.prog 40 ⟨[(.list cForm), .str], [(false, (.int .i64))], g⟩ :=
  conT (nmf := nm_r_form) (sml := sml_r_form) (hxl := hxl_r_form) (st := st_r_form) (hd := hd_r_form) 20 mixed ttOK ftOK hsm hxs_r_form cal40 rfl rfl (by kernel_rfl) (fun x => by kernel_rfl) nd_r_form ok_r_form fun x y hx hy => by
    obtain ⟨lf, h⟩ := hg x y hx hy
    exact ⟨lf, (run_r_form g lf x.1 x.2.1).trans h⟩
def nm_r_column : Nat → Option Nm := fun k => cond (Nat.beq k 2) (some ⟨[1, 2, 5], [], [], [], [], 0, 0, false⟩) (none)
def st_r_column : Nat → Bool := fun k => cond (Nat.beq k 2) true (false)
def hd_r_column : Nat → Bool := fun k => cond (Nat.beq k 2) true (false)
abbrev Rt_r_column : Type := Int × Unit
def sml_r_column : List (Nat × Sm) := []
def hxl_r_column : List (Nat × Hx) := []
def cl_r_column (R : Type) (lf : Nat) : ClK R := icallK Tryz.prog ttT.get ftT.get (nm1 53 nm_r_column) (smL sml_r_column) (hxL hxl_r_column) lf 20 R
abbrev id_r_column : Nat := 53
def enc_r_column_2 (x1 : DForm) (x2 : ByteArray) (p : Int) : NRes := (NRes.mk (PT.node none (PT.node (some (IV.str x2)) PT.leaf (PT.node (some (IV.int Go.IntKind.i64 p)) PT.leaf PT.leaf)) (PT.node (some (IV.ptr 0 0)) PT.leaf PT.leaf)) (IS.mk (PT.node (some (IObj.row (List.cons (IV.str x1.1) (List.cons (IV.lst cCol x1.2) [])))) PT.leaf PT.leaf) 1) [] 0)
def R_r_column_in (lf : Nat) (x1 : DForm) (x2 : ByteArray) (L2 : Int → Option Rt_r_column) : Option Rt_r_column := (L2 (Int.ofNat 0))
def R_r_column_2 (lf : Nat) (x1 : DForm) (x2 : ByteArray) (L2 : Int → Option Rt_r_column) (p : Int) : Option Rt_r_column := (cond (iltI p (Int.ofNat (List.length x1.2))) (match (jget x1.2 p) with | .none  => none | .some v0 => (cond (keqS v0.1 x2) (some (p, ())) (L2 (Go.IntKind.wrap Go.IntKind.i64 (Int.add p (Int.ofNat 1)))))) (some ((Int.negSucc 0), ())))
theorem in_r_column (g : ElA [cForm, .str] → Option Rt_r_column) (J : Nat → List Nat → NRes → Option Rt_r_column) (lf : Nat) (x1 : DForm) (x2 : ByteArray) : icodeT Tryz.prog ttT.get nm_r_column fi53.nt (cl_r_column _ lf) lf st_r_column J fi53.body [] (argGo (argV [cForm, .str] (x1, x2, ())) 0 .leaf) S0 [] (lastK ttT.get fi53 ⟨[cForm, .str], [(false, (.int .i64))], g⟩) = R_r_column_in lf x1 x2 (fun q => J 2 [lf] (enc_r_column_2 x1 x2 q)) := by kernel_rfl
theorem st_r_column_2 (g : ElA [cForm, .str] → Option Rt_r_column) (J : Nat → List Nat → NRes → Option Rt_r_column) (lf : Nat) (x1 : DForm) (x2 : ByteArray) (m1 : Nat) (p : Int) : icodeFT Tryz.prog ttT.get nm_r_column fi53.nt (cl_r_column _ lf) lf st_r_column J 2 fi53.body [] [m1] (enc_r_column_2 x1 x2 p) (lastK ttT.get fi53 ⟨[cForm, .str], [(false, (.int .i64))], g⟩) = R_r_column_2 lf x1 x2 (fun q => J 2 [m1] (enc_r_column_2 x1 x2 q)) p := by kernel_rfl
theorem nd_r_column : (regs fi53.body).Nodup := by decide +kernel
theorem ok_r_column : okC nm_r_column st_r_column hd_r_column fi53.body none = true := by kernel_rfl
def A_r_column (g : ElA [cForm, .str] → Option Rt_r_column) (lf : Nat) : Nat → List Nat → NRes → Option Rt_r_column := atN Tryz.prog ttT.get nm_r_column fi53 ⟨[cForm, .str], [(false, (.int .i64))], g⟩ (cl_r_column _ lf) lf hd_r_column
def G_r_column_2 (lf : Nat) (x1 : DForm) (x2 : ByteArray) : Nat → (Int) → Option Rt_r_column := rounds fun K p => R_r_column_2 lf x1 x2 K p
theorem at_r_column_2 (g : ElA [cForm, .str] → Option Rt_r_column) (lf : Nat) (x1 : DForm) (x2 : ByteArray) : ∀ (n : Nat) (p : Int), A_r_column g lf 2 [n] (enc_r_column_2 x1 x2 p) = G_r_column_2 lf x1 x2 n p
  | 0, p => atN_zero 2 [0] rfl _
  | n + 1, p => by
    have ih := at_r_column_2 g lf x1 x2 n
    refine (atN_eq (icallK_eq 20 _) nd_r_column ok_r_column 2 [n + 1] [n] rfl _).trans ((st_r_column_2 g (A_r_column g lf) lf x1 x2 n p).trans ?_)
    rw [(show (fun q => A_r_column g lf 2 [n] (enc_r_column_2 x1 x2 q)) = (fun q => G_r_column_2 lf x1 x2 n q) from funext ih)]
    rfl
def F_r_column (lf : Nat) (x1 : DForm) (x2 : ByteArray) : Option Rt_r_column := R_r_column_in lf x1 x2 (fun q => G_r_column_2 lf x1 x2 lf q)
theorem run_r_column (g : ElA [cForm, .str] → Option Rt_r_column) (lf : Nat) (x1 : DForm) (x2 : ByteArray) : icodeT Tryz.prog ttT.get nm_r_column fi53.nt (cl_r_column _ lf) lf st_r_column (A_r_column g lf) fi53.body [] (argGo (argV [cForm, .str] (x1, x2, ())) 0 .leaf) S0 [] (lastK ttT.get fi53 ⟨[cForm, .str], [(false, (.int .i64))], g⟩) = F_r_column lf x1 x2 := by
    refine (in_r_column g (A_r_column g lf) lf x1 x2).trans ?_
    rw [(show (fun q => A_r_column g lf 2 [lf] (enc_r_column_2 x1 x2 q)) = (fun q => G_r_column_2 lf x1 x2 lf q) from funext fun q => at_r_column_2 g lf x1 x2 lf q)]
    rfl
theorem hxs_r_column : HxsOK Tryz.prog hxl_r_column := trivial
theorem mk_r_column {g : ElA [cForm, .str] → Option Rt_r_column} (hsm : SmOK Tryz.prog sml_r_column) (hg : ∀ (x : ElA [cForm, .str]) (y : Rt_r_column), WfA [cForm, .str] x → g x = some y → ∃ lf, F_r_column lf x.1 x.2.1 = some y) : Con Tryz.prog 53 ⟨[cForm, .str], [(false, (.int .i64))], g⟩ :=
  conT (nmf := nm_r_column) (sml := sml_r_column) (hxl := hxl_r_column) (st := st_r_column) (hd := hd_r_column) 20 mixed ttOK ftOK hsm hxs_r_column cal53 rfl rfl (by kernel_rfl) (fun x => by kernel_rfl) nd_r_column ok_r_column fun x y hx hy => by
    obtain ⟨lf, h⟩ := hg x y hx hy
    exact ⟨lf, (run_r_column g lf x.1 x.2.1).trans h⟩
def nm_r_CheckForms : Nat → Option Nm := fun k => cond (Nat.beq k 4) (some ⟨[0, 3], [], [], [], [], 0, 0, false⟩) (cond (Nat.beq k 14) (some ⟨[0, 3, 5], [], [], [], [], 0, 0, false⟩) (cond (Nat.beq k 25) (some ⟨[0, 8], [], [], [], [], 0, 0, false⟩) (cond (Nat.beq k 28) (some ⟨[0, 8, 9], [], [], [], [], 0, 0, false⟩) (none))))
def st_r_CheckForms : Nat → Bool := fun k => cond (Nat.beq k 4) true (cond (Nat.beq k 14) true (cond (Nat.beq k 25) true (cond (Nat.beq k 28) true (false))))
def hd_r_CheckForms : Nat → Bool := fun k => cond (Nat.beq k 4) true (cond (Nat.beq k 14) true (cond (Nat.beq k 25) true (cond (Nat.beq k 28) true (false))))
abbrev Rt_r_CheckForms : Type := Int × Unit
def sml_r_CheckForms : List (Nat × Sm) := [(92, sp_r_classed), (93, sp_r_smallNamed), (40, sp_r_form), (53, sp_r_column)]
def hxl_r_CheckForms : List (Nat × Hx) := []
def cl_r_CheckForms (R : Type) (lf : Nat) : ClK R := icallK Tryz.prog ttT.get ftT.get (nm1 47 nm_r_CheckForms) (smL sml_r_CheckForms) (hxL hxl_r_CheckForms) lf 20 R
abbrev id_r_CheckForms : Nat := 47
def enc_r_CheckForms_4 (x1 : (List DForm)) (p : Int) : NRes := (NRes.mk (PT.node (some (IV.lst cForm x1)) (PT.node none (PT.node (some (IV.int Go.IntKind.i64 p)) PT.leaf PT.leaf) PT.leaf) PT.leaf) (IS.mk PT.leaf 0) [] 0)
def enc_r_CheckForms_14 (x1 : (List DForm)) (p : Int × Int) : NRes := (NRes.mk (PT.node (some (IV.lst cForm x1)) (PT.node none (PT.node (some (IV.int Go.IntKind.i64 p.2)) PT.leaf PT.leaf) (PT.node (some (IV.int Go.IntKind.i64 p.1)) PT.leaf PT.leaf)) PT.leaf) (IS.mk PT.leaf 0) [] 0)
def enc_r_CheckForms_25 (x1 : (List DForm)) (p : Int) : NRes := (NRes.mk (PT.node (some (IV.lst cForm x1)) PT.leaf (PT.node none (PT.node none (PT.node (some (IV.int Go.IntKind.i64 p)) PT.leaf PT.leaf) PT.leaf) PT.leaf)) (IS.mk PT.leaf 0) [] 0)
def enc_r_CheckForms_28 (x1 : (List DForm)) (p : Int × Int) : NRes := (NRes.mk (PT.node (some (IV.lst cForm x1)) (PT.node none PT.leaf (PT.node none (PT.node (some (IV.int Go.IntKind.i64 p.1)) PT.leaf PT.leaf) PT.leaf)) (PT.node none (PT.node none (PT.node (some (IV.int Go.IntKind.i64 p.2)) PT.leaf PT.leaf) PT.leaf) PT.leaf)) (IS.mk PT.leaf 0) [] 0)
def R_r_CheckForms_in (lf : Nat) (x1 : (List DForm)) (L4 : Int → Option Rt_r_CheckForms) : Option Rt_r_CheckForms := (cond (iltI (Int.ofNat 24) (Int.ofNat (List.length x1))) (some ((Int.ofNat 3), ())) (L4 (Int.ofNat 0)))
def R_r_CheckForms_4 (lf : Nat) (x1 : (List DForm)) (L14 : (Int × Int) → Option Rt_r_CheckForms) (L25 : Int → Option Rt_r_CheckForms) (p : Int) : Option Rt_r_CheckForms := (cond (iltI p (Int.ofNat (List.length x1))) (match (jget x1 p) with | .none  => none | .some v0 => (cond (Bool.not (Go.Proofs.YtcnhjofpmpipfaaGreat.S.class_ v0.1)) (some ((Int.ofNat 4), ())) (match (jget x1 p) with | .none  => none | .some v1 => (cond (iltI (Go.Proofs.YtcnhjofpmpipfaaGreat.S.form x1 v1.1) p) (some ((Int.ofNat 6), ())) (match (jget x1 p) with | .none  => none | .some v2 => (cond (iltI (Int.ofNat 30) (Int.ofNat (List.length v2.2))) (some ((Int.ofNat 3), ())) (L14 ((Int.ofNat 0), p)))))))) (L25 (Int.ofNat 0)))
def R_r_CheckForms_14 (lf : Nat) (x1 : (List DForm)) (L14 : (Int × Int) → Option Rt_r_CheckForms) (L4 : Int → Option Rt_r_CheckForms) (p : Int × Int) : Option Rt_r_CheckForms := (match (jget x1 p.2) with | .none  => none | .some v0 => (cond (iltI p.1 (Int.ofNat (List.length v0.2))) (match (jget x1 p.2) with | .none  => none | .some v1 => (match (jget v1.2 p.1) with | .none  => none | .some v2 => (cond (Bool.not (Go.Proofs.YtcnhjofpmpipfaaGreat.S.small v2.1)) (some ((Int.ofNat 4), ())) (match (jget x1 p.2) with | .none  => none | .some v3 => (cond (iltI (Go.Proofs.YtcnhjofpmpipfaaGreat.S.col v3.2 v2.1) p.1) (some ((Int.ofNat 6), ())) (cond (Bool.not (iltI v2.2.1 (Int.ofNat 1))) (cond (Bool.not (Bool.not (iltI (Int.ofNat 3) v2.2.1))) (some ((Int.ofNat 1), ())) (cond (Bool.not (ieqI v2.2.1 (Int.ofNat 3))) (cond (Bool.not (keqS v2.2.2 (S.lit []))) (some ((Int.ofNat 1), ())) (L14 ((Go.IntKind.wrap Go.IntKind.i64 (Int.add p.1 (Int.ofNat 1))), p.2))) (L14 ((Go.IntKind.wrap Go.IntKind.i64 (Int.add p.1 (Int.ofNat 1))), p.2)))) (some ((Int.ofNat 1), ())))))))) (L4 (Go.IntKind.wrap Go.IntKind.i64 (Int.add p.2 (Int.ofNat 1))))))
def R_r_CheckForms_25 (lf : Nat) (x1 : (List DForm)) (L28 : (Int × Int) → Option Rt_r_CheckForms) (p : Int) : Option Rt_r_CheckForms := (cond (iltI p (Int.ofNat (List.length x1))) (L28 ((Int.ofNat 0), p)) (some ((Int.ofNat 0), ())))
def R_r_CheckForms_28 (lf : Nat) (x1 : (List DForm)) (L28 : (Int × Int) → Option Rt_r_CheckForms) (L25 : Int → Option Rt_r_CheckForms) (p : Int × Int) : Option Rt_r_CheckForms := (match (jget x1 p.2) with | .none  => none | .some v0 => (cond (iltI p.1 (Int.ofNat (List.length v0.2))) (match (jget x1 p.2) with | .none  => none | .some v1 => (match (jget v1.2 p.1) with | .none  => none | .some v2 => (cond (ieqI v2.2.1 (Int.ofNat 3)) (cond (Bool.not (keqS v2.2.2 (S.lit [65, 78, 89]))) (cond (iltI (Go.Proofs.YtcnhjofpmpipfaaGreat.S.form x1 v2.2.2) (Int.ofNat 0)) (some ((Int.ofNat 5), ())) (L28 ((Go.IntKind.wrap Go.IntKind.i64 (Int.add p.1 (Int.ofNat 1))), p.2))) (L28 ((Go.IntKind.wrap Go.IntKind.i64 (Int.add p.1 (Int.ofNat 1))), p.2))) (L28 ((Go.IntKind.wrap Go.IntKind.i64 (Int.add p.1 (Int.ofNat 1))), p.2))))) (L25 (Go.IntKind.wrap Go.IntKind.i64 (Int.add p.2 (Int.ofNat 1))))))
theorem in_r_CheckForms (g : ElA [(.list cForm)] → Option Rt_r_CheckForms) (J : Nat → List Nat → NRes → Option Rt_r_CheckForms) (lf : Nat) (x1 : (List DForm)) : icodeT Tryz.prog ttT.get nm_r_CheckForms fi47.nt (cl_r_CheckForms _ lf) lf st_r_CheckForms J fi47.body [] (argGo (argV [(.list cForm)] (x1, ())) 0 .leaf) S0 [] (lastK ttT.get fi47 ⟨[(.list cForm)], [(false, (.int .i64))], g⟩) = R_r_CheckForms_in lf x1 (fun q => J 4 [lf] (enc_r_CheckForms_4 x1 q)) := by kernel_rfl
theorem st_r_CheckForms_4 (g : ElA [(.list cForm)] → Option Rt_r_CheckForms) (J : Nat → List Nat → NRes → Option Rt_r_CheckForms) (lf : Nat) (x1 : (List DForm)) (m1 : Nat) (p : Int) : icodeFT Tryz.prog ttT.get nm_r_CheckForms fi47.nt (cl_r_CheckForms _ lf) lf st_r_CheckForms J 4 fi47.body [] [m1] (enc_r_CheckForms_4 x1 p) (lastK ttT.get fi47 ⟨[(.list cForm)], [(false, (.int .i64))], g⟩) = R_r_CheckForms_4 lf x1 (fun q => J 14 [m1, lf] (enc_r_CheckForms_14 x1 q)) (fun q => J 25 [lf] (enc_r_CheckForms_25 x1 q)) p := by kernel_rfl
theorem st_r_CheckForms_14 (g : ElA [(.list cForm)] → Option Rt_r_CheckForms) (J : Nat → List Nat → NRes → Option Rt_r_CheckForms) (lf : Nat) (x1 : (List DForm)) (m1 : Nat) (m2 : Nat) (p : Int × Int) : icodeFT Tryz.prog ttT.get nm_r_CheckForms fi47.nt (cl_r_CheckForms _ lf) lf st_r_CheckForms J 14 fi47.body [] [m1, m2] (enc_r_CheckForms_14 x1 p) (lastK ttT.get fi47 ⟨[(.list cForm)], [(false, (.int .i64))], g⟩) = R_r_CheckForms_14 lf x1 (fun q => J 14 [m1, m2] (enc_r_CheckForms_14 x1 q)) (fun q => J 4 [m1] (enc_r_CheckForms_4 x1 q)) p := by kernel_rfl
theorem st_r_CheckForms_25 (g : ElA [(.list cForm)] → Option Rt_r_CheckForms) (J : Nat → List Nat → NRes → Option Rt_r_CheckForms) (lf : Nat) (x1 : (List DForm)) (m1 : Nat) (p : Int) : icodeFT Tryz.prog ttT.get nm_r_CheckForms fi47.nt (cl_r_CheckForms _ lf) lf st_r_CheckForms J 25 fi47.body [] [m1] (enc_r_CheckForms_25 x1 p) (lastK ttT.get fi47 ⟨[(.list cForm)], [(false, (.int .i64))], g⟩) = R_r_CheckForms_25 lf x1 (fun q => J 28 [m1, lf] (enc_r_CheckForms_28 x1 q)) p := by kernel_rfl
theorem st_r_CheckForms_28 (g : ElA [(.list cForm)] → Option Rt_r_CheckForms) (J : Nat → List Nat → NRes → Option Rt_r_CheckForms) (lf : Nat) (x1 : (List DForm)) (m1 : Nat) (m2 : Nat) (p : Int × Int) : icodeFT Tryz.prog ttT.get nm_r_CheckForms fi47.nt (cl_r_CheckForms _ lf) lf st_r_CheckForms J 28 fi47.body [] [m1, m2] (enc_r_CheckForms_28 x1 p) (lastK ttT.get fi47 ⟨[(.list cForm)], [(false, (.int .i64))], g⟩) = R_r_CheckForms_28 lf x1 (fun q => J 28 [m1, m2] (enc_r_CheckForms_28 x1 q)) (fun q => J 25 [m1] (enc_r_CheckForms_25 x1 q)) p := by kernel_rfl
theorem nd_r_CheckForms : (regs fi47.body).Nodup := by decide +kernel
theorem ok_r_CheckForms : okC nm_r_CheckForms st_r_CheckForms hd_r_CheckForms fi47.body none = true := by kernel_rfl
def A_r_CheckForms (g : ElA [(.list cForm)] → Option Rt_r_CheckForms) (lf : Nat) : Nat → List Nat → NRes → Option Rt_r_CheckForms := atN Tryz.prog ttT.get nm_r_CheckForms fi47 ⟨[(.list cForm)], [(false, (.int .i64))], g⟩ (cl_r_CheckForms _ lf) lf hd_r_CheckForms
def G_r_CheckForms_14 (lf : Nat) (x1 : (List DForm)) (K4 : Int → Option Rt_r_CheckForms) : Nat → (Int × Int) → Option Rt_r_CheckForms := rounds fun K p => R_r_CheckForms_14 lf x1 K K4 p
theorem at_r_CheckForms_14 (g : ElA [(.list cForm)] → Option Rt_r_CheckForms) (lf : Nat) (x1 : (List DForm)) (m1 : Nat) : ∀ (n : Nat) (p : Int × Int), A_r_CheckForms g lf 14 [m1, n] (enc_r_CheckForms_14 x1 p) = G_r_CheckForms_14 lf x1 (fun q => A_r_CheckForms g lf 4 [m1] (enc_r_CheckForms_4 x1 q)) n p
  | 0, p => atN_zero 14 [m1, 0] rfl _
  | n + 1, p => by
    have ih := at_r_CheckForms_14 g lf x1 m1 n
    refine (atN_eq (icallK_eq 20 _) nd_r_CheckForms ok_r_CheckForms 14 [m1, n + 1] [m1, n] rfl _).trans ((st_r_CheckForms_14 g (A_r_CheckForms g lf) lf x1 m1 n p).trans ?_)
    rw [(show (fun q => A_r_CheckForms g lf 14 [m1, n] (enc_r_CheckForms_14 x1 q)) = (fun q => G_r_CheckForms_14 lf x1 (fun q => A_r_CheckForms g lf 4 [m1] (enc_r_CheckForms_4 x1 q)) n q) from funext ih)]
    rfl
def G_r_CheckForms_28 (lf : Nat) (x1 : (List DForm)) (K25 : Int → Option Rt_r_CheckForms) : Nat → (Int × Int) → Option Rt_r_CheckForms := rounds fun K p => R_r_CheckForms_28 lf x1 K K25 p
theorem at_r_CheckForms_28 (g : ElA [(.list cForm)] → Option Rt_r_CheckForms) (lf : Nat) (x1 : (List DForm)) (m1 : Nat) : ∀ (n : Nat) (p : Int × Int), A_r_CheckForms g lf 28 [m1, n] (enc_r_CheckForms_28 x1 p) = G_r_CheckForms_28 lf x1 (fun q => A_r_CheckForms g lf 25 [m1] (enc_r_CheckForms_25 x1 q)) n p
  | 0, p => atN_zero 28 [m1, 0] rfl _
  | n + 1, p => by
    have ih := at_r_CheckForms_28 g lf x1 m1 n
    refine (atN_eq (icallK_eq 20 _) nd_r_CheckForms ok_r_CheckForms 28 [m1, n + 1] [m1, n] rfl _).trans ((st_r_CheckForms_28 g (A_r_CheckForms g lf) lf x1 m1 n p).trans ?_)
    rw [(show (fun q => A_r_CheckForms g lf 28 [m1, n] (enc_r_CheckForms_28 x1 q)) = (fun q => G_r_CheckForms_28 lf x1 (fun q => A_r_CheckForms g lf 25 [m1] (enc_r_CheckForms_25 x1 q)) n q) from funext ih)]
    rfl
def G_r_CheckForms_25 (lf : Nat) (x1 : (List DForm)) : Nat → (Int) → Option Rt_r_CheckForms := rounds fun K p => R_r_CheckForms_25 lf x1 (fun q => G_r_CheckForms_28 lf x1 K lf q) p
theorem at_r_CheckForms_25 (g : ElA [(.list cForm)] → Option Rt_r_CheckForms) (lf : Nat) (x1 : (List DForm)) : ∀ (n : Nat) (p : Int), A_r_CheckForms g lf 25 [n] (enc_r_CheckForms_25 x1 p) = G_r_CheckForms_25 lf x1 n p
  | 0, p => atN_zero 25 [0] rfl _
  | n + 1, p => by
    have ih := at_r_CheckForms_25 g lf x1 n
    refine (atN_eq (icallK_eq 20 _) nd_r_CheckForms ok_r_CheckForms 25 [n + 1] [n] rfl _).trans ((st_r_CheckForms_25 g (A_r_CheckForms g lf) lf x1 n p).trans ?_)
    rw [(show (fun q => A_r_CheckForms g lf 28 [n, lf] (enc_r_CheckForms_28 x1 q)) = (fun q => G_r_CheckForms_28 lf x1 (fun q => A_r_CheckForms g lf 25 [n] (enc_r_CheckForms_25 x1 q)) lf q) from funext fun q => at_r_CheckForms_28 g lf x1 n lf q), (show (fun q => A_r_CheckForms g lf 25 [n] (enc_r_CheckForms_25 x1 q)) = (fun q => G_r_CheckForms_25 lf x1 n q) from funext ih)]
    rfl
def G_r_CheckForms_4 (lf : Nat) (x1 : (List DForm)) : Nat → (Int) → Option Rt_r_CheckForms := rounds fun K p => R_r_CheckForms_4 lf x1 (fun q => G_r_CheckForms_14 lf x1 K lf q) (fun q => G_r_CheckForms_25 lf x1 lf q) p
theorem at_r_CheckForms_4 (g : ElA [(.list cForm)] → Option Rt_r_CheckForms) (lf : Nat) (x1 : (List DForm)) : ∀ (n : Nat) (p : Int), A_r_CheckForms g lf 4 [n] (enc_r_CheckForms_4 x1 p) = G_r_CheckForms_4 lf x1 n p
  | 0, p => atN_zero 4 [0] rfl _
  | n + 1, p => by
    have ih := at_r_CheckForms_4 g lf x1 n
    refine (atN_eq (icallK_eq 20 _) nd_r_CheckForms ok_r_CheckForms 4 [n + 1] [n] rfl _).trans ((st_r_CheckForms_4 g (A_r_CheckForms g lf) lf x1 n p).trans ?_)
    rw [(show (fun q => A_r_CheckForms g lf 14 [n, lf] (enc_r_CheckForms_14 x1 q)) = (fun q => G_r_CheckForms_14 lf x1 (fun q => A_r_CheckForms g lf 4 [n] (enc_r_CheckForms_4 x1 q)) lf q) from funext fun q => at_r_CheckForms_14 g lf x1 n lf q), (show (fun q => A_r_CheckForms g lf 25 [lf] (enc_r_CheckForms_25 x1 q)) = (fun q => G_r_CheckForms_25 lf x1 lf q) from funext fun q => at_r_CheckForms_25 g lf x1 lf q), (show (fun q => A_r_CheckForms g lf 4 [n] (enc_r_CheckForms_4 x1 q)) = (fun q => G_r_CheckForms_4 lf x1 n q) from funext ih)]
    rfl
def F_r_CheckForms (lf : Nat) (x1 : (List DForm)) : Option Rt_r_CheckForms := R_r_CheckForms_in lf x1 (fun q => G_r_CheckForms_4 lf x1 lf q)
theorem run_r_CheckForms (g : ElA [(.list cForm)] → Option Rt_r_CheckForms) (lf : Nat) (x1 : (List DForm)) : icodeT Tryz.prog ttT.get nm_r_CheckForms fi47.nt (cl_r_CheckForms _ lf) lf st_r_CheckForms (A_r_CheckForms g lf) fi47.body [] (argGo (argV [(.list cForm)] (x1, ())) 0 .leaf) S0 [] (lastK ttT.get fi47 ⟨[(.list cForm)], [(false, (.int .i64))], g⟩) = F_r_CheckForms lf x1 := by
    refine (in_r_CheckForms g (A_r_CheckForms g lf) lf x1).trans ?_
    rw [(show (fun q => A_r_CheckForms g lf 4 [lf] (enc_r_CheckForms_4 x1 q)) = (fun q => G_r_CheckForms_4 lf x1 lf q) from funext fun q => at_r_CheckForms_4 g lf x1 lf q)]
    rfl
theorem hxs_r_CheckForms : HxsOK Tryz.prog hxl_r_CheckForms := trivial
theorem mk_r_CheckForms {g : ElA [(.list cForm)] → Option Rt_r_CheckForms} (hsm : SmOK Tryz.prog sml_r_CheckForms) (hg : ∀ (x : ElA [(.list cForm)]) (y : Rt_r_CheckForms), WfA [(.list cForm)] x → g x = some y → ∃ lf, F_r_CheckForms lf x.1 = some y) : Con Tryz.prog 47 ⟨[(.list cForm)], [(false, (.int .i64))], g⟩ :=
  conT (nmf := nm_r_CheckForms) (sml := sml_r_CheckForms) (hxl := hxl_r_CheckForms) (st := st_r_CheckForms) (hd := hd_r_CheckForms) 20 mixed ttOK ftOK hsm hxs_r_CheckForms cal47 rfl rfl (by kernel_rfl) (fun x => by kernel_rfl) nd_r_CheckForms ok_r_CheckForms fun x y hx hy => by
    obtain ⟨lf, h⟩ := hg x y hx hy
    exact ⟨lf, (run_r_CheckForms g lf x.1).trans h⟩
def nm_r_rule : Nat → Option Nm := fun k => cond (Nat.beq k 2) (some ⟨[0, 1, 5], [], [], [], [], 0, 0, false⟩) (none)
def st_r_rule : Nat → Bool := fun k => cond (Nat.beq k 2) true (false)
def hd_r_rule : Nat → Bool := fun k => cond (Nat.beq k 2) true (false)
abbrev Rt_r_rule : Type := Int × Unit
def sml_r_rule : List (Nat × Sm) := []
def hxl_r_rule : List (Nat × Hx) := []
def cl_r_rule (R : Type) (lf : Nat) : ClK R := icallK Tryz.prog ttT.get ftT.get (nm1 41 nm_r_rule) (smL sml_r_rule) (hxL hxl_r_rule) lf 20 R
abbrev id_r_rule : Nat := 41
def enc_r_rule_2 (x1 : (List DRule)) (x2 : ByteArray) (p : Int) : NRes := (NRes.mk (PT.node (some (IV.lst cRule x1)) (PT.node (some (IV.str x2)) PT.leaf (PT.node (some (IV.int Go.IntKind.i64 p)) PT.leaf PT.leaf)) PT.leaf) (IS.mk PT.leaf 0) [] 0)
def R_r_rule_in (lf : Nat) (x1 : (List DRule)) (x2 : ByteArray) (L2 : Int → Option Rt_r_rule) : Option Rt_r_rule := (L2 (Int.ofNat 0))
def R_r_rule_2 (lf : Nat) (x1 : (List DRule)) (x2 : ByteArray) (L2 : Int → Option Rt_r_rule) (p : Int) : Option Rt_r_rule := (cond (iltI p (Int.ofNat (List.length x1))) (match (jget x1 p) with | .none  => none | .some v0 => (cond (keqS v0.1 x2) (some (p, ())) (L2 (Go.IntKind.wrap Go.IntKind.i64 (Int.add p (Int.ofNat 1)))))) (some ((Int.negSucc 0), ())))
theorem in_r_rule (g : ElA [(.list cRule), .str] → Option Rt_r_rule) (J : Nat → List Nat → NRes → Option Rt_r_rule) (lf : Nat) (x1 : (List DRule)) (x2 : ByteArray) : icodeT Tryz.prog ttT.get nm_r_rule fi41.nt (cl_r_rule _ lf) lf st_r_rule J fi41.body [] (argGo (argV [(.list cRule), .str] (x1, x2, ())) 0 .leaf) S0 [] (lastK ttT.get fi41 ⟨[(.list cRule), .str], [(false, (.int .i64))], g⟩) = R_r_rule_in lf x1 x2 (fun q => J 2 [lf] (enc_r_rule_2 x1 x2 q)) := by kernel_rfl
theorem st_r_rule_2 (g : ElA [(.list cRule), .str] → Option Rt_r_rule) (J : Nat → List Nat → NRes → Option Rt_r_rule) (lf : Nat) (x1 : (List DRule)) (x2 : ByteArray) (m1 : Nat) (p : Int) : icodeFT Tryz.prog ttT.get nm_r_rule fi41.nt (cl_r_rule _ lf) lf st_r_rule J 2 fi41.body [] [m1] (enc_r_rule_2 x1 x2 p) (lastK ttT.get fi41 ⟨[(.list cRule), .str], [(false, (.int .i64))], g⟩) = R_r_rule_2 lf x1 x2 (fun q => J 2 [m1] (enc_r_rule_2 x1 x2 q)) p := by kernel_rfl
theorem nd_r_rule : (regs fi41.body).Nodup := by decide +kernel
theorem ok_r_rule : okC nm_r_rule st_r_rule hd_r_rule fi41.body none = true := by kernel_rfl
def A_r_rule (g : ElA [(.list cRule), .str] → Option Rt_r_rule) (lf : Nat) : Nat → List Nat → NRes → Option Rt_r_rule := atN Tryz.prog ttT.get nm_r_rule fi41 ⟨[(.list cRule), .str], [(false, (.int .i64))], g⟩ (cl_r_rule _ lf) lf hd_r_rule
def G_r_rule_2 (lf : Nat) (x1 : (List DRule)) (x2 : ByteArray) : Nat → (Int) → Option Rt_r_rule := rounds fun K p => R_r_rule_2 lf x1 x2 K p
theorem at_r_rule_2 (g : ElA [(.list cRule), .str] → Option Rt_r_rule) (lf : Nat) (x1 : (List DRule)) (x2 : ByteArray) : ∀ (n : Nat) (p : Int), A_r_rule g lf 2 [n] (enc_r_rule_2 x1 x2 p) = G_r_rule_2 lf x1 x2 n p
  | 0, p => atN_zero 2 [0] rfl _
  | n + 1, p => by
    have ih := at_r_rule_2 g lf x1 x2 n
    refine (atN_eq (icallK_eq 20 _) nd_r_rule ok_r_rule 2 [n + 1] [n] rfl _).trans ((st_r_rule_2 g (A_r_rule g lf) lf x1 x2 n p).trans ?_)
    rw [(show (fun q => A_r_rule g lf 2 [n] (enc_r_rule_2 x1 x2 q)) = (fun q => G_r_rule_2 lf x1 x2 n q) from funext ih)]
    rfl
def F_r_rule (lf : Nat) (x1 : (List DRule)) (x2 : ByteArray) : Option Rt_r_rule := R_r_rule_in lf x1 x2 (fun q => G_r_rule_2 lf x1 x2 lf q)
theorem run_r_rule (g : ElA [(.list cRule), .str] → Option Rt_r_rule) (lf : Nat) (x1 : (List DRule)) (x2 : ByteArray) : icodeT Tryz.prog ttT.get nm_r_rule fi41.nt (cl_r_rule _ lf) lf st_r_rule (A_r_rule g lf) fi41.body [] (argGo (argV [(.list cRule), .str] (x1, x2, ())) 0 .leaf) S0 [] (lastK ttT.get fi41 ⟨[(.list cRule), .str], [(false, (.int .i64))], g⟩) = F_r_rule lf x1 x2 := by
    refine (in_r_rule g (A_r_rule g lf) lf x1 x2).trans ?_
    rw [(show (fun q => A_r_rule g lf 2 [lf] (enc_r_rule_2 x1 x2 q)) = (fun q => G_r_rule_2 lf x1 x2 lf q) from funext fun q => at_r_rule_2 g lf x1 x2 lf q)]
    rfl
theorem hxs_r_rule : HxsOK Tryz.prog hxl_r_rule := trivial
theorem mk_r_rule {g : ElA [(.list cRule), .str] → Option Rt_r_rule} (hsm : SmOK Tryz.prog sml_r_rule) (hg : ∀ (x : ElA [(.list cRule), .str]) (y : Rt_r_rule), WfA [(.list cRule), .str] x → g x = some y → ∃ lf, F_r_rule lf x.1 x.2.1 = some y) : Con Tryz.prog 41 ⟨[(.list cRule), .str], [(false, (.int .i64))], g⟩ :=
  conT (nmf := nm_r_rule) (sml := sml_r_rule) (hxl := hxl_r_rule) (st := st_r_rule) (hd := hd_r_rule) 20 mixed ttOK ftOK hsm hxs_r_rule cal41 rfl rfl (by kernel_rfl) (fun x => by kernel_rfl) nd_r_rule ok_r_rule fun x y hx hy => by
    obtain ⟨lf, h⟩ := hg x y hx hy
    exact ⟨lf, (run_r_rule g lf x.1 x.2.1).trans h⟩
def nm_r_target : Nat → Option Nm := fun k => none
def st_r_target : Nat → Bool := fun k => false
def hd_r_target : Nat → Bool := fun k => false
abbrev Rt_r_target : Type := ByteArray × Unit
def sml_r_target : List (Nat × Sm) := [(41, sp_r_rule)]
def hxl_r_target : List (Nat × Hx) := []
def cl_r_target (R : Type) (lf : Nat) : ClK R := icallK Tryz.prog ttT.get ftT.get (nm1 143 nm_r_target) (smL sml_r_target) (hxL hxl_r_target) lf 20 R
abbrev id_r_target : Nat := 143
def R_r_target_in (lf : Nat) (x1 : (List DRule)) (x2 : ByteArray) : Option Rt_r_target := (cond (iltI (S.idx (fun v0 => (keqS v0.1 x2)) x1) (Int.ofNat 0)) (some ((S.lit []), ())) (match (jget x1 (S.idx (fun v1 => (keqS v1.1 x2)) x1)) with | .none  => none | .some v2 => (some (v2.2.1, ()))))
theorem in_r_target (g : ElA [(.list cRule), .str] → Option Rt_r_target) (J : Nat → List Nat → NRes → Option Rt_r_target) (lf : Nat) (x1 : (List DRule)) (x2 : ByteArray) : icodeT Tryz.prog ttT.get nm_r_target fi143.nt (cl_r_target _ lf) lf st_r_target J fi143.body [] (argGo (argV [(.list cRule), .str] (x1, x2, ())) 0 .leaf) S0 [] (lastK ttT.get fi143 ⟨[(.list cRule), .str], [(false, .str)], g⟩) = R_r_target_in lf x1 x2 := by kernel_rfl
theorem nd_r_target : (regs fi143.body).Nodup := by decide +kernel
theorem ok_r_target : okC nm_r_target st_r_target hd_r_target fi143.body none = true := by kernel_rfl
def A_r_target (g : ElA [(.list cRule), .str] → Option Rt_r_target) (lf : Nat) : Nat → List Nat → NRes → Option Rt_r_target := atN Tryz.prog ttT.get nm_r_target fi143 ⟨[(.list cRule), .str], [(false, .str)], g⟩ (cl_r_target _ lf) lf hd_r_target
def F_r_target (lf : Nat) (x1 : (List DRule)) (x2 : ByteArray) : Option Rt_r_target := R_r_target_in lf x1 x2
theorem run_r_target (g : ElA [(.list cRule), .str] → Option Rt_r_target) (lf : Nat) (x1 : (List DRule)) (x2 : ByteArray) : icodeT Tryz.prog ttT.get nm_r_target fi143.nt (cl_r_target _ lf) lf st_r_target (A_r_target g lf) fi143.body [] (argGo (argV [(.list cRule), .str] (x1, x2, ())) 0 .leaf) S0 [] (lastK ttT.get fi143 ⟨[(.list cRule), .str], [(false, .str)], g⟩) = F_r_target lf x1 x2 := by
    refine (in_r_target g (A_r_target g lf) lf x1 x2).trans ?_
    rfl
theorem hxs_r_target : HxsOK Tryz.prog hxl_r_target := trivial
theorem mk_r_target {g : ElA [(.list cRule), .str] → Option Rt_r_target} (hsm : SmOK Tryz.prog sml_r_target) (hg : ∀ (x : ElA [(.list cRule), .str]) (y : Rt_r_target), WfA [(.list cRule), .str] x → g x = some y → ∃ lf, F_r_target lf x.1 x.2.1 = some y) : Con Tryz.prog 143 ⟨[(.list cRule), .str], [(false, .str)], g⟩ :=
  conT (nmf := nm_r_target) (sml := sml_r_target) (hxl := hxl_r_target) (st := st_r_target) (hd := hd_r_target) 20 mixed ttOK ftOK hsm hxs_r_target cal143 rfl rfl (by kernel_rfl) (fun x => by kernel_rfl) nd_r_target ok_r_target fun x y hx hy => by
    obtain ⟨lf, h⟩ := hg x y hx hy
    exact ⟨lf, (run_r_target g lf x.1 x.2.1).trans h⟩
end Go.Proofs.YtcnhjofpmpipfaaGreat

end
end

/- The reference's functions: names, places, values. -/
section
set_option linter.unusedVariables false
set_option maxRecDepth 100000
namespace Go.Proofs.YtcnhjofpmpipfaaGreat
open Go Go.Sx Go.RowKit Go.Jx
/-- An index by a loop. -/
theorem idx_go {α : Type} (p : α → Bool) (rest : List α) (i : Nat) (v : α) : (match (v :: rest).findIdx? p with | some j => Int.ofNat (i + j) | none => -1) = cond (p v) (Int.ofNat i) (match rest.findIdx? p with | some j => Int.ofNat (i + 1 + j) | none => -1) := by
  rw [List.findIdx?_cons]
  cases p v with
  | true => rfl
  | false =>
    simp only [cond_false]
    cases List.findIdx? p rest with
    | none => rfl
    | some j => exact congrArg Int.ofNat (show i + (j + 1) = i + 1 + j by omega)
theorem idx_at {α : Type} (p : α → Bool) (l : List α) : (match l.findIdx? p with | some j => Int.ofNat (0 + j) | none => -1) = S.idx p l := by
  unfold S.idx
  cases l.findIdx? p <;> simp
theorem F_q_has_eq (l : List ByteArray) (s : ByteArray) (hl : l.length < LF) : F_q_has LF l s = some (S.has l s, ()) := by
  refine range1 (R := Rt_q_has) l (fun rest _ => some (S.has rest s, ())) hl (fun K => ?_) (fun K i v rest r h => ?_)
  · simp only [R_q_has_2, ilt_self, cond_false]; rfl
  · simp only [R_q_has_2, r.ilt, r.get, r.next, h, cond_true]
    unfold S.has
    rw [List.any_cons]
    cases keqS v s <;> rfl
theorem con_q_has : Con Tryz.prog id_q_has sp_q_has := mk_q_has trivial fun x y hx h => ⟨LF, (F_q_has_eq _ _ (wf_len hx.1)).trans h⟩
theorem F_r_form_eq (l : List DForm) (n : ByteArray) (hl : l.length < LF) : F_r_form LF l n = some (S.form l n, ()) := by
  refine (range1 (R := Rt_r_form) l (fun rest i => some ((match rest.findIdx? (fun f : DForm => keqS f.1 n) with | some j => Int.ofNat (i + j) | none => -1), ())) hl (fun K => ?_) (fun K i v rest r h => ?_)).trans ?_
  · simp only [R_r_form_2, ilt_self, cond_false]; rfl
  · rw [idx_go]
    simp only [R_r_form_2, r.ilt, r.get, r.next, h, cond_true]
    cases keqS v.1 n <;> rfl
  · rw [idx_at]; rfl
theorem con_r_form : Con Tryz.prog id_r_form sp_r_form := mk_r_form trivial fun x y hx h => ⟨LF, (F_r_form_eq _ _ (wf_len hx.1)).trans h⟩
theorem F_r_column_eq (f : DForm) (n : ByteArray) (hl : f.2.length < LF) : F_r_column LF f n = some (S.col f.2 n, ()) := by
  refine (range1 (R := Rt_r_column) f.2 (fun rest i => some ((match rest.findIdx? (fun f : DCol => keqS f.1 n) with | some j => Int.ofNat (i + j) | none => -1), ())) hl (fun K => ?_) (fun K i v rest r h => ?_)).trans ?_
  · simp only [R_r_column_2, ilt_self, cond_false]; rfl
  · rw [idx_go]
    simp only [R_r_column_2, r.ilt, r.get, r.next, h, cond_true]
    cases keqS v.1 n <;> rfl
  · rw [idx_at]; rfl
theorem con_r_column : Con Tryz.prog id_r_column sp_r_column := mk_r_column trivial fun x y hx h => ⟨LF, (F_r_column_eq _ _ (wf_len hx.1.2)).trans h⟩
theorem F_r_rule_eq (l : List DRule) (n : ByteArray) (hl : l.length < LF) : F_r_rule LF l n = some (S.idx (fun r : DRule => keqS r.1 n) l, ()) := by
  refine (range1 (R := Rt_r_rule) l (fun rest i => some ((match rest.findIdx? (fun f : DRule => keqS f.1 n) with | some j => Int.ofNat (i + j) | none => -1), ())) hl (fun K => ?_) (fun K i v rest r h => ?_)).trans ?_
  · simp only [R_r_rule_2, ilt_self, cond_false]; rfl
  · rw [idx_go]
    simp only [R_r_rule_2, r.ilt, r.get, r.next, h, cond_true]
    cases keqS v.1 n <;> rfl
  · rw [idx_at]
theorem con_r_rule : Con Tryz.prog id_r_rule sp_r_rule := mk_r_rule trivial fun x y hx h => ⟨LF, (F_r_rule_eq _ _ (wf_len hx.1)).trans h⟩
theorem F_r_target_eq (lf : Nat) (l : List DRule) (n : ByteArray) : F_r_target lf l n = some ((S.ruleOf l n).1.2.1, ()) := by
  simp only [F_r_target, R_r_target_in]
  by_cases h : S.idx (fun r : DRule => keqS r.1 n) l < 0
  · have hn := S.idx_neg h
    simp only [S.ruleOf, hn, iltI_eq, oL]
    rw [decide_eq_true h]; rfl
  · obtain ⟨x, h1, h2, h3, h4, h5, h6⟩ := S.idx_get (p := fun r : DRule => keqS r.1 n) (l := l) (by omega)
    simp only [S.ruleOf, h6, h1, iltI_eq, oL]
    rw [decide_eq_false h]; rfl
theorem con_r_target : Con Tryz.prog id_r_target sp_r_target := mk_r_target ⟨con_r_rule, trivial⟩ fun x y hx h => ⟨LF, (F_r_target_eq _ _ _).trans h⟩
theorem within_tree (n lo hi : Int) : (cond (Bool.not (iltI n lo)) (some ((Bool.not (iltI hi n)), ())) (some (Bool.false, ())) : Option (Bool × Unit)) = some (S.within n lo hi, ()) := F_p_within_eq 0 n lo hi
/-! ### Classes and graphs -/
/-- The first index is that one, or one ahead. -/
theorem idx_take {α : Type} {p : α → Bool} {l : List α} {i : Nat} {v : α} (hv : l[i]? = some v) (hp : p v = true) : S.idx p l < Int.ofNat i ↔ ¬ S.idx p (l.take i) < 0 := by
  have hi : i < l.length := (List.getElem?_eq_some_iff.1 hv).1
  have h1 := S.idx_nonneg p (l.take i)
  constructor
  · intro h
    have h0 : 0 ≤ S.idx p l := (S.idx_nonneg p l).2 (List.any_eq_true.2 ⟨v, List.mem_of_getElem? hv, hp⟩)
    obtain ⟨x, g1, g2, g3, g4, g5, g6⟩ := S.idx_get h0
    have : 0 ≤ S.idx p (l.take i) := h1.2 (List.any_eq_true.2 ⟨x, List.mem_of_getElem? (i := (S.idx p l).toNat) (by rw [List.getElem?_take, if_pos (by have : Int.ofNat i = (i : Int) := rfl; omega)]; exact g2), g3⟩)
    omega
  · intro h
    have h0 : 0 ≤ S.idx p (l.take i) := by omega
    obtain ⟨x, hx, hpx⟩ := List.any_eq_true.1 (h1.1 h0)
    obtain ⟨j, hj⟩ := List.mem_iff_getElem?.1 hx
    have hji : j < i := by
      have := (List.getElem?_eq_some_iff.1 hj).1
      rw [List.length_take] at this
      omega
    rw [List.getElem?_take, if_pos hji] at hj
    unfold S.idx
    cases hf : l.findIdx? p with
    | none =>
      rw [List.findIdx?_eq_none_iff] at hf
      have := hf x (List.mem_of_getElem? hj)
      rw [hpx] at this; cases this
    | some k =>
      simp only
      obtain ⟨k1, k2, k3⟩ := List.findIdx?_eq_some_iff_getElem.1 hf
      have : k ≤ j := by
        rcases Nat.lt_or_ge j k with h | h
        · have h4 := k3 j h
          have h5 : l[j]'(by omega) = x := by have := (List.getElem?_eq_some_iff.1 hj).2; exact this
          rw [h5, hpx] at h4; simp at h4
        · exact h
      have : Int.ofNat k = (k : Int) := rfl
      have : Int.ofNat i = (i : Int) := rfl
      omega
theorem rs_loop (s : ByteArray) (hl : s.size < LF) : G_r_smallNamed_4 LF s LF (Int.ofNat 0) = some (((byteList s).all (fun b => !S.badR b 97 122) && !decide (S.smallWords.any (fun w => keqS s w) = true)), ()) := by
  have hbl : (byteList s).length < LF := by rw [bl_len]; exact hl
  refine range1 (R := Rt_r_smallNamed) (byteList s) (fun rest _ => some ((rest.all (fun b => !S.badR b 97 122) && !decide (S.smallWords.any (fun w => keqS s w) = true)), ())) hbl (fun K => ?_) (fun K i b rest r h => ?_)
  · rw [bl_len]
    simp only [R_r_smallNamed_4, ilt_self, cond_false, List.all_nil, Bool.true_and, S.smallWords, List.any_cons, List.any_nil, Bool.or_false]
    cases keqS s (S.lit [116, 114, 117, 101]) <;> cases keqS s (S.lit [102, 97, 108, 115, 101]) <;> cases keqS s (S.lit [118, 111, 105, 100]) <;> cases keqS s (S.lit [99, 117, 114, 114, 101, 110, 116]) <;> cases keqS s (S.lit [114, 101, 115, 117, 108, 116]) <;> rfl
  · have hlt : iltI (Int.ofNat i) (Int.ofNat s.size) = true := by have := r.ilt; rwa [bl_len] at this
    rw [List.all_cons, Bool.and_assoc]
    generalize (rest.all (fun b => !S.badR b 97 122) && !decide (S.smallWords.any (fun w => keqS s w) = true)) = z at h ⊢
    simp only [R_r_smallNamed_4, hlt, r.get, r.next, h, cond_true, iltI_eq, ieqI_eq]
    simp only [oL, S.badR]
    by_cases h1 : b < 97 <;> by_cases h2 : 122 < b <;> by_cases h3 : b < 48 <;> by_cases h4 : 57 < b <;> by_cases h5 : b = 95 <;> simp [h1, h2, h3, h4, h5] <;> omega
theorem F_r_smallNamed_eq (s : ByteArray) : F_r_smallNamed LF s = some (S.small s, ()) := by
  have key : ∀ z : Bool, (z = true ↔ S.small s = true) → z = S.small s := fun z h => by rw [Bool.eq_iff_iff]; exact h
  simp only [F_r_smallNamed, R_r_smallNamed_in, ilt_nat]
  by_cases h1 : s.size < 1
  · rw [decide_eq_true h1, cond_true]
    refine congrArg some (Prod.ext (key _ ⟨fun h => (by cases h), fun h => ?_⟩) rfl)
    obtain ⟨_, ⟨b, hb, _⟩, _⟩ := (small_iff s).1 h
    have := (List.getElem?_eq_some_iff.1 hb).1
    rw [bl_len] at this; omega
  rw [decide_eq_false h1, cond_false]
  by_cases h2 : 20 < s.size
  · rw [decide_eq_true h2, cond_true]
    refine congrArg some (Prod.ext (key _ ⟨fun h => (by cases h), fun h => ?_⟩) rfl)
    have := ((small_iff s).1 h).1; omega
  rw [decide_eq_false h2, cond_false]
  have hb := bl_get (s := s) (i := 0) (by omega)
  have hj : jget (byteList s) (Int.ofNat 0) = some ((s[0]'(by omega)).toNat : Int) := by rw [jget_nat]; exact hb
  generalize ((s[0]'(by omega)).toNat : Int) = b0 at hb hj
  simp only [hj, iltI_eq]
  simp only [oL]
  by_cases h3 : b0 < 97
  · rw [decide_eq_true h3, cond_true]
    refine congrArg some (Prod.ext (key _ ⟨fun h => (by cases h), fun h => ?_⟩) rfl)
    obtain ⟨_, ⟨b, hb2, _⟩, _⟩ := (small_iff s).1 h
    rw [hb] at hb2; cases hb2; omega
  rw [decide_eq_false h3, cond_false]
  by_cases h4 : 122 < b0
  · rw [decide_eq_true h4, cond_true]
    refine congrArg some (Prod.ext (key _ ⟨fun h => (by cases h), fun h => ?_⟩) rfl)
    obtain ⟨_, ⟨b, hb2, _⟩, _⟩ := (small_iff s).1 h
    rw [hb] at hb2; cases hb2; omega
  rw [decide_eq_false h4, cond_false]
  refine (rs_loop s (by unfold LF; omega)).trans (congrArg some (Prod.ext (key _ ?_) rfl))
  rw [small_iff]
  simp only [Bool.and_eq_true, List.all_eq_true, Bool.not_eq_true', decide_eq_false_iff_not]
  have hm : S.smallWords.any (fun w => keqS s w) = true ↔ s ∈ S.smallWords := by
    rw [List.any_eq_true]
    exact ⟨fun ⟨x, hx, h⟩ => by rw [of_decide_eq_true h]; exact hx, fun h => ⟨s, h, decide_eq_true rfl⟩⟩
  rw [hm]
  exact ⟨fun h => ⟨by omega, ⟨b0, hb, by omega, by omega⟩, h.1, h.2⟩, fun h => ⟨h.2.2.1, h.2.2.2⟩⟩
theorem con_r_smallNamed : Con Tryz.prog id_r_smallNamed sp_r_smallNamed := mk_r_smallNamed trivial fun x y hx h => ⟨LF, (F_r_smallNamed_eq _).trans h⟩
end Go.Proofs.YtcnhjofpmpipfaaGreat
end

/- The reference's CheckForms. -/
section
set_option linter.unusedVariables false
set_option maxRecDepth 100000
namespace Go.Proofs.YtcnhjofpmpipfaaGreat
open Go Go.Sx Go.RowKit Go.Jx
theorem col_take {l : List DCol} {i : Nat} {c : DCol} (h : l[i]? = some c) : S.col l c.1 < Int.ofNat i ↔ ¬ S.col (l.take i) c.1 < 0 := idx_take (p := fun x : DCol => keqS x.1 c.1) h (by simp [keqS])
theorem form_take {l : List DForm} {i : Nat} {f : DForm} (h : l[i]? = some f) : S.form l f.1 < Int.ofNat i ↔ ¬ S.form (l.take i) f.1 < 0 := idx_take (p := fun x : DForm => keqS x.1 f.1) h (by simp [keqS])
theorem rcf_cols (l : List DForm) (K4 : Int → Option Rt_r_CheckForms) (i : Nat) (f : DForm) (hf : jget l (Int.ofNat i) = some f) (hl : f.2.length < LF) (Z : Int → Option Rt_r_CheckForms) (hZ0 : Z 0 = K4 (IntKind.i64.wrap (Int.add (Int.ofNat i) (Int.ofNat 1)))) (hZ : ∀ e, e ≠ 0 → Z e = some (e, ())) :
    G_r_CheckForms_14 LF l K4 LF (Int.ofNat 0, Int.ofNat i) = Z (S.ccGo f.2 0 f.2) := by
  refine range0 (σ := Unit) (R := Rt_r_CheckForms) f.2 (fun k _ => (k, Int.ofNat i)) (fun _ _ => True) (fun rest k _ => Z (S.ccGo f.2 k rest)) hl (fun K s _ => ?_) (fun K k c rest s _ r h => ?_) () trivial
  · simp only [R_r_CheckForms_14, hf, ilt_self, cond_false, S.ccGo, hZ0]
  · have h := h () trivial
    rw [S.ccGo]
    simp only [R_r_CheckForms_14, hf, r.ilt, r.get, r.next, h, cond_true]
    have ht := col_take r.get?
    generalize S.ccGo f.2 (k + 1) rest = z
    have h4 := hZ 4 (by decide)
    have h6 := hZ 6 (by decide)
    have h1 := hZ 1 (by decide)
    cases S.small c.1 with
    | false => rw [if_pos rfl, h4]; rfl
    | true =>
      rw [Bool.not_true, cond_false, if_neg (show ¬ true = false by decide)]
      by_cases hc : S.col (f.2.take k) c.1 < 0
      · have hn : ¬ S.col f.2 c.1 < Int.ofNat k := fun h => (ht.1 h) hc
        rw [iltI_eq, decide_eq_false hn, cond_false, if_neg (fun h => h hc)]
        simp only [iltI_eq, ieqI_eq, keqS, oL]
        have hw : S.within c.2.1 1 3 = (!decide (c.2.1 < 1) && !decide (3 < c.2.1)) := by
          unfold S.within
          rw [Bool.eq_iff_iff]
          simp only [Bool.and_eq_true, decide_eq_true_eq, Bool.not_eq_true', decide_eq_false_iff_not]
          omega
        rw [hw]
        by_cases a1 : c.2.1 < 1
        · rw [decide_eq_true a1, if_pos (show (!true && !decide (3 < c.2.1)) = false from rfl), h1]; rfl
        rw [decide_eq_false a1]
        by_cases a3 : 3 < c.2.1
        · rw [decide_eq_true a3, if_pos (show (!false && !true) = false from rfl), h1]; rfl
        rw [decide_eq_false a3, if_neg (show ¬ (!false && !false) = false by decide)]
        by_cases b3 : c.2.1 = 3
        · rw [decide_eq_true b3, if_neg (fun h => h.1 b3)]; rfl
        rw [decide_eq_false b3]
        by_cases b4 : c.2.2 = S.lit []
        · rw [decide_eq_true b4, if_neg (fun h => h.2 b4)]; rfl
        · rw [decide_eq_false b4, if_pos ⟨b3, b4⟩, h1]; rfl
      · have hy : S.col f.2 c.1 < Int.ofNat k := ht.2 hc
        rw [iltI_eq, decide_eq_true hy, cond_true, if_pos hc, h6]; rfl
theorem rcf_in (x1 : List DForm) (K25 : Int → Option Rt_r_CheckForms) (i : Nat) (f : DForm) (hg : jget x1 (Int.ofNat i) = some f) (hf : f.2.length < LF) (Z : Bool → Option Rt_r_CheckForms) (hZ1 : Z true = K25 (IntKind.i64.wrap (Int.add (Int.ofNat i) (Int.ofNat 1)))) (hZ : Z false = some (5, ())) :
    G_r_CheckForms_28 LF x1 K25 LF (Int.ofNat 0, Int.ofNat i) = Z (S.cfIn x1 f.2) := by
  refine range0 (σ := Unit) (R := Rt_r_CheckForms) f.2 (fun k _ => (k, Int.ofNat i)) (fun _ _ => True) (fun rest _ _ => Z (S.cfIn x1 rest)) hf (fun K s _ => ?_) (fun K k c rest s _ r h => ?_) () trivial
  · simp only [R_r_CheckForms_28, hg, ilt_self, cond_false, S.cfIn, hZ1]
  · have h := h () trivial
    rw [S.cfIn]
    simp only [R_r_CheckForms_28, hg, r.ilt, r.get, r.next, h, cond_true, iltI_eq, ieqI_eq, keqS]
    have ea : S.lit [65, 78, 89] = S.ANY := rfl
    generalize S.cfIn x1 rest = z
    simp only [ea, oL]
    by_cases h3 : c.2.1 = 3
    · by_cases hn : c.2.2 = S.ANY
      · rw [decide_eq_true h3, decide_eq_true hn, if_neg (fun h => h.2.1 hn)]; rfl
      · by_cases hf : S.form x1 c.2.2 < 0
        · rw [decide_eq_true h3, decide_eq_false hn, decide_eq_true hf, if_pos ⟨h3, hn, hf⟩, hZ]; rfl
        · rw [decide_eq_true h3, decide_eq_false hn, decide_eq_false hf, if_neg (fun h => hf h.2.2)]; rfl
    · rw [decide_eq_false h3, if_neg (fun h => h3 h.1)]; rfl
theorem rcf_second (x1 : List DForm) (hl : x1.length < LF) (hw : ∀ f ∈ x1, f.2.length < LF) : G_r_CheckForms_25 LF x1 LF (Int.ofNat 0) = some (S.cfGo2 x1 x1, ()) := by
  refine range1 (R := Rt_r_CheckForms) x1 (fun rest i => some (S.cfGo2 x1 rest, ())) hl (fun K => ?_) (fun K i v rest r h => ?_)
  · simp only [R_r_CheckForms_25, ilt_self, cond_false]; rfl
  · simp only [R_r_CheckForms_25, r.ilt, cond_true]
    refine (rcf_in x1 K i v r.get (hw v r.mem) (fun b => some ((if b = true then S.cfGo2 x1 rest else 5), ())) ?_ rfl).trans ?_
    · rw [r.next, h]; rfl
    · rw [S.cfGo2]
theorem F_r_CheckForms_eq (l : List DForm) (hl : l.length < LF) (hw : ∀ f ∈ l, f.2.length < LF) : F_r_CheckForms LF l = some (S.checkForms l, ()) := by
  simp only [F_r_CheckForms, R_r_CheckForms_in, S.checkForms, ilt_nat]
  by_cases h24 : 24 < l.length
  · rw [decide_eq_true h24, cond_true, if_pos h24]; rfl
  rw [decide_eq_false h24, cond_false, if_neg h24]
  refine range1 (R := Rt_r_CheckForms) l (fun rest i => some (S.cfGo l i rest, ())) hl (fun K => ?_) (fun K i v rest r h => ?_)
  · simp only [R_r_CheckForms_4, ilt_self, cond_false, S.cfGo]
    exact rcf_second l hl hw
  · have ht := form_take r.get?
    rw [S.cfGo]
    simp only [first3, S.unlessE]
    simp only [R_r_CheckForms_4, r.ilt, r.get, cond_true, ilt_nat]
    cases hcl : S.class_ v.1 with
    | false => rfl
    | true =>
      rw [Bool.not_true, cond_false, cond_true, if_pos (rfl : (0 : Int) = 0)]
      by_cases hc : S.form (l.take i) v.1 < 0
      · have hn : ¬ S.form l v.1 < Int.ofNat i := fun h => (ht.1 h) hc
        rw [iltI_eq, decide_eq_false hn, cond_false, decide_eq_true hc, cond_true, if_pos (rfl : (0 : Int) = 0)]
        unfold S.checkCols
        by_cases h30 : 30 < v.2.length
        · rw [decide_eq_true h30, cond_true, if_pos h30]; rfl
        · rw [decide_eq_false h30, cond_false, if_neg h30]
          refine (rcf_cols l K i v r.get (hw v r.mem) (fun e => some ((if e = 0 then S.cfGo l (i + 1) rest else e), ())) ?_ (fun e he => by simp only [if_neg he])).trans rfl
          rw [r.next, h]; rfl
      · have hy : S.form l v.1 < Int.ofNat i := ht.2 hc
        rw [iltI_eq, decide_eq_true hy, cond_true, decide_eq_false hc, cond_false]
        rfl
theorem con_r_CheckForms (hcl : Con Tryz.prog 92 sp_r_classed) : Con Tryz.prog id_r_CheckForms sp_r_CheckForms := mk_r_CheckForms ⟨hcl, con_r_smallNamed, con_r_form, con_r_column, trivial⟩ fun x y hx h => ⟨LF, (F_r_CheckForms_eq _ (wf_len hx.1) fun f hf => wf_len (hx.1.2 f hf).2).trans h⟩
end Go.Proofs.YtcnhjofpmpipfaaGreat
end
