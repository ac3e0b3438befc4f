/- Texts: Jvs, Jra, Xb, Xe1, Xe2a, Xe2b, Xe2c, Xe2d, Xe3, Jca, Jcb, Jcc, Jcd, Jce, Jcf, Jcg, Jch, Jci, Jcj, Jck, Jcp, Jcm, Xsp, Xsp2, Xsp3, Xsp4, Xsp5, Xsp6, Jcr, Jcs, Xr1, Xhs, Jhx, Xg6, Xp17. -/
import Derived.Test.YtanenikkloolfaaGreatDoorMx3
import Derived.Test.YtanenikkloolfaaGreatDoorMx1
import Derived.Laws.RangeAny
import Derived.Lib.Strings
import Derived.Lib.Slices
import Derived.Lib.Walk
import Derived.Lib.Bytealg
import Derived.Lib.Builder
import Derived.Lib.UnsafeStr
import Derived.OwnWalk
import Derived.Shelf.RegionOpenPlain
import Derived.WalkKit
import Derived.Laws.Externs
set_option linter.unusedVariables false
section
namespace Go.Jx
open Go Go.Sx Go.RowKit
universe u

section
variable {P : Program} {tt : Nat -> Option TI} {nm : Nat -> Option Nm} {B nt lf : Nat} {round : Option Nat} {cl cl' : Cl}
def ClLe (cl cl' : Cl) : Prop := ∀ t vs S r, cl t vs S = some r -> cl' t vs S = some r
theorem qw3 (h : ClLe cl cl') {fr : PT IV} {S : IS} {o : Oper} {r : Res} (hr : istep P tt nt cl fr S o = some r) : istep P tt nt cl' fr S o = some r := by
 obtain ⟨dst, op, ty, pos, aft, g⟩ := o
 cases op <;> try exact hr
 rename_i c
 obtain ⟨callee, args, ts⟩ := c
 cases callee <;> try exact hr
 rename_i x
 simp only [istep, oget] at hr ⊢
 generalize evo nt fr x = e1 at hr ⊢
 cases e1 with
 | none => cases hr
 | some v =>
   simp only at hr ⊢
   generalize evL nt fr args.toList = e2 at hr ⊢
   cases e2 with
   | none => cases hr
   | some vs =>
     cases v <;> simp only at hr ⊢ <;> first | (cases hr; done) | exact h _ _ _ _ hr
theorem qlq (h : ClLe cl cl') {ops : List Oper} : ∀ {l : List Oper} {fr : PT IV} {S : IS} {q : FRes}, iseq P tt nt cl ops l fr S = some q -> iseq P tt nt cl' ops l fr S = some q
 | [], fr, S, q, hq => hq
 | o :: l, fr, S, q, hq => by
   unfold iseq at hq ⊢
   cases hgk : gOK ops fr o.guard with
   | false => rw [hgk] at hq; cases hq
   | true =>
   rw [hgk, cond_true] at hq
   rw [cond_true]
   cases hw : wantI ops nt fr o.guard with
   | true =>
     rw [hw, cond_true] at hq
     rw [cond_true]
     cases hs : istep P tt nt cl fr S o with
     | none => rw [hs] at hq; cases hq
     | some r =>
       rw [hs] at hq
       rw [qw3 h hs]
       simp only at hq ⊢
       cases hn : iseq P tt nt cl ops l (putD o.dst r.v fr) r.S with
       | none => rw [hn] at hq; cases hq
       | some q2 => rw [hn] at hq; rw [qlq h hn]; exact hq
   | false =>
     rw [hw, cond_false] at hq
     rw [cond_false]
     exact qlq h hq
theorem qps (h : ClLe cl cl') {ops : List Oper} : ∀ {l : List Oper} {fr : PT IV} {S : IS} {q : Recs}, irecs P tt nt cl ops l fr S = some q -> irecs P tt nt cl' ops l fr S = some q
 | [], fr, S, q, hq => hq
 | o :: l, fr, S, q, hq => by
   unfold irecs at hq ⊢
   cases hgk : gOK ops fr o.guard with
   | false => rw [hgk] at hq; cases hq
   | true =>
   rw [hgk, cond_true] at hq
   rw [cond_true]
   cases hw : wantI ops nt fr o.guard with
   | true =>
     rw [hw, cond_true] at hq
     rw [cond_true]
     cases hs : istep P tt nt cl fr S o with
     | none => rw [hs] at hq; cases hq
     | some r =>
       rw [hs] at hq
       rw [qw3 h hs]
       simp only at hq ⊢
       cases hn : irecs P tt nt cl ops l (putD o.dst r.v fr) r.S with
       | none => rw [hn] at hq; cases hq
       | some q2 => rw [hn] at hq; rw [qps h hn]; exact hq
   | false =>
     rw [hw, cond_false] at hq
     rw [cond_false]
     cases hn : irecs P tt nt cl ops l (putD o.dst (.tup []) fr) S with
     | none => rw [hn] at hq; cases hq
     | some q2 => rw [hn] at hq; rw [qps h hn]; exact hq
theorem q0i (h : ClLe cl cl') {ops : List Oper} {fr : PT IV} {S : IS} {q : FRes} (hq : iany P tt nt cl ops fr S = some q) : iany P tt nt cl' ops fr S = some q := by
 unfold iany at hq ⊢
 cases hn : irecs P tt nt cl ops ops fr S with
 | none => rw [hn] at hq; cases hq
 | some q2 => rw [hn] at hq; rw [qps h hn]; exact hq
theorem qrl (h : ClLe cl cl') {f : Nat} {caps : List IV} {S : IS} {id : Nat} {fr : PT IV} {ds : List Nat} {rd : Nat} {q : CRes} (hq : ifin cl f caps S id fr ds rd = some q) : ifin cl' f caps S id fr ds rd = some q := by
 unfold ifin at hq ⊢
 cases hn : cl (.fn f) (.yield id :: caps) S with
 | none => rw [hn] at hq; cases hq
 | some r => rw [hn] at hq; rw [h _ _ _ _ hn]; exact hq
theorem qm1 (h : ClLe cl cl') : ∀ (c : Code) {fr : PT IV} {S : IS} {ds : List Nat} {q : CRes}, icode P tt nm B nt cl lf round c fr S ds = some q -> icode P tt nm B nt cl' lf round c fr S ds = some q := by
 intro c
 induction c with
 | skip => intro fr S ds q hq; exact hq
 | label l => intro fr S ds q hq; exact hq
 | exit id => intro fr S ds q hq; exact hq
 | goto l => intro fr S ds q hq; exact hq
 | ret => intro fr S ds q hq; exact hq
 | refuse _ => intro fr S ds q hq; exact hq
 | region id ops draw =>
   intro fr S ds q hq
   simp only [icode] at hq ⊢
   cases hx : inorm nt (nm id) B fr S ds with
   | none => rw [hx] at hq; cases hq
   | some x =>
     rw [hx] at hq
     simp only at hq ⊢
     cases draw with
     | true =>
       simp only [cond_true] at hq ⊢
       cases hn : iany P tt nt cl ops.toList x.fr x.S with
       | none => rw [hn] at hq; cases hq
       | some r => rw [hn] at hq; rw [q0i h hn]; exact hq
     | false =>
       simp only [cond_false] at hq ⊢
       cases hn : iseq P tt nt cl ops.toList ops.toList x.fr x.S with
       | none => rw [hn] at hq; cases hq
       | some r => rw [hn] at hq; rw [qlq h hn]; exact hq
 | seq x y ihx ihy =>
   intro fr S ds q hq
   simp only [icode] at hq ⊢
   cases hn : icode P tt nm B nt cl lf round x fr S ds with
   | none => rw [hn] at hq; cases hq
   | some r =>
     rw [hn] at hq
     rw [ihx hn]
     simp only at hq ⊢
     cases he : r.e <;> rw [he] at hq <;> simp only at hq ⊢ <;> try exact hq
     cases hn2 : icode P tt nm B nt cl lf round y r.fr r.S r.ds with
     | none => rw [hn2] at hq; cases hq
     | some r2 => rw [hn2] at hq; rw [ihy hn2]; exact hq
 | cond c x y ihx ihy =>
   intro fr S ds q hq
   simp only [icode] at hq ⊢
   cases hv : evo nt fr c with
   | none => rw [hv] at hq; cases hq
   | some v =>
     rw [hv] at hq
     cases v <;> simp only at hq ⊢ <;> try (cases hq; done)
     rename_i b
     cases b with
     | true => exact ihx hq
     | false => exact ihy hq
 | block id c ih =>
   intro fr S ds q hq
   simp only [icode] at hq ⊢
   cases hn : icode P tt nm B nt cl lf round c fr S ds with
   | none => rw [hn] at hq; cases hq
   | some r => rw [hn] at hq; rw [ih hn]; exact hq
 | scope c ih =>
   intro fr S ds q hq
   simp only [icode] at hq ⊢
   cases hn : icode P tt nm B nt cl lf round c fr S ds with
   | none => rw [hn] at hq; cases hq
   | some r => rw [hn] at hq; rw [ih hn]; exact hq
 | loop c ih =>
   intro fr S ds q hq
   simp only [icode] at hq ⊢
   cases hm : loopM nm c with
   | some m =>
     rw [hm] at hq
     simp only at hq ⊢
     obtain ⟨q0, hq0, rfl⟩ := qcp hq
     have key : ∀ n fr S ds q, qbc (icode P tt nm B nt cl lf round c) m.1 m.2 n fr S ds = some q -> qbc (icode P tt nm B nt cl' lf round c) m.1 m.2 n fr S ds = some q := by
       intro n
       induction n with
       | zero => intro fr S ds q hq; exact hq
       | succ n ihn =>
         intro fr S ds q hq
         unfold qbc at hq ⊢
         cases hn : icode P tt nm B nt cl lf round c fr S ds with
         | none => rw [hn] at hq; cases hq
         | some r =>
           rw [hn] at hq
           rw [ih hn]
           simp only at hq ⊢
           cases hb : (subm r.rd m.1 && subm r.wr m.2) with
           | false => rw [hb] at hq; cases hq
           | true =>
             rw [hb, cond_true] at hq
             rw [cond_true]
             cases he : r.e <;> rw [he] at hq <;> simp only at hq ⊢ <;> first | exact ihn _ _ _ _ hq | exact hq
     rw [key _ _ _ _ _ hq0]
     rfl
   | none =>
     rw [hm] at hq
     simp only at hq ⊢
     have key : ∀ n fr S ds q, iiter (icode P tt nm B nt cl lf round c) n fr S ds = some q -> iiter (icode P tt nm B nt cl' lf round c) n fr S ds = some q := by
       intro n
       induction n with
       | zero => intro fr S ds q hq; exact hq
       | succ n ihn =>
         intro fr S ds q hq
         unfold iiter at hq ⊢
         cases hn : icode P tt nm B nt cl lf round c fr S ds with
         | none => rw [hn] at hq; cases hq
         | some r =>
           rw [hn] at hq
           rw [ih hn]
           simp only at hq ⊢
           cases he : r.e <;> rw [he] at hq <;> simp only at hq ⊢ <;> try exact hq
           cases hn2 : iiter (icode P tt nm B nt cl lf round c) n r.fr r.S r.ds with
           | none => rw [hn2] at hq; cases hq
           | some r2 => rw [hn2] at hq; rw [ihn _ _ _ _ hn2]; exact hq
     exact key _ _ _ _ _ hq
 | rangeFunc g ps assign body ih1 ih2 =>
   intro fr S ds q hq
   simp only [icode] at hq ⊢
   obtain ⟨q0, hq0, rfl⟩ := qcp hq
   cases hv : evo nt fr g with
   | none => rw [hv] at hq0; cases hq0
   | some v =>
     rw [hv] at hq0
     cases v <;> simp only at hq0 ⊢ <;> try (cases hq0; done)
     cases round with
     | none => simp only at hq0 ⊢; rw [qrl h hq0]; rfl
     | some l =>
       simp only at hq0 ⊢
       cases ho : S.heap.get l with
       | none => rw [ho] at hq0; cases hq0
       | some o =>
         rw [ho] at hq0
         cases o <;> simp only at hq0 ⊢ <;> try (cases hq0; done)
         rw [qrl h hq0]; rfl
end

def sixO (p : Nat -> Int -> Option Bool) (s : ByteArray) (b : Bool) : Nat -> Nat -> Option Int
 | 0, _ => none
 | n + 1, i => cond (Nat.blt i s.size) (match p (i + (Utf8.decode s i).2) (Int.ofNat (Utf8.decode s i).1) with
   | none => none
   | some a => cond (decide (a = b)) (some (Int.ofNat i)) (sixO p s b n (i + (Utf8.decode s i).2))) (some (-1))
def sixF (cl : Cl) (vs : List IV) (S : IS) : Option Res := match vs with
 | [.str s, .fn g caps, .bool b] => match sixO (fun q x => ob (cl (.fn g) (.int .i32 x :: caps) (S.new (.iter s q))) (ansB (below S.next))) s b (s.size + 1) 0 with
   | none => none
   | some i => some ⟨.int .i64 i, S, below S.next, 0⟩
 | _ => none
def sixK (clP : ClP) (R : Type) (vs : List IV) (S : IS) (kk : Res -> Option R) : Option R := match vs with
 | [.str s, .fn g caps, .bool b] => match sixO (fun q x => clP Bool (.fn g) (.int .i32 x :: caps) (S.new (.iter s q)) (ansB (below S.next))) s b (s.size + 1) 0 with
   | none => none
   | some i => kk ⟨.int .i64 i, S, below S.next, 0⟩
 | _ => none
theorem six_eq (cl : Cl) (clP : ClP) (h : ∀ R, ClEq cl (clP R)) (R : Type) (vs : List IV) (S : IS) (kk : Res -> Option R) : sixK clP R vs S kk = ob (sixF cl vs S) kk := by
 unfold sixK sixF
 split
 · rename_i s g caps b
   simp only [h Bool _ _ _ _]
   cases sixO (fun q x => ob (cl (.fn g) (.int .i32 x :: caps) (S.new (.iter s q))) (ansB (below S.next))) s b (s.size + 1) 0 <;> rfl
 · rfl
def sixHx : Hx := ⟨sixF, sixK, six_eq⟩
theorem ql8 {cl : Cl} {vs : List IV} {S : IS} {r : Res} (h : sixF cl vs S = some r) : ∃ s g caps b i, vs = [.str s, .fn g caps, .bool b] /\ sixO (fun q x => ob (cl (.fn g) (.int .i32 x :: caps) (S.new (.iter s q))) (ansB (below S.next))) s b (s.size + 1) 0 = some i /\ r = ⟨.int .i64 i, S, below S.next, 0⟩ := by
 unfold sixF at h
 split at h
 · rename_i s g caps b
   split at h <;> cases h
   rename_i i hi
   exact ⟨_, _, _, _, _, rfl, hi, rfl⟩
 · cases h
def nmS (mr mw : Nat) : Nat -> Option Nm := fun j => cond (Nat.beq j 2) (some ⟨[1, 2, 10], [], [], [], [], mr, mw, true⟩) none
theorem mB_S (mr mw B : Nat) : mB (nmS mr mw) B = B := rfl
def frS (g : Nat) (caps : List IV) (b : Bool) (id : Nat) : PT IV := ((PT.leaf.set (.fn g caps) 1).set (.bool b) 2).set (.ptr id 0) 10
def clT (test : Tgt -> List IV -> IS -> Bool) (c : Res) : Cl := fun t vs S => cond (test t vs S) (some c) none
structure SixFacts (P : Program) (tt : Nat -> Option TI) (fi : FI) (A B L C : Code) : Prop where
 body : fi.body = .seq A (.seq (.seq B (.block 0 (.loop L))) C)
 three : Nat.ble 3 fi.nt = true
 head : ∀ mr mw, okC (nmS mr mw) (fun k => Nat.beq k 2) (fun k => Nat.beq k 2) L (some 2) = true
 ab : ∀ (R : Type) (clK : ClK R) (B0 mr mw lf : Nat) (s : ByteArray) (g : Nat) (caps : List IV) (b : Bool) (S : IS) (kk : _ -> Option R), qak P tt (nmS mr mw) B0 fi.nt clK lf none (.seq A B) (argGo [.str s, .fn g caps, .bool b] 0 .leaf) S [] (fun r => kk (tup [1, 2, 10] r)) =
   kk (.normal, [.fn g caps, .bool b, .ptr S.next 0], S.new (.iter s 0), [], (mb B0 0).lor (mb B0 0), (mb B0 0).lor (mb B0 0))
 l : ∀ (R : Type) (B0 mr mw lf : Nat) (g : Nat) (caps : List IV) (b a : Bool) (id rd : Nat) (S S' : IS) (test : Tgt -> List IV -> IS -> Bool) (kk : _ -> Option R), qak P tt (nmS mr mw) B0 fi.nt (fun t vs S kk => cond (test t vs S) (kk ⟨.bool a, S', rd, 0⟩) none) lf none L (frS g caps b id) S [] (fun r => kk (tup [1, 2, 6, 10] r)) =
   match S.heap.get id with
   | some (.iter s p) => cond (Nat.blt p s.size)
     (cond (test (.fn g) (.int .i32 (Int.ofNat (Utf8.decode s p).1) :: caps) (S.set id (.iter s (p + (Utf8.decode s p).2))))
       (cond (decide (a = b))
         (kk (.ret, [.fn g caps, .bool b, .int .i64 (Int.ofNat p), .ptr id 0], S', [], (mb B0 0).lor (Nat.lor 0 ((mb B0 0).lor ((mb B0 (Nat.lor 0 (Nat.lor 0 (rd.lor 0)))).lor ((mb B0 0).lor 0)))),
           (mb B0 (Nat.lor 0 ((Nat.pow 2 id).lor 0))).lor (Nat.lor 0 ((mb B0 0).lor ((mb B0 0).lor ((mb B0 0).lor 0))))))
         (kk (.normal, [.fn g caps, .bool b, .unk, .ptr id 0], S', [], (mb B0 0).lor (Nat.lor 0 ((mb B0 0).lor ((mb B0 (Nat.lor 0 (Nat.lor 0 (rd.lor 0)))).lor 0))),
           (mb B0 (Nat.lor 0 ((Nat.pow 2 id).lor 0))).lor (Nat.lor 0 ((mb B0 0).lor ((mb B0 0).lor 0))))))
       none)
     (kk (.exit 0, [.fn g caps, .bool b, .unk, .ptr id 0], S, [], (mb B0 ((Nat.pow 2 id).lor 0)).lor 0, (mb B0 0).lor 0))
   | _ => none
 e : ∀ (R : Type) (clK : ClK R) (B0 mr mw lf : Nat) (fr : PT IV) (S : IS) (kk : CRes -> Option R), qak P tt (nmS mr mw) B0 fi.nt clK lf none C fr S [] kk = kk ⟨.ret, fr.set (.int .i64 (-1)) 6, S, [], (mb B0 0).lor 0, (mb B0 0).lor 0⟩
 res : fi.res = [.tmp 6]
 nt6 : Nat.blt 6 fi.nt = true
 lm : ∀ mr mw, loopM (nmS mr mw) L = some (mr, mw)
theorem PT.one_set {α : Type u} (x y : α) : ∀ (f n : Nat), n <= f -> (PT.one x f n).set y n = PT.one y f n
 | 0, n, h => by
   obtain rfl : n = 0 := by omega
   rfl
 | f + 1, n, h => by
   by_cases hn : n = 0
   · subst hn; rfl
   · by_cases h2 : n % 2 = 1
     · simp only [PT.one, beq_f hn, cond_false, beq_t h2, cond_true, PT.set]
       rw [PT.one_set x y f _ (by omega)]
     · simp only [PT.one, beq_f hn, cond_false, beq_f h2, PT.set]
       rw [PT.one_set x y f _ (by omega)]
theorem PT.set_set {α : Type u} (x y : α) : ∀ (t : PT α) (n : Nat), (t.set x n).set y n = t.set y n
 | .leaf, n => PT.one_set x y n n (Nat.le_refl _)
 | .node v l r, n => by
   by_cases hn : n = 0
   · subst hn; rfl
   · by_cases h2 : n % 2 = 1
     · simp only [PT.set, beq_f hn, cond_false, beq_t h2, cond_true]
       rw [PT.set_set x y l]
     · simp only [PT.set, beq_f hn, cond_false, beq_f h2]
       rw [PT.set_set x y r]
theorem IS.new_set (S : IS) (o o' : IObj) : (S.new o).set S.next o' = S.new o' := by
 unfold IS.new IS.set
 simp only [PT.set_set]
theorem IS.new_get (S : IS) (o : IObj) : (S.new o).heap.get S.next = some o := by
 unfold IS.new
 simp only [PT.get_set, if_true]
theorem qq1 {a m : Nat} : subm a m = true ↔ ∀ j, a.testBit j = true -> m.testBit j = true := by
 constructor
 · intro h j hj; exact qpo (T := fun j => m.testBit j = true) h (fun j hj => hj) j hj
 · intro h
   unfold subm
   have : a ||| m = m := Nat.eq_of_testBit_eq fun j => by
     rw [Nat.testBit_or]
     cases ha : a.testBit j with
     | false => rfl
     | true => rw [h j ha]; rfl
   rw [this]; exact Nat.beq_refl m
theorem quw (n j : Nat) : (below n).testBit j = decide (j < n) := by unfold below; exact Nat.testBit_two_pow_sub_one ..
theorem qqr {P : Program} {tt : Nat -> Option TI} {fi : FI} {f : Nat} {nm : Nat -> Option Nm} {lf : Nat} {cl : Cl} {vs : List IV} {S S1 : IS} {fr : PT IV} {e : IEx} {rd wr : Nat} {k : IntKind} {i : Int} {t : Nat} (hz : frzF nm = false) (hm : P.follows .mixedOrders = true) (htt : TT P tt) (hfi : FIok P f fi) (hcl : ClOK P cl) (hfr : ClFr cl)
   (hb : Nat.ble vs.length fi.nt = true) (hr : icode P tt nm S.next fi.nt cl lf none fi.body (argGo vs 0 .leaf) S [] = some ⟨e, fr, S1, [], rd, wr⟩) (hw : wr % 2 ^ S.next = 0) (he : e.leaves = true) (hres : fi.res = [.tmp t]) (hnt : Nat.blt t fi.nt = true) (hs : slot fr t = .int k i)
   {T : TW} {E : Env} {us : List Value} (p : Pre T E S) (hrd : tin T.r (below S.next)) (hv : VRs E vs us) : qag P f /\ CallsIn Fence.wide 0 P f us.toArray E.w (RetE T E S ⟨.int k i, S, below S.next, 0⟩) := by
 refine qvi (fi := fi) (r := ⟨.int k i, S, (rd ||| 0) % 2 ^ S.next, 0⟩) hz hm htt hfi hcl hfr hb hr he ?_ p (q0q hrd) (fun j hj => by simp at hj) hv
 have e1 : qdf ([] : List Nat) S1 = some (S1, 0) := rfl
 simp only [qcc, e1, hres, ires, hnt, cond_true, hs]
 simp only [tupI, igc, low2, low0, Nat.or_zero, hw, Nat.beq_refl, Bool.and_self, cond_true]
variable {P : Program} {tt : Nat -> Option TI} {fi : FI} {A B L C : Code}
theorem q4p (F : SixFacts P tt fi A B L C) {cl : Cl} (hcalm : Calm cl) {s : ByteArray} {b : Bool} {g : Nat} {caps : List IV} {S : IS} {i : Int} {lf : Nat} : ∀ (fuel p : Nat) (fr : PT IV), (slot fr 1 = .fn g caps /\ slot fr 2 = .bool b /\ slot fr 10 = .ptr S.next 0) ->
   sixO (fun q x => ob (cl (.fn g) (.int .i32 x :: caps) (S.new (.iter s q))) (ansB (below S.next))) s b fuel p = some i ->
   ∃ r, qbc (icode P tt (nmS (below (S.next + 1)) (2 ^ S.next)) S.next fi.nt cl lf none L) (below (S.next + 1)) (2 ^ S.next) fuel fr (S.new (.iter s p)) [] = some r /\ r.ds = [] /\ r.rd = below (S.next + 1) /\ r.wr = 2 ^ S.next /\ ((r.e = .ret /\ slot r.fr 6 = .int .i64 i) \/ (r.e = .exit 0 /\ i = -1)) := by
 intro fuel
 induction fuel with
 | zero => intro p fr hs hi; cases hi
 | succ n ih =>
   intro p fr hs hi
   have e1 := fun cl => qit (P := P) (tt := tt) (B := S.next) (nt := fi.nt) (lf := lf) (cl := cl) (h := 2) (m := ⟨[1, 2, 10], [], [], [], [], below (S.next + 1), 2 ^ S.next, true⟩) rfl rfl (fr := fr) (fr' := frS g caps b S.next) (by
     intro t ht
     simp only [List.mem_cons, List.not_mem_nil, or_false] at ht
     rcases ht with rfl | rfl | rfl
     · exact hs.1
     · exact hs.2.1
     · exact hs.2.2) (c := L) (S := S.new (.iter s p)) (ds := []) (F.head _ _)
   have hb1 : ∀ x, subm x (below S.next) = true -> subm (mb S.next x) (below (S.next + 1)) = true := fun x hx => qnk (by
     rw [qq1] at hx ⊢
     intro j hj
     have := hx j hj
     rw [quw] at this ⊢
     simp only [decide_eq_true_eq] at this ⊢
     omega)
   have hb2 : subm (mb S.next (2 ^ S.next)) (2 ^ S.next) = true := qnk (q31 _)
   have hb3 : subm (mb S.next (2 ^ S.next)) (below (S.next + 1)) = true := qnk (by
     rw [qq1]
     intro j hj
     rw [Nat.testBit_two_pow] at hj
     rw [quw]
     simp only [decide_eq_true_eq] at hj ⊢
     omega)
   have hpw : Nat.pow 2 S.next = 2 ^ S.next := rfl
   unfold sixO at hi
   cases hlt : Nat.blt p s.size with
   | false =>
     rw [hlt, cond_false] at hi
     cases hi
     have e2 := F.l (IEx × List IV × IS × List Nat × Nat × Nat) S.next (below (S.next + 1)) (2 ^ S.next) lf g caps b false S.next 0 (S.new (.iter s p)) S (fun _ _ _ => false) some
     rw [IS.new_get] at e2
     simp only [hlt, cond_false, qj4, qh4, qu6] at e2
     have ec : (fun (t : Tgt) (vs : List IV) (S : IS) (kk : Res -> Option (IEx × List IV × IS × List Nat × Nat × Nat)) => (none : Option (IEx × List IV × IS × List Nat × Nat × Nat))) = fun t vs S kk => ob ((fun _ _ _ => none : Cl) t vs S) kk := rfl
     rw [ec] at e2
     obtain ⟨r, hr, ht⟩ := qj8 e2
     have hr := qm1 (cl' := cl) (fun t vs S r h => by cases h) _ hr
     simp only [tup, Prod.mk.injEq] at ht
     obtain ⟨t1, t2, t3, t4, t5, t6⟩ := ht
     refine ⟨⟨.exit 0, r.fr, S.new (.iter s p), [], below (S.next + 1), 2 ^ S.next⟩, ?_, rfl, rfl, rfl, .inr ⟨rfl, rfl⟩⟩
     unfold qbc
     rw [e1 cl]
     have hr' : icode P tt (nmS (below (S.next + 1)) (2 ^ S.next)) S.next fi.nt cl lf none L (frS g caps b S.next) (S.new (.iter s p)) [] = some r := hr
     simp only [hr', t5, t6, hpw, hb3, qtj, Bool.and_self, cond_true, t1, t3, t4]
   | true =>
     rw [hlt, cond_true] at hi
     cases hc : cl (.fn g) (.int .i32 (Int.ofNat (Utf8.decode s p).1) :: caps) (S.new (.iter s (p + (Utf8.decode s p).2))) with
     | none => rw [hc] at hi; cases hi
     | some r0 =>
     rw [hc] at hi
     simp only [ob] at hi
     obtain ⟨v0, S0', rd0, wr0⟩ := r0
     cases v0 <;> simp only [ansB] at hi <;> try (cases hi; done)
     rename_i a
     cases hmk : (Nat.beq wr0 0 && subm rd0 (below S.next)) with
     | false => rw [hmk] at hi; cases hi
     | true =>
     rw [hmk] at hi
     simp only [Bool.and_eq_true] at hmk
     have hw0 : wr0 = 0 := Nat.eq_of_beq_eq_true hmk.1
     subst hw0
     have hS : S0' = S.new (.iter s (p + (Utf8.decode s p).2)) := hcalm _ _ _ _ hc rfl rfl
     subst hS
     simp only [cond_true] at hi
     have hsm := hb1 _ hmk.2
     let c0 : Res := ⟨.bool a, S.new (.iter s (p + (Utf8.decode s p).2)), rd0, 0⟩
     let test : Tgt -> List IV -> IS -> Bool := fun t vs S => @decide (cl t vs S = some c0) (Classical.propDecidable _)
     have hle : ClLe (clT test c0) cl := fun t vs S r h => by
       unfold clT at h
       cases ht : test t vs S with
       | false => rw [ht] at h; cases h
       | true =>
         rw [ht] at h; cases h
         exact @of_decide_eq_true _ (Classical.propDecidable _) ht
     have e2 := F.l (IEx × List IV × IS × List Nat × Nat × Nat) S.next (below (S.next + 1)) (2 ^ S.next) lf g caps b a S.next rd0 (S.new (.iter s p)) (S.new (.iter s (p + (Utf8.decode s p).2))) test some
     rw [IS.new_get] at e2
     have htest : test (.fn g) (.int .i32 (Int.ofNat (Utf8.decode s p).1) :: caps) ((S.new (.iter s p)).set S.next (.iter s (p + (Utf8.decode s p).2))) = true := by
       rw [IS.new_set]
       exact @decide_eq_true _ (Classical.propDecidable _) hc
     simp only [hlt, htest, cond_true, qj4, qh4, qu6] at e2
     cases hab : decide (a = b) with
     | true =>
       rw [hab, cond_true] at e2 hi
       cases hi
       have ec : (fun (t : Tgt) (vs : List IV) (S : IS) (kk : Res -> Option (IEx × List IV × IS × List Nat × Nat × Nat)) => cond (test t vs S) (kk c0) none) = fun t vs S kk => ob (clT test c0 t vs S) kk := by
         funext t vs S kk
         unfold clT
         cases test t vs S <;> rfl
       rw [ec] at e2
       obtain ⟨r, hr, ht⟩ := qj8 e2
       have hr := qm1 hle _ hr
       simp only [tup, Prod.mk.injEq, List.map_cons, List.cons.injEq] at ht
       obtain ⟨t1, t2, t3, t4, t5, t6⟩ := ht
       refine ⟨⟨.ret, r.fr, S.new (.iter s (p + (Utf8.decode s p).2)), [], below (S.next + 1), 2 ^ S.next⟩, ?_, rfl, rfl, rfl, .inl ⟨rfl, t2.2.2.1⟩⟩
       unfold qbc
       rw [e1 cl]
       have hr' : icode P tt (nmS (below (S.next + 1)) (2 ^ S.next)) S.next fi.nt cl lf none L (frS g caps b S.next) (S.new (.iter s p)) [] = some r := hr
       simp only [hr', t5, t6, hpw, hsm, hb2, Bool.and_self, cond_true, t1, t3, t4]
     | false =>
       rw [hab, cond_false] at e2 hi
       have ec : (fun (t : Tgt) (vs : List IV) (S : IS) (kk : Res -> Option (IEx × List IV × IS × List Nat × Nat × Nat)) => cond (test t vs S) (kk c0) none) = fun t vs S kk => ob (clT test c0 t vs S) kk := by
         funext t vs S kk
         unfold clT
         cases test t vs S <;> rfl
       rw [ec] at e2
       obtain ⟨r, hr, ht⟩ := qj8 e2
       have hr := qm1 hle _ hr
       simp only [tup, Prod.mk.injEq, List.map_cons, List.cons.injEq] at ht
       obtain ⟨t1, t2, t3, t4, t5, t6⟩ := ht
       obtain ⟨q, q1, q2⟩ := ih (p + (Utf8.decode s p).2) r.fr ⟨t2.1, t2.2.1, t2.2.2.2.1⟩ hi
       refine ⟨q, ?_, q2⟩
       unfold qbc
       rw [e1 cl]
       have hr' : icode P tt (nmS (below (S.next + 1)) (2 ^ S.next)) S.next fi.nt cl lf none L (frS g caps b S.next) (S.new (.iter s p)) [] = some r := hr
       simp only [hr', t5, t6, hpw, hsm, hb2, Bool.and_self, cond_true, t1, t3, t4]
       exact q1
theorem qvd (n : Nat) : mb n (2 ^ n) % 2 ^ n = 0 := by
 unfold mb
 cases Nat.beq n 0
 · exact Nat.mod_self _
 · exact Nat.zero_mod _
theorem six_ok {f : Nat} (F : SixFacts P tt fi A B L C) (hm : P.follows .mixedOrders = true) (htt : TT P tt) (hfi : FIok P f fi) : HxOK P f sixF := by
 refine ⟨fun cl hcl hfr hcalm vs S r h T E us p hrd hwr hv => ?_, fun cl hfr vs S r h => ?_, fun cl hcalm vs S r h _ _ => ?_⟩
 · obtain ⟨s, g, caps, b, i, rfl, hi, rfl⟩ := ql8 h
   obtain ⟨ra, hra, hta⟩ := qj8 (cl := cl) (F.ab (IEx × List IV × IS × List Nat × Nat × Nat) (fun t vs S kk => ob (cl t vs S) kk) S.next (below (S.next + 1)) (2 ^ S.next) (s.size + 1) s g caps b S some)
   obtain ⟨rae, rafr, raS, rads, rard, rawr⟩ := ra
   simp only [tup, Prod.mk.injEq, List.map_cons, List.map_nil, List.cons.injEq, qj4, qh4] at hta
   obtain ⟨rfl, ⟨s1, s2, s3, _⟩, rfl, rfl, rfl, rfl⟩ := hta
   obtain ⟨r, hr, hds, hrd2, hwr2, hcase⟩ := q4p F hcalm (lf := s.size + 1) (s.size + 1) 0 rafr ⟨s1, s2, s3⟩ hi
   obtain ⟨re, rfr, rS, rds, rrd, rwr⟩ := r
   simp only at hds hrd2 hwr2 hcase
   subst hds; subst hrd2; subst hwr2
   simp only [icode] at hra
   cases hA : icode P tt (nmS (below (S.next + 1)) (2 ^ S.next)) S.next fi.nt cl (s.size + 1) none A (argGo [.str s, .fn g caps, .bool b] 0 .leaf) S [] with
   | none => rw [hA] at hra; cases hra
   | some qa =>
   rw [hA] at hra
   simp only at hra
   obtain ⟨qe, qfr, qS, qds, qrd, qwr⟩ := qa
   cases qe <;> simp only at hra <;> try (cases hra; done)
   cases hB : icode P tt (nmS (below (S.next + 1)) (2 ^ S.next)) S.next fi.nt cl (s.size + 1) none B qfr qS qds with
   | none => rw [hB] at hra; cases hra
   | some qb =>
   rw [hB] at hra
   obtain ⟨be, bfr, bS, bds, brd, bwr⟩ := qb
   simp only [CRes.or, Option.some.injEq, CRes.mk.injEq] at hra
   obtain ⟨rfl, rfl, rfl, rfl, h5, h6⟩ := hra
   obtain ⟨z1, z2⟩ : qwr = 0 /\ bwr = 0 := by
     constructor
     · exact Nat.eq_of_testBit_eq fun j => by have := congrArg (fun x => x.testBit j) h6; simp [Nat.testBit_or] at this; simp [this.1]
     · exact Nat.eq_of_testBit_eq fun j => by have := congrArg (fun x => x.testBit j) h6; simp [Nat.testBit_or] at this; simp [this.2]
   subst z1; subst z2
   rcases hcase with ⟨he, hs⟩ | ⟨he, hi2⟩
   · subst he
     refine qqr (vs := [.str s, .fn g caps, .bool b]) (nm := nmS (below (S.next + 1)) (2 ^ S.next)) (lf := s.size + 1) (fr := rfr) (e := .ret) (k := .i64) (i := i) (t := 6) (S1 := rS) (rd := qrd ||| (brd ||| mb S.next (below (S.next + 1)))) (wr := mb S.next (2 ^ S.next)) rfl hm htt hfi hcl hfr F.three ?_ (qvd _) rfl F.res F.nt6 hs p hrd hv
     rw [F.body]
     simp only [icode, hA, hB, F.lm, hr, mbO, mbR, mB_S, CRes.or, Nat.zero_or]
   · subst he; subst hi2
     have hc := runK (F.e CRes (fun t vs S kk => ob (cl t vs S) kk) S.next (below (S.next + 1)) (2 ^ S.next) (s.size + 1) rfr rS some)
     refine qqr (vs := [.str s, .fn g caps, .bool b]) (nm := nmS (below (S.next + 1)) (2 ^ S.next)) (lf := s.size + 1) (fr := rfr.set (.int .i64 (-1)) 6) (e := .ret) (k := .i64) (i := -1) (t := 6) (S1 := rS) (rd := qrd ||| ((brd ||| mb S.next (below (S.next + 1))) ||| 0)) (wr := mb S.next (2 ^ S.next)) rfl hm htt hfi hcl hfr F.three ?_ (qvd _) rfl F.res F.nt6 (by rw [qby, if_pos rfl]) p hrd hv
     rw [F.body]
     simp only [icode, hA, hB, F.lm, hr, mbO, mbR, mB_S, qj4, CRes.or, Nat.zero_or, Nat.beq_refl, cond_true, hc, qh4, Nat.or_zero]
 · obtain ⟨_, _, _, _, _, _, _, rfl⟩ := ql8 h
   exact FrO.same _ rfl
 · obtain ⟨_, _, _, _, _, _, _, rfl⟩ := ql8 h
   rfl
end Go.Jx
end

section
namespace Go.Jx
open Go Go.Sx Go.RowKit
universe u

theorem oL : Int.ofNat 0 = 0 /\ Int.ofNat 1 = 1 /\ Int.ofNat 2 = 2 /\ Int.ofNat 3 = 3 /\ Int.ofNat 4 = 4 /\ Int.ofNat 5 = 5 /\ Int.ofNat 6 = 6 /\ Int.ofNat 7 = 7 /\ Int.ofNat 8 = 8 /\ Int.ofNat 9 = 9 /\ Int.ofNat 10 = 10 /\ Int.ofNat 12 = 12 /\ Int.ofNat 16 = 16 /\ Int.ofNat 20 = 20 /\ Int.ofNat 24 = 24 /\ Int.ofNat 30 = 30 /\ Int.ofNat 31 = 31 /\ Int.ofNat 40 = 40 /\ Int.ofNat 45 = 45 /\ Int.ofNat 48 = 48 /\ Int.ofNat 57 = 57 /\ Int.ofNat 60 = 60 /\ Int.ofNat 64 = 64 /\ Int.ofNat 65 = 65 /\ Int.ofNat 70 = 70 /\ Int.ofNat 90 = 90 /\ Int.ofNat 95 = 95 /\ Int.ofNat 97 = 97 /\ Int.ofNat 100 = 100 /\ Int.ofNat 122 = 122 /\ Int.ofNat 127 = 127 /\ Int.ofNat 128 = 128 /\ Int.ofNat 200 = 200 /\ Int.ofNat 256 = 256 /\ Int.ofNat 400 = 400 /\ Int.ofNat 410 = 410 /\ Int.ofNat 1500 = 1500 /\ Int.ofNat 60000 = 60000 /\ Int.ofNat 60010 = 60010 /\ Int.ofNat 65536 = 65536 /\ Int.ofNat 16777216 = 16777216 /\ Int.ofNat 2147483647 = 2147483647 /\ Int.ofNat 1099511627776 = 1099511627776 :=
 ⟨rfl, rfl, rfl, rfl, rfl, rfl, rfl, rfl, rfl, rfl, rfl, rfl, rfl, rfl, rfl, rfl, rfl, rfl, rfl, rfl, rfl, rfl, rfl, rfl, rfl, rfl, rfl, rfl, rfl, rfl, rfl, rfl, rfl, rfl, rfl, rfl, rfl, rfl, rfl, rfl, rfl, rfl, rfl⟩
theorem qa8 {α : Type} {l : List α} {i : Nat} : jget l (Int.ofNat i) = l[i]? := by unfold jget; rw [if_pos (by simp)]; simp
theorem qus : ∀ c : TC, 1 <= bsz c
 | .int k => by cases k <;> simp [bsz]
 | .bool => by simp [bsz]
 | .str => by simp [bsz]
 | .list _ => by simp [bsz]
 | .two a b => by have := qus a; simp only [bsz]; omega
def LF : Nat := 9223372036854775808
theorem qvn {c : TC} {l : El (.list c)} (h : WfE (.list c) l) : List.length (α := El c) l < LF := by
 have h1 := h.1
 have h2 := qus c
 have : List.length (α := El c) l * 1 <= List.length (α := El c) l * bsz c := Nat.mul_le_mul_left _ h2
 unfold LF
 omega
theorem qh5 {n : Nat} (h : n + 1 < LF) : IntKind.i64.wrap (Int.add (Int.ofNat n) (Int.ofNat 1)) = Int.ofNat (n + 1) := by
 unfold LF at h
 rw [show Int.add (Int.ofNat n) (Int.ofNat 1) = Int.ofNat (n + 1) from rfl]
 exact qbk (by simp; omega)
structure Rnd {α : Type} (l : List α) (i : Nat) (v : α) (rest : List α) : Prop where
 drop : l.drop i = v :: rest
 mem : v ∈ l
 lt : i < l.length
 ilt : iltI (Int.ofNat i) (Int.ofNat l.length) = true
 get : jget l (Int.ofNat i) = some v
 get? : l[i]? = some v
 next : IntKind.i64.wrap (Int.add (Int.ofNat i) (Int.ofNat 1)) = Int.ofNat (i + 1)
 tail : l.drop (i + 1) = rest
 take : l.take (i + 1) = l.take i ++ [v]
theorem qa4 (n : Nat) : iltI (Int.ofNat n) (Int.ofNat n) = false := by rw [qav]; simp
theorem rnd_of {α : Type} {l : List α} {i : Nat} (h : i < l.length) (hl : l.length < LF) : ∃ v rest, Rnd l i v rest := by
 refine ⟨l[i], l.drop (i + 1), List.drop_eq_getElem_cons h, List.getElem_mem h, h, by rw [qav]; simp; omega, ?_, List.getElem?_eq_getElem h, qh5 (by omega), rfl, ?_⟩
 · rw [qa8]; exact List.getElem?_eq_getElem h
 · rw [List.take_succ_eq_append_getElem h]
theorem qn3 {α σ A R : Type} {T : (A -> Option R) -> A -> Option R} (l : List α) (mk : Int -> σ -> A) (I : Nat -> σ -> Prop) (g : List α -> Nat -> σ -> Option R) (hl : l.length < LF)
   (hnil : ∀ K s, I l.length s -> T K (mk (Int.ofNat l.length) s) = g [] l.length s)
   (hcons : ∀ K i v rest s, I i s -> Rnd l i v rest -> (∀ s', I (i + 1) s' -> K (mk (Int.ofNat (i + 1)) s') = g rest (i + 1) s') -> T K (mk (Int.ofNat i) s) = g (v :: rest) i s) :
   ∀ n i s, i <= l.length -> I i s -> l.length - i < n -> rounds T n (mk (Int.ofNat i) s) = g (l.drop i) i s
 | 0, i, s, _, _, h => by omega
 | n + 1, i, s, hi, hI, h => by
   show T (rounds T n) (mk (Int.ofNat i) s) = _
   by_cases e : i = l.length
   · subst e
     rw [hnil _ _ hI, List.drop_length]
   · obtain ⟨v, rest, r⟩ := rnd_of (l := l) (i := i) (by omega) hl
     rw [hcons (rounds T n) i v rest s hI r fun s' hI' => ?_, r.drop]
     rw [qn3 l mk I g hl hnil hcons n (i + 1) s' (by have := r.lt; omega) hI' (by omega), r.tail]
theorem range0 {α σ A R : Type} {T : (A -> Option R) -> A -> Option R} (l : List α) (mk : Int -> σ -> A) (I : Nat -> σ -> Prop) (g : List α -> Nat -> σ -> Option R) (hl : l.length < LF)
   (hnil : ∀ K s, I l.length s -> T K (mk (Int.ofNat l.length) s) = g [] l.length s)
   (hcons : ∀ K i v rest s, I i s -> Rnd l i v rest -> (∀ s', I (i + 1) s' -> K (mk (Int.ofNat (i + 1)) s') = g rest (i + 1) s') -> T K (mk (Int.ofNat i) s) = g (v :: rest) i s)
   (s : σ) (hI : I 0 s) : rounds T LF (mk (Int.ofNat 0) s) = g l 0 s := by
 have := qn3 l mk I g hl hnil hcons LF 0 s (Nat.zero_le _) hI (by omega)
 rwa [List.drop_zero] at this
theorem qfi {α R : Type} {T : (Int -> Option R) -> Int -> Option R} (l : List α) (g : List α -> Nat -> Option R) (hl : l.length < LF)
   (hnil : ∀ K, T K (Int.ofNat l.length) = g [] l.length)
   (hcons : ∀ K i v rest, Rnd l i v rest -> K (Int.ofNat (i + 1)) = g rest (i + 1) -> T K (Int.ofNat i) = g (v :: rest) i) : rounds T LF (Int.ofNat 0) = g l 0 :=
 range0 (σ := Unit) l (fun i _ => i) (fun _ _ => True) (fun rest i _ => g rest i) hl (fun K _ _ => hnil K) (fun K i v rest _ _ r h => hcons K i v rest r (h () trivial)) () trivial
namespace S
def idx {α : Type} (p : α -> Bool) (l : List α) : Int := match l.findIdx? p with
 | some j => Int.ofNat j
 | none => -1
theorem idx_nonneg {α : Type} (p : α -> Bool) (l : List α) : 0 <= idx p l ↔ l.any p = true := by
 unfold idx
 cases h : l.findIdx? p with
 | none =>
   simp only
   rw [List.findIdx?_eq_none_iff] at h
   constructor
   · intro h; omega
   · intro h2
     rw [List.any_eq_true] at h2
     obtain ⟨x, hx, hp⟩ := h2
     rw [h x hx] at hp; cases hp
 | some j =>
   simp only
   obtain ⟨h1, h2, h3⟩ := List.findIdx?_eq_some_iff_getElem.1 h
   constructor
   · intro _
     rw [List.any_eq_true]
     exact ⟨_, List.getElem_mem h1, h2⟩
   · intro _; exact Int.natCast_nonneg _
end S
end Go.Jx
end

section
namespace Go.Jx
open Go Go.Sx Go.RowKit
theorem qbf (a b : Nat) : iltI (Int.ofNat a) (Int.ofNat b) = decide (a < b) := by
 rw [qav]; simp
theorem qgg (a b : Nat) : ieqI (Int.ofNat a) (Int.ofNat b) = decide (a = b) := by
 rw [qa9]
 by_cases h : a = b
 · rw [decide_eq_true h, h]; exact decide_eq_true rfl
 · rw [decide_eq_false h]; exact decide_eq_false fun e => h (Int.ofNat.inj e)
theorem ilt_t {x y : Int} (h : x < y) : iltI x y = true := by rw [qav]; exact decide_eq_true h
theorem ilt_f {x y : Int} (h : ¬ x < y) : iltI x y = false := by rw [qav]; exact decide_eq_false h
theorem ieq_t {x y : Int} (h : x = y) : ieqI x y = true := by rw [qa9]; exact decide_eq_true h
theorem ieq_f {x y : Int} (h : ¬ x = y) : ieqI x y = false := by rw [qa9]; exact decide_eq_false h
theorem qaf (s : ByteArray) : (qaa s).length = s.size := by
 unfold qaa
 rw [List.length_map]
 exact Array.length_toList
theorem qdz {s : ByteArray} {i : Nat} (h : i < s.size) : (qaa s)[i]? = some ((s[i]'h).toNat : Int) := by
 unfold qaa
 rw [List.getElem?_map, List.getElem?_eq_getElem (by simpa using h)]
 rfl
theorem qbv {s : ByteArray} {b : Int} (h : b ∈ qaa s) : 0 <= b /\ b < 256 := by
 unfold qaa at h
 obtain ⟨x, _, rfl⟩ := List.mem_map.1 h
 have := x.toNat_lt
 constructor <;> omega
theorem qbq (s : ByteArray) : strOf (qaa s) = s := by
 obtain ⟨⟨l⟩⟩ := s
 unfold strOf qaa
 congr 2
 simp only [List.map_map]
 conv => rhs; rw [<- List.map_id l]
 refine List.map_congr_left fun x _ => ?_
 simp
theorem qch {l : List Int} (h : ∀ b ∈ l, 0 <= b /\ b < 256) : qaa (strOf l) = l := by
 unfold strOf qaa
 simp only [List.map_map]
 conv => rhs; rw [<- List.map_id l]
 refine List.map_congr_left fun x hx => ?_
 obtain ⟨h1, h2⟩ := h x hx
 simp only [Function.comp, UInt8.toNat_ofNat', id]
 omega
theorem qfp {s t : ByteArray} (h : qaa s = qaa t) : s = t := by rw [<- qbq s, <- qbq t, h]
theorem qjq (s : ByteArray) (a b : Nat) : qaa (s.extract a b) = (qaa s).extract a b := by
 unfold qaa
 rw [ByteArray.data_extract, Array.toList_extract]
 simp [List.extract_eq_take_drop, List.map_take, List.map_drop]
theorem qpm (s : ByteArray) (a b : Nat) (h : s.size <= b) : qaa (s.extract a b) = (qaa s).drop a := by
 rw [qjq, List.extract_eq_take_drop]
 refine List.take_of_length_le ?_
 rw [List.length_drop, qaf]; omega
theorem qb8 (s : ByteArray) (b : Nat) : qaa (s.extract 0 b) = (qaa s).take b := by
 rw [qjq, List.extract_eq_take_drop]; rfl
theorem qvg (s t : ByteArray) : qaa (s ++ t) = qaa s ++ qaa t := by
 unfold qaa
 rw [ByteArray.data_append, Array.toList_append, List.map_append]
theorem qoj (a b : ByteArray) : keqS a b = decide (qaa a = qaa b) := by
 unfold keqS
 by_cases h : a = b
 · rw [decide_eq_true h, decide_eq_true (congrArg qaa h)]
 · rw [decide_eq_false h, decide_eq_false fun e => h (qfp e)]
theorem quy {s : ByteArray} {q : Int -> Bool} (hq : ∀ r, 128 <= r -> q r = true) : ∀ (n i : Nat), s.size - i < n -> sixO (fun _ r => some (q r)) s true n i = some (match ((qaa s).drop i).findIdx? q with | some j => Int.ofNat (i + j) | none => -1)
 | 0, i, h => by omega
 | n + 1, i, h => by
   unfold sixO
   by_cases hlt : i < s.size
   · have hb : Nat.blt i s.size = true := by simpa using hlt
     rw [hb, cond_true]
     simp only
     have hg := qdz hlt
     have hd0 : (qaa s).drop i = ((s[i]'hlt).toNat : Int) :: (qaa s).drop (i + 1) := by
       obtain ⟨h1, h2⟩ := List.getElem?_eq_some_iff.1 hg
       rw [List.drop_eq_getElem_cons h1, h2]
     rw [hd0, List.findIdx?_cons]
     by_cases ha : (s[i]'hlt).toNat < 128
     · rw [decode_ascii s i hlt ha]
       simp only
       have e : q (Int.ofNat (s[i]'hlt).toNat) = q (((s[i]'hlt).toNat : Nat) : Int) := rfl
       rw [e]
       cases hb2 : q (((s[i]'hlt).toNat : Nat) : Int) with
       | true => rfl
       | false =>
         simp only [Bool.false_eq_true, decide_false, cond_false, if_false]
         rw [quy hq n (i + 1) (by omega)]
         cases List.findIdx? q ((qaa s).drop (i + 1)) with
         | none => rfl
         | some j => simp only [Option.map_some]; exact congrArg (fun n => some (Int.ofNat n)) (by omega)
     · have hd := decode_high s i hlt (by omega)
       have e : q (Int.ofNat (Utf8.decode s i).1) = true := hq _ (by have := hd.1; show (128 : Int) <= ((Utf8.decode s i).1 : Int); omega)
       rw [e, hq _ (by omega)]
       rfl
   · have hb : Nat.blt i s.size = false := by
       cases hbb : Nat.blt i s.size with
       | false => rfl
       | true => exact absurd (by simpa using hbb) hlt
     rw [hb, cond_false, List.drop_eq_nil_of_le (by rw [qaf]; omega)]
     rfl
end Go.Jx
end

section
namespace Go.Proofs.YtanenikkloolfaaGreatDoor
open Go Go.RowKit
set_option maxHeartbeats 1000000 in
set_option maxRecDepth 100000 in
theorem q1h (s : ByteArray) (c : UInt8) (w : World) :
   Calls Tryz.prog 54 #[.string s, .string ⟨#[c]⟩] w fun e w' => e = .returned (.int .i64 (Lib.countByte s.data.toList c)) /\ w' = w := by
 go_enter Tryz.func54, Tryz.ntmps54
 go_wp2
 rw [run_callFunc_extern Tryz.func81 (by kernel_rfl) (by kernel_rfl) (by kernel_rfl) (e := Extern.BytealgCount.count) (by kernel_rfl), Lib.run_countString]
 simp only [Result.andThen]
 rw [Oper.upon_value]
 go_wp2
 go_ret
 exact ⟨rfl, rfl⟩
set_option maxHeartbeats 1000000 in
set_option maxRecDepth 100000 in
theorem q2c (s : ByteArray) (c : Int) (w : World) :
   Calls Tryz.prog 128 #[.string s, .int .u8 c] w fun e w' => e = .returned (.int .i64 (Lib.indexByte s.data.toList c.toNat.toUInt8)) /\ w' = w := by
 go_enter Tryz.func128, Tryz.ntmps128
 go_wp2
 rw [run_callFunc_extern Tryz.func138 (by kernel_rfl) (by kernel_rfl) (by kernel_rfl) (e := Extern.BytealgIndexByte.indexByte) (by kernel_rfl), Lib.run_indexByteString]
 simp only [Result.andThen]
 rw [Oper.upon_value]
 go_wp2
 go_ret
 exact ⟨rfl, rfl⟩
set_option maxHeartbeats 1000000 in
set_option maxRecDepth 100000 in
theorem cc_used (b : Nat) (w : World) (h0 : w.cell? ⟨b, 0, none⟩ = some (.pointer (some ⟨b, 0, none⟩))) :
   Calls Tryz.prog 83 #[.pointer (some ⟨b, 0, none⟩)] w fun e w' => e = .returned (.tuple #[]) /\ w' = w := by
 obtain ⟨j, hj, _⟩ := ty93.inf
 go_enter Tryz.func83, Tryz.ntmps83
 go_wp2
 rw [Lib.run_neq_ptr_same w _ Tryz.underlying90 hj]
 go_wp2
 go_end0
 exact ⟨rfl, rfl⟩
set_option maxHeartbeats 1000000 in
set_option maxRecDepth 100000 in
theorem q3k (b : Nat) (w : World) (h0 : w.cell? ⟨b, 0, none⟩ = some (.pointer none)) (hsh : w.shape? b = some (93, 2)) (hfz : w.frozen? ⟨b, 0, none⟩ = false) :
   Calls Tryz.prog 83 #[.pointer (some ⟨b, 0, none⟩)] w fun e w' => e = .returned (.tuple #[]) /\ w' = w.setCell ⟨b, 0, none⟩ (.pointer (some ⟨b, 0, none⟩)) := by
 obtain ⟨j, hj, hjs, _⟩ := ty93.inf
 go_enter Tryz.func83, Tryz.ntmps83
 go_wp2
 rw [Lib.run_to_unsafe w ⟨b, 0, none⟩ Tryz.underlying90 Tryz.underlying147 hj (by rw [hjs]; decide) hsh (Nat.zero_lt_succ 1)]
 simp only [Result.andThen]
 rw [Oper.upon_value]
 go_wp2
 rw [run_callFunc_extern Tryz.func111 (by kernel_rfl) (by kernel_rfl) (by kernel_rfl) (e := Extern.AbiNoEscape.same) (by kernel_rfl)]
 rw [Lib.run_noEscape]
 simp only [Result.andThen]
 rw [Oper.upon_value]
 go_wp2
 rw [Lib.run_from_unsafe w ⟨b, 0, none⟩ Tryz.underlying147 Tryz.underlying90 hj hsh (by kernel_rfl)]
 simp only [Result.andThen]
 rw [Oper.upon_value]
 go_wp2
 go_end0
 exact ⟨rfl, rfl⟩
end Go.Proofs.YtanenikkloolfaaGreatDoor
end

section
namespace Go.Proofs.YtanenikkloolfaaGreatDoor
open Go Go.RowKit
set_option maxHeartbeats 2000000 in
set_option maxRecDepth 100000 in
theorem bs_nil (b : Nat) (p : Value) (w : World) (hbk : w.heap[b]? = some (.cells #[p, .slice none 0 0] 93 (0, 0))) :
   Calls Tryz.prog 57 #[.pointer (some ⟨b, 0, none⟩)] w fun e w' => e = .returned (.string ⟨#[]⟩) /\ w' = w.drew := by
 have hUS : ∀ (W : World) (q : Option Addr), (Builtin.unsafeString_ #[134, 3] 9 #[.pointer q, .int .i64 0]).run Tryz.prog W = .ok (.string .empty) W := fun W q => Lib.run_unsafeString_none W _ _ _ q
 have c1 : w.drew.cell? ⟨b, 1, none⟩ = some (.slice none 0 0) := by
   have : w.drew.heap[b]? = some (.cells #[p, .slice none 0 0] 93 (0, 0)) := hbk
   rw [Lib.cell_of_heap this]; rfl
 have hSD : (Builtin.unsafeSliceData_ #[91] 134 #[.slice none 0 0]).run Tryz.prog w.drew = .ok (.pointer none) w.drew := rfl
 have mixed : Tryz.prog.follows Departure.mixedOrders = true := mixed
 go_enter Tryz.func57, Tryz.ntmps57
 go_wp2
 go_region_o
 all_goals (go_wp2; go_ret; exact ⟨rfl, rfl⟩)
end Go.Proofs.YtanenikkloolfaaGreatDoor
end

section
namespace Go.Proofs.YtanenikkloolfaaGreatDoor
open Go Go.RowKit
set_option maxHeartbeats 2000000 in
set_option maxRecDepth 100000 in
theorem q4e (b g : Nat) (p : Value) (cur : Array Value) (w : World) (hbk : w.heap[b]? = some (.cells #[p, .slice (some ⟨g, 0, none⟩) 0 0] 93 (0, 0))) (hg : w.heap[g]? = some (.cells cur 5 (0, 0))) :
   Calls Tryz.prog 57 #[.pointer (some ⟨b, 0, none⟩)] w fun e w' => e = .returned (.string ⟨#[]⟩) /\ w' = w.drew.alloc (.view ⟨g, 0, none⟩ 5) := by
 have hUS : ∀ (W : World) (q : Option Addr), (Builtin.unsafeString_ #[134, 3] 9 #[.pointer q, .int .i64 0]).run Tryz.prog W = .ok (.string .empty) W := fun W q => Lib.run_unsafeString_none W _ _ _ q
 have hlt : b < w.heap.size := by
   rcases Nat.lt_or_ge b w.heap.size with h' | h'
   · exact h'
   · simp [Array.getElem?_eq_none h'] at hbk
 have c1 : w.drew.cell? ⟨b, 1, none⟩ = some (.slice (some ⟨g, 0, none⟩) 0 0) := by
   have : w.drew.heap[b]? = some (.cells #[p, .slice (some ⟨g, 0, none⟩) 0 0] 93 (0, 0)) := hbk
   rw [Lib.cell_of_heap this]; rfl
 have hSD : (Builtin.unsafeSliceData_ #[91] 134 #[.slice (some ⟨g, 0, none⟩) 0 0]).run Tryz.prog w.drew = .ok (.pointer (some ⟨w.drew.heap.size, 0, none⟩)) (w.drew.alloc (.view ⟨g, 0, none⟩ 5)) :=
   Lib.run_unsafeSliceData_zero w.drew _ _ 5 Tryz.underlying134 ⟨g, 0, none⟩ 0 (5, cur.size) (by have hg' : w.drew.heap[g]? = some (.cells cur 5 (0, 0)) := hg; simp [World.shape?, hg'])
 have c2 : (w.drew.alloc (.view ⟨g, 0, none⟩ 5)).cell? ⟨b, 1, none⟩ = some (.slice (some ⟨g, 0, none⟩) 0 0) := by
   have : (w.drew.alloc (.view ⟨g, 0, none⟩ 5)).heap[b]? = _ := (Lib.alloc_old w.drew _ b hlt).trans hbk
   rw [Lib.cell_of_heap this]; rfl
 have c3 : (w.alloc (.view ⟨g, 0, none⟩ 5)).drew.cell? ⟨b, 1, none⟩ = some (.slice (some ⟨g, 0, none⟩) 0 0) := c2
 have c0 : w.cell? ⟨b, 1, none⟩ = some (.slice (some ⟨g, 0, none⟩) 0 0) := c1
 have mixed : Tryz.prog.follows Departure.mixedOrders = true := mixed
 go_enter Tryz.func57, Tryz.ntmps57
 go_wp2
 go_region_o
 all_goals (go_wp2; go_ret; exact ⟨rfl, rfl⟩)
end Go.Proofs.YtanenikkloolfaaGreatDoor
end

section
namespace Go.Proofs.YtanenikkloolfaaGreatDoor
open Go Go.RowKit
set_option maxHeartbeats 2000000 in
set_option maxRecDepth 100000 in
theorem bs_room (b g cap : Nat) (p : Value) (w : World) (hc0 : cap ≠ 0) (hbk : w.heap[b]? = some (.cells #[p, .slice (some ⟨g, 0, none⟩) 0 cap] 93 (0, 0))) :
   Calls Tryz.prog 57 #[.pointer (some ⟨b, 0, none⟩)] w fun e w' => e = .returned (.string ⟨#[]⟩) /\ w' = w.drew := by
 have hUS : ∀ (W : World) (q : Option Addr), (Builtin.unsafeString_ #[134, 3] 9 #[.pointer q, .int .i64 0]).run Tryz.prog W = .ok (.string .empty) W := fun W q => Lib.run_unsafeString_none W _ _ _ q
 have c1 : w.drew.cell? ⟨b, 1, none⟩ = some (.slice (some ⟨g, 0, none⟩) 0 cap) := by
   have : w.drew.heap[b]? = some (.cells #[p, .slice (some ⟨g, 0, none⟩) 0 cap] 93 (0, 0)) := hbk
   rw [Lib.cell_of_heap this]; rfl
 have hSD : (Builtin.unsafeSliceData_ #[91] 134 #[.slice (some ⟨g, 0, none⟩) 0 cap]).run Tryz.prog w.drew = .ok (.pointer (some ⟨g, 0, none⟩)) w.drew :=
   Lib.run_unsafeSliceData_row _ _ _ _ _ _ hc0
 clear hc0
 have mixed : Tryz.prog.follows Departure.mixedOrders = true := mixed
 go_enter Tryz.func57, Tryz.ntmps57
 go_wp2
 go_region_o
 all_goals (go_wp2; go_ret; exact ⟨rfl, rfl⟩)
end Go.Proofs.YtanenikkloolfaaGreatDoor
end

section
namespace Go.Proofs.YtanenikkloolfaaGreatDoor
open Go Go.RowKit
set_option maxHeartbeats 2000000 in
set_option maxRecDepth 100000 in
theorem q1l (b g cap : Nat) (p : Value) (cur : Array Value) (l : List UInt8) (w : World) (h0 : l ≠ []) (hcap : l.length <= cap) (h63 : cap < 9223372036854775808) (hcs : cap <= cur.size) (hbk : w.heap[b]? = some (.cells #[p, .slice (some ⟨g, 0, none⟩) l.length cap] 93 (0, 0))) (hg : w.heap[g]? = some (.cells cur 5 (0, 0)))
   (hcur : ∀ (j : Nat) (x : UInt8), l[j]? = some x -> cur[j]? = some (Value.int .u8 x.toNat)) :
   Calls Tryz.prog 57 #[.pointer (some ⟨b, 0, none⟩)] w fun e w' => e = .returned (.string ⟨l.toArray⟩) /\ w' = w.drew.freeze ⟨g, 0, none⟩ l.length := by
 have hl0 : l.length ≠ 0 := by simpa using h0
 have c1 : w.drew.cell? ⟨b, 1, none⟩ = some (.slice (some ⟨g, 0, none⟩) l.length cap) := by
   have : w.drew.heap[b]? = some (.cells #[p, .slice (some ⟨g, 0, none⟩) l.length cap] 93 (0, 0)) := hbk
   rw [Lib.cell_of_heap this]; rfl
 have hSD : (Builtin.unsafeSliceData_ #[91] 134 #[.slice (some ⟨g, 0, none⟩) l.length cap]).run Tryz.prog w.drew = .ok (.pointer (some ⟨g, 0, none⟩)) w.drew :=
   Lib.run_unsafeSliceData_row _ _ _ _ _ _ (by omega)
 have hUS : (Builtin.unsafeString_ #[134, 3] 9 #[.pointer (some ⟨g, 0, none⟩), .int .i64 l.length]).run Tryz.prog w.drew = .ok (.string ⟨l.toArray⟩) (w.drew.freeze ⟨g, 0, none⟩ l.length) := by
   refine Lib.run_unsafeString_row w.drew 134 3 9 5 Tryz.underlying134 (by kernel_rfl) g cur.size (by have hg' : w.drew.heap[g]? = some (.cells cur 5 (0, 0)) := hg; simp [World.shape?, hg']) l h0 (by omega) (by omega) ?_
   intro j x hx
   have hg' : w.drew.heap[g]? = some (.cells cur 5 (0, 0)) := hg
   have e : (⟨g, 0, none⟩ : Addr).add j = ⟨g, j, none⟩ := by simp [Addr.add]; omega
   rw [e, Lib.cell_of_heap hg']
   exact hcur j x hx
 clear hcap h63 hcs hcur hl0
 have mixed : Tryz.prog.follows Departure.mixedOrders = true := mixed
 go_enter Tryz.func57, Tryz.ntmps57
 go_wp2
 go_region_o
 all_goals (go_wp2; go_ret; exact ⟨rfl, rfl⟩)
end Go.Proofs.YtanenikkloolfaaGreatDoor
end

noncomputable section
set_option maxRecDepth 100000
namespace Go.Proofs.YtanenikkloolfaaGreatDoor
open Go Go.Sx Go.RowKit Go.Jx
theorem qlm {f : Nat} {s : Sm} (hC : qag Tryz.prog f) (hr : ∀ y, resO s.rts y = [])
   (h : ∀ (M : List Nat) (w : World) (x : ElA s.pts) (us : List Value) (y : ElR s.rts), s.f x = some y -> VRs (EM M w) (argV s.pts x) us -> ∃ v, VR (EM M w) (tupI (resV s.rts 0 y)) v /\ Calls Tryz.prog f us.toArray w fun e w' => e = .returned v /\ w' = w) : Con Tryz.prog f s :=
 ⟨hC, fun M w x us y hy hM hg hv => by
   obtain ⟨v, h1, h2⟩ := h M w x us y hy hv
   refine (callsIn_wide.2 h2).mono fun e w' hR => ?_
   obtain ⟨rfl, rfl⟩ := hR
   rw [hr y]
   exact ⟨v, EM M w', rfl, rfl, h1, Post.refl (preM hM hg), Fresh.refl _ _⟩⟩
namespace S
def countB (l : List Int) (c : Int) : Int := Int.ofNat (l.count c)
def indexB (l : List Int) (c : Int) : Int := Go.Jx.S.idx (fun x => decide (x = c)) l
end S
theorem qm6 {a b : UInt8} (h : ((a.toNat : Nat) : Int) = ((b.toNat : Nat) : Int)) : a = b := UInt8.toNat_inj.1 (by omega)
theorem qy0 (l : List UInt8) (c : UInt8) : (l.map fun x => ((x.toNat : Nat) : Int)).count ((c.toNat : Nat) : Int) = l.count c := by
 induction l with
 | nil => rfl
 | cons x l ih =>
   rw [List.map_cons, List.count_cons, List.count_cons, ih]
   by_cases h : x = c
   · subst h; simp
   · have h2 : ¬ ((x.toNat : Nat) : Int) = ((c.toNat : Nat) : Int) := fun e => h (qm6 e)
     simp [h, h2]
theorem qyt (l : List UInt8) (c : UInt8) : S.indexB (l.map fun x => ((x.toNat : Nat) : Int)) ((c.toNat : Nat) : Int) = Lib.indexByte l c := by
 unfold S.indexB
 induction l with
 | nil => rfl
 | cons x l ih =>
   unfold Lib.indexByte
   rw [List.map_cons]
   unfold Go.Jx.S.idx at ih ⊢
   rw [List.findIdx?_cons]
   by_cases h : x = c
   · subst h; simp
   · have h2 : ¬ ((x.toNat : Nat) : Int) = ((c.toNat : Nat) : Int) := fun e => h (qm6 e)
     rw [decide_eq_false h2, show (x == c) = false by simp [h]]
     simp only [Bool.false_eq_true, if_false]
     rw [<- ih]
     cases List.findIdx? (fun x => decide (x = ((c.toNat : Nat) : Int))) (l.map fun x => ((x.toNat : Nat) : Int)) with
     | none => rfl
     | some j =>
       simp only [Option.map_some]
       rw [if_neg (by simp <;> omega)]
       show Int.ofNat (j + 1) = Int.ofNat j + 1
       rfl
def qo8 : Sm := ⟨[.str, .str], [(false, .int .i64)], fun x => cond (keqS x.2.1 (S.lit [10])) (some (S.countB (qaa x.1) 10, ())) none⟩
def qju : Sm := ⟨[.str, .int .u8], [(false, .int .i64)], fun x => some (S.indexB (qaa x.1) x.2.1, ())⟩
theorem qnf {E : Env} {n : Int} (h0 : -9223372036854775808 <= n) (h1 : n < 9223372036854775808) : VR E (.int .i64 n) (.int .i64 n) := .int _ _ (qbk ⟨h0, h1⟩)
theorem q03 {E : Env} (s t : ByteArray) {us : List Value} {y : Int × Unit} (hy : cond (keqS t (S.lit [10])) (some (S.countB (qaa s) 10, ())) none = some y) (hv : VRs E [.str s, .str t] us) :
   ∃ v, VR E (.int .i64 y.1) v /\ Calls Tryz.prog 54 us.toArray E.w fun e w' => e = .returned v /\ w' = E.w := by
 cases hk : keqS t (S.lit [10]) with
 | false => rw [hk] at hy; cases hy
 | true =>
   rw [hk] at hy
   cases hy
   have ht : t = S.lit [10] := of_decide_eq_true hk
   subst ht
   obtain ⟨u1, us1, rfl, a1, a2⟩ := hv.inv
   obtain ⟨u2, us2, rfl, a3, a4⟩ := a2.inv
   have e : us2 = [] := by have := a4.1; simpa using this.symm
   subst e
   cases a1 with
   | str _ hs =>
   cases a3
   have hc : S.countB (qaa s) 10 = ((s.data.toList.count 10 : Nat) : Int) := by
     show Int.ofNat (List.count ((UInt8.toNat 10 : Nat) : Int) (s.data.toList.map fun x => ((x.toNat : Nat) : Int))) = _
     rw [qy0]; rfl
   have hle : s.data.toList.count 10 <= s.size := by
     have := List.count_le_length (a := (10 : UInt8)) (l := s.data.toList)
     rwa [Array.length_toList] at this
   refine ⟨.int .i64 (S.countB (qaa s) 10), qnf (by rw [hc]; omega) (by rw [hc]; omega), (q1h s 10 E.w).mono fun e w' h => ?_⟩
   rw [hc]
   exact h
theorem qvo : Con Tryz.prog 54 qo8 :=
 qlm cal54 (fun y => rfl) fun M w x us y hy hv => q03 x.1 x.2.1 hy hv
theorem q0d {E : Env} (s : ByteArray) (c : Int) {us : List Value} (hv : VRs E [.str s, .int .u8 c] us) :
   ∃ v, VR E (.int .i64 (S.indexB (qaa s) c)) v /\ Calls Tryz.prog 128 us.toArray E.w fun e w' => e = .returned v /\ w' = E.w := by
 obtain ⟨u1, us1, rfl, a1, a2⟩ := hv.inv
 obtain ⟨u2, us2, rfl, a3, a4⟩ := a2.inv
 have e : us2 = [] := by have := a4.1; simpa using this.symm
 subst e
 cases a1 with
 | str _ hs =>
 cases a3 with
 | int _ _ hc =>
 have hc : c % 256 = c := hc
 have hcc : c = (((c.toNat.toUInt8).toNat : Nat) : Int) := by
   simp only [Nat.toUInt8, UInt8.toNat_ofNat']
   omega
 have hi : S.indexB (qaa s) c = Lib.indexByte s.data.toList c.toNat.toUInt8 := by
   conv => lhs; rw [hcc]
   exact qyt _ _
 have hb : -1 <= S.indexB (qaa s) c /\ S.indexB (qaa s) c < 9223372036854775808 := by
   unfold S.indexB Go.Jx.S.idx
   cases h : List.findIdx? (fun x => decide (x = c)) (qaa s) with
   | none => simp
   | some j =>
     have := (List.findIdx?_eq_some_iff_getElem.1 h).1
     rw [qaf] at this
     simp only [Int.ofNat_eq_natCast]; omega
 refine ⟨.int .i64 (S.indexB (qaa s) c), qnf (by omega) hb.2, (q2c s c E.w).mono fun e w' h => ?_⟩
 rw [hi]
 exact h
theorem qxj : Con Tryz.prog 128 qju :=
 qlm cal128 (fun y => rfl) fun M w x us y hy hv => by
   obtain ⟨v, h1, h2⟩ := q0d x.1 x.2.1 hv
   cases hy
   exact ⟨v, h1, h2⟩
def ccF (vs : List IV) (Z : IS) : Option Res := match vs with
 | [.ptr id 0] => match Z.heap.get id with
   | some (.bld _) => some ⟨.tup [], Z, 2 ^ id, 2 ^ id⟩
   | _ => none
 | _ => none
def ccK (R : Type) (vs : List IV) (Z : IS) (kk : Res -> Option R) : Option R := match vs with
 | [.ptr id 0] => match Z.heap.get id with
   | some (.bld _) => kk ⟨.tup [], Z, 2 ^ id, 2 ^ id⟩
   | _ => none
 | _ => none
theorem qn1 {vs : List IV} {Z : IS} {r : Res} (h : ccF vs Z = some r) : ∃ id j, vs = [.ptr id 0] /\ Z.heap.get id = some (.bld j) /\ r = ⟨.tup [], Z, 2 ^ id, 2 ^ id⟩ := by
 unfold ccF at h
 split at h
 · rename_i id
   split at h
   · rename_i j hj; cases h; exact ⟨id, j, rfl, hj, rfl⟩
   · cases h
 · cases h
theorem ccK_eq (R : Type) (vs : List IV) (Z : IS) (kk : Res -> Option R) : ccK R vs Z kk = ob (ccF vs Z) kk := by
 unfold ccK ccF
 split
 · split <;> rfl
 · rfl
def ccHx : Hx := ⟨fun _ vs Z => ccF vs Z, fun _ R vs Z kk => ccK R vs Z kk, fun _ _ _ R vs Z kk => ccK_eq R vs Z kk⟩
theorem qyo {w : World} {b o : Nat} (v : Value) (hb : b < w.heap.size) : Upd [b] w (w.setCell ⟨b, o, none⟩ v) := by
 refine ⟨rfl, rfl, rfl, by simp [World.setCell], fun c hc hm => ?_⟩
 simp only [World.setCell, Array.getElem?_modify]
 rw [if_neg]; simp at hm; omega
theorem ccHx_ok : HxOK Tryz.prog 83 ccHx.f := ⟨fun cl _ _ _ vs Z r h T E us p hrd hwr hv => by
   obtain ⟨id, j, rfl, ho, rfl⟩ := qn1 h
   obtain ⟨u1, us, rfl, a1, a2⟩ := hv.inv
   have e : us = [] := by have := a2.1; simpa using this.symm
   subst e
   cases a1 with
   | ptr hA =>
   have hT := qac hwr
   obtain ⟨p0, v, h1, h2, h3⟩ := p.st.objs id (T.sub _ hT) hA _ ho
   have hb := p.st.blk id (T.sub _ hT) hA _ ho rfl
   have hL : Live E Z.H id := ⟨hb, _, ho, rfl⟩
   have hlt := qam h1
   refine ⟨cal83, ?_⟩
   rcases h2 with rfl | rfl
   · refine (callsIn_wide.2 (q3k (E.ρ id) E.w (by rw [Lib.cell_of_heap h1]; rfl) (by simp [World.shape?, h1, bldT]) (Lib.frozen_of_heap h1 0))).mono fun e w' hR => ?_
     obtain ⟨rfl, rfl⟩ := hR
     have u := qyo (w := E.w) (b := E.ρ id) (o := 0) (.pointer (some ⟨E.ρ id, 0, none⟩)) hlt
     have hle2 := Env.at_le p.st hT hA hL u
     obtain ⟨q1, q2⟩ := Post.write p (o' := .bld j) hT hA hL u ⟨.pointer (some ⟨E.ρ id, 0, none⟩), v, by
       show (E.w.setCell ⟨E.ρ id, 0, none⟩ _).heap[E.ρ id]? = _
       simp [World.setCell, Array.getElem?_modify, h1], .inr rfl, h3.mono hle2⟩
     refine ⟨.tuple #[], _, rfl, rfl, .tup rfl (fun i h => by simp at h), ?_, q2⟩
     refine Post.congr (S' := Z.set id (.bld j)) ?_ rfl q1
     funext k
     by_cases hk : k = id
     · subst hk; rw [IS.H_set, qad]; exact ho.symm
     · rw [IS.H_set, up_ne _ _ hk]
   · refine (callsIn_wide.2 (cc_used (E.ρ id) E.w (by rw [Lib.cell_of_heap h1]; rfl))).mono fun e w' hR => ?_
     obtain ⟨rfl, rfl⟩ := hR
     exact ⟨.tuple #[], E, rfl, rfl, .tup rfl (fun i h => by simp at h), Post.refl p, Fresh.refl _ _⟩,
 fun cl _ vs Z r h => by
   obtain ⟨id, j, rfl, ho, rfl⟩ := qn1 h
   exact FrX.refl _ _,
 fun cl _ vs Z r h hw _ => by
   obtain ⟨id, j, rfl, ho, rfl⟩ := qn1 h
   rfl⟩
def bsF (vs : List IV) (Z : IS) : Option Res := match vs with
 | [.ptr id 0] => match Z.heap.get id with
   | some (.bld j) => match Z.heap.get j with
     | some (.arr (.int .u8) l) => some ⟨.str (strOf l), Z.set j .dead, 2 ^ id, 2 ^ j⟩
     | _ => none
   | _ => none
 | _ => none
def bsK (R : Type) (vs : List IV) (Z : IS) (kk : Res -> Option R) : Option R := match vs with
 | [.ptr id 0] => match Z.heap.get id with
   | some (.bld j) => match Z.heap.get j with
     | some (.arr (.int .u8) l) => kk ⟨.str (strOf l), Z.set j .dead, 2 ^ id, 2 ^ j⟩
     | _ => none
   | _ => none
 | _ => none
theorem qpi {vs : List IV} {Z : IS} {r : Res} (h : bsF vs Z = some r) : ∃ (id j : Nat) (l : List Int), vs = [.ptr id 0] /\ Z.heap.get id = some (.bld j) /\ Z.heap.get j = some (.arr (.int .u8) l) /\ r = ⟨.str (strOf l), Z.set j .dead, 2 ^ id, 2 ^ j⟩ := by
 unfold bsF at h
 split at h
 · rename_i id
   split at h
   · rename_i j hj
     split at h
     · rename_i l hl; cases h; exact ⟨id, j, l, rfl, hj, hl, rfl⟩
     · cases h
   · cases h
 · cases h
theorem bsK_eq (R : Type) (vs : List IV) (Z : IS) (kk : Res -> Option R) : bsK R vs Z kk = ob (bsF vs Z) kk := by
 unfold bsK bsF
 split
 · split
   · split <;> rfl
   · rfl
 · rfl
def bsHx : Hx := ⟨fun _ vs Z => bsF vs Z, fun _ R vs Z kk => bsK R vs Z kk, fun _ _ _ R vs Z kk => bsK_eq R vs Z kk⟩
theorem qm7 (w : World) : Upd [] w w.drew := ⟨rfl, rfl, rfl, Nat.le_refl _, fun _ _ _ => rfl⟩
theorem qzd (w : World) (o : Obj) : Upd [] w (w.drew.alloc o) := ⟨rfl, rfl, rfl, by simp, fun b hb _ => by
 show (w.heap.push o)[b]? = _
 rw [Array.getElem?_push, if_neg (by omega)]⟩
theorem qxu (w : World) (g n : Nat) : Upd [g] w (w.drew.freeze ⟨g, 0, none⟩ n) := by
 unfold World.freeze
 split
 · exact (qm7 w).mono (by simp)
 · refine ⟨rfl, rfl, rfl, by simp, fun b hb hm => ?_⟩
   simp only [Array.getElem?_modify]
   rw [if_neg (by simp at hm; exact fun e => hm e.symm)]; rfl
theorem bytes8 {E : Env} {l : List Int} {us : Nat -> Nat -> Value} {cells : Array Value} (h1 : ∀ i, i < l.length -> ∀ j, j < csz (.int .u8) -> cells[i * csz (.int .u8) + j]? = some (us i j)) (h2 : ∀ i (h : i < l.length) j (h' : j < (cel (.int .u8) l[i]).length), VR E (cel (.int .u8) l[i])[j] (us i j)) :
   ∀ (j : Nat) (x : UInt8), (l.map fun n => UInt8.ofNat n.toNat)[j]? = some x -> cells[j]? = some (Value.int .u8 x.toNat) := fun j x hx => by
 rw [List.getElem?_map] at hx
 cases hj : l[j]? with
 | none => rw [hj] at hx; cases hx
 | some n =>
   rw [hj] at hx
   cases hx
   obtain ⟨hlt, rfl⟩ := List.getElem?_eq_some_iff.1 hj
   have a1 := h1 j hlt 0 Nat.one_pos
   have a2 : VR E (.int .u8 l[j]) (us j 0) := h2 j hlt 0 Nat.one_pos
   rw [show j * csz (.int .u8) + 0 = j by simp [csz]] at a1
   rw [a1]
   generalize us j 0 = q at a2
   cases a2 with
   | int _ _ hw =>
   have hw : l[j] % 256 = l[j] := hw
   congr 2
   simp only [UInt8.toNat_ofNat']
   omega
theorem bsHx_ok : HxOK Tryz.prog 57 bsHx.f := ⟨fun cl _ _ _ vs Z r h T E us p hrd hwr hv => by
   obtain ⟨id, j, l, rfl, ho, hoj, rfl⟩ := qpi h
   obtain ⟨u1, us, rfl, a1, a2⟩ := hv.inv
   have e : us = [] := by have := a2.1; simpa using this.symm
   subst e
   cases a1 with
   | ptr hA =>
   have hT := qac hwr
   obtain ⟨p0, v, h1, h2, h3⟩ := p.st.objs id (qac hrd) hA _ ho
   have h1 : E.w.heap[E.ρ id]? = some (.cells #[p0, v] 93 (0, 0)) := h1
   cases h3 with
   | @arr _ len cap a hAj hhj =>
   obtain ⟨a', cap', k1, k2, k3, k4, k5⟩ := p.st.objs j (T.sub _ hT) hAj _ hoj
   rw [hhj] at k1
   obtain ⟨rfl, rfl, rfl⟩ : a = a' /\ len = l.length /\ cap = cap' := by cases k1; exact ⟨rfl, rfl, rfl⟩
   have hsz : (strOf l).size < 9223372036854775808 := by
     have : (strOf l).size = l.length := by simp [strOf, ByteArray.size]
     have k4' : l.length * 1 <= 140737488355328 := k4
     rw [this]
     clear k4
     omega
   have idle : ∀ w', Upd [] E.w w' -> RetE T E Z ⟨.str (strOf l), Z.set j .dead, 2 ^ id, 2 ^ j⟩ (.returned (.string (strOf l))) w' := fun w' u => by
     obtain ⟨q1, q2⟩ := Post.idle p u
     have k := Post.kill (id := j) (q1.pre p)
     exact ⟨_, E.at_ w', rfl, rfl, .str _ hsz, Post.trans p q1 q2 k, q2⟩
   refine ⟨cal57, ?_⟩
   rcases k5 with ⟨k5, k6, kz⟩ | ⟨k5, k6, cells, t, k7, k8, us, k9, k10⟩
   · have k2' : l.length <= cap := k2
     have hl : l = [] := List.length_eq_zero_iff.1 (by omega)
     subst hl
     subst k6
     have := kz rfl
     subst this
     refine (callsIn_wide.2 (bs_nil (E.ρ id) p0 E.w h1)).mono fun e w' hR => ?_
     obtain ⟨rfl, rfl⟩ := hR
     exact idle _ (qm7 _)
   · have := k8.2 rfl
     subst this
     subst k6
     have hcs : cap * 1 <= cells.size := k8.1
     by_cases hl0 : l = []
     · subst hl0
       by_cases hc0 : cap = 0
       · subst hc0
         refine (callsIn_wide.2 (q4e (E.ρ id) (E.ρ j) p0 cells E.w h1 k7)).mono fun e w' hR => ?_
         obtain ⟨rfl, rfl⟩ := hR
         exact idle _ (qzd _ _)
       · refine (callsIn_wide.2 (bs_room (E.ρ id) (E.ρ j) cap p0 E.w hc0 h1)).mono fun e w' hR => ?_
         obtain ⟨rfl, rfl⟩ := hR
         exact idle _ (qm7 _)
     · have hlen : (l.map fun n => UInt8.ofNat n.toNat).length = l.length := List.length_map _
       refine (callsIn_wide.2 (q1l (E.ρ id) (E.ρ j) cap p0 cells (l.map fun n => UInt8.ofNat n.toNat) E.w (fun e => hl0 (List.map_eq_nil_iff.1 e)) (by rw [hlen]; exact k2) k3 (by omega) (by rw [hlen]; exact h1) k7 (bytes8 k9 k10))).mono fun e w' hR => ?_
       obtain ⟨rfl, rfl⟩ := hR
       have hL : Live E Z.H j := ⟨k5, _, hoj, rfl⟩
       obtain ⟨q1, q2⟩ := Post.write p (o' := .dead) hT hAj hL (qxu E.w (E.ρ j) _) trivial
       exact ⟨_, _, rfl, rfl, .str _ hsz, q1, q2⟩,
 fun cl _ vs Z r h => by
   obtain ⟨id, j, l, rfl, ho, hoj, rfl⟩ := qpi h
   exact FrX.set Z j .dead,
 fun cl _ vs Z r h hw _ => by
   obtain ⟨id, j, l, rfl, ho, hoj, rfl⟩ := qpi h
   have := Nat.one_le_two_pow (n := j)
   have hw : 2 ^ j = 0 := hw
   omega⟩
end Go.Proofs.YtanenikkloolfaaGreatDoor
end

section
namespace Go.Jx
open Go Go.Sx Go.RowKit
universe u

structure ObjTo (E : Env) (S : IS) (E' : Env) (id k : Nat) (o : IObj) : Prop where
 rel : OR E' k o
 live : o.live = true -> ∃ o0, S.H id = some o0 /\ o0.live = true
 blk : o.blk = true -> E'.hb k = true
theorem qv5 {B : Nat} {q : List Nat} (hnd : q.Nodup) (hqB : ∀ id ∈ q, B <= id) : ∀ i j, i < B + q.length -> j < B + q.length -> ol B q i = ol B q j -> i = j := fun i j hi hj h => by
 have hol : ∀ id, B <= id -> id < B + q.length -> B <= ol B q id := fun id h1 h2 => by
   have h3 : id - B < q.length := by omega
   unfold ol
   rw [if_neg (by omega), List.getD_eq_getElem?_getD, List.getElem?_eq_getElem h3]
   exact hqB _ (List.getElem_mem h3)
 rcases Nat.lt_or_ge i B with h1 | h1
 · have e1 : ol B q i = i := if_pos h1
   rcases Nat.lt_or_ge j B with h2 | h2
   · rwa [e1, show ol B q j = j from if_pos h2] at h
   · have := hol j h2 hj; omega
 · rcases Nat.lt_or_ge j B with h2 | h2
   · have e2 : ol B q j = j := if_pos h2
     have := hol i h1 hi; omega
   · have h3 : i - B < q.length := by omega
     have h4 : j - B < q.length := by omega
     have e1 : ol B q i = q[i - B] := by unfold ol; rw [if_neg (by omega), List.getD_eq_getElem?_getD, List.getElem?_eq_getElem h3]; rfl
     have e2 : ol B q j = q[j - B] := by unfold ol; rw [if_neg (by omega), List.getD_eq_getElem?_getD, List.getElem?_eq_getElem h4]; rfl
     rw [e1, e2] at h
     have := (List.getElem_inj hnd).1 h
     omega
theorem qba {q : List Nat} {k : Nat} (h : k < q.length) : ol 0 q k ∈ q /\ q[k]? = some (ol 0 q k) := by
 have e : ol 0 q k = q[k] := by unfold ol; rw [if_neg (by omega), Nat.sub_zero, List.getD_eq_getElem?_getD, List.getElem?_eq_getElem h]; rfl
 rw [e]; exact ⟨List.getElem_mem h, List.getElem?_eq_getElem h⟩
theorem qp2 {q : List Nat} {id : Nat} (h : id ∈ q) : ∃ k, k < q.length /\ ol 0 q k = id := by
 obtain ⟨k, hk, rfl⟩ := List.mem_iff_getElem.1 h
 refine ⟨k, hk, ?_⟩
 unfold ol; rw [if_neg (by omega), Nat.sub_zero, List.getD_eq_getElem?_getD, List.getElem?_eq_getElem hk]; rfl
theorem Pre.re {T : TW} {E : Env} {S S' : IS} {q : List Nat} (p : Pre T E S) (hn : q.Nodup) (hT : ∀ id ∈ q, T.r id) (hN : S'.next = q.length)
   (ho : ∀ k o, k < q.length -> E.A (ol 0 q k) -> S'.H k = some o -> ObjTo E S (renE 0 q E) (ol 0 q k) k o) : Pre T0 (renE 0 q E) S' := by
 have hl : ∀ k, (renE 0 q E).A k -> k < q.length := fun k h => by have := h.1; omega
 have hTr : ∀ k, k < q.length -> T.r (ol 0 q k) := fun k h => hT _ (qba h).1
 have hlv : ∀ k, (renE 0 q E).A k -> Live (renE 0 q E) S'.H k -> Live E S.H (ol 0 q k) := fun k ha ⟨h0, o, h1, h2⟩ => ⟨h0, (ho k o (hl k ha) ha.2 h1).live h2⟩
 refine ⟨⟨fun k _ ha o h => (ho k o (hl k ha) ha.2 h).rel, fun k _ ha o h hb => (ho k o (hl k ha) ha.2 h).blk hb, fun k _ ha h => p.st.own _ (hTr k (hl k ha)) ha.2 (hlv k ha h),
   fun i j _ _ c d e f h => qv5 hn (fun _ _ => Nat.zero_le _) i j (by have := hl i c; omega) (by have := hl j d; omega) (p.st.inj _ _ (hTr i (hl i c)) (hTr j (hl j d)) c.2 d.2 (hlv i c e) (hlv j d f) h), p.st.lo⟩, fun k ha => by rw [hN]; exact hl k ha, fun _ _ => trivial, p.gl⟩
theorem PostB.re {T : TW} {E : Env} {S S' : IS} {B : Nat} {q : List Nat} (p : Pre T E S) (hT : ∀ id, B <= id -> T.w id) (hn : q.Nodup) (hqB : ∀ id ∈ q, B <= id) (hN : S'.next = B + q.length)
   (ho : ∀ k o, k < B + q.length -> E.A (ol B q k) -> S'.H k = some o -> ObjTo E S (renE B q E) (ol B q k) k o) : PostB B T E S (renE B q E) S' := by
 have hol : ∀ id, B <= id -> id < B + q.length -> B <= ol B q id := fun id h1 h2 => by
   have h3 : id - B < q.length := by omega
   unfold ol
   rw [if_neg (by omega), List.getD_eq_getElem?_getD, List.getElem?_eq_getElem h3]
   exact hqB _ (List.getElem_mem h3)
 have hTr : ∀ id, id < B + q.length -> T.r id -> T.r (ol B q id) := fun id h1 h2 => by
   rcases Nat.lt_or_ge id B with h3 | h3
   · rw [show ol B q id = id from if_pos h3]; exact h2
   · exact T.sub _ (hT _ (hol id h3 h1))
 have hlv : ∀ k, (renE B q E).A k -> Live (renE B q E) S'.H k -> Live E S.H (ol B q k) := fun k ha ⟨h0, o, h1, h2⟩ => ⟨h0, (ho k o ha.1 ha.2 h1).live h2⟩
 refine ⟨⟨fun k ht ha o h => (ho k o ha.1 ha.2 h).rel, fun k ht ha o h hb => (ho k o ha.1 ha.2 h).blk hb, fun k ht ha h => p.st.own _ (hTr k ha.1 ht) ha.2 (hlv k ha h),
   fun i j a b c d e f h => qv5 hn hqB i j c.1 d.1 (p.st.inj _ _ (hTr i c.1 a) (hTr j d.1 b) c.2 d.2 (hlv i c e) (hlv j d f) h), p.st.lo⟩,
   rfl, rfl, rfl, Nat.le_refl _, fun _ _ _ => rfl, fun id hb hA => ?_, fun id hb ha hl => .inr ⟨ol B q id, hT _ (hol id hb ha.1), ha.2, hlv id ha hl, rfl⟩, fun id hb ht ha hl => ?_, fun b h => .inl h, fun b h _ => .inl h, fun id ha => by rw [hN]; exact ha.1, by rw [hN]; exact Nat.le_add_right _ _, fun id hb ha => ?_⟩
 · have e : ol B q id = id := if_pos hb
   exact ⟨⟨by omega, by rw [e]; exact hA⟩, by simp only [renE, e], by simp only [renE, e], by simp only [renE, e], by simp only [renE, e]⟩
 · have e : ol B q id = id := if_pos hb
   have := hlv id ⟨by omega, by rw [e]; exact ha⟩ hl
   rwa [e] at this
 · have e : ol B q id = id := if_pos hb
   have := ha.2
   rwa [e] at this
def mrgR (E Er : Env) (n m : Nat) : Env :=
 ⟨fun id => if id < n then E.ρ id else Er.ρ (id - n + m), fun id => if id < n then E.κ id else Er.κ (id - n + m), fun id => if id < n then E.hd id else Er.hd (id - n + m), fun id => if id < n then E.hb id else Er.hb (id - n + m),
   fun id => (id < n /\ E.A id) \/ (n <= id /\ Er.A (id - n + m)), Er.m, Er.w⟩
section
variable {E Er : Env} {n m : Nat}
theorem qbs {id : Nat} (h : id < n) : (mrgR E Er n m).ρ id = E.ρ id /\ (mrgR E Er n m).κ id = E.κ id /\ (mrgR E Er n m).hd id = E.hd id /\ (mrgR E Er n m).hb id = E.hb id := by
 refine ⟨?_, ?_, ?_, ?_⟩ <;> simp only [mrgR, if_pos h]
theorem qe9 {k : Nat} (h : m <= k) : (mrgR E Er n m).ρ (n + (k - m)) = Er.ρ k /\ (mrgR E Er n m).κ (n + (k - m)) = Er.κ k /\ (mrgR E Er n m).hd (n + (k - m)) = Er.hd k /\ (mrgR E Er n m).hb (n + (k - m)) = Er.hb k /\ (Er.A k -> (mrgR E Er n m).A (n + (k - m))) := by
 have h1 : ¬ n + (k - m) < n := by omega
 have h2 : n + (k - m) - n + m = k := by omega
 refine ⟨?_, ?_, ?_, ?_, fun hA => .inr ⟨by omega, by rw [h2]; exact hA⟩⟩ <;> simp only [mrgR, if_neg h1, h2]
theorem qsf {T : TW} {S Sx Sr S' : IS} {q : List Nat} (p : Pre T E S) (hnd : q.Nodup) (hT : ∀ id ∈ q, T.w id) (hA : ∀ id ∈ q, E.A id) (hm : m <= q.length) (hn : n = S.next)
   (hsx : ∀ k, k < q.length -> Live (renE 0 q E) Sx.H k -> Live E S.H (ol 0 q k)) (h : PostB m T0 (renE 0 q E) Sx Er Sr)
   (hN : S'.next = n + (Sr.next - m))
   (h1 : ∀ id, id < n -> id ∉ q -> S'.H id = S.H id)
   (h2 : ∀ k o, k < m -> S'.H (ol 0 q k) = some o -> ObjTo Er Sr (mrgR E Er n m) k (ol 0 q k) o)
   (h3 : ∀ k o, m <= k -> k < q.length -> S'.H (ol 0 q k) = some o -> o = .dead)
   (h4 : ∀ k o, m <= k -> Er.A k -> S'.H (n + (k - m)) = some o -> ObjTo Er Sr (mrgR E Er n m) k (n + (k - m)) o) :
   Post T E S (mrgR E Er n m) S' /\ Fresh E S (mrgR E Er n m) := by
 have hlt : ∀ id, E.A id -> id < n := fun id h => by rw [hn]; exact p.bnd id h
 have hqA : ∀ k, k < q.length -> (renE 0 q E).A k := fun k hk => ⟨by omega, hA _ (qba hk).1⟩
 -- a live object of the caller's beside these is at no block of theirs
 have hapart : ∀ id, id ∉ q -> T.r id -> E.A id -> Live E S.H id -> ∀ k, (renE 0 q E).A k -> Live (renE 0 q E) Sx.H k -> (renE 0 q E).ρ k ≠ E.ρ id := fun id hid ht ha hl k hk hkl e => by
   have hk1 : k < q.length := by have := hk.1; omega
   have h5 := (qba hk1).1
   have := p.st.inj _ _ (T.sub _ (hT _ h5)) ht hk.2 ha (hsx k hk1 hkl) hl e
   exact hid (this ▸ h5)
 have hsame : ∀ b, b < E.w.heap.size -> (∀ k, (renE 0 q E).A k -> Live (renE 0 q E) Sx.H k -> (renE 0 q E).ρ k ≠ b) -> Er.w.heap[b]? = E.w.heap[b]? := fun b hb hk => h.same b hb fun k _ => hk k
 have hown : ∀ k, (renE 0 q E).A k -> Live (renE 0 q E) Sx.H k -> (renE 0 q E).ρ k ∈ E.m := fun k hk hkl => by
   have hk1 : k < q.length := by have := hk.1; omega
   exact p.st.own _ (T.sub _ (hT _ (qba hk1).1)) hk.2 (hsx k hk1 hkl)
 have hle : E.Le (mrgR E Er n m) := ⟨fun id ha => by
   obtain ⟨m1, m2, m3, m4⟩ := qbs (E := E) (Er := Er) (m := m) (hlt id ha)
   exact ⟨.inl ⟨hlt id ha, ha⟩, m1, m2, m3, m4⟩, ⟨fun b hb hbm => ⟨fun h' => by
     rcases h.memo b h' with h5 | h5
     · exact hbm h5
     · have : (renE 0 q E).w.heap.size = E.w.heap.size := rfl
       omega, hsame b hb fun k hk hkl e => hbm (e ▸ hown k hk hkl)⟩⟩⟩
 -- rows
 have hrow : ∀ k, k < m -> (renE 0 q E).A k /\ Er.A k /\ Er.ρ k = E.ρ (ol 0 q k) /\ Er.hb k = E.hb (ol 0 q k) /\ ol 0 q k < n := fun k hk => by
   have ha := hqA k (by omega)
   obtain ⟨a1, a2, a3, a4, a5⟩ := h.alw k hk ha
   exact ⟨ha, a1, a2, a5, hlt _ ha.2⟩
 -- where a live object of the new state comes from
 have hcase : ∀ id, (mrgR E Er n m).A id -> Live (mrgR E Er n m) S'.H id ->
     (id < n /\ id ∉ q /\ E.A id /\ Live E S.H id) \/ ∃ k, Er.A k /\ Live Er Sr.H k /\ (mrgR E Er n m).ρ id = Er.ρ k /\ ((k < m /\ id = ol 0 q k) \/ (m <= k /\ id = n + (k - m))) := fun id ha ⟨g1, o, g2, g3⟩ => by
   rcases ha with ⟨hi, ha⟩ | ⟨hi, ha⟩
   · by_cases hq : id ∈ q
     · obtain ⟨k, hk, rfl⟩ := qp2 hq
       by_cases hkm : k < m
       · obtain ⟨r1, r2, r3, r4, r5⟩ := hrow k hkm
         refine .inr ⟨k, r2, ⟨?_, (h2 k o hkm g2).live g3⟩, (qbs hi).1.trans r3.symm, .inl ⟨hkm, rfl⟩⟩
         rw [r4, <- (qbs (E := E) (Er := Er) (m := m) hi).2.2.2]; exact g1
       · have := h3 k o (by omega) hk g2
         subst this; cases g3
     · rw [h1 id hi hq] at g2
       exact .inl ⟨hi, hq, ha, by rw [<- (qbs (E := E) (Er := Er) (m := m) hi).2.2.2]; exact g1, o, g2, g3⟩
   · obtain ⟨k, hk, rfl⟩ : ∃ k, m <= k /\ id = n + (k - m) := ⟨id - n + m, by omega, by omega⟩
     have e : n + (k - m) - n + m = k := by omega
     rw [e] at ha
     obtain ⟨m1, m2, m3, m4, m5⟩ := qe9 (E := E) (Er := Er) (n := n) hk
     exact .inr ⟨k, ha, ⟨by rw [<- m4]; exact g1, (h4 k o hk ha g2).live g3⟩, m1, .inr ⟨hk, rfl⟩⟩
 have hin : ∀ id, id < n -> id ∉ q -> T.r id -> E.A id -> Live E S.H id -> (mrgR E Er n m).ρ id ∈ Er.m /\ ∀ k, Er.A k -> Live Er Sr.H k -> Er.ρ k ≠ E.ρ id := fun id hi hq ht ha hl => by
   have hmem := p.st.own id ht ha hl
   refine ⟨?_, fun k hk hkl e => ?_⟩
   · rw [(qbs hi).1]
     rcases h.mem _ hmem (p.st.lo _ hmem) with g | ⟨k, _, g1, g2, g3⟩
     · exact g
     · exact absurd g3 (hapart id hq ht ha hl k g1 g2)
   · by_cases hkm : k < m
     · exact hapart id hq ht ha hl k (hrow k hkm).1 (h.old k hkm trivial (hrow k hkm).1 hkl) (by rw [<- e]; exact (hrow k hkm).2.2.1.symm)
     · rcases h.new k (by omega) hk hkl with g | ⟨j, _, g1, g2, g3⟩
       · have := p.st.lo _ hmem
         have e2 : (renE 0 q E).w.heap.size = E.w.heap.size := rfl
         omega
       · exact hapart id hq ht ha hl j g1 g2 (by rw [<- g3]; exact e)
 refine ⟨⟨⟨?_, ?_, ?_, ?_, h.st.lo⟩, ⟨h.os, h.tape, h.output, h.size, fun b hb hk => ?_, hle.alw, ?_, ?_, fun b hb => h.memo b hb, fun b hb hl => ?_⟩, ?_, ?_⟩, ⟨?_⟩⟩
 · intro id ht ha o ho
   rcases ha with ⟨hi, ha⟩ | ⟨hi, ha⟩
   · by_cases hq : id ∈ q
     · obtain ⟨k, hk, rfl⟩ := qp2 hq
       by_cases hkm : k < m
       · exact (h2 k o hkm ho).rel
       · have := h3 k o (by omega) hk ho
         subst this; trivial
     · rw [h1 id hi hq] at ho
       exact (p.st.objs id ht ha o ho).mono hle ha (p.st.blk id ht ha o ho) fun hl hb => hsame _ ((p.st.objs id ht ha o ho).lt hl hb) (hapart id hq ht ha ⟨hb, o, ho, hl⟩)
   · obtain ⟨k, hk, rfl⟩ : ∃ k, m <= k /\ id = n + (k - m) := ⟨id - n + m, by omega, by omega⟩
     have e : n + (k - m) - n + m = k := by omega
     rw [e] at ha
     exact (h4 k o hk ha ho).rel
 · intro id ht ha o ho hb
   rcases ha with ⟨hi, ha⟩ | ⟨hi, ha⟩
   · by_cases hq : id ∈ q
     · obtain ⟨k, hk, rfl⟩ := qp2 hq
       by_cases hkm : k < m
       · exact (h2 k o hkm ho).blk hb
       · have := h3 k o (by omega) hk ho
         subst this; cases hb
     · rw [h1 id hi hq] at ho
       rw [(qbs hi).2.2.2]
       exact p.st.blk id ht ha o ho hb
   · obtain ⟨k, hk, rfl⟩ : ∃ k, m <= k /\ id = n + (k - m) := ⟨id - n + m, by omega, by omega⟩
     have e : n + (k - m) - n + m = k := by omega
     rw [e] at ha
     exact (h4 k o hk ha ho).blk hb
 · intro id ht ha hl
   rcases hcase id ha hl with ⟨g1, g2, g3, g4⟩ | ⟨k, g1, g2, g3, _⟩
   · exact (hin id g1 g2 ht g3 g4).1
   · rw [g3]; exact h.st.own k trivial g1 g2
 · intro i j ti tj hi hj li lj he
   rcases hcase i hi li with ⟨a1, a2, a3, a4⟩ | ⟨k, a1, a2, a3, a4⟩ <;> rcases hcase j hj lj with ⟨b1, b2, b3, b4⟩ | ⟨k', b1, b2, b3, b4⟩
   · rw [(qbs a1).1, (qbs b1).1] at he
     exact p.st.inj i j ti tj a3 b3 a4 b4 he
   · rw [(qbs a1).1, b3] at he
     exact absurd he.symm ((hin i a1 a2 ti a3 a4).2 k' b1 b2)
   · rw [(qbs b1).1, a3] at he
     exact absurd he ((hin j b1 b2 tj b3 b4).2 k a1 a2)
   · rw [a3, b3] at he
     have := h.st.inj k k' trivial trivial a1 b1 a2 b2 he
     subst this
     rcases a4 with ⟨a4, rfl⟩ | ⟨a4, rfl⟩ <;> rcases b4 with ⟨b4, rfl⟩ | ⟨b4, rfl⟩ <;> first | rfl | omega
 · refine hsame b hb fun k hk1 hkl e => ?_
   have hk2 : k < q.length := by have := hk1.1; omega
   exact hk _ (hT _ (qba hk2).1) hk1.2 (hsx k hk2 hkl) e
 · intro id ha hna hl
   rcases hcase id ha hl with ⟨g1, g2, g3, g4⟩ | ⟨k, g1, g2, g3, g4⟩
   · exact absurd g3 hna
   · rcases g4 with ⟨g4, rfl⟩ | ⟨g4, rfl⟩
     · exact absurd (hrow k g4).1.2 hna
     · rw [g3]
       rcases h.new k g4 g1 g2 with g | ⟨j, _, j1, j2, j3⟩
       · exact .inl g
       · have hj : j < q.length := by have := j1.1; omega
         exact .inr ⟨_, hT _ (qba hj).1, j1.2, hsx j hj j2, j3⟩
 · intro id ht ha hl
   rcases hcase id (.inl ⟨hlt id ha, ha⟩) hl with ⟨g1, g2, g3, g4⟩ | ⟨k, g1, g2, g3, g4⟩
   · exact g4
   · rcases g4 with ⟨g4, rfl⟩ | ⟨g4, rfl⟩
     · exact hsx k (by omega) (h.old k g4 trivial (hrow k g4).1 g2)
     · have := hlt _ ha; omega
 · rcases h.mem b hb hl with g | ⟨k, _, g1, g2, g3⟩
   · exact .inl g
   · have hk : k < q.length := by have := g1.1; omega
     exact .inr ⟨_, hT _ (qba hk).1, g1.2, hsx k hk g2, g3⟩
 · intro id ha
   rw [hN]
   rcases ha with ⟨hi, _⟩ | ⟨hi, ha⟩
   · omega
   · have := h.bnd _ ha; omega
 · rw [hN]; omega
 · intro id ha hna
   rcases ha with ⟨_, ha⟩ | ⟨hi, _⟩
   · exact absurd ha hna
   · omega
end
end Go.Jx
end

section
namespace Go.Jx
open Go Go.Sx Go.RowKit
universe u

inductive CT : Type
 | dat (c : TC)
 | arr (c : TC)
 | map (k v : TC)
 | fn (f : Nat)
def ElC : CT -> Type
 | .dat c => El c
 | .arr c => List (El c)
 | .map k v => List (El k × El v)
 | .fn _ => Unit
def ElRow : List CT -> Type
 | [] => Unit
 | c :: cs => ElC c × ElRow cs
inductive RK : Type
 | box (r : List CT)
 | sl (c : TC)
def ElK : RK -> Type
 | .box r => ElRow r
 | .sl c => Option (List (El c))
inductive PK : Type
 | dat (c : TC)
 | ref (r : RK)
 | fn (f : Nat)
def ElP : List PK -> Type
 | [] => Unit
 | .dat c :: l => El c × ElP l
 | .fn _ :: l => ElP l
 | .ref r :: l => ElK r × ElP l
def refs : List PK -> List PK
 | [] => []
 | .dat _ :: l => refs l
 | .fn _ :: l => refs l
 | .ref r :: l => .ref r :: refs l
def nC : CT -> Nat
 | .dat _ => 0
 | .fn _ => 0
 | _ => 1
def nR : List CT -> Nat
 | [] => 0
 | c :: cs => nC c + nR cs
def nK : RK -> Nat
 | .box r => nR r
 | .sl _ => 0
def nP : List PK -> Nat
 | [] => 0
 | .dat _ :: l => nP l
 | .fn _ :: l => nP l
 | .ref r :: l => nK r + nP l
def mP : List PK -> Nat
 | [] => 0
 | .dat _ :: l => mP l
 | .fn _ :: l => mP l
 | .ref _ :: l => mP l + 1
def cellC : (c : CT) -> (Nat -> Nat) -> Nat -> ElC c -> List IV
 | .dat c, _, _, x => cel c x
 | .arr _, ι, n, _ => [.arr (ι n)]
 | .map _ _, ι, n, _ => [.map (ι n)]
 | .fn f, _, _, _ => [.fn f []]
def cellR : (r : List CT) -> (Nat -> Nat) -> Nat -> ElRow r -> List IV
 | [], _, _, _ => []
 | c :: cs, ι, n, x => cellC c ι n x.1 ++ cellR cs ι (n + nC c) x.2
def subC : (c : CT) -> ElC c -> List IObj
 | .dat _, _ => []
 | .arr c, l => [.arr c l]
 | .map k v, es => [.tmap k v es]
 | .fn _, _ => []
def subR : (r : List CT) -> ElRow r -> List IObj
 | [], _ => []
 | c :: cs, x => subC c x.1 ++ subR cs x.2
def objK : (k : RK) -> (Nat -> Nat) -> Nat -> ElK k -> IObj
 | .box r, ι, n, x => .row (cellR r ι n x)
 | .sl c, _, _, x => match x with
   | some l => .arr c l
   | none => .dead
def subK : (k : RK) -> ElK k -> List IObj
 | .box r, x => subR r x
 | .sl _, _ => []
def argK : RK -> Nat -> IV
 | .box _, id => .ptr id 0
 | .sl _, id => .arr id
def rowsP : (l : List PK) -> (Nat -> Nat) -> Nat -> ElP l -> List IObj
 | [], _, _, _ => []
 | .dat _ :: l, ι, n, x => rowsP l ι n x.2
 | .fn _ :: l, ι, n, x => rowsP l ι n x
 | .ref r :: l, ι, n, x => objK r ι n x.1 :: rowsP l ι (n + nK r) x.2
def subsP : (l : List PK) -> ElP l -> List IObj
 | [], _ => []
 | .dat _ :: l, x => subsP l x.2
 | .fn _ :: l, x => subsP l x
 | .ref r :: l, x => subK r x.1 ++ subsP l x.2
def argsP : (l : List PK) -> (Nat -> Nat) -> Nat -> ElP l -> List IV
 | [], _, _, _ => []
 | .dat c :: l, ρ, k, x => asIV c x.1 :: argsP l ρ k x.2
 | .fn f :: l, ρ, k, x => .fn f [] :: argsP l ρ k x
 | .ref r :: l, ρ, k, x => argK r (ρ k) :: argsP l ρ (k + 1) x.2
def idN (k : Nat) : Nat := k
def Sc (l : List PK) (x : ElP l) : IS := addO (rowsP l idN (mP l) x ++ subsP l x) S0
theorem qha : ∀ (c : CT) (x : ElC c), (subC c x).length = nC c
 | .dat _, _ => rfl
 | .arr _, _ => rfl
 | .map _ _, _ => rfl
 | .fn _, _ => rfl
theorem qht : ∀ (r : List CT) (x : ElRow r), (subR r x).length = nR r
 | [], _ => rfl
 | c :: cs, x => by simp only [subR, nR, List.length_append, qha, qht cs]
theorem qkl : ∀ (k : RK) (x : ElK k), (subK k x).length = nK k
 | .box r, x => qht r x
 | .sl _, _ => rfl
theorem qfq : ∀ (l : List PK) (x : ElP l), (subsP l x).length = nP l
 | [], _ => rfl
 | .dat _ :: l, x => qfq l x.2
 | .fn _ :: l, x => qfq l x
 | .ref r :: l, x => by simp only [subsP, nP, List.length_append, qkl, qfq l]
theorem qao : ∀ (l : List PK) (ι : Nat -> Nat) (n : Nat) (x : ElP l), (rowsP l ι n x).length = mP l
 | [], _, _, _ => rfl
 | .dat _ :: l, ι, n, x => qao l ι n x.2
 | .fn _ :: l, ι, n, x => qao l ι n x
 | .ref r :: l, ι, n, x => by simp only [rowsP, mP, List.length_cons, qao l]
theorem qc2 : ∀ (l : List PK) (ι : Nat -> Nat) (n : Nat) (x : ElP l) (j : Nat) (o : IObj), (rowsP l ι n x)[j]? = some o ->
   ∃ r nj xj, o = objK r ι nj xj /\ n <= nj /\ nj + nK r <= n + nP l /\ ∀ ι', (rowsP l ι' n x)[j]? = some (objK r ι' nj xj)
 | [], ι, n, x, j, o, h => by simp [rowsP] at h
 | .dat _ :: l, ι, n, x, j, o, h => qc2 l ι n x.2 j o h
 | .fn _ :: l, ι, n, x, j, o, h => qc2 l ι n x j o h
 | .ref r :: l, ι, n, x, j, o, h => by
   cases j with
   | zero =>
     simp only [rowsP, List.getElem?_cons_zero, Option.some.injEq] at h
     exact ⟨r, n, x.1, h.symm, Nat.le_refl _, by simp only [nP]; omega, fun ι' => rfl⟩
   | succ j =>
     simp only [rowsP, List.getElem?_cons_succ] at h
     obtain ⟨r', nj, xj, h1, h2, h3, h4⟩ := qc2 l ι _ x.2 j o h
     exact ⟨r', nj, xj, h1, by omega, by simp only [nP]; omega, fun ι' => by simpa only [rowsP, List.getElem?_cons_succ] using h4 ι'⟩
theorem qfx (l : List PK) (x : ElP l) : (Sc l x).next = mP l + nP l := by
 unfold Sc; rw [qbj, List.length_append, qao, qfq]
 show 0 + _ = _
 omega
theorem qd1 (l : List IObj) (k : Nat) : (addO l S0).H k = l[k]? := by
 rw [qbe]
 have e : S0.next = 0 := rfl
 rw [e, if_neg (by omega), Nat.zero_add, Nat.sub_zero]
 by_cases h : k < l.length
 · rw [if_pos h]
 · rw [if_neg h, List.getElem?_eq_none (by omega)]; rfl

section
variable {E E' : Env}
def NumTo (E E' : Env) (i j : Nat) : Prop := E.A i -> E'.A j /\ E'.ρ j = E.ρ i /\ E'.κ j = E.κ i /\ E'.hd j = E.hd i /\ E'.hb j = E.hb i
theorem q4s (hm : ∀ b, b ∈ E'.m -> b ∈ E.m) (hw : E'.w = E.w) {ι ι' : Nat -> Nat} : ∀ (c : CT) {n : Nat} {x : ElC c} {us : List Value}, (∀ j, n <= j -> j < n + nC c -> NumTo E E' (ι j) (ι' j)) ->
   VRs E (cellC c ι n x) us -> VRs E' (cellC c ι' n x) us
 | .dat c, n, x, us, hn, h => ⟨h.1, fun i a b => (VR.noid hm hw (h.2 i a b)).2.2 _ _ (List.getElem_mem a)⟩
 | .arr c, n, x, us, hn, h => by
   obtain ⟨u, us, rfl, a1, a2⟩ := VRs.inv (v := .arr (ι n)) (cs := []) h
   have e : us = [] := by have := a2.1; simpa using this.symm
   subst e
   cases a1 with
   | arr hA hh =>
     obtain ⟨b1, b2, b3, b4, b5⟩ := hn n (Nat.le_refl _) (by simp [nC]) hA
     exact VRs.cons (.arr b1 (b4.trans hh)) VRs.nil
 | .map k v, n, x, us, hn, h => by
   obtain ⟨u, us, rfl, a1, a2⟩ := VRs.inv (v := .map (ι n)) (cs := []) h
   have e : us = [] := by have := a2.1; simpa using this.symm
   subst e
   cases a1 with
   | map hA =>
     obtain ⟨b1, b2, b3, b4, b5⟩ := hn n (Nat.le_refl _) (by simp [nC]) hA
     rw [<- b2]
     exact VRs.cons (.map b1) VRs.nil
 | .fn f, n, x, us, hn, h => by
   obtain ⟨u, us, rfl, a1, a2⟩ := VRs.inv (v := .fn f []) (cs := []) h
   have e : us = [] := by have := a2.1; simpa using this.symm
   subst e
   cases a1 with
   | fn hl hh =>
     rename_i us1
     have e : us1 = [] := by simpa using hl.symm
     subst e
     exact VRs.cons (.fn rfl (fun i h => by simp at h)) VRs.nil
theorem VRs.split {E : Env} {cs ds : List IV} {us : List Value} (h : VRs E (cs ++ ds) us) : ∃ us1 us2, us = us1 ++ us2 /\ VRs E cs us1 /\ VRs E ds us2 := by
 have h1 := h.take cs.length
 have h2 := h.drop cs.length
 rw [List.take_left] at h1
 rw [List.drop_left] at h2
 exact ⟨_, _, (List.take_append_drop _ _).symm, h1, h2⟩
theorem qtk (hm : ∀ b, b ∈ E'.m -> b ∈ E.m) (hw : E'.w = E.w) {ι ι' : Nat -> Nat} : ∀ (r : List CT) {n : Nat} {x : ElRow r} {us : List Value}, (∀ j, n <= j -> j < n + nR r -> NumTo E E' (ι j) (ι' j)) ->
   VRs E (cellR r ι n x) us -> VRs E' (cellR r ι' n x) us
 | [], n, x, us, hn, h => by have := h.1; cases us with | nil => exact VRs.nil | cons _ _ => simp [cellR] at this
 | c :: cs, n, x, us, hn, h => by
   obtain ⟨us1, us2, rfl, h1, h2⟩ := VRs.split (cs := cellC c ι n x.1) (ds := cellR cs ι (n + nC c) x.2) h
   exact VRs.append (q4s hm hw c (fun j a b => hn j a (by simp only [nR]; omega)) h1) (qtk hm hw cs (fun j a b => hn j (by omega) (by simp only [nR]; omega)) h2)
theorem qzc (c : CT) (ι ι' : Nat -> Nat) (n : Nat) (x : ElC c) : (cellC c ι n x).length = (cellC c ι' n x).length := by cases c <;> rfl
theorem qo3 : ∀ (r : List CT) (ι ι' : Nat -> Nat) (n : Nat) (x : ElRow r), (cellR r ι n x).length = (cellR r ι' n x).length
 | [], _, _, _, _ => rfl
 | c :: cs, ι, ι', n, x => by simp only [cellR, List.length_append, qzc c ι ι', qo3 cs ι ι']
theorem OR.row_to (hm : ∀ b, b ∈ E'.m -> b ∈ E.m) (hw : E'.w = E.w) {ι ι' : Nat -> Nat} {r : List CT} {n i j : Nat} {x : ElRow r} (hA : E.A i) (hi : NumTo E E' i j) (hn : ∀ j, n <= j -> j < n + nR r -> NumTo E E' (ι j) (ι' j))
   (h : OR E i (.row (cellR r ι n x))) : OR E' j (.row (cellR r ι' n x)) := by
 obtain ⟨cells, t, h1, h2, h3, h4⟩ := h
 obtain ⟨b1, b2, b3, b4, b5⟩ := hi hA
 refine ⟨cells, t, by rw [hw, b2]; exact h1, by rw [b3]; exact h2, by rw [qo3 r ι' ι]; exact h3, ?_⟩
 rw [qo3 r ι' ι]
 exact qtk hm hw r hn h4
def datO : IObj -> Bool
 | .arr _ _ => true
 | .tmap _ _ _ => true
 | _ => false
theorem OR.dat_to (hm : ∀ b, b ∈ E'.m -> b ∈ E.m) (hw : E'.w = E.w) {i j : Nat} {o : IObj} (hA : E.A i) (hi : NumTo E E' i j) (ho : datO o = true) (h : OR E i o) : OR E' j o := by
 obtain ⟨b1, b2, b3, b4, b5⟩ := hi hA
 have hno : ∀ {v : IV} {u : Value}, VR E v u -> _ := fun h => VR.noid (E := E) (E' := E') hm hw h
 cases o <;> try (cases ho; done)
 · obtain ⟨a, cap, h1, h2, h3, h4, h5⟩ := h
   exact ⟨a, cap, by rw [b4]; exact h1, h2, h3, h4, h5.imp (fun ⟨x, y⟩ => ⟨by rw [b5]; exact x, y⟩) fun ⟨c1, c2, cells, t, c3, c4, us, c5, c6⟩ => ⟨by rw [b5]; exact c1, by rw [b2]; exact c2, cells, t, by rw [hw, b2]; exact c3, c4, us, c5, fun i hi j hj => (hno (c6 i hi j hj)).2.2 _ _ (List.getElem_mem hj)⟩⟩
 · obtain ⟨ents, c, h1, h2, h3⟩ := h
   refine ⟨ents, c, by rw [hw, b2]; exact h1, ⟨h2.1, fun i a b => ?_⟩, ⟨h3.1, fun i a b => ?_⟩⟩
   · have := h2.2 i a b
     simp only [tmEs, List.getElem_map] at this ⊢
     exact qc5 hm hw this
   · have := h3.2 i a b
     simp only [tmEs, List.getElem_map] at this ⊢
     exact qc5 hm hw this
theorem OR.objK_to (hm : ∀ b, b ∈ E'.m -> b ∈ E.m) (hw : E'.w = E.w) {ι ι' : Nat -> Nat} : ∀ {r : RK} {n i j : Nat} {x : ElK r} (hA : E.A i) (hi : NumTo E E' i j) (hn : ∀ j, n <= j -> j < n + nK r -> NumTo E E' (ι j) (ι' j))
   (h : OR E i (objK r ι n x)), OR E' j (objK r ι' n x)
 | .box r, n, i, j, x, hA, hi, hn, h => OR.row_to hm hw hA hi hn h
 | .sl c, n, i, j, some l, hA, hi, hn, h => OR.dat_to hm hw hA hi (o := .arr c l) rfl h
 | .sl c, n, i, j, none, hA, hi, hn, h => trivial
theorem qjy : ∀ {r : RK} {ι ι' : Nat -> Nat} {n : Nat} {x : ElK r}, (objK r ι n x).live = (objK r ι' n x).live
 | .box r, ι, ι', n, x => rfl
 | .sl c, ι, ι', n, some l => rfl
 | .sl c, ι, ι', n, none => rfl
theorem qhj : ∀ {r : RK} {ι ι' : Nat -> Nat} {n : Nat} {x : ElK r}, (objK r ι n x).blk = (objK r ι' n x).blk
 | .box r, ι, ι', n, x => rfl
 | .sl c, ι, ι', n, some l => rfl
 | .sl c, ι, ι', n, none => rfl
theorem qwp {r : RK} {id : Nat} {u : Value} (h : VR E (argK r id) u) : E.A id := by
 cases r with
 | box r => cases h; assumption
 | sl c => cases h; assumption
theorem qqv {r : RK} {i j : Nat} {u : Value} (hi : NumTo E E' i j) (h : VR E (argK r i) u) : VR E' (argK r j) u := by
 cases r with
 | box r =>
   cases h with
   | ptr hA =>
     obtain ⟨b1, b2, b3, b4, b5⟩ := hi hA
     show VR E' (.ptr j 0) _
     rw [<- b2]; exact .ptr b1
 | sl c =>
   cases h with
   | arr hA hh =>
     obtain ⟨b1, b2, b3, b4, b5⟩ := hi hA
     exact .arr b1 (b4.trans hh)
theorem argsP_env (hm : ∀ b, b ∈ E'.m -> b ∈ E.m) (hw : E'.w = E.w) {ρ ρ' : Nat -> Nat} : ∀ (l : List PK) {k : Nat} {x : ElP l} {us : List Value}, (∀ j, k <= j -> j < k + mP l -> NumTo E E' (ρ j) (ρ' j)) ->
   VRs E (argsP l ρ k x) us -> VRs E' (argsP l ρ' k x) us
 | [], k, x, us, hn, h => by have := h.1; cases us with | nil => exact VRs.nil | cons _ _ => simp [argsP] at this
 | .dat c :: l, k, x, us, hn, h => by
   obtain ⟨u, us, rfl, a1, a2⟩ := VRs.inv (v := asIV c x.1) (cs := argsP l ρ k x.2) h
   exact VRs.cons (qc5 hm hw a1) (argsP_env hm hw l hn a2)
 | .fn f :: l, k, x, us, hn, h => by
   obtain ⟨u, us, rfl, a1, a2⟩ := VRs.inv (v := .fn f []) (cs := argsP l ρ k x) h
   refine VRs.cons ?_ (argsP_env hm hw l hn a2)
   cases a1 with
   | fn hl hh =>
     rename_i us0
     have : us0 = [] := List.length_eq_zero_iff.1 hl.symm
     subst this
     exact .fn (cs := []) rfl (fun i h => by simp at h)
 | .ref r :: l, k, x, us, hn, h => by
   obtain ⟨u, us, rfl, a1, a2⟩ := VRs.inv (v := argK r (ρ k)) (cs := argsP l ρ (k + 1) x.2) h
   exact VRs.cons (qqv (hn k (Nat.le_refl _) (by simp only [mP]; omega)) a1) (argsP_env hm hw l (fun j a b => hn j (by omega) (by simp only [mP]; omega)) a2)
theorem qiu {ρ : Nat -> Nat} : ∀ (l : List PK) {k : Nat} {x : ElP l} {us : List Value} (z : ElP (refs l)), VRs E (argsP l ρ k x) us -> ∃ us', VRs E (argsP (refs l) ρ k z) us'
 | [], k, x, us, z, h => ⟨[], VRs.nil⟩
 | .dat c :: l, k, x, us, z, h => by
   obtain ⟨u, us, rfl, a1, a2⟩ := VRs.inv (v := asIV c x.1) (cs := argsP l ρ k x.2) h
   exact qiu l z a2
 | .fn f :: l, k, x, us, z, h => by
   obtain ⟨u, us, rfl, a1, a2⟩ := VRs.inv (v := .fn f []) (cs := argsP l ρ k x) h
   exact qiu l z a2
 | .ref r :: l, k, x, us, z, h => by
   obtain ⟨u, us, rfl, a1, a2⟩ := VRs.inv (v := argK r (ρ k)) (cs := argsP l ρ (k + 1) x.2) h
   obtain ⟨us', h'⟩ := qiu l z.2 a2
   exact ⟨u :: us', VRs.cons a1 h'⟩
end

def rdC : (c : CT) -> IS -> List IV -> Option (ElC c × List Nat × List IV × IS × Nat)
 | .dat c, S, cs => match icl c S cs with
   | some (x, r, S1, w) => some (x, [], r, S1, w)
   | none => none
 | .arr c, S, cs => match cs with
   | v :: r => match coeV S c v with
     | some (.arr id, S1, w) => some ([], [id], r, S1, w)
     | _ => none
   | [] => none
 | .map k v, S, cs => match cs with
   | .map id :: r => match coeM1 S k v (.map id) with
     | some (S1, w) => some ([], [id], r, S1, w)
     | none => none
   | _ => none
 | .fn f, S, cs => match cs with
   | .fn g [] :: r => cond (Nat.beq g f) (some ((), [], r, S, 0)) none
   | _ => none
def rdR : (r : List CT) -> IS -> List IV -> Option (ElRow r × List Nat × List IV × IS × Nat)
 | [], S, cs => some ((), [], cs, S, 0)
 | c :: l, S, cs => match rdC c S cs with
   | none => none
   | some (x, i1, r1, S1, w1) => match rdR l S1 r1 with
     | none => none
     | some (y, i2, r2, S2, w2) => some ((x, y), i1 ++ i2, r2, S2, w1 ||| w2)
def rdS (c : TC) (S : IS) (v : IV) : Option (Nat × IS × Nat) :=
 match v with
 | .arr id => some (id, S, 2 ^ id)
 | _ => match coeV S c v with
   | some (.arr id, S1, w) => some (id, S1, w)
   | _ => none
def rdP : (l : List PK) -> IS -> List IV -> Option (ElP l × List Nat × List Nat × IS × Nat)
 | [], S, vs => match vs with
   | [] => some ((), [], [], S, 0)
   | _ => none
 | .dat c :: l, S, vs => match vs with
   | v :: vs => cond (fitV c v) (match icl c S (cellsOf v) with
     | some (x, [], S1, w1) => match rdP l S1 vs with
       | some (y, q1, q2, S2, w2) => some ((x, y), q1, q2, S2, w1 ||| w2)
       | none => none
     | _ => none) none
   | [] => none
 | .fn f :: l, S, vs => match vs with
   | .fn g [] :: vs => cond (Nat.beq g f) (rdP l S vs) none
   | _ => none
 | .ref (.sl c) :: l, S, vs => match vs with
   | v :: vs => match rdS c S v with
     | some (id, S1, w1) => match rdP l S1 vs with
       | some (y, q1, q2, S2, w2) => some ((none, y), id :: q1, q2, S2, w1 ||| w2)
       | none => none
     | none => none
   | [] => none
 | .ref (.box r) :: l, S, vs => match vs with
   | .ptr id 0 :: vs => match S.heap.get id with
     | some (.row cs) => match rdR r S cs with
       | some (x, i1, [], S1, w1) => match rdP l S1 vs with
         | some (y, q1, q2, S2, w2) => some ((x, y), id :: q1, i1 ++ q2, S2, 2 ^ id ||| (w1 ||| w2))
         | none => none
       | _ => none
     | _ => none
   | _ => none
section
variable {T : TW} {E : Env} {S : IS}
def Nums (ι : Nat -> Nat) (n : Nat) (q : List Nat) : Prop := ∀ (j id : Nat), q[j]? = some id -> ι (n + j) = id
theorem Nums.fst {ι : Nat -> Nat} {n : Nat} {a b : List Nat} (h : Nums ι n (a ++ b)) : Nums ι n a := fun j id hj => h j id (by rw [List.getElem?_append_left (List.getElem?_eq_some_iff.1 hj).1]; exact hj)
theorem Nums.snd {ι : Nat -> Nat} {n : Nat} {a b : List Nat} (h : Nums ι n (a ++ b)) : Nums ι (n + a.length) b := fun j id hj => by
 have := h (a.length + j) id (by rw [List.getElem?_append_right (by omega), Nat.add_sub_cancel_left]; exact hj)
 rwa [<- Nat.add_assoc] at this
theorem q29 : ∀ (c : CT) {E : Env} {S : IS} {cs : List IV} {x : ElC c} {ids : List Nat} {r : List IV} {S' : IS} {w : Nat} {us : List Value}, rdC c S cs = some (x, ids, r, S', w) -> Pre T E S -> tin T.w w -> VRs E cs us ->
   ∃ E', E'.w = E.w /\ Post T E S E' S' /\ Fresh E S E' /\ ids.length = nC c /\ (∀ id ∈ ids, E'.A id) /\ ∃ us1 us2, us = us1 ++ us2 /\ (∀ ι n, Nums ι n ids -> VRs E' (cellC c ι n x) us1) /\ VRs E' r us2
 | .dat c, E, S, cs, x, ids, r, S', w, us, h, p, hw, hv => by
   simp only [rdC] at h
   split at h <;> cases h
   rename_i h1
   obtain ⟨E1, e1, q1, f1, us1, us2, e2, v1, v2⟩ := qcf c h1 p hw hv
   exact ⟨E1, e1, q1, f1, rfl, fun id h => (by cases h), us1, us2, e2, fun ι n _ => v1, v2⟩
 | .arr c, E, S, cs, x, ids, r, S', w, us, h, p, hw, hv => by
   simp only [rdC] at h
   cases cs with
   | nil => cases h
   | cons v cs =>
   simp only at h
   split at h <;> cases h
   rename_i id h1
   obtain ⟨u, us, rfl, a1, a2⟩ := hv.inv
   obtain ⟨E1, e1, q1, f1, v1⟩ := qg1 p h1 hw a1
   have hA : E1.A id := by cases v1; assumption
   refine ⟨E1, e1, q1, f1, rfl, fun id' h => by rw [List.mem_singleton.1 h]; exact hA, [u], us, rfl, fun ι n hn => ?_, a2.mono (q1.env p)⟩
   have := hn 0 id rfl
   simp only [cellC]
   rw [Nat.add_zero] at this
   rw [this]; exact VRs.cons v1 VRs.nil
 | .map kc vc, E, S, cs, x, ids, r, S', w, us, h, p, hw, hv => by
   cases cs with
   | nil => cases h
   | cons v cs =>
   cases v <;> try (cases h; done)
   rename_i id
   simp only [rdC] at h
   split at h <;> cases h
   rename_i h1
   obtain ⟨u, us, rfl, a1, a2⟩ := hv.inv
   obtain ⟨E1, e1, q1, f1⟩ := qkz p h1 hw a1
   have v1 := a1.mono (q1.env p)
   have hA : E1.A id := by cases v1; assumption
   refine ⟨E1, e1, q1, f1, rfl, fun id' h => by rw [List.mem_singleton.1 h]; exact hA, [u], us, rfl, fun ι n hn => ?_, a2.mono (q1.env p)⟩
   have := hn 0 id rfl
   simp only [cellC]
   rw [Nat.add_zero] at this
   rw [this]; exact VRs.cons v1 VRs.nil
 | .fn f, E, S, cs, x, ids, r, S', w, us, h, p, hw, hv => by
   simp only [rdC] at h
   split at h <;> try cases h
   rename_i g cs
   cases hb : Nat.beq g f with
   | false => rw [hb] at h; cases h
   | true =>
   rw [hb] at h
   cases h
   obtain rfl := Nat.eq_of_beq_eq_true hb
   obtain ⟨u, us, rfl, a1, a2⟩ := hv.inv
   exact ⟨E, rfl, Post.refl p, Fresh.refl E S, rfl, fun id h => (by cases h), [u], us, rfl, fun ι n _ => VRs.cons a1 VRs.nil, a2⟩
theorem qq3 : ∀ (c : List CT) {E : Env} {S : IS} {cs : List IV} {x : ElRow c} {ids : List Nat} {r : List IV} {S' : IS} {w : Nat} {us : List Value}, rdR c S cs = some (x, ids, r, S', w) -> Pre T E S -> tin T.w w -> VRs E cs us ->
   ∃ E', E'.w = E.w /\ Post T E S E' S' /\ Fresh E S E' /\ ids.length = nR c /\ (∀ id ∈ ids, E'.A id) /\ ∃ us1 us2, us = us1 ++ us2 /\ (∀ ι n, Nums ι n ids -> VRs E' (cellR c ι n x) us1) /\ VRs E' r us2
 | [], E, S, cs, x, ids, r, S', w, us, h, p, hw, hv => by
   cases h
   exact ⟨E, rfl, Post.refl p, Fresh.refl E S, rfl, fun id h => (by cases h), [], us, rfl, fun _ _ _ => VRs.nil, hv⟩
 | c :: l, E, S, cs, x, ids, r, S', w, us, h, p, hw, hv => by
   simp only [rdR] at h
   split at h
   · cases h
   rename_i x1 i1 r1 S1 w1 h1
   split at h <;> cases h
   rename_i y i2 w2 h2
   obtain ⟨g1, g2⟩ := qai hw
   obtain ⟨E1, e1, q1, f1, l1, A1, us1, us2, rfl, v1, v2⟩ := q29 c h1 p g1 hv
   obtain ⟨E2, e2, q2, f2, l2, A2, us3, us4, rfl, v3, v4⟩ := qq3 l h2 (q1.pre p) g2 v2
   have hle := q2.env (q1.pre p)
   refine ⟨E2, e2.trans e1, Post.trans p q1 f1 q2, f1.trans f2 q1.le, by simp [l1, l2, nR], fun id h => ?_, us1 ++ us3, us4, (List.append_assoc _ _ _).symm, fun ι n hn => ?_, v4⟩
   · rcases List.mem_append.1 h with h | h
     · exact (hle.alw _ (A1 id h)).1
     · exact A2 id h
   · refine VRs.append ((v1 ι n hn.fst).mono hle) (v3 ι _ ?_)
     rw [<- l1]; exact hn.snd
def qia (E : Env) (rows : List Nat) (os : List IObj) : Prop := ∀ (j : Nat) (o : IObj), os[j]? = some o -> ∃ id, rows[j]? = some id /\ E.A id /\ (o.blk = true -> E.hb id = true) /\ OR E id o
theorem q3d {c : TC} {v : IV} {id : Nat} {S' : IS} {w : Nat} {u : Value} (h : rdS c S v = some (id, S', w)) (p : Pre T E S) (hw : tin T.w w) (hv : VR E v u) :
   ∃ E', E'.w = E.w /\ Post T E S E' S' /\ Fresh E S E' /\ E'.A id /\ VR E' (.arr id) u := by
 unfold rdS at h
 split at h
 · cases h
   have hA : E.A id := by cases hv; assumption
   exact ⟨E, rfl, Post.refl p, Fresh.refl E S, hA, hv⟩
 · split at h <;> cases h
   rename_i h1
   obtain ⟨E1, e1, q1, f1, v1⟩ := qg1 p h1 hw hv
   have hA : E1.A id := by cases v1; assumption
   exact ⟨E1, e1, q1, f1, hA, v1⟩
theorem qc0 : ∀ (l : List PK) {E : Env} {S : IS} {vs : List IV} {x : ElP l} {rows subs : List Nat} {S' : IS} {w : Nat} {us : List Value}, rdP l S vs = some (x, rows, subs, S', w) -> Pre T E S -> tin T.w w -> VRs E vs us ->
   ∃ E', E'.w = E.w /\ Post T E S E' S' /\ Fresh E S E' /\ rows.length = mP l /\ subs.length = nP l /\ (∀ id ∈ subs, E'.A id) /\ (∀ ρ k, Nums ρ k rows -> VRs E' (argsP l ρ k x) us) /\ (∀ ι n, Nums ι n subs -> qia E' rows (rowsP l ι n x))
 | [], E, S, vs, x, rows, subs, S', w, us, h, p, hw, hv => by
   cases vs with
   | cons v vs => cases h
   | nil => cases h; exact ⟨E, rfl, Post.refl p, Fresh.refl E S, rfl, rfl, fun id h => (by cases h), fun _ _ _ => hv, fun _ _ _ j o h => (by simp [rowsP] at h)⟩
 | .dat c :: l, E, S, vs, x, rows, subs, S', w, us, h, p, hw, hv => by
   cases vs with
   | nil => cases h
   | cons v vs =>
   simp only [rdP] at h
   cases hb : fitV c v with
   | false => rw [hb] at h; cases h
   | true =>
   rw [hb, cond_true] at h
   split at h <;> try cases h
   rename_i x1 S1 w1 h1
   split at h <;> cases h
   rename_i y w2 h2
   obtain ⟨g1, g2⟩ := qai hw
   obtain ⟨u, us, rfl, a1, a2⟩ := hv.inv
   obtain ⟨E1, e1, q1, f1, us1, us2, e2, v1, v2⟩ := qcf c h1 p g1 (a1.cells (qpp hb))
   have : us2 = [] := by have := v2.1; simpa using this.symm
   subst this
   rw [List.append_nil] at e2
   rw [<- e2] at v1
   have b1 := qpy hb a1 v1
   obtain ⟨E2, e3, q2, f2, l1, l2, A2, b2, b3⟩ := qc0 l h2 (q1.pre p) g2 (a2.mono (q1.env p))
   exact ⟨E2, e3.trans e1, Post.trans p q1 f1 q2, f1.trans f2 q1.le, l1, l2, A2, fun ρ k hk => VRs.cons (b1.mono (q2.env (q1.pre p))) (b2 ρ k hk), b3⟩
 | .fn f :: l, E, S, vs, x, rows, subs, S', w, us, h, p, hw, hv => by
   simp only [rdP] at h
   split at h <;> try cases h
   rename_i g vs
   cases hb : Nat.beq g f with
   | false => rw [hb] at h; cases h
   | true =>
   rw [hb] at h
   have h : rdP l S vs = some (x, rows, subs, S', w) := h
   obtain rfl := Nat.eq_of_beq_eq_true hb
   obtain ⟨u, us, rfl, a1, a2⟩ := hv.inv
   obtain ⟨E2, e3, q2, f2, l1, l2, A2, b2, b3⟩ := qc0 l h p hw a2
   exact ⟨E2, e3, q2, f2, l1, l2, A2, fun ρ k hk => VRs.cons (a1.mono (q2.env p)) (b2 ρ k hk), b3⟩
 | .ref (.sl c) :: l, E, S, vs, x, rows, subs, S', w, us, h, p, hw, hv => by
   cases vs with
   | nil => cases h
   | cons v vs =>
   simp only [rdP] at h
   split at h <;> try cases h
   rename_i id S1 w1 h1
   split at h <;> cases h
   rename_i y q1 w2 h2
   obtain ⟨g1, g2⟩ := qai hw
   obtain ⟨u, us, rfl, a1, a2⟩ := hv.inv
   obtain ⟨E1, e1, p1, f1, A1, v1⟩ := q3d h1 p g1 a1
   have hle1 := p1.env p
   obtain ⟨E2, e3, p2, f2, l2, l3, A2, b2, b3⟩ := qc0 l h2 (p1.pre p) g2 (a2.mono hle1)
   have hle2 := p2.env (p1.pre p)
   have v2 := v1.mono hle2
   have hA2 : E2.A id := by cases v2; assumption
   refine ⟨E2, e3.trans e1, Post.trans p p1 f1 p2, f1.trans f2 p1.le, by simp [l2, mP], by simp [l3, nP, nK], A2, fun ρ k hk => ?_, fun ι n hn j o hj => ?_⟩
   · refine VRs.cons ?_ (b2 ρ (k + 1) fun j id' hj => ?_)
     · have := hk 0 id rfl
       rw [Nat.add_zero] at this
       rw [this]; exact v2
     · have := hk (j + 1) id' (by simpa using hj)
       rwa [show k + (j + 1) = k + 1 + j by omega] at this
   · cases j with
     | zero =>
       simp only [rowsP, List.getElem?_cons_zero, Option.some.injEq] at hj
       subst hj
       exact ⟨id, rfl, hA2, fun h => (by cases h), trivial⟩
     | succ j =>
       simp only [rowsP, List.getElem?_cons_succ] at hj
       obtain ⟨id', d1, d2, d3, d4⟩ := b3 ι _ hn j o hj
       exact ⟨id', (by rw [List.getElem?_cons_succ]; exact d1), d2, d3, d4⟩
 | .ref (.box r) :: l, E, S, vs, x, rows, subs, S', w, us, h, p, hw, hv => by
   cases vs with
   | nil => cases h
   | cons v vs =>
   cases v <;> try (cases h; done)
   rename_i id off
   cases off with
   | succ _ => cases h
   | zero =>
   simp only [rdP] at h
   split at h <;> try cases h
   rename_i cs ho
   split at h <;> try cases h
   rename_i x1 i1 S1 w1 h1
   split at h <;> cases h
   rename_i y q1 q2 w2 h2
   obtain ⟨g0, g3⟩ := qai hw
   obtain ⟨g1, g2⟩ := qai g3
   have hT := qac g0
   obtain ⟨u, us, rfl, a1, a2⟩ := hv.inv
   have hA : E.A id := by cases a1; assumption
   obtain ⟨cells, t, k1, k2, k3, k4⟩ := p.st.objs id (T.sub _ hT) hA _ ho
   have hblk := p.st.blk id (T.sub _ hT) hA _ ho rfl
   obtain ⟨E1, e1, p1, f1, l1, A1, us1, us2, e2, v1, v2⟩ := qq3 r h1 p g1 k4
   have : us2 = [] := by have := v2.1; simpa using this.symm
   subst this
   rw [List.append_nil] at e2
   have hle1 := p1.env p
   obtain ⟨E2, e3, p2, f2, l2, l3, A2, b2, b3⟩ := qc0 l h2 (p1.pre p) g2 (a2.mono hle1)
   have hle2 := p2.env (p1.pre p)
   obtain ⟨c1, c2, c3, c4, c5⟩ := (hle1.trans hle2).alw id hA
   refine ⟨E2, e3.trans e1, Post.trans p p1 f1 p2, f1.trans f2 p1.le, by simp [l2, mP], by simp [l1, l3, nP, nK], fun id' h => ?_, fun ρ k hk => ?_, fun ι n hn j o hj => ?_⟩
   · rcases List.mem_append.1 h with h | h
     · exact (hle2.alw _ (A1 id' h)).1
     · exact A2 id' h
   · refine VRs.cons ?_ (b2 ρ (k + 1) fun j id' hj => ?_)
     · have := hk 0 id rfl
       rw [Nat.add_zero] at this
       rw [this]; exact a1.mono (hle1.trans hle2)
     · have := hk (j + 1) id' (by simpa using hj)
       rwa [show k + (j + 1) = k + 1 + j by omega] at this
   · cases j with
     | zero =>
       simp only [rowsP, List.getElem?_cons_zero, Option.some.injEq] at hj
       subst hj
       refine ⟨id, rfl, c1, fun _ => c5.trans hblk, ?_⟩
       have hv1 := (v1 ι n hn.fst).mono hle2
       have hl : (cellR r ι n x1).length = cs.length := by rw [hv1.1, <- e2, <- k4.1]
       refine ⟨cells, t, by rw [c2, e3, e1]; exact k1, by rw [c3]; exact k2, by rw [hl]; exact k3, ?_⟩
       rw [hl, e2]; exact hv1
     | succ j =>
       simp only [rowsP, List.getElem?_cons_succ] at hj
       have hn2 : Nums ι (n + nK (.box r)) q2 := by show Nums ι (n + nR r) q2; rw [<- l1]; exact hn.snd
       obtain ⟨id', d1, d2, d3, d4⟩ := b3 ι _ hn2 j o hj
       exact ⟨id', (by rw [List.getElem?_cons_succ]; exact d1), d2, d3, d4⟩
end

def qp0 (k v k' v' : TC) (l : List (El k × El v)) : Option (List (El k' × El v')) :=
 if h : TC.beq k k' = true /\ TC.beq v v' = true then some (TC.beq_eq h.1 ▸ TC.beq_eq h.2 ▸ l) else none
theorem q12 {k v k' v' : TC} {l : List (El k × El v)} {l' : List (El k' × El v')} (h : qp0 k v k' v' l = some l') : IObj.tmap k v l = .tmap k' v' l' := by
 unfold qp0 at h
 split at h
 · rename_i e
   have e1 := TC.beq_eq e.1
   have e2 := TC.beq_eq e.2
   subst e1; subst e2
   cases h; rfl
 · cases h
theorem qrc {c d : TC} {l : List (El c)} {l' : List (El d)} (h : qa7 c d l = some l') : IObj.arr c l = .arr d l' := by
 obtain ⟨rfl, rfl⟩ := qbi h; rfl
def fiC : (c : CT) -> List Nat -> IS -> ElC c -> Option (ElC c × List Nat)
 | .dat _, q, _, x => some (x, q)
 | .arr c, q, S, _ => match q with
   | id :: q => match S.heap.get id with
     | some (.arr c' l) => match qa7 c' c l with
       | some l' => some (l', q)
       | none => none
     | _ => none
   | [] => none
 | .map k v, q, S, _ => match q with
   | id :: q => match S.heap.get id with
     | some (.tmap k' v' es) => match qp0 k' v' k v es with
       | some l' => some (l', q)
       | none => none
     | _ => none
   | [] => none
 | .fn _, q, _, x => some (x, q)
def fiR : (r : List CT) -> List Nat -> IS -> ElRow r -> Option (ElRow r × List Nat)
 | [], q, _, _ => some ((), q)
 | c :: cs, q, S, x => match fiC c q S x.1 with
   | none => none
   | some (x1, q1) => match fiR cs q1 S x.2 with
     | none => none
     | some (x2, q2) => some ((x1, x2), q2)
def rowB (S : IS) (id : Nat) : Bool := match S.heap.get id with
 | some (.row _) => true
 | _ => false
theorem qk7 {S : IS} {id : Nat} (h : rowB S id = true) : ∃ cs, S.H id = some (.row cs) := by
 unfold rowB at h
 split at h
 · rename_i cs ho; exact ⟨cs, ho⟩
 · cases h
def fiS (c : TC) (id : Nat) (S : IS) : Option (Option (List (El c))) := match S.heap.get id with
 | some (.arr c' l) => match qa7 c' c l with
   | some l' => some (some l')
   | none => none
 | some .dead => some none
 | _ => none
def fiP : (l : List PK) -> List Nat -> List Nat -> IS -> ElP l -> Option (ElP l)
 | [], _, _, _, _ => some ()
 | .dat _ :: l, r, q, S, x => match fiP l r q S x.2 with
   | some y => some (x.1, y)
   | none => none
 | .fn _ :: l, r, q, S, x => fiP l r q S x
 | .ref (.box k) :: l, r, q, S, x => match r with
   | id :: r => cond (rowB S id) (match fiR k q S x.1 with
     | none => none
     | some (x1, q1) => match fiP l r q1 S x.2 with
       | some y => some (x1, y)
       | none => none) none
   | [] => none
 | .ref (.sl c) :: l, r, q, S, x => match r with
   | id :: r => match fiS c id S with
     | none => none
     | some x1 => match fiP l r q S x.2 with
       | some y => some (x1, y)
       | none => none
   | [] => none
theorem q1u {S : IS} : ∀ (c : CT) {q q' : List Nat} {x x' : ElC c}, fiC c q S x = some (x', q') -> (∀ ι n, cellC c ι n x' = cellC c ι n x) /\ ∃ q1, q = q1 ++ q' /\ q1.length = nC c /\ ∀ j : Nat, (subC c x')[j]? = (q1[j]?).bind fun id => S.heap.get id
 | .dat c, q, q', x, x', h => by cases h; exact ⟨fun _ _ => rfl, [], rfl, rfl, fun j => by simp [subC]⟩
 | .arr c, q, q', x, x', h => by
   cases q with
   | nil => cases h
   | cons id q =>
   simp only [fiC] at h
   split at h <;> try cases h
   rename_i c' l ho
   split at h <;> cases h
   rename_i hl
   refine ⟨fun _ _ => rfl, [id], rfl, rfl, fun j => ?_⟩
   cases j with
   | zero => simp only [subC, List.getElem?_cons_zero, Option.bind_some, ho, qrc hl]
   | succ j => simp [subC]
 | .map k v, q, q', x, x', h => by
   cases q with
   | nil => cases h
   | cons id q =>
   simp only [fiC] at h
   split at h <;> try cases h
   rename_i k' v' es ho
   split at h <;> cases h
   rename_i hl
   refine ⟨fun _ _ => rfl, [id], rfl, rfl, fun j => ?_⟩
   cases j with
   | zero => simp only [subC, List.getElem?_cons_zero, Option.bind_some, ho, q12 hl]
   | succ j => simp [subC]
 | .fn _, q, q', x, x', h => by cases h; exact ⟨fun _ _ => rfl, [], rfl, rfl, fun j => by simp [subC]⟩
theorem qn8 {α β : Type} {f : α -> Option β} {a1 a2 : List β} {q1 q2 : List α} (hl : a1.length = q1.length) (h1 : ∀ j : Nat, a1[j]? = (q1[j]?).bind f) (h2 : ∀ j : Nat, a2[j]? = (q2[j]?).bind f) (j : Nat) :
   (a1 ++ a2)[j]? = ((q1 ++ q2)[j]?).bind f := by
 by_cases h : j < a1.length
 · rw [List.getElem?_append_left h, List.getElem?_append_left (by omega), h1]
 · rw [List.getElem?_append_right (by omega), List.getElem?_append_right (by omega), h2, hl]
theorem qti {S : IS} : ∀ (c : List CT) {q q' : List Nat} {x x' : ElRow c}, fiR c q S x = some (x', q') -> (∀ ι n, cellR c ι n x' = cellR c ι n x) /\ ∃ q1, q = q1 ++ q' /\ q1.length = nR c /\ ∀ j : Nat, (subR c x')[j]? = (q1[j]?).bind fun id => S.heap.get id
 | [], q, q', x, x', h => by cases h; exact ⟨fun _ _ => rfl, [], rfl, rfl, fun j => by simp [subR]⟩
 | c :: cs, q, q', x, x', h => by
   simp only [fiR] at h
   split at h
   · cases h
   rename_i x1 q1 h1
   split at h <;> cases h
   rename_i x2 h2
   obtain ⟨a1, p1, rfl, a2, a3⟩ := q1u c h1
   obtain ⟨b1, p2, rfl, b2, b3⟩ := qti cs h2
   refine ⟨fun ι n => by simp only [cellR, a1, b1], p1 ++ p2, (List.append_assoc _ _ _).symm, by simp [a2, b2, nR], fun j => ?_⟩
   exact qn8 (by rw [qha, a2]) a3 b3 j
theorem qys {c : TC} {id : Nat} {S : IS} {x : Option (List (El c))} (h : fiS c id S = some x) (ι : Nat -> Nat) (n : Nat) : S.heap.get id = some (objK (.sl c) ι n x) := by
 unfold fiS at h
 split at h <;> try cases h
 · rename_i c' l ho
   split at h <;> cases h
   rename_i l' hl
   rw [ho]; exact congrArg some (qrc hl)
 · rename_i ho; exact ho
theorem qdc {S : IS} : ∀ (l : List PK) {r q : List Nat} {x x' : ElP l}, fiP l r q S x = some x' -> q.length = nP l ->
   (∀ (ι : Nat -> Nat) (n j : Nat) (o : IObj), (rowsP l ι n x')[j]? = some o -> ∃ id, r[j]? = some id /\ (((rowsP l ι n x)[j]? = some o /\ rowB S id = true) \/ S.heap.get id = some o)) /\ (∀ ρ k, argsP l ρ k x' = argsP l ρ k x) /\ ∀ j : Nat, (subsP l x')[j]? = (q[j]?).bind fun id => S.heap.get id
 | [], r, q, x, x', h, hl => by
   cases h
   have : q = [] := by simpa [nP] using hl
   subst this
   exact ⟨fun _ _ j o hj => by simp [rowsP] at hj, fun _ _ => rfl, fun j => by simp [subsP]⟩
 | .dat _ :: l, r, q, x, x', h, hl => by
   simp only [fiP] at h
   split at h <;> cases h
   rename_i y h1
   obtain ⟨a1, a2, a3⟩ := qdc l h1 hl
   exact ⟨fun ι n => a1 ι n, fun ρ k => by simp only [argsP, a2], a3⟩
 | .fn f :: l, r, q, x, x', h, hl => by
   obtain ⟨a1, a2, a3⟩ := qdc l h hl
   exact ⟨fun ι n => a1 ι n, fun ρ k => congrArg (fun q => IV.fn f [] :: q) (a2 ρ k), a3⟩
 | .ref (.box k) :: l, r, q, x, x', h, hl => by
   cases r with
   | nil => cases h
   | cons id r =>
   simp only [fiP] at h
   cases hb : rowB S id with
   | false => rw [hb] at h; cases h
   | true =>
   rw [hb, cond_true] at h
   split at h
   · cases h
   rename_i x1 q1 h1
   split at h <;> cases h
   rename_i y h2
   obtain ⟨a1, p1, rfl, a2, a3⟩ := qti k h1
   obtain ⟨b1, b2, b3⟩ := qdc l h2 (by simp only [List.length_append, nP, nK] at hl; omega)
   refine ⟨fun ι n j o hj => ?_, fun ρ k => by simp only [argsP, b2], fun j => ?_⟩
   · cases j with
     | zero =>
       simp only [rowsP, List.getElem?_cons_zero, Option.some.injEq] at hj
       refine ⟨id, rfl, .inl ⟨?_, hb⟩⟩
       rw [<- hj]
       simp only [rowsP, List.getElem?_cons_zero, objK, a1]
     | succ j => exact b1 ι _ j o hj
   · exact qn8 ((qht k x1).trans a2.symm) a3 b3 j
 | .ref (.sl c) :: l, r, q, x, x', h, hl => by
   cases r with
   | nil => cases h
   | cons id r =>
   simp only [fiP] at h
   split at h
   · cases h
   rename_i x1 h1
   split at h <;> cases h
   rename_i y h2
   obtain ⟨b1, b2, b3⟩ := qdc l h2 (by simpa only [nP, nK, Nat.zero_add] using hl)
   refine ⟨fun ι n j o hj => ?_, fun ρ k => by simp only [argsP, b2], b3⟩
   cases j with
   | zero =>
     simp only [rowsP, List.getElem?_cons_zero, Option.some.injEq] at hj
     exact ⟨id, rfl, .inr (by rw [<- hj]; exact qys h1 ι n)⟩
   | succ j => exact b1 ι _ j o hj
def RowsL (E : Env) (S : IS) (rows : List Nat) (os : List IObj) : Prop := ∀ (j : Nat) (o : IObj), os[j]? = some o -> ∃ id, rows[j]? = some id /\ E.A id /\ (o.blk = true -> E.hb id = true) /\ OR E id o /\ (o.live = true -> ∃ o0, S.H id = some o0 /\ o0.live = true)
theorem qlu {T : TW} {E : Env} {S : IS} {l : List PK} {rows q : List Nat} {x x' : ElP l} (h : fiP l rows q S x = some x') (hl : q.length = nP l) (p : Pre T E S) (hT : ∀ id ∈ rows, T.r id) {ι : Nat -> Nat} {n : Nat}
   (hr : qia E rows (rowsP l ι n x)) : RowsL E S rows (rowsP l ι n x') := fun j o hj => by
 obtain ⟨id, d1, d2⟩ := (qdc l h hl).1 ι n j o hj
 rcases d2 with ⟨d2, d3⟩ | d2
 · obtain ⟨id', g1, g2, g3, g4⟩ := hr j o d2
   rw [d1] at g1; cases g1
   obtain ⟨cs, hcs⟩ := qk7 d3
   exact ⟨id, d1, g2, g3, g4, fun _ => ⟨_, hcs, rfl⟩⟩
 · have hj2 : j < (rowsP l ι n x).length := by
     have := (List.getElem?_eq_some_iff.1 hj).1
     rw [qao] at this ⊢; exact this
   obtain ⟨id', g1, g2, g3, g4⟩ := hr j _ (List.getElem?_eq_getElem hj2)
   rw [d1] at g1; cases g1
   have hTr := hT id (List.mem_of_getElem? d1)
   exact ⟨id, d1, g2, fun hb => p.st.blk id hTr g2 o d2 hb, p.st.objs id hTr g2 o d2, fun hl => ⟨o, d2, hl⟩⟩
end Go.Jx
end

section
namespace Go.Jx
open Go Go.Sx Go.RowKit
universe u

structure SmR where
 ps : List PK
 rts : List (Bool × TC)
 f : ElP ps -> Option (ElR rts × ElP (refs ps))
def RetB (B : Nat) (T : TW) (E : Env) (S : IS) (r : Res) : Ending -> World -> Prop := fun e w' => ∃ u E', e = .returned u /\ E'.w = w' /\ VR E' r.v u /\ PostB B T E S E' r.S
def newO (s : SmR) (y : ElR s.rts) (z : ElP (refs s.ps)) : List IObj := subsP (refs s.ps) z ++ resO s.rts y
def ScB (s : SmR) (y : ElR s.rts) (z : ElP (refs s.ps)) : IS := addO (rowsP (refs s.ps) idN (mP s.ps) z ++ newO s y z) S0
def vB (s : SmR) (base : Nat) (y : ElR s.rts) : IV := tupI (resV s.rts (base + nP (refs s.ps)) y)
structure ConR (P : Program) (f : Nat) (s : SmR) : Prop where
 callable : qag P f
 calls : ∀ (E : Env) (x : ElP s.ps) (us : List Value) (y : ElR s.rts) (z : ElP (refs s.ps)), s.f x = some (y, z) -> Pre T0 E (Sc s.ps x) -> VRs E (argsP s.ps idN 0 x) us ->
   CallsIn Fence.wide 0 P f us.toArray E.w (RetB (mP s.ps) T0 E (Sc s.ps x) ⟨vB s (mP s.ps) y, ScB s y z, 0, 0⟩)
theorem qa3 : ∀ l : List PK, mP (refs l) = mP l
 | [] => rfl
 | .dat _ :: l => qa3 l
 | .fn _ :: l => qa3 l
 | .ref _ :: l => by simp only [refs, mP, qa3 l]
def bitsL : List Nat -> Nat
 | [] => 0
 | id :: l => 2 ^ id ||| bitsL l
theorem qpw {T : Nat -> Prop} : ∀ {l : List Nat}, tin T (bitsL l) -> ∀ id ∈ l, T id
 | [], _, id, h => by cases h
 | i :: l, ht, id, h => by
   obtain ⟨h1, h2⟩ := qai ht
   rcases List.mem_cons.1 h with h | h
   · rw [h]; exact qac h1
   · exact qpw h2 id h
theorem qsj : ∀ {l : List Nat} {id : Nat}, id ∈ l -> (bitsL l).testBit id = true
 | [], id, h => by cases h
 | i :: l, id, h => by
   simp only [bitsL, Nat.testBit_or, Bool.or_eq_true]
   rcases List.mem_cons.1 h with h | h
   · rw [h]; exact .inl (Nat.testBit_two_pow_self)
   · exact .inr (qsj h)
def killL : List Nat -> IS -> IS
 | [], S => S
 | id :: l, S => killL l (S.set id .dead)
def setL : List Nat -> List IObj -> IS -> IS
 | id :: l, o :: os, S => setL l os (S.set id o)
 | _, _, S => S
theorem qi5 : ∀ (l : List Nat) (S : IS), (killL l S).next = S.next
 | [], S => rfl
 | id :: l, S => qi5 l _
theorem qih : ∀ (l : List Nat) (os : List IObj) (S : IS), (setL l os S).next = S.next
 | [], os, S => rfl
 | _ :: _, [], S => rfl
 | id :: l, o :: os, S => qih l os _
theorem qg5 : ∀ {l : List Nat} {S : IS} {k : Nat}, k ∉ l -> (killL l S).H k = S.H k
 | [], S, k, h => rfl
 | id :: l, S, k, h => by
   simp only [List.mem_cons, not_or] at h
   unfold killL
   rw [qg5 h.2, IS.H_set, up_ne _ _ h.1]
theorem qlh : ∀ {l : List Nat} {S : IS} {k : Nat}, k ∈ l -> (killL l S).H k = some .dead
 | [], S, k, h => by cases h
 | id :: l, S, k, h => by
   unfold killL
   by_cases hk : k ∈ l
   · exact qlh hk
   · rw [qg5 hk, IS.H_set]
     rcases List.mem_cons.1 h with h | h
     · rw [h, qad]
     · exact absurd h hk
theorem qdl : ∀ {l : List Nat} {os : List IObj} {S : IS} {k : Nat}, k ∉ l -> (setL l os S).H k = S.H k
 | [], os, S, k, h => rfl
 | _ :: _, [], S, k, h => rfl
 | id :: l, o :: os, S, k, h => by
   simp only [List.mem_cons, not_or] at h
   unfold setL
   rw [qdl h.2, IS.H_set, up_ne _ _ h.1]
theorem qlb : ∀ {l : List Nat} {os : List IObj} {S : IS} {j k : Nat}, l.Nodup -> os.length = l.length -> l[j]? = some k -> (setL l os S).H k = os[j]?
 | [], os, S, j, k, hn, hl, h => by simp at h
 | _ :: _, [], S, j, k, hn, hl, h => by simp at hl
 | id :: l, o :: os, S, j, k, hn, hl, h => by
   obtain ⟨h1, h2⟩ := List.nodup_cons.1 hn
   unfold setL
   cases j with
   | zero =>
     simp only [List.getElem?_cons_zero, Option.some.injEq] at h
     subst h
     rw [qdl h1, IS.H_set, qad]; rfl
   | succ j =>
     rw [List.getElem?_cons_succ] at h ⊢
     exact qlb h2 (by simpa using hl) h
def backS (s : SmR) (n : Nat) (rows subs : List Nat) (y : ElR s.rts) (z : ElP (refs s.ps)) (S : IS) : IS :=
 addO (newO s y z) (setL rows (rowsP (refs s.ps) (fun k => n + (k - mP s.ps)) (mP s.ps) z) (killL subs S))
def exR (s : SmR) (vs : List IV) (S : IS) : Option Res :=
 match rdP s.ps S vs with
 | none => none
 | some (x0, rows, subs, S1, w) => cond (ndB (rows ++ subs)) (match fiP s.ps rows subs S1 x0 with
   | none => none
   | some x => match s.f x with
     | none => none
     | some (y, z) => some ⟨vB s S1.next y, backS s S1.next rows subs y z S1, 0, (w ||| bitsL (rows ++ subs)) ||| cond (Nat.blt 0 rows.length) 0 (2 ^ S1.next)⟩) none
theorem qnt : ∀ (l : List PK) (x : ElP l) (o : IObj), o ∈ subsP l x -> datO o = true := by
 have hr : ∀ (r : List CT) (x : ElRow r) (o : IObj), o ∈ subR r x -> datO o = true := by
   intro r
   induction r with
   | nil => intro x o h; cases h
   | cons c cs ih =>
     intro x o h
     rcases List.mem_append.1 h with h | h
     · cases c with
       | dat c => cases h
       | arr c => rw [List.mem_singleton.1 h]; rfl
       | map k v => rw [List.mem_singleton.1 h]; rfl
       | fn f => cases h
     · exact ih x.2 o h
 intro l
 induction l with
 | nil => intro x o h; cases h
 | cons p l ih =>
   intro x o h
   cases p with
   | dat c => exact ih x.2 o h
   | fn f => exact ih x o h
   | ref r =>
     rcases List.mem_append.1 h with h | h
     · cases r with
       | box r => exact hr r x.1 o h
       | sl c => cases h
     · exact ih x.2 o h
theorem qom {s : SmR} {y : ElR s.rts} {z : ElP (refs s.ps)} {o : IObj} (h : o ∈ newO s y z) : datO o = true := by
 rcases List.mem_append.1 h with h | h
 · exact qnt _ _ o h
 · obtain ⟨c, l, rfl⟩ := qgd _ _ _ h; rfl
theorem qls {E E' : Env} (hm : ∀ b, b ∈ E'.m -> b ∈ E.m) (hw : E'.w = E.w) : ∀ (cs : List (Bool × TC)) {k k' : Nat} {y : ElR cs} {us : List Value}, (∀ j, NumTo E E' (k + j) (k' + j)) -> VRs E (resV cs k y) us -> VRs E' (resV cs k' y) us
 | [], k, k', y, us, hn, h => by have := h.1; cases us with | nil => exact VRs.nil | cons _ _ => simp [resV] at this
 | (true, c) :: cs, k, k', y, us, hn, h => by
   obtain ⟨u, us, rfl, a1, a2⟩ := VRs.inv (v := .arr k) (cs := resV cs (k + 1) y.2) h
   refine VRs.cons ?_ (qls hm hw cs (fun j => ?_) a2)
   · cases a1 with
     | arr hA hh =>
       obtain ⟨b1, b2, b3, b4, b5⟩ := hn 0 hA
       exact .arr b1 (b4.trans hh)
   · have := hn (j + 1)
     rwa [show k + (j + 1) = k + 1 + j by omega, show k' + (j + 1) = k' + 1 + j by omega] at this
 | (false, c) :: cs, k, k', y, us, hn, h => by
   obtain ⟨u, us, rfl, a1, a2⟩ := VRs.inv (v := asIV c y.1) (cs := resV cs k y.2) h
   exact VRs.cons (qc5 hm hw a1) (qls hm hw cs hn a2)
theorem qf4 : ∀ (cs : List (Bool × TC)) (i : Nat) (y : ElR cs), (resV cs i y).length = cs.length
 | [], _, _ => rfl
 | (true, _) :: cs, i, y => by simp only [resV, List.length_cons, qf4 cs]
 | (false, _) :: cs, i, y => by simp only [resV, List.length_cons, qf4 cs]
theorem tup_to {E E' : Env} {vs ws : List IV} {u : Value} (h : ∀ us, VRs E vs us -> VRs E' ws us) (hl : vs.length = ws.length) (hu : VR E (tupI vs) u) : VR E' (tupI ws) u := by
 match vs, ws, hl with
 | [], [], _ =>
   cases hu with
   | tup hl hh => have := h _ ⟨hl, hh⟩; exact .tup this.1 this.2
 | [v], [w], _ =>
   have := h [u] (VRs.cons hu VRs.nil)
   exact this.2 0 (by simp) (by simp)
 | v1 :: v2 :: vs, w1 :: w2 :: ws, _ =>
   cases hu with
   | tup hl hh => have := h _ ⟨hl, hh⟩; exact .tup this.1 this.2
section
variable {P : Program} {T : TW} {E : Env} {S : IS}
theorem q2z {f : Nat} {s : SmR} (hc : ConR P f s) {vs : List IV} {r : Res} (h : exR s vs S = some r) {us : List Value} (p : Pre T E S) (hwr : tin T.w r.wr) (hv : VRs E vs us) :
   qag P f /\ CallsIn Fence.wide 0 P f us.toArray E.w (RetE T E S r) := by
 refine ⟨hc.callable, ?_⟩
 unfold exR at h
 split at h
 · cases h
 rename_i x0 rows subs S1 w hrd
 cases hb1 : ndB (rows ++ subs) with
 | false => rw [hb1] at h; cases h
 | true =>
 rw [hb1, cond_true] at h
 split at h
 · cases h
 rename_i x hfi
 split at h
 · cases h
 rename_i y z hf
 cases h
 obtain ⟨g1, g2⟩ := qai (qai hwr).1
 obtain ⟨E1, e1, q1, f1, l1, l2, A2, b2, b3⟩ := qc0 s.ps hrd p g1 hv
 have p1 := q1.pre p
 obtain ⟨_, c2, c3⟩ := qdc s.ps hfi l2
 have hnd := qgr hb1
 have hT := qpw g2
 generalize hq : rows ++ subs = q at hnd hT
 have hql : q.length = mP s.ps + nP s.ps := by rw [<- hq, List.length_append, l1, l2]
 have hnq : Nums (ol 0 q) 0 q := fun j id hj => by
   rw [Nat.zero_add]
   unfold ol; rw [if_neg (by omega), Nat.sub_zero, List.getD_eq_getElem?_getD, hj]; rfl
 have hnr : Nums (ol 0 q) 0 rows := by rw [<- hq] at hnq ⊢; exact hnq.fst
 have hns : Nums (ol 0 q) (mP s.ps) subs := by
   have := hnq
   rw [<- hq] at this
   have := this.snd
   rwa [Nat.zero_add, l1, hq] at this
 have hTr : ∀ id ∈ rows, T.r id := fun id hid => T.sub _ (hT id (by rw [<- hq]; exact List.mem_append_left _ hid))
 have hrows := qlu hfi l2 p1 hTr (b3 _ _ hns)
 have hrk : ∀ k, k < mP s.ps -> rows[k]? = some (ol 0 q k) := fun k hk => by
   have h1 : k < rows.length := by omega
   rw [List.getElem?_eq_getElem h1, <- hnr k _ (List.getElem?_eq_getElem h1), Nat.zero_add]
 have hsk : ∀ k, mP s.ps <= k -> k < q.length -> subs[k - mP s.ps]? = some (ol 0 q k) := fun k h1 h2 => by
   have h3 : k - mP s.ps < subs.length := by omega
   rw [List.getElem?_eq_getElem h3, <- hns _ _ (List.getElem?_eq_getElem h3), Nat.add_sub_cancel' h1]
 have hrowA : ∀ k, k < mP s.ps -> ∃ r nj xj, (∀ ι, (rowsP s.ps ι (mP s.ps) x)[k]? = some (objK r ι nj xj)) /\ mP s.ps <= nj /\ nj + nK r <= q.length /\ E1.A (ol 0 q k) /\ ((objK r (ol 0 q) nj xj).blk = true -> E1.hb (ol 0 q k) = true) /\ OR E1 (ol 0 q k) (objK r (ol 0 q) nj xj) /\ ((objK r (ol 0 q) nj xj).live = true -> ∃ o0, S1.H (ol 0 q k) = some o0 /\ o0.live = true) := fun k hk => by
   have h1 : k < (rowsP s.ps (ol 0 q) (mP s.ps) x).length := by rw [qao]; exact hk
   obtain ⟨r, nj, xj, d1, d2, d3, d4⟩ := qc2 s.ps (ol 0 q) (mP s.ps) x k _ (List.getElem?_eq_getElem h1)
   obtain ⟨id, i1, i2, i3, i4, i5⟩ := hrows k _ (d4 (ol 0 q))
   rw [hrk k hk] at i1
   cases i1
   exact ⟨r, nj, xj, d4, d2, by omega, i2, i3, i4, i5⟩
 have hA : ∀ id ∈ q, E1.A id := fun id hid => by
   rw [<- hq] at hid
   rcases List.mem_append.1 hid with hid | hid
   · obtain ⟨k, hk, rfl⟩ := List.mem_iff_getElem.1 hid
     obtain ⟨_, _, _, _, _, _, i2, _, _⟩ := hrowA k (by omega)
     have := hrk k (by omega)
     rw [List.getElem?_eq_getElem hk, Option.some.injEq] at this
     rw [this]; exact i2
   · exact A2 id hid
 have hnum : ∀ k, k < q.length -> NumTo E1 (renE 0 q E1) (ol 0 q k) k := fun k hk hA => ⟨⟨by omega, hA⟩, rfl, rfl, rfl, rfl⟩
 have hobj : ∀ k o, k < q.length -> E1.A (ol 0 q k) -> (Sc s.ps x).H k = some o -> ObjTo E1 S1 (renE 0 q E1) (ol 0 q k) k o := fun k o hk hAk ho => by
   unfold Sc at ho
   rw [qd1] at ho
   by_cases hkm : k < mP s.ps
   · rw [List.getElem?_append_left (by rw [qao]; exact hkm)] at ho
     obtain ⟨r, nj, xj, d1, d2, d3, d4, d5, d6, d7⟩ := hrowA k hkm
     rw [d1 idN] at ho
     cases ho
     exact ⟨OR.objK_to (E := E1) (E' := renE 0 q E1) (fun _ h => h) rfl hAk (hnum k hk) (fun j a b => hnum j (by omega)) d6, fun hl => d7 (qjy.trans hl), fun hb => d5 (qhj.trans hb)⟩
   · rw [List.getElem?_append_right (by rw [qao]; omega), qao] at ho
     have hd := qnt _ _ _ (List.mem_of_getElem? ho)
     rw [c3, hsk k (by omega) hk] at ho
     have hid := (qba hk).1
     exact ⟨OR.dat_to (E := E1) (E' := renE 0 q E1) (fun _ h => h) rfl hAk (hnum k hk) hd (p1.st.objs _ (T.sub _ (hT _ hid)) hAk _ ho), fun hl => ⟨_, ho, hl⟩, fun hbk => p1.st.blk _ (T.sub _ (hT _ hid)) hAk _ ho hbk⟩
 have hpre : Pre T0 (renE 0 q E1) (Sc s.ps x) := Pre.re p1 hnd (fun id h => T.sub _ (hT id h)) (by rw [qfx, hql]) hobj
 have hargs : VRs (renE 0 q E1) (argsP s.ps idN 0 x) us := argsP_env (E := E1) (E' := renE 0 q E1) (ρ := ol 0 q) (fun _ h => h) rfl s.ps (fun j a b => hnum j (by omega)) (by rw [c2]; exact b2 _ _ hnr)
 have hcall := hc.calls _ x us y z hf hpre hargs
 rw [show (renE 0 q E1).w = E.w from e1] at hcall
 refine hcall.mono fun e w' hR => ?_
 obtain ⟨u, Er, rfl, rfl, k1, k2⟩ := hR
 have hlt : ∀ id, id ∈ q -> id < S1.next := fun id h => p1.bnd id (hA id h)
 have hsb : ∀ k, k < q.length -> Live (renE 0 q E1) (Sc s.ps x).H k -> Live E1 S1.H (ol 0 q k) := fun k hk ⟨h0, o, h1, h2⟩ => ⟨h0, (hobj k o hk (hA _ (qba hk).1) h1).live h2⟩
 have hbn : (setL rows (rowsP (refs s.ps) (fun k => S1.next + (k - mP s.ps)) (mP s.ps) z) (killL subs S1)).next = S1.next := by rw [qih, qi5]
 have hndr : rows.Nodup := by rw [<- hq] at hnd; exact (List.nodup_append.1 hnd).1
 have hrs : ∀ id, id ∈ rows -> id ∉ subs := fun id h1 h2 => by
   rw [<- hq] at hnd; exact (List.nodup_append.1 hnd).2.2 id h1 id h2 rfl
 have hScB : ∀ k, (ScB s y z).H k = (rowsP (refs s.ps) idN (mP s.ps) z ++ newO s y z)[k]? := fun k => qd1 _ k
 have hEA : ∀ k, k < mP s.ps -> Er.A k /\ Er.ρ k = E1.ρ (ol 0 q k) /\ Er.κ k = E1.κ (ol 0 q k) /\ Er.hd k = E1.hd (ol 0 q k) /\ Er.hb k = E1.hb (ol 0 q k) := fun k hk => by
   obtain ⟨a1, a2, a3, a4, a5⟩ := k2.alw k hk ⟨by omega, hA _ (qba (by omega)).1⟩
   exact ⟨a1, a2, a3, a4, a5⟩
 obtain ⟨m1, m2⟩ := qsf (n := S1.next) (m := mP s.ps) (S' := backS s S1.next rows subs y z S1) p1 hnd hT hA (by omega) rfl hsb k2 (by
     unfold backS ScB
     rw [qbj, qbj, hbn, List.length_append, qao, qa3]
     have : S0.next = 0 := rfl
     omega) (fun id hid hnq => by
     unfold backS
     rw [qbe, hbn, if_pos hid, qdl (fun h => hnq (by rw [<- hq]; exact List.mem_append_left _ h)), qg5 (fun h => hnq (by rw [<- hq]; exact List.mem_append_right _ h))]) (fun k o hk ho => by
     unfold backS at ho
     have hin := (qba (q := q) (k := k) (by omega)).1
     rw [qbe, hbn, if_pos (hlt _ hin), qlb hndr (by rw [qao, qa3, l1]) (hrk k hk)] at ho
     obtain ⟨r, nj, xj, rfl, d2, d3, d4⟩ := qc2 _ _ _ _ _ _ ho
     have hsr : (ScB s y z).H k = some (objK r idN nj xj) := by
       rw [hScB, List.getElem?_append_left (by rw [qao, qa3]; exact hk)]; exact d4 idN
     obtain ⟨a1, a2, a3, a4, a5⟩ := hEA k hk
     obtain ⟨o1, o2, o3, o4⟩ := qbs (E := E1) (Er := Er) (n := S1.next) (m := mP s.ps) (hlt _ hin)
     obtain ⟨_, _, _, _, _, _, i2, _⟩ := hrowA k hk
     exact ⟨OR.objK_to (E := Er) (E' := mrgR E1 Er S1.next (mP s.ps)) (fun _ h => h) rfl a1 (fun _ => ⟨.inl ⟨hlt _ hin, i2⟩, o1.trans a2.symm, o2.trans a3.symm, o3.trans a4.symm, o4.trans a5.symm⟩) (fun j a b hAj => by
       obtain ⟨r1, r2, r3, r4, r5⟩ := qe9 (E := E1) (Er := Er) (n := S1.next) (m := mP s.ps) (k := j) (by omega)
       exact ⟨r5 hAj, r1, r2, r3, r4⟩) (k2.st.objs k trivial a1 _ hsr), fun hl => ⟨_, hsr, qjy.trans hl⟩, fun hb => (o4.trans a5.symm).trans (k2.st.blk k trivial a1 _ hsr (qhj.trans hb))⟩) (fun k o h1 h2 ho => by
     unfold backS at ho
     have hin := (qba (q := q) (k := k) h2).1
     have hin2 := List.mem_of_getElem? (hsk k h1 h2)
     rw [qbe, hbn, if_pos (hlt _ hin), qdl (fun h => hrs _ h hin2), qlh hin2] at ho
     cases ho; rfl) (fun k o h1 hAk ho => by
     unfold backS at ho
     have hkb := k2.bnd k hAk
     unfold ScB at hkb
     rw [qbj, List.length_append, qao, qa3] at hkb
     have e0 : S0.next = 0 := rfl
     rw [qbe, hbn, if_neg (by omega), if_pos (by omega), Nat.add_sub_cancel_left] at ho
     have hd := qom (List.mem_of_getElem? ho)
     have hsr : (ScB s y z).H k = some o := by
       rw [hScB, List.getElem?_append_right (by rw [qao, qa3]; exact h1), qao, qa3]; exact ho
     obtain ⟨r1, r2, r3, r4, r5⟩ := qe9 (E := E1) (Er := Er) (n := S1.next) (m := mP s.ps) (k := k) h1
     exact ⟨OR.dat_to (E := Er) (E' := mrgR E1 Er S1.next (mP s.ps)) (fun _ h => h) rfl hAk (fun hA => ⟨r5 hA, r1, r2, r3, r4⟩) hd (k2.st.objs k trivial hAk _ hsr), fun hl => ⟨_, hsr, hl⟩, fun hbk => r4.trans (k2.st.blk k trivial hAk _ hsr hbk)⟩)
 refine ⟨u, mrgR E1 Er S1.next (mP s.ps), rfl, rfl, ?_, Post.trans p q1 f1 m1, f1.trans m2 q1.le⟩
 refine tup_to (E := Er) (E' := mrgR E1 Er S1.next (mP s.ps)) (fun us h => qls (E := Er) (E' := mrgR E1 Er S1.next (mP s.ps)) (fun _ h => h) rfl s.rts (fun j hAj => ?_) h) (by rw [qf4, qf4]) k1
 obtain ⟨r1, r2, r3, r4, r5⟩ := qe9 (E := E1) (Er := Er) (n := S1.next) (m := mP s.ps) (k := mP s.ps + nP (refs s.ps) + j) (by omega)
 have e : S1.next + (mP s.ps + nP (refs s.ps) + j - mP s.ps) = S1.next + nP (refs s.ps) + j := by omega
 rw [e] at r1 r2 r3 r4 r5
 exact ⟨r5 hAj, r1, r2, r3, r4⟩
end
end Go.Jx
end

section
namespace Go.Jx
open Go Go.Sx Go.RowKit
universe u

def exRK {R : Type} (s : SmR) (vs : List IV) (S : IS) (kk : Res -> Option R) : Option R :=
 match rdP s.ps S vs with
 | none => none
 | some (x0, rows, subs, S1, w) => cond (ndB (rows ++ subs)) (match fiP s.ps rows subs S1 x0 with
   | none => none
   | some x => match s.f x with
     | none => none
     | some (y, z) => kk ⟨vB s S1.next y, backS s S1.next rows subs y z S1, 0, (w ||| bitsL (rows ++ subs)) ||| cond (Nat.blt 0 rows.length) 0 (2 ^ S1.next)⟩) none
theorem exRK_eq {R : Type} (s : SmR) (vs : List IV) (S : IS) (kk : Res -> Option R) : exRK s vs S kk = ob (exR s vs S) kk := by
 simp only [exRK, exR]
 cases rdP s.ps S vs with
 | none => rfl
 | some q =>
   obtain ⟨x0, rows, subs, S1, w⟩ := q
   simp only [qau]
   cases fiP s.ps rows subs S1 x0 with
   | none => rfl
   | some x =>
     simp only
     cases s.f x with
     | none => rfl
     | some q => rfl
def hxR (s : SmR) : Hx := ⟨fun _ vs S => exR s vs S, fun _ _ vs S kk => exRK s vs S kk, fun _ _ _ _ vs S kk => exRK_eq s vs S kk⟩
theorem rdC_fr {S S' : IS} : ∀ (c : CT) {cs : List IV} {x : ElC c} {ids : List Nat} {r : List IV} {w : Nat}, rdC c S cs = some (x, ids, r, S', w) -> FrX S S' w
 | .dat c, cs, x, ids, r, w, h => by
   simp only [rdC] at h
   split at h <;> cases h
   rename_i h1
   obtain ⟨a1, a2⟩ := qcs c _ _ _ _ _ _ h1
   exact ⟨Nat.le_of_eq a1.symm, fun id _ hb => a2 id hb⟩
 | .arr c, cs, x, ids, r, w, h => by
   cases cs with
   | nil => cases h
   | cons v cs =>
   simp only [rdC] at h
   split at h <;> cases h
   rename_i h1
   exact qjh h1
 | .map k v, cs, x, ids, r, w, h => by
   cases cs with
   | nil => cases h
   | cons u cs =>
   cases u <;> try (cases h; done)
   simp only [rdC] at h
   split at h <;> cases h
   rename_i h1
   exact qkj h1
 | .fn f, cs, x, ids, r, w, h => by
   simp only [rdC] at h
   split at h <;> try cases h
   rename_i g cs
   cases hb : Nat.beq g f with
   | false => rw [hb] at h; cases h
   | true =>
   rw [hb] at h
   cases h
   exact FrX.refl _ _
theorem qr3 : ∀ (c : List CT) {S S' : IS} {cs : List IV} {x : ElRow c} {ids : List Nat} {r : List IV} {w : Nat}, rdR c S cs = some (x, ids, r, S', w) -> FrX S S' w
 | [], S, S', cs, x, ids, r, w, h => by cases h; exact FrX.refl _ _
 | c :: l, S, S', cs, x, ids, r, w, h => by
   simp only [rdR] at h
   split at h
   · cases h
   rename_i h1
   split at h <;> cases h
   rename_i h2
   exact (rdC_fr c h1).trans (qr3 l h2)
theorem rdS_fr {S S' : IS} {c : TC} {v : IV} {id w : Nat} (h : rdS c S v = some (id, S', w)) : FrX S S' w := by
 unfold rdS at h
 split at h
 · cases h; exact FrX.refl _ _
 · split at h <;> cases h
   rename_i h1
   exact qjh h1
theorem qcz : ∀ (l : List PK) {S S' : IS} {vs : List IV} {x : ElP l} {q1 q2 : List Nat} {w : Nat}, rdP l S vs = some (x, q1, q2, S', w) -> FrX S S' w
 | [], S, S', vs, x, q1, q2, w, h => by
   cases vs with
   | cons v vs => cases h
   | nil => cases h; exact FrX.refl _ _
 | .dat c :: l, S, S', vs, x, q1, q2, w, h => by
   cases vs with
   | nil => cases h
   | cons v vs =>
   simp only [rdP] at h
   cases hb : fitV c v with
   | false => rw [hb] at h; cases h
   | true =>
   rw [hb, cond_true] at h
   split at h <;> try cases h
   rename_i h1
   split at h <;> cases h
   rename_i h2
   obtain ⟨a1, a2⟩ := qcs c _ _ _ _ _ _ h1
   exact FrX.trans ⟨Nat.le_of_eq a1.symm, fun id _ hb => a2 id hb⟩ (qcz l h2)
 | .fn f :: l, S, S', vs, x, q1, q2, w, h => by
   simp only [rdP] at h
   split at h <;> try cases h
   rename_i g vs
   cases hb : Nat.beq g f with
   | false => rw [hb] at h; cases h
   | true =>
   rw [hb] at h
   have h : rdP l S vs = some (x, q1, q2, S', w) := h
   exact qcz l h
 | .ref (.sl c) :: l, S, S', vs, x, q1, q2, w, h => by
   cases vs with
   | nil => cases h
   | cons v vs =>
   simp only [rdP] at h
   split at h <;> try cases h
   rename_i h1
   split at h <;> cases h
   rename_i h2
   exact (rdS_fr h1).trans (qcz l h2)
 | .ref (.box r) :: l, S, S', vs, x, q1, q2, w, h => by
   cases vs with
   | nil => cases h
   | cons v vs =>
   cases v <;> try (cases h; done)
   rename_i id off
   cases off with
   | succ _ => cases h
   | zero =>
   simp only [rdP] at h
   split at h <;> try cases h
   split at h <;> try cases h
   rename_i h1
   split at h <;> cases h
   rename_i h2
   have := (FrX.refl S (2 ^ id)).trans ((qr3 r h1).trans (qcz l h2))
   exact this
theorem qmo : ∀ (l : List Nat) (S : IS), FrX S (killL l S) (bitsL l)
 | [], S => FrX.refl _ _
 | id :: l, S => (FrX.set S id .dead).trans (qmo l _)
theorem qpj : ∀ (l : List Nat) (os : List IObj) (S : IS), FrX S (setL l os S) (bitsL l)
 | [], os, S => FrX.refl _ _
 | _ :: _, [], S => FrX.refl _ _
 | id :: l, o :: os, S => (FrX.set S id o).trans (qpj l os _)
theorem qo0 : ∀ (a b : List Nat), bitsL (a ++ b) = bitsL a ||| bitsL b
 | [], b => by simp [bitsL]
 | x :: a, b => by simp only [List.cons_append, bitsL, qo0 a, Nat.or_assoc]
theorem exR_fr {s : SmR} {vs : List IV} {S : IS} : FrO S (exR s vs S) := fun r h => by
 unfold exR at h
 split at h
 · cases h
 rename_i x0 rows subs S1 w hrd
 cases hb : ndB (rows ++ subs) with
 | false => rw [hb] at h; cases h
 | true =>
 rw [hb, cond_true] at h
 split at h
 · cases h
 split at h
 · cases h
 rename_i y z hf
 cases h
 have h1 := qcz _ hrd
 have h2 := (qmo subs S1).trans ((qpj rows (rowsP (refs s.ps) (fun k => S1.next + (k - mP s.ps)) (mP s.ps) z) _).trans (qi1 (newO s y z) _ 0))
 have h3 := h1.trans h2
 rw [Nat.or_zero, Nat.or_comm (bitsL subs), <- qo0] at h3
 have h4 := h3.trans (FrX.refl _ (cond (Nat.blt 0 rows.length) 0 (2 ^ S1.next)))
 exact h4
theorem q3a {s : SmR} {vs : List IV} {S : IS} {r : Res} (h : exR s vs S = some r) (hw : r.wr = 0) : False := by
 unfold exR at h
 split at h
 · cases h
 rename_i x0 rows subs S1 w hrd
 cases hb : ndB (rows ++ subs) with
 | false => rw [hb] at h; cases h
 | true =>
 rw [hb, cond_true] at h
 split at h
 · cases h
 split at h
 · cases h
 cases h
 have h2 : bitsL (rows ++ subs) = 0 := (or_zero (or_zero hw).1).2
 cases rows with
 | nil =>
   have h3 : 2 ^ S1.next = 0 := (or_zero hw).2
   have := Nat.one_le_two_pow (n := S1.next)
   omega
 | cons id rows =>
   have := qsj (l := id :: rows ++ subs) (id := id) (by simp)
   rw [h2] at this; simp at this
theorem qdd {P : Program} {f : Nat} {s : SmR} (hc : ConR P f s) : HxOK P f (hxR s).f :=
 ⟨fun cl _ _ _ vs S r h T E us p _ hw hv => q2z hc h p hw hv, fun cl _ vs S => exR_fr, fun cl _ vs S r h hw _ => (q3a h hw).elim⟩

def ptrP : List PK -> Nat -> List IV
 | [], _ => []
 | .dat _ :: l, k => ptrP l k
 | .fn _ :: l, k => ptrP l k
 | .ref r :: l, k => argK r k :: ptrP l (k + 1)
theorem qiz : ∀ (l : List PK) (k : Nat) (z : ElP (refs l)), argsP (refs l) idN k z = ptrP l k
 | [], _, _ => rfl
 | .dat _ :: l, k, z => qiz l k z
 | .fn _ :: l, k, z => qiz l k z
 | .ref r :: l, k, z => by
   show argK r (idN k) :: argsP (refs l) idN (k + 1) z.2 = _
   rw [qiz l]; rfl
theorem qhp {E E' : Env} : ∀ (l : List PK) {k : Nat} {us : List Value}, (∀ j, j < mP l -> NumTo E E' (k + j) (k + j)) -> VRs E (ptrP l k) us -> VRs E' (ptrP l k) us
 | [], k, us, hn, h => by have := h.1; cases us with | nil => exact VRs.nil | cons _ _ => simp [ptrP] at this
 | .dat _ :: l, k, us, hn, h => qhp l hn h
 | .fn _ :: l, k, us, hn, h => qhp l hn h
 | .ref r :: l, k, us, hn, h => by
   obtain ⟨u, us, rfl, a1, a2⟩ := VRs.inv (v := argK r k) (cs := ptrP l (k + 1)) h
   refine VRs.cons (qqv (hn 0 (by simp only [mP]; omega)) a1) (qhp l (fun j hj => ?_) a2)
   have := hn (j + 1) (by simp only [mP]; omega)
   rwa [show k + (j + 1) = k + 1 + j by omega] at this
theorem qe7 : ∀ (l : List PK) {k : Nat} {S S' : IS} {x : ElP (refs l)} {q1 q2 : List Nat} {w : Nat}, rdP (refs l) S (ptrP l k) = some (x, q1, q2, S', w) -> ∀ j, j < mP l -> q1[j]? = some (k + j)
 | [], k, S, S', x, q1, q2, w, h, j, hj => by simp [mP] at hj
 | .dat _ :: l, k, S, S', x, q1, q2, w, h, j, hj => qe7 l h j hj
 | .fn _ :: l, k, S, S', x, q1, q2, w, h, j, hj => qe7 l h j hj
 | .ref (.sl c) :: l, k, S, S', x, q1, q2, w, h, j, hj => by
   simp only [refs, ptrP, argK, rdP, rdS] at h
   split at h <;> cases h
   rename_i h2
   cases j with
   | zero => rfl
   | succ j =>
     have := qe7 l h2 j (by simp only [mP] at hj; omega)
     rw [List.getElem?_cons_succ, this]; congr 1; omega
 | .ref (.box r) :: l, k, S, S', x, q1, q2, w, h, j, hj => by
   simp only [refs, ptrP, argK, rdP] at h
   split at h <;> try cases h
   split at h <;> try cases h
   split at h <;> cases h
   rename_i h2
   cases j with
   | zero => rfl
   | succ j =>
     have := qe7 l h2 j (by simp only [mP] at hj; omega)
     rw [List.getElem?_cons_succ, this]; congr 1; omega
def lowN : Nat -> Nat -> List Nat
 | 0, _ => []
 | m + 1, k => k :: lowN m (k + 1)
theorem qre : ∀ (m k : Nat), (lowN m k).length = m
 | 0, _ => rfl
 | m + 1, k => congrArg (· + 1) (qre m (k + 1))
theorem quh : ∀ (m k j : Nat), j < m -> (lowN m k)[j]? = some (k + j)
 | 0, k, j, h => absurd h (Nat.not_lt_zero j)
 | m + 1, k, 0, h => rfl
 | m + 1, k, j + 1, h => by
   have := quh m (k + 1) j (by omega)
   unfold lowN; rw [List.getElem?_cons_succ, this]; congr 1; omega
def runQ (s : SmR) (r : Res) : Option (ElR s.rts × ElP (refs s.ps)) :=
 match untup s.rts.length r.v with
 | none => none
 | some vs => match clR s.rts r.S vs with
   | none => none
   | some (a, S2, _) => match rdP (refs s.ps) S2 (ptrP s.ps 0) with
     | none => none
     | some (b, _, subs, S3, _) => cond (ndB (subs ++ idsQ s.rts a) && (subs ++ idsQ s.rts a).all (Nat.ble (mP s.ps))) (match fillR s.rts a S3 with
       | none => none
       | some y => match fiP (refs s.ps) (lowN (mP s.ps) 0) subs S3 b with
         | none => none
         | some z => some (y, z)) none
theorem qlk {E E' : Env} (hm : ∀ b, b ∈ E'.m -> b ∈ E.m) (hw : E'.w = E.w) : ∀ (cs : List (Bool × TC)) {a : ElQ cs} {S : IS} {y : ElR cs} {k : Nat} {us : List Value}, fillR cs a S = some y -> (∀ (j id : Nat), (idsQ cs a)[j]? = some id -> NumTo E E' id (k + j)) -> VRs E (valQ cs a) us -> VRs E' (resV cs k y) us
 | [], a, S, y, k, us, h, hn, hv => by have := hv.1; cases us with | nil => exact VRs.nil | cons _ _ => simp [valQ] at this
 | (true, c) :: cs, a, S, y, k, us, h, hn, hv => by
   obtain ⟨u, us, rfl, a1, a2⟩ := VRs.inv (v := .arr a.1) (cs := valQ cs a.2) hv
   simp only [fillR] at h
   split at h <;> try cases h
   split at h <;> try cases h
   split at h <;> cases h
   rename_i y' hy
   refine VRs.cons ?_ (qlk hm hw cs hy (fun j id hj => ?_) a2)
   · cases a1 with
     | arr hA hh =>
       obtain ⟨b1, b2, b3, b4, b5⟩ := hn 0 a.1 rfl hA
       exact .arr b1 (b4.trans hh)
   · have := hn (j + 1) id (by simp only [idsQ, List.getElem?_cons_succ]; exact hj)
     rwa [show k + (j + 1) = k + 1 + j by omega] at this
 | (false, c) :: cs, a, S, y, k, us, h, hn, hv => by
   obtain ⟨u, us, rfl, a1, a2⟩ := VRs.inv (v := asIV c a.1) (cs := valQ cs a.2) hv
   simp only [fillR] at h
   split at h <;> cases h
   rename_i y' hy
   exact VRs.cons (qc5 hm hw a1) (qlk hm hw cs hy hn a2)
theorem q4l {n : Nat} {v : IV} {vs : List IV} {E : Env} {u : Value} (h : untup n v = some vs) (hv : VR E v u) : ∃ us : List Value, VRs E vs us /\ ∀ (E' : Env) (ws : List IV), ws.length = n -> VRs E' ws us -> VR E' (tupI ws) u := by
 unfold untup at h
 cases hone : Nat.beq n 1 with
 | true =>
   rw [hone, cond_true] at h; cases h
   have hlen := Nat.eq_of_beq_eq_true hone
   exact ⟨[u], VRs.cons hv VRs.nil, fun E' ws hl hw => by
     rw [hlen] at hl
     match ws, hl with
     | [a], _ => exact hw.2 0 (by simp) (by simp)⟩
 | false =>
   rw [hone, cond_false] at h
   split at h <;> try cases h
   rename_i ws0
   cases hb : Nat.beq ws0.length n with
   | false => rw [hb] at h; cases h
   | true =>
   rw [hb, cond_true] at h; cases h
   cases hv with
   | tup hl hh =>
   refine ⟨_, ⟨hl, hh⟩, fun E' ws hl' hw => ?_⟩
   match ws, hl' with
   | [], _ => exact .tup hw.1 hw.2
   | [a], hl' => rw [<- hl'] at hone; cases hone
   | a :: b :: ws, _ => exact .tup hw.1 hw.2
theorem qvk {s : SmR} {r : Res} {x : ElP s.ps} {y : ElR s.rts} {z : ElP (refs s.ps)} {E E1 : Env} {us : List Value} {u : Value} (h : runQ s r = some (y, z)) (p0 : Pre T0 E (Sc s.ps x)) (hargs : VRs E (argsP s.ps idN 0 x) us)
   (hpb : PostB (mP s.ps) T0 E (Sc s.ps x) E1 r.S) (hv : VR E1 r.v u) : ∃ E', E'.w = E1.w /\ VR E' (vB s (mP s.ps) y) u /\ PostB (mP s.ps) T0 E (Sc s.ps x) E' (ScB s y z) := by
 have hT : ∀ id, mP s.ps <= id -> T0.w id := fun _ _ => trivial
 have p1 := hpb.pre hT p0
 unfold runQ at h
 split at h
 · cases h
 rename_i vs hvs
 split at h
 · cases h
 rename_i a S2 w2 ha
 split at h
 · cases h
 rename_i b rows subs S3 w3 hb
 cases hc : (ndB (subs ++ idsQ s.rts a) && (subs ++ idsQ s.rts a).all (Nat.ble (mP s.ps))) with
 | false => rw [hc] at h; cases h
 | true =>
 rw [hc, cond_true] at h
 simp only [Bool.and_eq_true] at hc
 obtain ⟨hc1, hc2⟩ := hc
 split at h
 · cases h
 rename_i y' hy
 split at h <;> cases h
 rename_i hz
 obtain ⟨us1, hus, hfin⟩ := q4l hvs hv
 obtain ⟨E2, e2, q2, f2, hv2⟩ := qjd s.rts ha p1 (fun _ _ => trivial) hus
 have p2 := q2.pre p1
 -- the pointers
 have hA0 : ∀ k, k < mP s.ps -> E.A k := by
   have key : ∀ (l : List PK) (k : Nat) (x : ElP l) (us : List Value), VRs E (argsP l idN k x) us -> ∀ j, j < mP l -> E.A (k + j) := by
     intro l
     induction l with
     | nil => intro k x us _ j hj; simp [mP] at hj
     | cons pk l ih =>
       intro k x us hv j hj
       cases pk with
       | dat c =>
         obtain ⟨u, us, rfl, a1, a2⟩ := VRs.inv (v := asIV c x.1) (cs := argsP l idN k x.2) hv
         exact ih k x.2 us a2 j hj
       | fn f =>
         obtain ⟨u, us, rfl, a1, a2⟩ := VRs.inv (v := .fn f []) (cs := argsP l idN k x) hv
         exact ih k x us a2 j hj
       | ref r =>
         obtain ⟨u, us, rfl, a1, a2⟩ := VRs.inv (v := argK r (idN k)) (cs := argsP l idN (k + 1) x.2) hv
         cases j with
         | zero => exact qwp a1
         | succ j =>
           have := ih (k + 1) x.2 us a2 j (by simp only [mP] at hj; omega)
           rwa [show k + (j + 1) = k + 1 + j by omega]
   intro k hk
   have := key s.ps 0 x us hargs k hk
   rwa [Nat.zero_add] at this
 have hptr : ∃ us', VRs E2 (ptrP s.ps 0) us' := by
   obtain ⟨us', h'⟩ := qiu s.ps b hargs
   rw [qiz] at h'
   refine ⟨us', qhp s.ps (fun j hj hA => ?_) h'⟩
   rw [Nat.zero_add] at hA ⊢
   obtain ⟨a1, a2, a3, a4, a5⟩ := hpb.alw j hj hA
   obtain ⟨b1, b2, b3, b4, b5⟩ := (q2.env p1).alw _ a1
   exact ⟨b1, b2.trans a2, b3.trans a3, b4.trans a4, b5.trans a5⟩
 obtain ⟨us', hptr⟩ := hptr
 obtain ⟨E3, e3, q3, f3, l1, l2, A3, b2, b3⟩ := qc0 (refs s.ps) hb p2 (fun _ _ => trivial) hptr
 have p3 := q3.pre p2
 obtain ⟨_, c2, c3⟩ := qdc (refs s.ps) hz l2
 obtain ⟨g1, g2⟩ := qis s.rts hy
 have hnd := qgr hc1
 have hqB : ∀ id ∈ subs ++ idsQ s.rts a, mP s.ps <= id := fun id hi => Nat.le_of_ble_eq_true ((List.all_eq_true.1 hc2) id hi)
 have hnew : ∀ j : Nat, (newO s y z)[j]? = ((subs ++ idsQ s.rts a)[j]?).bind fun id => S3.heap.get id := qn8 (by rw [qfq, l2]) c3 g2
 have hlen : (newO s y z).length = (subs ++ idsQ s.rts a).length := by
   unfold newO; rw [List.length_append, List.length_append, qfq, l2, g1]
 generalize hq : subs ++ idsQ s.rts a = q at hnd hqB hnew hlen
 have hlow : ∀ k, k < mP s.ps -> ol (mP s.ps) q k = k := fun k hk => if_pos hk
 have hhigh : ∀ k, mP s.ps <= k -> k < mP s.ps + q.length -> q[k - mP s.ps]? = some (ol (mP s.ps) q k) := fun k h1 h2 => by
   have h3 : k - mP s.ps < q.length := by omega
   unfold ol; rw [if_neg (by omega), List.getD_eq_getElem?_getD, List.getElem?_eq_getElem h3]; rfl
 have hnum : ∀ k, k < mP s.ps + q.length -> NumTo E3 (renE (mP s.ps) q E3) (ol (mP s.ps) q k) k := fun k hk hA => ⟨⟨hk, hA⟩, rfl, rfl, rfl, rfl⟩
 have hns : Nums (ol (mP s.ps) q) (mP s.ps) subs := fun j id hj => by
   have h1 : j < subs.length := (List.getElem?_eq_some_iff.1 hj).1
   have h2 := hhigh (mP s.ps + j) (by omega) (by rw [<- hq, List.length_append]; omega)
   rw [Nat.add_sub_cancel_left, <- hq, List.getElem?_append_left h1, hj, hq] at h2
   exact (Option.some.inj h2).symm
 have hlr : rows = lowN (mP s.ps) 0 := List.ext_getElem? fun j => by
   by_cases hj : j < mP s.ps
   · rw [qe7 s.ps hb j hj, quh _ _ _ hj]
   · rw [List.getElem?_eq_none (by rw [l1, qa3]; omega), List.getElem?_eq_none (by rw [qre]; omega)]
 rw [<- hlr] at hz
 have hrows := qlu hz l2 p3 (fun _ _ => trivial) (b3 _ _ hns)
 have hScB : ∀ k, (ScB s y z).H k = (rowsP (refs s.ps) idN (mP s.ps) z ++ newO s y z)[k]? := fun k => qd1 _ k
 have hsl : nP (refs s.ps) <= q.length := by rw [<- hq, List.length_append, l2]; omega
 have hre := PostB.re (T := T0) (B := mP s.ps) (q := q) (S' := ScB s y z) p3 hT hnd hqB (by
     unfold ScB
     rw [qbj, List.length_append, qao, qa3, hlen]
     have : S0.next = 0 := rfl
     omega) (fun k o hk hAk ho => by
     rw [hScB] at ho
     by_cases hkm : k < mP s.ps
     · rw [List.getElem?_append_left (by rw [qao, qa3]; exact hkm)] at ho
       obtain ⟨r', nj, xj, rfl, d2, d3, d4⟩ := qc2 _ _ _ _ _ _ ho
       obtain ⟨id, i1, i2, i3, i4, i5⟩ := hrows k _ (d4 _)
       have := qe7 s.ps hb k hkm
       rw [Nat.zero_add, i1] at this
       cases this
       have e := hlow k hkm
       rw [e]
       refine ⟨OR.objK_to (E := E3) (E' := renE (mP s.ps) q E3) (fun _ h => h) rfl i2 (by have := hnum k hk; rwa [e] at this) (fun j a b => hnum j (by omega)) i4, fun hl => i5 (qjy.trans hl), fun hb => ?_⟩
       show E3.hb (ol (mP s.ps) q k) = true
       rw [e]; exact i3 (qhj.trans hb)
     · rw [List.getElem?_append_right (by rw [qao, qa3]; omega), qao, qa3] at ho
       have hd := qom (List.mem_of_getElem? ho)
       rw [hnew, hhigh k (by omega) hk] at ho
       exact ⟨OR.dat_to (E := E3) (E' := renE (mP s.ps) q E3) (fun _ h => h) rfl hAk (hnum k hk) hd (p3.st.objs _ trivial hAk _ ho), fun hl => ⟨_, ho, hl⟩, fun hbk => p3.st.blk _ trivial hAk _ ho hbk⟩)
 have hpost := Post.trans p1 q2 f2 q3
 have hfr := f2.trans f3 q2.le
 refine ⟨renE (mP s.ps) q E3, e3.trans e2, ?_, (hpb.trans (PostB.of hpb.le hT hpost hfr)).trans hre⟩
 refine hfin _ _ (qf4 _ _ _) (qlk (E := E3) (E' := renE (mP s.ps) q E3) (fun _ h => h) rfl s.rts hy (fun j id hj => ?_) (hv2.mono (q3.env p2)))
 have h1 : j < (idsQ s.rts a).length := (List.getElem?_eq_some_iff.1 hj).1
 have h2 : mP s.ps + nP (refs s.ps) + j < mP s.ps + q.length := by rw [<- hq, List.length_append, l2]; omega
 have h3 := hhigh _ (by omega) h2
 rw [show mP s.ps + nP (refs s.ps) + j - mP s.ps = subs.length + j by omega, <- hq, List.getElem?_append_right (by omega), Nat.add_sub_cancel_left, hj, hq] at h3
 have h4 := Option.some.inj h3
 have := hnum _ h2
 rwa [<- h4] at this
end Go.Jx
end

section
namespace Go.Jx
open Go Go.Sx Go.RowKit
universe u

def WfC : (c : CT) -> ElC c -> Prop
 | .dat c => fun x => WfE c x
 | .arr c => fun (l : List (El c)) => l.length * bsz c <= 140737488355328 /\ ∀ x ∈ l, WfE c x
 | .map k v => fun (es : List (El k × El v)) => ∀ e ∈ es, WfE k e.1 /\ WfE v e.2
 | .fn _ => fun _ => True
def WfR : (r : List CT) -> ElRow r -> Prop
 | [], _ => True
 | c :: cs, x => WfC c x.1 /\ WfR cs x.2
def WfK : (r : RK) -> ElK r -> Prop
 | .box r, x => WfR r x
 | .sl c, x => match x with
   | some l => l.length * bsz c <= 140737488355328 /\ ∀ y ∈ l, WfE c y
   | none => True
def WfP : (l : List PK) -> ElP l -> Prop
 | [], _ => True
 | .dat c :: l, x => WfE c x.1 /\ WfP l x.2
 | .fn _ :: l, x => WfP l x
 | .ref r :: l, x => WfK r x.1 /\ WfP l x.2
section
variable {E : Env}
theorem wf_cel {c : TC} {x : El c} {us : List Value} (h : VRs E (cel c x) us) : WfE c x :=
 wf_cells (E := E) c x (fun j => us.getD j .nilFunc) fun j hj => by
   have hj2 : j < us.length := by rw [<- h.1]; exact hj
   show VR E _ (us.getD j .nilFunc)
   rw [List.getD_eq_getElem?_getD, List.getElem?_eq_getElem hj2]
   exact h.2 j hj hj2
theorem wfC {H : Nat -> Option IObj} {ι : Nat -> Nat} (hH : ∀ id o, E.A id -> H id = some o -> OR E id o) : ∀ (c : CT) {n : Nat} {x : ElC c} {us : List Value}, VRs E (cellC c ι n x) us -> (∀ j : Nat, j < nC c -> H (ι (n + j)) = (subC c x)[j]?) -> WfC c x
 | .dat c, n, x, us, h, _ => wf_cel h
 | .arr c, n, x, us, h, hs => by
   obtain ⟨u, us, rfl, a1, a2⟩ := VRs.inv (v := .arr (ι n)) (cs := []) h
   have hA : E.A (ι n) := by cases a1; assumption
   have h0 := hs 0 (Nat.one_pos)
   rw [Nat.add_zero] at h0
   obtain ⟨a, cap, h1, h2, h3, h4, h5⟩ := hH _ (.arr c x) hA h0
   refine ⟨h4, fun y hy => ?_⟩
   obtain ⟨i, hi, rfl⟩ := List.mem_iff_getElem.1 hy
   rcases h5 with ⟨_, h5, _⟩ | ⟨_, _, cells, t, _, _, us, _, h6⟩
   · omega
   · exact wf_cells c _ (us i) (h6 i hi)
 | .map k v, n, x, us, h, hs => by
   obtain ⟨u, us, rfl, a1, a2⟩ := VRs.inv (v := .map (ι n)) (cs := []) h
   have hA : E.A (ι n) := by cases a1; assumption
   have h0 := hs 0 (Nat.one_pos)
   rw [Nat.add_zero] at h0
   obtain ⟨ents, cl, h1, h2, h3⟩ := hH _ (.tmap k v x) hA h0
   intro e he
   obtain ⟨i, hi, rfl⟩ := List.mem_iff_getElem.1 he
   have hl : (tmEs k v x).length = List.length x := List.length_map _
   have hi1 : i < ((tmEs k v x).map (·.1)).length := by rw [List.length_map, hl]; exact hi
   have hi2 : i < ((tmEs k v x).map (·.2)).length := by rw [List.length_map, hl]; exact hi
   have q1 := h2.2 i hi1 (by rw [<- h2.1]; exact hi1)
   have q2 := h3.2 i hi2 (by rw [<- h3.1]; exact hi2)
   have e : (tmEs k v x)[i]'(by rw [hl]; exact hi) = (asIV k (List.get x ⟨i, hi⟩).1, asIV v (List.get x ⟨i, hi⟩).2) := List.getElem_map _
   rw [List.getElem_map, e] at q1
   rw [List.getElem_map, e] at q2
   exact ⟨wf_as q1, wf_as q2⟩
 | .fn _, n, x, us, h, hs => trivial
theorem wfArr {c : TC} {id : Nat} {l : List (El c)} (h : OR E id (.arr c l)) : l.length * bsz c <= 140737488355328 /\ ∀ y ∈ l, WfE c y := by
 obtain ⟨a, cap, h1, h2, h3, h4, h5⟩ := h
 refine ⟨h4, fun y hy => ?_⟩
 obtain ⟨i, hi, rfl⟩ := List.mem_iff_getElem.1 hy
 rcases h5 with ⟨_, h5, _⟩ | ⟨_, _, cells, t, _, _, us, _, h6⟩
 · omega
 · exact wf_cells c _ (us i) (h6 i hi)
theorem wfR {H : Nat -> Option IObj} {ι : Nat -> Nat} (hH : ∀ id o, E.A id -> H id = some o -> OR E id o) : ∀ (r : List CT) {n : Nat} {x : ElRow r} {us : List Value}, VRs E (cellR r ι n x) us -> (∀ j : Nat, j < nR r -> H (ι (n + j)) = (subR r x)[j]?) -> WfR r x
 | [], n, x, us, h, hs => trivial
 | c :: cs, n, x, us, h, hs => by
   obtain ⟨us1, us2, rfl, h1, h2⟩ := VRs.split (cs := cellC c ι n x.1) (ds := cellR cs ι (n + nC c) x.2) h
   refine ⟨wfC hH c h1 fun j hj => ?_, wfR hH cs h2 fun j hj => ?_⟩
   · rw [hs j (by simp only [nR]; omega)]
     simp only [subR]
     rw [List.getElem?_append_left (by rw [qha]; exact hj)]
   · have := hs (nC c + j) (by simp only [nR]; omega)
     rw [<- Nat.add_assoc] at this
     rw [this]
     simp only [subR]
     rw [List.getElem?_append_right (by rw [qha]; omega), qha, Nat.add_sub_cancel_left]
theorem wfP {H : Nat -> Option IObj} (hH : ∀ id o, E.A id -> H id = some o -> OR E id o) : ∀ (l : List PK) {k n : Nat} {x : ElP l} {us : List Value}, VRs E (argsP l idN k x) us ->
   (∀ j : Nat, j < mP l -> H (k + j) = (rowsP l idN n x)[j]?) -> (∀ j : Nat, j < nP l -> H (n + j) = (subsP l x)[j]?) -> WfP l x
 | [], k, n, x, us, h, _, _ => trivial
 | .dat c :: l, k, n, x, us, h, h1, h2 => by
   obtain ⟨u, us, rfl, a1, a2⟩ := VRs.inv (v := asIV c x.1) (cs := argsP l idN k x.2) h
   exact ⟨wf_as a1, wfP hH l a2 h1 h2⟩
 | .fn f :: l, k, n, x, us, h, h1, h2 => by
   obtain ⟨u, us, rfl, a1, a2⟩ := VRs.inv (v := .fn f []) (cs := argsP l idN k x) h
   exact wfP (x := x) hH l a2 h1 h2
 | .ref r :: l, k, n, x, us, h, h1, h2 => by
   obtain ⟨u, us, rfl, a1, a2⟩ := VRs.inv (v := argK r (idN k)) (cs := argsP l idN (k + 1) x.2) h
   have hA : E.A k := qwp a1
   have h0 := h1 0 (by simp only [mP]; omega)
   rw [Nat.add_zero] at h0
   have h0 : H k = some (objK r idN n x.1) := h0
   refine ⟨?_, wfP hH l (n := n + nK r) a2 (fun j hj => ?_) fun j hj => ?_⟩
   · match r, x, h0, h2 with
     | .box r, x, h0, h2 =>
       obtain ⟨cells, t, k1, k2, k3, k4⟩ := hH k _ hA (h0.trans (show _ = some (.row (cellR r idN n x.1)) from rfl))
       refine wfR (ι := idN) hH r k4 fun j hj => ?_
       have := h2 j (by simp only [nP, nK]; omega)
       show H (n + j) = _
       rw [this]
       exact List.getElem?_append_left (l₂ := subsP l x.2) (Nat.lt_of_lt_of_eq hj (qht r x.1).symm)
     | .sl c, (some l, x), h0, h2 => exact wfArr (c := c) (l := l) (hH k _ hA (h0.trans rfl))
     | .sl c, (none, x), h0, h2 => trivial
   · have := h1 (j + 1) (by simp only [mP]; omega)
     rw [show k + 1 + j = k + (j + 1) by omega, this]
     simp only [rowsP, List.getElem?_cons_succ]
   · have := h2 (nK r + j) (by simp only [nP]; omega)
     rw [<- Nat.add_assoc] at this
     rw [this]
     simp only [subsP]
     rw [List.getElem?_append_right (by rw [qkl]; omega), qkl, Nat.add_sub_cancel_left]
end
theorem wf_Sc {l : List PK} {x : ElP l} {E : Env} {us : List Value} (p : Pre T0 E (Sc l x)) (h : VRs E (argsP l idN 0 x) us) : WfP l x := by
 refine wfP (H := (Sc l x).H) (n := mP l) (fun id o hA ho => p.st.objs id trivial hA o ho) l h (fun j hj => ?_) fun j hj => ?_
 · unfold Sc
   rw [Nat.zero_add, qd1, List.getElem?_append_left (by rw [qao]; exact hj)]
 · unfold Sc
   rw [qd1, List.getElem?_append_right (by rw [qao]; omega), qao, Nat.add_sub_cancel_left]

def lastQ (tt : Nat -> Option TI) (fi : FI) (s : SmR) (r : CRes) : Option (ElR s.rts × ElP (refs s.ps)) :=
 cond r.e.leaves (match qdf r.ds r.S with
   | none => none
   | some (S', _) => match ires tt fi.nt r.fr S' fi.res with
     | none => none
     | some (vs, _) => runQ s ⟨tupI vs, S', 0, 0⟩) none
section
variable {P : Program} {tt : Nat -> Option TI} {ft : Nat -> Option FI}
theorem q06 {fi : FI} {f : Nat} {nm : Nat -> Option Nm} {cl : Cl} {lf : Nat} {s : SmR} {x : ElP s.ps} {y : ElR s.rts} {z : ElP (refs s.ps)} {r1 : CRes} (hm : P.follows .mixedOrders = true) (htt : TT P tt)
   (hfi : ∃ fn, P.funcs[f]? = some fn /\ fn.body = some fi.body /\ fn.ntmps = fi.nt /\ fn.results = fi.res.toArray /\ (fn.name == "runtime.NumGoroutine") = false /\ qan fi.body = true) (hcl : ClOK P cl) (hfr : ClFr cl)
   (hb : Nat.ble (argsP s.ps idN 0 x).length fi.nt = true) (hr1 : icode P tt nm (mP s.ps) fi.nt cl lf none fi.body (argGo (argsP s.ps idN 0 x) 0 .leaf) (Sc s.ps x) [] = some r1) (h : lastQ tt fi s r1 = some (y, z))
   {E : Env} {us : List Value} (p : Pre T0 E (Sc s.ps x)) (hv : VRs E (argsP s.ps idN 0 x) us) :
   CallsIn Fence.wide 0 P f us.toArray E.w (RetB (mP s.ps) T0 E (Sc s.ps x) ⟨vB s (mP s.ps) y, ScB s y z, 0, 0⟩) := by
 unfold lastQ at h
 cases hl : r1.e.leaves with
 | false => rw [hl] at h; cases h
 | true =>
 rw [hl, cond_true] at h
 split at h
 · cases h
 rename_i S' wr hmk
 split at h
 · cases h
 rename_i vs' rd' hres
 obtain ⟨fn, f1, f2, f3, f4, f5, f6⟩ := hfi
 refine callsIn_of_wp_marks f1 f2 trivial ?_
 refine qe0 (T := T0) (E := E) (S := Sc s.ps x) (ds := []) (round := none) (B := mP s.ps) (fun _ _ => trivial) hm rfl hcl hfr htt fi.body f6 p (by rw [qfx]; omega) (fun _ _ => trivial) ?_ (DS.nil (N := E.w.heap.size) (Nat.le_refl _)) (fun _ => rfl) hr1 (fun _ _ => trivial) (fun _ _ => trivial) ?_
 · have := FR.enter (nt := fi.nt) hv (Nat.le_of_ble_eq_true hb)
   rw [f3]; exact this
 intro E1 a1 k1 k2 kB
 have p1 := kB.pre (fun _ _ => trivial) p
 have hlv : LeavesInM Fence.wide 0 P fn a1.tmps (RetB (mP s.ps) T0 E (Sc s.ps x) ⟨vB s (mP s.ps) y, ScB s y z, 0, 0⟩) a1.defers .returning E1.w := by
   refine qph (E0 := E) (S0' := Sc s.ps x) (B := mP s.ps) (Nat.le_refl _) (fun _ _ => trivial) p1 k2 kB hmk (fun _ _ => trivial) fun E2 hq0 p2 hv2 => ?_
   obtain ⟨us', h1, h2⟩ := qil htt p2 ⟨k1.size, fun t ht => hv2 _ _ (k1.get t ht)⟩ hres (fun _ _ => trivial)
   have h3 := qt3 (P := P) (w := E2.w) f4 h1
   refine ⟨tupOf us', h3, ?_⟩
   have hq := hq0
   obtain ⟨E3, e3, v3, q3⟩ := qvk (r := ⟨tupI vs', S', 0, 0⟩) h p hv hq (qsg h2)
   exact ⟨_, E3, rfl, e3, v3, q3⟩
 cases he : r1.e with
 | normal => rw [he] at *; exact hlv
 | ret => exact hlv
 | exit i => rw [he] at hl; cases hl
 | goto l => rw [he] at hl; cases hl
theorem conTR {sml : List (Nat × Sm)} {hxl : List (Nat × Hx)} {f : Nat} {s : SmR} {fi : FI} {nmf : Nat -> Option Nm} {st hd : Nat -> Bool} (n : Nat) (hm : P.follows .mixedOrders = true) (htt : TT P tt) (hft : FT P ft) (hsm : SmOK P sml)
   (hhx : HxsOK P hxl) (hC : qag P f) (h3 : ft f = some fi) (h4 : ∀ x, Nat.ble (argsP s.ps idN 0 x).length fi.nt = true) (hn : (regs fi.body).Nodup) (hl : okC nmf st hd fi.body none = true)
   (hrun : ∀ (x : ElP s.ps) (y : ElR s.rts) (z : ElP (refs s.ps)), WfP s.ps x -> s.f x = some (y, z) -> ∃ lf,
     qax P tt nmf (mP s.ps) fi.nt (qaj P tt ft (fun _ _ => none) (smL sml) (hxL hxl) lf n (ElR s.rts × ElP (refs s.ps))) lf st
       (atNB P tt nmf (mP s.ps) fi.nt fi.body (qaj P tt ft (fun _ _ => none) (smL sml) (hxL hxl) lf n (ElR s.rts × ElP (refs s.ps))) lf hd (lastQ tt fi s)) fi.body [] (argGo (argsP s.ps idN 0 x) 0 .leaf) (Sc s.ps x) [] (lastQ tt fi s) = some (y, z))
   (hz : frzF nmf = true := by rfl) : ConR P f s := by
 have hB0 : mB nmf (mP s.ps) = 0 := by unfold mB; rw [hz]; rfl
 have hex : ExOK P (exH (smL sml) (hxL hxl)) := qqg (qce hsm) (qci hhx)
 refine ⟨hC, fun E x us y z hy p hv => ?_⟩
 obtain ⟨lf, hr⟩ := hrun x y z (wf_Sc p hv) hy
 rw [<- qq9 hB0 (qal n _) hn hl, qcu (qal n _)] at hr
 cases hr1 : icode P tt nmf (mP s.ps) fi.nt (icall P tt ft (fun _ _ => none) (exH (smL sml) (hxL hxl)) lf n) lf none fi.body (argGo (argsP s.ps idN 0 x) 0 .leaf) (Sc s.ps x) [] with
 | none => rw [hr1] at hr; cases hr
 | some r1 =>
   rw [hr1] at hr
   exact q06 hm htt (hft f fi h3) (qgx hm htt hft hex n) (qdi hex n) (h4 x) hr1 hr p hv
end
end Go.Jx
end

section
namespace Go.Jx
open Go Go.Sx Go.RowKit
universe u

section
variable {P : Program} {tt : Nat -> Option TI} {nm : Nat -> Option Nm} {lf : Nat} {st hd : Nat -> Bool} {cl : Cl}
def atQ (P : Program) (tt : Nat -> Option TI) (nm : Nat -> Option Nm) (fi : FI) (s : SmR) (clK : ClK (ElR s.rts × ElP (refs s.ps))) (lf : Nat) (hd : Nat -> Bool) (k : Nat) (ns : List Nat) (x : NRes) : Option (ElR s.rts × ElP (refs s.ps)) :=
 atNB P tt nm (mP s.ps) fi.nt fi.body clK lf hd (lastQ tt fi s) k ns x
theorem mB_frz {B : Nat} (hz : frzF nm = true) : mB nm B = 0 := by unfold mB; rw [hz]; rfl
theorem qeq (hz : frzF nm = true) {fi : FI} {s : SmR} {clK : ClK (ElR s.rts × ElP (refs s.ps))} (h : ClEq cl clK) (hn : (regs fi.body).Nodup) (hl : okC nm st hd fi.body none = true) (k : Nat) (ns ns' : List Nat) (hd' : dn (hd k) ns = some ns') (x : NRes) :
   atQ P tt nm fi s clK lf hd k ns x = qa1 P tt nm (mP s.ps) fi.nt clK lf st (atQ P tt nm fi s clK lf hd) k fi.body [] ns' x (lastQ tt fi s) := qv3 (mB_frz hz) h hn hl k ns ns' hd' x
theorem qe6 {fi : FI} {s : SmR} {clK : ClK (ElR s.rts × ElP (refs s.ps))} (k : Nat) (ns : List Nat) (hd' : dn (hd k) ns = none) (x : NRes) : atQ P tt nm fi s clK lf hd k ns x = none := qr6 k ns hd' x
end
end Go.Jx
end

section
namespace Go.Jx
open Go Go.Sx Go.RowKit
universe u

def updP : (l : List PK) -> ElP l -> ElP (refs l) -> ElP l
 | [], _, _ => ()
 | .dat _ :: l, x, z => (x.1, updP l x.2 z)
 | .fn _ :: l, x, z => updP l x z
 | .ref _ :: l, x, z => (z.1, updP l x.2 z.2)
theorem qj6 : ∀ (l : List PK) (ι : Nat -> Nat) (n : Nat) (x : ElP l) (z : ElP (refs l)), rowsP l ι n (updP l x z) = rowsP (refs l) ι n z
 | [], _, _, _, _ => rfl
 | .dat _ :: l, ι, n, x, z => qj6 l ι n x.2 z
 | .fn _ :: l, ι, n, x, z => qj6 l ι n x z
 | .ref r :: l, ι, n, x, z => by
   show objK r ι n z.1 :: rowsP l ι (n + nK r) (updP l x.2 z.2) = _
   rw [qj6 l]; rfl
theorem qhr : ∀ (l : List PK) (x : ElP l) (z : ElP (refs l)), subsP l (updP l x z) = subsP (refs l) z
 | [], _, _ => rfl
 | .dat _ :: l, x, z => qhr l x.2 z
 | .fn _ :: l, x, z => qhr l x z
 | .ref r :: l, x, z => by
   show subK r z.1 ++ subsP l (updP l x.2 z.2) = _
   rw [qhr l]; rfl
theorem qie : ∀ (l : List PK) (ρ : Nat -> Nat) (k : Nat) (x : ElP l) (z : ElP (refs l)), argsP l ρ k (updP l x z) = argsP l ρ k x
 | [], _, _, _, _ => rfl
 | .dat c :: l, ρ, k, x, z => congrArg (fun q => asIV c x.1 :: q) (qie l ρ k x.2 z)
 | .fn f :: l, ρ, k, x, z => congrArg (fun q => IV.fn f [] :: q) (qie l ρ k x z)
 | .ref r :: l, ρ, k, x, z => congrArg (fun q => argK r (ρ k) :: q) (qie l ρ (k + 1) x.2 z.2)
def sQ (l : List PK) : SmR := ⟨l, [], fun _ => none⟩
theorem qwv (l : List PK) (x : ElP l) (z : ElP (refs l)) : ScB (sQ l) () z = Sc l (updP l x z) := by
 unfold ScB Sc newO
 rw [qj6, qhr]
 show addO (rowsP (refs l) idN (mP l) z ++ (subsP (refs l) z ++ [])) S0 = _
 rw [List.append_nil]
structure Held (T : TW) (E : Env) (S : IS) (l : List PK) (x : ElP l) (rows subs : List Nat) : Prop where
 l1 : rows.length = mP l
 l2 : subs.length = nP l
 nd : (rows ++ subs).Nodup
 w : ∀ id ∈ rows ++ subs, T.w id
 A : ∀ id ∈ subs, E.A id
 at_ : ∀ ι, Nums ι (mP l) subs -> qia E rows (rowsP l ι (mP l) x)
 row : ∀ id ∈ rows, ∃ cs, S.H id = some (.row cs)
 sub : ∀ j : Nat, (subsP l x)[j]? = (subs[j]?).bind fun id => S.heap.get id
section
variable {T : TW} {E : Env} {S : IS} {l : List PK} {x : ElP l} {rows subs : List Nat}
theorem Held.num (h : Held T E S l x rows subs) : Nums (ol 0 (rows ++ subs)) 0 rows /\ Nums (ol 0 (rows ++ subs)) (mP l) subs := by
 have hnq : Nums (ol 0 (rows ++ subs)) 0 (rows ++ subs) := fun j id hj => by
   rw [Nat.zero_add]
   unfold ol; rw [if_neg (by omega), Nat.sub_zero, List.getD_eq_getElem?_getD, hj]; rfl
 refine ⟨hnq.fst, ?_⟩
 have := hnq.snd
 rwa [Nat.zero_add, h.l1] at this
theorem Held.len (h : Held T E S l x rows subs) : (rows ++ subs).length = mP l + nP l := by rw [List.length_append, h.l1, h.l2]
theorem Held.rk (h : Held T E S l x rows subs) {k : Nat} (hk : k < mP l) : rows[k]? = some (ol 0 (rows ++ subs) k) := by
 have h1 : k < rows.length := by rw [h.l1]; exact hk
 rw [List.getElem?_eq_getElem h1, <- h.num.1 k _ (List.getElem?_eq_getElem h1), Nat.zero_add]
theorem Held.sk (h : Held T E S l x rows subs) {k : Nat} (h1 : mP l <= k) (h2 : k < (rows ++ subs).length) : subs[k - mP l]? = some (ol 0 (rows ++ subs) k) := by
 have h3 : k - mP l < subs.length := by rw [h.len] at h2; rw [h.l2]; omega
 rw [List.getElem?_eq_getElem h3, <- h.num.2 _ _ (List.getElem?_eq_getElem h3), Nat.add_sub_cancel' h1]
theorem Held.rowA (h : Held T E S l x rows subs) {k : Nat} (hk : k < mP l) : ∃ r nj xj, (∀ ι, (rowsP l ι (mP l) x)[k]? = some (objK r ι nj xj)) /\ mP l <= nj /\ nj + nK r <= (rows ++ subs).length /\ E.A (ol 0 (rows ++ subs) k) /\ ((objK r (ol 0 (rows ++ subs)) nj xj).blk = true -> E.hb (ol 0 (rows ++ subs) k) = true) /\ OR E (ol 0 (rows ++ subs) k) (objK r (ol 0 (rows ++ subs)) nj xj) := by
 have h1 : k < (rowsP l (ol 0 (rows ++ subs)) (mP l) x).length := by rw [qao]; exact hk
 obtain ⟨r, nj, xj, d1, d2, d3, d4⟩ := qc2 l (ol 0 (rows ++ subs)) (mP l) x k _ (List.getElem?_eq_getElem h1)
 obtain ⟨id, i1, i2, i3, i4⟩ := h.at_ _ h.num.2 k _ (d4 (ol 0 (rows ++ subs)))
 rw [h.rk hk] at i1
 cases i1
 exact ⟨r, nj, xj, d4, d2, by rw [h.len]; omega, i2, i3, i4⟩
theorem Held.allA (h : Held T E S l x rows subs) : ∀ id ∈ rows ++ subs, E.A id := fun id hid => by
 rcases List.mem_append.1 hid with hid | hid
 · obtain ⟨k, hk, rfl⟩ := List.mem_iff_getElem.1 hid
   obtain ⟨_, _, _, _, _, _, i2, _, _⟩ := h.rowA (k := k) (by rw [<- h.l1]; exact hk)
   have := h.rk (k := k) (by rw [<- h.l1]; exact hk)
   rw [List.getElem?_eq_getElem hk, Option.some.injEq] at this
   rw [this]; exact i2
 · exact h.A id hid
theorem Held.numTo (E : Env) (q : List Nat) {k : Nat} (hk : k < q.length) : NumTo E (renE 0 q E) (ol 0 q k) k := fun hA => ⟨⟨by omega, hA⟩, rfl, rfl, rfl, rfl⟩
theorem Held.obj (h : Held T E S l x rows subs) (p : Pre T E S) {k : Nat} {o : IObj} (hk : k < (rows ++ subs).length) (hAk : E.A (ol 0 (rows ++ subs) k)) (ho : (Sc l x).H k = some o) : ObjTo E S (renE 0 (rows ++ subs) E) (ol 0 (rows ++ subs) k) k o := by
 unfold Sc at ho
 rw [qd1] at ho
 have hnum : ∀ j, j < (rows ++ subs).length -> NumTo E (renE 0 (rows ++ subs) E) (ol 0 (rows ++ subs) j) j := fun j hj => Held.numTo E _ hj
 by_cases hkm : k < mP l
 · rw [List.getElem?_append_left (by rw [qao]; exact hkm)] at ho
   obtain ⟨r, nj, xj, d1, d2, d3, d4, d5, d6⟩ := h.rowA hkm
   rw [d1 idN] at ho
   cases ho
   obtain ⟨cs, hcs⟩ := h.row _ (List.mem_of_getElem? (h.rk hkm))
   exact ⟨OR.objK_to (E := E) (E' := renE 0 (rows ++ subs) E) (fun _ h => h) rfl hAk (hnum k hk) (fun j a b => hnum j (by omega)) d6, fun _ => ⟨_, hcs, rfl⟩, fun hb => d5 (qhj.trans hb)⟩
 · rw [List.getElem?_append_right (by rw [qao]; omega), qao] at ho
   have hd := qnt _ _ _ (List.mem_of_getElem? ho)
   rw [h.sub, h.sk (by omega) hk] at ho
   have hid := (qba hk).1
   exact ⟨OR.dat_to (E := E) (E' := renE 0 (rows ++ subs) E) (fun _ h => h) rfl hAk (hnum k hk) hd (p.st.objs _ (T.sub _ (h.w _ hid)) hAk _ ho), fun hl => ⟨_, ho, hl⟩, fun hbk => p.st.blk _ (T.sub _ (h.w _ hid)) hAk _ ho hbk⟩
theorem Held.pre (h : Held T E S l x rows subs) (p : Pre T E S) : Pre T0 (renE 0 (rows ++ subs) E) (Sc l x) :=
 Pre.re p h.nd (fun id hi => T.sub _ (h.w id hi)) (by rw [qfx, h.len]) fun k o hk hAk ho => h.obj p hk hAk ho
theorem Held.back {s : SmR} {x : ElP s.ps} {y : ElR s.rts} {z : ElP (refs s.ps)} {Er : Env} (h : Held T E S s.ps x rows subs) (p : Pre T E S) (k2 : PostB (mP s.ps) T0 (renE 0 (rows ++ subs) E) (Sc s.ps x) Er (ScB s y z)) :
   Post T E S (mrgR E Er S.next (mP s.ps)) (backS s S.next rows subs y z S) /\ Fresh E S (mrgR E Er S.next (mP s.ps)) := by
 have hA := h.allA
 have hlt : ∀ id, id ∈ rows ++ subs -> id < S.next := fun id hi => p.bnd id (hA id hi)
 have hsb : ∀ k, k < (rows ++ subs).length -> Live (renE 0 (rows ++ subs) E) (Sc s.ps x).H k -> Live E S.H (ol 0 (rows ++ subs) k) := fun k hk ⟨h0, o, h1, h2⟩ => ⟨h0, (h.obj p hk (hA _ (qba hk).1) h1).live h2⟩
 have hbn : (setL rows (rowsP (refs s.ps) (fun k => S.next + (k - mP s.ps)) (mP s.ps) z) (killL subs S)).next = S.next := by rw [qih, qi5]
 have hndr : rows.Nodup := (List.nodup_append.1 h.nd).1
 have hrs : ∀ id, id ∈ rows -> id ∉ subs := fun id h1 h2 => (List.nodup_append.1 h.nd).2.2 id h1 id h2 rfl
 have hScB : ∀ k, (ScB s y z).H k = (rowsP (refs s.ps) idN (mP s.ps) z ++ newO s y z)[k]? := fun k => qd1 _ k
 have hql := h.len
 have l1 := h.l1
 have hrk := fun k (hk : k < mP s.ps) => h.rk hk
 have hsk := fun k (h1 : mP s.ps <= k) (h2 : k < (rows ++ subs).length) => h.sk h1 h2
 have hrowA := fun k (hk : k < mP s.ps) => h.rowA hk
 have hnd := h.nd
 have hT := h.w
 have hinr : ∀ id, id ∈ rows -> id ∈ rows ++ subs := fun id h => List.mem_append_left _ h
 have hins : ∀ id, id ∈ subs -> id ∈ rows ++ subs := fun id h => List.mem_append_right _ h
 generalize hq : rows ++ subs = q at *
 have hEA : ∀ k, k < mP s.ps -> Er.A k /\ Er.ρ k = E.ρ (ol 0 q k) /\ Er.κ k = E.κ (ol 0 q k) /\ Er.hd k = E.hd (ol 0 q k) /\ Er.hb k = E.hb (ol 0 q k) := fun k hk => by
   obtain ⟨a1, a2, a3, a4, a5⟩ := k2.alw k hk ⟨by omega, hA _ (qba (by omega)).1⟩
   exact ⟨a1, a2, a3, a4, a5⟩
 exact qsf (n := S.next) (m := mP s.ps) (S' := backS s S.next rows subs y z S) p hnd hT hA (by omega) rfl hsb k2 (by
     unfold backS ScB
     rw [qbj, qbj, hbn, List.length_append, qao, qa3]
     have : S0.next = 0 := rfl
     omega) (fun id hid hnq => by
     unfold backS
     rw [qbe, hbn, if_pos hid, qdl (fun h => hnq (hinr _ h)), qg5 (fun h => hnq (hins _ h))]) (fun k o hk ho => by
     unfold backS at ho
     have hin := (qba (q := q) (k := k) (by omega)).1
     rw [qbe, hbn, if_pos (hlt _ hin), qlb hndr (by rw [qao, qa3, l1]) (hrk k hk)] at ho
     obtain ⟨r, nj, xj, rfl, d2, d3, d4⟩ := qc2 _ _ _ _ _ _ ho
     have hsr : (ScB s y z).H k = some (objK r idN nj xj) := by
       rw [hScB, List.getElem?_append_left (by rw [qao, qa3]; exact hk)]; exact d4 idN
     obtain ⟨a1, a2, a3, a4, a5⟩ := hEA k hk
     obtain ⟨o1, o2, o3, o4⟩ := qbs (E := E) (Er := Er) (n := S.next) (m := mP s.ps) (hlt _ hin)
     obtain ⟨_, _, _, _, _, _, i2, _⟩ := hrowA k hk
     exact ⟨OR.objK_to (E := Er) (E' := mrgR E Er S.next (mP s.ps)) (fun _ h => h) rfl a1 (fun _ => ⟨.inl ⟨hlt _ hin, i2⟩, o1.trans a2.symm, o2.trans a3.symm, o3.trans a4.symm, o4.trans a5.symm⟩) (fun j a b hAj => by
       obtain ⟨r1, r2, r3, r4, r5⟩ := qe9 (E := E) (Er := Er) (n := S.next) (m := mP s.ps) (k := j) (by omega)
       exact ⟨r5 hAj, r1, r2, r3, r4⟩) (k2.st.objs k trivial a1 _ hsr), fun hl => ⟨_, hsr, qjy.trans hl⟩, fun hb => (o4.trans a5.symm).trans (k2.st.blk k trivial a1 _ hsr (qhj.trans hb))⟩) (fun k o h1 h2 ho => by
     unfold backS at ho
     have hin := (qba (q := q) (k := k) h2).1
     have hin2 := List.mem_of_getElem? (hsk k h1 h2)
     rw [qbe, hbn, if_pos (hlt _ hin), qdl (fun h => hrs _ h hin2), qlh hin2] at ho
     cases ho; rfl) (fun k o h1 hAk ho => by
     unfold backS at ho
     have hkb := k2.bnd k hAk
     unfold ScB at hkb
     rw [qbj, List.length_append, qao, qa3] at hkb
     have e0 : S0.next = 0 := rfl
     rw [qbe, hbn, if_neg (by omega), if_pos (by omega), Nat.add_sub_cancel_left] at ho
     have hd := qom (List.mem_of_getElem? ho)
     have hsr : (ScB s y z).H k = some o := by
       rw [hScB, List.getElem?_append_right (by rw [qao, qa3]; exact h1), qao, qa3]; exact ho
     obtain ⟨r1, r2, r3, r4, r5⟩ := qe9 (E := E) (Er := Er) (n := S.next) (m := mP s.ps) (k := k) h1
     exact ⟨OR.dat_to (E := Er) (E' := mrgR E Er S.next (mP s.ps)) (fun _ h => h) rfl hAk (fun hA => ⟨r5 hA, r1, r2, r3, r4⟩) hd (k2.st.objs k trivial hAk _ hsr), fun hl => ⟨_, hsr, hl⟩, fun hbk => r4.trans (k2.st.blk k trivial hAk _ hsr hbk)⟩)
end
end Go.Jx
end

section
namespace Go.Jx
open Go Go.Sx Go.RowKit
universe u

structure Beside (b : Nat) (w w' : World) : Prop where
 os : w'.os = w.os
 tape : w'.tape = w.tape
 output : w'.output = w.output
 size : w'.heap.size = w.heap.size
 same : ∀ x, x ≠ b -> w'.heap[x]? = w.heap[x]?
theorem Beside.put (w : World) (b : Nat) (o : Obj) : Beside b w (w.putObj b o) := ⟨rfl, rfl, rfl, by simp, fun x hx => World.putObj_heap_other hx⟩
theorem Beside.symm {b : Nat} {w w' : World} (h : Beside b w w') : Beside b w' w := ⟨h.os.symm, h.tape.symm, h.output.symm, h.size.symm, fun x hx => (h.same x hx).symm⟩
theorem Beside.upd {b : Nat} {w w' : World} (h : Beside b w w') : Upd [b] w w' := ⟨h.os, h.tape, h.output, by rw [h.size]; exact Nat.le_refl _, fun x _ hx => h.same x (by simpa using hx)⟩
def Apart (E : Env) (S : IS) (b : Nat) : Prop := b ∈ E.m /\ ∀ id, E.A id -> Live E S.H id -> E.ρ id ≠ b
section
variable {E E' : Env} {S S' : IS} {b : Nat} {w w' : World}
theorem Pre.beside (p : Pre T0 E S) (hb : Apart E S b) (h : Beside b E.w w) : E.Le (E.at_ w) /\ Pre T0 (E.at_ w) S /\ Apart (E.at_ w) S b := by
 have hle : E.Le (E.at_ w) := ⟨fun _ h => ⟨h, rfl, rfl, rfl, rfl⟩, ⟨fun x hx hm => ⟨hm, h.same x fun e => hm (e ▸ hb.1)⟩⟩⟩
 refine ⟨hle, ⟨⟨fun id ht ha o ho => (p.st.objs id ht ha o ho).mono hle ha (p.st.blk id ht ha o ho) fun hl hhb => h.same _ (hb.2 id ha ⟨hhb, o, ho, hl⟩), fun id ht ha o ho hbk => p.st.blk id ht ha o ho hbk, fun id ht ha hl => p.st.own id ht ha hl,
   fun i j a b' c d e f g => p.st.inj i j a b' c d e f g, fun x hx => ?_⟩, p.bnd, p.nw, p.gl.mono hle.tr⟩, hb⟩
 show x < w.heap.size
 rw [h.size]; exact p.st.lo x hx
theorem PostB.apart {B : Nat} (k : PostB B T0 E S E' S') (p : Pre T0 E S) (hb : Apart E S b) : Apart E' S' b := by
 have hlt := p.st.lo b hb.1
 refine ⟨?_, fun id ha hl e => ?_⟩
 · rcases k.mem b hb.1 hlt with h | ⟨id, _, h1, h2, h3⟩
   · exact h
   · exact absurd h3 (hb.2 id h1 h2)
 · rcases Nat.lt_or_ge id B with h | h
   · have hA := k.fr id h ha
     exact hb.2 id hA (k.old id h trivial hA hl) ((k.alw id h hA).2.1.symm.trans e)
   · rcases k.new id h ha hl with h1 | ⟨j, _, j1, j2, j3⟩
     · omega
     · exact hb.2 j j1 j2 (j3.symm.trans e)
theorem PostB.at_same {B : Nat} (k : PostB B T0 E S E' S') (p : Pre T0 E S) (hb : Apart E S b) : E'.w.heap[b]? = E.w.heap[b]? := k.same b (p.st.lo b hb.1) fun id _ ha hl => hb.2 id ha hl
theorem PostB.beside {B : Nat} (k : PostB B T0 E S E' S') (p : Pre T0 E S) (hb : Apart E S b) (h1 : Beside b E.w w) (h2 : Beside b E'.w w') (h3 : w'.heap[b]? = w.heap[b]?) : PostB B T0 (E.at_ w) S (E'.at_ w') S' := by
 have p' : Pre T0 E' S' := k.pre (fun _ _ => trivial) p
 obtain ⟨_, p2, _⟩ := p'.beside (k.apart p hb) h2
 have es : (E.at_ w).w.heap.size = E.w.heap.size := h1.size
 refine ⟨p2.st, h2.os.trans (k.os.trans h1.os.symm), h2.tape.trans (k.tape.trans h1.tape.symm), h2.output.trans (k.output.trans h1.output.symm), ?_, fun x hx hn => ?_, k.alw, fun id hB ha hl => ?_, k.old, fun x hx => ?_, fun x hx hlt => k.mem x hx (by rw [es] at hlt; exact hlt), k.bnd, k.le, k.fr⟩
 · show w.heap.size <= w'.heap.size
   rw [h1.size, h2.size]; exact k.size
 · show w'.heap[x]? = w.heap[x]?
   by_cases e : x = b
   · rw [e]; exact h3
   · rw [h2.same x e, h1.same x e]; exact k.same x (by rw [es] at hx; exact hx) hn
 · rw [es]; exact k.new id hB ha hl
 · rw [es]; exact k.memo x hx
end
end Go.Jx
end

section
namespace Go.Jx
open Go Go.Sx Go.RowKit
universe u

structure LpC where
 ls : List Nat
 lp : List PK
 nm : Nat -> Option Nm
def putL : List Nat -> List IV -> PT IV -> PT IV
 | t :: ts, v :: vs, fr => putL ts vs (fr.set v t)
 | _, _, fr => fr
theorem qra : ∀ {ls : List Nat} {vs : List IV} {us : List Value} {E : Env} {nt : Nat} {fr : PT IV} {tmps : Array Value}, VRs E vs us -> us = ls.map (fun t => tmps.getD t undef) -> FR E nt fr tmps -> FR E nt (putL ls vs fr) tmps
 | [], vs, us, E, nt, fr, tmps, hv, hu, hf => by simpa [putL] using hf
 | t :: ls, [], us, E, nt, fr, tmps, hv, hu, hf => by simpa [putL] using hf
 | t :: ls, v :: vs, us, E, nt, fr, tmps, hv, hu, hf => by
   obtain ⟨u, us, rfl, a1, a2⟩ := hv.inv
   simp only [List.map_cons, List.cons.injEq] at hu
   show FR E nt (putL ls vs (fr.set v t)) tmps
   refine qra a2 hu.2 ⟨hf.size, fun k hk => ?_⟩
   rw [qby]
   by_cases e : k = t
   · subst e; rw [if_pos rfl, <- hu.1]; exact a1
   · rw [if_neg e]; exact hf.get k hk
section
variable (P : Program) (tt : Nat -> Option TI)
def stepB (cfg : LpC) (c : TC) (nt lf : Nat) (cl : Cl) (pr : Nat) (assign body : Code) (d : ElP cfg.lp) (z : ElP (refs cfg.lp)) (x : El c) : Option (ElP (refs cfg.lp) × Option Code) :=
 match icode P tt cfg.nm (mP cfg.lp) nt cl lf none assign (setPs [pr] [asIV c x] (putL cfg.ls (argsP cfg.lp idN 0 d) .leaf)) (Sc cfg.lp (updP cfg.lp d z)) [] with
 | none => none
 | some r1 => match r1.e with
   | .normal => match r1.ds with
     | [] => match icode P tt cfg.nm (mP cfg.lp) nt cl lf none body r1.fr r1.S [] with
       | none => none
       | some r2 => match r2.ds with
         | [] => match runQ (sQ cfg.lp) ⟨.tup [], r2.S, 0, 0⟩ with
           | none => none
           | some y => some (y.2, endOf r2.e)
         | _ => none
     | _ => none
   | _ => none
end
def foldB {D α : Type} (g : D -> α -> Option (D × Option Code)) : List α -> D -> Option (D × Option Code)
 | [], d => some (d, none)
 | x :: xs, d => match g d x with
   | none => none
   | some (d', none) => foldB g xs d'
   | some (d', some e) => some (d', some e)
section
variable {P : Program} {tt : Nat -> Option TI}
theorem q19 {cfg : LpC} {c : TC} {nt lf : Nat} {cl : Cl} {pr : Nat} {assign body : Code} {d : ElP cfg.lp} {z z' : ElP (refs cfg.lp)} {x : El c} {e : Option Code} (hm : P.follows .mixedOrders = true) (hcl : ClOK P cl) (hfr : ClFr cl) (htt : TT P tt)
   (h : stepB P tt cfg c nt lf cl pr assign body d z x = some (z', e)) (hok : qan assign = true /\ qan body = true) (hrf : hasRF assign = false /\ hasRF body = false)
   {E : Env} {b : Nat} {rec : Loop} (p : Pre T0 E (Sc cfg.lp (updP cfg.lp d z))) (hb : Apart E (Sc cfg.lp (updP cfg.lp d z)) b) (hl : E.w.heap[b]? = some (.loop rec)) (hr : rec.state = .ready /\ rec.pending = none /\ rec.params = #[pr] /\ rec.assign = assign /\ rec.body = body /\ rec.tmps.size = nt)
   (hargs : VRs E (argsP cfg.lp idN 0 d) (cfg.ls.map fun t => rec.tmps.getD t undef)) {u : Value} (hu : VR E (asIV c x) u) :
   YieldAt Fence.wide 0 P b #[u] E.w fun en B => ∃ E', PostB (mP cfg.lp) T0 E (Sc cfg.lp (updP cfg.lp d z)) E' (Sc cfg.lp (updP cfg.lp d z')) /\
     ((e = none /\ en = .returned (.bool true) /\ B = E'.w) \/ ∃ cd, e = some cd /\ en = .returned (.bool false) /\ Upd [b] E'.w B /\ B.heap[b]? = some (.loop { rec with state := .done, pending := some cd })) := by
 obtain ⟨hr1, hr2, hr3, hr4, hr5, hr6⟩ := hr
 unfold stepB at h
 split at h
 · cases h
 rename_i r1 hrun1
 split at h <;> try cases h
 rename_i he1
 split at h <;> try cases h
 rename_i hds1
 split at h
 · cases h
 rename_i r2 hrun2
 split at h <;> try cases h
 rename_i hds2
 split at h
 · cases h
 rename_i y hq
 cases h
 have hblt : b < E.w.heap.size := qam hl
 have hy := run_yield (P := P) (args := #[u]) hl (by rw [hr3]; rfl)
 refine ⟨_, _, _, _, hy, roundIn_of_wpIn trivial ?_⟩
 have hFp : (Fence.wide.inRound b).plain = Fence.wide := rfl
 have hfr0 : FR E nt (PT.leaf) rec.tmps := ⟨hr6, fun t ht => .unk _⟩
 have hfr1 : FR E nt (setPs [pr] [asIV c x] (putL cfg.ls (argsP cfg.lp idN 0 d) .leaf)) ((rec.params.zip #[u]).foldl (fun tmps (t, a) => tmps.setIfInBounds t a) rec.tmps) := by
   have := qmx (ps := [pr]) (VRs.cons hu VRs.nil) (qra hargs rfl hfr0)
   rw [hr3]
   simpa [List.zip] using this
 rw [hr4]
 refine qe0 (T := T0) (E := E) (a := { tmps := _, defers := [] }) (S := Sc cfg.lp (updP cfg.lp d z)) (ds := []) (round := none) (B := mP cfg.lp) (fun _ _ => trivial) hm hFp hcl hfr htt assign hok.1 p (by rw [qfx]; omega) (fun _ _ => trivial) hfr1 (DS.nil (N := 0) (Nat.zero_le _)) (fun h => by rw [hrf.1] at h; cases h) hrun1 (fun _ _ => trivial) (fun _ _ => trivial) ?_
 intro E1 a1 k1 k2 kB
 rw [he1]
 have hb1 := kB.apart p hb
 have hl1 : E1.w.heap[b]? = some (.loop rec) := (kB.at_same p hb).trans hl
 have p1 : Pre T0 E1 r1.S := kB.pre (fun _ _ => trivial) p
 have hbg := run_beginRound (P := P) hl1 hr1
 refine ⟨_, hbg, ?_⟩
 generalize hW : (E1.w.putObj b (.loop { rec with state := .busy })) = W1
 have hs1 : Beside b E1.w W1 := by rw [<- hW]; exact Beside.put _ _ _
 have hW1 : W1.heap[b]? = some (.loop { rec with state := .busy }) := by rw [<- hW]; exact World.putObj_heap_same (qam hl1)
 obtain ⟨hle2, p2, hb2⟩ := p1.beside hb1 hs1
 have hs0 : Beside b E.w (E.w.putObj b (.loop { rec with state := .busy })) := Beside.put _ _ _
 obtain ⟨hle0, p0, hb0⟩ := p.beside hb hs0
 have hw0 : (E.w.putObj b (.loop { rec with state := .busy })).heap[b]? = some (.loop { rec with state := .busy }) := World.putObj_heap_same hblt
 have kB2 := kB.beside p hb hs0 hs1 (by rw [hW1, hw0])
 rw [hr5]
 show body.wpIn _ 0 P _ a1 (E1.at_ W1).w
 rw [hds1] at k2
 refine qe0 (T := T0) (E := E1.at_ W1) (a := a1) (S := r1.S) (ds := []) (round := none) (B := mP cfg.lp) (fun _ _ => trivial) hm hFp hcl hfr htt body hok.2 p2 kB.le (fun _ _ => trivial) (k1.mono hle2) (k2.mono hle2 (by show E1.w.heap.size <= W1.heap.size; rw [<- hW]; simp)) (fun h => by rw [hrf.2] at h; cases h) hrun2 (fun _ _ => trivial) (fun _ _ => trivial) ?_
 intro E3 a3 m1 m2 mB
 have hall := kB2.trans mB
 have hargs0 : VRs (E.at_ (E.w.putObj b (.loop { rec with state := .busy }))) (argsP (sQ cfg.lp).ps idN 0 (updP cfg.lp d z)) (cfg.ls.map fun t => rec.tmps.getD t undef) := by
   show VRs _ (argsP cfg.lp idN 0 (updP cfg.lp d z)) _
   rw [qie]; exact hargs.mono hle0
 obtain ⟨E4, e4, _, q4⟩ := qvk (s := sQ cfg.lp) (r := ⟨.tup [], r2.S, 0, 0⟩) (x := updP cfg.lp d z) (y := y.1) (z := y.2) (u := .tuple #[]) hq p0 hargs0 hall (.tup (us := []) rfl (fun i h => by simp at h))
 have hb4 := q4.apart p0 hb0
 have hl4 : E4.w.heap[b]? = some (.loop { rec with state := .busy }) := (q4.at_same p0 hb0).trans hw0
 have hend := fun j => run_endRound (P := P) j hl4
 have hs4 : Beside b E4.w (E4.w.putObj b (.loop rec)) := Beside.put _ _ _
 have hback := q4.beside p0 hb0 hs0.symm hs4 (by rw [World.putObj_heap_same (qam hl4)]; exact hl.symm)
 have hfin : PostB (mP cfg.lp) T0 E (Sc cfg.lp (updP cfg.lp d z)) (E4.at_ (E4.w.putObj b (.loop rec))) (Sc cfg.lp (updP cfg.lp d y.2)) := by
   have e1 : ScB (sQ cfg.lp) y.1 y.2 = Sc cfg.lp (updP cfg.lp d y.2) := qwv cfg.lp d y.2
   rw [e1] at hback
   exact hback
 rw [<- e4]
 have hrec : ({ rec with state := .ready, pending := none } : Loop) = rec := by
   cases rec; cases hr1; cases hr2; rfl
 have hstop : ∀ cd, ∃ v w', (Instr.endRound b (some cd)).run P E4.w = .ok v w' /\ ∃ E', PostB (mP cfg.lp) T0 E (Sc cfg.lp (updP cfg.lp d z)) E' (Sc cfg.lp (updP cfg.lp d y.2)) /\
     ((some cd = none /\ Ending.returned v = .returned (.bool true) /\ w' = E'.w) \/ ∃ cd', some cd = some cd' /\ Ending.returned v = .returned (.bool false) /\ Upd [b] E'.w w' /\ w'.heap[b]? = some (.loop { rec with state := .done, pending := some cd' })) := fun cd => by
   refine ⟨_, _, hend (some cd), E4.at_ (E4.w.putObj b (.loop rec)), hfin, .inr ⟨cd, rfl, rfl, ?_, ?_⟩⟩
   · exact hs4.symm.upd.trans ((Beside.put E4.w b _).upd)
   · exact World.putObj_heap_same (qam hl4)
 cases he : r2.e with
 | normal =>
   refine ⟨_, _, hend none, E4.at_ (E4.w.putObj b (.loop rec)), hfin, .inl ⟨rfl, rfl, ?_⟩⟩
   show E4.w.putObj b (.loop { rec with state := .ready, pending := none }) = E4.w.putObj b (.loop rec)
   rw [hrec]
 | ret =>
   obtain ⟨v, w', g1, E', g2, g3⟩ := hstop .ret
   refine ⟨v, w', g1, E', g2, ?_⟩
   rcases g3 with ⟨g3, _⟩ | ⟨cd, g3, g4, g5, g6⟩
   · cases g3
   · exact .inr ⟨cd, g3, g4, g5, by rw [hr4, hr5] at g6; exact g6⟩
 | exit i =>
   obtain ⟨v, w', g1, E', g2, g3⟩ := hstop (.exit i)
   refine ⟨v, w', g1, E', g2, ?_⟩
   rcases g3 with ⟨g3, _⟩ | ⟨cd, g3, g4, g5, g6⟩
   · cases g3
   · exact .inr ⟨cd, g3, g4, g5, by rw [hr4, hr5] at g6; exact g6⟩
 | goto l =>
   obtain ⟨v, w', g1, E', g2, g3⟩ := hstop (.goto l)
   refine ⟨v, w', g1, E', g2, ?_⟩
   rcases g3 with ⟨g3, _⟩ | ⟨cd, g3, g4, g5, g6⟩
   · cases g3
   · exact .inr ⟨cd, g3, g4, g5, by rw [hr4, hr5] at g6; exact g6⟩
end
end Go.Jx
end

section
namespace Go.Jx
open Go Go.Sx Go.RowKit
universe u

def IterS (P : Program) (gf : Nat) (us : List Value) (Rd : World -> Prop) {α : Type} (V : α -> Value -> Prop) (xs : List α) : Prop :=
 ∀ (l : Nat) (J : List α -> World -> Prop) (K : World -> Prop) (W : World), (∀ s A B, J s A -> Upd [] A B -> J s B) -> (∀ A B, K A -> Upd [] A B -> K B) -> (∀ s A, J s A -> Rd A) ->
   (∀ pre x post A0 A u, xs = pre ++ x :: post -> J pre A0 -> Upd [] A0 A -> V x u -> YieldAt Fence.wide 0 P l #[u] A fun e B => (∀ b, A0.heap.size <= b -> b < A.heap.size -> B.heap[b]? = A.heap[b]?) /\ ((e = .returned (.bool true) /\ J (pre ++ [x]) B) \/ (e = .returned (.bool false) /\ K B))) ->
   J [] W -> CallsIn Fence.wide 0 P gf (#[.func (.yield l) #[] #[]] ++ us.toArray) W fun e B => e = .returned (.tuple #[]) /\ (J xs B \/ K B)
structure SmI where
 ips : List PK
 c : TC
 xs : ElP ips -> Option (List (El c))
def ReadI (E : Env) (s : SmI) (x : ElP s.ips) (us : List Value) (rows : List Nat) : Prop :=
 (∀ ρ k, Nums ρ k rows -> VRs E (argsP s.ips ρ k x) us) /\ qia E rows (rowsP s.ips idN 0 x)
structure ConI (P : Program) (f : Nat) (s : SmI) : Prop where
 callable : qag P f
 sc : scal s.c = true
 ns : nP s.ips = 0
 it : ∀ (E : Env) (x : ElP s.ips) (us : List Value) (rows : List Nat) (l : List (El s.c)), s.xs x = some l -> Gl E.m E.w -> ReadI E s x us rows ->
   IterS P f us (fun W => E.Le (E.at_ W) /\ ∀ id ∈ rows, W.heap[E.ρ id]? = E.w.heap[E.ρ id]?) (fun x u => ∀ E, VR E (asIV s.c x) u) l
def refsP : (l : List PK) -> ElP l -> ElP (refs l)
 | [], _ => ()
 | .dat _ :: l, x => refsP l x.2
 | .fn _ :: l, x => refsP l x
 | .ref _ :: l, x => (x.1, refsP l x.2)
theorem qj0 : ∀ (l : List PK) (x : ElP l), updP l x (refsP l x) = x
 | [], _ => rfl
 | .dat c :: l, x => congrArg (fun q => (x.1, q)) (qj0 l x.2)
 | .fn _ :: l, x => qj0 l x
 | .ref r :: l, x => congrArg (fun q => (x.1, q)) (qj0 l x.2)
theorem qjs {D α : Type} (g : D -> α -> Option (D × Option Code)) : ∀ (pre post : List α) (z z' : D), foldB g pre z = some (z', none) -> foldB g (pre ++ post) z = foldB g post z'
 | [], post, z, z', h => by cases h; rfl
 | x :: pre, post, z, z', h => by
   simp only [foldB, List.cons_append] at h ⊢
   cases hg : g z x with
   | none => rw [hg] at h; cases h
   | some q =>
     obtain ⟨z1, e⟩ := q
     rw [hg] at h
     cases e with
     | none => exact qjs g pre post z1 z' h
     | some e => cases h
section
variable (P : Program) (tt : Nat -> Option TI)
def itB (S2 : IS) (cfg : LpC) (id nt : Nat) (irows rows subs : List Nat) (w2 : Nat) (assign body : Code) : Bool :=
 ndB (id :: (irows ++ (rows ++ subs))) && (irows.all (rowB S2) && (rows.all (rowB S2) && (qan assign && (qan body && (!hasRF assign && (!hasRF body && (cfg.ls.all (fun t => Nat.blt t nt) && !w2.testBit id)))))))
def itEnd (S2 : IS) (cfg : LpC) (id nt : Nat) (fr : PT IV) (pr D : Nat) (assign body : Code) (irows rows subs : List Nat) (w : Nat) (q : ElP (refs cfg.lp) × Option Code) : Res :=
 ⟨.tup [], (backS (sQ cfg.lp) S2.next rows subs () q.1 S2).set id (.loop (cond q.2.isNone .ready .done) q.2 nt fr [pr] assign body D), 2 ^ id, 2 ^ id ||| (w ||| bitsL (irows ++ (rows ++ subs)))⟩
def itF (s : SmI) (cfg : LpC) (lf : Nat) (cl : Cl) (vs : List IV) (S : IS) : Option Res := match vs with
 | .yield id :: caps => match rdP s.ips S caps with
   | none => none
   | some (xi, irows, _, S1, w1) => match S1.heap.get id with
     | some (.loop .ready none nt fr [pr] assign body D) => match rdP cfg.lp S1 (cfg.ls.map (slot fr)) with
       | none => none
       | some (d0, rows, subs, S2, w2) => cond (itB S2 cfg id nt irows rows subs w2 assign body) (match fiP cfg.lp rows subs S2 d0 with
         | none => none
         | some d => match s.xs xi with
           | none => none
           | some l => match foldB (stepB P tt cfg s.c nt lf cl pr assign body d) l (refsP cfg.lp d) with
             | none => none
             | some q => some (itEnd S2 cfg id nt fr pr D assign body irows rows subs (w1 ||| w2) q)) none
     | _ => none
 | _ => none
end
section
variable {P : Program} {tt : Nat -> Option TI}
theorem qln {s : SmI} {cfg : LpC} {lf : Nat} {cl : Cl} {vs : List IV} {S : IS} {r : Res} (h : itF P tt s cfg lf cl vs S = some r) :
   ∃ id caps xi irows isubs S1 w1 nt fr pr assign body D d0 rows subs S2 w2 d l q, vs = .yield id :: caps /\ rdP s.ips S caps = some (xi, irows, isubs, S1, w1) /\ S1.heap.get id = some (.loop .ready none nt fr [pr] assign body D) /\
     rdP cfg.lp S1 (cfg.ls.map (slot fr)) = some (d0, rows, subs, S2, w2) /\ itB S2 cfg id nt irows rows subs w2 assign body = true /\ fiP cfg.lp rows subs S2 d0 = some d /\ s.xs xi = some l /\
     foldB (stepB P tt cfg s.c nt lf cl pr assign body d) l (refsP cfg.lp d) = some q /\ r = itEnd S2 cfg id nt fr pr D assign body irows rows subs (w1 ||| w2) q := by
 unfold itF at h
 split at h <;> try cases h
 rename_i id caps
 split at h
 · cases h
 rename_i xi irows isubs S1 w1 h1
 split at h <;> try cases h
 rename_i nt fr pr assign body D ho
 split at h
 · cases h
 rename_i d0 rows subs S2 w2 h2
 cases hb : itB S2 cfg id nt irows rows subs w2 assign body with
 | false => rw [hb] at h; cases h
 | true =>
 rw [hb, cond_true] at h
 split at h
 · cases h
 rename_i d h3
 split at h
 · cases h
 rename_i l h4
 split at h <;> cases h
 rename_i q h5
 exact ⟨id, caps, xi, irows, isubs, S1, w1, nt, fr, pr, assign, body, D, d0, rows, subs, S2, w2, d, l, q, rfl, h1, ho, h2, hb, h3, h4, h5, rfl⟩
theorem itF_fr {s : SmI} {cfg : LpC} {lf : Nat} {cl : Cl} {vs : List IV} {S : IS} : FrO S (itF P tt s cfg lf cl vs S) := fun r h => by
 obtain ⟨id, caps, xi, irows, isubs, S1, w1, nt, fr, pr, assign, body, D, d0, rows, subs, S2, w2, d, l, q, rfl, h1, ho, h2, hb, h3, h4, h5, rfl⟩ := qln h
 have k1 := qcz _ h1
 have k2 := qcz _ h2
 have k3 := (qmo subs S2).trans ((qpj rows (rowsP (refs cfg.lp) (fun k => S2.next + (k - mP cfg.lp)) (mP cfg.lp) q.1) _).trans (qi1 (newO (sQ cfg.lp) () q.1) _ 0))
 have k4 := (k1.trans k2).trans (k3.trans (FrX.set _ id (.loop (cond q.2.isNone .ready .done) q.2 nt fr [pr] assign body D)))
 refine ⟨k4.1, fun i hi hbit => k4.2 i hi ?_⟩
 have hbit : (2 ^ id ||| ((w1 ||| w2) ||| bitsL (irows ++ (rows ++ subs)))).testBit i = false := hbit
 simp only [qo0, Nat.testBit_or, Bool.or_eq_false_iff, Nat.zero_testBit] at hbit ⊢
 obtain ⟨a, ⟨b, c⟩, _, e, f⟩ := hbit
 exact ⟨⟨b, c⟩, ⟨f, e, trivial⟩, a⟩
theorem q3x {s : SmI} {cfg : LpC} {lf : Nat} {cl : Cl} {vs : List IV} {S : IS} {r : Res} (h : itF P tt s cfg lf cl vs S = some r) (hw : r.wr = 0) : False := by
 obtain ⟨id, caps, xi, irows, isubs, S1, w1, nt, fr, pr, assign, body, D, d0, rows, subs, S2, w2, d, l, q, rfl, h1, ho, h2, hb, h3, h4, h5, rfl⟩ := qln h
 have : 2 ^ id = 0 := (or_zero hw).1
 have := Nat.one_le_two_pow (n := id)
 omega
end
end Go.Jx
end

section
namespace Go.Jx
open Go Go.Sx Go.RowKit
universe u

section
variable {P : Program} {tt : Nat -> Option TI}
theorem q3z (hm : P.follows .mixedOrders = true) (htt : TT P tt) {f : Nat} {s : SmI} {cfg : LpC} {lf : Nat} (hc : ConI P f s) {cl : Cl} (hcl : ClOK P cl) (hfr : ClFr cl) {vs : List IV} {S : IS} {r : Res} (h : itF P tt s cfg lf cl vs S = some r)
   {T : TW} {E : Env} {us : List Value} (p : Pre T E S) (hrd : tin T.r r.rd) (hwr : tin T.w r.wr) (hv : VRs E vs us) : qag P f /\ CallsIn Fence.wide 0 P f us.toArray E.w (RetE T E S r) := by
 refine ⟨hc.callable, ?_⟩
 obtain ⟨id, caps, xi, irows, isubs, S1, w1, nt, fr, pr, assign, body, D, d0, rows, subs, S2, w2, d, l, q, rfl, h1, ho, h2, hb, h3, h4, h5, rfl⟩ := qln h
 obtain ⟨t1, t2⟩ := qai hwr
 obtain ⟨t3, t4⟩ := qai t2
 obtain ⟨t5, t6⟩ := qai t3
 have hTid := qac t1
 have hbits := qpw t4
 unfold itB at hb
 simp only [Bool.and_eq_true] at hb
 obtain ⟨b1, b2, b3, b4, b5, b6, b7, b8, b9⟩ := hb
 have hnd := qgr b1
 obtain ⟨u0, us, rfl, a1, a2⟩ := hv.inv
 have hA : E.A id := by cases a1; assumption
 obtain ⟨E1, e1, q1, f1, il1, il2, iA, ib2, ib3⟩ := qc0 s.ips h1 p t5 a2
 have p1 := q1.pre p
 have hle1 := q1.env p
 obtain ⟨z1, z2, z3, z4, z5⟩ := hle1.alw id hA
 obtain ⟨fn, tmps, g1, g2, g3⟩ := p1.st.objs id (T.sub _ hTid) z1 _ ho
 have hls : VRs E1 (cfg.ls.map (slot fr)) (cfg.ls.map fun t => tmps.getD t undef) := ⟨by simp, fun i hi hi2 => by
   simp only [List.getElem_map]
   refine g2.get _ ?_
   have := (List.all_eq_true.1 b8) (cfg.ls[i]'(by simpa using hi)) (List.getElem_mem _)
   simpa using this⟩
 obtain ⟨E2, e2, q2, f2, l1, l2, A2, c2, c3⟩ := qc0 cfg.lp h2 p1 t6 hls
 have p2 := q2.pre p1
 have hle2 := q2.env p1
 obtain ⟨_, y2, y3⟩ := qdc cfg.lp h3 l2
 have hq12 := Post.trans p q1 f1 q2
 have hf12 := f1.trans f2 q1.le
 have hS2 : S2.H id = some (.loop .ready none nt fr [pr] assign body D) := by
   rw [(qcz _ h2).2 id (p1.bnd id z1) (by simpa using b9)]; exact ho
 obtain ⟨hA2, x2, x3, x4, x5⟩ := hle2.alw id z1
 obtain ⟨fn', tmps', g1', g2', g3'⟩ := p2.st.objs id (T.sub _ hTid) hA2 _ hS2
 obtain ⟨nq1, nq2⟩ := List.nodup_cons.1 hnd
 have nq3 := (List.nodup_append.1 nq2)
 have hheld : Held T E2 S2 cfg.lp d rows subs := ⟨l1, l2, nq3.2.1, fun i hi => hbits i (List.mem_append_right _ hi), A2, fun ι hι j o hj => by
     obtain ⟨id', g1, g2, g3, g4, _⟩ := qlu h3 l2 p2 (fun i hi => T.sub _ (hbits i (List.mem_append_right _ (List.mem_append_left _ hi)))) (c3 _ _ hι) j o hj
     exact ⟨id', g1, g2, g3, g4⟩,
   fun i hi => qk7 ((List.all_eq_true.1 b3) i hi), y3⟩
 have hidq : id ∉ rows ++ subs := fun hi => nq1 (List.mem_append_right _ hi)
 have hirq : ∀ i, i ∈ irows -> i ∉ rows ++ subs := fun i h1 h2 => nq3.2.2 i h1 i h2 rfl
 have p0 := hheld.pre p2
 have hlive : Live E2 S2.H id := ⟨p2.st.blk id (T.sub _ hTid) hA2 _ hS2 rfl, _, hS2, rfl⟩
 have hfar : ∀ i, i ∉ rows ++ subs -> T.r i -> E2.A i -> Live E2 S2.H i -> ∀ k, (renE 0 (rows ++ subs) E2).A k -> Live (renE 0 (rows ++ subs) E2) (Sc cfg.lp d).H k -> (renE 0 (rows ++ subs) E2).ρ k ≠ E2.ρ i := fun i hi ht ha hl k hk hkl e => by
   have hk1 : k < (rows ++ subs).length := by have := hk.1; omega
   have hm1 := (qba hk1).1
   obtain ⟨h0, o, ho1, ho2⟩ := hkl
   have hl2 : Live E2 S2.H (ol 0 (rows ++ subs) k) := ⟨h0, (hheld.obj p2 hk1 hk.2 ho1).live ho2⟩
   have := p2.st.inj _ _ (T.sub _ (hheld.w _ hm1)) ht hk.2 ha hl2 hl e
   exact hi (this ▸ hm1)
 have hap : Apart (renE 0 (rows ++ subs) E2) (Sc cfg.lp d) (E2.ρ id) := ⟨p2.st.own id (T.sub _ hTid) hA2 hlive, hfar id hidq (T.sub _ hTid) hA2 hlive⟩
 generalize hE0 : renE 0 (rows ++ subs) E2 = E0 at p0 hap hfar
 have hE0w : E0.w = E2.w := by rw [<- hE0]; rfl
 have hE0m : E0.m = E2.m := by rw [<- hE0]; rfl
 generalize hbk : E2.ρ id = b at hap g1'
 obtain ⟨rec, hrec⟩ : ∃ rec : Loop, rec = { state := .ready, pending := none, fn := fn', tmps := tmps', params := [pr].toArray, assign := assign, body := body, defers := E2.ρ D } := ⟨_, rfl⟩
 have hl0 : E0.w.heap[b]? = some (.loop rec) := by rw [hE0w, g1', hrec]
 have htm : tmps' = tmps := by
   have h1 := g1'
   rw [e2, <- hbk, x2, g1] at h1
   have h1 := Option.some.inj h1
   injection h1 with h1
   injection h1 with _ _ _ h1
   exact h1.symm
 have hargs : VRs E0 (argsP cfg.lp idN 0 d) (cfg.ls.map fun t => rec.tmps.getD t undef) := by
   have e : rec.tmps = tmps := by rw [hrec]; exact htm
   rw [e, <- hE0]
   exact argsP_env (E := E2) (E' := renE 0 (rows ++ subs) E2) (ρ := ol 0 (rows ++ subs)) (fun _ h => h) rfl cfg.lp (fun j a b => Held.numTo E2 _ (by rw [hheld.len]; omega)) (by rw [y2]; exact c2 _ _ hheld.num.1)
 generalize hg : stepB P tt cfg s.c nt lf cl pr assign body d = g at h5
 have hd0 : updP cfg.lp d (refsP cfg.lp d) = d := qj0 _ _
 have hT0 : ∀ id, mP cfg.lp <= id -> T0.w id := fun _ _ => trivial
 -- the two states of affairs
 let J : List (El s.c) -> World -> Prop := fun pre W => ∃ z Ei, foldB g pre (refsP cfg.lp d) = some (z, none) /\ PostB (mP cfg.lp) T0 E0 (Sc cfg.lp d) Ei (Sc cfg.lp (updP cfg.lp d z)) /\ Ei.w = W
 let K : World -> Prop := fun W => ∃ z cd Ei, foldB g l (refsP cfg.lp d) = some (z, some cd) /\ PostB (mP cfg.lp) T0 E0 (Sc cfg.lp d) Ei (Sc cfg.lp (updP cfg.lp d z)) /\ Upd [b] Ei.w W /\ W.heap[b]? = some (.loop { rec with state := .done, pending := some cd })
 have hJ0 : J [] E0.w := ⟨refsP cfg.lp d, E0, rfl, by rw [hd0]; exact PostB.refl (by rw [qfx]; omega) hT0 p0, rfl⟩
 have hJu : ∀ s A B, J s A -> Upd [] A B -> J s B := fun pre A B ⟨z, Ei, k1, k2, k3⟩ u => by
   subst k3
   obtain ⟨i1, i2⟩ := Post.idle (k2.pre hT0 p0) u
   exact ⟨z, Ei.at_ B, k1, k2.trans (PostB.of k2.le hT0 i1 i2), rfl⟩
 have hKu : ∀ A B, K A -> Upd [] A B -> K B := fun A B ⟨z, cd, Ei, k1, k2, k3, k4⟩ u => ⟨z, cd, Ei, k1, k2, k3.trans (u.mono (by simp)), (u.same _ (qam k4) (by simp)).trans k4⟩
 have hns : Nums idN 0 isubs := by
   have : isubs = [] := List.length_eq_zero_iff.1 (by rw [il2, hc.ns])
   rw [this]; intro j id hj; simp at hj
 have hrow : ∀ (j : Nat) (o : IObj), (rowsP s.ips idN 0 xi)[j]? = some o -> ∃ i, irows[j]? = some i /\ E2.A i /\ (o.blk = true -> E2.hb i = true) /\ OR E2 i o := fun j o hj => by
   obtain ⟨i, i1, i2, i3, i4⟩ := ib3 idN 0 hns j o hj
   obtain ⟨j1, j2, j3, j4, j5⟩ := hle2.alw i i2
   exact ⟨i, i1, j1, fun hb => j5.trans (i3 hb), i4.mono hle2 i2 i3 (fun _ _ => by rw [e2])⟩
 have hread : ReadI E2 s xi us irows := ⟨fun ρ k hk => (ib2 ρ k hk).mono hle2, hrow⟩
 have hRd : ∀ pre A, J pre A -> E2.Le (E2.at_ A) /\ ∀ i ∈ irows, A.heap[E2.ρ i]? = E2.w.heap[E2.ρ i]? := fun pre A ⟨z, Ei, k1, k2, k3⟩ => by
   subst k3
   have hsame : ∀ x, x < E2.w.heap.size -> (∀ k, E0.A k -> Live E0 (Sc cfg.lp d).H k -> E0.ρ k ≠ x) -> Ei.w.heap[x]? = E2.w.heap[x]? := fun x hx hn => by
     rw [<- hE0w]; exact k2.same x (by rw [hE0w]; exact hx) fun k _ => hn k
   have hle : E2.Le (E2.at_ Ei.w) := ⟨fun _ h => ⟨h, rfl, rfl, rfl, rfl⟩, ⟨fun x hx hxm => ⟨hxm, hsame x hx fun k ha hl e => hxm (by rw [<- e, <- hE0m]; exact p0.st.own k trivial ha hl)⟩⟩⟩
   refine ⟨hle, fun i hin => ?_⟩
   obtain ⟨j, hj, rfl⟩ := List.mem_iff_getElem.1 hin
   have hj2 : j < (rowsP s.ips idN 0 xi).length := by rw [qao, <- il1]; exact hj
   obtain ⟨i, i1, i2, i3, i4⟩ := hrow j _ (List.getElem?_eq_getElem hj2)
   rw [List.getElem?_eq_getElem hj] at i1
   cases i1
   obtain ⟨cs, hcs⟩ := qk7 ((List.all_eq_true.1 b2) _ hin)
   have hTi : T.r irows[j] := T.sub _ (hbits _ (List.mem_append_left _ hin))
   have i3 : E2.hb irows[j] = true := p2.st.blk _ hTi i2 _ hcs rfl
   have hlt : E2.ρ irows[j] < E2.w.heap.size := p2.st.lo _ (p2.st.own _ hTi i2 ⟨i3, _, hcs, rfl⟩)
   exact hsame _ hlt (hfar _ (hirq _ hin) hTi i2 ⟨i3, _, hcs, rfl⟩)
 have hround : ∀ pre x post A0 A u, l = pre ++ x :: post -> J pre A0 -> Upd [] A0 A -> (∀ E, VR E (asIV s.c x) u) -> YieldAt Fence.wide 0 P b #[u] A fun e B => (∀ c, A0.heap.size <= c -> c < A.heap.size -> B.heap[c]? = A.heap[c]?) /\ ((e = .returned (.bool true) /\ J (pre ++ [x]) B) \/ (e = .returned (.bool false) /\ K B)) := fun pre x post A0 A u hl ⟨z, Ei0, k1, k20, k30⟩ hup0 hu => by
   subst k30
   have hpi := k20.pre hT0 p0
   obtain ⟨i1, i2⟩ := Post.idle hpi hup0
   have k2 := k20.trans (PostB.of k20.le hT0 i1 i2)
   have hlow0 : ∀ k, (Ei0.at_ A).A k -> Live (Ei0.at_ A) (Sc cfg.lp (updP cfg.lp d z)).H k -> (Ei0.at_ A).ρ k < Ei0.w.heap.size := fun k ha hl => hpi.st.lo _ (hpi.st.own k trivial ha hl)
   obtain ⟨Ei, hEi⟩ : ∃ Ei, Ei = Ei0.at_ A := ⟨_, rfl⟩
   have hEw : Ei.w = A := by rw [hEi]; rfl
   rw [<- hEi] at k2 hlow0
   rw [<- hEw]
   have hb0 : b < Ei0.w.heap.size := qam ((k20.at_same p0 hap).trans hl0)
   have hwhole : foldB g (x :: post) z = some q := by
     rw [<- qjs g pre (x :: post) _ _ k1, <- hl]; exact h5
   have hsnoc : foldB g (pre ++ [x]) (refsP cfg.lp d) = foldB g [x] z := qjs g pre [x] _ _ k1
   cases hgx : g z x with
   | none => simp only [foldB, hgx] at hwhole; cases hwhole
   | some q1 =>
   obtain ⟨z1, e⟩ := q1
   rw [<- hg] at hgx
   have hlow : (E0.bel (mP cfg.lp)).Le Ei := k2.env p0
   have hargsB : VRs (E0.bel (mP cfg.lp)) (argsP cfg.lp idN 0 d) (cfg.ls.map fun t => rec.tmps.getD t undef) :=
     argsP_env (E := E0) (E' := E0.bel (mP cfg.lp)) (ρ := idN) (fun _ h => h) rfl cfg.lp (fun j _ hj hA => ⟨⟨hA, by show j < mP cfg.lp; omega⟩, rfl, rfl, rfl, rfl⟩) hargs
   have hst := q19 (E := Ei) (b := b) (rec := rec) hm hcl hfr htt hgx ⟨b4, b5⟩ ⟨by simpa using b6, by simpa using b7⟩ (k2.pre hT0 p0) (k2.apart p0 hap) ((k2.at_same p0 hap).trans hl0)
     (by rw [hrec]; exact ⟨rfl, rfl, rfl, rfl, rfl, g2'.size⟩) (hargsB.mono hlow) (hu Ei)
   obtain ⟨fnr, tmpr, asr, bdr, hyr, hRr⟩ := hst
   refine ⟨fnr, tmpr, asr, bdr, hyr, hRr.mono fun en B hB => ?_⟩
   obtain ⟨E', m1, m2⟩ := hB
   have hall := k2.trans m1
   rw [hg] at hgx
   have hkeep : ∀ c, Ei0.w.heap.size <= c -> c < Ei.w.heap.size -> E'.w.heap[c]? = Ei.w.heap[c]? := fun c h1 h2 => m1.same c h2 fun k _ ha hl e => by
     have := hlow0 k ha hl
     omega
   rcases m2 with ⟨rfl, rfl, rfl⟩ | ⟨cd, rfl, rfl, m3, m4⟩
   · refine ⟨hkeep, .inl ?_⟩
     refine ⟨rfl, z1, E', ?_, hall, rfl⟩
     rw [hsnoc]; simp only [foldB, hgx]
   · refine ⟨fun c h1 h2 => (m3.same c (qam ((hkeep c h1 h2).trans (Array.getElem?_eq_getElem h2))) (by simp; omega)).trans (hkeep c h1 h2), .inr ?_⟩
     refine ⟨rfl, z1, cd, E', ?_, hall, m3, m4⟩
     rw [hl, qjs g pre (x :: post) _ _ k1]; simp only [foldB, hgx]
 have hit := hc.it E2 xi us irows l h4 p2.gl hread b J K E0.w hJu hKu hRd hround hJ0
 have hu0 : u0 = .func (.yield b) #[] #[] := by
   cases a1
   rw [<- hbk, x2, z2]
 have hw : E0.w = E.w := by rw [hE0w, e2, e1]
 rw [hw] at hit
 rw [hu0, show (Value.func (.yield b) #[] #[] :: us).toArray = #[.func (.yield b) #[] #[]] ++ us.toArray by simp]
 refine hit.mono fun en B ⟨hen, hB⟩ => ?_
 -- what comes back
 have hfin : ∀ (z : ElP (refs cfg.lp)) (pe : Option Code) (Ei : Env), q = (z, pe) -> PostB (mP cfg.lp) T0 E0 (Sc cfg.lp d) Ei (Sc cfg.lp (updP cfg.lp d z)) -> Upd [b] Ei.w B ->
     B.heap[b]? = some (.loop { rec with state := cond pe.isNone .ready .done, pending := pe }) -> RetE T E S (itEnd S2 cfg id nt fr pr D assign body irows rows subs (w1 ||| w2) q) en B := fun z pe Ei hqz k2 hup hbl => by
   subst hqz
   rw [<- qwv cfg.lp d z, <- hE0] at k2
   obtain ⟨m1, m2⟩ := hheld.back (s := sQ cfg.lp) (x := d) p2 k2
   have p3 := m1.pre p2
   have hle3 := m1.env p2
   obtain ⟨n1, n2, n3, n4, n5⟩ := hle3.alw id hA2
   have hlt : id < S2.next := p2.bnd id hA2
   have hobj : (backS (sQ cfg.lp) S2.next rows subs () z S2).H id = some (.loop .ready none nt fr [pr] assign body D) := by
     unfold backS
     rw [qbe, qih, qi5, if_pos hlt, qdl (fun h => hidq (List.mem_append_left _ h)), qg5 (fun h => hidq (List.mem_append_right _ h))]; exact hS2
   have hL3 : Live (mrgR E2 Ei S2.next (mP (sQ cfg.lp).ps)) (backS (sQ cfg.lp) S2.next rows subs () z S2).H id := ⟨n5.trans hlive.1, _, hobj, rfl⟩
   have hub : Upd [(mrgR E2 Ei S2.next (mP (sQ cfg.lp).ps)).ρ id] (mrgR E2 Ei S2.next (mP (sQ cfg.lp).ps)).w B := by rw [n2, hbk]; exact hup
   have hle4 := Env.at_le p3.st hTid n1 hL3 hub
   obtain ⟨w1', w2'⟩ := Post.write p3 (o' := .loop (cond pe.isNone .ready .done) pe nt fr [pr] assign body D) hTid n1 hL3 hub ⟨fn', tmps', by
     show B.heap[(mrgR E2 Ei S2.next (mP (sQ cfg.lp).ps)).ρ id]? = _
     rw [n2, hbk, hbl, hrec]
     have : E2.ρ D = (mrgR E2 Ei S2.next (mP (sQ cfg.lp).ps)).ρ D := ((hle3.alw D g3').2.1).symm
     show some (Obj.loop { state := cond pe.isNone .ready .done, pending := pe, fn := fn', tmps := tmps', params := [pr].toArray, assign := assign, body := body, defers := E2.ρ D }) = _
     rw [this]; rfl, (g2'.mono hle3).mono hle4, (hle4.alw D (hle3.alw D g3').1).1⟩
   have r1 := Post.trans p hq12 hf12 m1
   have rf1 := hf12.trans m2 hq12.le
   exact ⟨_, _, hen, rfl, .tup (us := []) rfl (fun i h => by simp at h), Post.trans p r1 rf1 w1', rf1.trans w2' r1.le⟩
 rcases hB with ⟨z, Ei, k1, k2, k3⟩ | ⟨z, cd, Ei, k1, k2, k3, k4⟩
 · refine hfin z none Ei (Option.some.inj (h5.symm.trans k1)) k2 (by rw [k3]; exact Upd.refl _ _) ?_
   rw [<- k3, (k2.at_same p0 hap).trans hl0, hrec]; rfl
 · exact hfin z (some cd) Ei (Option.some.inj (h5.symm.trans k1)) k2 k3 k4
end
end Go.Jx
end

section
namespace Go.Jx
open Go Go.Sx Go.RowKit
universe u

section
variable (P : Program) (tt : Nat -> Option TI)
end
section
variable {P : Program} {tt : Nat -> Option TI}
def nmTop : Nat -> Option Nm := fun k => cond (Nat.beq k 999999) (some ⟨[], [], [], [], [], 0, 0, false⟩) none
end
end Go.Jx
end

section
namespace Go.Jx
open Go Go.Sx Go.RowKit
universe u

section
variable {P : Program} {tt : Nat -> Option TI} {ft : Nat -> Option FI}
end
end Go.Jx
end

noncomputable section
set_option maxRecDepth 100000
namespace Go.Proofs.YtanenikkloolfaaGreatDoor
open Go Go.Sx Go.RowKit Go.Jx
abbrev qcb : Type := Int × Int
abbrev qab : Type := Int × ByteArray × Int × Int
abbrev qa0 : Type := qab × Int × Int
abbrev qv2 : Type := Int × Int
abbrev q2t : Type := Int × Int
namespace S
def isSmall (b : Int) : Bool := decide (97 <= b) && decide (b <= 122)
def isCap (b : Int) : Bool := decide (65 <= b) && decide (b <= 90)
def isDig (b : Int) : Bool := decide (48 <= b) && decide (b <= 57)
def isPart (b : Int) : Bool := isSmall b || isCap b || isDig b || decide (b = 95)
def isLow (b : Int) : Bool := isPart b && !isCap b
def isHigh (b : Int) : Bool := isPart b && !isSmall b
def has (l : List ByteArray) (s : ByteArray) : Bool := l.any fun x => keqS x s
def runL (l : List Int) : Nat := (l.takeWhile isPart).length
def run0 (s : ByteArray) : Int := Int.ofNat (runL (qaa s))
def numGo : List Int -> Int -> Int × Int
 | [], n => (n, 0)
 | b :: r, n => if 1099511627776 < 10 * n + (b - 48) then (0, 3) else numGo r (10 * n + (b - 48))
def number (s : ByteArray) : Int × Int :=
 if (qaa s).all isDig = false then (0, 2)
 else if (qaa s)[0]? = some 48 /\ 1 < s.size then (0, 2)
 else numGo (qaa s) 0
def wordsT : List ByteArray := [S.lit [84, 114, 117, 101], S.lit [70, 97, 108, 115, 101], S.lit [86, 111, 105, 100], S.lit [67, 117, 114, 114, 101, 110, 116], S.lit [82, 101, 115, 117, 108, 116]]
def smallWords : List ByteArray := [S.lit [116, 114, 117, 101], S.lit [102, 97, 108, 115, 101], S.lit [118, 111, 105, 100], S.lit [99, 117, 114, 114, 101, 110, 116], S.lit [114, 101, 115, 117, 108, 116]]
def keywords : List ByteArray := [S.lit [97, 110, 100], S.lit [97, 115], S.lit [97, 116, 116, 97, 99, 104, 101, 100], S.lit [99, 104, 101, 99, 107], S.lit [99, 108, 97, 115, 115], S.lit [99, 114, 101, 97, 116, 101], S.lit [100, 101, 102, 101, 114, 114, 101, 100], S.lit [100, 101, 116, 97, 99, 104, 97, 98, 108, 101], S.lit [100, 111], S.lit [101, 108, 115, 101], S.lit [101, 110, 100], S.lit [101, 110, 115, 117, 114, 101], S.lit [102, 101, 97, 116, 117, 114, 101], S.lit [102, 114, 111, 109], S.lit [105, 102], S.lit [105, 109, 112, 108, 105, 101, 115], S.lit [105, 110, 104, 101, 114, 105, 116], S.lit [105, 110, 118, 97, 114, 105, 97, 110, 116], S.lit [108, 111, 99, 97, 108], S.lit [108, 111, 111, 112], S.lit [110, 111, 116], S.lit [111, 108, 100], S.lit [111, 114], S.lit [112, 117, 116], S.lit [114, 97, 105, 115, 101], S.lit [114, 101, 100, 101, 102, 105, 110, 101], S.lit [114, 101, 110, 97, 109, 101], S.lit [114, 101, 113, 117, 105, 114, 101], S.lit [114, 101, 115, 99, 117, 101], S.lit [114, 101, 116, 114, 121], S.lit [115, 101, 108, 101, 99, 116], S.lit [115, 101, 112, 97, 114, 97, 116, 101], S.lit [116, 104, 101, 110], S.lit [117, 110, 100, 101, 102, 105, 110, 101], S.lit [117, 110, 116, 105, 108], S.lit [118, 97, 114, 105, 97, 110, 116], S.lit [119, 104, 101, 110]]
def signs : List ByteArray := [S.lit [58, 61], S.lit [47, 61], S.lit [60, 61], S.lit [62, 61], S.lit [47, 47], S.lit [61], S.lit [60], S.lit [62], S.lit [43], S.lit [45], S.lit [42], S.lit [37], S.lit [40], S.lit [41], S.lit [91], S.lit [93], S.lit [123], S.lit [125], S.lit [44], S.lit [59], S.lit [58], S.lit [46]]
def word (s : ByteArray) : Int × Int :=
 if has keywords s || has wordsT s then (3, 0)
 else if has smallWords s then (0, 4)
 else if (qaa s).any isSmall && (qaa s).any isCap then (0, 2)
 else if 20 < s.size then (0, 3)
 else if (qaa s).any isSmall then (1, 0)
 else (2, 0)
def shape (s : ByteArray) : Int × Int :=
 if has signs s then (5, 0)
 else match (qaa s)[0]? with
   | none => (0, 2)
   | some b => if runL (qaa s) < s.size then (0, 2)
     else if b = 95 then (0, 2)
     else if isDig b then (if (number s).2 = 0 then (4, 0) else (0, (number s).2))
     else word s
def value (s : ByteArray) : Int × Int :=
 if (shape s).2 = 0 then (if (shape s).1 = 4 then number s else (0, 2)) else (0, (shape s).2)
def signL (l : List Int) : ByteArray := match signs.find? (fun x => (qaa x).isPrefixOf l) with | some x => x | none => S.lit []
def digs (s : ByteArray) : Bool := (qaa s).all isDig
def lows (s : ByteArray) : Bool := (qaa s).all isLow
def highs (s : ByteArray) : Bool := (qaa s).all isHigh
def isPre (s p : ByteArray) : Bool := (qaa p).isPrefixOf (qaa s)
def wordly (s : ByteArray) : Bool := (qaa s).all isPart && (match (qaa s)[0]? with | some b => isSmall b || isCap b | none => false)
end S
def spz5 : Sm := ⟨[.list .str, .str], [(false, .bool)], fun x => some (S.has x.1 x.2.1, ())⟩
def spz6 : Sm := ⟨[.str, .int .i64], [(false, .int .i64)], fun x => cond (!iltI x.2.1 0 && !iltI (Int.ofNat (ByteArray.size x.1)) x.2.1) (some (Int.ofNat (S.runL ((qaa x.1).drop x.2.1.toNat)), ())) none⟩
def spz7 : Sm := ⟨[.str], [(false, qok)], fun x => cond (Nat.blt 0 (ByteArray.size x.1)) (some (S.number x.1, ())) none⟩
def spz8 : Sm := ⟨[.str], [(false, qe1)], fun x => some (S.word x.1, ())⟩
def spz9 : Sm := ⟨[.str], [(false, qe1)], fun x => some (S.shape x.1, ())⟩
def qhz : Sm := ⟨[], [(true, .str)], fun _ => some (S.keywords, ())⟩
def spz13 : Sm := ⟨[.list .str, .str], [(false, .bool)], fun x => some (S.has x.1 x.2.1, ())⟩
def spz2 : Sm := ⟨[.str], [(false, .int .i64)], fun x => some (S.run0 x.1, ())⟩
def spz14 : Sm := ⟨[.str], [(false, .int .i64), (false, .int .i64)], fun x => some ((S.number x.1).1, (S.number x.1).2, ())⟩
def spz15 : Sm := ⟨[.str], [(false, .int .i64), (false, .int .i64)], fun x => cond (S.wordly x.1) (some ((S.word x.1).1, (S.word x.1).2, ())) none⟩
def spz4 : Sm := ⟨[.str, .str], [(false, .bool)], fun x => some (S.isPre x.1 x.2.1, ())⟩
def spz3 : Sm := ⟨[.list .str, .str], [(false, .int .i64)], fun x => some (S.idx (fun y => keqS x.2.1 y) x.1, ())⟩
def qhn : Sm := ⟨[.str], [(false, .str)], fun x => some (S.signL (qaa x.1), ())⟩
def spz16 : Sm := ⟨[.str], [(false, .int .i64), (false, .int .i64)], fun x => some ((S.shape x.1).1, (S.shape x.1).2, ())⟩
def qpu : Sm := ⟨[], [(false, .bool)], fun _ => some (true, ())⟩
def spz10 : SmR := ⟨[.dat .str, .fn 103], [(false, .bool)], fun x => some ((S.digs x.1, ()), ())⟩
def spz11 : SmR := ⟨[.dat .str, .fn 120], [(false, .bool)], fun x => some ((S.lows x.1, ()), ())⟩
def spz12 : SmR := ⟨[.dat .str, .fn 122], [(false, .bool)], fun x => some ((S.highs x.1, ()), ())⟩
abbrev qzw : Type := ByteArray × Int
abbrev qyk : Type := Bool × Int
abbrev qfh : Type := List qab × List qab × qcb × Int
namespace S
def fits (s : ByteArray) : Bool := Nat.ble s.size 1000000
def splitL : List Int -> List (List Int)
 | [] => [[]]
 | b :: r => if b = 10 then [] :: splitL r else match splitL r with
   | [] => [[b]]
   | l :: ls => (b :: l) :: ls
def lines (s : ByteArray) : List ByteArray := (splitL (qaa s)).map strOf
def qqi : List (List Int) -> Int
 | [] => 0
 | l :: r => Int.ofNat l.length + 1 + qqi r
def offsetL (l : List (List Int)) (p : Int × Int) : Int × Int :=
 if p.1 < 1 \/ Int.ofNat l.length < p.1 \/ p.2 < 1 then (0, 1)
 else match l[(p.1 - 1).toNat]? with
   | none => (0, 1)
   | some x => if Int.ofNat x.length + 1 < p.2 then (0, 1) else (p.2 - 1 + qqi (l.take (p.1 - 1).toNat), 0)
def offset (s : ByteArray) (p : Int × Int) : Int × Int := offsetL (splitL (qaa s)) p
end S
def qmw : Sm := ⟨[.str, .str], [(false, .int .i64)], fun x => cond (keqS x.2.1 (S.lit [10])) (some (S.indexB (qaa x.1) 10, ())) none⟩
def spz17 : Sm := ⟨[.str, .str, .int .i64, .int .i64], [(true, .str)], fun x => cond (keqS x.2.1 (S.lit [10]) && (ieqI x.2.2.1 0 && (ieqI x.2.2.2.1 (-1) && S.fits x.1))) (some (S.lines x.1, ())) none⟩
def qgu : Sm := ⟨[.str, .str], [(true, .str)], fun x => cond (keqS x.2.1 (S.lit [10]) && S.fits x.1) (some (S.lines x.1, ())) none⟩
def spz18 : Sm := ⟨[.str], [(true, .str)], fun x => cond (S.fits x.1) (some (S.lines x.1, ())) none⟩
namespace S
def joinB : List ByteArray -> List Int
 | [] => []
 | s :: l => qaa s ++ 10 :: joinB l
def qw9 : List ByteArray -> Int -> List Int
 | [], _ => []
 | s :: l, n => n :: qw9 l (n + (1 + S.countB (qaa s) 10))
def join (l : List ByteArray) : ByteArray × List Int × Int :=
 if 24 < l.length \/ 20000 < (joinB l).length then (S.lit [], [], 3) else (strOf (joinB l), qw9 l 1, 0)
end S
namespace S
def noteGo : List Int -> Nat -> Bool × Nat
 | [], n => (true, n)
 | b :: r, n => if b = 10 then (true, n) else if b < 32 \/ 126 < b then (false, n) else noteGo r (n + 1)
def note (s : ByteArray) (a : Nat) : Int × Int := cond (noteGo ((qaa s).drop (a + 2)) 2).1 (Int.ofNat (noteGo ((qaa s).drop (a + 2)) 2).2, 0) (-1, Int.ofNat (a + (noteGo ((qaa s).drop (a + 2)) 2).2))
def two (s : ByteArray) (a : Int) : Bool := decide (0 <= a) && decide (a + 2 <= Int.ofNat s.size)
def tok (r : List Int) : Nat × Int × Int × Nat :=
 if [45, 45].isPrefixOf r then
   (cond (noteGo (r.drop 2) 2).1 ((noteGo (r.drop 2) 2).2, 6, 0, 0) (0, 0, 2, (noteGo (r.drop 2) 2).2))
 else if 0 < runL r then (runL r, (shape (strOf (r.take (runL r)))).1, (shape (strOf (r.take (runL r)))).2, 0)
 else if (signL r).size = 0 then (0, 0, 2, 0)
 else ((signL r).size, 5, 0, 0)
def pcs : Nat -> List Int -> Nat -> List (Int × ByteArray × Nat) × Option (Nat × Int)
 | 0, _, _ => ([], none)
 | f + 1, [], c => ([], none)
 | f + 1, b :: r, c => if b = 32 then pcs f r (c + 1)
   else if (tok (b :: r)).2.2.1 = 0 then
     (((tok (b :: r)).2.1, strOf ((b :: r).take (tok (b :: r)).1), c) :: (pcs f ((b :: r).drop (tok (b :: r)).1) (c + (tok (b :: r)).1)).1, (pcs f ((b :: r).drop (tok (b :: r)).1) (c + (tok (b :: r)).1)).2)
   else ([], some (c + (tok (b :: r)).2.2.2, (tok (b :: r)).2.2.1))
def at_ (n : Int) (l : List (Int × ByteArray × Nat)) : List qab := l.map fun x => (x.1, x.2.1, n, Int.ofNat x.2.2)
def readL : List (List Int) -> Int -> List qab × qcb × Int
 | [], _ => ([], (0, 0), 0)
 | l :: ls, n => match (pcs (l.length + 1) l 1).2 with
   | some (c, e) => ([], (n, Int.ofNat c), e)
   | none => if (readL ls (n + 1)).2.2 = 0 then (at_ n (pcs (l.length + 1) l 1).1 ++ (readL ls (n + 1)).1, (0, 0), 0) else readL ls (n + 1)
def isNote (t : qab) : Bool := decide (t.1 = 6)
def isTok (t : qab) : Bool := !isNote t
def lexed (r : List qab × qcb × Int) : qfh := if r.2.2 = 0 then (r.1.filter isTok, r.1.filter isNote, (0, 0), 0) else ([], [], r.2.1, r.2.2)
def readG (s : ByteArray) : qfh := lexed (readL (splitL (qaa s)) 1)
def tokens (s : ByteArray) : qfh := if 20000 < s.size then ([], [], (0, 0), 3)
 else if (readG s).2.2.2 = 0 /\ 6000 < (readG s).1.length then ([], [], (0, 0), 3) else readG s
end S
def spz19 : Sm := ⟨[.int .u8], [(false, .bool)], fun x => some (S.isPart x.1, ())⟩
def qnd : Sm := ⟨[], [(true, .str)], fun _ => some (S.signs, ())⟩
def spz20 : Sm := ⟨[.str, .int .i64], [(false, .int .i64), (false, .int .i64)], fun x => cond (S.two x.1 x.2.1) (some ((S.note x.1 x.2.1.toNat).1, (S.note x.1 x.2.1.toNat).2, ())) none⟩
def spz21 : Sm := ⟨[.str, .int .i64], [(false, .str)], fun x => cond (S.fits x.1 && (!iltI x.2.1 0 && !iltI (Int.ofNat (ByteArray.size x.1)) x.2.1)) (some (S.signL ((qaa x.1).drop x.2.1.toNat), ())) none⟩
def spz22 : Sm := ⟨[.str], [(false, qe5)], fun x => cond (S.fits x.1) (some (S.readG x.1, ())) none⟩
def spz23 : Sm := ⟨[.str], [(false, qe5)], fun x => cond (S.fits x.1) (some (S.tokens x.1, ())) none⟩
namespace S
def badB (b : Int) : Bool := decide (b < 32) || decide (126 < b)
def pieceX (r : List Int) (a : Nat) : qa0 × Nat :=
 if [45, 45].isPrefixOf r then (match r.findIdx? badB with
   | none => (((6, strOf r, 0, 0), Int.ofNat a, 0), r.length)
   | some i => (((0, S.lit [], 0, 0), Int.ofNat (a + i), 2), r.length))
 else if 0 < runL r /\ ¬ r[0]? = some 95 then (((((shape (strOf (r.take (runL r)))).1, strOf (r.take (runL r)), 0, 0), Int.ofNat a, (shape (strOf (r.take (runL r)))).2), runL r))
 else if (signL r).size = 0 then (((5, S.lit [], 0, 0), Int.ofNat a, 2), 0)
 else (((5, signL r, 0, 0), Int.ofNat a, 0), (signL r).size)
def piecesGo : Nat -> List Int -> Nat -> List qa0
 | 0, _, _ => []
 | f + 1, [], _ => []
 | f + 1, b :: r, a => if b = 32 then piecesGo f r (a + 1)
   else if (pieceX (b :: r) a).1.2.2 = 0 then (pieceX (b :: r) a).1 :: piecesGo f ((b :: r).drop (pieceX (b :: r) a).2) (a + (pieceX (b :: r) a).2)
   else [(pieceX (b :: r) a).1]
def pieces (s : ByteArray) : List qa0 := piecesGo (s.size + 1) (qaa s) 0
def rdGo (w : Int -> Bool) (n : Int) : List qa0 -> List qab -> List qab × Option (qcb × Int)
 | [], a => (a, none)
 | p :: l, a => if p.2.2 = 0 then rdGo w n l (cond (w p.1.1) (a ++ [(p.1.1, p.1.2.1, n, 1 + p.2.1)]) a) else ([], some ((n, 1 + p.2.1), p.2.2))
end S
def spz1 : SmR := ⟨[.dat .str, .fn 92], [(false, .int .i64)], fun x => some ((S.idx S.badB (qaa x.1), ()), ())⟩
namespace S
def kinds (l : List qab) : List (Int × ByteArray) := l.map fun t => (t.1, t.2.1)
def pk (l : List (Int × ByteArray × Nat)) : List (Int × ByteArray) := l.map fun x => (x.1, x.2.1)
def plain (x : Int × ByteArray × Nat) : Bool := !decide (x.1 = 6)
def right (t : qab) : Bool := decide ((shape t.2.1).2 = 0) && decide ((shape t.2.1).1 = t.1)
def line (r : List Int) : List (Int × ByteArray × Nat) × Option (Nat × Int) := pcs (r.length + 1) r 1
def putB (bl : qab -> qab -> Bool) : List qab -> List Int
 | [] => []
 | a :: l => match l with
   | [] => qaa a.2.1
   | b :: _ => qaa a.2.1 ++ (cond (bl a b) (32 :: putB bl l) (putB bl l))
def sameK (a b : List qab) : Bool := decide (kinds a = kinds b)
end S
def spz26 : Sm := ⟨[.str], [(true, qae), (false, qbn), (false, .int .i64)], fun x => cond (S.fits x.1) (some ((S.tokens x.1).1, (S.tokens x.1).2.2.1, (S.tokens x.1).2.2.2, ())) none⟩
def spz27 : Sm := ⟨[.str], [(true, qae), (false, .int .i64)], fun x => cond (S.fits x.1) (some ((S.tokens x.1).2.1, (S.tokens x.1).2.2.2, ())) none⟩
def spz28 : Sm := ⟨[.list qae, .list qae], [(false, .bool)], fun x => some (S.sameK x.1 x.2.1, ())⟩
end Go.Proofs.YtanenikkloolfaaGreatDoor
end

section
namespace Go.Jx
open Go Go.Sx Go.RowKit
universe u

def foldR {D α : Type} (g : D -> α -> Option (D × Bool)) : List α -> D -> Option (D × Bool)
 | [], d => some (d, false)
 | x :: xs, d => match g d x with
   | none => none
   | some (d', b) => cond b (some (d', true)) (foldR g xs d')
def endR : IEx -> Option Bool
 | .normal => some false
 | .ret => some true
 | _ => none
def retR {D : Type} : Option (D × Option Code) -> Option (D × Bool)
 | some (d, none) => some (d, false)
 | some (d, some .ret) => some (d, true)
 | _ => none
def codeR (b : Bool) : Option Code := cond b (some .ret) none
theorem q27 {D : Type} {o : Option (D × Option Code)} {d : D} {b : Bool} (h : retR o = some (d, b)) : o = some (d, codeR b) := by
 unfold retR at h
 split at h <;> cases h <;> rfl
theorem qw1 {D α : Type} (g : D -> α -> Option (D × Option Code)) : ∀ (xs : List α) (d d' : D) (b : Bool), foldR (fun d x => retR (g d x)) xs d = some (d', b) -> foldB g xs d = some (d', codeR b)
 | [], d, d', b, h => by cases h; rfl
 | x :: xs, d, d', b, h => by
   simp only [foldR, foldB] at h ⊢
   cases hg : retR (g d x) with
   | none => rw [hg] at h; cases h
   | some q =>
     obtain ⟨z, e⟩ := q
     rw [hg] at h
     rw [q27 hg]
     cases e with
     | false => exact qw1 g xs z d' b h
     | true => cases h; rfl
section
variable (P : Program) (tt : Nat -> Option TI)
def qi7 (cfg : LpC) (c : TC) (nt lf : Nat) (clP : ClP) (pr : Nat) (assign body : Code) (d : ElP cfg.lp) (z : ElP (refs cfg.lp)) (x : El c) : Option (ElP (refs cfg.lp) × Bool) :=
 qak P tt cfg.nm (mP cfg.lp) nt (clP (ElP (refs cfg.lp) × Bool)) lf none assign (setPs [pr] [asIV c x] (putL cfg.ls (argsP cfg.lp idN 0 d) .leaf)) (Sc cfg.lp (updP cfg.lp d z)) [] fun r1 => match r1.e with
   | .normal => match r1.ds with
     | [] => qak P tt cfg.nm (mP cfg.lp) nt (clP (ElP (refs cfg.lp) × Bool)) lf none body r1.fr r1.S [] fun r2 => match r2.ds with
         | [] => match endR r2.e with
           | none => none
           | some b => match runQ (sQ cfg.lp) ⟨.tup [], r2.S, 0, 0⟩ with
             | none => none
             | some y => some (y.2, b)
         | _ => none
     | _ => none
   | _ => none
theorem q4v {cfg : LpC} {c : TC} {nt lf : Nat} {cl : Cl} {clP : ClP} (hcl : ∀ R, ClEq cl (clP R)) (pr : Nat) (assign body : Code) (d : ElP cfg.lp) (z : ElP (refs cfg.lp)) (x : El c) :
   qi7 P tt cfg c nt lf clP pr assign body d z x = retR (stepB P tt cfg c nt lf cl pr assign body d z x) := by
 unfold qi7 stepB
 rw [qcu (hcl _)]
 cases icode P tt cfg.nm (mP cfg.lp) nt cl lf none assign (setPs [pr] [asIV c x] (putL cfg.ls (argsP cfg.lp idN 0 d) .leaf)) (Sc cfg.lp (updP cfg.lp d z)) [] with
 | none => rfl
 | some r1 =>
   simp only [bd]
   cases r1.e <;> try rfl
   simp only
   cases r1.ds with
   | cons _ _ => rfl
   | nil =>
     simp only
     rw [qcu (hcl _)]
     cases icode P tt cfg.nm (mP cfg.lp) nt cl lf none body r1.fr r1.S [] with
     | none => rfl
     | some r2 =>
       simp only [bd]
       cases r2.ds with
       | cons _ _ => rfl
       | nil =>
         simp only
         cases r2.e <;> cases runQ (sQ cfg.lp) ⟨.tup [], r2.S, 0, 0⟩ <;> rfl
def itR (s : SmI) (cfg : LpC) (lf : Nat) (cl : Cl) (vs : List IV) (S : IS) : Option Res := match vs with
 | .yield id :: caps => match rdP s.ips S caps with
   | none => none
   | some (xi, irows, _, S1, w1) => match S1.heap.get id with
     | some (.loop .ready none nt fr [pr] assign body D) => match rdP cfg.lp S1 (cfg.ls.map (slot fr)) with
       | none => none
       | some (d0, rows, subs, S2, w2) => cond (itB S2 cfg id nt irows rows subs w2 assign body) (match fiP cfg.lp rows subs S2 d0 with
         | none => none
         | some d => match s.xs xi with
           | none => none
           | some l => match foldR (fun z x => retR (stepB P tt cfg s.c nt lf cl pr assign body d z x)) l (refsP cfg.lp d) with
             | none => none
             | some z => some (itEnd S2 cfg id nt fr pr D assign body irows rows subs (w1 ||| w2) (z.1, codeR z.2))) none
     | _ => none
 | _ => none
def itRK (s : SmI) (cfg : LpC) (lf : Nat) (clP : ClP) (R : Type) (vs : List IV) (S : IS) (kk : Res -> Option R) : Option R := match vs with
 | .yield id :: caps => match rdP s.ips S caps with
   | none => none
   | some (xi, irows, _, S1, w1) => match S1.heap.get id with
     | some (.loop .ready none nt fr [pr] assign body D) => match rdP cfg.lp S1 (cfg.ls.map (slot fr)) with
       | none => none
       | some (d0, rows, subs, S2, w2) => cond (itB S2 cfg id nt irows rows subs w2 assign body) (match fiP cfg.lp rows subs S2 d0 with
         | none => none
         | some d => match s.xs xi with
           | none => none
           | some l => match foldR (qi7 P tt cfg s.c nt lf clP pr assign body d) l (refsP cfg.lp d) with
             | none => none
             | some z => cond z.2 (kk (itEnd S2 cfg id nt fr pr D assign body irows rows subs (w1 ||| w2) (z.1, some .ret))) (kk (itEnd S2 cfg id nt fr pr D assign body irows rows subs (w1 ||| w2) (z.1, none)))) none
     | _ => none
 | _ => none
end
section
variable {P : Program} {tt : Nat -> Option TI}
theorem itRK_eq (s : SmI) (cfg : LpC) (lf : Nat) (cl : Cl) (clP : ClP) (hcl : ∀ R, ClEq cl (clP R)) (R : Type) (vs : List IV) (S : IS) (kk : Res -> Option R) : itRK P tt s cfg lf clP R vs S kk = ob (itR P tt s cfg lf cl vs S) kk := by
 unfold itRK itR
 cases vs with
 | nil => rfl
 | cons v caps =>
 cases v <;> try rfl
 rename_i id
 simp only
 cases rdP s.ips S caps with
 | none => rfl
 | some a =>
 obtain ⟨xi, irows, _, S1, w1⟩ := a
 simp only
 cases S1.heap.get id with
 | none => rfl
 | some o =>
 cases o <;> try rfl
 rename_i st pe nt fr ps assign body D
 cases st <;> try rfl
 cases pe <;> try rfl
 cases ps with
 | nil => rfl
 | cons pr ps =>
 cases ps with
 | cons _ _ => rfl
 | nil =>
 simp only
 cases rdP cfg.lp S1 (cfg.ls.map (slot fr)) with
 | none => rfl
 | some b =>
 obtain ⟨d0, rows, subs, S2, w2⟩ := b
 simp only [qau]
 cases fiP cfg.lp rows subs S2 d0 with
 | none => rfl
 | some d =>
 simp only
 cases s.xs xi with
 | none => rfl
 | some l =>
 have e : qi7 P tt cfg s.c nt lf clP pr assign body d = fun z x => retR (stepB P tt cfg s.c nt lf cl pr assign body d z x) := by
   funext z x; exact q4v P tt hcl pr assign body d z x
 simp only [e]
 cases foldR (fun z x => retR (stepB P tt cfg s.c nt lf cl pr assign body d z x)) l (refsP cfg.lp d) with
 | none => rfl
 | some q => obtain ⟨z, b⟩ := q; cases b <;> rfl
theorem itR_F {s : SmI} {cfg : LpC} {lf : Nat} {cl : Cl} {vs : List IV} {S : IS} {r : Res} (h : itR P tt s cfg lf cl vs S = some r) : itF P tt s cfg lf cl vs S = some r := by
 unfold itR at h
 unfold itF
 split at h <;> try cases h
 try simp only
 split at h
 · cases h
 rename_i h1
 try rw [h1]
 try simp only
 split at h <;> try cases h
 rename_i h2
 try rw [h2]
 try simp only
 split at h
 · cases h
 rename_i h3
 try rw [h3]
 try simp only
 cases hb : itB _ cfg _ _ _ _ _ _ _ _ with
 | false => rw [hb] at h; cases h
 | true =>
 rw [hb] at h
 simp only [cond_true] at h ⊢
 split at h
 · cases h
 rename_i h4
 try rw [h4]
 try simp only
 split at h
 · cases h
 rename_i h5
 try rw [h5]
 try simp only
 split at h <;> cases h
 rename_i h6
 rw [qw1 _ _ _ _ _ h6]
def itRx (P : Program) (tt : Nat -> Option TI) (s : SmI) (cfg : LpC) (lf : Nat) : Hx := ⟨itR P tt s cfg lf, fun clP R vs S kk => itRK P tt s cfg lf clP R vs S kk, fun cl clP hcl R vs S kk => itRK_eq s cfg lf cl clP hcl R vs S kk⟩
theorem qv4 (hm : P.follows .mixedOrders = true) (htt : TT P tt) {f : Nat} {s : SmI} (cfg : LpC) (lf : Nat) (hc : ConI P f s) : HxOK P f (itRx P tt s cfg lf).f :=
 ⟨fun cl h1 h2 _ vs S r h T E us p hr hw hv => q3z hm htt hc h1 h2 (itR_F h) p hr hw hv, fun cl _ vs S r h => itF_fr r (itR_F h), fun cl _ vs S r h hw _ => (q3x (itR_F h) hw).elim⟩
end
end Go.Jx
end

section
namespace Go.Jx
open Go Go.Sx Go.RowKit
theorem qj5 {P : Program} {f : Nat} {s : Sm} (h : Con P f s) (w : World) (hg : Gl [] w) (x : ElA s.pts) (us : List Value) (y : ElR s.rts) (hf : s.f x = some y) (hv : VRs (EM [] w) (argV s.pts x) us) :
   Calls P f us.toArray w (Ret fun v w' => (∃ E', VR E' (tupI (resV s.rts 0 y)) v) /\ Upd [] w w') :=
 (callsIn_wide.1 (h.calls [] w x us y hf (fun b hb => by cases hb) hg hv)).mono fun e w' hR => by
   obtain ⟨v, E', rfl, rfl, k1, k2, k3⟩ := hR
   exact ⟨⟨E', k1⟩, k2.stp.os, k2.stp.tape, k2.stp.output, k2.stp.size, fun b hb _ => k2.stp.same b hb fun id _ hA _ => hA.elim⟩
theorem qiy {E : Env} {k : IntKind} {n : Int} {v : Value} (h : VR E (.int k n) v) : v = .int k n := by cases h; rfl
theorem qwm {E : Env} {s : ByteArray} {v : Value} (h : VR E (.str s) v) : v = .string s := by cases h; rfl
theorem q00 {E : Env} {b : Bool} {v : Value} (h : VR E (.bool b) v) : v = .bool b := by cases h; rfl
end Go.Jx
end

section
namespace Go.Sx
open Go Go.RowKit
section
variable {P : Program} {ops : Array Oper} {rest : List Oper} {n : Nat} {σ : Nat -> Value} {w : World} {d : Nat} {ty : TypeId} {pos : String} {aft : Array Edge} {g : Option (Nat × Bool)}
theorem qx8 {T : TypeId} {s : ByteArray} {k : Nat} {kk : IntKind} (hT : P.underlying T = some .string) (hk : k <= s.size) :
   (Instr.sliceAt T (.string s) (some (.int kk (k : Nat))) none none).run P w = .ok (.string (s.extract k s.size)) w := by
 have h1 : (0 : Int) <= (k : Nat) /\ ((k : Nat) : Int) <= s.size := ⟨by omega, by omega⟩
 simp only [Instr.sliceAt, Sem.run_bind, run_underlying hT, Result.andThen_ok, Instr.slice, Instr.sliceBounds, Instr.sliceBound, asIntOf]
 simp
 omega
theorem q1r {T : TypeId} {s : ByteArray} {k : Nat} {kk : IntKind} (hT : P.underlying T = some .string) (hk : k <= s.size) :
   (Instr.sliceAt T (.string s) none (some (.int kk (k : Nat))) none).run P w = .ok (.string (s.extract 0 k)) w := by
 have h1 : (0 : Int) <= (k : Nat) /\ ((k : Nat) : Int) <= s.size := ⟨by omega, by omega⟩
 simp only [Instr.sliceAt, Sem.run_bind, run_underlying hT, Result.andThen_ok, Instr.slice, Instr.sliceBounds, Instr.sliceBound, asIntOf, if_true]
 simp
 omega
theorem q23 {Q : Exit -> Act -> World -> Prop} {T : TypeId} {x y : Operand} {s : ByteArray} {k : Nat} {kk : IntKind} (hT : P.underlying T = some .string) (hg : wantF ops σ n g = true) (hx : (okO n x && okO n y) = true) (ex : ev σ x = .string s) (ey : ev σ y = .int kk (k : Nat)) (hk : k <= s.size)
   (kt : wpList P ops Q rest (Fr n (upd σ d (.string (s.extract k s.size)))) w) : wpList P ops Q (⟨some d, .slice T x (some y) none none, ty, pos, aft, g⟩ :: rest) (Fr n σ) w := by
 simp only [Bool.and_eq_true] at hx
 exact qbd hg (by simp only [execOp, qaq hx.1, ex, Option.map_none, Option.map_some, qaq hx.2, ey, qx8 hT hk, Sem.run_bind, Sem.run_pure, Result.andThen_ok]) kt
theorem q3c {Q : Exit -> Act -> World -> Prop} {T : TypeId} {x y : Operand} {s : ByteArray} {k : Nat} {kk : IntKind} (hT : P.underlying T = some .string) (hg : wantF ops σ n g = true) (hx : (okO n x && okO n y) = true) (ex : ev σ x = .string s) (ey : ev σ y = .int kk (k : Nat)) (hk : k <= s.size)
   (kt : wpList P ops Q rest (Fr n (upd σ d (.string (s.extract 0 k)))) w) : wpList P ops Q (⟨some d, .slice T x none (some y) none, ty, pos, aft, g⟩ :: rest) (Fr n σ) w := by
 simp only [Bool.and_eq_true] at hx
 exact qbd hg (by simp only [execOp, qaq hx.1, ex, Option.map_none, Option.map_some, qaq hx.2, ey, q1r hT hk, Sem.run_bind, Sem.run_pure, Result.andThen_ok]) kt
end
end Go.Sx
end

section
namespace Go.Jx
open Go Go.Sx Go.RowKit
def qig (g : Nat) : List IV -> Bool
 | [] => false
 | v :: l => match l with
   | [] => match v with
     | .fn f _ => Nat.beq f g
     | _ => false
   | _ => qig g l
def hxSel (p : List IV -> Bool) (a b : Hx) : Hx := ⟨fun cl vs S => cond (p vs) (a.f cl vs S) (b.f cl vs S), fun clP R vs S kk => cond (p vs) (a.k clP R vs S kk) (b.k clP R vs S kk), fun cl clP h R vs S kk => by
 cases p vs with
 | true => exact a.eq cl clP h R vs S kk
 | false => exact b.eq cl clP h R vs S kk⟩
theorem qno {P : Program} {f : Nat} {p : List IV -> Bool} {a b : Hx} (ha : HxOK P f a.f) (hb : HxOK P f b.f) : HxOK P f (hxSel p a b).f := by
 refine ⟨fun cl h1 h2 h3 vs S r hr => ?_, fun cl h1 vs S => ?_, fun cl h1 vs S r hr => ?_⟩
 · have hr : cond (p vs) (a.f cl vs S) (b.f cl vs S) = some r := hr
   cases hp : p vs with
   | true => rw [hp] at hr; exact ha.fn cl h1 h2 h3 vs S r hr
   | false => rw [hp] at hr; exact hb.fn cl h1 h2 h3 vs S r hr
 · show FrO S (cond (p vs) (a.f cl vs S) (b.f cl vs S))
   cases p vs with
   | true => exact ha.fr cl h1 vs S
   | false => exact hb.fr cl h1 vs S
 · have hr : cond (p vs) (a.f cl vs S) (b.f cl vs S) = some r := hr
   cases hp : p vs with
   | true => rw [hp] at hr; exact ha.calm cl h1 vs S r hr
   | false => rw [hp] at hr; exact hb.calm cl h1 vs S r hr
end Go.Jx
end

noncomputable section
set_option maxRecDepth 100000
namespace Go.Proofs.YtanenikkloolfaaGreatDoor
open Go Go.Sx Go.RowKit Go.Jx
theorem sxF115 : SixFacts Tryz.prog ttT.get fi115 (cL fb115) (cL (cL (cR fb115))) (cB (cB (cR (cL (cR fb115))))) (cR (cR fb115)) :=
 ⟨by kernel_rfl, by kernel_rfl, fun mr mw => by kernel_rfl, fun R clK B0 mr mw lf s g caps b S kk => by kernel_rfl, fun R B0 mr mw lf g caps b a id rd S S' test kk => by kernel_rfl, fun R clK B0 mr mw lf fr S kk => by kernel_rfl, by kernel_rfl, by kernel_rfl, fun mr mw => by kernel_rfl⟩
theorem ixO115 : HxOK Tryz.prog 115 sixF := six_ok sxF115 mixed ttOK fo115
def nmz1 : Nat -> Option Nm := fun k => cond (Nat.beq k 999999) (some ⟨[], [], [], [], [], 0, 0, false⟩) none
def stz1 : Nat -> Bool := fun k => false
def hdz1 := stz1
abbrev Rtz1 : Type := (Int × Unit) × Unit
def smlz1 : List (Nat × Sm) := []
def hxlz1 : List (Nat × Hx) := [(115, sixHx)]
def clz1 (R : Type) (lf : Nat) : ClK R := qaj Tryz.prog ttT.get ftT.get (fun _ _ => none) (smL smlz1) (hxL hxlz1) lf 20 R
abbrev idz1 : Nat := 91
def qoq (lf : Nat) (x1 : ByteArray) : Option Rtz1 := (match (sixO (fun v0 v1 => (cond (iltI v1 (Int.ofNat 32)) (some Bool.true) (some (iltI (Int.ofNat 126) v1)))) x1 Bool.true (Nat.add (ByteArray.size x1) 1) 0) with | .none  => none | .some v2 => (some ((v2, ()), ())))
abbrev gz1 : Type := ElP [.dat .str, .fn 92] -> Option Rtz1
abbrev sz1 (g : gz1) : SmR := ⟨[.dat .str, .fn 92], [(false, (.int .i64))], g⟩
abbrev Ez1 (g : gz1) (J : JT Rtz1) (lf : Nat) (x1 : ByteArray) := qax Tryz.prog ttT.get nmz1 (mP [.dat .str, .fn 92]) fi91.nt (clz1 _ lf) lf stz1 J fi91.body [] (argGo (argsP [.dat .str, .fn 92] idN 0 (x1, ())) 0 .leaf) (Sc [.dat .str, .fn 92] (x1, ())) [] (lastQ ttT.get fi91 (sz1 g))
theorem inz1 (g : gz1) (J : JT Rtz1) (lf : Nat) (x1 : ByteArray) : Ez1 g J lf x1 = qoq lf x1 := by kernel_rfl
theorem ndz1 : (regs fi91.body).Nodup := by decide +kernel
theorem okz1 : okC nmz1 stz1 hdz1 fi91.body none = true := by kernel_rfl
def Az1 (g : gz1) (lf : Nat) : JT Rtz1 := atQ Tryz.prog ttT.get nmz1 fi91 (sz1 g) (clz1 _ lf) lf hdz1
def Fz1 (lf : Nat) (x1 : ByteArray) : Option Rtz1 := qoq lf x1
theorem runz1 (g : gz1) (lf : Nat) (x1 : ByteArray) : Ez1 g (Az1 g lf) lf x1 = Fz1 lf x1 := by
   refine (inz1 g (Az1 g lf) lf x1).trans ?_
   rfl
theorem hxsz1 : HxsOK Tryz.prog hxlz1 := ⟨ixO115, trivial⟩
theorem mkz1 {g : gz1} (hsm : SmOK Tryz.prog smlz1) (hg : ∀ (x : ElP [.dat .str, .fn 92]) (y : Rtz1), WfP [.dat .str, .fn 92] x -> g x = some y -> ∃ lf, Fz1 lf x.1 = some y) : ConR Tryz.prog 91 ⟨[.dat .str, .fn 92], [(false, (.int .i64))], g⟩ :=
 conTR (nmf := nmz1) (sml := smlz1) (hxl := hxlz1) (st := stz1) (hd := hdz1) 20 mixed ttOK ftOK hsm hxsz1 cal91 (by kernel_rfl) (fun x => by kernel_rfl) ndz1 okz1 fun x y z hx hy => by
   obtain ⟨lf, h⟩ := hg x (y, z) hx hy
   exact ⟨lf, (runz1 g lf x.1).trans h⟩
theorem badT_eq (v : Int) : (cond (iltI v (Int.ofNat 32)) (some true) (some (iltI (Int.ofNat 126) v))) = some (S.badB v) := by
 rw [qav, qav]
 unfold S.badB
 show cond (decide (v < 32)) _ (some (decide (126 < v))) = _
 cases decide (v < 32) <;> cases decide (126 < v) <;> rfl
theorem q2m (r : Int) (h : 128 <= r) : S.badB r = true := by
 unfold S.badB
 rw [decide_eq_true (show 126 < r by omega), Bool.or_true]
theorem Fz1_eq (lf : Nat) (s : ByteArray) : Fz1 lf s = some ((S.idx S.badB (qaa s), ()), ()) := by
 have e : (fun (v0 : Nat) (v1 : Int) => (cond (iltI v1 (Int.ofNat 32)) (some true) (some (iltI (Int.ofNat 126) v1)))) = fun _ r => some (S.badB r) := by
   funext _ r; exact badT_eq r
 simp only [Fz1, qoq]
 rw [e, quy q2m (Nat.add s.size 1) 0 (by show s.size - 0 < s.size + 1; omega)]
 rw [List.drop_zero]
 unfold S.idx
 cases List.findIdx? S.badB (qaa s) with
 | none => rfl
 | some j => simp only [Nat.zero_add]
theorem conz1 : ConR Tryz.prog idz1 spz1 := mkz1 trivial fun x y hx h => ⟨0, (Fz1_eq 0 _).trans h⟩
end Go.Proofs.YtanenikkloolfaaGreatDoor
end
