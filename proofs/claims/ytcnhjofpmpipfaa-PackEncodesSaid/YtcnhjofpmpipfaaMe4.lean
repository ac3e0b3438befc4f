/- Texts: Jvs, Jhx, Jra, Qsp, Qg1, Qp1, Qg2, Jcl, Qcl, Qp2, Qp3, Qnm, Rsp, Rg1, Rp1, Rp2, Rg2, Rp3, Rp4. -/
import Derived.Test.YtcnhjofpmpipfaaMe3
import Derived.Test.YtcnhjofpmpipfaaMe1
import Derived.Laws.RangeAny
set_option linter.unusedVariables false
section
namespace Go.Jx
open Go Go.Sx Go.RowKit
universe u
section
variable {P : Program} {tt : Nat → Option TI} {nm : Nat → Option Nm} {B nt lf : Nat} {round : Option Nat} {cl cl' : Cl}
def ClLe (cl cl' : Cl) : Prop := ∀ t vs S r, cl t vs S = some r → cl' t vs S = some r
theorem istep_mono (h : ClLe cl cl') {fr : PT IV} {S : IS} {o : Oper} {r : Res} (hr : istep P tt nt cl fr S o = some r) : istep P tt nt cl' fr S o = some r := by
 obtain ⟨dst, op, ty, pos, aft, g⟩ := o
 cases op <;> try exact hr
 rename_i c
 obtain ⟨callee, args, ts⟩ := c
 cases callee <;> try exact hr
 rename_i x
 simp only [istep, oget] at hr ⊢
 generalize evo nt fr x = e1 at hr ⊢
 cases e1 with
 | none => cases hr
 | some v =>
   simp only at hr ⊢
   generalize evL nt fr args.toList = e2 at hr ⊢
   cases e2 with
   | none => cases hr
   | some vs =>
     cases v <;> simp only at hr ⊢ <;> first | (cases hr; done) | exact h _ _ _ _ hr
theorem iseq_mono (h : ClLe cl cl') {ops : List Oper} : ∀ {l : List Oper} {fr : PT IV} {S : IS} {q : FRes}, iseq P tt nt cl ops l fr S = some q → iseq P tt nt cl' ops l fr S = some q
 | [], fr, S, q, hq => hq
 | o :: l, fr, S, q, hq => by
   unfold iseq at hq ⊢
   cases hgk : gOK ops fr o.guard with
   | false => rw [hgk] at hq; cases hq
   | true =>
   rw [hgk, cond_true] at hq
   rw [cond_true]
   cases hw : wantI ops nt fr o.guard with
   | true =>
     rw [hw, cond_true] at hq
     rw [cond_true]
     cases hs : istep P tt nt cl fr S o with
     | none => rw [hs] at hq; cases hq
     | some r =>
       rw [hs] at hq
       rw [istep_mono h hs]
       simp only at hq ⊢
       cases hn : iseq P tt nt cl ops l (putD o.dst r.v fr) r.S with
       | none => rw [hn] at hq; cases hq
       | some q2 => rw [hn] at hq; rw [iseq_mono h hn]; exact hq
   | false =>
     rw [hw, cond_false] at hq
     rw [cond_false]
     exact iseq_mono h hq
theorem irecs_mono (h : ClLe cl cl') {ops : List Oper} : ∀ {l : List Oper} {fr : PT IV} {S : IS} {q : Recs}, irecs P tt nt cl ops l fr S = some q → irecs P tt nt cl' ops l fr S = some q
 | [], fr, S, q, hq => hq
 | o :: l, fr, S, q, hq => by
   unfold irecs at hq ⊢
   cases hgk : gOK ops fr o.guard with
   | false => rw [hgk] at hq; cases hq
   | true =>
   rw [hgk, cond_true] at hq
   rw [cond_true]
   cases hw : wantI ops nt fr o.guard with
   | true =>
     rw [hw, cond_true] at hq
     rw [cond_true]
     cases hs : istep P tt nt cl fr S o with
     | none => rw [hs] at hq; cases hq
     | some r =>
       rw [hs] at hq
       rw [istep_mono h hs]
       simp only at hq ⊢
       cases hn : irecs P tt nt cl ops l (putD o.dst r.v fr) r.S with
       | none => rw [hn] at hq; cases hq
       | some q2 => rw [hn] at hq; rw [irecs_mono h hn]; exact hq
   | false =>
     rw [hw, cond_false] at hq
     rw [cond_false]
     cases hn : irecs P tt nt cl ops l (putD o.dst (.tup []) fr) S with
     | none => rw [hn] at hq; cases hq
     | some q2 => rw [hn] at hq; rw [irecs_mono h hn]; exact hq
theorem iany_mono (h : ClLe cl cl') {ops : List Oper} {fr : PT IV} {S : IS} {q : FRes} (hq : iany P tt nt cl ops fr S = some q) : iany P tt nt cl' ops fr S = some q := by
 unfold iany at hq ⊢
 cases hn : irecs P tt nt cl ops ops fr S with
 | none => rw [hn] at hq; cases hq
 | some q2 => rw [hn] at hq; rw [irecs_mono h hn]; exact hq
theorem ifin_mono (h : ClLe cl cl') {f : Nat} {caps : List IV} {S : IS} {id : Nat} {fr : PT IV} {ds : List Nat} {rd : Nat} {q : CRes} (hq : ifin cl f caps S id fr ds rd = some q) : ifin cl' f caps S id fr ds rd = some q := by
 unfold ifin at hq ⊢
 cases hn : cl (.fn f) (.yield id :: caps) S with
 | none => rw [hn] at hq; cases hq
 | some r => rw [hn] at hq; rw [h _ _ _ _ hn]; exact hq
theorem icode_mono (h : ClLe cl cl') : ∀ (c : Code) {fr : PT IV} {S : IS} {ds : List Nat} {q : CRes}, icode P tt nm B nt cl lf round c fr S ds = some q → icode P tt nm B nt cl' lf round c fr S ds = some q := by
 intro c
 induction c with
 | skip => intro fr S ds q hq; exact hq
 | label l => intro fr S ds q hq; exact hq
 | exit id => intro fr S ds q hq; exact hq
 | goto l => intro fr S ds q hq; exact hq
 | ret => intro fr S ds q hq; exact hq
 | refuse _ => intro fr S ds q hq; exact hq
 | region id ops draw =>
   intro fr S ds q hq
   simp only [icode] at hq ⊢
   cases hx : inorm nt (nm id) B fr S ds with
   | none => rw [hx] at hq; cases hq
   | some x =>
     rw [hx] at hq
     simp only at hq ⊢
     cases draw with
     | true =>
       simp only [cond_true] at hq ⊢
       cases hn : iany P tt nt cl ops.toList x.fr x.S with
       | none => rw [hn] at hq; cases hq
       | some r => rw [hn] at hq; rw [iany_mono h hn]; exact hq
     | false =>
       simp only [cond_false] at hq ⊢
       cases hn : iseq P tt nt cl ops.toList ops.toList x.fr x.S with
       | none => rw [hn] at hq; cases hq
       | some r => rw [hn] at hq; rw [iseq_mono h hn]; exact hq
 | seq x y ihx ihy =>
   intro fr S ds q hq
   simp only [icode] at hq ⊢
   cases hn : icode P tt nm B nt cl lf round x fr S ds with
   | none => rw [hn] at hq; cases hq
   | some r =>
     rw [hn] at hq
     rw [ihx hn]
     simp only at hq ⊢
     cases he : r.e <;> rw [he] at hq <;> simp only at hq ⊢ <;> try exact hq
     cases hn2 : icode P tt nm B nt cl lf round y r.fr r.S r.ds with
     | none => rw [hn2] at hq; cases hq
     | some r2 => rw [hn2] at hq; rw [ihy hn2]; exact hq
 | cond c x y ihx ihy =>
   intro fr S ds q hq
   simp only [icode] at hq ⊢
   cases hv : evo nt fr c with
   | none => rw [hv] at hq; cases hq
   | some v =>
     rw [hv] at hq
     cases v <;> simp only at hq ⊢ <;> try (cases hq; done)
     rename_i b
     cases b with
     | true => exact ihx hq
     | false => exact ihy hq
 | block id c ih =>
   intro fr S ds q hq
   simp only [icode] at hq ⊢
   cases hn : icode P tt nm B nt cl lf round c fr S ds with
   | none => rw [hn] at hq; cases hq
   | some r => rw [hn] at hq; rw [ih hn]; exact hq
 | scope c ih =>
   intro fr S ds q hq
   simp only [icode] at hq ⊢
   cases hn : icode P tt nm B nt cl lf round c fr S ds with
   | none => rw [hn] at hq; cases hq
   | some r => rw [hn] at hq; rw [ih hn]; exact hq
 | loop c ih =>
   intro fr S ds q hq
   simp only [icode] at hq ⊢
   cases hm : loopM nm c with
   | some m =>
     rw [hm] at hq
     simp only at hq ⊢
     obtain ⟨q0, hq0, rfl⟩ := mbO_some hq
     have key : ∀ n fr S ds q, iiterM (icode P tt nm B nt cl lf round c) m.1 m.2 n fr S ds = some q → iiterM (icode P tt nm B nt cl' lf round c) m.1 m.2 n fr S ds = some q := by
       intro n
       induction n with
       | zero => intro fr S ds q hq; exact hq
       | succ n ihn =>
         intro fr S ds q hq
         unfold iiterM at hq ⊢
         cases hn : icode P tt nm B nt cl lf round c fr S ds with
         | none => rw [hn] at hq; cases hq
         | some r =>
           rw [hn] at hq
           rw [ih hn]
           simp only at hq ⊢
           cases hb : (subm r.rd m.1 && subm r.wr m.2) with
           | false => rw [hb] at hq; cases hq
           | true =>
             rw [hb, cond_true] at hq
             rw [cond_true]
             cases he : r.e <;> rw [he] at hq <;> simp only at hq ⊢ <;> first | exact ihn _ _ _ _ hq | exact hq
     rw [key _ _ _ _ _ hq0]
     rfl
   | none =>
     rw [hm] at hq
     simp only at hq ⊢
     have key : ∀ n fr S ds q, iiter (icode P tt nm B nt cl lf round c) n fr S ds = some q → iiter (icode P tt nm B nt cl' lf round c) n fr S ds = some q := by
       intro n
       induction n with
       | zero => intro fr S ds q hq; exact hq
       | succ n ihn =>
         intro fr S ds q hq
         unfold iiter at hq ⊢
         cases hn : icode P tt nm B nt cl lf round c fr S ds with
         | none => rw [hn] at hq; cases hq
         | some r =>
           rw [hn] at hq
           rw [ih hn]
           simp only at hq ⊢
           cases he : r.e <;> rw [he] at hq <;> simp only at hq ⊢ <;> try exact hq
           cases hn2 : iiter (icode P tt nm B nt cl lf round c) n r.fr r.S r.ds with
           | none => rw [hn2] at hq; cases hq
           | some r2 => rw [hn2] at hq; rw [ihn _ _ _ _ hn2]; exact hq
     exact key _ _ _ _ _ hq
 | rangeFunc g ps assign body ih1 ih2 =>
   intro fr S ds q hq
   simp only [icode] at hq ⊢
   obtain ⟨q0, hq0, rfl⟩ := mbO_some hq
   cases hv : evo nt fr g with
   | none => rw [hv] at hq0; cases hq0
   | some v =>
     rw [hv] at hq0
     cases v <;> simp only at hq0 ⊢ <;> try (cases hq0; done)
     cases round with
     | none => simp only at hq0 ⊢; rw [ifin_mono h hq0]; rfl
     | some l =>
       simp only at hq0 ⊢
       cases ho : S.heap.get l with
       | none => rw [ho] at hq0; cases hq0
       | some o =>
         rw [ho] at hq0
         cases o <;> simp only at hq0 ⊢ <;> try (cases hq0; done)
         rw [ifin_mono h hq0]; rfl
end
def sixO (p : Nat → Int → Option Bool) (s : ByteArray) (b : Bool) : Nat → Nat → Option Int
 | 0, _ => none
 | n + 1, i => cond (Nat.blt i s.size) (match p (i + (Utf8.decode s i).2) (Int.ofNat (Utf8.decode s i).1) with
   | none => none
   | some a => cond (decide (a = b)) (some (Int.ofNat i)) (sixO p s b n (i + (Utf8.decode s i).2))) (some (-1))
def sixF (cl : Cl) (vs : List IV) (S : IS) : Option Res := match vs with
 | [.str s, .fn g caps, .bool b] => match sixO (fun q x => ob (cl (.fn g) (.int .i32 x :: caps) (S.new (.iter s q))) (ansB (below S.next))) s b (s.size + 1) 0 with
   | none => none
   | some i => some ⟨.int .i64 i, S, below S.next, 0⟩
 | _ => none
def sixK (clP : ClP) (R : Type) (vs : List IV) (S : IS) (kk : Res → Option R) : Option R := match vs with
 | [.str s, .fn g caps, .bool b] => match sixO (fun q x => clP Bool (.fn g) (.int .i32 x :: caps) (S.new (.iter s q)) (ansB (below S.next))) s b (s.size + 1) 0 with
   | none => none
   | some i => kk ⟨.int .i64 i, S, below S.next, 0⟩
 | _ => none
theorem six_eq (cl : Cl) (clP : ClP) (h : ∀ R, ClEq cl (clP R)) (R : Type) (vs : List IV) (S : IS) (kk : Res → Option R) : sixK clP R vs S kk = ob (sixF cl vs S) kk := by
 unfold sixK sixF
 split
 · rename_i s g caps b
   simp only [h Bool _ _ _ _]
   cases sixO (fun q x => ob (cl (.fn g) (.int .i32 x :: caps) (S.new (.iter s q))) (ansB (below S.next))) s b (s.size + 1) 0 <;> rfl
 · rfl
def sixHx : Hx := ⟨sixF, sixK, six_eq⟩
theorem sixF_inv {cl : Cl} {vs : List IV} {S : IS} {r : Res} (h : sixF cl vs S = some r) : ∃ s g caps b i, vs = [.str s, .fn g caps, .bool b] ∧ sixO (fun q x => ob (cl (.fn g) (.int .i32 x :: caps) (S.new (.iter s q))) (ansB (below S.next))) s b (s.size + 1) 0 = some i ∧ r = ⟨.int .i64 i, S, below S.next, 0⟩ := by
 unfold sixF at h
 split at h
 · rename_i s g caps b
   split at h <;> cases h
   rename_i i hi
   exact ⟨_, _, _, _, _, rfl, hi, rfl⟩
 · cases h
def nmS (mr mw : Nat) : Nat → Option Nm := fun j => cond (Nat.beq j 2) (some ⟨[1, 2, 10], [], [], [], [], mr, mw, true⟩) none
theorem mB_S (mr mw B : Nat) : mB (nmS mr mw) B = B := rfl
def frS (g : Nat) (caps : List IV) (b : Bool) (id : Nat) : PT IV := ((PT.leaf.set (.fn g caps) 1).set (.bool b) 2).set (.ptr id 0) 10
def clT (test : Tgt → List IV → IS → Bool) (c : Res) : Cl := fun t vs S => cond (test t vs S) (some c) none
structure SixFacts (P : Program) (tt : Nat → Option TI) (fi : FI) (A B L C : Code) : Prop where
 body : fi.body = .seq A (.seq (.seq B (.block 0 (.loop L))) C)
 three : Nat.ble 3 fi.nt = true
 head : ∀ mr mw, okC (nmS mr mw) (fun k => Nat.beq k 2) (fun k => Nat.beq k 2) L (some 2) = true
 ab : ∀ (R : Type) (clK : ClK R) (B0 mr mw lf : Nat) (s : ByteArray) (g : Nat) (caps : List IV) (b : Bool) (S : IS) (kk : _ → Option R), icodeK P tt (nmS mr mw) B0 fi.nt clK lf none (.seq A B) (argGo [.str s, .fn g caps, .bool b] 0 .leaf) S [] (fun r => kk (tup [1, 2, 10] r)) =
   kk (.normal, [.fn g caps, .bool b, .ptr S.next 0], S.new (.iter s 0), [], (mb B0 0).lor (mb B0 0), (mb B0 0).lor (mb B0 0))
 l : ∀ (R : Type) (B0 mr mw lf : Nat) (g : Nat) (caps : List IV) (b a : Bool) (id rd : Nat) (S S' : IS) (test : Tgt → List IV → IS → Bool) (kk : _ → Option R), icodeK P tt (nmS mr mw) B0 fi.nt (fun t vs S kk => cond (test t vs S) (kk ⟨.bool a, S', rd, 0⟩) none) lf none L (frS g caps b id) S [] (fun r => kk (tup [1, 2, 6, 10] r)) =
   match S.heap.get id with
   | some (.iter s p) => cond (Nat.blt p s.size)
     (cond (test (.fn g) (.int .i32 (Int.ofNat (Utf8.decode s p).1) :: caps) (S.set id (.iter s (p + (Utf8.decode s p).2))))
       (cond (decide (a = b))
         (kk (.ret, [.fn g caps, .bool b, .int .i64 (Int.ofNat p), .ptr id 0], S', [], (mb B0 0).lor (Nat.lor 0 ((mb B0 0).lor ((mb B0 (Nat.lor 0 (Nat.lor 0 (rd.lor 0)))).lor ((mb B0 0).lor 0)))),
           (mb B0 (Nat.lor 0 ((Nat.pow 2 id).lor 0))).lor (Nat.lor 0 ((mb B0 0).lor ((mb B0 0).lor ((mb B0 0).lor 0))))))
         (kk (.normal, [.fn g caps, .bool b, .unk, .ptr id 0], S', [], (mb B0 0).lor (Nat.lor 0 ((mb B0 0).lor ((mb B0 (Nat.lor 0 (Nat.lor 0 (rd.lor 0)))).lor 0))),
           (mb B0 (Nat.lor 0 ((Nat.pow 2 id).lor 0))).lor (Nat.lor 0 ((mb B0 0).lor ((mb B0 0).lor 0))))))
       none)
     (kk (.exit 0, [.fn g caps, .bool b, .unk, .ptr id 0], S, [], (mb B0 ((Nat.pow 2 id).lor 0)).lor 0, (mb B0 0).lor 0))
   | _ => none
 e : ∀ (R : Type) (clK : ClK R) (B0 mr mw lf : Nat) (fr : PT IV) (S : IS) (kk : CRes → Option R), icodeK P tt (nmS mr mw) B0 fi.nt clK lf none C fr S [] kk = kk ⟨.ret, fr.set (.int .i64 (-1)) 6, S, [], (mb B0 0).lor 0, (mb B0 0).lor 0⟩
 res : fi.res = [.tmp 6]
 nt6 : Nat.blt 6 fi.nt = true
 lm : ∀ mr mw, loopM (nmS mr mw) L = some (mr, mw)
theorem PT.one_set {α : Type u} (x y : α) : ∀ (f n : Nat), n ≤ f → (PT.one x f n).set y n = PT.one y f n
 | 0, n, h => by
   obtain rfl : n = 0 := by omega
   rfl
 | f + 1, n, h => by
   by_cases hn : n = 0
   · subst hn; rfl
   · by_cases h2 : n % 2 = 1
     · simp only [PT.one, beq_f hn, cond_false, beq_t h2, cond_true, PT.set]
       rw [PT.one_set x y f _ (by omega)]
     · simp only [PT.one, beq_f hn, cond_false, beq_f h2, PT.set]
       rw [PT.one_set x y f _ (by omega)]
theorem PT.set_set {α : Type u} (x y : α) : ∀ (t : PT α) (n : Nat), (t.set x n).set y n = t.set y n
 | .leaf, n => PT.one_set x y n n (Nat.le_refl _)
 | .node v l r, n => by
   by_cases hn : n = 0
   · subst hn; rfl
   · by_cases h2 : n % 2 = 1
     · simp only [PT.set, beq_f hn, cond_false, beq_t h2, cond_true]
       rw [PT.set_set x y l]
     · simp only [PT.set, beq_f hn, cond_false, beq_f h2]
       rw [PT.set_set x y r]
theorem IS.new_set (S : IS) (o o' : IObj) : (S.new o).set S.next o' = S.new o' := by
 unfold IS.new IS.set
 simp only [PT.set_set]
theorem IS.new_get (S : IS) (o : IObj) : (S.new o).heap.get S.next = some o := by
 unfold IS.new
 simp only [PT.get_set, if_true]
theorem subm_iff {a m : Nat} : subm a m = true ↔ ∀ j, a.testBit j = true → m.testBit j = true := by
 constructor
 · intro h j hj; exact subm_tin (T := fun j => m.testBit j = true) h (fun j hj => hj) j hj
 · intro h
   unfold subm
   have : a ||| m = m := Nat.eq_of_testBit_eq fun j => by
     rw [Nat.testBit_or]
     cases ha : a.testBit j with
     | false => rfl
     | true => rw [h j ha]; rfl
   rw [this]; exact Nat.beq_refl m
theorem below_bit (n j : Nat) : (below n).testBit j = decide (j < n) := by unfold below; exact Nat.testBit_two_pow_sub_one ..
theorem hx_int2 {P : Program} {tt : Nat → Option TI} {fi : FI} {f : Nat} {nm : Nat → Option Nm} {lf : Nat} {cl : Cl} {vs : List IV} {S S1 : IS} {fr : PT IV} {e : IEx} {rd wr : Nat} {k : IntKind} {i : Int} {t : Nat} (hz : frzF nm = false) (hm : P.follows .mixedOrders = true) (htt : TT P tt) (hfi : FIok P f fi) (hcl : ClOK P cl) (hfr : ClFr cl)
   (hb : Nat.ble vs.length fi.nt = true) (hr : icode P tt nm S.next fi.nt cl lf none fi.body (argGo vs 0 .leaf) S [] = some ⟨e, fr, S1, [], rd, wr⟩) (hw : wr % 2 ^ S.next = 0) (he : e.leaves = true) (hres : fi.res = [.tmp t]) (hnt : Nat.blt t fi.nt = true) (hs : slot fr t = .int k i)
   {T : TW} {E : Env} {us : List Value} (p : Pre T E S) (hrd : tin T.r (below S.next)) (hv : VRs E vs us) : Callable P f ∧ CallsIn Fence.wide 0 P f us.toArray E.w (RetE T E S ⟨.int k i, S, below S.next, 0⟩) := by
 refine body_ok (fi := fi) (r := ⟨.int k i, S, (rd ||| 0) % 2 ^ S.next, 0⟩) hz hm htt hfi hcl hfr hb hr he ?_ p (below_tin hrd) (fun j hj => by simp at hj) hv
 have e1 : imarks ([] : List Nat) S1 = some (S1, 0) := rfl
 simp only [ileave, e1, hres, ires, hnt, cond_true, hs]
 simp only [tupI, igc, low2, low0, Nat.or_zero, hw, Nat.beq_refl, Bool.and_self, cond_true]
variable {P : Program} {tt : Nat → Option TI} {fi : FI} {A B L C : Code}
theorem six_loop (F : SixFacts P tt fi A B L C) {cl : Cl} (hcalm : Calm cl) {s : ByteArray} {b : Bool} {g : Nat} {caps : List IV} {S : IS} {i : Int} {lf : Nat} : ∀ (fuel p : Nat) (fr : PT IV), (slot fr 1 = .fn g caps ∧ slot fr 2 = .bool b ∧ slot fr 10 = .ptr S.next 0) →
   sixO (fun q x => ob (cl (.fn g) (.int .i32 x :: caps) (S.new (.iter s q))) (ansB (below S.next))) s b fuel p = some i →
   ∃ r, iiterM (icode P tt (nmS (below (S.next + 1)) (2 ^ S.next)) S.next fi.nt cl lf none L) (below (S.next + 1)) (2 ^ S.next) fuel fr (S.new (.iter s p)) [] = some r ∧ r.ds = [] ∧ r.rd = below (S.next + 1) ∧ r.wr = 2 ^ S.next ∧ ((r.e = .ret ∧ slot r.fr 6 = .int .i64 i) ∨ (r.e = .exit 0 ∧ i = -1)) := by
 intro fuel
 induction fuel with
 | zero => intro p fr hs hi; cases hi
 | succ n ih =>
   intro p fr hs hi
   have e1 := fun cl => headedO (P := P) (tt := tt) (B := S.next) (nt := fi.nt) (lf := lf) (cl := cl) (h := 2) (m := ⟨[1, 2, 10], [], [], [], [], below (S.next + 1), 2 ^ S.next, true⟩) rfl rfl (fr := fr) (fr' := frS g caps b S.next) (by
     intro t ht
     simp only [List.mem_cons, List.not_mem_nil, or_false] at ht
     rcases ht with rfl | rfl | rfl
     · exact hs.1
     · exact hs.2.1
     · exact hs.2.2) (c := L) (S := S.new (.iter s p)) (ds := []) (F.head _ _)
   have hb1 : ∀ x, subm x (below S.next) = true → subm (mb S.next x) (below (S.next + 1)) = true := fun x hx => mb_subm (by
     rw [subm_iff] at hx ⊢
     intro j hj
     have := hx j hj
     rw [below_bit] at this ⊢
     simp only [decide_eq_true_eq] at this ⊢
     omega)
   have hb2 : subm (mb S.next (2 ^ S.next)) (2 ^ S.next) = true := mb_subm (subm_self _)
   have hb3 : subm (mb S.next (2 ^ S.next)) (below (S.next + 1)) = true := mb_subm (by
     rw [subm_iff]
     intro j hj
     rw [Nat.testBit_two_pow] at hj
     rw [below_bit]
     simp only [decide_eq_true_eq] at hj ⊢
     omega)
   have hpw : Nat.pow 2 S.next = 2 ^ S.next := rfl
   unfold sixO at hi
   cases hlt : Nat.blt p s.size with
   | false =>
     rw [hlt, cond_false] at hi
     cases hi
     have e2 := F.l (IEx × List IV × IS × List Nat × Nat × Nat) S.next (below (S.next + 1)) (2 ^ S.next) lf g caps b false S.next 0 (S.new (.iter s p)) S (fun _ _ _ => false) some
     rw [IS.new_get] at e2
     simp only [hlt, cond_false, cond_true, mb_zero, lor_zero, zero_lor] at e2
     have ec : (fun (t : Tgt) (vs : List IV) (S : IS) (kk : Res → Option (IEx × List IV × IS × List Nat × Nat × Nat)) => (none : Option (IEx × List IV × IS × List Nat × Nat × Nat))) = fun t vs S kk => ob ((fun _ _ _ => none : Cl) t vs S) kk := rfl
     rw [ec] at e2
     obtain ⟨r, hr, ht⟩ := run_tup e2
     have hr := icode_mono (cl' := cl) (fun t vs S r h => by cases h) _ hr
     simp only [tup, Prod.mk.injEq] at ht
     obtain ⟨t1, t2, t3, t4, t5, t6⟩ := ht
     refine ⟨⟨.exit 0, r.fr, S.new (.iter s p), [], below (S.next + 1), 2 ^ S.next⟩, ?_, rfl, rfl, rfl, .inr ⟨rfl, rfl⟩⟩
     unfold iiterM
     rw [e1 cl]
     have hr' : icode P tt (nmS (below (S.next + 1)) (2 ^ S.next)) S.next fi.nt cl lf none L (frS g caps b S.next) (S.new (.iter s p)) [] = some r := hr
     simp only [hr', t5, t6, hpw, hb3, subm_zero, Bool.and_self, cond_true, t1, t3, t4]
   | true =>
     rw [hlt, cond_true] at hi
     cases hc : cl (.fn g) (.int .i32 (Int.ofNat (Utf8.decode s p).1) :: caps) (S.new (.iter s (p + (Utf8.decode s p).2))) with
     | none => rw [hc] at hi; cases hi
     | some r0 =>
     rw [hc] at hi
     simp only [ob] at hi
     obtain ⟨v0, S0', rd0, wr0⟩ := r0
     cases v0 <;> simp only [ansB] at hi <;> try (cases hi; done)
     rename_i a
     cases hmk : (Nat.beq wr0 0 && subm rd0 (below S.next)) with
     | false => rw [hmk] at hi; cases hi
     | true =>
     rw [hmk] at hi
     simp only [Bool.and_eq_true] at hmk
     have hw0 : wr0 = 0 := Nat.eq_of_beq_eq_true hmk.1
     subst hw0
     have hS : S0' = S.new (.iter s (p + (Utf8.decode s p).2)) := hcalm _ _ _ _ hc rfl rfl
     subst hS
     simp only [cond_true] at hi
     have hsm := hb1 _ hmk.2
     let c0 : Res := ⟨.bool a, S.new (.iter s (p + (Utf8.decode s p).2)), rd0, 0⟩
     let test : Tgt → List IV → IS → Bool := fun t vs S => @decide (cl t vs S = some c0) (Classical.propDecidable _)
     have hle : ClLe (clT test c0) cl := fun t vs S r h => by
       unfold clT at h
       cases ht : test t vs S with
       | false => rw [ht] at h; cases h
       | true =>
         rw [ht] at h; cases h
         exact @of_decide_eq_true _ (Classical.propDecidable _) ht
     have e2 := F.l (IEx × List IV × IS × List Nat × Nat × Nat) S.next (below (S.next + 1)) (2 ^ S.next) lf g caps b a S.next rd0 (S.new (.iter s p)) (S.new (.iter s (p + (Utf8.decode s p).2))) test some
     rw [IS.new_get] at e2
     have htest : test (.fn g) (.int .i32 (Int.ofNat (Utf8.decode s p).1) :: caps) ((S.new (.iter s p)).set S.next (.iter s (p + (Utf8.decode s p).2))) = true := by
       rw [IS.new_set]
       exact @decide_eq_true _ (Classical.propDecidable _) hc
     simp only [hlt, htest, cond_true, mb_zero, lor_zero, zero_lor] at e2
     cases hab : decide (a = b) with
     | true =>
       rw [hab, cond_true] at e2 hi
       cases hi
       have ec : (fun (t : Tgt) (vs : List IV) (S : IS) (kk : Res → Option (IEx × List IV × IS × List Nat × Nat × Nat)) => cond (test t vs S) (kk c0) none) = fun t vs S kk => ob (clT test c0 t vs S) kk := by
         funext t vs S kk
         unfold clT
         cases test t vs S <;> rfl
       rw [ec] at e2
       obtain ⟨r, hr, ht⟩ := run_tup e2
       have hr := icode_mono hle _ hr
       simp only [tup, Prod.mk.injEq, List.map_cons, List.cons.injEq] at ht
       obtain ⟨t1, t2, t3, t4, t5, t6⟩ := ht
       refine ⟨⟨.ret, r.fr, S.new (.iter s (p + (Utf8.decode s p).2)), [], below (S.next + 1), 2 ^ S.next⟩, ?_, rfl, rfl, rfl, .inl ⟨rfl, t2.2.2.1⟩⟩
       unfold iiterM
       rw [e1 cl]
       have hr' : icode P tt (nmS (below (S.next + 1)) (2 ^ S.next)) S.next fi.nt cl lf none L (frS g caps b S.next) (S.new (.iter s p)) [] = some r := hr
       simp only [hr', t5, t6, hpw, hsm, hb2, Bool.and_self, cond_true, t1, t3, t4]
     | false =>
       rw [hab, cond_false] at e2 hi
       have ec : (fun (t : Tgt) (vs : List IV) (S : IS) (kk : Res → Option (IEx × List IV × IS × List Nat × Nat × Nat)) => cond (test t vs S) (kk c0) none) = fun t vs S kk => ob (clT test c0 t vs S) kk := by
         funext t vs S kk
         unfold clT
         cases test t vs S <;> rfl
       rw [ec] at e2
       obtain ⟨r, hr, ht⟩ := run_tup e2
       have hr := icode_mono hle _ hr
       simp only [tup, Prod.mk.injEq, List.map_cons, List.cons.injEq] at ht
       obtain ⟨t1, t2, t3, t4, t5, t6⟩ := ht
       obtain ⟨q, q1, q2⟩ := ih (p + (Utf8.decode s p).2) r.fr ⟨t2.1, t2.2.1, t2.2.2.2.1⟩ hi
       refine ⟨q, ?_, q2⟩
       unfold iiterM
       rw [e1 cl]
       have hr' : icode P tt (nmS (below (S.next + 1)) (2 ^ S.next)) S.next fi.nt cl lf none L (frS g caps b S.next) (S.new (.iter s p)) [] = some r := hr
       simp only [hr', t5, t6, hpw, hsm, hb2, Bool.and_self, cond_true, t1, t3, t4]
       exact q1
theorem mb_mod (n : Nat) : mb n (2 ^ n) % 2 ^ n = 0 := by
 unfold mb
 cases Nat.beq n 0
 · exact Nat.mod_self _
 · exact Nat.zero_mod _
theorem six_ok {f : Nat} (F : SixFacts P tt fi A B L C) (hm : P.follows .mixedOrders = true) (htt : TT P tt) (hfi : FIok P f fi) : HxOK P f sixF := by
 refine ⟨fun cl hcl hfr hcalm vs S r h T E us p hrd hwr hv => ?_, fun cl hfr vs S r h => ?_, fun cl hcalm vs S r h _ _ => ?_⟩
 · obtain ⟨s, g, caps, b, i, rfl, hi, rfl⟩ := sixF_inv h
   obtain ⟨ra, hra, hta⟩ := run_tup (cl := cl) (F.ab (IEx × List IV × IS × List Nat × Nat × Nat) (fun t vs S kk => ob (cl t vs S) kk) S.next (below (S.next + 1)) (2 ^ S.next) (s.size + 1) s g caps b S some)
   obtain ⟨rae, rafr, raS, rads, rard, rawr⟩ := ra
   simp only [tup, Prod.mk.injEq, List.map_cons, List.map_nil, List.cons.injEq, mb_zero, lor_zero] at hta
   obtain ⟨rfl, ⟨s1, s2, s3, _⟩, rfl, rfl, rfl, rfl⟩ := hta
   obtain ⟨r, hr, hds, hrd2, hwr2, hcase⟩ := six_loop F hcalm (lf := s.size + 1) (s.size + 1) 0 rafr ⟨s1, s2, s3⟩ hi
   obtain ⟨re, rfr, rS, rds, rrd, rwr⟩ := r
   simp only at hds hrd2 hwr2 hcase
   subst hds; subst hrd2; subst hwr2
   simp only [icode] at hra
   cases hA : icode P tt (nmS (below (S.next + 1)) (2 ^ S.next)) S.next fi.nt cl (s.size + 1) none A (argGo [.str s, .fn g caps, .bool b] 0 .leaf) S [] with
   | none => rw [hA] at hra; cases hra
   | some qa =>
   rw [hA] at hra
   simp only at hra
   obtain ⟨qe, qfr, qS, qds, qrd, qwr⟩ := qa
   cases qe <;> simp only at hra <;> try (cases hra; done)
   cases hB : icode P tt (nmS (below (S.next + 1)) (2 ^ S.next)) S.next fi.nt cl (s.size + 1) none B qfr qS qds with
   | none => rw [hB] at hra; cases hra
   | some qb =>
   rw [hB] at hra
   obtain ⟨be, bfr, bS, bds, brd, bwr⟩ := qb
   simp only [CRes.or, Option.some.injEq, CRes.mk.injEq] at hra
   obtain ⟨rfl, rfl, rfl, rfl, h5, h6⟩ := hra
   obtain ⟨z1, z2⟩ : qwr = 0 ∧ bwr = 0 := by
     constructor
     · exact Nat.eq_of_testBit_eq fun j => by have := congrArg (fun x => x.testBit j) h6; simp [Nat.testBit_or] at this; simp [this.1]
     · exact Nat.eq_of_testBit_eq fun j => by have := congrArg (fun x => x.testBit j) h6; simp [Nat.testBit_or] at this; simp [this.2]
   subst z1; subst z2
   rcases hcase with ⟨he, hs⟩ | ⟨he, hi2⟩
   · subst he
     refine hx_int2 (vs := [.str s, .fn g caps, .bool b]) (nm := nmS (below (S.next + 1)) (2 ^ S.next)) (lf := s.size + 1) (fr := rfr) (e := .ret) (k := .i64) (i := i) (t := 6) (S1 := rS) (rd := qrd ||| (brd ||| mb S.next (below (S.next + 1)))) (wr := mb S.next (2 ^ S.next)) rfl hm htt hfi hcl hfr F.three ?_ (mb_mod _) rfl F.res F.nt6 hs p hrd hv
     rw [F.body]
     simp only [icode, hA, hB, F.lm, hr, mbO, mbR, mB_S, CRes.or, Nat.zero_or]
   · subst he; subst hi2
     have hc := runK (F.e CRes (fun t vs S kk => ob (cl t vs S) kk) S.next (below (S.next + 1)) (2 ^ S.next) (s.size + 1) rfr rS some)
     refine hx_int2 (vs := [.str s, .fn g caps, .bool b]) (nm := nmS (below (S.next + 1)) (2 ^ S.next)) (lf := s.size + 1) (fr := rfr.set (.int .i64 (-1)) 6) (e := .ret) (k := .i64) (i := -1) (t := 6) (S1 := rS) (rd := qrd ||| ((brd ||| mb S.next (below (S.next + 1))) ||| 0)) (wr := mb S.next (2 ^ S.next)) rfl hm htt hfi hcl hfr F.three ?_ (mb_mod _) rfl F.res F.nt6 (by rw [slot_set, if_pos rfl]) p hrd hv
     rw [F.body]
     simp only [icode, hA, hB, F.lm, hr, mbO, mbR, mB_S, mb_zero, CRes.or, Nat.zero_or, Nat.beq_refl, cond_true, hc, lor_zero, Nat.or_zero]
 · obtain ⟨_, _, _, _, _, _, _, rfl⟩ := sixF_inv h
   exact FrO.same _ rfl
 · obtain ⟨_, _, _, _, _, _, _, rfl⟩ := sixF_inv h
   rfl
end Go.Jx
end
noncomputable section
set_option maxRecDepth 100000
namespace Go.Proofs.Ytcnhjofpmpipfaa
open Go Go.Sx Go.RowKit Go.Jx
theorem ixF125 : IdxFacts Try.prog ttT.get cForm fi125 (cL fb125) (cL (cL (cR fb125))) (cB (cB (cR (cL (cR fb125))))) (cR (cR fb125)) :=
 ⟨by kernel_rfl, by kernel_rfl, fun mr => by kernel_rfl, fun R clK B0 mr lf l g caps S kk => by kernel_rfl, fun R clK B0 mr lf l g caps S kk => by kernel_rfl, fun R clK B0 mr lf l g caps S i kk => by kernel_rfl, fun R clK B0 mr lf fr S kk => by kernel_rfl, by kernel_rfl, by kernel_rfl, fun mr => by kernel_rfl⟩
theorem ixO125 : HxOK Try.prog 125 (idxF cForm) := idx_ok ixF125 mixed ttOK fo125
theorem ixF135 : IdxFacts Try.prog ttT.get cNode fi135 (cL fb135) (cL (cL (cR fb135))) (cB (cB (cR (cL (cR fb135))))) (cR (cR fb135)) :=
 ⟨by kernel_rfl, by kernel_rfl, fun mr => by kernel_rfl, fun R clK B0 mr lf l g caps S kk => by kernel_rfl, fun R clK B0 mr lf l g caps S kk => by kernel_rfl, fun R clK B0 mr lf l g caps S i kk => by kernel_rfl, fun R clK B0 mr lf fr S kk => by kernel_rfl, by kernel_rfl, by kernel_rfl, fun mr => by kernel_rfl⟩
theorem ixO135 : HxOK Try.prog 135 (idxF cNode) := idx_ok ixF135 mixed ttOK fo135
theorem ixF137 : IdxFacts Try.prog ttT.get cVal fi137 (cL fb137) (cL (cL (cR fb137))) (cB (cB (cR (cL (cR fb137))))) (cR (cR fb137)) :=
 ⟨by kernel_rfl, by kernel_rfl, fun mr => by kernel_rfl, fun R clK B0 mr lf l g caps S kk => by kernel_rfl, fun R clK B0 mr lf l g caps S kk => by kernel_rfl, fun R clK B0 mr lf l g caps S i kk => by kernel_rfl, fun R clK B0 mr lf fr S kk => by kernel_rfl, by kernel_rfl, by kernel_rfl, fun mr => by kernel_rfl⟩
theorem ixO137 : HxOK Try.prog 137 (idxF cVal) := idx_ok ixF137 mixed ttOK fo137
theorem sxF143 : SixFacts Try.prog ttT.get fi143 (cL fb143) (cL (cL (cR fb143))) (cB (cB (cR (cL (cR fb143))))) (cR (cR fb143)) :=
 ⟨by kernel_rfl, by kernel_rfl, fun mr mw => by kernel_rfl, fun R clK B0 mr mw lf s g caps b S kk => by kernel_rfl, fun R B0 mr mw lf g caps b a id rd S S' test kk => by kernel_rfl, fun R clK B0 mr mw lf fr S kk => by kernel_rfl, by kernel_rfl, by kernel_rfl, fun mr mw => by kernel_rfl⟩
theorem ixO143 : HxOK Try.prog 143 sixF := six_ok sxF143 mixed ttOK fo143
theorem ixF144 : IdxFacts Try.prog ttT.get cCol fi144 (cL fb144) (cL (cL (cR fb144))) (cB (cB (cR (cL (cR fb144))))) (cR (cR fb144)) :=
 ⟨by kernel_rfl, by kernel_rfl, fun mr => by kernel_rfl, fun R clK B0 mr lf l g caps S kk => by kernel_rfl, fun R clK B0 mr lf l g caps S kk => by kernel_rfl, fun R clK B0 mr lf l g caps S i kk => by kernel_rfl, fun R clK B0 mr lf fr S kk => by kernel_rfl, by kernel_rfl, by kernel_rfl, fun mr => by kernel_rfl⟩
theorem ixO144 : HxOK Try.prog 144 (idxF cCol) := idx_ok ixF144 mixed ttOK fo144
end Go.Proofs.Ytcnhjofpmpipfaa
end
section
namespace Go.Jx
open Go Go.Sx Go.RowKit
universe u
theorem cond_if {α : Type} (b : Bool) (x y : α) : cond b x y = if b = true then x else y := by cases b <;> rfl
theorem oL : Int.ofNat 0 = 0 ∧ Int.ofNat 1 = 1 ∧ Int.ofNat 2 = 2 ∧ Int.ofNat 3 = 3 ∧ Int.ofNat 4 = 4 ∧ Int.ofNat 5 = 5 ∧ Int.ofNat 6 = 6 ∧ Int.ofNat 7 = 7 ∧ Int.ofNat 8 = 8 ∧ Int.ofNat 9 = 9 ∧ Int.ofNat 10 = 10 ∧ Int.ofNat 12 = 12 ∧ Int.ofNat 16 = 16 ∧ Int.ofNat 20 = 20 ∧ Int.ofNat 24 = 24 ∧ Int.ofNat 30 = 30 ∧ Int.ofNat 31 = 31 ∧ Int.ofNat 40 = 40 ∧ Int.ofNat 45 = 45 ∧ Int.ofNat 48 = 48 ∧ Int.ofNat 57 = 57 ∧ Int.ofNat 60 = 60 ∧ Int.ofNat 64 = 64 ∧ Int.ofNat 65 = 65 ∧ Int.ofNat 70 = 70 ∧ Int.ofNat 90 = 90 ∧ Int.ofNat 95 = 95 ∧ Int.ofNat 97 = 97 ∧ Int.ofNat 100 = 100 ∧ Int.ofNat 122 = 122 ∧ Int.ofNat 127 = 127 ∧ Int.ofNat 128 = 128 ∧ Int.ofNat 200 = 200 ∧ Int.ofNat 256 = 256 ∧ Int.ofNat 400 = 400 ∧ Int.ofNat 410 = 410 ∧ Int.ofNat 1500 = 1500 ∧ Int.ofNat 60000 = 60000 ∧ Int.ofNat 60010 = 60010 ∧ Int.ofNat 65536 = 65536 ∧ Int.ofNat 16777216 = 16777216 ∧ Int.ofNat 2147483647 = 2147483647 ∧ Int.ofNat 1099511627776 = 1099511627776 :=
 ⟨rfl, rfl, rfl, rfl, rfl, rfl, rfl, rfl, rfl, rfl, rfl, rfl, rfl, rfl, rfl, rfl, rfl, rfl, rfl, rfl, rfl, rfl, rfl, rfl, rfl, rfl, rfl, rfl, rfl, rfl, rfl, rfl, rfl, rfl, rfl, rfl, rfl, rfl, rfl, rfl, rfl, rfl, rfl⟩
theorem oLn : Int.negSucc 0 = -1 ∧ Int.negSucc 1099511627775 = -1099511627776 := ⟨rfl, rfl⟩
theorem jget_nat {α : Type} {l : List α} {i : Nat} : jget l (Int.ofNat i) = l[i]? := by unfold jget; rw [if_pos (by simp)]; simp
theorem jget_of {α : Type} {l : List α} {i : Int} (h0 : 0 ≤ i) (h1 : i < l.length) : ∃ x, jget l i = some x ∧ l[i.toNat]? = some x ∧ x ∈ l := by
 have h2 : i.toNat < l.length := by omega
 refine ⟨l[i.toNat], ?_, List.getElem?_eq_getElem h2, List.getElem_mem h2⟩
 unfold jget
 rw [if_pos h0, List.getElem?_eq_getElem h2]
theorem bsz_one : ∀ c : TC, 1 ≤ bsz c
 | .int k => by cases k <;> simp [bsz]
 | .bool => by simp [bsz]
 | .str => by simp [bsz]
 | .list _ => by simp [bsz]
 | .two a b => by have := bsz_one a; simp only [bsz]; omega
def LF : Nat := 9223372036854775808
theorem wf_len {c : TC} {l : El (.list c)} (h : WfE (.list c) l) : List.length (α := El c) l < LF := by
 have h1 := h.1
 have h2 := bsz_one c
 have : List.length (α := El c) l * 1 ≤ List.length (α := El c) l * bsz c := Nat.mul_le_mul_left _ h2
 unfold LF
 omega
theorem wf_mem {c : TC} {l : El (.list c)} (h : WfE (.list c) l) {x : El c} (hx : List.Mem (α := El c) x l) : WfE c x := h.2 x hx
theorem wrap_succ {n : Nat} (h : n + 1 < LF) : IntKind.i64.wrap (Int.add (Int.ofNat n) (Int.ofNat 1)) = Int.ofNat (n + 1) := by
 unfold LF at h
 rw [show Int.add (Int.ofNat n) (Int.ofNat 1) = Int.ofNat (n + 1) from rfl]
 exact wrap64_in (by simp; omega)
structure Rnd {α : Type} (l : List α) (i : Nat) (v : α) (rest : List α) : Prop where
 drop : l.drop i = v :: rest
 mem : v ∈ l
 lt : i < l.length
 ilt : iltI (Int.ofNat i) (Int.ofNat l.length) = true
 get : jget l (Int.ofNat i) = some v
 get? : l[i]? = some v
 next : IntKind.i64.wrap (Int.add (Int.ofNat i) (Int.ofNat 1)) = Int.ofNat (i + 1)
 tail : l.drop (i + 1) = rest
 take : l.take (i + 1) = l.take i ++ [v]
theorem ils (n : Nat) : iltI (Int.ofNat n) (Int.ofNat n) = false := by rw [iltI_eq]; simp
theorem rnd_of {α : Type} {l : List α} {i : Nat} (h : i < l.length) (hl : l.length < LF) : ∃ v rest, Rnd l i v rest := by
 refine ⟨l[i], l.drop (i + 1), List.drop_eq_getElem_cons h, List.getElem_mem h, h, by rw [iltI_eq]; simp; omega, ?_, List.getElem?_eq_getElem h, wrap_succ (by omega), rfl, ?_⟩
 · rw [jget_nat]; exact List.getElem?_eq_getElem h
 · rw [List.take_succ_eq_append_getElem h]
theorem range_by {α σ A R : Type} {T : (A → Option R) → A → Option R} (l : List α) (mk : Int → σ → A) (I : Nat → σ → Prop) (g : List α → Nat → σ → Option R) (hl : l.length < LF)
   (hnil : ∀ K s, I l.length s → T K (mk (Int.ofNat l.length) s) = g [] l.length s)
   (hcons : ∀ K i v rest s, I i s → Rnd l i v rest → (∀ s', I (i + 1) s' → K (mk (Int.ofNat (i + 1)) s') = g rest (i + 1) s') → T K (mk (Int.ofNat i) s) = g (v :: rest) i s) :
   ∀ n i s, i ≤ l.length → I i s → l.length - i < n → rounds T n (mk (Int.ofNat i) s) = g (l.drop i) i s
 | 0, i, s, _, _, h => by omega
 | n + 1, i, s, hi, hI, h => by
   show T (rounds T n) (mk (Int.ofNat i) s) = _
   by_cases e : i = l.length
   · subst e
     rw [hnil _ _ hI, List.drop_length]
   · obtain ⟨v, rest, r⟩ := rnd_of (l := l) (i := i) (by omega) hl
     rw [hcons (rounds T n) i v rest s hI r fun s' hI' => ?_, r.drop]
     rw [range_by l mk I g hl hnil hcons n (i + 1) s' (by have := r.lt; omega) hI' (by omega), r.tail]
theorem range0 {α σ A R : Type} {T : (A → Option R) → A → Option R} (l : List α) (mk : Int → σ → A) (I : Nat → σ → Prop) (g : List α → Nat → σ → Option R) (hl : l.length < LF)
   (hnil : ∀ K s, I l.length s → T K (mk (Int.ofNat l.length) s) = g [] l.length s)
   (hcons : ∀ K i v rest s, I i s → Rnd l i v rest → (∀ s', I (i + 1) s' → K (mk (Int.ofNat (i + 1)) s') = g rest (i + 1) s') → T K (mk (Int.ofNat i) s) = g (v :: rest) i s)
   (s : σ) (hI : I 0 s) : rounds T LF (mk (Int.ofNat 0) s) = g l 0 s := by
 have := range_by l mk I g hl hnil hcons LF 0 s (Nat.zero_le _) hI (by omega)
 rwa [List.drop_zero] at this
theorem range1 {α R : Type} {T : (Int → Option R) → Int → Option R} (l : List α) (g : List α → Nat → Option R) (hl : l.length < LF)
   (hnil : ∀ K, T K (Int.ofNat l.length) = g [] l.length)
   (hcons : ∀ K i v rest, Rnd l i v rest → K (Int.ofNat (i + 1)) = g rest (i + 1) → T K (Int.ofNat i) = g (v :: rest) i) : rounds T LF (Int.ofNat 0) = g l 0 :=
 range0 (σ := Unit) l (fun i _ => i) (fun _ _ => True) (fun rest i _ => g rest i) hl (fun K _ _ => hnil K) (fun K i v rest _ _ r h => hcons K i v rest r (h () trivial)) () trivial
theorem sixO_some {p : Nat → Int → Option Bool} {q : Int → Bool} (hp : ∀ i r, p i r = some (q r)) (s : ByteArray) (b : Bool) : ∀ (n i : Nat), s.size - i < n → ∃ k, sixO p s b n i = some k
 | 0, i, h => by omega
 | n + 1, i, h => by
   unfold sixO
   cases hlt : Nat.blt i s.size with
   | false => exact ⟨_, rfl⟩
   | true =>
     have h1 : i < s.size := by simpa using hlt
     simp only [cond_true, hp]
     cases decide (q (Int.ofNat (Utf8.decode s i).1) = b) with
     | true => exact ⟨_, rfl⟩
     | false =>
       rw [cond_false]
       have := decode_width s i
       exact sixO_some hp s b n _ (by omega)
namespace S
def idx {α : Type} (p : α → Bool) (l : List α) : Int := match l.findIdx? p with
 | some j => Int.ofNat j
 | none => -1
theorem idx_nonneg {α : Type} (p : α → Bool) (l : List α) : 0 ≤ idx p l ↔ l.any p = true := by
 unfold idx
 cases h : l.findIdx? p with
 | none =>
   simp only
   rw [List.findIdx?_eq_none_iff] at h
   constructor
   · intro h; omega
   · intro h2
     rw [List.any_eq_true] at h2
     obtain ⟨x, hx, hp⟩ := h2
     rw [h x hx] at hp; cases hp
 | some j =>
   simp only
   obtain ⟨h1, h2, h3⟩ := List.findIdx?_eq_some_iff_getElem.1 h
   constructor
   · intro _
     rw [List.any_eq_true]
     exact ⟨_, List.getElem_mem h1, h2⟩
   · intro _; exact Int.natCast_nonneg _
theorem idx_get {α : Type} {p : α → Bool} {l : List α} (h : 0 ≤ idx p l) : ∃ x, jget l (idx p l) = some x ∧ l[(idx p l).toNat]? = some x ∧ p x = true ∧ x ∈ l ∧ idx p l < l.length ∧ l.find? p = some x := by
 unfold idx at h ⊢
 cases hf : l.findIdx? p with
 | none => rw [hf] at h; simp at h
 | some j =>
   simp only
   obtain ⟨h1, h2, h3⟩ := List.findIdx?_eq_some_iff_getElem.1 hf
   refine ⟨l[j], ?_, by simp [h1], h2, List.getElem_mem h1, by simpa using h1, ?_⟩
   · rw [jget_nat]; exact List.getElem?_eq_getElem h1
   · rw [List.find?_eq_some_iff_getElem]
     exact ⟨h2, j, h1, rfl, fun k hk => by simpa using h3 k hk⟩
end S
theorem idxO_idx {α : Type} {p : α → Option Bool} (q : α → Bool) {l : List α} (h : ∀ x ∈ l, p x = some (q x)) : idxO p l 0 = some (S.idx q l) := by
 rw [idxO_some h]
 unfold S.idx
 cases l.findIdx? q <;> simp
end Go.Jx
end
section
noncomputable section
namespace Go.Proofs.Ytcnhjofpmpipfaa
open Go Go.Sx Go.RowKit Go.Jx
abbrev DVal : Type := Int × Int
abbrev DNode : Type := ByteArray × List DVal
abbrev DGraph : Type := List DNode × List DVal
abbrev DCol : Type := ByteArray × Int × ByteArray
abbrev DForm : Type := ByteArray × List DCol
abbrev DGive : Type := ByteArray × Int × Int
abbrev DRule : Type := ByteArray × ByteArray × List DGive
abbrev DRefusal : Type := Int × ByteArray
namespace S
open Go.Jx.S
def within (n lo hi : Int) : Bool := decide (lo ≤ n) && decide (n ≤ hi)
def unlessE (b : Bool) (e : Int) : Int := cond b 0 e
def first : List Int → Int
 | [] => 0
 | e :: l => if e = 0 then first l else e
def ANY : ByteArray := S.lit [65, 78, 89]
def form (l : List DForm) (n : ByteArray) : Int := idx (fun f => keqS f.1 n) l
def col (l : List DCol) (n : ByteArray) : Int := idx (fun c => keqS c.1 n) l
def zRule : DRule := (S.lit [], S.lit [], [])
def zCol : DCol := (S.lit [], 0, S.lit [])
def zGive : DGive := (S.lit [], 0, 0)
def zForm : DForm := (S.lit [], [])
def zVal : DVal := (0, 0)
def zNode : DNode := (S.lit [], [])
def zGraph : DGraph := ([], [])
def zRefusal : DRefusal := (0, S.lit [])
def at_ {α : Type} (d : α) (l : List α) (i : Int) : α := (l[i.toNat]?).getD d
def ruleOf (l : List DRule) (c : ByteArray) : DRule × Bool := match l.find? (fun r => keqS r.1 c) with
 | some r => (r, true)
 | none => (zRule, false)
def badR (r lo hi : Int) : Bool := !((decide (lo ≤ r) && decide (r ≤ hi)) || (decide (48 ≤ r) && decide (r ≤ 57)) || decide (r = 95))
def named (s : ByteArray) (lo hi : Int) : Bool :=
 if s = S.lit [] then false
 else if 20 < s.size then false
 else match (byteList s)[0]? with
   | none => false
   | some b => if b < lo then false else if hi < b then false else match sixO (fun _ r => some (badR r lo hi)) s true (s.size + 1) 0 with
     | none => false
     | some i => decide (i < 0)
def classWords : List ByteArray := [S.lit [73, 78, 84, 69, 71, 69, 82], S.lit [66, 79, 79, 76, 69, 65, 78], ANY, S.lit [78, 79, 78, 69]]
def smallWords : List ByteArray := [S.lit [116, 114, 117, 101], S.lit [102, 97, 108, 115, 101], S.lit [118, 111, 105, 100], S.lit [99, 117, 114, 114, 101, 110, 116], S.lit [114, 101, 115, 117, 108, 116]]
def index (l : List ByteArray) (v : ByteArray) : Int := idx (fun x => keqS v x) l
def class_ (s : ByteArray) : Bool := named s 65 90 && decide (index classWords s < 0)
def small (s : ByteArray) : Bool := named s 97 122 && decide (index smallWords s < 0)
def ccGo (l : List DCol) : Nat → List DCol → Int
 | _, [] => 0
 | k, c :: r =>
   if small c.1 = false then 4
   else if ¬ col (l.take k) c.1 < 0 then 6
   else if within c.2.1 1 3 = false then 1
   else if ¬ c.2.1 = 3 ∧ ¬ c.2.2 = S.lit [] then 1
   else ccGo l (k + 1) r
def checkCols (l : List DCol) : Int := if 30 < l.length then 3 else ccGo l 0 l
def cfIn (l : List DForm) : List DCol → Bool
 | [] => true
 | c :: r => if c.2.1 = 3 ∧ ¬ c.2.2 = ANY ∧ form l c.2.2 < 0 then false else cfIn l r
def cfGo2 (l : List DForm) : List DForm → Int
 | [] => 0
 | f :: r => if cfIn l f.2 = true then cfGo2 l r else 5
def cfGo (l : List DForm) : Nat → List DForm → Int
 | _, [] => cfGo2 l l
 | k, f :: r =>
   let e := first [unlessE (class_ f.1) 4, unlessE (decide (form (l.take k) f.1 < 0)) 6, checkCols f.2]
   if e = 0 then cfGo l (k + 1) r else e
def checkForms (l : List DForm) : Int := if 24 < l.length then 3 else cfGo l 0 l
def value (v : DVal) (many : Int) : Bool :=
 if v.1 = 1 then within v.2 (-1099511627776) 1099511627776
 else if v.1 = 2 then within v.2 0 1
 else if v.1 = 3 then decide (v.2 = 0)
 else if v.1 = 4 then within v.2 0 (IntKind.i64.wrap (Int.sub many (Int.ofNat 1)))
 else false
def refers (v : DVal) : Bool := decide (v.1 = 3) || decide (v.1 = 4)
def formed (g : DGraph) : Int :=
 if 400 < g.1.length ∨ 60 < g.2.length then 3
 else if g.1.any (fun n => decide (30 < n.2.length)) then 3
 else if g.1.any (fun n => n.2.any fun v => !value v (Int.ofNat g.1.length)) then 2
 else if g.2.any (fun v => !value v (Int.ofNat g.1.length) || !refers v) then 2
 else 0
def refOK (g : DGraph) (v : DVal) : Bool := decide (v.1 = 4 → 0 ≤ v.2 ∧ v.2 < g.1.length)
def suits (g : DGraph) (c : DCol) (v : DVal) : Bool :=
 if c.2.1 = 1 then decide (v.1 = 1)
 else if c.2.1 = 2 then decide (v.1 = 2)
 else decide (v.1 = 3) || (decide (v.1 = 4) && (decide (c.2.2 = ANY) || decide ((at_ zNode g.1 v.2).1 = c.2.2)))
def colsOf (l : List DForm) (c : ByteArray) : List DCol := (at_ zForm l (form l c)).2
def suitsAll (g : DGraph) : List DCol → List DVal → Bool
 | c :: cs, v :: vs => if suits g c v = true then suitsAll g cs vs else false
 | _, _ => true
def typed (l : List DForm) (g : DGraph) : List DNode → Bool
 | [] => true
 | n :: ns => if n.2.length = (colsOf l n.1).length then (if suitsAll g (colsOf l n.1) n.2 = true then typed l g ns else false) else false
def typedPre (l : List DForm) (g : DGraph) : Bool := g.1.all fun n => decide (0 ≤ form l n.1) && n.2.all (refOK g)
def check (l : List DForm) (g : DGraph) : Int :=
 if ¬ formed g = 0 then formed g
 else if g.1.any (fun n => decide (form l n.1 < 0)) then 4
 else unlessE (typed l g g.1) 8
def checkG (l : List DForm) (g : DGraph) : Int := if ¬ checkForms l = 0 then checkForms l else check l g
def leads (l : List DRule) (a b : ByteArray) : Bool := decide (b = ANY) || ((ruleOf l a).2 && decide ((ruleOf l a).1.2.1 = b))
def fits (l : List DRule) (g : DGive) (a b : DCol) : Bool :=
 if g.2.1 = 1 then decide (a.2.1 = b.2.1) && (decide (¬ a.2.1 = 3) || leads l a.2.2 b.2.2)
 else if g.2.1 = 2 then decide (a.2.1 = 2) && decide (b.2.1 = 1)
 else if g.2.1 = 3 then decide (a.2.1 = 1) && decide (b.2.1 = 2)
 else if g.2.1 = 4 then decide (a.2.1 = 1) && decide (b.2.1 = 1)
 else if g.2.1 = 5 then decide (a.2.1 = 3) && (decide (b.2.1 = 3) && leads l a.2.2 b.2.2)
 else if g.2.1 = 6 then decide (b.2.1 = 1) || (decide (b.2.1 = 2) && within g.2.2 0 1)
 else decide (b.2.1 = 3)
def most (g : DGive) : Int := if g.2.1 = 4 ∨ g.2.1 = 6 then 1099511627776 else 0
def give (l : List DRule) (g : DGive) (cols : List DCol) (b : DCol) : Int :=
 if within g.2.1 1 5 = true ∧ col cols g.1 < 0 then 4
 else if within g.2.1 1 7 = false ∨ (within g.2.1 1 5 = false ∧ ¬ g.1 = S.lit []) ∨ within g.2.2 (-most g) (most g) = false ∨ (g.2.1 = 6 ∧ b.2.1 = 2 ∧ within g.2.2 0 1 = false) then 1
 else unlessE (fits l g (if within g.2.1 1 5 = true then at_ zCol cols (col cols g.1) else zCol) b) 8
def crGives (l : List DRule) (was : List DCol) : List DCol → List DGive → Int
 | c :: now, g :: r => if give l g was c = 0 then crGives l was now r else give l g was c
 | _, _ => 0
def crGo3 (a b : List DForm) (l : List DRule) : List DRule → Int
 | [] => 0
 | r :: rs =>
   if r.2.2.length = (colsOf b r.2.1).length then
     (if crGives l (colsOf a r.1) (colsOf b r.2.1) r.2.2 = 0 then crGo3 a b l rs else crGives l (colsOf a r.1) (colsOf b r.2.1) r.2.2)
   else 2
def crGo2 (a b : List DForm) (l : List DRule) : List DForm → Int
 | [] => crGo3 a b l l
 | f :: fs => if (ruleOf l f.1).2 = true then crGo2 a b l fs else 5
def crGo (a b : List DForm) (l : List DRule) : Nat → List DRule → Int
 | _, [] => crGo2 a b l a
 | k, r :: rs => if form a r.1 < 0 then 4 else if form b r.2.1 < 0 then 4 else if (ruleOf (l.take k) r.1).2 = true then 6 else crGo a b l (k + 1) rs
def checkRules0 (a b : List DForm) (l : List DRule) : Int := if 24 < l.length then 3 else crGo a b l 0 l
def checkRules (a b : List DForm) (l : List DRule) : Int := if first [checkForms a, checkForms b] = 0 then checkRules0 a b l else first [checkForms a, checkForms b]
def src (g : DGive) (cols : List DCol) (l : List DVal) : DVal := at_ zVal l (col cols g.1)
def made (g : DGive) (cols : List DCol) (l : List DVal) (b : DCol) : DVal × Bool :=
 if g.2.1 = 6 then (if b.2.1 = 2 then ((2, g.2.2), true) else ((1, g.2.2), true))
 else if g.2.1 = 7 then ((3, 0), true)
 else if g.2.1 = 2 then ((1, (src g cols l).2), true)
 else if g.2.1 = 3 then ((2, (src g cols l).2), within (src g cols l).2 0 1)
 else if g.2.1 = 4 then (src g cols l, decide ((src g cols l).2 < g.2.2))
 else if g.2.1 = 5 then (src g cols l, decide ((src g cols l).1 = 4))
 else (src g cols l, true)
def cvIn (cols : List DCol) (vs : List DVal) : List DGive → List DCol → List DVal → Option (List DVal) × ByteArray
 | g :: gs, c :: cs, acc => if (made g cols vs c).2 = true then cvIn cols vs gs cs (acc ++ [(made g cols vs c).1]) else (none, c.1)
 | _, _, acc => (some acc, S.lit [])
def cvGo (a b : List DForm) (l : List DRule) (roots : List DVal) : Nat → List DNode → List DNode → DGraph × DRefusal × Int
 | _, [], acc => ((acc, roots), zRefusal, 0)
 | i, n :: ns, acc =>
   let r := (ruleOf l n.1).1
   match cvIn (colsOf a n.1) n.2 r.2.2 (colsOf b r.2.1) [] with
   | (some vs, _) => cvGo a b l roots (i + 1) ns (acc ++ [(r.2.1, vs)])
   | (none, c) => (zGraph, (Int.ofNat i, c), 10)
def convert (a b : List DForm) (l : List DRule) (g : DGraph) : DGraph × DRefusal × Int :=
 if ¬ checkRules a b l = 0 then (zGraph, zRefusal, checkRules a b l)
 else if ¬ check a g = 0 then (zGraph, zRefusal, check a g)
 else cvGo a b l g.2 0 g.1 []
def keeps (l : List DRule) (a b : DCol) : Bool :=
 if ¬ a.2.1 = 3 then true
 else if a.2.2 = ANY ∨ b.2.2 = ANY then decide (a.2.2 = b.2.2)
 else leads l a.2.2 b.2.2
end S
def spz1 : Sm := ⟨[.int .i64, .int .i64, .int .i64], [(false, .bool)], fun x => some (S.within x.1 x.2.1 x.2.2.1, ())⟩
def spz2 : Sm := ⟨[.list (.int .i64)], [(false, .int .i64)], fun x => some (S.first x.1, ())⟩
def spz3 : Sm := ⟨[.list cForm, .str], [(false, .int .i64)], fun x => some (S.form x.1 x.2.1, ())⟩
def spz4 : Sm := ⟨[.list cCol, .str], [(false, .int .i64)], fun x => some (S.col x.1 x.2.1, ())⟩
def spz5 : Sm := ⟨[.str, .int .u8, .int .u8], [(false, .bool)], fun x => some (S.named x.1 x.2.1 x.2.2.1, ())⟩
def spz6 : Sm := ⟨[.list .str, .str], [(false, .int .i64)], fun x => some (S.index x.1 x.2.1, ())⟩
def spz7 : Sm := ⟨[.str], [(false, .bool)], fun x => some (S.class_ x.1, ())⟩
def spz8 : Sm := ⟨[.str], [(false, .bool)], fun x => some (S.small x.1, ())⟩
def spz9 : Sm := ⟨[.list cCol], [(false, .int .i64)], fun x => some (S.checkCols x.1, ())⟩
def spz10 : Sm := ⟨[.list cForm], [(false, .int .i64)], fun x => some (S.checkForms x.1, ())⟩
def spz11 : Sm := ⟨[cVal, .int .i64], [(false, .bool)], fun x => some (S.value x.1 x.2.1, ())⟩
def spz12 : Sm := ⟨[cGraph], [(false, .int .i64)], fun x => some (S.formed x.1, ())⟩
def spz13 : Sm := ⟨[cGraph, cCol, cVal], [(false, .bool)], fun x => cond (S.refOK x.1 x.2.2.1) (some (S.suits x.1 x.2.1 x.2.2.1, ())) none⟩
def spz14 : Sm := ⟨[.list cForm, cGraph], [(false, .bool)], fun x => cond (S.typedPre x.1 x.2.1) (some (S.typed x.1 x.2.1 x.2.1.1, ())) none⟩
def spz15 : Sm := ⟨[.list cForm, cGraph], [(false, .int .i64)], fun x => some (S.check x.1 x.2.1, ())⟩
def spz16 : Sm := ⟨[.list cForm, cGraph], [(false, .int .i64)], fun x => some (S.checkG x.1 x.2.1, ())⟩
end Go.Proofs.Ytcnhjofpmpipfaa
end
end
noncomputable section
set_option maxRecDepth 100000
namespace Go.Proofs.Ytcnhjofpmpipfaa
open Go Go.Sx Go.RowKit Go.Jx
def nmz1 : Nat → Option Nm := fun k => none
def stz1 : Nat → Bool := fun k => false
def hdz1 := stz1
abbrev Rtz1 : Type := Bool × Unit
def smlz1 : List (Nat × Sm) := []
def hxlz1 : List (Nat × Hx) := []
def clz1 (R : Type) (lf : Nat) : ClK R := icallK Try.prog ttT.get ftT.get (nm1 83 nmz1) (smL smlz1) (hxL hxlz1) lf 20 R
abbrev idz1 : Nat := 83
def Rz1_in (lf : Nat) (x1 : Int) (x2 : Int) (x3 : Int) : Option Rtz1 := (cond (Bool.not (iltI x1 x2)) (some ((Bool.not (iltI x3 x1)), ())) (some (Bool.false, ())))
abbrev gz1 : Type := ElA [(.int .i64), (.int .i64), (.int .i64)] → Option Rtz1
abbrev sz1 (g : gz1) : Sm := ⟨[(.int .i64), (.int .i64), (.int .i64)], [(false, .bool)], g⟩
abbrev Ez1 (g : gz1) (J : JT Rtz1) (lf : Nat) (x1 : Int) (x2 : Int) (x3 : Int) := icodeT Try.prog ttT.get nmz1 fi83.nt (clz1 _ lf) lf stz1 J fi83.body [] (argGo (argV [(.int .i64), (.int .i64), (.int .i64)] (x1, x2, x3, ())) 0 .leaf) S0 [] (lastK ttT.get fi83 (sz1 g))
theorem inz1 (g : gz1) (J : JT Rtz1) (lf : Nat) (x1 : Int) (x2 : Int) (x3 : Int) : Ez1 g J lf x1 x2 x3 = Rz1_in lf x1 x2 x3 := by kernel_rfl
theorem ndz1 : (regs fi83.body).Nodup := by decide +kernel
theorem okz1 : okC nmz1 stz1 hdz1 fi83.body none = true := by kernel_rfl
def Az1 (g : gz1) (lf : Nat) : JT Rtz1 := atN Try.prog ttT.get nmz1 fi83 (sz1 g) (clz1 _ lf) lf hdz1
def Fz1 (lf : Nat) (x1 : Int) (x2 : Int) (x3 : Int) : Option Rtz1 := Rz1_in lf x1 x2 x3
theorem runz1 (g : gz1) (lf : Nat) (x1 : Int) (x2 : Int) (x3 : Int) : Ez1 g (Az1 g lf) lf x1 x2 x3 = Fz1 lf x1 x2 x3 := by
   refine (inz1 g (Az1 g lf) lf x1 x2 x3).trans ?_
   rfl
theorem hxsz1 : HxsOK Try.prog hxlz1 := trivial
theorem mkz1 {g : gz1} (hsm : SmOK Try.prog smlz1) (hg : ∀ (x : ElA [(.int .i64), (.int .i64), (.int .i64)]) (y : Rtz1), WfA [(.int .i64), (.int .i64), (.int .i64)] x → g x = some y → ∃ lf, Fz1 lf x.1 x.2.1 x.2.2.1 = some y) : Con Try.prog 83 ⟨[(.int .i64), (.int .i64), (.int .i64)], [(false, .bool)], g⟩ :=
 conT (nmf := nmz1) (sml := smlz1) (hxl := hxlz1) (st := stz1) (hd := hdz1) 20 mixed ttOK ftOK hsm hxsz1 cal83 rfl rfl (by kernel_rfl) (fun x => by kernel_rfl) ndz1 okz1 fun x y hx hy => by
   obtain ⟨lf, h⟩ := hg x y hx hy
   exact ⟨lf, (runz1 g lf x.1 x.2.1 x.2.2.1).trans h⟩
def nmz2 : Nat → Option Nm := fun k => cond (Nat.beq k 2) (some ⟨[5, 6, 7], [], [], [], [], 0, 0, false⟩) (none)
def stz2 : Nat → Bool := fun k => cond (Nat.beq k 2) true (false)
def hdz2 := stz2
abbrev Rtz2 : Type := Int × Unit
def smlz2 : List (Nat × Sm) := []
def hxlz2 : List (Nat × Hx) := []
def clz2 (R : Type) (lf : Nat) : ClK R := icallK Try.prog ttT.get ftT.get (nm1 49 nmz2) (smL smlz2) (hxL hxlz2) lf 20 R
abbrev idz2 : Nat := 49
def encz2_2 (x1 : (List Int)) (p : Int) : NRes := (NRes.mk (.node none (.node none (.node none (.node (some (IV.int .i64 p)) .leaf .leaf) .leaf) (.node (some (IV.lst (TC.int .i64) x1)) .leaf .leaf)) (.node none .leaf (.node (some (IV.int .i64 (Int.ofNat (List.length x1)))) .leaf .leaf))) (IS.mk .leaf 0) [] 0)
def Rz2_in (lf : Nat) (x1 : (List Int)) (L2 : Int → Option Rtz2) : Option Rtz2 := (L2 (Int.ofNat 0))
def Rz2_2 (lf : Nat) (x1 : (List Int)) (L2 : Int → Option Rtz2) (p : Int) : Option Rtz2 := (cond (iltI p (Int.ofNat (List.length x1))) (match (jget x1 p) with | .none  => none | .some v0 => (cond (Bool.not (ieqI v0 (Int.ofNat 0))) (some (v0, ())) (L2 (IntKind.i64.wrap (Int.add p (Int.ofNat 1)))))) (some ((Int.ofNat 0), ())))
abbrev gz2 : Type := ElA [(.list (.int .i64))] → Option Rtz2
abbrev sz2 (g : gz2) : Sm := ⟨[(.list (.int .i64))], [(false, (.int .i64))], g⟩
abbrev Ez2 (g : gz2) (J : JT Rtz2) (lf : Nat) (x1 : (List Int)) := icodeT Try.prog ttT.get nmz2 fi49.nt (clz2 _ lf) lf stz2 J fi49.body [] (argGo (argV [(.list (.int .i64))] (x1, ())) 0 .leaf) S0 [] (lastK ttT.get fi49 (sz2 g))
abbrev Bz2 (g : gz2) (J : JT Rtz2) (lf k : Nat) (ms : List Nat) (q : NRes) := icodeFT Try.prog ttT.get nmz2 fi49.nt (clz2 _ lf) lf stz2 J k fi49.body [] ms q (lastK ttT.get fi49 (sz2 g))
theorem inz2 (g : gz2) (J : JT Rtz2) (lf : Nat) (x1 : (List Int)) : Ez2 g J lf x1 = Rz2_in lf x1 (fun q => J 2 [lf] (encz2_2 x1 q)) := by kernel_rfl
theorem stz2_2 (g : gz2) (J : JT Rtz2) (lf : Nat) (x1 : (List Int)) (m1 : Nat) (p : Int) : Bz2 g J lf 2 [m1] (encz2_2 x1 p) = Rz2_2 lf x1 (fun q => J 2 [m1] (encz2_2 x1 q)) p := by kernel_rfl
theorem ndz2 : (regs fi49.body).Nodup := by decide +kernel
theorem okz2 : okC nmz2 stz2 hdz2 fi49.body none = true := by kernel_rfl
def Az2 (g : gz2) (lf : Nat) : JT Rtz2 := atN Try.prog ttT.get nmz2 fi49 (sz2 g) (clz2 _ lf) lf hdz2
def Gz2_2 (lf : Nat) (x1 : (List Int)) : Nat → (Int) → Option Rtz2 := rounds fun K p => Rz2_2 lf x1 K p
theorem atz2_2 (g : gz2) (lf : Nat) (x1 : (List Int)) : ∀ (n : Nat) (p : Int), Az2 g lf 2 [n] (encz2_2 x1 p) = Gz2_2 lf x1 n p
 | 0, p => atz 2 [0] rfl _
 | n + 1, p => by
   have ih := atz2_2 g lf x1 n
   refine (atN_eq (iKe 20 _) ndz2 okz2 2 [n + 1] [n] rfl _).trans ((stz2_2 g (Az2 g lf) lf x1 n p).trans ?_)
   rw [(show (fun q => Az2 g lf 2 [n] (encz2_2 x1 q)) = (fun q => Gz2_2 lf x1 n q) from funext ih)]
   rfl
def Fz2 (lf : Nat) (x1 : (List Int)) : Option Rtz2 := Rz2_in lf x1 (fun q => Gz2_2 lf x1 lf q)
theorem runz2 (g : gz2) (lf : Nat) (x1 : (List Int)) : Ez2 g (Az2 g lf) lf x1 = Fz2 lf x1 := by
   refine (inz2 g (Az2 g lf) lf x1).trans ?_
   rw [(show (fun q => Az2 g lf 2 [lf] (encz2_2 x1 q)) = (fun q => Gz2_2 lf x1 lf q) from funext fun q => atz2_2 g lf x1 lf q)]
   rfl
theorem hxsz2 : HxsOK Try.prog hxlz2 := trivial
theorem mkz2 {g : gz2} (hsm : SmOK Try.prog smlz2) (hg : ∀ (x : ElA [(.list (.int .i64))]) (y : Rtz2), WfA [(.list (.int .i64))] x → g x = some y → ∃ lf, Fz2 lf x.1 = some y) : Con Try.prog 49 ⟨[(.list (.int .i64))], [(false, (.int .i64))], g⟩ :=
 conT (nmf := nmz2) (sml := smlz2) (hxl := hxlz2) (st := stz2) (hd := hdz2) 20 mixed ttOK ftOK hsm hxsz2 cal49 rfl rfl (by kernel_rfl) (fun x => by kernel_rfl) ndz2 okz2 fun x y hx hy => by
   obtain ⟨lf, h⟩ := hg x y hx hy
   exact ⟨lf, (runz2 g lf x.1).trans h⟩
def nmz3 : Nat → Option Nm := fun k => none
def stz3 : Nat → Bool := fun k => false
def hdz3 := stz3
abbrev Rtz3 : Type := Int × Unit
def smlz3 : List (Nat × Sm) := []
def hxlz3 : List (Nat × Hx) := [(125, idxHx cForm)]
def clz3 (R : Type) (lf : Nat) : ClK R := icallK Try.prog ttT.get ftT.get (nm1 52 nmz3) (smL smlz3) (hxL hxlz3) lf 20 R
abbrev idz3 : Nat := 52
def Rz3_in (lf : Nat) (x1 : (List DForm)) (x2 : ByteArray) : Option Rtz3 := (match (idxO (fun v0 => (some (keqS v0.1 x2))) x1 0) with | .none  => none | .some v1 => (some (v1, ())))
abbrev gz3 : Type := ElA [(.list cForm), .str] → Option Rtz3
abbrev sz3 (g : gz3) : Sm := ⟨[(.list cForm), .str], [(false, (.int .i64))], g⟩
abbrev Ez3 (g : gz3) (J : JT Rtz3) (lf : Nat) (x1 : (List DForm)) (x2 : ByteArray) := icodeT Try.prog ttT.get nmz3 fi52.nt (clz3 _ lf) lf stz3 J fi52.body [] (argGo (argV [(.list cForm), .str] (x1, x2, ())) 0 .leaf) S0 [] (lastK ttT.get fi52 (sz3 g))
theorem inz3 (g : gz3) (J : JT Rtz3) (lf : Nat) (x1 : (List DForm)) (x2 : ByteArray) : Ez3 g J lf x1 x2 = Rz3_in lf x1 x2 := by kernel_rfl
theorem ndz3 : (regs fi52.body).Nodup := by decide +kernel
theorem okz3 : okC nmz3 stz3 hdz3 fi52.body none = true := by kernel_rfl
def Az3 (g : gz3) (lf : Nat) : JT Rtz3 := atN Try.prog ttT.get nmz3 fi52 (sz3 g) (clz3 _ lf) lf hdz3
def Fz3 (lf : Nat) (x1 : (List DForm)) (x2 : ByteArray) : Option Rtz3 := Rz3_in lf x1 x2
theorem runz3 (g : gz3) (lf : Nat) (x1 : (List DForm)) (x2 : ByteArray) : Ez3 g (Az3 g lf) lf x1 x2 = Fz3 lf x1 x2 := by
   refine (inz3 g (Az3 g lf) lf x1 x2).trans ?_
   rfl
theorem hxsz3 : HxsOK Try.prog hxlz3 := ⟨ixO125, trivial⟩
theorem mkz3 {g : gz3} (hsm : SmOK Try.prog smlz3) (hg : ∀ (x : ElA [(.list cForm), .str]) (y : Rtz3), WfA [(.list cForm), .str] x → g x = some y → ∃ lf, Fz3 lf x.1 x.2.1 = some y) : Con Try.prog 52 ⟨[(.list cForm), .str], [(false, (.int .i64))], g⟩ :=
 conT (nmf := nmz3) (sml := smlz3) (hxl := hxlz3) (st := stz3) (hd := hdz3) 20 mixed ttOK ftOK hsm hxsz3 cal52 rfl rfl (by kernel_rfl) (fun x => by kernel_rfl) ndz3 okz3 fun x y hx hy => by
   obtain ⟨lf, h⟩ := hg x y hx hy
   exact ⟨lf, (runz3 g lf x.1 x.2.1).trans h⟩
def nmz4 : Nat → Option Nm := fun k => none
def stz4 : Nat → Bool := fun k => false
def hdz4 := stz4
abbrev Rtz4 : Type := Int × Unit
def smlz4 : List (Nat × Sm) := []
def hxlz4 : List (Nat × Hx) := [(144, idxHx cCol)]
def clz4 (R : Type) (lf : Nat) : ClK R := icallK Try.prog ttT.get ftT.get (nm1 95 nmz4) (smL smlz4) (hxL hxlz4) lf 20 R
abbrev idz4 : Nat := 95
def Rz4_in (lf : Nat) (x1 : (List DCol)) (x2 : ByteArray) : Option Rtz4 := (match (idxO (fun v0 => (some (keqS v0.1 x2))) x1 0) with | .none  => none | .some v1 => (some (v1, ())))
abbrev gz4 : Type := ElA [(.list cCol), .str] → Option Rtz4
abbrev sz4 (g : gz4) : Sm := ⟨[(.list cCol), .str], [(false, (.int .i64))], g⟩
abbrev Ez4 (g : gz4) (J : JT Rtz4) (lf : Nat) (x1 : (List DCol)) (x2 : ByteArray) := icodeT Try.prog ttT.get nmz4 fi95.nt (clz4 _ lf) lf stz4 J fi95.body [] (argGo (argV [(.list cCol), .str] (x1, x2, ())) 0 .leaf) S0 [] (lastK ttT.get fi95 (sz4 g))
theorem inz4 (g : gz4) (J : JT Rtz4) (lf : Nat) (x1 : (List DCol)) (x2 : ByteArray) : Ez4 g J lf x1 x2 = Rz4_in lf x1 x2 := by kernel_rfl
theorem ndz4 : (regs fi95.body).Nodup := by decide +kernel
theorem okz4 : okC nmz4 stz4 hdz4 fi95.body none = true := by kernel_rfl
def Az4 (g : gz4) (lf : Nat) : JT Rtz4 := atN Try.prog ttT.get nmz4 fi95 (sz4 g) (clz4 _ lf) lf hdz4
def Fz4 (lf : Nat) (x1 : (List DCol)) (x2 : ByteArray) : Option Rtz4 := Rz4_in lf x1 x2
theorem runz4 (g : gz4) (lf : Nat) (x1 : (List DCol)) (x2 : ByteArray) : Ez4 g (Az4 g lf) lf x1 x2 = Fz4 lf x1 x2 := by
   refine (inz4 g (Az4 g lf) lf x1 x2).trans ?_
   rfl
theorem hxsz4 : HxsOK Try.prog hxlz4 := ⟨ixO144, trivial⟩
theorem mkz4 {g : gz4} (hsm : SmOK Try.prog smlz4) (hg : ∀ (x : ElA [(.list cCol), .str]) (y : Rtz4), WfA [(.list cCol), .str] x → g x = some y → ∃ lf, Fz4 lf x.1 x.2.1 = some y) : Con Try.prog 95 ⟨[(.list cCol), .str], [(false, (.int .i64))], g⟩ :=
 conT (nmf := nmz4) (sml := smlz4) (hxl := hxlz4) (st := stz4) (hd := hdz4) 20 mixed ttOK ftOK hsm hxsz4 cal95 rfl rfl (by kernel_rfl) (fun x => by kernel_rfl) ndz4 okz4 fun x y hx hy => by
   obtain ⟨lf, h⟩ := hg x y hx hy
   exact ⟨lf, (runz4 g lf x.1 x.2.1).trans h⟩
def nmz5 : Nat → Option Nm := fun k => none
def stz5 : Nat → Bool := fun k => false
def hdz5 := stz5
abbrev Rtz5 : Type := Bool × Unit
def smlz5 : List (Nat × Sm) := []
def hxlz5 : List (Nat × Hx) := [(143, sixHx)]
def clz5 (R : Type) (lf : Nat) : ClK R := icallK Try.prog ttT.get ftT.get (nm1 90 nmz5) (smL smlz5) (hxL hxlz5) lf 20 R
abbrev idz5 : Nat := 90
def Rz5_in (lf : Nat) (x1 : ByteArray) (x2 : Int) (x3 : Int) : Option Rtz5 := (cond (keqS x1 (S.lit [])) (some (Bool.false, ())) (cond (iltI (Int.ofNat 20) (Int.ofNat (ByteArray.size x1))) (some (Bool.false, ())) (match (jget (byteList x1) (Int.ofNat 0)) with | .none  => none | .some v0 => (cond (iltI v0 x2) (some (Bool.false, ())) (match (jget (byteList x1) (Int.ofNat 0)) with | .none  => none | .some v1 => (cond (iltI x3 v1) (some (Bool.false, ())) (match (sixO (fun v2 v3 => (cond (Bool.not (iltI v3 (IntKind.wrap IntKind.i32 x2))) (cond (Bool.not (iltI (IntKind.wrap IntKind.i32 x3) v3)) (some Bool.false) (cond (Bool.not (iltI v3 (Int.ofNat 48))) (cond (Bool.not (iltI (Int.ofNat 57) v3)) (some Bool.false) (some (Bool.not (ieqI v3 (Int.ofNat 95))))) (some (Bool.not (ieqI v3 (Int.ofNat 95)))))) (cond (Bool.not (iltI v3 (Int.ofNat 48))) (cond (Bool.not (iltI (Int.ofNat 57) v3)) (some Bool.false) (some (Bool.not (ieqI v3 (Int.ofNat 95))))) (some (Bool.not (ieqI v3 (Int.ofNat 95))))))) x1 Bool.true (Nat.add (ByteArray.size x1) 1) 0) with | .none  => none | .some v4 => (some ((iltI v4 (Int.ofNat 0)), ())))))))))
abbrev gz5 : Type := ElA [.str, (.int .u8), (.int .u8)] → Option Rtz5
abbrev sz5 (g : gz5) : Sm := ⟨[.str, (.int .u8), (.int .u8)], [(false, .bool)], g⟩
abbrev Ez5 (g : gz5) (J : JT Rtz5) (lf : Nat) (x1 : ByteArray) (x2 : Int) (x3 : Int) := icodeT Try.prog ttT.get nmz5 fi90.nt (clz5 _ lf) lf stz5 J fi90.body [] (argGo (argV [.str, (.int .u8), (.int .u8)] (x1, x2, x3, ())) 0 .leaf) S0 [] (lastK ttT.get fi90 (sz5 g))
theorem inz5 (g : gz5) (J : JT Rtz5) (lf : Nat) (x1 : ByteArray) (x2 : Int) (x3 : Int) : Ez5 g J lf x1 x2 x3 = Rz5_in lf x1 x2 x3 := by kernel_rfl
theorem ndz5 : (regs fi90.body).Nodup := by decide +kernel
theorem okz5 : okC nmz5 stz5 hdz5 fi90.body none = true := by kernel_rfl
def Az5 (g : gz5) (lf : Nat) : JT Rtz5 := atN Try.prog ttT.get nmz5 fi90 (sz5 g) (clz5 _ lf) lf hdz5
def Fz5 (lf : Nat) (x1 : ByteArray) (x2 : Int) (x3 : Int) : Option Rtz5 := Rz5_in lf x1 x2 x3
theorem runz5 (g : gz5) (lf : Nat) (x1 : ByteArray) (x2 : Int) (x3 : Int) : Ez5 g (Az5 g lf) lf x1 x2 x3 = Fz5 lf x1 x2 x3 := by
   refine (inz5 g (Az5 g lf) lf x1 x2 x3).trans ?_
   rfl
theorem hxsz5 : HxsOK Try.prog hxlz5 := ⟨ixO143, trivial⟩
theorem mkz5 {g : gz5} (hsm : SmOK Try.prog smlz5) (hg : ∀ (x : ElA [.str, (.int .u8), (.int .u8)]) (y : Rtz5), WfA [.str, (.int .u8), (.int .u8)] x → g x = some y → ∃ lf, Fz5 lf x.1 x.2.1 x.2.2.1 = some y) : Con Try.prog 90 ⟨[.str, (.int .u8), (.int .u8)], [(false, .bool)], g⟩ :=
 conT (nmf := nmz5) (sml := smlz5) (hxl := hxlz5) (st := stz5) (hd := hdz5) 20 mixed ttOK ftOK hsm hxsz5 cal90 rfl rfl (by kernel_rfl) (fun x => by kernel_rfl) ndz5 okz5 fun x y hx hy => by
   obtain ⟨lf, h⟩ := hg x y hx hy
   exact ⟨lf, (runz5 g lf x.1 x.2.1 x.2.2.1).trans h⟩
def nmz6 : Nat → Option Nm := fun k => cond (Nat.beq k 2) (some ⟨[0, 1, 7, 8], [], [], [], [], 0, 0, false⟩) (none)
def stz6 : Nat → Bool := fun k => cond (Nat.beq k 2) true (false)
def hdz6 := stz6
abbrev Rtz6 : Type := Int × Unit
def smlz6 : List (Nat × Sm) := []
def hxlz6 : List (Nat × Hx) := []
def clz6 (R : Type) (lf : Nat) : ClK R := icallK Try.prog ttT.get ftT.get (nm1 124 nmz6) (smL smlz6) (hxL hxlz6) lf 20 R
abbrev idz6 : Nat := 124
def encz6_2 (x1 : (List ByteArray)) (x2 : ByteArray) (p : Int) : NRes := (NRes.mk (.node (some (IV.lst TC.str x1)) (.node (some (IV.str x2)) (.node none (.node (some (IV.int .i64 (Int.ofNat (List.length x1)))) .leaf .leaf) .leaf) .leaf) (.node none (.node none (.node (some (IV.int .i64 p)) .leaf .leaf) .leaf) .leaf)) (IS.mk .leaf 0) [] 0)
def Rz6_in (lf : Nat) (x1 : (List ByteArray)) (x2 : ByteArray) (L2 : Int → Option Rtz6) : Option Rtz6 := (L2 (Int.ofNat 0))
def Rz6_2 (lf : Nat) (x1 : (List ByteArray)) (x2 : ByteArray) (L2 : Int → Option Rtz6) (p : Int) : Option Rtz6 := (cond (iltI p (Int.ofNat (List.length x1))) (match (jget x1 p) with | .none  => none | .some v0 => (cond (keqS x2 v0) (some (p, ())) (L2 (IntKind.i64.wrap (Int.add p (Int.ofNat 1)))))) (some ((Int.negSucc 0), ())))
abbrev gz6 : Type := ElA [(.list .str), .str] → Option Rtz6
abbrev sz6 (g : gz6) : Sm := ⟨[(.list .str), .str], [(false, (.int .i64))], g⟩
abbrev Ez6 (g : gz6) (J : JT Rtz6) (lf : Nat) (x1 : (List ByteArray)) (x2 : ByteArray) := icodeT Try.prog ttT.get nmz6 fi124.nt (clz6 _ lf) lf stz6 J fi124.body [] (argGo (argV [(.list .str), .str] (x1, x2, ())) 0 .leaf) S0 [] (lastK ttT.get fi124 (sz6 g))
abbrev Bz6 (g : gz6) (J : JT Rtz6) (lf k : Nat) (ms : List Nat) (q : NRes) := icodeFT Try.prog ttT.get nmz6 fi124.nt (clz6 _ lf) lf stz6 J k fi124.body [] ms q (lastK ttT.get fi124 (sz6 g))
theorem inz6 (g : gz6) (J : JT Rtz6) (lf : Nat) (x1 : (List ByteArray)) (x2 : ByteArray) : Ez6 g J lf x1 x2 = Rz6_in lf x1 x2 (fun q => J 2 [lf] (encz6_2 x1 x2 q)) := by kernel_rfl
theorem stz6_2 (g : gz6) (J : JT Rtz6) (lf : Nat) (x1 : (List ByteArray)) (x2 : ByteArray) (m1 : Nat) (p : Int) : Bz6 g J lf 2 [m1] (encz6_2 x1 x2 p) = Rz6_2 lf x1 x2 (fun q => J 2 [m1] (encz6_2 x1 x2 q)) p := by kernel_rfl
theorem ndz6 : (regs fi124.body).Nodup := by decide +kernel
theorem okz6 : okC nmz6 stz6 hdz6 fi124.body none = true := by kernel_rfl
def Az6 (g : gz6) (lf : Nat) : JT Rtz6 := atN Try.prog ttT.get nmz6 fi124 (sz6 g) (clz6 _ lf) lf hdz6
def Gz6_2 (lf : Nat) (x1 : (List ByteArray)) (x2 : ByteArray) : Nat → (Int) → Option Rtz6 := rounds fun K p => Rz6_2 lf x1 x2 K p
theorem atz6_2 (g : gz6) (lf : Nat) (x1 : (List ByteArray)) (x2 : ByteArray) : ∀ (n : Nat) (p : Int), Az6 g lf 2 [n] (encz6_2 x1 x2 p) = Gz6_2 lf x1 x2 n p
 | 0, p => atz 2 [0] rfl _
 | n + 1, p => by
   have ih := atz6_2 g lf x1 x2 n
   refine (atN_eq (iKe 20 _) ndz6 okz6 2 [n + 1] [n] rfl _).trans ((stz6_2 g (Az6 g lf) lf x1 x2 n p).trans ?_)
   rw [(show (fun q => Az6 g lf 2 [n] (encz6_2 x1 x2 q)) = (fun q => Gz6_2 lf x1 x2 n q) from funext ih)]
   rfl
def Fz6 (lf : Nat) (x1 : (List ByteArray)) (x2 : ByteArray) : Option Rtz6 := Rz6_in lf x1 x2 (fun q => Gz6_2 lf x1 x2 lf q)
theorem runz6 (g : gz6) (lf : Nat) (x1 : (List ByteArray)) (x2 : ByteArray) : Ez6 g (Az6 g lf) lf x1 x2 = Fz6 lf x1 x2 := by
   refine (inz6 g (Az6 g lf) lf x1 x2).trans ?_
   rw [(show (fun q => Az6 g lf 2 [lf] (encz6_2 x1 x2 q)) = (fun q => Gz6_2 lf x1 x2 lf q) from funext fun q => atz6_2 g lf x1 x2 lf q)]
   rfl
theorem hxsz6 : HxsOK Try.prog hxlz6 := trivial
theorem mkz6 {g : gz6} (hsm : SmOK Try.prog smlz6) (hg : ∀ (x : ElA [(.list .str), .str]) (y : Rtz6), WfA [(.list .str), .str] x → g x = some y → ∃ lf, Fz6 lf x.1 x.2.1 = some y) : Con Try.prog 124 ⟨[(.list .str), .str], [(false, (.int .i64))], g⟩ :=
 conT (nmf := nmz6) (sml := smlz6) (hxl := hxlz6) (st := stz6) (hd := hdz6) 20 mixed ttOK ftOK hsm hxsz6 cal124 rfl rfl (by kernel_rfl) (fun x => by kernel_rfl) ndz6 okz6 fun x y hx hy => by
   obtain ⟨lf, h⟩ := hg x y hx hy
   exact ⟨lf, (runz6 g lf x.1 x.2.1).trans h⟩
def nmz7 : Nat → Option Nm := fun k => none
def stz7 : Nat → Bool := fun k => false
def hdz7 := stz7
abbrev Rtz7 : Type := Bool × Unit
def smlz7 : List (Nat × Sm) := [(90, spz5), (124, spz6)]
def hxlz7 : List (Nat × Hx) := []
def clz7 (R : Type) (lf : Nat) : ClK R := icallK Try.prog ttT.get ftT.get (nm1 51 nmz7) (smL smlz7) (hxL hxlz7) lf 20 R
abbrev idz7 : Nat := 51
def Rz7_in (lf : Nat) (x1 : ByteArray) : Option Rtz7 := (cond (S.named x1 (Int.ofNat 65) (Int.ofNat 90)) (some ((Bool.not (Bool.not (iltI (S.index (List.cons (S.lit [73, 78, 84, 69, 71, 69, 82]) (List.cons (S.lit [66, 79, 79, 76, 69, 65, 78]) (List.cons (S.lit [65, 78, 89]) (List.cons (S.lit [78, 79, 78, 69]) [])))) x1) (Int.ofNat 0)))), ())) (some (Bool.false, ())))
abbrev gz7 : Type := ElA [.str] → Option Rtz7
abbrev sz7 (g : gz7) : Sm := ⟨[.str], [(false, .bool)], g⟩
abbrev Ez7 (g : gz7) (J : JT Rtz7) (lf : Nat) (x1 : ByteArray) := icodeT Try.prog ttT.get nmz7 fi51.nt (clz7 _ lf) lf stz7 J fi51.body [] (argGo (argV [.str] (x1, ())) 0 .leaf) S0 [] (lastK ttT.get fi51 (sz7 g))
theorem inz7 (g : gz7) (J : JT Rtz7) (lf : Nat) (x1 : ByteArray) : Ez7 g J lf x1 = Rz7_in lf x1 := by kernel_rfl
theorem ndz7 : (regs fi51.body).Nodup := by decide +kernel
theorem okz7 : okC nmz7 stz7 hdz7 fi51.body none = true := by kernel_rfl
def Az7 (g : gz7) (lf : Nat) : JT Rtz7 := atN Try.prog ttT.get nmz7 fi51 (sz7 g) (clz7 _ lf) lf hdz7
def Fz7 (lf : Nat) (x1 : ByteArray) : Option Rtz7 := Rz7_in lf x1
theorem runz7 (g : gz7) (lf : Nat) (x1 : ByteArray) : Ez7 g (Az7 g lf) lf x1 = Fz7 lf x1 := by
   refine (inz7 g (Az7 g lf) lf x1).trans ?_
   rfl
theorem hxsz7 : HxsOK Try.prog hxlz7 := trivial
theorem mkz7 {g : gz7} (hsm : SmOK Try.prog smlz7) (hg : ∀ (x : ElA [.str]) (y : Rtz7), WfA [.str] x → g x = some y → ∃ lf, Fz7 lf x.1 = some y) : Con Try.prog 51 ⟨[.str], [(false, .bool)], g⟩ :=
 conT (nmf := nmz7) (sml := smlz7) (hxl := hxlz7) (st := stz7) (hd := hdz7) 20 mixed ttOK ftOK hsm hxsz7 cal51 rfl rfl (by kernel_rfl) (fun x => by kernel_rfl) ndz7 okz7 fun x y hx hy => by
   obtain ⟨lf, h⟩ := hg x y hx hy
   exact ⟨lf, (runz7 g lf x.1).trans h⟩
def nmz8 : Nat → Option Nm := fun k => none
def stz8 : Nat → Bool := fun k => false
def hdz8 := stz8
abbrev Rtz8 : Type := Bool × Unit
def smlz8 : List (Nat × Sm) := [(90, spz5), (124, spz6)]
def hxlz8 : List (Nat × Hx) := []
def clz8 (R : Type) (lf : Nat) : ClK R := icallK Try.prog ttT.get ftT.get (nm1 94 nmz8) (smL smlz8) (hxL hxlz8) lf 20 R
abbrev idz8 : Nat := 94
def Rz8_in (lf : Nat) (x1 : ByteArray) : Option Rtz8 := (cond (S.named x1 (Int.ofNat 97) (Int.ofNat 122)) (some ((Bool.not (Bool.not (iltI (S.index (List.cons (S.lit [116, 114, 117, 101]) (List.cons (S.lit [102, 97, 108, 115, 101]) (List.cons (S.lit [118, 111, 105, 100]) (List.cons (S.lit [99, 117, 114, 114, 101, 110, 116]) (List.cons (S.lit [114, 101, 115, 117, 108, 116]) []))))) x1) (Int.ofNat 0)))), ())) (some (Bool.false, ())))
abbrev gz8 : Type := ElA [.str] → Option Rtz8
abbrev sz8 (g : gz8) : Sm := ⟨[.str], [(false, .bool)], g⟩
abbrev Ez8 (g : gz8) (J : JT Rtz8) (lf : Nat) (x1 : ByteArray) := icodeT Try.prog ttT.get nmz8 fi94.nt (clz8 _ lf) lf stz8 J fi94.body [] (argGo (argV [.str] (x1, ())) 0 .leaf) S0 [] (lastK ttT.get fi94 (sz8 g))
theorem inz8 (g : gz8) (J : JT Rtz8) (lf : Nat) (x1 : ByteArray) : Ez8 g J lf x1 = Rz8_in lf x1 := by kernel_rfl
theorem ndz8 : (regs fi94.body).Nodup := by decide +kernel
theorem okz8 : okC nmz8 stz8 hdz8 fi94.body none = true := by kernel_rfl
def Az8 (g : gz8) (lf : Nat) : JT Rtz8 := atN Try.prog ttT.get nmz8 fi94 (sz8 g) (clz8 _ lf) lf hdz8
def Fz8 (lf : Nat) (x1 : ByteArray) : Option Rtz8 := Rz8_in lf x1
theorem runz8 (g : gz8) (lf : Nat) (x1 : ByteArray) : Ez8 g (Az8 g lf) lf x1 = Fz8 lf x1 := by
   refine (inz8 g (Az8 g lf) lf x1).trans ?_
   rfl
theorem hxsz8 : HxsOK Try.prog hxlz8 := trivial
theorem mkz8 {g : gz8} (hsm : SmOK Try.prog smlz8) (hg : ∀ (x : ElA [.str]) (y : Rtz8), WfA [.str] x → g x = some y → ∃ lf, Fz8 lf x.1 = some y) : Con Try.prog 94 ⟨[.str], [(false, .bool)], g⟩ :=
 conT (nmf := nmz8) (sml := smlz8) (hxl := hxlz8) (st := stz8) (hd := hdz8) 20 mixed ttOK ftOK hsm hxsz8 cal94 rfl rfl (by kernel_rfl) (fun x => by kernel_rfl) ndz8 okz8 fun x y hx hy => by
   obtain ⟨lf, h⟩ := hg x y hx hy
   exact ⟨lf, (runz8 g lf x.1).trans h⟩
def nmz9 : Nat → Option Nm := fun k => cond (Nat.beq k 4) (some ⟨[0, 8, 9, 10], [], [], [], [], 0, 0, false⟩) (none)
def stz9 : Nat → Bool := fun k => cond (Nat.beq k 4) true (false)
def hdz9 := stz9
abbrev Rtz9 : Type := Int × Unit
def smlz9 : List (Nat × Sm) := [(94, spz8), (95, spz4), (83, spz1)]
def hxlz9 : List (Nat × Hx) := []
def clz9 (R : Type) (lf : Nat) : ClK R := icallK Try.prog ttT.get ftT.get (nm1 53 nmz9) (smL smlz9) (hxL hxlz9) lf 20 R
abbrev idz9 : Nat := 53
def encz9_4 (x1 : (List DCol)) (p : Int) : NRes := (NRes.mk (.node (some (IV.lst cCol x1)) (.node none .leaf (.node none (.node (some (IV.int .i64 (Int.ofNat (List.length x1)))) .leaf .leaf) .leaf)) (.node none (.node none (.node (some (IV.lst cCol x1)) .leaf .leaf) .leaf) (.node none (.node (some (IV.int .i64 p)) .leaf .leaf) .leaf))) (IS.mk .leaf 0) [] 0)
def Rz9_in (lf : Nat) (x1 : (List DCol)) (L4 : Int → Option Rtz9) : Option Rtz9 := (cond (iltI (Int.ofNat 30) (Int.ofNat (List.length x1))) (some ((Int.ofNat 3), ())) (L4 (Int.ofNat 0)))
def Rz9_4 (lf : Nat) (x1 : (List DCol)) (L4 : Int → Option Rtz9) (p : Int) : Option Rtz9 := (cond (iltI p (Int.ofNat (List.length x1))) (match (jget x1 p) with | .none  => none | .some v0 => (cond (Bool.not (S.small v0.1)) (some ((Int.ofNat 4), ())) (cond (lchk (Int.ofNat 0) p (Int.ofNat (List.length x1)) (Int.ofNat (List.length x1))) (cond (Bool.not (iltI (S.col (lsub x1 (Int.ofNat 0) p) v0.1) (Int.ofNat 0))) (some ((Int.ofNat 6), ())) (cond (Bool.not (S.within v0.2.1 (Int.ofNat 1) (Int.ofNat 3))) (some ((Int.ofNat 1), ())) (cond (Bool.not (ieqI v0.2.1 (Int.ofNat 3))) (cond (Bool.not (keqS v0.2.2 (S.lit []))) (some ((Int.ofNat 1), ())) (L4 (IntKind.i64.wrap (Int.add p (Int.ofNat 1))))) (L4 (IntKind.i64.wrap (Int.add p (Int.ofNat 1))))))) none))) (some ((Int.ofNat 0), ())))
abbrev gz9 : Type := ElA [(.list cCol)] → Option Rtz9
abbrev sz9 (g : gz9) : Sm := ⟨[(.list cCol)], [(false, (.int .i64))], g⟩
abbrev Ez9 (g : gz9) (J : JT Rtz9) (lf : Nat) (x1 : (List DCol)) := icodeT Try.prog ttT.get nmz9 fi53.nt (clz9 _ lf) lf stz9 J fi53.body [] (argGo (argV [(.list cCol)] (x1, ())) 0 .leaf) S0 [] (lastK ttT.get fi53 (sz9 g))
abbrev Bz9 (g : gz9) (J : JT Rtz9) (lf k : Nat) (ms : List Nat) (q : NRes) := icodeFT Try.prog ttT.get nmz9 fi53.nt (clz9 _ lf) lf stz9 J k fi53.body [] ms q (lastK ttT.get fi53 (sz9 g))
theorem inz9 (g : gz9) (J : JT Rtz9) (lf : Nat) (x1 : (List DCol)) : Ez9 g J lf x1 = Rz9_in lf x1 (fun q => J 4 [lf] (encz9_4 x1 q)) := by kernel_rfl
theorem stz9_4 (g : gz9) (J : JT Rtz9) (lf : Nat) (x1 : (List DCol)) (m1 : Nat) (p : Int) : Bz9 g J lf 4 [m1] (encz9_4 x1 p) = Rz9_4 lf x1 (fun q => J 4 [m1] (encz9_4 x1 q)) p := by kernel_rfl
theorem ndz9 : (regs fi53.body).Nodup := by decide +kernel
theorem okz9 : okC nmz9 stz9 hdz9 fi53.body none = true := by kernel_rfl
def Az9 (g : gz9) (lf : Nat) : JT Rtz9 := atN Try.prog ttT.get nmz9 fi53 (sz9 g) (clz9 _ lf) lf hdz9
def Gz9_4 (lf : Nat) (x1 : (List DCol)) : Nat → (Int) → Option Rtz9 := rounds fun K p => Rz9_4 lf x1 K p
theorem atz9_4 (g : gz9) (lf : Nat) (x1 : (List DCol)) : ∀ (n : Nat) (p : Int), Az9 g lf 4 [n] (encz9_4 x1 p) = Gz9_4 lf x1 n p
 | 0, p => atz 4 [0] rfl _
 | n + 1, p => by
   have ih := atz9_4 g lf x1 n
   refine (atN_eq (iKe 20 _) ndz9 okz9 4 [n + 1] [n] rfl _).trans ((stz9_4 g (Az9 g lf) lf x1 n p).trans ?_)
   rw [(show (fun q => Az9 g lf 4 [n] (encz9_4 x1 q)) = (fun q => Gz9_4 lf x1 n q) from funext ih)]
   rfl
def Fz9 (lf : Nat) (x1 : (List DCol)) : Option Rtz9 := Rz9_in lf x1 (fun q => Gz9_4 lf x1 lf q)
theorem runz9 (g : gz9) (lf : Nat) (x1 : (List DCol)) : Ez9 g (Az9 g lf) lf x1 = Fz9 lf x1 := by
   refine (inz9 g (Az9 g lf) lf x1).trans ?_
   rw [(show (fun q => Az9 g lf 4 [lf] (encz9_4 x1 q)) = (fun q => Gz9_4 lf x1 lf q) from funext fun q => atz9_4 g lf x1 lf q)]
   rfl
theorem hxsz9 : HxsOK Try.prog hxlz9 := trivial
theorem mkz9 {g : gz9} (hsm : SmOK Try.prog smlz9) (hg : ∀ (x : ElA [(.list cCol)]) (y : Rtz9), WfA [(.list cCol)] x → g x = some y → ∃ lf, Fz9 lf x.1 = some y) : Con Try.prog 53 ⟨[(.list cCol)], [(false, (.int .i64))], g⟩ :=
 conT (nmf := nmz9) (sml := smlz9) (hxl := hxlz9) (st := stz9) (hd := hdz9) 20 mixed ttOK ftOK hsm hxsz9 cal53 rfl rfl (by kernel_rfl) (fun x => by kernel_rfl) ndz9 okz9 fun x y hx hy => by
   obtain ⟨lf, h⟩ := hg x y hx hy
   exact ⟨lf, (runz9 g lf x.1).trans h⟩
def nmz10 : Nat → Option Nm := fun k => cond (Nat.beq k 4) (some ⟨[0, 13, 14, 15], [], [], [], [], 0, 0, false⟩) (cond (Nat.beq k 11) (some ⟨[0, 41, 42, 43], [], [], [], [], 0, 0, false⟩) (cond (Nat.beq k 14) (some ⟨[0, 41, 42, 43, 48, 49, 50], [], [], [], [], 0, 0, false⟩) (none)))
def stz10 : Nat → Bool := fun k => cond (Nat.beq k 4) true (cond (Nat.beq k 11) true (cond (Nat.beq k 14) true (false)))
def hdz10 := stz10
abbrev Rtz10 : Type := Int × Unit
def smlz10 : List (Nat × Sm) := [(51, spz7), (52, spz3), (53, spz9), (49, spz2)]
def hxlz10 : List (Nat × Hx) := []
def clz10 (R : Type) (lf : Nat) : ClK R := icallK Try.prog ttT.get ftT.get (nm1 16 nmz10) (smL smlz10) (hxL hxlz10) lf 20 R
abbrev idz10 : Nat := 16
def encz10_4 (x1 : (List DForm)) (p : Int) : NRes := (NRes.mk (.node (some (IV.lst cForm x1)) (.node none (.node none (.node none (.node (some (IV.int .i64 p)) .leaf .leaf) .leaf) .leaf) (.node none .leaf (.node (some (IV.lst cForm x1)) .leaf .leaf))) (.node none .leaf (.node none .leaf (.node (some (IV.int .i64 (Int.ofNat (List.length x1)))) .leaf .leaf)))) (IS.mk .leaf 0) [] 0)
def encz10_11 (x1 : (List DForm)) (p : Int) : NRes := (NRes.mk (.node (some (IV.lst cForm x1)) (.node none (.node none .leaf (.node none .leaf (.node none (.node (some (IV.int .i64 p)) .leaf .leaf) .leaf))) (.node none (.node none .leaf (.node none (.node (some (IV.lst cForm x1)) .leaf .leaf) .leaf)) .leaf)) (.node none .leaf (.node none (.node none .leaf (.node none (.node (some (IV.int .i64 (Int.ofNat (List.length x1)))) .leaf .leaf) .leaf)) .leaf))) (IS.mk .leaf 0) [] 0)
def encz10_14 (x1 : (List DForm)) (p : (List DCol) × Int × Int) : NRes := (NRes.mk (.node (some (IV.lst cForm x1)) (.node none (.node none .leaf (.node none .leaf (.node none (.node (some (IV.int .i64 p.2.2)) .leaf .leaf) .leaf))) (.node none (.node none (.node none .leaf (.node (some (IV.int .i64 (Int.ofNat (List.length p.1)))) .leaf .leaf)) (.node none (.node (some (IV.lst cForm x1)) .leaf .leaf) .leaf)) .leaf)) (.node none (.node none (.node none (.node none .leaf (.node (some (IV.lst cCol p.1)) .leaf .leaf)) .leaf) .leaf) (.node none (.node none (.node none .leaf (.node (some (IV.int .i64 p.2.1)) .leaf .leaf)) (.node none (.node (some (IV.int .i64 (Int.ofNat (List.length x1)))) .leaf .leaf) .leaf)) .leaf))) (IS.mk .leaf 0) [] 0)
def Rz10_in (lf : Nat) (x1 : (List DForm)) (L4 : Int → Option Rtz10) : Option Rtz10 := (cond (iltI (Int.ofNat 24) (Int.ofNat (List.length x1))) (some ((Int.ofNat 3), ())) (L4 (Int.ofNat 0)))
def Rz10_4 (lf : Nat) (x1 : (List DForm)) (L4 : Int → Option Rtz10) (L11 : Int → Option Rtz10) (p : Int) : Option Rtz10 := (cond (iltI p (Int.ofNat (List.length x1))) (match (jget x1 p) with | .none  => none | .some v0 => (cond (S.class_ v0.1) (cond (lchk (Int.ofNat 0) p (Int.ofNat (List.length x1)) (Int.ofNat (List.length x1))) (cond (iltI (S.form (lsub x1 (Int.ofNat 0) p) v0.1) (Int.ofNat 0)) (cond (Bool.not (ieqI (S.first (List.cons (Int.ofNat 0) (List.cons (Int.ofNat 0) (List.cons (S.checkCols v0.2) [])))) (Int.ofNat 0))) (some ((S.first (List.cons (Int.ofNat 0) (List.cons (Int.ofNat 0) (List.cons (S.checkCols v0.2) [])))), ())) (L4 (IntKind.i64.wrap (Int.add p (Int.ofNat 1))))) (cond (Bool.not (ieqI (S.first (List.cons (Int.ofNat 0) (List.cons (Int.ofNat 6) (List.cons (S.checkCols v0.2) [])))) (Int.ofNat 0))) (some ((S.first (List.cons (Int.ofNat 0) (List.cons (Int.ofNat 6) (List.cons (S.checkCols v0.2) [])))), ())) (L4 (IntKind.i64.wrap (Int.add p (Int.ofNat 1)))))) none) (cond (lchk (Int.ofNat 0) p (Int.ofNat (List.length x1)) (Int.ofNat (List.length x1))) (cond (iltI (S.form (lsub x1 (Int.ofNat 0) p) v0.1) (Int.ofNat 0)) (cond (Bool.not (ieqI (S.first (List.cons (Int.ofNat 4) (List.cons (Int.ofNat 0) (List.cons (S.checkCols v0.2) [])))) (Int.ofNat 0))) (some ((S.first (List.cons (Int.ofNat 4) (List.cons (Int.ofNat 0) (List.cons (S.checkCols v0.2) [])))), ())) (L4 (IntKind.i64.wrap (Int.add p (Int.ofNat 1))))) (cond (Bool.not (ieqI (S.first (List.cons (Int.ofNat 4) (List.cons (Int.ofNat 6) (List.cons (S.checkCols v0.2) [])))) (Int.ofNat 0))) (some ((S.first (List.cons (Int.ofNat 4) (List.cons (Int.ofNat 6) (List.cons (S.checkCols v0.2) [])))), ())) (L4 (IntKind.i64.wrap (Int.add p (Int.ofNat 1)))))) none))) (L11 (Int.ofNat 0)))
def Rz10_11 (lf : Nat) (x1 : (List DForm)) (L14 : ((List DCol) × Int × Int) → Option Rtz10) (p : Int) : Option Rtz10 := (cond (iltI p (Int.ofNat (List.length x1))) (match (jget x1 p) with | .none  => none | .some v0 => (L14 (v0.2, (Int.ofNat 0), p))) (some ((Int.ofNat 0), ())))
def Rz10_14 (lf : Nat) (x1 : (List DForm)) (L14 : ((List DCol) × Int × Int) → Option Rtz10) (L11 : Int → Option Rtz10) (p : (List DCol) × Int × Int) : Option Rtz10 := (cond (iltI p.2.1 (Int.ofNat (List.length p.1))) (match (jget p.1 p.2.1) with | .none  => none | .some v0 => (cond (ieqI v0.2.1 (Int.ofNat 3)) (cond (Bool.not (keqS v0.2.2 (S.lit [65, 78, 89]))) (cond (iltI (S.form x1 v0.2.2) (Int.ofNat 0)) (some ((Int.ofNat 5), ())) (L14 (p.1, (IntKind.i64.wrap (Int.add p.2.1 (Int.ofNat 1))), p.2.2))) (L14 (p.1, (IntKind.i64.wrap (Int.add p.2.1 (Int.ofNat 1))), p.2.2))) (L14 (p.1, (IntKind.i64.wrap (Int.add p.2.1 (Int.ofNat 1))), p.2.2)))) (L11 (IntKind.i64.wrap (Int.add p.2.2 (Int.ofNat 1)))))
abbrev gz10 : Type := ElA [(.list cForm)] → Option Rtz10
abbrev sz10 (g : gz10) : Sm := ⟨[(.list cForm)], [(false, (.int .i64))], g⟩
abbrev Ez10 (g : gz10) (J : JT Rtz10) (lf : Nat) (x1 : (List DForm)) := icodeT Try.prog ttT.get nmz10 fi16.nt (clz10 _ lf) lf stz10 J fi16.body [] (argGo (argV [(.list cForm)] (x1, ())) 0 .leaf) S0 [] (lastK ttT.get fi16 (sz10 g))
abbrev Bz10 (g : gz10) (J : JT Rtz10) (lf k : Nat) (ms : List Nat) (q : NRes) := icodeFT Try.prog ttT.get nmz10 fi16.nt (clz10 _ lf) lf stz10 J k fi16.body [] ms q (lastK ttT.get fi16 (sz10 g))
theorem inz10 (g : gz10) (J : JT Rtz10) (lf : Nat) (x1 : (List DForm)) : Ez10 g J lf x1 = Rz10_in lf x1 (fun q => J 4 [lf] (encz10_4 x1 q)) := by kernel_rfl
theorem stz10_4 (g : gz10) (J : JT Rtz10) (lf : Nat) (x1 : (List DForm)) (m1 : Nat) (p : Int) : Bz10 g J lf 4 [m1] (encz10_4 x1 p) = Rz10_4 lf x1 (fun q => J 4 [m1] (encz10_4 x1 q)) (fun q => J 11 [lf] (encz10_11 x1 q)) p := by kernel_rfl
theorem stz10_11 (g : gz10) (J : JT Rtz10) (lf : Nat) (x1 : (List DForm)) (m1 : Nat) (p : Int) : Bz10 g J lf 11 [m1] (encz10_11 x1 p) = Rz10_11 lf x1 (fun q => J 14 [m1, lf] (encz10_14 x1 q)) p := by kernel_rfl
theorem stz10_14 (g : gz10) (J : JT Rtz10) (lf : Nat) (x1 : (List DForm)) (m1 : Nat) (m2 : Nat) (p : (List DCol) × Int × Int) : Bz10 g J lf 14 [m1, m2] (encz10_14 x1 p) = Rz10_14 lf x1 (fun q => J 14 [m1, m2] (encz10_14 x1 q)) (fun q => J 11 [m1] (encz10_11 x1 q)) p := by kernel_rfl
theorem ndz10 : (regs fi16.body).Nodup := by decide +kernel
theorem okz10 : okC nmz10 stz10 hdz10 fi16.body none = true := by kernel_rfl
def Az10 (g : gz10) (lf : Nat) : JT Rtz10 := atN Try.prog ttT.get nmz10 fi16 (sz10 g) (clz10 _ lf) lf hdz10
def Gz10_14 (lf : Nat) (x1 : (List DForm)) (K11 : Int → Option Rtz10) : Nat → ((List DCol) × Int × Int) → Option Rtz10 := rounds fun K p => Rz10_14 lf x1 K K11 p
theorem atz10_14 (g : gz10) (lf : Nat) (x1 : (List DForm)) (m1 : Nat) : ∀ (n : Nat) (p : (List DCol) × Int × Int), Az10 g lf 14 [m1, n] (encz10_14 x1 p) = Gz10_14 lf x1 (fun q => Az10 g lf 11 [m1] (encz10_11 x1 q)) n p
 | 0, p => atz 14 [m1, 0] rfl _
 | n + 1, p => by
   have ih := atz10_14 g lf x1 m1 n
   refine (atN_eq (iKe 20 _) ndz10 okz10 14 [m1, n + 1] [m1, n] rfl _).trans ((stz10_14 g (Az10 g lf) lf x1 m1 n p).trans ?_)
   rw [(show (fun q => Az10 g lf 14 [m1, n] (encz10_14 x1 q)) = (fun q => Gz10_14 lf x1 (fun q => Az10 g lf 11 [m1] (encz10_11 x1 q)) n q) from funext ih)]
   rfl
def Gz10_11 (lf : Nat) (x1 : (List DForm)) : Nat → (Int) → Option Rtz10 := rounds fun K p => Rz10_11 lf x1 (fun q => Gz10_14 lf x1 K lf q) p
theorem atz10_11 (g : gz10) (lf : Nat) (x1 : (List DForm)) : ∀ (n : Nat) (p : Int), Az10 g lf 11 [n] (encz10_11 x1 p) = Gz10_11 lf x1 n p
 | 0, p => atz 11 [0] rfl _
 | n + 1, p => by
   have ih := atz10_11 g lf x1 n
   refine (atN_eq (iKe 20 _) ndz10 okz10 11 [n + 1] [n] rfl _).trans ((stz10_11 g (Az10 g lf) lf x1 n p).trans ?_)
   rw [(show (fun q => Az10 g lf 14 [n, lf] (encz10_14 x1 q)) = (fun q => Gz10_14 lf x1 (fun q => Az10 g lf 11 [n] (encz10_11 x1 q)) lf q) from funext fun q => atz10_14 g lf x1 n lf q), (show (fun q => Az10 g lf 11 [n] (encz10_11 x1 q)) = (fun q => Gz10_11 lf x1 n q) from funext ih)]
   rfl
def Gz10_4 (lf : Nat) (x1 : (List DForm)) : Nat → (Int) → Option Rtz10 := rounds fun K p => Rz10_4 lf x1 K (fun q => Gz10_11 lf x1 lf q) p
theorem atz10_4 (g : gz10) (lf : Nat) (x1 : (List DForm)) : ∀ (n : Nat) (p : Int), Az10 g lf 4 [n] (encz10_4 x1 p) = Gz10_4 lf x1 n p
 | 0, p => atz 4 [0] rfl _
 | n + 1, p => by
   have ih := atz10_4 g lf x1 n
   refine (atN_eq (iKe 20 _) ndz10 okz10 4 [n + 1] [n] rfl _).trans ((stz10_4 g (Az10 g lf) lf x1 n p).trans ?_)
   rw [(show (fun q => Az10 g lf 11 [lf] (encz10_11 x1 q)) = (fun q => Gz10_11 lf x1 lf q) from funext fun q => atz10_11 g lf x1 lf q), (show (fun q => Az10 g lf 4 [n] (encz10_4 x1 q)) = (fun q => Gz10_4 lf x1 n q) from funext ih)]
   rfl
def Fz10 (lf : Nat) (x1 : (List DForm)) : Option Rtz10 := Rz10_in lf x1 (fun q => Gz10_4 lf x1 lf q)
theorem runz10 (g : gz10) (lf : Nat) (x1 : (List DForm)) : Ez10 g (Az10 g lf) lf x1 = Fz10 lf x1 := by
   refine (inz10 g (Az10 g lf) lf x1).trans ?_
   rw [(show (fun q => Az10 g lf 4 [lf] (encz10_4 x1 q)) = (fun q => Gz10_4 lf x1 lf q) from funext fun q => atz10_4 g lf x1 lf q)]
   rfl
theorem hxsz10 : HxsOK Try.prog hxlz10 := trivial
theorem mkz10 {g : gz10} (hsm : SmOK Try.prog smlz10) (hg : ∀ (x : ElA [(.list cForm)]) (y : Rtz10), WfA [(.list cForm)] x → g x = some y → ∃ lf, Fz10 lf x.1 = some y) : Con Try.prog 16 ⟨[(.list cForm)], [(false, (.int .i64))], g⟩ :=
 conT (nmf := nmz10) (sml := smlz10) (hxl := hxlz10) (st := stz10) (hd := hdz10) 20 mixed ttOK ftOK hsm hxsz10 cal16 rfl rfl (by kernel_rfl) (fun x => by kernel_rfl) ndz10 okz10 fun x y hx hy => by
   obtain ⟨lf, h⟩ := hg x y hx hy
   exact ⟨lf, (runz10 g lf x.1).trans h⟩
def nmz11 : Nat → Option Nm := fun k => none
def stz11 : Nat → Bool := fun k => false
def hdz11 := stz11
abbrev Rtz11 : Type := Bool × Unit
def smlz11 : List (Nat × Sm) := [(83, spz1)]
def hxlz11 : List (Nat × Hx) := []
def clz11 (R : Type) (lf : Nat) : ClK R := icallK Try.prog ttT.get ftT.get (nm1 106 nmz11) (smL smlz11) (hxL hxlz11) lf 20 R
abbrev idz11 : Nat := 106
def Rz11_in (lf : Nat) (x1 : DVal) (x2 : Int) : Option Rtz11 := (cond (ieqI x1.1 (Int.ofNat 1)) (some ((S.within x1.2 (Int.negSucc 1099511627775) (Int.ofNat 1099511627776)), ())) (cond (ieqI x1.1 (Int.ofNat 2)) (some ((S.within x1.2 (Int.ofNat 0) (Int.ofNat 1)), ())) (cond (ieqI x1.1 (Int.ofNat 3)) (some ((ieqI x1.2 (Int.ofNat 0)), ())) (cond (ieqI x1.1 (Int.ofNat 4)) (some ((S.within x1.2 (Int.ofNat 0) (IntKind.i64.wrap (Int.sub x2 (Int.ofNat 1)))), ())) (some (Bool.false, ()))))))
abbrev gz11 : Type := ElA [cVal, (.int .i64)] → Option Rtz11
abbrev sz11 (g : gz11) : Sm := ⟨[cVal, (.int .i64)], [(false, .bool)], g⟩
abbrev Ez11 (g : gz11) (J : JT Rtz11) (lf : Nat) (x1 : DVal) (x2 : Int) := icodeT Try.prog ttT.get nmz11 fi106.nt (clz11 _ lf) lf stz11 J fi106.body [] (argGo (argV [cVal, (.int .i64)] (x1, x2, ())) 0 .leaf) S0 [] (lastK ttT.get fi106 (sz11 g))
theorem inz11 (g : gz11) (J : JT Rtz11) (lf : Nat) (x1 : DVal) (x2 : Int) : Ez11 g J lf x1 x2 = Rz11_in lf x1 x2 := by kernel_rfl
theorem ndz11 : (regs fi106.body).Nodup := by decide +kernel
theorem okz11 : okC nmz11 stz11 hdz11 fi106.body none = true := by kernel_rfl
def Az11 (g : gz11) (lf : Nat) : JT Rtz11 := atN Try.prog ttT.get nmz11 fi106 (sz11 g) (clz11 _ lf) lf hdz11
def Fz11 (lf : Nat) (x1 : DVal) (x2 : Int) : Option Rtz11 := Rz11_in lf x1 x2
theorem runz11 (g : gz11) (lf : Nat) (x1 : DVal) (x2 : Int) : Ez11 g (Az11 g lf) lf x1 x2 = Fz11 lf x1 x2 := by
   refine (inz11 g (Az11 g lf) lf x1 x2).trans ?_
   rfl
theorem hxsz11 : HxsOK Try.prog hxlz11 := trivial
theorem mkz11 {g : gz11} (hsm : SmOK Try.prog smlz11) (hg : ∀ (x : ElA [cVal, (.int .i64)]) (y : Rtz11), WfA [cVal, (.int .i64)] x → g x = some y → ∃ lf, Fz11 lf x.1 x.2.1 = some y) : Con Try.prog 106 ⟨[cVal, (.int .i64)], [(false, .bool)], g⟩ :=
 conT (nmf := nmz11) (sml := smlz11) (hxl := hxlz11) (st := stz11) (hd := hdz11) 20 mixed ttOK ftOK hsm hxsz11 cal106 rfl rfl (by kernel_rfl) (fun x => by kernel_rfl) ndz11 okz11 fun x y hx hy => by
   obtain ⟨lf, h⟩ := hg x y hx hy
   exact ⟨lf, (runz11 g lf x.1 x.2.1).trans h⟩
def nmz12 : Nat → Option Nm := fun k => cond (Nat.beq k 4) (some ⟨[1, 19, 20, 21], [], [], [], [], 0, 0, false⟩) (cond (Nat.beq k 11) (some ⟨[1, 5, 32, 33, 34], [], [], [], [], 0, 0, false⟩) (none))
def stz12 : Nat → Bool := fun k => cond (Nat.beq k 4) true (cond (Nat.beq k 11) true (false))
def hdz12 := stz12
abbrev Rtz12 : Type := Int × Unit
def smlz12 : List (Nat × Sm) := [(106, spz11)]
def hxlz12 : List (Nat × Hx) := [(137, idxHx cVal)]
def clz12 (R : Type) (lf : Nat) : ClK R := icallK Try.prog ttT.get ftT.get (nm1 70 nmz12) (smL smlz12) (hxL hxlz12) lf 20 R
abbrev idz12 : Nat := 70
def encz12_4 (x1 : DGraph) (p : Int) : NRes := (NRes.mk (.node none (.node (some (IV.ptr 0 0)) (.node none .leaf (.node none (.node (some (IV.lst cNode x1.1)) .leaf .leaf) .leaf)) (.node none .leaf (.node none (.node (some (IV.int .i64 p)) .leaf .leaf) .leaf))) (.node none (.node none .leaf (.node none (.node (some (IV.int .i64 (Int.ofNat (List.length x1.1)))) .leaf .leaf) .leaf)) .leaf)) (IS.mk (.node (some (IObj.row (List.cons (IV.lst cNode x1.1) (List.cons (IV.lst cVal x1.2) [])))) .leaf .leaf) 1) [] 0)
def encz12_11 (x1 : DGraph) (p : Int) : NRes := (NRes.mk (.node none (.node (some (IV.ptr 0 0)) .leaf (.node (some (IV.ptr 1 0)) (.node none (.node none (.node (some (IV.int .i64 (Int.ofNat (List.length x1.1)))) .leaf .leaf) .leaf) .leaf) .leaf)) (.node none (.node none (.node none (.node none (.node (some (IV.lst cNode x1.1)) .leaf .leaf) .leaf) .leaf) .leaf) (.node none (.node none (.node none (.node (some (IV.int .i64 p)) .leaf .leaf) .leaf) .leaf) .leaf))) (IS.mk (.node (some (IObj.row (List.cons (IV.lst cNode x1.1) (List.cons (IV.lst cVal x1.2) [])))) (.node (some (IObj.row (List.cons (IV.fn 105 (List.cons (IV.ptr 0 0) [])) []))) .leaf .leaf) .leaf) 2) [] 0)
def Rz12_in (lf : Nat) (x1 : DGraph) (L4 : Int → Option Rtz12) : Option Rtz12 := (cond (iltI (Int.ofNat 400) (Int.ofNat (List.length x1.1))) (some ((Int.ofNat 3), ())) (cond (iltI (Int.ofNat 60) (Int.ofNat (List.length x1.2))) (some ((Int.ofNat 3), ())) (L4 (Int.ofNat 0))))
def Rz12_4 (lf : Nat) (x1 : DGraph) (L4 : Int → Option Rtz12) (L11 : Int → Option Rtz12) (p : Int) : Option Rtz12 := (cond (iltI p (Int.ofNat (List.length x1.1))) (match (jget x1.1 p) with | .none  => none | .some v0 => (cond (iltI (Int.ofNat 30) (Int.ofNat (List.length v0.2))) (some ((Int.ofNat 3), ())) (L4 (IntKind.i64.wrap (Int.add p (Int.ofNat 1)))))) (L11 (Int.ofNat 0)))
def Rz12_11 (lf : Nat) (x1 : DGraph) (L11 : Int → Option Rtz12) (p : Int) : Option Rtz12 := (cond (iltI p (Int.ofNat (List.length x1.1))) (match (jget x1.1 p) with | .none  => none | .some v0 => (match (idxO (fun v1 => (some (Bool.not (S.value (v1.1, v1.2) (Int.ofNat (List.length x1.1)))))) v0.2 0) with | .none  => none | .some v2 => (cond (Bool.not (iltI v2 (Int.ofNat 0))) (some ((Int.ofNat 2), ())) (L11 (IntKind.i64.wrap (Int.add p (Int.ofNat 1))))))) (match (idxO (fun v26 => (cond (Bool.not (S.value (v26.1, v26.2) (Int.ofNat (List.length x1.1)))) (some Bool.true) (cond (ieqI v26.1 (Int.ofNat 3)) (some Bool.false) (some (Bool.not (ieqI v26.1 (Int.ofNat 4))))))) x1.2 0) with | .none  => none | .some v27 => (cond (Bool.not (Bool.not (iltI v27 (Int.ofNat 0)))) (some ((Int.ofNat 0), ())) (some ((Int.ofNat 2), ())))))
abbrev gz12 : Type := ElA [cGraph] → Option Rtz12
abbrev sz12 (g : gz12) : Sm := ⟨[cGraph], [(false, (.int .i64))], g⟩
abbrev Ez12 (g : gz12) (J : JT Rtz12) (lf : Nat) (x1 : DGraph) := icodeT Try.prog ttT.get nmz12 fi70.nt (clz12 _ lf) lf stz12 J fi70.body [] (argGo (argV [cGraph] (x1, ())) 0 .leaf) S0 [] (lastK ttT.get fi70 (sz12 g))
abbrev Bz12 (g : gz12) (J : JT Rtz12) (lf k : Nat) (ms : List Nat) (q : NRes) := icodeFT Try.prog ttT.get nmz12 fi70.nt (clz12 _ lf) lf stz12 J k fi70.body [] ms q (lastK ttT.get fi70 (sz12 g))
theorem inz12 (g : gz12) (J : JT Rtz12) (lf : Nat) (x1 : DGraph) : Ez12 g J lf x1 = Rz12_in lf x1 (fun q => J 4 [lf] (encz12_4 x1 q)) := by kernel_rfl
theorem stz12_4 (g : gz12) (J : JT Rtz12) (lf : Nat) (x1 : DGraph) (m1 : Nat) (p : Int) : Bz12 g J lf 4 [m1] (encz12_4 x1 p) = Rz12_4 lf x1 (fun q => J 4 [m1] (encz12_4 x1 q)) (fun q => J 11 [lf] (encz12_11 x1 q)) p := by kernel_rfl
theorem stz12_11 (g : gz12) (J : JT Rtz12) (lf : Nat) (x1 : DGraph) (m1 : Nat) (p : Int) : Bz12 g J lf 11 [m1] (encz12_11 x1 p) = Rz12_11 lf x1 (fun q => J 11 [m1] (encz12_11 x1 q)) p := by kernel_rfl
theorem ndz12 : (regs fi70.body).Nodup := by decide +kernel
theorem okz12 : okC nmz12 stz12 hdz12 fi70.body none = true := by kernel_rfl
def Az12 (g : gz12) (lf : Nat) : JT Rtz12 := atN Try.prog ttT.get nmz12 fi70 (sz12 g) (clz12 _ lf) lf hdz12
def Gz12_11 (lf : Nat) (x1 : DGraph) : Nat → (Int) → Option Rtz12 := rounds fun K p => Rz12_11 lf x1 K p
theorem atz12_11 (g : gz12) (lf : Nat) (x1 : DGraph) : ∀ (n : Nat) (p : Int), Az12 g lf 11 [n] (encz12_11 x1 p) = Gz12_11 lf x1 n p
 | 0, p => atz 11 [0] rfl _
 | n + 1, p => by
   have ih := atz12_11 g lf x1 n
   refine (atN_eq (iKe 20 _) ndz12 okz12 11 [n + 1] [n] rfl _).trans ((stz12_11 g (Az12 g lf) lf x1 n p).trans ?_)
   rw [(show (fun q => Az12 g lf 11 [n] (encz12_11 x1 q)) = (fun q => Gz12_11 lf x1 n q) from funext ih)]
   rfl
def Gz12_4 (lf : Nat) (x1 : DGraph) : Nat → (Int) → Option Rtz12 := rounds fun K p => Rz12_4 lf x1 K (fun q => Gz12_11 lf x1 lf q) p
theorem atz12_4 (g : gz12) (lf : Nat) (x1 : DGraph) : ∀ (n : Nat) (p : Int), Az12 g lf 4 [n] (encz12_4 x1 p) = Gz12_4 lf x1 n p
 | 0, p => atz 4 [0] rfl _
 | n + 1, p => by
   have ih := atz12_4 g lf x1 n
   refine (atN_eq (iKe 20 _) ndz12 okz12 4 [n + 1] [n] rfl _).trans ((stz12_4 g (Az12 g lf) lf x1 n p).trans ?_)
   rw [(show (fun q => Az12 g lf 11 [lf] (encz12_11 x1 q)) = (fun q => Gz12_11 lf x1 lf q) from funext fun q => atz12_11 g lf x1 lf q), (show (fun q => Az12 g lf 4 [n] (encz12_4 x1 q)) = (fun q => Gz12_4 lf x1 n q) from funext ih)]
   rfl
def Fz12 (lf : Nat) (x1 : DGraph) : Option Rtz12 := Rz12_in lf x1 (fun q => Gz12_4 lf x1 lf q)
theorem runz12 (g : gz12) (lf : Nat) (x1 : DGraph) : Ez12 g (Az12 g lf) lf x1 = Fz12 lf x1 := by
   refine (inz12 g (Az12 g lf) lf x1).trans ?_
   rw [(show (fun q => Az12 g lf 4 [lf] (encz12_4 x1 q)) = (fun q => Gz12_4 lf x1 lf q) from funext fun q => atz12_4 g lf x1 lf q)]
   rfl
theorem hxsz12 : HxsOK Try.prog hxlz12 := ⟨ixO137, trivial⟩
theorem mkz12 {g : gz12} (hsm : SmOK Try.prog smlz12) (hg : ∀ (x : ElA [cGraph]) (y : Rtz12), WfA [cGraph] x → g x = some y → ∃ lf, Fz12 lf x.1 = some y) : Con Try.prog 70 ⟨[cGraph], [(false, (.int .i64))], g⟩ :=
 conT (nmf := nmz12) (sml := smlz12) (hxl := hxlz12) (st := stz12) (hd := hdz12) 20 mixed ttOK ftOK hsm hxsz12 cal70 rfl rfl (by kernel_rfl) (fun x => by kernel_rfl) ndz12 okz12 fun x y hx hy => by
   obtain ⟨lf, h⟩ := hg x y hx hy
   exact ⟨lf, (runz12 g lf x.1).trans h⟩
def nmz13 : Nat → Option Nm := fun k => none
def stz13 : Nat → Bool := fun k => false
def hdz13 := stz13
abbrev Rtz13 : Type := Bool × Unit
def smlz13 : List (Nat × Sm) := []
def hxlz13 : List (Nat × Hx) := []
def clz13 (R : Type) (lf : Nat) : ClK R := icallK Try.prog ttT.get ftT.get (nm1 121 nmz13) (smL smlz13) (hxL hxlz13) lf 20 R
abbrev idz13 : Nat := 121
def Rz13_in (lf : Nat) (x1 : DGraph) (x2 : DCol) (x3 : DVal) : Option Rtz13 := (cond (ieqI x2.2.1 (Int.ofNat 1)) (some ((ieqI x3.1 (Int.ofNat 1)), ())) (cond (ieqI x2.2.1 (Int.ofNat 2)) (some ((ieqI x3.1 (Int.ofNat 2)), ())) (cond (ieqI x3.1 (Int.ofNat 3)) (some (Bool.true, ())) (cond (ieqI x3.1 (Int.ofNat 4)) (cond (keqS x2.2.2 (S.lit [65, 78, 89])) (some (Bool.true, ())) (match (jget x1.1 x3.2) with | .none  => none | .some v0 => (some ((keqS v0.1 x2.2.2), ())))) (some (Bool.false, ()))))))
abbrev gz13 : Type := ElA [cGraph, cCol, cVal] → Option Rtz13
abbrev sz13 (g : gz13) : Sm := ⟨[cGraph, cCol, cVal], [(false, .bool)], g⟩
abbrev Ez13 (g : gz13) (J : JT Rtz13) (lf : Nat) (x1 : DGraph) (x2 : DCol) (x3 : DVal) := icodeT Try.prog ttT.get nmz13 fi121.nt (clz13 _ lf) lf stz13 J fi121.body [] (argGo (argV [cGraph, cCol, cVal] (x1, x2, x3, ())) 0 .leaf) S0 [] (lastK ttT.get fi121 (sz13 g))
theorem inz13 (g : gz13) (J : JT Rtz13) (lf : Nat) (x1 : DGraph) (x2 : DCol) (x3 : DVal) : Ez13 g J lf x1 x2 x3 = Rz13_in lf x1 x2 x3 := by kernel_rfl
theorem ndz13 : (regs fi121.body).Nodup := by decide +kernel
theorem okz13 : okC nmz13 stz13 hdz13 fi121.body none = true := by kernel_rfl
def Az13 (g : gz13) (lf : Nat) : JT Rtz13 := atN Try.prog ttT.get nmz13 fi121 (sz13 g) (clz13 _ lf) lf hdz13
def Fz13 (lf : Nat) (x1 : DGraph) (x2 : DCol) (x3 : DVal) : Option Rtz13 := Rz13_in lf x1 x2 x3
theorem runz13 (g : gz13) (lf : Nat) (x1 : DGraph) (x2 : DCol) (x3 : DVal) : Ez13 g (Az13 g lf) lf x1 x2 x3 = Fz13 lf x1 x2 x3 := by
   refine (inz13 g (Az13 g lf) lf x1 x2 x3).trans ?_
   rfl
theorem hxsz13 : HxsOK Try.prog hxlz13 := trivial
theorem mkz13 {g : gz13} (hsm : SmOK Try.prog smlz13) (hg : ∀ (x : ElA [cGraph, cCol, cVal]) (y : Rtz13), WfA [cGraph, cCol, cVal] x → g x = some y → ∃ lf, Fz13 lf x.1 x.2.1 x.2.2.1 = some y) : Con Try.prog 121 ⟨[cGraph, cCol, cVal], [(false, .bool)], g⟩ :=
 conT (nmf := nmz13) (sml := smlz13) (hxl := hxlz13) (st := stz13) (hd := hdz13) 20 mixed ttOK ftOK hsm hxsz13 cal121 rfl rfl (by kernel_rfl) (fun x => by kernel_rfl) ndz13 okz13 fun x y hx hy => by
   obtain ⟨lf, h⟩ := hg x y hx hy
   exact ⟨lf, (runz13 g lf x.1 x.2.1 x.2.2.1).trans h⟩
def nmz14 : Nat → Option Nm := fun k => cond (Nat.beq k 2) (some ⟨[0, 3, 11, 12, 13], [], [], [], [], 0, 0, false⟩) (cond (Nat.beq k 8) (some ⟨[0, 3, 6, 11, 12, 13, 31, 32, 33], [], [], [], [], 0, 0, false⟩) (none))
def stz14 : Nat → Bool := fun k => cond (Nat.beq k 2) true (cond (Nat.beq k 8) true (false))
def hdz14 := stz14
abbrev Rtz14 : Type := Bool × Unit
def smlz14 : List (Nat × Sm) := [(52, spz3), (121, spz13)]
def hxlz14 : List (Nat × Hx) := []
def clz14 (R : Type) (lf : Nat) : ClK R := icallK Try.prog ttT.get ftT.get (nm1 88 nmz14) (smL smlz14) (hxL hxlz14) lf 20 R
abbrev idz14 : Nat := 88
def encz14_2 (x1 : (List DForm)) (x2 : DGraph) (p : Int) : NRes := (NRes.mk (.node (some (IV.lst cForm x1)) (.node none (.node (some (IV.ptr 0 0)) .leaf (.node (some (IV.lst cNode x2.1)) .leaf .leaf)) (.node none .leaf (.node (some (IV.int .i64 p)) .leaf .leaf))) (.node none (.node none .leaf (.node (some (IV.int .i64 (Int.ofNat (List.length x2.1)))) .leaf .leaf)) .leaf)) (IS.mk (.node (some (IObj.row (List.cons (IV.lst cNode x2.1) (List.cons (IV.lst cVal x2.2) [])))) .leaf .leaf) 1) [] 0)
def encz14_8 (x1 : (List DForm)) (x2 : DGraph) (p : (List DVal) × (List DCol) × ByteArray × Int × Int) : NRes := (NRes.mk (.node (some (IV.lst cForm x1)) (.node none (.node (some (IV.ptr 0 0)) (.node none (.node none (.node (some (IV.lst cCol p.2.1)) .leaf .leaf) .leaf) .leaf) (.node (some (IV.lst cNode x2.1)) .leaf .leaf)) (.node none (.node none (.node none (.node (some (IV.int .i64 p.2.2.2.1)) .leaf .leaf) .leaf) .leaf) (.node (some (IV.int .i64 p.2.2.2.2)) .leaf .leaf))) (.node none (.node none (.node none (.node none (.node (some (IV.int .i64 (Int.ofNat (List.length p.2.1)))) .leaf .leaf) .leaf) .leaf) (.node (some (IV.int .i64 (Int.ofNat (List.length x2.1)))) .leaf .leaf)) (.node (some (IV.ptr 1 0)) .leaf .leaf))) (IS.mk (.node (some (IObj.row (List.cons (IV.lst cNode x2.1) (List.cons (IV.lst cVal x2.2) [])))) (.node (some (IObj.row (List.cons (IV.str p.2.2.1) (List.cons (IV.lst cVal p.1) [])))) .leaf .leaf) .leaf) 2) [] 0)
def Rz14_in (lf : Nat) (x1 : (List DForm)) (x2 : DGraph) (L2 : Int → Option Rtz14) : Option Rtz14 := (L2 (Int.ofNat 0))
def Rz14_2 (lf : Nat) (x1 : (List DForm)) (x2 : DGraph) (L8 : ((List DVal) × (List DCol) × ByteArray × Int × Int) → Option Rtz14) (p : Int) : Option Rtz14 := (cond (iltI p (Int.ofNat (List.length x2.1))) (match (jget x2.1 p) with | .none  => none | .some v0 => (match (jget x1 (S.form x1 v0.1)) with | .none  => none | .some v1 => (cond (Bool.not (ieqI (Int.ofNat (List.length v0.2)) (Int.ofNat (List.length v1.2)))) (some (Bool.false, ())) (L8 (v0.2, v1.2, v0.1, (Int.ofNat 0), p))))) (some (Bool.true, ())))
def Rz14_8 (lf : Nat) (x1 : (List DForm)) (x2 : DGraph) (L8 : ((List DVal) × (List DCol) × ByteArray × Int × Int) → Option Rtz14) (L2 : Int → Option Rtz14) (p : (List DVal) × (List DCol) × ByteArray × Int × Int) : Option Rtz14 := (cond (iltI p.2.2.2.1 (Int.ofNat (List.length p.2.1))) (match (jget p.2.1 p.2.2.2.1) with | .none  => none | .some v0 => (match (jget p.1 p.2.2.2.1) with | .none  => none | .some v1 => (match (cond (S.refOK (x2.1, x2.2) (v1.1, v1.2)) (some ((S.suits (x2.1, x2.2) (v0.1, (v0.2.1, v0.2.2)) (v1.1, v1.2)), ())) none) with | .none  => none | .some v2 => (cond (Bool.not v2.1) (some (Bool.false, ())) (L8 (p.1, p.2.1, p.2.2.1, (IntKind.i64.wrap (Int.add p.2.2.2.1 (Int.ofNat 1))), p.2.2.2.2)))))) (L2 (IntKind.i64.wrap (Int.add p.2.2.2.2 (Int.ofNat 1)))))
abbrev gz14 : Type := ElA [(.list cForm), cGraph] → Option Rtz14
abbrev sz14 (g : gz14) : Sm := ⟨[(.list cForm), cGraph], [(false, .bool)], g⟩
abbrev Ez14 (g : gz14) (J : JT Rtz14) (lf : Nat) (x1 : (List DForm)) (x2 : DGraph) := icodeT Try.prog ttT.get nmz14 fi88.nt (clz14 _ lf) lf stz14 J fi88.body [] (argGo (argV [(.list cForm), cGraph] (x1, x2, ())) 0 .leaf) S0 [] (lastK ttT.get fi88 (sz14 g))
abbrev Bz14 (g : gz14) (J : JT Rtz14) (lf k : Nat) (ms : List Nat) (q : NRes) := icodeFT Try.prog ttT.get nmz14 fi88.nt (clz14 _ lf) lf stz14 J k fi88.body [] ms q (lastK ttT.get fi88 (sz14 g))
theorem inz14 (g : gz14) (J : JT Rtz14) (lf : Nat) (x1 : (List DForm)) (x2 : DGraph) : Ez14 g J lf x1 x2 = Rz14_in lf x1 x2 (fun q => J 2 [lf] (encz14_2 x1 x2 q)) := by kernel_rfl
theorem stz14_2 (g : gz14) (J : JT Rtz14) (lf : Nat) (x1 : (List DForm)) (x2 : DGraph) (m1 : Nat) (p : Int) : Bz14 g J lf 2 [m1] (encz14_2 x1 x2 p) = Rz14_2 lf x1 x2 (fun q => J 8 [m1, lf] (encz14_8 x1 x2 q)) p := by kernel_rfl
theorem stz14_8 (g : gz14) (J : JT Rtz14) (lf : Nat) (x1 : (List DForm)) (x2 : DGraph) (m1 : Nat) (m2 : Nat) (p : (List DVal) × (List DCol) × ByteArray × Int × Int) : Bz14 g J lf 8 [m1, m2] (encz14_8 x1 x2 p) = Rz14_8 lf x1 x2 (fun q => J 8 [m1, m2] (encz14_8 x1 x2 q)) (fun q => J 2 [m1] (encz14_2 x1 x2 q)) p := by kernel_rfl
theorem ndz14 : (regs fi88.body).Nodup := by decide +kernel
theorem okz14 : okC nmz14 stz14 hdz14 fi88.body none = true := by kernel_rfl
def Az14 (g : gz14) (lf : Nat) : JT Rtz14 := atN Try.prog ttT.get nmz14 fi88 (sz14 g) (clz14 _ lf) lf hdz14
def Gz14_8 (lf : Nat) (x1 : (List DForm)) (x2 : DGraph) (K2 : Int → Option Rtz14) : Nat → ((List DVal) × (List DCol) × ByteArray × Int × Int) → Option Rtz14 := rounds fun K p => Rz14_8 lf x1 x2 K K2 p
theorem atz14_8 (g : gz14) (lf : Nat) (x1 : (List DForm)) (x2 : DGraph) (m1 : Nat) : ∀ (n : Nat) (p : (List DVal) × (List DCol) × ByteArray × Int × Int), Az14 g lf 8 [m1, n] (encz14_8 x1 x2 p) = Gz14_8 lf x1 x2 (fun q => Az14 g lf 2 [m1] (encz14_2 x1 x2 q)) n p
 | 0, p => atz 8 [m1, 0] rfl _
 | n + 1, p => by
   have ih := atz14_8 g lf x1 x2 m1 n
   refine (atN_eq (iKe 20 _) ndz14 okz14 8 [m1, n + 1] [m1, n] rfl _).trans ((stz14_8 g (Az14 g lf) lf x1 x2 m1 n p).trans ?_)
   rw [(show (fun q => Az14 g lf 8 [m1, n] (encz14_8 x1 x2 q)) = (fun q => Gz14_8 lf x1 x2 (fun q => Az14 g lf 2 [m1] (encz14_2 x1 x2 q)) n q) from funext ih)]
   rfl
def Gz14_2 (lf : Nat) (x1 : (List DForm)) (x2 : DGraph) : Nat → (Int) → Option Rtz14 := rounds fun K p => Rz14_2 lf x1 x2 (fun q => Gz14_8 lf x1 x2 K lf q) p
theorem atz14_2 (g : gz14) (lf : Nat) (x1 : (List DForm)) (x2 : DGraph) : ∀ (n : Nat) (p : Int), Az14 g lf 2 [n] (encz14_2 x1 x2 p) = Gz14_2 lf x1 x2 n p
 | 0, p => atz 2 [0] rfl _
 | n + 1, p => by
   have ih := atz14_2 g lf x1 x2 n
   refine (atN_eq (iKe 20 _) ndz14 okz14 2 [n + 1] [n] rfl _).trans ((stz14_2 g (Az14 g lf) lf x1 x2 n p).trans ?_)
   rw [(show (fun q => Az14 g lf 8 [n, lf] (encz14_8 x1 x2 q)) = (fun q => Gz14_8 lf x1 x2 (fun q => Az14 g lf 2 [n] (encz14_2 x1 x2 q)) lf q) from funext fun q => atz14_8 g lf x1 x2 n lf q), (show (fun q => Az14 g lf 2 [n] (encz14_2 x1 x2 q)) = (fun q => Gz14_2 lf x1 x2 n q) from funext ih)]
   rfl
def Fz14 (lf : Nat) (x1 : (List DForm)) (x2 : DGraph) : Option Rtz14 := Rz14_in lf x1 x2 (fun q => Gz14_2 lf x1 x2 lf q)
theorem runz14 (g : gz14) (lf : Nat) (x1 : (List DForm)) (x2 : DGraph) : Ez14 g (Az14 g lf) lf x1 x2 = Fz14 lf x1 x2 := by
   refine (inz14 g (Az14 g lf) lf x1 x2).trans ?_
   rw [(show (fun q => Az14 g lf 2 [lf] (encz14_2 x1 x2 q)) = (fun q => Gz14_2 lf x1 x2 lf q) from funext fun q => atz14_2 g lf x1 x2 lf q)]
   rfl
theorem hxsz14 : HxsOK Try.prog hxlz14 := trivial
theorem mkz14 {g : gz14} (hsm : SmOK Try.prog smlz14) (hg : ∀ (x : ElA [(.list cForm), cGraph]) (y : Rtz14), WfA [(.list cForm), cGraph] x → g x = some y → ∃ lf, Fz14 lf x.1 x.2.1 = some y) : Con Try.prog 88 ⟨[(.list cForm), cGraph], [(false, .bool)], g⟩ :=
 conT (nmf := nmz14) (sml := smlz14) (hxl := hxlz14) (st := stz14) (hd := hdz14) 20 mixed ttOK ftOK hsm hxsz14 cal88 rfl rfl (by kernel_rfl) (fun x => by kernel_rfl) ndz14 okz14 fun x y hx hy => by
   obtain ⟨lf, h⟩ := hg x y hx hy
   exact ⟨lf, (runz14 g lf x.1 x.2.1).trans h⟩
def nmz15 : Nat → Option Nm := fun k => none
def stz15 : Nat → Bool := fun k => false
def hdz15 := stz15
abbrev Rtz15 : Type := Int × Unit
def smlz15 : List (Nat × Sm) := [(70, spz12), (52, spz3), (88, spz14)]
def hxlz15 : List (Nat × Hx) := [(135, idxHx cNode)]
def clz15 (R : Type) (lf : Nat) : ClK R := icallK Try.prog ttT.get ftT.get (nm1 59 nmz15) (smL smlz15) (hxL hxlz15) lf 20 R
abbrev idz15 : Nat := 59
def Rz15_in (lf : Nat) (x1 : (List DForm)) (x2 : DGraph) : Option Rtz15 := (cond (Bool.not (ieqI (S.formed (x2.1, x2.2)) (Int.ofNat 0))) (some ((S.formed (x2.1, x2.2)), ())) (match (idxO (fun v0 => (some (iltI (S.form x1 v0.1) (Int.ofNat 0)))) x2.1 0) with | .none  => none | .some v1 => (cond (Bool.not (iltI v1 (Int.ofNat 0))) (some ((Int.ofNat 4), ())) (match (cond (S.typedPre x1 (x2.1, x2.2)) (some ((S.typed x1 (x2.1, x2.2) x2.1), ())) none) with | .none  => none | .some v2 => (cond v2.1 (some ((Int.ofNat 0), ())) (some ((Int.ofNat 8), ())))))))
abbrev gz15 : Type := ElA [(.list cForm), cGraph] → Option Rtz15
abbrev sz15 (g : gz15) : Sm := ⟨[(.list cForm), cGraph], [(false, (.int .i64))], g⟩
abbrev Ez15 (g : gz15) (J : JT Rtz15) (lf : Nat) (x1 : (List DForm)) (x2 : DGraph) := icodeT Try.prog ttT.get nmz15 fi59.nt (clz15 _ lf) lf stz15 J fi59.body [] (argGo (argV [(.list cForm), cGraph] (x1, x2, ())) 0 .leaf) S0 [] (lastK ttT.get fi59 (sz15 g))
theorem inz15 (g : gz15) (J : JT Rtz15) (lf : Nat) (x1 : (List DForm)) (x2 : DGraph) : Ez15 g J lf x1 x2 = Rz15_in lf x1 x2 := by kernel_rfl
theorem ndz15 : (regs fi59.body).Nodup := by decide +kernel
theorem okz15 : okC nmz15 stz15 hdz15 fi59.body none = true := by kernel_rfl
def Az15 (g : gz15) (lf : Nat) : JT Rtz15 := atN Try.prog ttT.get nmz15 fi59 (sz15 g) (clz15 _ lf) lf hdz15
def Fz15 (lf : Nat) (x1 : (List DForm)) (x2 : DGraph) : Option Rtz15 := Rz15_in lf x1 x2
theorem runz15 (g : gz15) (lf : Nat) (x1 : (List DForm)) (x2 : DGraph) : Ez15 g (Az15 g lf) lf x1 x2 = Fz15 lf x1 x2 := by
   refine (inz15 g (Az15 g lf) lf x1 x2).trans ?_
   rfl
theorem hxsz15 : HxsOK Try.prog hxlz15 := ⟨ixO135, trivial⟩
theorem mkz15 {g : gz15} (hsm : SmOK Try.prog smlz15) (hg : ∀ (x : ElA [(.list cForm), cGraph]) (y : Rtz15), WfA [(.list cForm), cGraph] x → g x = some y → ∃ lf, Fz15 lf x.1 x.2.1 = some y) : Con Try.prog 59 ⟨[(.list cForm), cGraph], [(false, (.int .i64))], g⟩ :=
 conT (nmf := nmz15) (sml := smlz15) (hxl := hxlz15) (st := stz15) (hd := hdz15) 20 mixed ttOK ftOK hsm hxsz15 cal59 rfl rfl (by kernel_rfl) (fun x => by kernel_rfl) ndz15 okz15 fun x y hx hy => by
   obtain ⟨lf, h⟩ := hg x y hx hy
   exact ⟨lf, (runz15 g lf x.1 x.2.1).trans h⟩
def nmz16 : Nat → Option Nm := fun k => none
def stz16 : Nat → Bool := fun k => false
def hdz16 := stz16
abbrev Rtz16 : Type := Int × Unit
def smlz16 : List (Nat × Sm) := [(16, spz10), (59, spz15)]
def hxlz16 : List (Nat × Hx) := []
def clz16 (R : Type) (lf : Nat) : ClK R := icallK Try.prog ttT.get ftT.get (nm1 18 nmz16) (smL smlz16) (hxL hxlz16) lf 20 R
abbrev idz16 : Nat := 18
def Rz16_in (lf : Nat) (x1 : (List DForm)) (x2 : DGraph) : Option Rtz16 := (cond (Bool.not (ieqI (S.checkForms x1) (Int.ofNat 0))) (some ((S.checkForms x1), ())) (some ((S.check x1 (x2.1, x2.2)), ())))
abbrev gz16 : Type := ElA [(.list cForm), cGraph] → Option Rtz16
abbrev sz16 (g : gz16) : Sm := ⟨[(.list cForm), cGraph], [(false, (.int .i64))], g⟩
abbrev Ez16 (g : gz16) (J : JT Rtz16) (lf : Nat) (x1 : (List DForm)) (x2 : DGraph) := icodeT Try.prog ttT.get nmz16 fi18.nt (clz16 _ lf) lf stz16 J fi18.body [] (argGo (argV [(.list cForm), cGraph] (x1, x2, ())) 0 .leaf) S0 [] (lastK ttT.get fi18 (sz16 g))
theorem inz16 (g : gz16) (J : JT Rtz16) (lf : Nat) (x1 : (List DForm)) (x2 : DGraph) : Ez16 g J lf x1 x2 = Rz16_in lf x1 x2 := by kernel_rfl
theorem ndz16 : (regs fi18.body).Nodup := by decide +kernel
theorem okz16 : okC nmz16 stz16 hdz16 fi18.body none = true := by kernel_rfl
def Az16 (g : gz16) (lf : Nat) : JT Rtz16 := atN Try.prog ttT.get nmz16 fi18 (sz16 g) (clz16 _ lf) lf hdz16
def Fz16 (lf : Nat) (x1 : (List DForm)) (x2 : DGraph) : Option Rtz16 := Rz16_in lf x1 x2
theorem runz16 (g : gz16) (lf : Nat) (x1 : (List DForm)) (x2 : DGraph) : Ez16 g (Az16 g lf) lf x1 x2 = Fz16 lf x1 x2 := by
   refine (inz16 g (Az16 g lf) lf x1 x2).trans ?_
   rfl
theorem hxsz16 : HxsOK Try.prog hxlz16 := trivial
theorem mkz16 {g : gz16} (hsm : SmOK Try.prog smlz16) (hg : ∀ (x : ElA [(.list cForm), cGraph]) (y : Rtz16), WfA [(.list cForm), cGraph] x → g x = some y → ∃ lf, Fz16 lf x.1 x.2.1 = some y) : Con Try.prog 18 ⟨[(.list cForm), cGraph], [(false, (.int .i64))], g⟩ :=
 conT (nmf := nmz16) (sml := smlz16) (hxl := hxlz16) (st := stz16) (hd := hdz16) 20 mixed ttOK ftOK hsm hxsz16 cal18 rfl rfl (by kernel_rfl) (fun x => by kernel_rfl) ndz16 okz16 fun x y hx hy => by
   obtain ⟨lf, h⟩ := hg x y hx hy
   exact ⟨lf, (runz16 g lf x.1 x.2.1).trans h⟩
theorem Fz1_eq (lf : Nat) (n lo hi : Int) : Fz1 lf n lo hi = some (S.within n lo hi, ()) := by
 simp only [Fz1, Rz1_in, S.within, iltI_eq, cond_if]
 by_cases h1 : n < lo
 · simp [h1]; omega
 · by_cases h2 : hi < n <;> simp [h1, h2] <;> omega
theorem conz1 : Con Try.prog idz1 spz1 := mkz1 trivial fun x y _ h => ⟨0, (Fz1_eq _ _ _ _).trans h⟩
theorem Fz2_eq (l : List Int) (hl : l.length < LF) : Fz2 LF l = some (S.first l, ()) := by
 refine range1 (R := Rtz2) l (fun rest _ => some (S.first rest, ())) hl (fun K => ?_) (fun K i v rest r h => ?_)
 · simp only [Rz2_2, ils, cond_false]; rfl
 · simp only [Rz2_2, r.ilt, r.get, r.next, h, cond_true, S.first, ieqI_eq, cond_if]
   by_cases hv : v = 0
   · simp [hv]
   · simp [hv]
theorem conz2 : Con Try.prog idz2 spz2 := mkz2 trivial fun x y hx h => ⟨LF, (Fz2_eq _ (wf_len hx.1)).trans h⟩
theorem Fz3_eq (lf : Nat) (l : List DForm) (n : ByteArray) : Fz3 lf l n = some (S.form l n, ()) := by
 simp only [Fz3, Rz3_in]
 rw [idxO_idx (l := l) (fun f : DForm => keqS f.1 n) fun x _ => rfl]
 rfl
theorem conz3 : Con Try.prog idz3 spz3 := mkz3 trivial fun x y _ h => ⟨0, (Fz3_eq _ _ _).trans h⟩
theorem Fz4_eq (lf : Nat) (l : List DCol) (n : ByteArray) : Fz4 lf l n = some (S.col l n, ()) := by
 simp only [Fz4, Rz4_in]
 rw [idxO_idx (l := l) (fun f : DCol => keqS f.1 n) fun x _ => rfl]
 rfl
theorem conz4 : Con Try.prog idz4 spz4 := mkz4 trivial fun x y _ h => ⟨0, (Fz4_eq _ _ _).trans h⟩
theorem byteList_get {s : ByteArray} (h : 0 < s.size) : ∃ b, (byteList s)[0]? = some b := by
 unfold byteList
 have : 0 < s.data.toList.length := by simpa using h
 exact ⟨_, by rw [List.getElem?_map, List.getElem?_eq_getElem this]; rfl⟩
theorem size_pos {s : ByteArray} (h : ¬ s = S.lit []) : 0 < s.size := by
 rcases Nat.eq_zero_or_pos s.size with h0 | h0
 · exfalso; apply h
   obtain ⟨a⟩ := s
   have : a = #[] := by simpa [ByteArray.size] using h0
   rw [this]; rfl
 · exact h0
theorem Fz5_eq (lf : Nat) (s : ByteArray) (lo hi : Int) (h1 : IntKind.u8.wrap lo = lo) (h2 : IntKind.u8.wrap hi = hi) : Fz5 lf s lo hi = some (S.named s lo hi, ()) := by
 have w1 : IntKind.i32.wrap lo = lo := by rw [wrap_iff] at *; simp [IntKind.min, IntKind.max, IntKind.bits, IntKind.signed] at *; omega
 have w2 : IntKind.i32.wrap hi = hi := by rw [wrap_iff] at *; simp [IntKind.min, IntKind.max, IntKind.bits, IntKind.signed] at *; omega
 simp only [Fz5, Rz5_in, S.named, w1, w2]
 by_cases hs : s = S.lit []
 · subst hs; simp [keqS]
 have hp := size_pos hs
 rw [if_neg hs, show keqS s (S.lit []) = false by simp [keqS, hs], cond_false]
 by_cases h20 : 20 < s.size
 · rw [if_pos h20, show iltI (Int.ofNat 20) (Int.ofNat s.size) = true by rw [iltI_eq]; exact decide_eq_true (Int.ofNat_lt.2 h20), cond_true]
 rw [if_neg h20, show iltI (Int.ofNat 20) (Int.ofNat s.size) = false by rw [iltI_eq]; simp; omega, cond_false]
 obtain ⟨b, hb⟩ := byteList_get hp
 have hj : jget (byteList s) (Int.ofNat 0) = some b := by rw [jget_nat, hb]
 simp only [hj, hb, iltI_eq, cond_if, decide_eq_true_eq]
 by_cases hlo : b < lo
 · rw [if_pos hlo, if_pos hlo]
 rw [if_neg hlo, if_neg hlo]
 by_cases hhi : hi < b
 · rw [if_pos hhi, if_pos hhi]
 rw [if_neg hhi, if_neg hhi]
 have e : (fun (v2 : Nat) (v3 : Int) => (if (!decide (v3 < lo)) = true then if (!decide (hi < v3)) = true then some false else if (!decide (v3 < Int.ofNat 48)) = true then if (!decide (Int.ofNat 57 < v3)) = true then some false else some (!ieqI v3 (Int.ofNat 95)) else some (!ieqI v3 (Int.ofNat 95)) else if (!decide (v3 < Int.ofNat 48)) = true then if (!decide (Int.ofNat 57 < v3)) = true then some false else some (!ieqI v3 (Int.ofNat 95)) else some (!ieqI v3 (Int.ofNat 95)) : Option Bool)) = fun _ r => some (S.badR r lo hi) := by
   funext _ r
   have e48 : Int.ofNat 48 = 48 := rfl
   have e57 : Int.ofNat 57 = 57 := rfl
   have e95 : Int.ofNat 95 = 95 := rfl
   simp only [S.badR, ieqI_eq, e48, e57, e95]
   by_cases a : r < lo <;> by_cases b : hi < r <;> by_cases c : r < 48 <;> by_cases d : 57 < r <;> by_cases e : r = 95 <;> simp [a, b, c, d, e] <;> omega
 rw [e]
 have e0 : Int.ofNat 0 = 0 := rfl
 obtain ⟨k, hk⟩ := sixO_some (p := fun _ r => some (S.badR r lo hi)) (q := fun r => S.badR r lo hi) (fun _ _ => rfl) s true (s.size + 1) 0 (by omega)
 have hk2 : sixO (fun _ r => some (S.badR r lo hi)) s Bool.true (Nat.add s.size 1) 0 = some k := hk
 simp only [hk, hk2, e0]
theorem conz5 : Con Try.prog idz5 spz5 := mkz5 trivial fun x y hx h => ⟨0, (Fz5_eq _ _ _ _ hx.2.1 hx.2.2.1).trans h⟩
theorem Fz6_eq (l : List ByteArray) (v : ByteArray) (hl : l.length < LF) : Fz6 LF l v = some (S.index l v, ()) := by
 refine (range1 (R := Rtz6) l (fun rest i => some ((match rest.findIdx? (fun x => keqS v x) with | some j => Int.ofNat (i + j) | none => -1), ())) hl (fun K => ?_) (fun K i w rest r h => ?_)).trans ?_
 · simp only [Rz6_2, ils, cond_false]; rfl
 · simp only [Rz6_2, r.ilt, r.get, r.next, h, cond_true, List.findIdx?_cons]
   cases keqS v w with
   | true => rfl
   | false =>
     simp only [cond_false]
     cases List.findIdx? (fun x => keqS v x) rest with
     | none => rfl
     | some j => simp; omega
 · simp only [S.index, S.idx, Nat.zero_add]; all_goals rfl
theorem conz6 : Con Try.prog idz6 spz6 := mkz6 trivial fun x y hx h => ⟨LF, (Fz6_eq _ _ (wf_len hx.1)).trans h⟩
theorem Fz7_eq (lf : Nat) (s : ByteArray) : Fz7 lf s = some (S.class_ s, ()) := by
 simp only [Fz7, Rz7_in, S.class_, iltI_eq]
 have e1 : Int.ofNat 65 = 65 := rfl
 have e2 : Int.ofNat 90 = 90 := rfl
 rw [e1, e2]
 cases S.named s 65 90
 · rfl
 · simp; rfl
theorem conz7 : Con Try.prog idz7 spz7 := mkz7 ⟨conz5, conz6, trivial⟩ fun x y hx h => ⟨LF, (Fz7_eq _ _).trans h⟩
theorem Fz8_eq (lf : Nat) (s : ByteArray) : Fz8 lf s = some (S.small s, ()) := by
 simp only [Fz8, Rz8_in, S.small, iltI_eq]
 have e1 : Int.ofNat 97 = 97 := rfl
 have e2 : Int.ofNat 122 = 122 := rfl
 rw [e1, e2]
 cases S.named s 97 122
 · rfl
 · simp; rfl
theorem conz8 : Con Try.prog idz8 spz8 := mkz8 ⟨conz5, conz6, trivial⟩ fun x y hx h => ⟨LF, (Fz8_eq _ _).trans h⟩
theorem lchk_pre {α : Type} (l : List α) {i : Nat} (h : i ≤ l.length) : lchk (Int.ofNat 0) (Int.ofNat i) (Int.ofNat l.length) (Int.ofNat l.length) = true := by
 simp [lchk, iltI_eq]; omega
theorem lsub_pre {α : Type} (l : List α) (i : Nat) : lsub l (Int.ofNat 0) (Int.ofNat i) = l.take i := by
 simp [lsub]
theorem Fz9_eq (l : List DCol) (hl : l.length < LF) : Fz9 LF l = some (S.checkCols l, ()) := by
 simp only [Fz9, Rz9_in, S.checkCols]
 by_cases h30 : 30 < l.length
 · rw [if_pos h30, show iltI (Int.ofNat 30) (Int.ofNat l.length) = true by rw [iltI_eq]; exact decide_eq_true (Int.ofNat_lt.2 h30)]; rfl
 rw [if_neg h30, show iltI (Int.ofNat 30) (Int.ofNat l.length) = false by rw [iltI_eq]; exact decide_eq_false (fun h => h30 (Int.ofNat_lt.1 h)), cond_false]
 refine range1 (R := Rtz9) l (fun rest i => some (S.ccGo l i rest, ())) hl (fun K => ?_) (fun K i v rest r h => ?_)
 · simp only [Rz9_4, ils, cond_false]; rfl
 · simp only [Rz9_4, r.ilt, r.get, r.next, h, cond_true, lchk_pre l (Nat.le_of_lt r.lt), lsub_pre, S.ccGo, iltI_eq, ieqI_eq, keqS, cond_if]
   simp only [oL]
   generalize S.small v.1 = b1
   generalize S.within v.2.1 1 3 = b2
   by_cases hc : S.col (l.take i) v.1 < 0 <;> by_cases h3 : v.2.1 = 3 <;> by_cases hn : v.2.2 = S.lit [] <;> cases b1 <;> cases b2 <;> simp [hc, h3, hn]
theorem conz9 : Con Try.prog idz9 spz9 := mkz9 ⟨conz8, conz4, conz1, trivial⟩ fun x y hx h => ⟨LF, (Fz9_eq _ (wf_len hx.1)).trans h⟩
theorem cf_inner (x1 : List DForm) (K11 : Int → Option Rtz10) (f : DForm) (hf : f.2.length < LF) (i : Nat) :
   Gz10_14 LF x1 K11 LF (f.2, Int.ofNat 0, Int.ofNat i) = if S.cfIn x1 f.2 = true then K11 (IntKind.i64.wrap (Int.add (Int.ofNat i) (Int.ofNat 1))) else some (5, ()) := by
 refine range0 (σ := Unit) (R := Rtz10) f.2 (fun k _ => (f.2, k, Int.ofNat i)) (fun _ _ => True) (fun rest _ _ => if S.cfIn x1 rest = true then K11 (IntKind.i64.wrap (Int.add (Int.ofNat i) (Int.ofNat 1))) else some (5, ())) hf (fun K s _ => ?_) (fun K k c rest s _ r h => ?_) () trivial
 · simp only [Rz10_14, ils, cond_false]; rfl
 · have h := h () trivial
   have e3 : Int.ofNat 3 = 3 := rfl
   have e0 : Int.ofNat 0 = 0 := rfl
   simp only [Rz10_14, r.ilt, r.get, r.next, h, cond_true, iltI_eq, ieqI_eq, keqS, cond_if, S.cfIn]
   simp only [e3, e0]
   have ea : S.lit [65, 78, 89] = S.ANY := rfl
   simp only [ea, decide_eq_true_eq, Bool.not_eq_true', decide_eq_false_iff_not]
   by_cases h3 : c.2.1 = 3 <;> by_cases hn : c.2.2 = S.ANY <;> by_cases hf : S.form x1 c.2.2 < 0 <;> simp [h3, hn, hf]
theorem cf_second (x1 : List DForm) (hl : x1.length < LF) (hw : ∀ f ∈ x1, f.2.length < LF) : Gz10_11 LF x1 LF (Int.ofNat 0) = some (S.cfGo2 x1 x1, ()) := by
 refine range1 (R := Rtz10) x1 (fun rest i => some (S.cfGo2 x1 rest, ())) hl (fun K => ?_) (fun K i v rest r h => ?_)
 · simp only [Rz10_11, ils, cond_false]; rfl
 · simp only [Rz10_11, r.ilt, r.get, cond_true]
   refine (cf_inner x1 K v (hw v r.mem) i).trans ?_
   rw [r.next, h]
   simp only [S.cfGo2]
   split <;> rfl
theorem first3 (a b c : Int) : S.first [a, b, c] = if a = 0 then (if b = 0 then c else b) else a := by
 simp only [S.first]
 split
 · split
   · split <;> simp_all
   · rfl
 · rfl
theorem Fz10_eq (l : List DForm) (hl : l.length < LF) (hw : ∀ f ∈ l, f.2.length < LF) : Fz10 LF l = some (S.checkForms l, ()) := by
 simp only [Fz10, Rz10_in, S.checkForms]
 by_cases h24 : 24 < l.length
 · rw [if_pos h24, show iltI (Int.ofNat 24) (Int.ofNat l.length) = true by rw [iltI_eq]; exact decide_eq_true (Int.ofNat_lt.2 h24)]; rfl
 rw [if_neg h24, show iltI (Int.ofNat 24) (Int.ofNat l.length) = false by rw [iltI_eq]; exact decide_eq_false (fun h => h24 (Int.ofNat_lt.1 h)), cond_false]
 refine range1 (R := Rtz10) l (fun rest i => some (S.cfGo l i rest, ())) hl (fun K => ?_) (fun K i v rest r h => ?_)
 · simp only [Rz10_4, ils, cond_false, S.cfGo]
   exact cf_second l hl hw
 · have e0 : Int.ofNat 0 = 0 := rfl
   simp only [Rz10_4, r.ilt, r.get, r.next, h, cond_true, lchk_pre l (Nat.le_of_lt r.lt), lsub_pre, S.cfGo, iltI_eq, ieqI_eq, cond_if, S.unlessE, first3]
   simp only [e0]
   have e4 : Int.ofNat 4 = 4 := rfl
   have e6 : Int.ofNat 6 = 6 := rfl
   simp only [e4, e6]
   cases S.class_ v.1 <;> by_cases hf : S.form (l.take i) v.1 < 0 <;> by_cases hc : S.checkCols v.2 = 0 <;> simp [hf, hc]
theorem conz10 : Con Try.prog idz10 spz10 := mkz10 ⟨conz7, conz3, conz9, conz2, trivial⟩ fun x y hx h => ⟨LF, (Fz10_eq _ (wf_len hx.1) fun f hf => wf_len (hx.1.2 f hf).2).trans h⟩
theorem Fz11_eq (lf : Nat) (v : DVal) (many : Int) : Fz11 lf v many = some (S.value v many, ()) := by
 simp only [Fz11, Rz11_in, S.value, ieqI_eq, cond_if]
 simp only [oL, oLn, decide_eq_true_eq]
 split
 · rfl
 split
 · rfl
 split
 · rfl
 split <;> rfl
theorem conz11 : Con Try.prog idz11 spz11 := mkz11 ⟨conz1, trivial⟩ fun x y hx h => ⟨LF, (Fz11_eq _ _ _).trans h⟩
theorem idx_any {α : Type} (p : α → Bool) (l : List α) : (!iltI (S.idx p l) (Int.ofNat 0)) = l.any p := by
 have := S.idx_nonneg p l
 rw [iltI_eq, Bool.eq_iff_iff]
 simp only [oL, Bool.not_eq_true', decide_eq_false_iff_not, Int.not_lt]
 exact this
theorem idx_any0 {α : Type} (p : α → Bool) (l : List α) : (!iltI (S.idx p l) 0) = l.any p := idx_any p l
theorem fm_third (g : DGraph) (hl : g.1.length < LF) : Gz12_11 LF g LF (Int.ofNat 0) = some ((if g.1.any (fun n => n.2.any fun v => !S.value v (Int.ofNat g.1.length)) then 2 else if g.2.any (fun v => !S.value v (Int.ofNat g.1.length) || !S.refers v) then 2 else 0), ()) := by
 refine (range1 (R := Rtz12) g.1 (fun rest i => some ((if rest.any (fun n => n.2.any fun v => !S.value v (Int.ofNat g.1.length)) then 2 else if g.2.any (fun v => !S.value v (Int.ofNat g.1.length) || !S.refers v) then 2 else 0), ())) hl (fun K => ?_) (fun K i n rest r h => ?_))
 · simp only [Rz12_11, ils, cond_false]
   rw [idxO_idx (l := g.2) (fun v : DVal => !S.value v (Int.ofNat g.1.length) || !S.refers v) fun v _ => ?_]
   · simp only [idx_any, cond_if, List.any_nil, Bool.not_eq_true', oL]
     simp only [idx_any0]
     cases h : (g.2.any fun v => !S.value v (Int.ofNat g.1.length) || !S.refers v) <;> rfl
   · simp only [S.refers, ieqI_eq, oL, cond_if]
     generalize S.value (v.1, v.2) (Int.ofNat g.1.length) = b
     by_cases h3 : v.1 = 3 <;> by_cases h4 : v.1 = 4 <;> cases b <;> simp [h3, h4]
 · simp only [Rz12_11, r.ilt, r.get, r.next, h, cond_true, Prod.eta]
   rw [idxO_idx (l := n.2) (fun v : DVal => !S.value v (Int.ofNat g.1.length)) fun v _ => rfl]
   simp only [idx_any]
   have e2 : (n :: rest).any (fun n => n.2.any fun v => !S.value v (Int.ofNat g.1.length)) = ((n.2.any fun v => !S.value v (Int.ofNat g.1.length)) || rest.any (fun n => n.2.any fun v => !S.value v (Int.ofNat g.1.length))) := rfl
   rw [e2]
   cases hb : (n.2.any fun v => !S.value v (Int.ofNat g.1.length)) with
   | true => rw [cond_true, Bool.true_or, if_pos rfl]; rfl
   | false => rw [cond_false, Bool.false_or]
theorem fm_second (g : DGraph) (hl : g.1.length < LF) : Gz12_4 LF g LF (Int.ofNat 0) = some ((if g.1.any (fun n => decide (30 < n.2.length)) then 3 else if g.1.any (fun n => n.2.any fun v => !S.value v (Int.ofNat g.1.length)) then 2 else if g.2.any (fun v => !S.value v (Int.ofNat g.1.length) || !S.refers v) then 2 else 0), ()) := by
 refine (range1 (R := Rtz12) g.1 (fun rest i => some ((if rest.any (fun n => decide (30 < n.2.length)) then 3 else if g.1.any (fun n => n.2.any fun v => !S.value v (Int.ofNat g.1.length)) then 2 else if g.2.any (fun v => !S.value v (Int.ofNat g.1.length) || !S.refers v) then 2 else 0), ())) hl (fun K => ?_) (fun K i n rest r h => ?_))
 · simp only [Rz12_4, ils, cond_false]
   exact fm_third g hl
 · have e : (iltI (Int.ofNat 30) (Int.ofNat n.2.length)) = decide (30 < n.2.length) := by
     rw [iltI_eq, Bool.eq_iff_iff]; simp only [decide_eq_true_eq]; exact Int.ofNat_lt
   simp only [Rz12_4, r.ilt, r.get, r.next, h, cond_true, e]
   have e2 : (n :: rest).any (fun n => decide (30 < n.2.length)) = (decide (30 < n.2.length) || rest.any (fun n => decide (30 < n.2.length))) := rfl
   rw [e2]
   by_cases hb : 30 < n.2.length
   · rw [decide_eq_true hb, cond_true, Bool.true_or, if_pos rfl]; rfl
   · rw [decide_eq_false hb, cond_false, Bool.false_or]
theorem ilt_nat (a b : Nat) : iltI (Int.ofNat a) (Int.ofNat b) = decide (a < b) := by
 rw [iltI_eq, Bool.eq_iff_iff]; simp only [decide_eq_true_eq]; exact Int.ofNat_lt
theorem Fz12_eq (g : DGraph) (hl : g.1.length < LF) : Fz12 LF g = some (S.formed g, ()) := by
 simp only [Fz12, Rz12_in, S.formed, ilt_nat, cond_if]
 by_cases h1 : 400 < g.1.length
 · simp [h1, oL]
 by_cases h2 : 60 < g.2.length
 · simp [h1, h2, oL]
 rw [if_neg (by simpa using h1), if_neg (by simpa using h2), if_neg (by omega)]
 exact fm_second g hl
theorem conz12 : Con Try.prog idz12 spz12 := mkz12 ⟨conz11, trivial⟩ fun x y hx h => ⟨LF, (Fz12_eq _ (wf_len hx.1.1)).trans h⟩
theorem Fz13_eq (lf : Nat) (g : DGraph) (c : DCol) (v : DVal) (h : S.refOK g v = true) : Fz13 lf g c v = some (S.suits g c v, ()) := by
 simp only [Fz13, Rz13_in, S.suits, ieqI_eq, keqS, cond_if]
 have ea : S.lit [65, 78, 89] = S.ANY := rfl
 simp only [ea, oL, decide_eq_true_eq]
 by_cases h1 : c.2.1 = 1
 · simp [h1]
 by_cases h2 : c.2.1 = 2
 · simp [h2]
 by_cases h3 : v.1 = 3
 · simp [h1, h2, h3]
 by_cases h4 : v.1 = 4
 · unfold S.refOK at h
   obtain ⟨a, b⟩ := of_decide_eq_true h h4
   obtain ⟨x, e1, e2, e3⟩ := jget_of a b
   have e4 : S.at_ S.zNode g.1 v.2 = x := by unfold S.at_; rw [e2]; rfl
   rw [e1, e4]
   by_cases hA : c.2.2 = S.ANY <;> simp [h1, h2, h3, h4, hA]
 · simp [h1, h2, h3, h4]
theorem conz13 : Con Try.prog idz13 spz13 := mkz13 trivial fun x y hx h => ⟨0, by
 have h : cond (S.refOK x.1 x.2.2.1) (some (S.suits x.1 x.2.1 x.2.2.1, ())) none = some y := h
 cases hr : S.refOK x.1 x.2.2.1 with
 | false => rw [hr] at h; cases h
 | true => rw [hr] at h; exact (Fz13_eq _ _ _ _ hr).trans h⟩
theorem ieq_nat (a b : Nat) : ieqI (Int.ofNat a) (Int.ofNat b) = decide (a = b) := by
 rw [ieqI_eq, Bool.eq_iff_iff]; simp only [decide_eq_true_eq]; exact Int.ofNat_inj
theorem ty_inner (l : List DForm) (g : DGraph) (K2 : Int → Option Rtz14) (nm : ByteArray) (vs : List DVal) (hv : ∀ v ∈ vs, S.refOK g v = true) (cs : List DCol) (hc : cs.length < LF) (hlen : vs.length = cs.length) (i : Nat) :
   Gz14_8 LF l g K2 LF (vs, cs, nm, Int.ofNat 0, Int.ofNat i) = if S.suitsAll g cs vs = true then K2 (IntKind.i64.wrap (Int.add (Int.ofNat i) (Int.ofNat 1))) else some (false, ()) := by
 refine range0 (σ := Unit) (R := Rtz14) cs (fun k _ => (vs, cs, nm, k, Int.ofNat i)) (fun _ _ => True) (fun rest k _ => if S.suitsAll g rest (vs.drop k) = true then K2 (IntKind.i64.wrap (Int.add (Int.ofNat i) (Int.ofNat 1))) else some (false, ())) hc (fun K s _ => ?_) (fun K k c rest s _ r h => ?_) () trivial
 · simp only [Rz14_8, ils, cond_false, S.suitsAll]; rfl
 · have h := h () trivial
   have hk : k < vs.length := by rw [hlen]; exact r.lt
   have hj : jget vs (Int.ofNat k) = some vs[k] := by rw [jget_nat]; exact List.getElem?_eq_getElem hk
   have hr := hv _ (List.getElem_mem hk)
   rw [List.drop_eq_getElem_cons hk, S.suitsAll]
   simp only [Rz14_8, r.ilt, r.get, r.next, h, cond_true, hj, Prod.eta, hr]
   cases S.suits g c vs[k] <;> simp
theorem Fz14_eq (l : List DForm) (g : DGraph) (hl : g.1.length < LF) (hw : ∀ f ∈ l, f.2.length < LF) (hp : S.typedPre l g = true) : Fz14 LF l g = some (S.typed l g g.1, ()) := by
 show Gz14_2 LF l g LF (Int.ofNat 0) = _
 refine range1 (R := Rtz14) g.1 (fun rest i => some (S.typed l g rest, ())) hl (fun K => ?_) (fun K i n rest r h => ?_)
 · simp only [Rz14_2, ils, cond_false, S.typed]
 · unfold S.typedPre at hp
   have hn := List.all_eq_true.1 hp n r.mem
   simp only [Bool.and_eq_true, decide_eq_true_eq] at hn
   obtain ⟨f, f1, f2, f3, f4, f5, f6⟩ := S.idx_get (p := fun f : DForm => keqS f.1 n.1) (l := l) hn.1
   have f1' : jget l (S.form l n.1) = some f := f1
   have hc : S.colsOf l n.1 = f.2 := by
     unfold S.colsOf S.at_ S.form
     rw [f2]; rfl
   simp only [Rz14_2, r.ilt, r.get, f1', cond_true, ieq_nat]
   rw [S.typed, hc]
   by_cases hlen : n.2.length = f.2.length
   · rw [if_pos hlen, decide_eq_true hlen, Bool.not_true, cond_false]
     refine (ty_inner l g K n.1 n.2 (List.all_eq_true.1 hn.2) f.2 (hw f f4) hlen i).trans ?_
     rw [r.next, h]
     split <;> rfl
   · rw [if_neg hlen, decide_eq_false hlen, Bool.not_false, cond_true]
theorem conz14 : Con Try.prog idz14 spz14 := mkz14 ⟨conz3, conz13, trivial⟩ fun x y hx h => ⟨LF, by
 have h : cond (S.typedPre x.1 x.2.1) (some (S.typed x.1 x.2.1 x.2.1.1, ())) none = some y := h
 cases hr : S.typedPre x.1 x.2.1 with
 | false => rw [hr] at h; cases h
 | true => rw [hr] at h; exact (Fz14_eq _ _ (wf_len hx.2.1.1) (fun f hf => wf_len (hx.1.2 f hf).2) hr).trans h⟩
theorem refOK_of_value {g : DGraph} {v : DVal} (hl : g.1.length < LF) (h : S.value v (Int.ofNat g.1.length) = true) : S.refOK g v = true := by
 unfold S.refOK
 refine decide_eq_true fun h4 => ?_
 unfold S.value at h
 have hw : IntKind.i64.wrap (Int.sub (Int.ofNat g.1.length) (Int.ofNat 1)) = (g.1.length : Int) - 1 := wrap64_in (by
   unfold LF at hl
   show -9223372036854775808 ≤ (g.1.length : Int) - 1 ∧ (g.1.length : Int) - 1 < 9223372036854775808
   omega)
 rw [hw] at h
 simp [h4, S.within] at h
 omega
theorem formed_zero {g : DGraph} (h : S.formed g = 0) : g.1.length ≤ 400 ∧ g.2.length ≤ 60 ∧ (∀ n ∈ g.1, n.2.length ≤ 30) ∧ (∀ n ∈ g.1, ∀ v ∈ n.2, S.value v (Int.ofNat g.1.length) = true) ∧ ∀ v ∈ g.2, S.value v (Int.ofNat g.1.length) = true ∧ S.refers v = true := by
 unfold S.formed at h
 split at h
 · cases h
 split at h
 · cases h
 split at h
 · cases h
 split at h
 · cases h
 rename_i h1 h2 h3 h4
 simp only [List.any_eq_true, not_exists, not_and, decide_eq_true_eq, Bool.not_eq_true', Bool.not_eq_false, Bool.or_eq_true, not_or] at h2 h3 h4
 exact ⟨by omega, by omega, fun n hn => by have := h2 n hn; omega, fun n hn v hv => h3 n hn v hv, fun v hv => h4 v hv⟩
theorem ne_zero (a : Int) : (!ieqI a (Int.ofNat 0)) = decide (¬ a = 0) := by
 rw [ieqI_eq, Bool.eq_iff_iff]; simp [oL]
theorem check_pre {l : List DForm} {g : DGraph} (hl : g.1.length < LF) (h0 : S.formed g = 0) (hb : g.1.any (fun n => decide (S.form l n.1 < 0)) = false) : S.typedPre l g = true := by
 obtain ⟨_, _, _, hv, _⟩ := formed_zero h0
 unfold S.typedPre
 rw [List.all_eq_true]
 intro n hn
 simp only [Bool.and_eq_true, decide_eq_true_eq, List.all_eq_true]
 rw [List.any_eq_false] at hb
 have := hb n hn
 simp only [decide_eq_true_eq] at this
 exact ⟨by omega, fun v hv2 => refOK_of_value hl (hv n hn v hv2)⟩
theorem Fz15_eq (lf : Nat) (l : List DForm) (g : DGraph) (hl : g.1.length < LF) : Fz15 lf l g = some (S.check l g, ()) := by
 simp only [Fz15, Rz15_in, S.check, Prod.eta, ne_zero]
 by_cases h0 : S.formed g = 0
 · rw [decide_eq_false (by simpa using h0), cond_false, if_neg (by simpa using h0)]
   rw [idxO_idx (l := g.1) (fun n : DNode => decide (S.form l n.1 < 0)) fun v _ => by rw [iltI_eq]; rfl]
   simp only [idx_any]
   cases hb : g.1.any (fun n => decide (S.form l n.1 < 0)) with
   | true => rw [cond_true, if_pos rfl]; rfl
   | false =>
     rw [check_pre hl h0 hb, cond_false, if_neg (by simp)]
     simp only [cond_true, S.unlessE]
     cases S.typed l g g.1 <;> rfl
 · rw [decide_eq_true (by simpa using h0), cond_true, if_pos (by simpa using h0)]
theorem conz15 : Con Try.prog idz15 spz15 := mkz15 ⟨conz12, conz3, conz14, trivial⟩ fun x y hx h => ⟨LF, (Fz15_eq _ _ _ (wf_len hx.2.1.1)).trans h⟩
theorem Fz16_eq (lf : Nat) (l : List DForm) (g : DGraph) : Fz16 lf l g = some (S.checkG l g, ()) := by
 simp only [Fz16, Rz16_in, S.checkG, Prod.eta, ne_zero]
 by_cases h0 : S.checkForms l = 0
 · rw [decide_eq_false (by simpa using h0), cond_false, if_neg (by simpa using h0)]
 · rw [decide_eq_true (by simpa using h0), cond_true, if_pos (by simpa using h0)]
theorem conz16 : Con Try.prog idz16 spz16 := mkz16 ⟨conz10, conz15, trivial⟩ fun x y hx h => ⟨LF, (Fz16_eq _ _ _).trans h⟩
end Go.Proofs.Ytcnhjofpmpipfaa
end
section
namespace Go.Jx
open Go Go.Sx Go.RowKit
universe u
inductive NoD (n : Nat) : Type
instance (n : Nat) : Dat (NoD n) where
 sz := n
 enc _ _ _ x := nomatch x
 len {_ _ _ x} _ := nomatch x
 mono {_ _ _ _ _ x} _ _ := nomatch x
 ones {_ _ _ x} _ := nomatch x
theorem lst_nil2 {E : Env} {c : TC} {u : Value} (h : VR E (.lst c []) u) : ∃ a cap, u = .slice a 0 cap ∧ cap < 9223372036854775808 := by
 cases h with
 | lst0 hc => exact ⟨_, _, rfl, hc⟩
 | lst us h1 h2 h3 hb hh hc hu => exact ⟨_, _, rfl, h2⟩
end Go.Jx
end
noncomputable section
set_option maxRecDepth 100000
namespace Go.Proofs.Ytcnhjofpmpipfaa
open Go Go.Sx Go.RowKit Go.Jx
theorem form_get {l : List DForm} {n : ByteArray} (h : 0 ≤ S.form l n) : ∃ f, jget l (S.form l n) = some f ∧ S.colsOf l n = f.2 ∧ f ∈ l ∧ f.1 = n := by
 obtain ⟨f, f1, f2, f3, f4, f5, f6⟩ := S.idx_get (p := fun f : DForm => keqS f.1 n) (l := l) h
 refine ⟨f, f1, ?_, f4, of_decide_eq_true f3⟩
 unfold S.colsOf S.at_ S.form
 rw [f2]; rfl
structure RulesOK (a b : List DForm) (l : List DRule) : Prop where
 len : l.length ≤ 24
 has : ∀ r ∈ l, 0 ≤ S.form a r.1 ∧ 0 ≤ S.form b r.2.1
 one : ∀ k (h : k < l.length), (S.ruleOf (l.take k) l[k].1).2 = false
 all : ∀ f ∈ a, (S.ruleOf l f.1).2 = true
 glen : ∀ r ∈ l, r.2.2.length = (S.colsOf b r.2.1).length
 gok : ∀ r ∈ l, ∀ k (h : k < r.2.2.length) (h' : k < (S.colsOf b r.2.1).length), S.give l r.2.2[k] (S.colsOf a r.1) (S.colsOf b r.2.1)[k] = 0
structure GraphOK (l : List DForm) (g : DGraph) : Prop where
 formed : S.formed g = 0
 has : ∀ n ∈ g.1, 0 ≤ S.form l n.1
 typed : S.typed l g g.1 = true
theorem graphOK_iff (l : List DForm) (g : DGraph) : S.check l g = 0 ↔ GraphOK l g := by
 unfold S.check
 by_cases h0 : S.formed g = 0
 · rw [if_neg (by simpa using h0)]
   cases hb : g.1.any (fun n => decide (S.form l n.1 < 0)) with
   | true =>
     rw [if_pos rfl]
     refine ⟨fun h => (by cases h), fun h => ?_⟩
     obtain ⟨n, h1, h2⟩ := List.any_eq_true.1 hb
     have := h.has n h1
     have := of_decide_eq_true h2
     omega
   | false =>
     rw [if_neg (by simp)]
     rw [List.any_eq_false] at hb
     have hh : ∀ n ∈ g.1, 0 ≤ S.form l n.1 := fun n hn => by have := hb n hn; simpa using this
     unfold S.unlessE
     cases ht : S.typed l g g.1 with
     | true => exact ⟨fun _ => ⟨h0, hh, ht⟩, fun _ => rfl⟩
     | false => exact ⟨fun h => (by cases h), fun h => (by have := h.typed; rw [ht] at this; cases this)⟩
 · rw [if_pos h0]
   exact ⟨fun h => absurd h h0, fun h => absurd h.formed h0⟩
theorem bl_len (s : ByteArray) : (byteList s).length = s.size := by
 unfold byteList
 rw [List.length_map]
 exact Array.length_toList
theorem bl_get {s : ByteArray} {i : Nat} (h : i < s.size) : (byteList s)[i]? = some ((s[i]'h).toNat : Int) := by
 unfold byteList
 rw [List.getElem?_map, List.getElem?_eq_getElem (by simpa using h)]
 rfl
theorem bl_range {s : ByteArray} {b : Int} (h : b ∈ byteList s) : 0 ≤ b ∧ b < 256 := by
 unfold byteList at h
 obtain ⟨x, _, rfl⟩ := List.mem_map.1 h
 have := x.toNat_lt
 constructor <;> omega
theorem six_neg {s : ByteArray} {q : Int → Bool} (hq : ∀ r, 128 ≤ r → q r = true) : ∀ (n i : Nat) (k : Int), s.size - i < n → sixO (fun _ r => some (q r)) s true n i = some k → (k < 0 ↔ ∀ j b, i ≤ j → (byteList s)[j]? = some b → q b = false)
 | 0, i, k, h, _ => by omega
 | n + 1, i, k, h, hk => by
   unfold sixO at hk
   by_cases hlt : i < s.size
   · have hb : Nat.blt i s.size = true := by simpa using hlt
     rw [hb, cond_true] at hk
     simp only at hk
     have hg := bl_get hlt
     by_cases ha : (s[i]'hlt).toNat < 128
     · have hd := decode_ascii s i hlt ha
       rw [hd] at hk
       simp only at hk
       cases hb2 : q (((s[i]'hlt).toNat : Nat) : Int) with
       | true =>
         have e : q (Int.ofNat (s[i]'hlt).toNat) = true := hb2
         rw [e] at hk
         cases hk
         constructor
         · intro h; have : (0 : Int) ≤ Int.ofNat i := Int.natCast_nonneg _; omega
         · intro h; have := h i _ (Nat.le_refl _) hg; rw [hb2] at this; cases this
       | false =>
         have e : q (Int.ofNat (s[i]'hlt).toNat) = false := hb2
         rw [e] at hk
         simp only [Bool.false_eq_true, decide_false, cond_false] at hk
         rw [six_neg hq n (i + 1) k (by omega) hk]
         constructor
         · intro h j b hj hjb
           by_cases e : j = i
           · subst e; rw [hg] at hjb; cases hjb; exact hb2
           · exact h j b (by omega) hjb
         · intro h j b hj hjb; exact h j b (by omega) hjb
     · have hd := decode_high s i hlt (by omega)
       have e : q (Int.ofNat (Utf8.decode s i).1) = true := hq _ (by have := hd.1; show (128 : Int) ≤ ((Utf8.decode s i).1 : Int); omega)
       rw [e] at hk
       cases hk
       constructor
       · intro h; have : (0 : Int) ≤ Int.ofNat i := Int.natCast_nonneg _; omega
       · intro h
         have := h i _ (Nat.le_refl _) hg
         rw [hq _ (by omega)] at this; cases this
   · have hb : Nat.blt i s.size = false := by
       cases hbb : Nat.blt i s.size with
       | false => rfl
       | true => exact absurd (by simpa using hbb) hlt
     rw [hb, cond_false] at hk
     cases hk
     constructor
     · intro _ j b hj hjb
       have := (List.getElem?_eq_some_iff.1 hjb).1
       rw [bl_len] at this
       omega
     · intro _; omega
theorem named_iff {s : ByteArray} {lo hi : Int} (hh : hi < 128) : S.named s lo hi = true ↔ s.size ≤ 20 ∧ (∃ b, (byteList s)[0]? = some b ∧ lo ≤ b ∧ b ≤ hi) ∧ ∀ b ∈ byteList s, S.badR b lo hi = false := by
 unfold S.named
 by_cases h0 : s = S.lit []
 · rw [if_pos h0]
   constructor
   · intro h; cases h
   · rintro ⟨_, ⟨b, hb, _⟩, _⟩
     subst h0
     cases hb
 rw [if_neg h0]
 by_cases h1 : 20 < s.size
 · rw [if_pos h1]
   exact ⟨fun h => (by cases h), fun h => by omega⟩
 rw [if_neg h1]
 obtain ⟨b, hb⟩ := byteList_get (size_pos h0)
 rw [hb]
 simp only
 by_cases h2 : b < lo
 · rw [if_pos h2]
   exact ⟨fun h => (by cases h), fun ⟨_, ⟨b', e, h3, _⟩, _⟩ => by cases e; omega⟩
 rw [if_neg h2]
 by_cases h3 : hi < b
 · rw [if_pos h3]
   exact ⟨fun h => (by cases h), fun ⟨_, ⟨b', e, _, h4⟩, _⟩ => by cases e; omega⟩
 rw [if_neg h3]
 obtain ⟨k, hk⟩ := sixO_some (p := fun _ r => some (S.badR r lo hi)) (q := fun r => S.badR r lo hi) (fun _ _ => rfl) s true (s.size + 1) 0 (by omega)
 rw [hk]
 simp only [decide_eq_true_eq]
 rw [six_neg (q := fun r => S.badR r lo hi) (fun r hr => by simp [S.badR]; omega) _ 0 k (by omega) hk]
 constructor
 · intro h
   refine ⟨by omega, ⟨b, rfl, by omega, by omega⟩, fun c hc => ?_⟩
   obtain ⟨j, hj⟩ := List.mem_iff_getElem?.1 hc
   exact h j c (Nat.zero_le _) hj
 · rintro ⟨_, _, h⟩ j c _ hj
   exact h c (List.mem_of_getElem? hj)
theorem index_neg (l : List ByteArray) (v : ByteArray) : decide (S.index l v < 0) = true ↔ ¬ v ∈ l := by
 have h := S.idx_nonneg (fun x => keqS v x) l
 simp only [decide_eq_true_eq]
 have e : l.any (fun x => keqS v x) = true ↔ v ∈ l := by
   rw [List.any_eq_true]
   constructor
   · rintro ⟨x, hx, h⟩; rw [of_decide_eq_true h]; exact hx
   · intro h; exact ⟨v, h, decide_eq_true rfl⟩
 rw [e] at h
 rw [← h]
 unfold S.index
 omega
namespace S
def isSmall (b : Int) : Bool := decide (97 ≤ b) && decide (b ≤ 122)
def isCap (b : Int) : Bool := decide (65 ≤ b) && decide (b ≤ 90)
def isDig (b : Int) : Bool := decide (48 ≤ b) && decide (b ≤ 57)
def isPart (b : Int) : Bool := isSmall b || isCap b || isDig b || decide (b = 95)
end S
theorem small_iff (s : ByteArray) : S.small s = true ↔ s.size ≤ 20 ∧ (∃ b, (byteList s)[0]? = some b ∧ 97 ≤ b ∧ b ≤ 122) ∧ (∀ b ∈ byteList s, S.badR b 97 122 = false) ∧ ¬ s ∈ S.smallWords := by
 unfold S.small
 rw [Bool.and_eq_true, named_iff (by decide), index_neg]
 simp only [and_assoc]
theorem class_iff (s : ByteArray) : S.class_ s = true ↔ s.size ≤ 20 ∧ (∃ b, (byteList s)[0]? = some b ∧ 65 ≤ b ∧ b ≤ 90) ∧ (∀ b ∈ byteList s, S.isPart b = true ∧ S.isSmall b = false) ∧ ¬ s ∈ S.classWords := by
 unfold S.class_
 rw [Bool.and_eq_true, named_iff (by decide), index_neg]
 have hbad : ∀ b, S.badR b 65 90 = false ↔ (S.isPart b = true ∧ S.isSmall b = false) := fun b => by
   simp only [S.badR, S.isPart, S.isSmall, S.isCap, S.isDig, Bool.not_eq_false', Bool.or_eq_true, Bool.and_eq_true, decide_eq_true_eq, Bool.and_eq_false_iff, decide_eq_false_iff_not]
   omega
 simp only [hbad, and_assoc]
abbrev DR1Kinded : Type := Int × Int
abbrev DR1Numbered : Type := Int × Int
namespace S
def has (l : List ByteArray) (s : ByteArray) : Bool := l.any fun x => keqS x s
def run0 (s : ByteArray) : Int := Int.ofNat ((byteList s).takeWhile isPart).length
def numGo : List Int → Int → Int × Int
 | [], n => (n, 0)
 | b :: r, n =>
   let m := IntKind.i64.wrap (Int.sub (IntKind.i64.wrap (Int.add (IntKind.i64.wrap (Int.mul (Int.ofNat 10) n)) b)) (Int.ofNat 48))
   if 1099511627776 < m then (0, 3) else numGo r m
def number (s : ByteArray) : Int × Int :=
 if (byteList s).all isDig = false then (0, 2)
 else if (byteList s)[0]? = some 48 ∧ 1 < s.size then (0, 2)
 else numGo (byteList s) 0
def wordsT : List ByteArray := [S.lit [84, 114, 117, 101], S.lit [70, 97, 108, 115, 101], S.lit [86, 111, 105, 100], S.lit [67, 117, 114, 114, 101, 110, 116], S.lit [82, 101, 115, 117, 108, 116]]
def keywords : List ByteArray := [S.lit [97, 110, 100], S.lit [97, 115], S.lit [97, 116, 116, 97, 99, 104, 101, 100], S.lit [99, 104, 101, 99, 107], S.lit [99, 108, 97, 115, 115], S.lit [99, 114, 101, 97, 116, 101], S.lit [100, 101, 102, 101, 114, 114, 101, 100], S.lit [100, 101, 116, 97, 99, 104, 97, 98, 108, 101], S.lit [100, 111], S.lit [101, 108, 115, 101], S.lit [101, 110, 100], S.lit [101, 110, 115, 117, 114, 101], S.lit [102, 101, 97, 116, 117, 114, 101], S.lit [102, 114, 111, 109], S.lit [105, 102], S.lit [105, 109, 112, 108, 105, 101, 115], S.lit [105, 110, 104, 101, 114, 105, 116], S.lit [105, 110, 118, 97, 114, 105, 97, 110, 116], S.lit [108, 111, 99, 97, 108], S.lit [108, 111, 111, 112], S.lit [110, 111, 116], S.lit [111, 108, 100], S.lit [111, 114], S.lit [112, 117, 116], S.lit [114, 97, 105, 115, 101], S.lit [114, 101, 100, 101, 102, 105, 110, 101], S.lit [114, 101, 110, 97, 109, 101], S.lit [114, 101, 113, 117, 105, 114, 101], S.lit [114, 101, 115, 99, 117, 101], S.lit [114, 101, 116, 114, 121], S.lit [115, 101, 108, 101, 99, 116], S.lit [115, 101, 112, 97, 114, 97, 116, 101], S.lit [116, 104, 101, 110], S.lit [117, 110, 100, 101, 102, 105, 110, 101], S.lit [117, 110, 116, 105, 108], S.lit [118, 97, 114, 105, 97, 110, 116], S.lit [119, 104, 101, 110]]
def signs : List ByteArray := [S.lit [58, 61], S.lit [47, 61], S.lit [60, 61], S.lit [62, 61], S.lit [47, 47], S.lit [61], S.lit [60], S.lit [62], S.lit [43], S.lit [45], S.lit [42], S.lit [37], S.lit [40], S.lit [41], S.lit [91], S.lit [93], S.lit [123], S.lit [125], S.lit [44], S.lit [59], S.lit [58], S.lit [46]]
def word (s : ByteArray) : Int × Int :=
 if has keywords s || has wordsT s then (3, 0)
 else if has smallWords s then (0, 4)
 else if (byteList s).any isSmall && (byteList s).any isCap then (0, 2)
 else if 20 < s.size then (0, 3)
 else if (byteList s).any isSmall then (1, 0)
 else (2, 0)
def shape (s : ByteArray) : Int × Int :=
 if has signs s then (5, 0)
 else match (byteList s)[0]? with
   | none => (0, 2)
   | some b => if run0 s < Int.ofNat s.size then (0, 2)
     else if b = 95 then (0, 2)
     else if isDig b then (if (number s).2 = 0 then (4, 0) else (0, (number s).2))
     else word s
end S
def spz17 : Sm := ⟨[.list .str, .str], [(false, .bool)], fun x => some (S.has x.1 x.2.1, ())⟩
def spz26 : Sm := ⟨[.str, .int .i64], [(false, .int .i64)], fun x => cond (ieqI x.2.1 (Int.ofNat 0)) (some (S.run0 x.1, ())) none⟩
def spz27 : Sm := ⟨[.str], [(false, cR1Numbered)], fun x => cond (Nat.blt 0 (ByteArray.size x.1)) (some (S.number x.1, ())) none⟩
def spz28 : Sm := ⟨[.str], [(false, cR1Kinded)], fun x => some (S.word x.1, ())⟩
def spz29 : Sm := ⟨[.str], [(false, cR1Kinded)], fun x => some (S.shape x.1, ())⟩
def spz19 : Sm := ⟨[.list cForm, .str], [(false, .int .i64)], fun x => some (S.form x.1 x.2.1, ())⟩
def spz20 : Sm := ⟨[cForm, .str], [(false, .int .i64)], fun x => some (S.col x.1.2 x.2.1, ())⟩
def spz21 : Sm := ⟨[cVal, .int .i64], [(false, .bool)], fun x => some (S.value x.1 x.2.1, ())⟩
def spz22 : Sm := ⟨[cGraph], [(false, .int .i64)], fun x => some (S.formed x.1, ())⟩
def spz23 : Sm := ⟨[cCol, cVal, cGraph], [(false, .bool)], fun x => cond (S.refOK x.2.2.1 x.2.1) (some (S.suits x.2.2.1 x.1 x.2.1, ())) none⟩
def spz30 : Sm := ⟨[.str], [(false, .bool)], fun x => some (S.class_ x.1, ())⟩
def spz18 : Sm := ⟨[.str], [(false, .bool)], fun x => some (S.small x.1, ())⟩
def spz24 : Sm := ⟨[.list cForm], [(false, .int .i64)], fun x => some (S.checkForms x.1, ())⟩
def spz25 : Sm := ⟨[.list cForm, cGraph], [(false, .int .i64)], fun x => some (S.checkG x.1 x.2.1, ())⟩
namespace S
end S
namespace S
end S
def nmz17 : Nat → Option Nm := fun k => cond (Nat.beq k 2) (some ⟨[0, 1, 5], [], [], [], [], 0, 0, false⟩) (none)
def stz17 : Nat → Bool := fun k => cond (Nat.beq k 2) true (false)
def hdz17 := stz17
abbrev Rtz17 : Type := Bool × Unit
def smlz17 : List (Nat × Sm) := []
def hxlz17 : List (Nat × Hx) := []
def clz17 (R : Type) (lf : Nat) : ClK R := icallK Try.prog ttT.get ftT.get (nm1 129 nmz17) (smL smlz17) (hxL hxlz17) lf 20 R
abbrev idz17 : Nat := 129
def encz17_2 (x1 : (List ByteArray)) (x2 : ByteArray) (p : Int) : NRes := (NRes.mk (.node (some (IV.lst TC.str x1)) (.node (some (IV.str x2)) .leaf (.node (some (IV.int .i64 p)) .leaf .leaf)) .leaf) (IS.mk .leaf 0) [] 0)
def Rz17_in (lf : Nat) (x1 : (List ByteArray)) (x2 : ByteArray) (L2 : Int → Option Rtz17) : Option Rtz17 := (L2 (Int.ofNat 0))
def Rz17_2 (lf : Nat) (x1 : (List ByteArray)) (x2 : ByteArray) (L2 : Int → Option Rtz17) (p : Int) : Option Rtz17 := (cond (iltI p (Int.ofNat (List.length x1))) (match (jget x1 p) with | .none  => none | .some v0 => (cond (keqS v0 x2) (some (Bool.true, ())) (L2 (IntKind.i64.wrap (Int.add p (Int.ofNat 1)))))) (some (Bool.false, ())))
abbrev gz17 : Type := ElA [(.list .str), .str] → Option Rtz17
abbrev sz17 (g : gz17) : Sm := ⟨[(.list .str), .str], [(false, .bool)], g⟩
abbrev Ez17 (g : gz17) (J : JT Rtz17) (lf : Nat) (x1 : (List ByteArray)) (x2 : ByteArray) := icodeT Try.prog ttT.get nmz17 fi129.nt (clz17 _ lf) lf stz17 J fi129.body [] (argGo (argV [(.list .str), .str] (x1, x2, ())) 0 .leaf) S0 [] (lastK ttT.get fi129 (sz17 g))
abbrev Bz17 (g : gz17) (J : JT Rtz17) (lf k : Nat) (ms : List Nat) (q : NRes) := icodeFT Try.prog ttT.get nmz17 fi129.nt (clz17 _ lf) lf stz17 J k fi129.body [] ms q (lastK ttT.get fi129 (sz17 g))
theorem inz17 (g : gz17) (J : JT Rtz17) (lf : Nat) (x1 : (List ByteArray)) (x2 : ByteArray) : Ez17 g J lf x1 x2 = Rz17_in lf x1 x2 (fun q => J 2 [lf] (encz17_2 x1 x2 q)) := by kernel_rfl
theorem stz17_2 (g : gz17) (J : JT Rtz17) (lf : Nat) (x1 : (List ByteArray)) (x2 : ByteArray) (m1 : Nat) (p : Int) : Bz17 g J lf 2 [m1] (encz17_2 x1 x2 p) = Rz17_2 lf x1 x2 (fun q => J 2 [m1] (encz17_2 x1 x2 q)) p := by kernel_rfl
theorem ndz17 : (regs fi129.body).Nodup := by decide +kernel
theorem okz17 : okC nmz17 stz17 hdz17 fi129.body none = true := by kernel_rfl
def Az17 (g : gz17) (lf : Nat) : JT Rtz17 := atN Try.prog ttT.get nmz17 fi129 (sz17 g) (clz17 _ lf) lf hdz17
def Gz17_2 (lf : Nat) (x1 : (List ByteArray)) (x2 : ByteArray) : Nat → (Int) → Option Rtz17 := rounds fun K p => Rz17_2 lf x1 x2 K p
theorem atz17_2 (g : gz17) (lf : Nat) (x1 : (List ByteArray)) (x2 : ByteArray) : ∀ (n : Nat) (p : Int), Az17 g lf 2 [n] (encz17_2 x1 x2 p) = Gz17_2 lf x1 x2 n p
 | 0, p => atz 2 [0] rfl _
 | n + 1, p => by
   have ih := atz17_2 g lf x1 x2 n
   refine (atN_eq (iKe 20 _) ndz17 okz17 2 [n + 1] [n] rfl _).trans ((stz17_2 g (Az17 g lf) lf x1 x2 n p).trans ?_)
   rw [(show (fun q => Az17 g lf 2 [n] (encz17_2 x1 x2 q)) = (fun q => Gz17_2 lf x1 x2 n q) from funext ih)]
   rfl
def Fz17 (lf : Nat) (x1 : (List ByteArray)) (x2 : ByteArray) : Option Rtz17 := Rz17_in lf x1 x2 (fun q => Gz17_2 lf x1 x2 lf q)
theorem runz17 (g : gz17) (lf : Nat) (x1 : (List ByteArray)) (x2 : ByteArray) : Ez17 g (Az17 g lf) lf x1 x2 = Fz17 lf x1 x2 := by
   refine (inz17 g (Az17 g lf) lf x1 x2).trans ?_
   rw [(show (fun q => Az17 g lf 2 [lf] (encz17_2 x1 x2 q)) = (fun q => Gz17_2 lf x1 x2 lf q) from funext fun q => atz17_2 g lf x1 x2 lf q)]
   rfl
theorem hxsz17 : HxsOK Try.prog hxlz17 := trivial
theorem mkz17 {g : gz17} (hsm : SmOK Try.prog smlz17) (hg : ∀ (x : ElA [(.list .str), .str]) (y : Rtz17), WfA [(.list .str), .str] x → g x = some y → ∃ lf, Fz17 lf x.1 x.2.1 = some y) : Con Try.prog 129 ⟨[(.list .str), .str], [(false, .bool)], g⟩ :=
 conT (nmf := nmz17) (sml := smlz17) (hxl := hxlz17) (st := stz17) (hd := hdz17) 20 mixed ttOK ftOK hsm hxsz17 cal129 rfl rfl (by kernel_rfl) (fun x => by kernel_rfl) ndz17 okz17 fun x y hx hy => by
   obtain ⟨lf, h⟩ := hg x y hx hy
   exact ⟨lf, (runz17 g lf x.1 x.2.1).trans h⟩
def nmz18 : Nat → Option Nm := fun k => cond (Nat.beq k 4) (some ⟨[0, 3], [], [], [], [], 0, 0, false⟩) (none)
def stz18 : Nat → Bool := fun k => cond (Nat.beq k 4) true (false)
def hdz18 := stz18
abbrev Rtz18 : Type := Bool × Unit
def smlz18 : List (Nat × Sm) := []
def hxlz18 : List (Nat × Hx) := []
def clz18 (R : Type) (lf : Nat) : ClK R := icallK Try.prog ttT.get ftT.get (nm1 56 nmz18) (smL smlz18) (hxL hxlz18) lf 20 R
abbrev idz18 : Nat := 56
def encz18_4 (x1 : ByteArray) (p : Int) : NRes := (NRes.mk (.node (some (IV.str x1)) (.node none (.node (some (IV.int .i64 p)) .leaf .leaf) .leaf) .leaf) (IS.mk .leaf 0) [] 0)
def Rz18_in (lf : Nat) (x1 : ByteArray) (L4 : Int → Option Rtz18) : Option Rtz18 := (cond (iltI (Int.ofNat (ByteArray.size x1)) (Int.ofNat 1)) (some (Bool.false, ())) (cond (iltI (Int.ofNat 20) (Int.ofNat (ByteArray.size x1))) (some (Bool.false, ())) (match (jget (byteList x1) (Int.ofNat 0)) with | .none  => none | .some v0 => (cond (iltI v0 (Int.ofNat 97)) (some (Bool.false, ())) (match (jget (byteList x1) (Int.ofNat 0)) with | .none  => none | .some v1 => (cond (iltI (Int.ofNat 122) v1) (some (Bool.false, ())) (L4 (Int.ofNat 0))))))))
def Rz18_4 (lf : Nat) (x1 : ByteArray) (L4 : Int → Option Rtz18) (p : Int) : Option Rtz18 := (cond (iltI p (Int.ofNat (ByteArray.size x1))) (match (jget (byteList x1) p) with | .none  => none | .some v0 => (cond (Bool.not (iltI v0 (Int.ofNat 97))) (match (jget (byteList x1) p) with | .none  => none | .some v1 => (cond (Bool.not (iltI (Int.ofNat 122) v1)) (L4 (IntKind.i64.wrap (Int.add p (Int.ofNat 1)))) (match (jget (byteList x1) p) with | .none  => none | .some v25 => (cond (Bool.not (iltI v25 (Int.ofNat 48))) (match (jget (byteList x1) p) with | .none  => none | .some v26 => (cond (Bool.not (iltI (Int.ofNat 57) v26)) (L4 (IntKind.i64.wrap (Int.add p (Int.ofNat 1)))) (match (jget (byteList x1) p) with | .none  => none | .some v27 => (cond (Bool.not (ieqI v27 (Int.ofNat 95))) (some (Bool.false, ())) (L4 (IntKind.i64.wrap (Int.add p (Int.ofNat 1)))))))) (match (jget (byteList x1) p) with | .none  => none | .some v28 => (cond (Bool.not (ieqI v28 (Int.ofNat 95))) (some (Bool.false, ())) (L4 (IntKind.i64.wrap (Int.add p (Int.ofNat 1)))))))))) (match (jget (byteList x1) p) with | .none  => none | .some v29 => (cond (Bool.not (iltI v29 (Int.ofNat 48))) (match (jget (byteList x1) p) with | .none  => none | .some v30 => (cond (Bool.not (iltI (Int.ofNat 57) v30)) (L4 (IntKind.i64.wrap (Int.add p (Int.ofNat 1)))) (match (jget (byteList x1) p) with | .none  => none | .some v31 => (cond (Bool.not (ieqI v31 (Int.ofNat 95))) (some (Bool.false, ())) (L4 (IntKind.i64.wrap (Int.add p (Int.ofNat 1)))))))) (match (jget (byteList x1) p) with | .none  => none | .some v32 => (cond (Bool.not (ieqI v32 (Int.ofNat 95))) (some (Bool.false, ())) (L4 (IntKind.i64.wrap (Int.add p (Int.ofNat 1)))))))))) (cond (Bool.not (keqS x1 (S.lit [116, 114, 117, 101]))) (cond (Bool.not (keqS x1 (S.lit [102, 97, 108, 115, 101]))) (cond (Bool.not (keqS x1 (S.lit [118, 111, 105, 100]))) (cond (Bool.not (keqS x1 (S.lit [99, 117, 114, 114, 101, 110, 116]))) (some ((Bool.not (keqS x1 (S.lit [114, 101, 115, 117, 108, 116]))), ())) (some (Bool.false, ()))) (some (Bool.false, ()))) (some (Bool.false, ()))) (some (Bool.false, ()))))
abbrev gz18 : Type := ElA [.str] → Option Rtz18
abbrev sz18 (g : gz18) : Sm := ⟨[.str], [(false, .bool)], g⟩
abbrev Ez18 (g : gz18) (J : JT Rtz18) (lf : Nat) (x1 : ByteArray) := icodeT Try.prog ttT.get nmz18 fi56.nt (clz18 _ lf) lf stz18 J fi56.body [] (argGo (argV [.str] (x1, ())) 0 .leaf) S0 [] (lastK ttT.get fi56 (sz18 g))
abbrev Bz18 (g : gz18) (J : JT Rtz18) (lf k : Nat) (ms : List Nat) (q : NRes) := icodeFT Try.prog ttT.get nmz18 fi56.nt (clz18 _ lf) lf stz18 J k fi56.body [] ms q (lastK ttT.get fi56 (sz18 g))
theorem inz18 (g : gz18) (J : JT Rtz18) (lf : Nat) (x1 : ByteArray) : Ez18 g J lf x1 = Rz18_in lf x1 (fun q => J 4 [lf] (encz18_4 x1 q)) := by kernel_rfl
theorem stz18_4 (g : gz18) (J : JT Rtz18) (lf : Nat) (x1 : ByteArray) (m1 : Nat) (p : Int) : Bz18 g J lf 4 [m1] (encz18_4 x1 p) = Rz18_4 lf x1 (fun q => J 4 [m1] (encz18_4 x1 q)) p := by kernel_rfl
theorem ndz18 : (regs fi56.body).Nodup := by decide +kernel
theorem okz18 : okC nmz18 stz18 hdz18 fi56.body none = true := by kernel_rfl
def Az18 (g : gz18) (lf : Nat) : JT Rtz18 := atN Try.prog ttT.get nmz18 fi56 (sz18 g) (clz18 _ lf) lf hdz18
def Gz18_4 (lf : Nat) (x1 : ByteArray) : Nat → (Int) → Option Rtz18 := rounds fun K p => Rz18_4 lf x1 K p
theorem atz18_4 (g : gz18) (lf : Nat) (x1 : ByteArray) : ∀ (n : Nat) (p : Int), Az18 g lf 4 [n] (encz18_4 x1 p) = Gz18_4 lf x1 n p
 | 0, p => atz 4 [0] rfl _
 | n + 1, p => by
   have ih := atz18_4 g lf x1 n
   refine (atN_eq (iKe 20 _) ndz18 okz18 4 [n + 1] [n] rfl _).trans ((stz18_4 g (Az18 g lf) lf x1 n p).trans ?_)
   rw [(show (fun q => Az18 g lf 4 [n] (encz18_4 x1 q)) = (fun q => Gz18_4 lf x1 n q) from funext ih)]
   rfl
def Fz18 (lf : Nat) (x1 : ByteArray) : Option Rtz18 := Rz18_in lf x1 (fun q => Gz18_4 lf x1 lf q)
theorem runz18 (g : gz18) (lf : Nat) (x1 : ByteArray) : Ez18 g (Az18 g lf) lf x1 = Fz18 lf x1 := by
   refine (inz18 g (Az18 g lf) lf x1).trans ?_
   rw [(show (fun q => Az18 g lf 4 [lf] (encz18_4 x1 q)) = (fun q => Gz18_4 lf x1 lf q) from funext fun q => atz18_4 g lf x1 lf q)]
   rfl
theorem hxsz18 : HxsOK Try.prog hxlz18 := trivial
theorem mkz18 {g : gz18} (hsm : SmOK Try.prog smlz18) (hg : ∀ (x : ElA [.str]) (y : Rtz18), WfA [.str] x → g x = some y → ∃ lf, Fz18 lf x.1 = some y) : Con Try.prog 56 ⟨[.str], [(false, .bool)], g⟩ :=
 conT (nmf := nmz18) (sml := smlz18) (hxl := hxlz18) (st := stz18) (hd := hdz18) 20 mixed ttOK ftOK hsm hxsz18 cal56 rfl rfl (by kernel_rfl) (fun x => by kernel_rfl) ndz18 okz18 fun x y hx hy => by
   obtain ⟨lf, h⟩ := hg x y hx hy
   exact ⟨lf, (runz18 g lf x.1).trans h⟩
def nmz19 : Nat → Option Nm := fun k => cond (Nat.beq k 2) (some ⟨[0, 1, 5], [], [], [], [], 0, 0, false⟩) (none)
def stz19 : Nat → Bool := fun k => cond (Nat.beq k 2) true (false)
def hdz19 := stz19
abbrev Rtz19 : Type := Int × Unit
def smlz19 : List (Nat × Sm) := []
def hxlz19 : List (Nat × Hx) := []
def clz19 (R : Type) (lf : Nat) : ClK R := icallK Try.prog ttT.get ftT.get (nm1 55 nmz19) (smL smlz19) (hxL hxlz19) lf 20 R
abbrev idz19 : Nat := 55
def encz19_2 (x1 : (List DForm)) (x2 : ByteArray) (p : Int) : NRes := (NRes.mk (.node (some (IV.lst cForm x1)) (.node (some (IV.str x2)) .leaf (.node (some (IV.int .i64 p)) .leaf .leaf)) .leaf) (IS.mk .leaf 0) [] 0)
def Rz19_in (lf : Nat) (x1 : (List DForm)) (x2 : ByteArray) (L2 : Int → Option Rtz19) : Option Rtz19 := (L2 (Int.ofNat 0))
def Rz19_2 (lf : Nat) (x1 : (List DForm)) (x2 : ByteArray) (L2 : Int → Option Rtz19) (p : Int) : Option Rtz19 := (cond (iltI p (Int.ofNat (List.length x1))) (match (jget x1 p) with | .none  => none | .some v0 => (cond (keqS v0.1 x2) (some (p, ())) (L2 (IntKind.i64.wrap (Int.add p (Int.ofNat 1)))))) (some ((Int.negSucc 0), ())))
abbrev gz19 : Type := ElA [(.list cForm), .str] → Option Rtz19
abbrev sz19 (g : gz19) : Sm := ⟨[(.list cForm), .str], [(false, (.int .i64))], g⟩
abbrev Ez19 (g : gz19) (J : JT Rtz19) (lf : Nat) (x1 : (List DForm)) (x2 : ByteArray) := icodeT Try.prog ttT.get nmz19 fi55.nt (clz19 _ lf) lf stz19 J fi55.body [] (argGo (argV [(.list cForm), .str] (x1, x2, ())) 0 .leaf) S0 [] (lastK ttT.get fi55 (sz19 g))
abbrev Bz19 (g : gz19) (J : JT Rtz19) (lf k : Nat) (ms : List Nat) (q : NRes) := icodeFT Try.prog ttT.get nmz19 fi55.nt (clz19 _ lf) lf stz19 J k fi55.body [] ms q (lastK ttT.get fi55 (sz19 g))
theorem inz19 (g : gz19) (J : JT Rtz19) (lf : Nat) (x1 : (List DForm)) (x2 : ByteArray) : Ez19 g J lf x1 x2 = Rz19_in lf x1 x2 (fun q => J 2 [lf] (encz19_2 x1 x2 q)) := by kernel_rfl
theorem stz19_2 (g : gz19) (J : JT Rtz19) (lf : Nat) (x1 : (List DForm)) (x2 : ByteArray) (m1 : Nat) (p : Int) : Bz19 g J lf 2 [m1] (encz19_2 x1 x2 p) = Rz19_2 lf x1 x2 (fun q => J 2 [m1] (encz19_2 x1 x2 q)) p := by kernel_rfl
theorem ndz19 : (regs fi55.body).Nodup := by decide +kernel
theorem okz19 : okC nmz19 stz19 hdz19 fi55.body none = true := by kernel_rfl
def Az19 (g : gz19) (lf : Nat) : JT Rtz19 := atN Try.prog ttT.get nmz19 fi55 (sz19 g) (clz19 _ lf) lf hdz19
def Gz19_2 (lf : Nat) (x1 : (List DForm)) (x2 : ByteArray) : Nat → (Int) → Option Rtz19 := rounds fun K p => Rz19_2 lf x1 x2 K p
theorem atz19_2 (g : gz19) (lf : Nat) (x1 : (List DForm)) (x2 : ByteArray) : ∀ (n : Nat) (p : Int), Az19 g lf 2 [n] (encz19_2 x1 x2 p) = Gz19_2 lf x1 x2 n p
 | 0, p => atz 2 [0] rfl _
 | n + 1, p => by
   have ih := atz19_2 g lf x1 x2 n
   refine (atN_eq (iKe 20 _) ndz19 okz19 2 [n + 1] [n] rfl _).trans ((stz19_2 g (Az19 g lf) lf x1 x2 n p).trans ?_)
   rw [(show (fun q => Az19 g lf 2 [n] (encz19_2 x1 x2 q)) = (fun q => Gz19_2 lf x1 x2 n q) from funext ih)]
   rfl
def Fz19 (lf : Nat) (x1 : (List DForm)) (x2 : ByteArray) : Option Rtz19 := Rz19_in lf x1 x2 (fun q => Gz19_2 lf x1 x2 lf q)
theorem runz19 (g : gz19) (lf : Nat) (x1 : (List DForm)) (x2 : ByteArray) : Ez19 g (Az19 g lf) lf x1 x2 = Fz19 lf x1 x2 := by
   refine (inz19 g (Az19 g lf) lf x1 x2).trans ?_
   rw [(show (fun q => Az19 g lf 2 [lf] (encz19_2 x1 x2 q)) = (fun q => Gz19_2 lf x1 x2 lf q) from funext fun q => atz19_2 g lf x1 x2 lf q)]
   rfl
theorem hxsz19 : HxsOK Try.prog hxlz19 := trivial
theorem mkz19 {g : gz19} (hsm : SmOK Try.prog smlz19) (hg : ∀ (x : ElA [(.list cForm), .str]) (y : Rtz19), WfA [(.list cForm), .str] x → g x = some y → ∃ lf, Fz19 lf x.1 x.2.1 = some y) : Con Try.prog 55 ⟨[(.list cForm), .str], [(false, (.int .i64))], g⟩ :=
 conT (nmf := nmz19) (sml := smlz19) (hxl := hxlz19) (st := stz19) (hd := hdz19) 20 mixed ttOK ftOK hsm hxsz19 cal55 rfl rfl (by kernel_rfl) (fun x => by kernel_rfl) ndz19 okz19 fun x y hx hy => by
   obtain ⟨lf, h⟩ := hg x y hx hy
   exact ⟨lf, (runz19 g lf x.1 x.2.1).trans h⟩
def nmz20 : Nat → Option Nm := fun k => cond (Nat.beq k 2) (some ⟨[1, 2, 5], [], [], [], [], 0, 0, false⟩) (none)
def stz20 : Nat → Bool := fun k => cond (Nat.beq k 2) true (false)
def hdz20 := stz20
abbrev Rtz20 : Type := Int × Unit
def smlz20 : List (Nat × Sm) := []
def hxlz20 : List (Nat × Hx) := []
def clz20 (R : Type) (lf : Nat) : ClK R := icallK Try.prog ttT.get ftT.get (nm1 57 nmz20) (smL smlz20) (hxL hxlz20) lf 20 R
abbrev idz20 : Nat := 57
def encz20_2 (x1 : DForm) (x2 : ByteArray) (p : Int) : NRes := (NRes.mk (.node none (.node (some (IV.str x2)) .leaf (.node (some (IV.int .i64 p)) .leaf .leaf)) (.node (some (IV.ptr 0 0)) .leaf .leaf)) (IS.mk (.node (some (IObj.row (List.cons (IV.str x1.1) (List.cons (IV.lst cCol x1.2) [])))) .leaf .leaf) 1) [] 0)
def Rz20_in (lf : Nat) (x1 : DForm) (x2 : ByteArray) (L2 : Int → Option Rtz20) : Option Rtz20 := (L2 (Int.ofNat 0))
def Rz20_2 (lf : Nat) (x1 : DForm) (x2 : ByteArray) (L2 : Int → Option Rtz20) (p : Int) : Option Rtz20 := (cond (iltI p (Int.ofNat (List.length x1.2))) (match (jget x1.2 p) with | .none  => none | .some v0 => (cond (keqS v0.1 x2) (some (p, ())) (L2 (IntKind.i64.wrap (Int.add p (Int.ofNat 1)))))) (some ((Int.negSucc 0), ())))
abbrev gz20 : Type := ElA [cForm, .str] → Option Rtz20
abbrev sz20 (g : gz20) : Sm := ⟨[cForm, .str], [(false, (.int .i64))], g⟩
abbrev Ez20 (g : gz20) (J : JT Rtz20) (lf : Nat) (x1 : DForm) (x2 : ByteArray) := icodeT Try.prog ttT.get nmz20 fi57.nt (clz20 _ lf) lf stz20 J fi57.body [] (argGo (argV [cForm, .str] (x1, x2, ())) 0 .leaf) S0 [] (lastK ttT.get fi57 (sz20 g))
abbrev Bz20 (g : gz20) (J : JT Rtz20) (lf k : Nat) (ms : List Nat) (q : NRes) := icodeFT Try.prog ttT.get nmz20 fi57.nt (clz20 _ lf) lf stz20 J k fi57.body [] ms q (lastK ttT.get fi57 (sz20 g))
theorem inz20 (g : gz20) (J : JT Rtz20) (lf : Nat) (x1 : DForm) (x2 : ByteArray) : Ez20 g J lf x1 x2 = Rz20_in lf x1 x2 (fun q => J 2 [lf] (encz20_2 x1 x2 q)) := by kernel_rfl
theorem stz20_2 (g : gz20) (J : JT Rtz20) (lf : Nat) (x1 : DForm) (x2 : ByteArray) (m1 : Nat) (p : Int) : Bz20 g J lf 2 [m1] (encz20_2 x1 x2 p) = Rz20_2 lf x1 x2 (fun q => J 2 [m1] (encz20_2 x1 x2 q)) p := by kernel_rfl
theorem ndz20 : (regs fi57.body).Nodup := by decide +kernel
theorem okz20 : okC nmz20 stz20 hdz20 fi57.body none = true := by kernel_rfl
def Az20 (g : gz20) (lf : Nat) : JT Rtz20 := atN Try.prog ttT.get nmz20 fi57 (sz20 g) (clz20 _ lf) lf hdz20
def Gz20_2 (lf : Nat) (x1 : DForm) (x2 : ByteArray) : Nat → (Int) → Option Rtz20 := rounds fun K p => Rz20_2 lf x1 x2 K p
theorem atz20_2 (g : gz20) (lf : Nat) (x1 : DForm) (x2 : ByteArray) : ∀ (n : Nat) (p : Int), Az20 g lf 2 [n] (encz20_2 x1 x2 p) = Gz20_2 lf x1 x2 n p
 | 0, p => atz 2 [0] rfl _
 | n + 1, p => by
   have ih := atz20_2 g lf x1 x2 n
   refine (atN_eq (iKe 20 _) ndz20 okz20 2 [n + 1] [n] rfl _).trans ((stz20_2 g (Az20 g lf) lf x1 x2 n p).trans ?_)
   rw [(show (fun q => Az20 g lf 2 [n] (encz20_2 x1 x2 q)) = (fun q => Gz20_2 lf x1 x2 n q) from funext ih)]
   rfl
def Fz20 (lf : Nat) (x1 : DForm) (x2 : ByteArray) : Option Rtz20 := Rz20_in lf x1 x2 (fun q => Gz20_2 lf x1 x2 lf q)
theorem runz20 (g : gz20) (lf : Nat) (x1 : DForm) (x2 : ByteArray) : Ez20 g (Az20 g lf) lf x1 x2 = Fz20 lf x1 x2 := by
   refine (inz20 g (Az20 g lf) lf x1 x2).trans ?_
   rw [(show (fun q => Az20 g lf 2 [lf] (encz20_2 x1 x2 q)) = (fun q => Gz20_2 lf x1 x2 lf q) from funext fun q => atz20_2 g lf x1 x2 lf q)]
   rfl
theorem hxsz20 : HxsOK Try.prog hxlz20 := trivial
theorem mkz20 {g : gz20} (hsm : SmOK Try.prog smlz20) (hg : ∀ (x : ElA [cForm, .str]) (y : Rtz20), WfA [cForm, .str] x → g x = some y → ∃ lf, Fz20 lf x.1 x.2.1 = some y) : Con Try.prog 57 ⟨[cForm, .str], [(false, (.int .i64))], g⟩ :=
 conT (nmf := nmz20) (sml := smlz20) (hxl := hxlz20) (st := stz20) (hd := hdz20) 20 mixed ttOK ftOK hsm hxsz20 cal57 rfl rfl (by kernel_rfl) (fun x => by kernel_rfl) ndz20 okz20 fun x y hx hy => by
   obtain ⟨lf, h⟩ := hg x y hx hy
   exact ⟨lf, (runz20 g lf x.1 x.2.1).trans h⟩
def nmz21 : Nat → Option Nm := fun k => none
def stz21 : Nat → Bool := fun k => false
def hdz21 := stz21
abbrev Rtz21 : Type := Bool × Unit
def smlz21 : List (Nat × Sm) := []
def hxlz21 : List (Nat × Hx) := []
def clz21 (R : Type) (lf : Nat) : ClK R := icallK Try.prog ttT.get ftT.get (nm1 99 nmz21) (smL smlz21) (hxL hxlz21) lf 20 R
abbrev idz21 : Nat := 99
def Rz21_in (lf : Nat) (x1 : DVal) (x2 : Int) : Option Rtz21 := (cond (ieqI x1.1 (Int.ofNat 1)) (cond (Bool.not (iltI x1.2 (Int.negSucc 1099511627775))) (some ((Bool.not (iltI (Int.ofNat 1099511627776) x1.2)), ())) (some (Bool.false, ()))) (cond (ieqI x1.1 (Int.ofNat 2)) (cond (Bool.not (iltI x1.2 (Int.ofNat 0))) (some ((Bool.not (iltI (Int.ofNat 1) x1.2)), ())) (some (Bool.false, ()))) (cond (ieqI x1.1 (Int.ofNat 3)) (some ((ieqI x1.2 (Int.ofNat 0)), ())) (cond (ieqI x1.1 (Int.ofNat 4)) (cond (Bool.not (iltI x1.2 (Int.ofNat 0))) (some ((Bool.not (iltI (IntKind.i64.wrap (Int.sub x2 (Int.ofNat 1))) x1.2)), ())) (some (Bool.false, ()))) (some (Bool.false, ()))))))
abbrev gz21 : Type := ElA [cVal, (.int .i64)] → Option Rtz21
abbrev sz21 (g : gz21) : Sm := ⟨[cVal, (.int .i64)], [(false, .bool)], g⟩
abbrev Ez21 (g : gz21) (J : JT Rtz21) (lf : Nat) (x1 : DVal) (x2 : Int) := icodeT Try.prog ttT.get nmz21 fi99.nt (clz21 _ lf) lf stz21 J fi99.body [] (argGo (argV [cVal, (.int .i64)] (x1, x2, ())) 0 .leaf) S0 [] (lastK ttT.get fi99 (sz21 g))
theorem inz21 (g : gz21) (J : JT Rtz21) (lf : Nat) (x1 : DVal) (x2 : Int) : Ez21 g J lf x1 x2 = Rz21_in lf x1 x2 := by kernel_rfl
theorem ndz21 : (regs fi99.body).Nodup := by decide +kernel
theorem okz21 : okC nmz21 stz21 hdz21 fi99.body none = true := by kernel_rfl
def Az21 (g : gz21) (lf : Nat) : JT Rtz21 := atN Try.prog ttT.get nmz21 fi99 (sz21 g) (clz21 _ lf) lf hdz21
def Fz21 (lf : Nat) (x1 : DVal) (x2 : Int) : Option Rtz21 := Rz21_in lf x1 x2
theorem runz21 (g : gz21) (lf : Nat) (x1 : DVal) (x2 : Int) : Ez21 g (Az21 g lf) lf x1 x2 = Fz21 lf x1 x2 := by
   refine (inz21 g (Az21 g lf) lf x1 x2).trans ?_
   rfl
theorem hxsz21 : HxsOK Try.prog hxlz21 := trivial
theorem mkz21 {g : gz21} (hsm : SmOK Try.prog smlz21) (hg : ∀ (x : ElA [cVal, (.int .i64)]) (y : Rtz21), WfA [cVal, (.int .i64)] x → g x = some y → ∃ lf, Fz21 lf x.1 x.2.1 = some y) : Con Try.prog 99 ⟨[cVal, (.int .i64)], [(false, .bool)], g⟩ :=
 conT (nmf := nmz21) (sml := smlz21) (hxl := hxlz21) (st := stz21) (hd := hdz21) 20 mixed ttOK ftOK hsm hxsz21 cal99 rfl rfl (by kernel_rfl) (fun x => by kernel_rfl) ndz21 okz21 fun x y hx hy => by
   obtain ⟨lf, h⟩ := hg x y hx hy
   exact ⟨lf, (runz21 g lf x.1 x.2.1).trans h⟩
def nmz22 : Nat → Option Nm := fun k => cond (Nat.beq k 5) (some ⟨[1, 3, 4], [], [], [], [], 0, 0, false⟩) (cond (Nat.beq k 10) (some ⟨[1, 3, 5], [], [], [], [], 0, 0, false⟩) (cond (Nat.beq k 13) (some ⟨[1, 3, 5, 6], [], [], [], [], 0, 0, false⟩) (cond (Nat.beq k 19) (some ⟨[1, 3, 8], [], [], [], [], 0, 0, false⟩) (none))))
def stz22 : Nat → Bool := fun k => cond (Nat.beq k 5) true (cond (Nat.beq k 10) true (cond (Nat.beq k 13) true (cond (Nat.beq k 19) true (false))))
def hdz22 := stz22
abbrev Rtz22 : Type := Int × Unit
def smlz22 : List (Nat × Sm) := [(99, spz21)]
def hxlz22 : List (Nat × Hx) := []
def clz22 (R : Type) (lf : Nat) : ClK R := icallK Try.prog ttT.get ftT.get (nm1 60 nmz22) (smL smlz22) (hxL hxlz22) lf 20 R
abbrev idz22 : Nat := 60
def encz22_5 (x1 : DGraph) (p : Int) : NRes := (NRes.mk (.node none (.node (some (IV.ptr 0 0)) (.node (some (IV.int .i64 (Int.ofNat (List.length x1.1)))) .leaf .leaf) .leaf) (.node none (.node (some (IV.int .i64 p)) .leaf .leaf) .leaf)) (IS.mk (.node (some (IObj.row (List.cons (IV.lst cNode x1.1) (List.cons (IV.lst cVal x1.2) [])))) .leaf .leaf) 1) [] 0)
def encz22_10 (x1 : DGraph) (p : Int) : NRes := (NRes.mk (.node none (.node (some (IV.ptr 0 0)) (.node (some (IV.int .i64 (Int.ofNat (List.length x1.1)))) .leaf .leaf) (.node (some (IV.int .i64 p)) .leaf .leaf)) .leaf) (IS.mk (.node (some (IObj.row (List.cons (IV.lst cNode x1.1) (List.cons (IV.lst cVal x1.2) [])))) .leaf .leaf) 1) [] 0)
def encz22_13 (x1 : DGraph) (p : Int × Int) : NRes := (NRes.mk (.node none (.node (some (IV.ptr 0 0)) (.node (some (IV.int .i64 (Int.ofNat (List.length x1.1)))) .leaf .leaf) (.node (some (IV.int .i64 p.2)) .leaf .leaf)) (.node none .leaf (.node (some (IV.int .i64 p.1)) .leaf .leaf))) (IS.mk (.node (some (IObj.row (List.cons (IV.lst cNode x1.1) (List.cons (IV.lst cVal x1.2) [])))) .leaf .leaf) 1) [] 0)
def encz22_19 (x1 : DGraph) (p : Int) : NRes := (NRes.mk (.node none (.node (some (IV.ptr 0 0)) (.node (some (IV.int .i64 (Int.ofNat (List.length x1.1)))) .leaf .leaf) .leaf) (.node none (.node none (.node (some (IV.int .i64 p)) .leaf .leaf) .leaf) .leaf)) (IS.mk (.node (some (IObj.row (List.cons (IV.lst cNode x1.1) (List.cons (IV.lst cVal x1.2) [])))) .leaf .leaf) 1) [] 0)
def Rz22_in (lf : Nat) (x1 : DGraph) (L5 : Int → Option Rtz22) : Option Rtz22 := (cond (iltI (Int.ofNat 400) (Int.ofNat (List.length x1.1))) (some ((Int.ofNat 3), ())) (cond (iltI (Int.ofNat 60) (Int.ofNat (List.length x1.2))) (some ((Int.ofNat 3), ())) (L5 (Int.ofNat 0))))
def Rz22_5 (lf : Nat) (x1 : DGraph) (L5 : Int → Option Rtz22) (L10 : Int → Option Rtz22) (p : Int) : Option Rtz22 := (cond (iltI p (Int.ofNat (List.length x1.1))) (match (jget x1.1 p) with | .none  => none | .some v0 => (cond (iltI (Int.ofNat 30) (Int.ofNat (List.length v0.2))) (some ((Int.ofNat 3), ())) (L5 (IntKind.i64.wrap (Int.add p (Int.ofNat 1)))))) (L10 (Int.ofNat 0)))
def Rz22_10 (lf : Nat) (x1 : DGraph) (L13 : (Int × Int) → Option Rtz22) (L19 : Int → Option Rtz22) (p : Int) : Option Rtz22 := (cond (iltI p (Int.ofNat (List.length x1.1))) (L13 ((Int.ofNat 0), p)) (L19 (Int.ofNat 0)))
def Rz22_13 (lf : Nat) (x1 : DGraph) (L13 : (Int × Int) → Option Rtz22) (L10 : Int → Option Rtz22) (p : Int × Int) : Option Rtz22 := (match (jget x1.1 p.2) with | .none  => none | .some v0 => (cond (iltI p.1 (Int.ofNat (List.length v0.2))) (match (jget x1.1 p.2) with | .none  => none | .some v1 => (match (jget v1.2 p.1) with | .none  => none | .some v2 => (cond (Bool.not (S.value (v2.1, v2.2) (Int.ofNat (List.length x1.1)))) (some ((Int.ofNat 2), ())) (L13 ((IntKind.i64.wrap (Int.add p.1 (Int.ofNat 1))), p.2))))) (L10 (IntKind.i64.wrap (Int.add p.2 (Int.ofNat 1))))))
def Rz22_19 (lf : Nat) (x1 : DGraph) (L19 : Int → Option Rtz22) (p : Int) : Option Rtz22 := (cond (iltI p (Int.ofNat (List.length x1.2))) (match (jget x1.2 p) with | .none  => none | .some v0 => (cond (Bool.not (S.value (v0.1, v0.2) (Int.ofNat (List.length x1.1)))) (some ((Int.ofNat 2), ())) (match (jget x1.2 p) with | .none  => none | .some v1 => (cond (Bool.not (ieqI v1.1 (Int.ofNat 3))) (match (jget x1.2 p) with | .none  => none | .some v2 => (cond (Bool.not (ieqI v2.1 (Int.ofNat 4))) (some ((Int.ofNat 2), ())) (L19 (IntKind.i64.wrap (Int.add p (Int.ofNat 1)))))) (L19 (IntKind.i64.wrap (Int.add p (Int.ofNat 1)))))))) (some ((Int.ofNat 0), ())))
abbrev gz22 : Type := ElA [cGraph] → Option Rtz22
abbrev sz22 (g : gz22) : Sm := ⟨[cGraph], [(false, (.int .i64))], g⟩
abbrev Ez22 (g : gz22) (J : JT Rtz22) (lf : Nat) (x1 : DGraph) := icodeT Try.prog ttT.get nmz22 fi60.nt (clz22 _ lf) lf stz22 J fi60.body [] (argGo (argV [cGraph] (x1, ())) 0 .leaf) S0 [] (lastK ttT.get fi60 (sz22 g))
abbrev Bz22 (g : gz22) (J : JT Rtz22) (lf k : Nat) (ms : List Nat) (q : NRes) := icodeFT Try.prog ttT.get nmz22 fi60.nt (clz22 _ lf) lf stz22 J k fi60.body [] ms q (lastK ttT.get fi60 (sz22 g))
theorem inz22 (g : gz22) (J : JT Rtz22) (lf : Nat) (x1 : DGraph) : Ez22 g J lf x1 = Rz22_in lf x1 (fun q => J 5 [lf] (encz22_5 x1 q)) := by kernel_rfl
theorem stz22_5 (g : gz22) (J : JT Rtz22) (lf : Nat) (x1 : DGraph) (m1 : Nat) (p : Int) : Bz22 g J lf 5 [m1] (encz22_5 x1 p) = Rz22_5 lf x1 (fun q => J 5 [m1] (encz22_5 x1 q)) (fun q => J 10 [lf] (encz22_10 x1 q)) p := by kernel_rfl
theorem stz22_10 (g : gz22) (J : JT Rtz22) (lf : Nat) (x1 : DGraph) (m1 : Nat) (p : Int) : Bz22 g J lf 10 [m1] (encz22_10 x1 p) = Rz22_10 lf x1 (fun q => J 13 [m1, lf] (encz22_13 x1 q)) (fun q => J 19 [lf] (encz22_19 x1 q)) p := by kernel_rfl
theorem stz22_13 (g : gz22) (J : JT Rtz22) (lf : Nat) (x1 : DGraph) (m1 : Nat) (m2 : Nat) (p : Int × Int) : Bz22 g J lf 13 [m1, m2] (encz22_13 x1 p) = Rz22_13 lf x1 (fun q => J 13 [m1, m2] (encz22_13 x1 q)) (fun q => J 10 [m1] (encz22_10 x1 q)) p := by kernel_rfl
theorem stz22_19 (g : gz22) (J : JT Rtz22) (lf : Nat) (x1 : DGraph) (m1 : Nat) (p : Int) : Bz22 g J lf 19 [m1] (encz22_19 x1 p) = Rz22_19 lf x1 (fun q => J 19 [m1] (encz22_19 x1 q)) p := by kernel_rfl
theorem ndz22 : (regs fi60.body).Nodup := by decide +kernel
theorem okz22 : okC nmz22 stz22 hdz22 fi60.body none = true := by kernel_rfl
def Az22 (g : gz22) (lf : Nat) : JT Rtz22 := atN Try.prog ttT.get nmz22 fi60 (sz22 g) (clz22 _ lf) lf hdz22
def Gz22_13 (lf : Nat) (x1 : DGraph) (K10 : Int → Option Rtz22) : Nat → (Int × Int) → Option Rtz22 := rounds fun K p => Rz22_13 lf x1 K K10 p
theorem atz22_13 (g : gz22) (lf : Nat) (x1 : DGraph) (m1 : Nat) : ∀ (n : Nat) (p : Int × Int), Az22 g lf 13 [m1, n] (encz22_13 x1 p) = Gz22_13 lf x1 (fun q => Az22 g lf 10 [m1] (encz22_10 x1 q)) n p
 | 0, p => atz 13 [m1, 0] rfl _
 | n + 1, p => by
   have ih := atz22_13 g lf x1 m1 n
   refine (atN_eq (iKe 20 _) ndz22 okz22 13 [m1, n + 1] [m1, n] rfl _).trans ((stz22_13 g (Az22 g lf) lf x1 m1 n p).trans ?_)
   rw [(show (fun q => Az22 g lf 13 [m1, n] (encz22_13 x1 q)) = (fun q => Gz22_13 lf x1 (fun q => Az22 g lf 10 [m1] (encz22_10 x1 q)) n q) from funext ih)]
   rfl
def Gz22_19 (lf : Nat) (x1 : DGraph) : Nat → (Int) → Option Rtz22 := rounds fun K p => Rz22_19 lf x1 K p
theorem atz22_19 (g : gz22) (lf : Nat) (x1 : DGraph) : ∀ (n : Nat) (p : Int), Az22 g lf 19 [n] (encz22_19 x1 p) = Gz22_19 lf x1 n p
 | 0, p => atz 19 [0] rfl _
 | n + 1, p => by
   have ih := atz22_19 g lf x1 n
   refine (atN_eq (iKe 20 _) ndz22 okz22 19 [n + 1] [n] rfl _).trans ((stz22_19 g (Az22 g lf) lf x1 n p).trans ?_)
   rw [(show (fun q => Az22 g lf 19 [n] (encz22_19 x1 q)) = (fun q => Gz22_19 lf x1 n q) from funext ih)]
   rfl
def Gz22_10 (lf : Nat) (x1 : DGraph) : Nat → (Int) → Option Rtz22 := rounds fun K p => Rz22_10 lf x1 (fun q => Gz22_13 lf x1 K lf q) (fun q => Gz22_19 lf x1 lf q) p
theorem atz22_10 (g : gz22) (lf : Nat) (x1 : DGraph) : ∀ (n : Nat) (p : Int), Az22 g lf 10 [n] (encz22_10 x1 p) = Gz22_10 lf x1 n p
 | 0, p => atz 10 [0] rfl _
 | n + 1, p => by
   have ih := atz22_10 g lf x1 n
   refine (atN_eq (iKe 20 _) ndz22 okz22 10 [n + 1] [n] rfl _).trans ((stz22_10 g (Az22 g lf) lf x1 n p).trans ?_)
   rw [(show (fun q => Az22 g lf 13 [n, lf] (encz22_13 x1 q)) = (fun q => Gz22_13 lf x1 (fun q => Az22 g lf 10 [n] (encz22_10 x1 q)) lf q) from funext fun q => atz22_13 g lf x1 n lf q), (show (fun q => Az22 g lf 19 [lf] (encz22_19 x1 q)) = (fun q => Gz22_19 lf x1 lf q) from funext fun q => atz22_19 g lf x1 lf q), (show (fun q => Az22 g lf 10 [n] (encz22_10 x1 q)) = (fun q => Gz22_10 lf x1 n q) from funext ih)]
   rfl
def Gz22_5 (lf : Nat) (x1 : DGraph) : Nat → (Int) → Option Rtz22 := rounds fun K p => Rz22_5 lf x1 K (fun q => Gz22_10 lf x1 lf q) p
theorem atz22_5 (g : gz22) (lf : Nat) (x1 : DGraph) : ∀ (n : Nat) (p : Int), Az22 g lf 5 [n] (encz22_5 x1 p) = Gz22_5 lf x1 n p
 | 0, p => atz 5 [0] rfl _
 | n + 1, p => by
   have ih := atz22_5 g lf x1 n
   refine (atN_eq (iKe 20 _) ndz22 okz22 5 [n + 1] [n] rfl _).trans ((stz22_5 g (Az22 g lf) lf x1 n p).trans ?_)
   rw [(show (fun q => Az22 g lf 10 [lf] (encz22_10 x1 q)) = (fun q => Gz22_10 lf x1 lf q) from funext fun q => atz22_10 g lf x1 lf q), (show (fun q => Az22 g lf 5 [n] (encz22_5 x1 q)) = (fun q => Gz22_5 lf x1 n q) from funext ih)]
   rfl
def Fz22 (lf : Nat) (x1 : DGraph) : Option Rtz22 := Rz22_in lf x1 (fun q => Gz22_5 lf x1 lf q)
theorem runz22 (g : gz22) (lf : Nat) (x1 : DGraph) : Ez22 g (Az22 g lf) lf x1 = Fz22 lf x1 := by
   refine (inz22 g (Az22 g lf) lf x1).trans ?_
   rw [(show (fun q => Az22 g lf 5 [lf] (encz22_5 x1 q)) = (fun q => Gz22_5 lf x1 lf q) from funext fun q => atz22_5 g lf x1 lf q)]
   rfl
theorem hxsz22 : HxsOK Try.prog hxlz22 := trivial
theorem mkz22 {g : gz22} (hsm : SmOK Try.prog smlz22) (hg : ∀ (x : ElA [cGraph]) (y : Rtz22), WfA [cGraph] x → g x = some y → ∃ lf, Fz22 lf x.1 = some y) : Con Try.prog 60 ⟨[cGraph], [(false, (.int .i64))], g⟩ :=
 conT (nmf := nmz22) (sml := smlz22) (hxl := hxlz22) (st := stz22) (hd := hdz22) 20 mixed ttOK ftOK hsm hxsz22 cal60 rfl rfl (by kernel_rfl) (fun x => by kernel_rfl) ndz22 okz22 fun x y hx hy => by
   obtain ⟨lf, h⟩ := hg x y hx hy
   exact ⟨lf, (runz22 g lf x.1).trans h⟩
def nmz23 : Nat → Option Nm := fun k => none
def stz23 : Nat → Bool := fun k => false
def hdz23 := stz23
abbrev Rtz23 : Type := Bool × Unit
def smlz23 : List (Nat × Sm) := []
def hxlz23 : List (Nat × Hx) := []
def clz23 (R : Type) (lf : Nat) : ClK R := icallK Try.prog ttT.get ftT.get (nm1 61 nmz23) (smL smlz23) (hxL hxlz23) lf 20 R
abbrev idz23 : Nat := 61
def Rz23_in (lf : Nat) (x1 : DCol) (x2 : DVal) (x3 : DGraph) : Option Rtz23 := (cond (ieqI x1.2.1 (Int.ofNat 1)) (some ((ieqI x2.1 (Int.ofNat 1)), ())) (cond (ieqI x1.2.1 (Int.ofNat 2)) (some ((ieqI x2.1 (Int.ofNat 2)), ())) (cond (ieqI x2.1 (Int.ofNat 3)) (some (Bool.true, ())) (cond (ieqI x2.1 (Int.ofNat 4)) (cond (keqS x1.2.2 (S.lit [65, 78, 89])) (some (Bool.true, ())) (match (jget x3.1 (imax (Int.ofNat 0) x2.2)) with | .none  => none | .some v0 => (some ((keqS v0.1 x1.2.2), ())))) (some (Bool.false, ()))))))
abbrev gz23 : Type := ElA [cCol, cVal, cGraph] → Option Rtz23
abbrev sz23 (g : gz23) : Sm := ⟨[cCol, cVal, cGraph], [(false, .bool)], g⟩
abbrev Ez23 (g : gz23) (J : JT Rtz23) (lf : Nat) (x1 : DCol) (x2 : DVal) (x3 : DGraph) := icodeT Try.prog ttT.get nmz23 fi61.nt (clz23 _ lf) lf stz23 J fi61.body [] (argGo (argV [cCol, cVal, cGraph] (x1, x2, x3, ())) 0 .leaf) S0 [] (lastK ttT.get fi61 (sz23 g))
theorem inz23 (g : gz23) (J : JT Rtz23) (lf : Nat) (x1 : DCol) (x2 : DVal) (x3 : DGraph) : Ez23 g J lf x1 x2 x3 = Rz23_in lf x1 x2 x3 := by kernel_rfl
theorem ndz23 : (regs fi61.body).Nodup := by decide +kernel
theorem okz23 : okC nmz23 stz23 hdz23 fi61.body none = true := by kernel_rfl
def Az23 (g : gz23) (lf : Nat) : JT Rtz23 := atN Try.prog ttT.get nmz23 fi61 (sz23 g) (clz23 _ lf) lf hdz23
def Fz23 (lf : Nat) (x1 : DCol) (x2 : DVal) (x3 : DGraph) : Option Rtz23 := Rz23_in lf x1 x2 x3
theorem runz23 (g : gz23) (lf : Nat) (x1 : DCol) (x2 : DVal) (x3 : DGraph) : Ez23 g (Az23 g lf) lf x1 x2 x3 = Fz23 lf x1 x2 x3 := by
   refine (inz23 g (Az23 g lf) lf x1 x2 x3).trans ?_
   rfl
theorem hxsz23 : HxsOK Try.prog hxlz23 := trivial
theorem mkz23 {g : gz23} (hsm : SmOK Try.prog smlz23) (hg : ∀ (x : ElA [cCol, cVal, cGraph]) (y : Rtz23), WfA [cCol, cVal, cGraph] x → g x = some y → ∃ lf, Fz23 lf x.1 x.2.1 x.2.2.1 = some y) : Con Try.prog 61 ⟨[cCol, cVal, cGraph], [(false, .bool)], g⟩ :=
 conT (nmf := nmz23) (sml := smlz23) (hxl := hxlz23) (st := stz23) (hd := hdz23) 20 mixed ttOK ftOK hsm hxsz23 cal61 rfl rfl (by kernel_rfl) (fun x => by kernel_rfl) ndz23 okz23 fun x y hx hy => by
   obtain ⟨lf, h⟩ := hg x y hx hy
   exact ⟨lf, (runz23 g lf x.1 x.2.1 x.2.2.1).trans h⟩
def nmz24 : Nat → Option Nm := fun k => cond (Nat.beq k 4) (some ⟨[0, 3], [], [], [], [], 0, 0, false⟩) (cond (Nat.beq k 14) (some ⟨[0, 3, 5], [], [], [], [], 0, 0, false⟩) (cond (Nat.beq k 25) (some ⟨[0, 8], [], [], [], [], 0, 0, false⟩) (cond (Nat.beq k 28) (some ⟨[0, 8, 9], [], [], [], [], 0, 0, false⟩) (none))))
def stz24 : Nat → Bool := fun k => cond (Nat.beq k 4) true (cond (Nat.beq k 14) true (cond (Nat.beq k 25) true (cond (Nat.beq k 28) true (false))))
def hdz24 := stz24
abbrev Rtz24 : Type := Int × Unit
def smlz24 : List (Nat × Sm) := [(54, spz30), (56, spz18), (55, spz19), (57, spz20)]
def hxlz24 : List (Nat × Hx) := []
def clz24 (R : Type) (lf : Nat) : ClK R := icallK Try.prog ttT.get ftT.get (nm1 17 nmz24) (smL smlz24) (hxL hxlz24) lf 20 R
abbrev idz24 : Nat := 17
def encz24_4 (x1 : (List DForm)) (p : Int) : NRes := (NRes.mk (.node (some (IV.lst cForm x1)) (.node none (.node (some (IV.int .i64 p)) .leaf .leaf) .leaf) .leaf) (IS.mk .leaf 0) [] 0)
def encz24_14 (x1 : (List DForm)) (p : Int × Int) : NRes := (NRes.mk (.node (some (IV.lst cForm x1)) (.node none (.node (some (IV.int .i64 p.2)) .leaf .leaf) (.node (some (IV.int .i64 p.1)) .leaf .leaf)) .leaf) (IS.mk .leaf 0) [] 0)
def encz24_25 (x1 : (List DForm)) (p : Int) : NRes := (NRes.mk (.node (some (IV.lst cForm x1)) .leaf (.node none (.node none (.node (some (IV.int .i64 p)) .leaf .leaf) .leaf) .leaf)) (IS.mk .leaf 0) [] 0)
def encz24_28 (x1 : (List DForm)) (p : Int × Int) : NRes := (NRes.mk (.node (some (IV.lst cForm x1)) (.node none .leaf (.node none (.node (some (IV.int .i64 p.1)) .leaf .leaf) .leaf)) (.node none (.node none (.node (some (IV.int .i64 p.2)) .leaf .leaf) .leaf) .leaf)) (IS.mk .leaf 0) [] 0)
def Rz24_in (lf : Nat) (x1 : (List DForm)) (L4 : Int → Option Rtz24) : Option Rtz24 := (cond (iltI (Int.ofNat 24) (Int.ofNat (List.length x1))) (some ((Int.ofNat 3), ())) (L4 (Int.ofNat 0)))
def Rz24_4 (lf : Nat) (x1 : (List DForm)) (L14 : (Int × Int) → Option Rtz24) (L25 : Int → Option Rtz24) (p : Int) : Option Rtz24 := (cond (iltI p (Int.ofNat (List.length x1))) (match (jget x1 p) with | .none  => none | .some v0 => (cond (Bool.not (S.class_ v0.1)) (some ((Int.ofNat 4), ())) (match (jget x1 p) with | .none  => none | .some v1 => (cond (iltI (S.form x1 v1.1) p) (some ((Int.ofNat 6), ())) (match (jget x1 p) with | .none  => none | .some v2 => (cond (iltI (Int.ofNat 30) (Int.ofNat (List.length v2.2))) (some ((Int.ofNat 3), ())) (L14 ((Int.ofNat 0), p)))))))) (L25 (Int.ofNat 0)))
def Rz24_14 (lf : Nat) (x1 : (List DForm)) (L14 : (Int × Int) → Option Rtz24) (L4 : Int → Option Rtz24) (p : Int × Int) : Option Rtz24 := (match (jget x1 p.2) with | .none  => none | .some v0 => (cond (iltI p.1 (Int.ofNat (List.length v0.2))) (match (jget x1 p.2) with | .none  => none | .some v1 => (match (jget v1.2 p.1) with | .none  => none | .some v2 => (cond (Bool.not (S.small v2.1)) (some ((Int.ofNat 4), ())) (match (jget x1 p.2) with | .none  => none | .some v3 => (cond (iltI (S.col v3.2 v2.1) p.1) (some ((Int.ofNat 6), ())) (cond (Bool.not (iltI v2.2.1 (Int.ofNat 1))) (cond (Bool.not (Bool.not (iltI (Int.ofNat 3) v2.2.1))) (some ((Int.ofNat 1), ())) (cond (Bool.not (ieqI v2.2.1 (Int.ofNat 3))) (cond (Bool.not (keqS v2.2.2 (S.lit []))) (some ((Int.ofNat 1), ())) (L14 ((IntKind.i64.wrap (Int.add p.1 (Int.ofNat 1))), p.2))) (L14 ((IntKind.i64.wrap (Int.add p.1 (Int.ofNat 1))), p.2)))) (some ((Int.ofNat 1), ())))))))) (L4 (IntKind.i64.wrap (Int.add p.2 (Int.ofNat 1))))))
def Rz24_25 (lf : Nat) (x1 : (List DForm)) (L28 : (Int × Int) → Option Rtz24) (p : Int) : Option Rtz24 := (cond (iltI p (Int.ofNat (List.length x1))) (L28 ((Int.ofNat 0), p)) (some ((Int.ofNat 0), ())))
def Rz24_28 (lf : Nat) (x1 : (List DForm)) (L28 : (Int × Int) → Option Rtz24) (L25 : Int → Option Rtz24) (p : Int × Int) : Option Rtz24 := (match (jget x1 p.2) with | .none  => none | .some v0 => (cond (iltI p.1 (Int.ofNat (List.length v0.2))) (match (jget x1 p.2) with | .none  => none | .some v1 => (match (jget v1.2 p.1) with | .none  => none | .some v2 => (cond (ieqI v2.2.1 (Int.ofNat 3)) (cond (Bool.not (keqS v2.2.2 (S.lit [65, 78, 89]))) (cond (iltI (S.form x1 v2.2.2) (Int.ofNat 0)) (some ((Int.ofNat 5), ())) (L28 ((IntKind.i64.wrap (Int.add p.1 (Int.ofNat 1))), p.2))) (L28 ((IntKind.i64.wrap (Int.add p.1 (Int.ofNat 1))), p.2))) (L28 ((IntKind.i64.wrap (Int.add p.1 (Int.ofNat 1))), p.2))))) (L25 (IntKind.i64.wrap (Int.add p.2 (Int.ofNat 1))))))
abbrev gz24 : Type := ElA [(.list cForm)] → Option Rtz24
abbrev sz24 (g : gz24) : Sm := ⟨[(.list cForm)], [(false, (.int .i64))], g⟩
abbrev Ez24 (g : gz24) (J : JT Rtz24) (lf : Nat) (x1 : (List DForm)) := icodeT Try.prog ttT.get nmz24 fi17.nt (clz24 _ lf) lf stz24 J fi17.body [] (argGo (argV [(.list cForm)] (x1, ())) 0 .leaf) S0 [] (lastK ttT.get fi17 (sz24 g))
abbrev Bz24 (g : gz24) (J : JT Rtz24) (lf k : Nat) (ms : List Nat) (q : NRes) := icodeFT Try.prog ttT.get nmz24 fi17.nt (clz24 _ lf) lf stz24 J k fi17.body [] ms q (lastK ttT.get fi17 (sz24 g))
theorem inz24 (g : gz24) (J : JT Rtz24) (lf : Nat) (x1 : (List DForm)) : Ez24 g J lf x1 = Rz24_in lf x1 (fun q => J 4 [lf] (encz24_4 x1 q)) := by kernel_rfl
theorem stz24_4 (g : gz24) (J : JT Rtz24) (lf : Nat) (x1 : (List DForm)) (m1 : Nat) (p : Int) : Bz24 g J lf 4 [m1] (encz24_4 x1 p) = Rz24_4 lf x1 (fun q => J 14 [m1, lf] (encz24_14 x1 q)) (fun q => J 25 [lf] (encz24_25 x1 q)) p := by kernel_rfl
theorem stz24_14 (g : gz24) (J : JT Rtz24) (lf : Nat) (x1 : (List DForm)) (m1 : Nat) (m2 : Nat) (p : Int × Int) : Bz24 g J lf 14 [m1, m2] (encz24_14 x1 p) = Rz24_14 lf x1 (fun q => J 14 [m1, m2] (encz24_14 x1 q)) (fun q => J 4 [m1] (encz24_4 x1 q)) p := by kernel_rfl
theorem stz24_25 (g : gz24) (J : JT Rtz24) (lf : Nat) (x1 : (List DForm)) (m1 : Nat) (p : Int) : Bz24 g J lf 25 [m1] (encz24_25 x1 p) = Rz24_25 lf x1 (fun q => J 28 [m1, lf] (encz24_28 x1 q)) p := by kernel_rfl
theorem stz24_28 (g : gz24) (J : JT Rtz24) (lf : Nat) (x1 : (List DForm)) (m1 : Nat) (m2 : Nat) (p : Int × Int) : Bz24 g J lf 28 [m1, m2] (encz24_28 x1 p) = Rz24_28 lf x1 (fun q => J 28 [m1, m2] (encz24_28 x1 q)) (fun q => J 25 [m1] (encz24_25 x1 q)) p := by kernel_rfl
theorem ndz24 : (regs fi17.body).Nodup := by decide +kernel
theorem okz24 : okC nmz24 stz24 hdz24 fi17.body none = true := by kernel_rfl
def Az24 (g : gz24) (lf : Nat) : JT Rtz24 := atN Try.prog ttT.get nmz24 fi17 (sz24 g) (clz24 _ lf) lf hdz24
def Gz24_14 (lf : Nat) (x1 : (List DForm)) (K4 : Int → Option Rtz24) : Nat → (Int × Int) → Option Rtz24 := rounds fun K p => Rz24_14 lf x1 K K4 p
theorem atz24_14 (g : gz24) (lf : Nat) (x1 : (List DForm)) (m1 : Nat) : ∀ (n : Nat) (p : Int × Int), Az24 g lf 14 [m1, n] (encz24_14 x1 p) = Gz24_14 lf x1 (fun q => Az24 g lf 4 [m1] (encz24_4 x1 q)) n p
 | 0, p => atz 14 [m1, 0] rfl _
 | n + 1, p => by
   have ih := atz24_14 g lf x1 m1 n
   refine (atN_eq (iKe 20 _) ndz24 okz24 14 [m1, n + 1] [m1, n] rfl _).trans ((stz24_14 g (Az24 g lf) lf x1 m1 n p).trans ?_)
   rw [(show (fun q => Az24 g lf 14 [m1, n] (encz24_14 x1 q)) = (fun q => Gz24_14 lf x1 (fun q => Az24 g lf 4 [m1] (encz24_4 x1 q)) n q) from funext ih)]
   rfl
def Gz24_28 (lf : Nat) (x1 : (List DForm)) (K25 : Int → Option Rtz24) : Nat → (Int × Int) → Option Rtz24 := rounds fun K p => Rz24_28 lf x1 K K25 p
theorem atz24_28 (g : gz24) (lf : Nat) (x1 : (List DForm)) (m1 : Nat) : ∀ (n : Nat) (p : Int × Int), Az24 g lf 28 [m1, n] (encz24_28 x1 p) = Gz24_28 lf x1 (fun q => Az24 g lf 25 [m1] (encz24_25 x1 q)) n p
 | 0, p => atz 28 [m1, 0] rfl _
 | n + 1, p => by
   have ih := atz24_28 g lf x1 m1 n
   refine (atN_eq (iKe 20 _) ndz24 okz24 28 [m1, n + 1] [m1, n] rfl _).trans ((stz24_28 g (Az24 g lf) lf x1 m1 n p).trans ?_)
   rw [(show (fun q => Az24 g lf 28 [m1, n] (encz24_28 x1 q)) = (fun q => Gz24_28 lf x1 (fun q => Az24 g lf 25 [m1] (encz24_25 x1 q)) n q) from funext ih)]
   rfl
def Gz24_25 (lf : Nat) (x1 : (List DForm)) : Nat → (Int) → Option Rtz24 := rounds fun K p => Rz24_25 lf x1 (fun q => Gz24_28 lf x1 K lf q) p
theorem atz24_25 (g : gz24) (lf : Nat) (x1 : (List DForm)) : ∀ (n : Nat) (p : Int), Az24 g lf 25 [n] (encz24_25 x1 p) = Gz24_25 lf x1 n p
 | 0, p => atz 25 [0] rfl _
 | n + 1, p => by
   have ih := atz24_25 g lf x1 n
   refine (atN_eq (iKe 20 _) ndz24 okz24 25 [n + 1] [n] rfl _).trans ((stz24_25 g (Az24 g lf) lf x1 n p).trans ?_)
   rw [(show (fun q => Az24 g lf 28 [n, lf] (encz24_28 x1 q)) = (fun q => Gz24_28 lf x1 (fun q => Az24 g lf 25 [n] (encz24_25 x1 q)) lf q) from funext fun q => atz24_28 g lf x1 n lf q), (show (fun q => Az24 g lf 25 [n] (encz24_25 x1 q)) = (fun q => Gz24_25 lf x1 n q) from funext ih)]
   rfl
def Gz24_4 (lf : Nat) (x1 : (List DForm)) : Nat → (Int) → Option Rtz24 := rounds fun K p => Rz24_4 lf x1 (fun q => Gz24_14 lf x1 K lf q) (fun q => Gz24_25 lf x1 lf q) p
theorem atz24_4 (g : gz24) (lf : Nat) (x1 : (List DForm)) : ∀ (n : Nat) (p : Int), Az24 g lf 4 [n] (encz24_4 x1 p) = Gz24_4 lf x1 n p
 | 0, p => atz 4 [0] rfl _
 | n + 1, p => by
   have ih := atz24_4 g lf x1 n
   refine (atN_eq (iKe 20 _) ndz24 okz24 4 [n + 1] [n] rfl _).trans ((stz24_4 g (Az24 g lf) lf x1 n p).trans ?_)
   rw [(show (fun q => Az24 g lf 14 [n, lf] (encz24_14 x1 q)) = (fun q => Gz24_14 lf x1 (fun q => Az24 g lf 4 [n] (encz24_4 x1 q)) lf q) from funext fun q => atz24_14 g lf x1 n lf q), (show (fun q => Az24 g lf 25 [lf] (encz24_25 x1 q)) = (fun q => Gz24_25 lf x1 lf q) from funext fun q => atz24_25 g lf x1 lf q), (show (fun q => Az24 g lf 4 [n] (encz24_4 x1 q)) = (fun q => Gz24_4 lf x1 n q) from funext ih)]
   rfl
def Fz24 (lf : Nat) (x1 : (List DForm)) : Option Rtz24 := Rz24_in lf x1 (fun q => Gz24_4 lf x1 lf q)
theorem runz24 (g : gz24) (lf : Nat) (x1 : (List DForm)) : Ez24 g (Az24 g lf) lf x1 = Fz24 lf x1 := by
   refine (inz24 g (Az24 g lf) lf x1).trans ?_
   rw [(show (fun q => Az24 g lf 4 [lf] (encz24_4 x1 q)) = (fun q => Gz24_4 lf x1 lf q) from funext fun q => atz24_4 g lf x1 lf q)]
   rfl
theorem hxsz24 : HxsOK Try.prog hxlz24 := trivial
theorem mkz24 {g : gz24} (hsm : SmOK Try.prog smlz24) (hg : ∀ (x : ElA [(.list cForm)]) (y : Rtz24), WfA [(.list cForm)] x → g x = some y → ∃ lf, Fz24 lf x.1 = some y) : Con Try.prog 17 ⟨[(.list cForm)], [(false, (.int .i64))], g⟩ :=
 conT (nmf := nmz24) (sml := smlz24) (hxl := hxlz24) (st := stz24) (hd := hdz24) 20 mixed ttOK ftOK hsm hxsz24 cal17 rfl rfl (by kernel_rfl) (fun x => by kernel_rfl) ndz24 okz24 fun x y hx hy => by
   obtain ⟨lf, h⟩ := hg x y hx hy
   exact ⟨lf, (runz24 g lf x.1).trans h⟩
def nmz25 : Nat → Option Nm := fun k => cond (Nat.beq k 8) (some ⟨[0, 3, 6], [], [], [], [], 0, 0, false⟩) (cond (Nat.beq k 13) (some ⟨[0, 3, 7], [], [], [], [], 0, 0, false⟩) (cond (Nat.beq k 19) (some ⟨[0, 3, 7, 8, 9], [], [], [], [], 0, 0, false⟩) (none)))
def stz25 : Nat → Bool := fun k => cond (Nat.beq k 8) true (cond (Nat.beq k 13) true (cond (Nat.beq k 19) true (false)))
def hdz25 := stz25
abbrev Rtz25 : Type := Int × Unit
def smlz25 : List (Nat × Sm) := [(17, spz24), (60, spz22), (55, spz19), (61, spz23)]
def hxlz25 : List (Nat × Hx) := []
def clz25 (R : Type) (lf : Nat) : ClK R := icallK Try.prog ttT.get ftT.get (nm1 19 nmz25) (smL smlz25) (hxL hxlz25) lf 20 R
abbrev idz25 : Nat := 19
def encz25_8 (x1 : (List DForm)) (x2 : DGraph) (p : Int) : NRes := (NRes.mk (.node (some (IV.lst cForm x1)) (.node none (.node (some (IV.ptr 0 0)) .leaf .leaf) .leaf) (.node none .leaf (.node (some (IV.int .i64 p)) .leaf .leaf))) (IS.mk (.node (some (IObj.row (List.cons (IV.lst cNode x2.1) (List.cons (IV.lst cVal x2.2) [])))) .leaf .leaf) 1) [] 0)
def encz25_13 (x1 : (List DForm)) (x2 : DGraph) (p : Int) : NRes := (NRes.mk (.node (some (IV.lst cForm x1)) (.node none (.node (some (IV.ptr 0 0)) (.node (some (IV.int .i64 p)) .leaf .leaf) .leaf) .leaf) .leaf) (IS.mk (.node (some (IObj.row (List.cons (IV.lst cNode x2.1) (List.cons (IV.lst cVal x2.2) [])))) .leaf .leaf) 1) [] 0)
def encz25_19 (x1 : (List DForm)) (x2 : DGraph) (p : (List DCol) × ByteArray × Int × Int) : NRes := (NRes.mk (.node (some (IV.lst cForm x1)) (.node none (.node (some (IV.ptr 0 0)) (.node (some (IV.int .i64 p.2.2.2)) .leaf .leaf) .leaf) (.node none (.node (some (IV.int .i64 p.2.2.1)) .leaf .leaf) .leaf)) (.node none (.node none (.node (some (IV.ptr 1 0)) .leaf .leaf) .leaf) .leaf)) (IS.mk (.node (some (IObj.row (List.cons (IV.lst cNode x2.1) (List.cons (IV.lst cVal x2.2) [])))) (.node (some (IObj.row (List.cons (IV.str p.2.1) (List.cons (IV.lst cCol p.1) [])))) .leaf .leaf) .leaf) 2) [] 0)
def Rz25_in (lf : Nat) (x1 : (List DForm)) (x2 : DGraph) (L8 : Int → Option Rtz25) : Option Rtz25 := (cond (Bool.not (ieqI (S.checkForms x1) (Int.ofNat 0))) (some ((S.checkForms x1), ())) (cond (Bool.not (ieqI (S.formed (x2.1, x2.2)) (Int.ofNat 0))) (some ((S.formed (x2.1, x2.2)), ())) (L8 (Int.ofNat 0))))
def Rz25_8 (lf : Nat) (x1 : (List DForm)) (x2 : DGraph) (L8 : Int → Option Rtz25) (L13 : Int → Option Rtz25) (p : Int) : Option Rtz25 := (cond (iltI p (Int.ofNat (List.length x2.1))) (match (jget x2.1 p) with | .none  => none | .some v0 => (cond (iltI (S.form x1 v0.1) (Int.ofNat 0)) (some ((Int.ofNat 4), ())) (L8 (IntKind.i64.wrap (Int.add p (Int.ofNat 1)))))) (L13 (Int.ofNat 0)))
def Rz25_13 (lf : Nat) (x1 : (List DForm)) (x2 : DGraph) (L19 : ((List DCol) × ByteArray × Int × Int) → Option Rtz25) (p : Int) : Option Rtz25 := (cond (iltI p (Int.ofNat (List.length x2.1))) (match (jget x2.1 p) with | .none  => none | .some v0 => (match (jget x1 (S.form x1 v0.1)) with | .none  => none | .some v1 => (match (jget x2.1 p) with | .none  => none | .some v2 => (cond (Bool.not (ieqI (Int.ofNat (List.length v1.2)) (Int.ofNat (List.length v2.2)))) (some ((Int.ofNat 8), ())) (L19 (v1.2, v1.1, (Int.ofNat 0), p)))))) (some ((Int.ofNat 0), ())))
def Rz25_19 (lf : Nat) (x1 : (List DForm)) (x2 : DGraph) (L19 : ((List DCol) × ByteArray × Int × Int) → Option Rtz25) (L13 : Int → Option Rtz25) (p : (List DCol) × ByteArray × Int × Int) : Option Rtz25 := (cond (iltI p.2.2.1 (Int.ofNat (List.length p.1))) (match (jget p.1 p.2.2.1) with | .none  => none | .some v0 => (match (jget x2.1 p.2.2.2) with | .none  => none | .some v1 => (match (jget v1.2 p.2.2.1) with | .none  => none | .some v2 => (match (cond (S.refOK (x2.1, x2.2) (v2.1, v2.2)) (some ((S.suits (x2.1, x2.2) (v0.1, (v0.2.1, v0.2.2)) (v2.1, v2.2)), ())) none) with | .none  => none | .some v3 => (cond (Bool.not v3.1) (some ((Int.ofNat 8), ())) (L19 (p.1, p.2.1, (IntKind.i64.wrap (Int.add p.2.2.1 (Int.ofNat 1))), p.2.2.2))))))) (L13 (IntKind.i64.wrap (Int.add p.2.2.2 (Int.ofNat 1)))))
abbrev gz25 : Type := ElA [(.list cForm), cGraph] → Option Rtz25
abbrev sz25 (g : gz25) : Sm := ⟨[(.list cForm), cGraph], [(false, (.int .i64))], g⟩
abbrev Ez25 (g : gz25) (J : JT Rtz25) (lf : Nat) (x1 : (List DForm)) (x2 : DGraph) := icodeT Try.prog ttT.get nmz25 fi19.nt (clz25 _ lf) lf stz25 J fi19.body [] (argGo (argV [(.list cForm), cGraph] (x1, x2, ())) 0 .leaf) S0 [] (lastK ttT.get fi19 (sz25 g))
abbrev Bz25 (g : gz25) (J : JT Rtz25) (lf k : Nat) (ms : List Nat) (q : NRes) := icodeFT Try.prog ttT.get nmz25 fi19.nt (clz25 _ lf) lf stz25 J k fi19.body [] ms q (lastK ttT.get fi19 (sz25 g))
theorem inz25 (g : gz25) (J : JT Rtz25) (lf : Nat) (x1 : (List DForm)) (x2 : DGraph) : Ez25 g J lf x1 x2 = Rz25_in lf x1 x2 (fun q => J 8 [lf] (encz25_8 x1 x2 q)) := by kernel_rfl
theorem stz25_8 (g : gz25) (J : JT Rtz25) (lf : Nat) (x1 : (List DForm)) (x2 : DGraph) (m1 : Nat) (p : Int) : Bz25 g J lf 8 [m1] (encz25_8 x1 x2 p) = Rz25_8 lf x1 x2 (fun q => J 8 [m1] (encz25_8 x1 x2 q)) (fun q => J 13 [lf] (encz25_13 x1 x2 q)) p := by kernel_rfl
theorem stz25_13 (g : gz25) (J : JT Rtz25) (lf : Nat) (x1 : (List DForm)) (x2 : DGraph) (m1 : Nat) (p : Int) : Bz25 g J lf 13 [m1] (encz25_13 x1 x2 p) = Rz25_13 lf x1 x2 (fun q => J 19 [m1, lf] (encz25_19 x1 x2 q)) p := by kernel_rfl
theorem stz25_19 (g : gz25) (J : JT Rtz25) (lf : Nat) (x1 : (List DForm)) (x2 : DGraph) (m1 : Nat) (m2 : Nat) (p : (List DCol) × ByteArray × Int × Int) : Bz25 g J lf 19 [m1, m2] (encz25_19 x1 x2 p) = Rz25_19 lf x1 x2 (fun q => J 19 [m1, m2] (encz25_19 x1 x2 q)) (fun q => J 13 [m1] (encz25_13 x1 x2 q)) p := by kernel_rfl
theorem ndz25 : (regs fi19.body).Nodup := by decide +kernel
theorem okz25 : okC nmz25 stz25 hdz25 fi19.body none = true := by kernel_rfl
def Az25 (g : gz25) (lf : Nat) : JT Rtz25 := atN Try.prog ttT.get nmz25 fi19 (sz25 g) (clz25 _ lf) lf hdz25
def Gz25_19 (lf : Nat) (x1 : (List DForm)) (x2 : DGraph) (K13 : Int → Option Rtz25) : Nat → ((List DCol) × ByteArray × Int × Int) → Option Rtz25 := rounds fun K p => Rz25_19 lf x1 x2 K K13 p
theorem atz25_19 (g : gz25) (lf : Nat) (x1 : (List DForm)) (x2 : DGraph) (m1 : Nat) : ∀ (n : Nat) (p : (List DCol) × ByteArray × Int × Int), Az25 g lf 19 [m1, n] (encz25_19 x1 x2 p) = Gz25_19 lf x1 x2 (fun q => Az25 g lf 13 [m1] (encz25_13 x1 x2 q)) n p
 | 0, p => atz 19 [m1, 0] rfl _
 | n + 1, p => by
   have ih := atz25_19 g lf x1 x2 m1 n
   refine (atN_eq (iKe 20 _) ndz25 okz25 19 [m1, n + 1] [m1, n] rfl _).trans ((stz25_19 g (Az25 g lf) lf x1 x2 m1 n p).trans ?_)
   rw [(show (fun q => Az25 g lf 19 [m1, n] (encz25_19 x1 x2 q)) = (fun q => Gz25_19 lf x1 x2 (fun q => Az25 g lf 13 [m1] (encz25_13 x1 x2 q)) n q) from funext ih)]
   rfl
def Gz25_13 (lf : Nat) (x1 : (List DForm)) (x2 : DGraph) : Nat → (Int) → Option Rtz25 := rounds fun K p => Rz25_13 lf x1 x2 (fun q => Gz25_19 lf x1 x2 K lf q) p
theorem atz25_13 (g : gz25) (lf : Nat) (x1 : (List DForm)) (x2 : DGraph) : ∀ (n : Nat) (p : Int), Az25 g lf 13 [n] (encz25_13 x1 x2 p) = Gz25_13 lf x1 x2 n p
 | 0, p => atz 13 [0] rfl _
 | n + 1, p => by
   have ih := atz25_13 g lf x1 x2 n
   refine (atN_eq (iKe 20 _) ndz25 okz25 13 [n + 1] [n] rfl _).trans ((stz25_13 g (Az25 g lf) lf x1 x2 n p).trans ?_)
   rw [(show (fun q => Az25 g lf 19 [n, lf] (encz25_19 x1 x2 q)) = (fun q => Gz25_19 lf x1 x2 (fun q => Az25 g lf 13 [n] (encz25_13 x1 x2 q)) lf q) from funext fun q => atz25_19 g lf x1 x2 n lf q), (show (fun q => Az25 g lf 13 [n] (encz25_13 x1 x2 q)) = (fun q => Gz25_13 lf x1 x2 n q) from funext ih)]
   rfl
def Gz25_8 (lf : Nat) (x1 : (List DForm)) (x2 : DGraph) : Nat → (Int) → Option Rtz25 := rounds fun K p => Rz25_8 lf x1 x2 K (fun q => Gz25_13 lf x1 x2 lf q) p
theorem atz25_8 (g : gz25) (lf : Nat) (x1 : (List DForm)) (x2 : DGraph) : ∀ (n : Nat) (p : Int), Az25 g lf 8 [n] (encz25_8 x1 x2 p) = Gz25_8 lf x1 x2 n p
 | 0, p => atz 8 [0] rfl _
 | n + 1, p => by
   have ih := atz25_8 g lf x1 x2 n
   refine (atN_eq (iKe 20 _) ndz25 okz25 8 [n + 1] [n] rfl _).trans ((stz25_8 g (Az25 g lf) lf x1 x2 n p).trans ?_)
   rw [(show (fun q => Az25 g lf 13 [lf] (encz25_13 x1 x2 q)) = (fun q => Gz25_13 lf x1 x2 lf q) from funext fun q => atz25_13 g lf x1 x2 lf q), (show (fun q => Az25 g lf 8 [n] (encz25_8 x1 x2 q)) = (fun q => Gz25_8 lf x1 x2 n q) from funext ih)]
   rfl
def Fz25 (lf : Nat) (x1 : (List DForm)) (x2 : DGraph) : Option Rtz25 := Rz25_in lf x1 x2 (fun q => Gz25_8 lf x1 x2 lf q)
theorem runz25 (g : gz25) (lf : Nat) (x1 : (List DForm)) (x2 : DGraph) : Ez25 g (Az25 g lf) lf x1 x2 = Fz25 lf x1 x2 := by
   refine (inz25 g (Az25 g lf) lf x1 x2).trans ?_
   rw [(show (fun q => Az25 g lf 8 [lf] (encz25_8 x1 x2 q)) = (fun q => Gz25_8 lf x1 x2 lf q) from funext fun q => atz25_8 g lf x1 x2 lf q)]
   rfl
theorem hxsz25 : HxsOK Try.prog hxlz25 := trivial
theorem mkz25 {g : gz25} (hsm : SmOK Try.prog smlz25) (hg : ∀ (x : ElA [(.list cForm), cGraph]) (y : Rtz25), WfA [(.list cForm), cGraph] x → g x = some y → ∃ lf, Fz25 lf x.1 x.2.1 = some y) : Con Try.prog 19 ⟨[(.list cForm), cGraph], [(false, (.int .i64))], g⟩ :=
 conT (nmf := nmz25) (sml := smlz25) (hxl := hxlz25) (st := stz25) (hd := hdz25) 20 mixed ttOK ftOK hsm hxsz25 cal19 rfl rfl (by kernel_rfl) (fun x => by kernel_rfl) ndz25 okz25 fun x y hx hy => by
   obtain ⟨lf, h⟩ := hg x y hx hy
   exact ⟨lf, (runz25 g lf x.1 x.2.1).trans h⟩
theorem idx_go {α : Type} (p : α → Bool) (rest : List α) (i : Nat) (v : α) : (match (v :: rest).findIdx? p with | some j => Int.ofNat (i + j) | none => -1) = cond (p v) (Int.ofNat i) (match rest.findIdx? p with | some j => Int.ofNat (i + 1 + j) | none => -1) := by
 rw [List.findIdx?_cons]
 cases p v with
 | true => rfl
 | false =>
   simp only [cond_false]
   cases List.findIdx? p rest with
   | none => rfl
   | some j => exact congrArg Int.ofNat (show i + (j + 1) = i + 1 + j by omega)
theorem idx_at {α : Type} (p : α → Bool) (l : List α) : (match l.findIdx? p with | some j => Int.ofNat (0 + j) | none => -1) = S.idx p l := by
 unfold S.idx
 cases l.findIdx? p <;> simp
theorem Fz17_eq (l : List ByteArray) (s : ByteArray) (hl : l.length < LF) : Fz17 LF l s = some (S.has l s, ()) := by
 refine range1 (R := Rtz17) l (fun rest _ => some (S.has rest s, ())) hl (fun K => ?_) (fun K i v rest r h => ?_)
 · simp only [Rz17_2, ils, cond_false]; rfl
 · simp only [Rz17_2, r.ilt, r.get, r.next, h, cond_true]
   unfold S.has
   rw [List.any_cons]
   cases keqS v s <;> rfl
theorem conz17 : Con Try.prog idz17 spz17 := mkz17 trivial fun x y hx h => ⟨LF, (Fz17_eq _ _ (wf_len hx.1)).trans h⟩
theorem Fz19_eq (l : List DForm) (n : ByteArray) (hl : l.length < LF) : Fz19 LF l n = some (S.form l n, ()) := by
 refine (range1 (R := Rtz19) l (fun rest i => some ((match rest.findIdx? (fun f : DForm => keqS f.1 n) with | some j => Int.ofNat (i + j) | none => -1), ())) hl (fun K => ?_) (fun K i v rest r h => ?_)).trans ?_
 · simp only [Rz19_2, ils, cond_false]; rfl
 · rw [idx_go]
   simp only [Rz19_2, r.ilt, r.get, r.next, h, cond_true]
   cases keqS v.1 n <;> rfl
 · rw [idx_at]; rfl
theorem conz19 : Con Try.prog idz19 spz19 := mkz19 trivial fun x y hx h => ⟨LF, (Fz19_eq _ _ (wf_len hx.1)).trans h⟩
theorem Fz20_eq (f : DForm) (n : ByteArray) (hl : f.2.length < LF) : Fz20 LF f n = some (S.col f.2 n, ()) := by
 refine (range1 (R := Rtz20) f.2 (fun rest i => some ((match rest.findIdx? (fun f : DCol => keqS f.1 n) with | some j => Int.ofNat (i + j) | none => -1), ())) hl (fun K => ?_) (fun K i v rest r h => ?_)).trans ?_
 · simp only [Rz20_2, ils, cond_false]; rfl
 · rw [idx_go]
   simp only [Rz20_2, r.ilt, r.get, r.next, h, cond_true]
   cases keqS v.1 n <;> rfl
 · rw [idx_at]; rfl
theorem conz20 : Con Try.prog idz20 spz20 := mkz20 trivial fun x y hx h => ⟨LF, (Fz20_eq _ _ (wf_len hx.1.2)).trans h⟩
theorem within_tree (n lo hi : Int) : (cond (Bool.not (iltI n lo)) (some ((Bool.not (iltI hi n)), ())) (some (Bool.false, ())) : Option (Bool × Unit)) = some (S.within n lo hi, ()) := Fz1_eq 0 n lo hi
theorem Fz21_eq (lf : Nat) (v : DVal) (many : Int) : Fz21 lf v many = some (S.value v many, ()) := by
 simp only [Fz21, Rz21_in, S.value, ieqI_eq]
 simp only [within_tree]
 simp only [oL, oLn]
 by_cases h1 : v.1 = 1
 · simp [h1]
 by_cases h2 : v.1 = 2
 · simp [h2]
 by_cases h3 : v.1 = 3
 · simp [h3]
 by_cases h4 : v.1 = 4
 · simp [h4]
 · simp [h1, h2, h3, h4]
theorem conz21 : Con Try.prog idz21 spz21 := mkz21 trivial fun x y hx h => ⟨LF, (Fz21_eq _ _ _).trans h⟩
theorem rfm_third (g : DGraph) (hl : g.2.length < LF) : Gz22_19 LF g LF (Int.ofNat 0) = some ((if g.2.any (fun v => !S.value v (Int.ofNat g.1.length) || !S.refers v) then 2 else 0), ()) := by
 refine range1 (R := Rtz22) g.2 (fun rest i => some ((if rest.any (fun v => !S.value v (Int.ofNat g.1.length) || !S.refers v) then 2 else 0), ())) hl (fun K => ?_) (fun K i v rest r h => ?_)
 · simp only [Rz22_19, ils, cond_false]; rfl
 · have e2 : (v :: rest).any (fun v => !S.value v (Int.ofNat g.1.length) || !S.refers v) = ((!S.value v (Int.ofNat g.1.length) || !S.refers v) || rest.any (fun v => !S.value v (Int.ofNat g.1.length) || !S.refers v)) := rfl
   rw [e2]
   simp only [Rz22_19, r.ilt, r.get, r.next, h, cond_true, Prod.eta, ieqI_eq]
   simp only [oL]
   cases S.value v (Int.ofNat g.1.length) with
   | false => rfl
   | true =>
     by_cases h3 : v.1 = 3
     · have hr : S.refers v = true := by simp [S.refers, h3]
       rw [hr, decide_eq_true h3]; rfl
     rw [decide_eq_false h3]
     by_cases h4 : v.1 = 4
     · have hr : S.refers v = true := by simp [S.refers, h4]
       rw [hr, decide_eq_true h4]; rfl
     · have hr : S.refers v = false := by simp [S.refers, h3, h4]
       rw [hr, decide_eq_false h4]; rfl
theorem rfm_inner (g : DGraph) (K10 : Int → Option Rtz22) (i : Nat) (n : DNode) (hg : jget g.1 (Int.ofNat i) = some n) (hl : n.2.length < LF) :
   Gz22_13 LF g K10 LF (Int.ofNat 0, Int.ofNat i) = cond (n.2.any fun v => !S.value v (Int.ofNat g.1.length)) (some (2, ())) (K10 (IntKind.i64.wrap (Int.add (Int.ofNat i) (Int.ofNat 1)))) := by
 refine range0 (σ := Unit) (R := Rtz22) n.2 (fun k _ => (k, Int.ofNat i)) (fun _ _ => True) (fun rest k _ => cond (rest.any fun v => !S.value v (Int.ofNat g.1.length)) (some (2, ())) (K10 (IntKind.i64.wrap (Int.add (Int.ofNat i) (Int.ofNat 1))))) hl (fun K s _ => ?_) (fun K k v rest s _ r h => ?_) () trivial
 · simp only [Rz22_13, hg, ils, cond_false]; rfl
 · have h := h () trivial
   rw [List.any_cons]
   simp only [Rz22_13, hg, r.ilt, r.get, r.next, h, cond_true, Prod.eta]
   cases S.value v (Int.ofNat g.1.length) <;> rfl
theorem rfm_second (g : DGraph) (hl : g.1.length < LF) (hl2 : g.2.length < LF) (hw : ∀ n ∈ g.1, n.2.length < LF) : Gz22_10 LF g LF (Int.ofNat 0) = some ((if g.1.any (fun n => n.2.any fun v => !S.value v (Int.ofNat g.1.length)) then 2 else if g.2.any (fun v => !S.value v (Int.ofNat g.1.length) || !S.refers v) then 2 else 0), ()) := by
 refine range1 (R := Rtz22) g.1 (fun rest i => some ((if rest.any (fun n => n.2.any fun v => !S.value v (Int.ofNat g.1.length)) then 2 else if g.2.any (fun v => !S.value v (Int.ofNat g.1.length) || !S.refers v) then 2 else 0), ())) hl (fun K => ?_) (fun K i n rest r h => ?_)
 · simp only [Rz22_10, ils, cond_false]
   exact rfm_third g hl2
 · have e2 : (n :: rest).any (fun n => n.2.any fun v => !S.value v (Int.ofNat g.1.length)) = ((n.2.any fun v => !S.value v (Int.ofNat g.1.length)) || rest.any (fun n => n.2.any fun v => !S.value v (Int.ofNat g.1.length))) := rfl
   rw [e2]
   simp only [Rz22_10, r.ilt, cond_true]
   refine (rfm_inner g K i n r.get (hw n r.mem)).trans ?_
   rw [r.next, h]
   cases (n.2.any fun v => !S.value v (Int.ofNat g.1.length)) <;> rfl
theorem rfm_first (g : DGraph) (hl : g.1.length < LF) (hl2 : g.2.length < LF) (hw : ∀ n ∈ g.1, n.2.length < LF) : Gz22_5 LF g LF (Int.ofNat 0) = some ((if g.1.any (fun n => decide (30 < n.2.length)) then 3 else if g.1.any (fun n => n.2.any fun v => !S.value v (Int.ofNat g.1.length)) then 2 else if g.2.any (fun v => !S.value v (Int.ofNat g.1.length) || !S.refers v) then 2 else 0), ()) := by
 refine (range1 (R := Rtz22) g.1 (fun rest i => some ((if rest.any (fun n => decide (30 < n.2.length)) then 3 else if g.1.any (fun n => n.2.any fun v => !S.value v (Int.ofNat g.1.length)) then 2 else if g.2.any (fun v => !S.value v (Int.ofNat g.1.length) || !S.refers v) then 2 else 0), ())) hl (fun K => ?_) (fun K i n rest r h => ?_))
 · simp only [Rz22_5, ils, cond_false]
   exact rfm_second g hl hl2 hw
 · simp only [Rz22_5, r.ilt, r.get, r.next, h, cond_true, ilt_nat]
   have e2 : (n :: rest).any (fun n => decide (30 < n.2.length)) = (decide (30 < n.2.length) || rest.any (fun n => decide (30 < n.2.length))) := rfl
   rw [e2]
   by_cases hb : 30 < n.2.length
   · rw [decide_eq_true hb, cond_true, Bool.true_or, if_pos rfl]; rfl
   · rw [decide_eq_false hb, cond_false, Bool.false_or]
theorem Fz22_eq (g : DGraph) (hl : g.1.length < LF) (hl2 : g.2.length < LF) (hw : ∀ n ∈ g.1, n.2.length < LF) : Fz22 LF g = some (S.formed g, ()) := by
 simp only [Fz22, Rz22_in, S.formed, ilt_nat]
 by_cases h1 : 400 < g.1.length
 · simp [h1, oL]
 by_cases h2 : 60 < g.2.length
 · simp [h1, h2, oL]
 rw [decide_eq_false h1, cond_false, decide_eq_false h2, cond_false, if_neg (by omega)]
 exact rfm_first g hl hl2 hw
theorem conz22 : Con Try.prog idz22 spz22 := mkz22 ⟨conz21, trivial⟩ fun x y hx h => ⟨LF, (Fz22_eq _ (wf_len hx.1.1) (wf_len hx.1.2) fun n hn => wf_len (hx.1.1.2 n hn).2).trans h⟩
theorem Fz23_eq (lf : Nat) (c : DCol) (v : DVal) (g : DGraph) (h : S.refOK g v = true) : Fz23 lf c v g = some (S.suits g c v, ()) := by
 simp only [Fz23, Rz23_in, S.suits, ieqI_eq, keqS, cond_if]
 have ea : S.lit [65, 78, 89] = S.ANY := rfl
 simp only [ea, oL, decide_eq_true_eq]
 by_cases h1 : c.2.1 = 1
 · simp [h1]
 by_cases h2 : c.2.1 = 2
 · simp [h2]
 by_cases h3 : v.1 = 3
 · simp [h1, h2, h3]
 by_cases h4 : v.1 = 4
 · unfold S.refOK at h
   obtain ⟨a, b⟩ := of_decide_eq_true h h4
   have em : imax 0 v.2 = v.2 := by rw [imax_eq]; split <;> omega
   rw [em]
   obtain ⟨x, e1, e2, e3⟩ := jget_of a b
   have e4 : S.at_ S.zNode g.1 v.2 = x := by unfold S.at_; rw [e2]; rfl
   rw [e1, e4]
   by_cases hA : c.2.2 = S.ANY <;> simp [h1, h2, h3, h4, hA]
 · simp [h1, h2, h3, h4]
theorem conz23 : Con Try.prog idz23 spz23 := mkz23 trivial fun x y hx h => ⟨0, by
 have h : cond (S.refOK x.2.2.1 x.2.1) (some (S.suits x.2.2.1 x.1 x.2.1, ())) none = some y := h
 cases hr : S.refOK x.2.2.1 x.2.1 with
 | false => rw [hr] at h; cases h
 | true => rw [hr] at h; exact (Fz23_eq _ _ _ _ hr).trans h⟩
theorem idx_take {α : Type} {p : α → Bool} {l : List α} {i : Nat} {v : α} (hv : l[i]? = some v) (hp : p v = true) : S.idx p l < Int.ofNat i ↔ ¬ S.idx p (l.take i) < 0 := by
 have hi : i < l.length := (List.getElem?_eq_some_iff.1 hv).1
 have h1 := S.idx_nonneg p (l.take i)
 constructor
 · intro h
   have h0 : 0 ≤ S.idx p l := (S.idx_nonneg p l).2 (List.any_eq_true.2 ⟨v, List.mem_of_getElem? hv, hp⟩)
   obtain ⟨x, g1, g2, g3, g4, g5, g6⟩ := S.idx_get h0
   have : 0 ≤ S.idx p (l.take i) := h1.2 (List.any_eq_true.2 ⟨x, List.mem_of_getElem? (i := (S.idx p l).toNat) (by rw [List.getElem?_take, if_pos (by have : Int.ofNat i = (i : Int) := rfl; omega)]; exact g2), g3⟩)
   omega
 · intro h
   have h0 : 0 ≤ S.idx p (l.take i) := by omega
   obtain ⟨x, hx, hpx⟩ := List.any_eq_true.1 (h1.1 h0)
   obtain ⟨j, hj⟩ := List.mem_iff_getElem?.1 hx
   have hji : j < i := by
     have := (List.getElem?_eq_some_iff.1 hj).1
     rw [List.length_take] at this
     omega
   rw [List.getElem?_take, if_pos hji] at hj
   unfold S.idx
   cases hf : l.findIdx? p with
   | none =>
     rw [List.findIdx?_eq_none_iff] at hf
     have := hf x (List.mem_of_getElem? hj)
     rw [hpx] at this; cases this
   | some k =>
     simp only
     obtain ⟨k1, k2, k3⟩ := List.findIdx?_eq_some_iff_getElem.1 hf
     have : k ≤ j := by
       rcases Nat.lt_or_ge j k with h | h
       · have h4 := k3 j h
         have h5 : l[j]'(by omega) = x := by have := (List.getElem?_eq_some_iff.1 hj).2; exact this
         rw [h5, hpx] at h4; simp at h4
       · exact h
     have : Int.ofNat k = (k : Int) := rfl
     have : Int.ofNat i = (i : Int) := rfl
     omega
theorem rck_inner (l : List DForm) (g : DGraph) (K13 : Int → Option Rtz25) (cs : List DCol) (nm : ByteArray) (i : Nat) (n : DNode) (hg : jget g.1 (Int.ofNat i) = some n) (hc : cs.length < LF) (hlen : cs.length = n.2.length) (hv : ∀ v ∈ n.2, S.refOK g v = true) :
   Gz25_19 LF l g K13 LF (cs, nm, Int.ofNat 0, Int.ofNat i) = if S.suitsAll g cs n.2 = true then K13 (IntKind.i64.wrap (Int.add (Int.ofNat i) (Int.ofNat 1))) else some (8, ()) := by
 refine range0 (σ := Unit) (R := Rtz25) cs (fun k _ => (cs, nm, k, Int.ofNat i)) (fun _ _ => True) (fun rest k _ => if S.suitsAll g rest (n.2.drop k) = true then K13 (IntKind.i64.wrap (Int.add (Int.ofNat i) (Int.ofNat 1))) else some (8, ())) hc (fun K s _ => ?_) (fun K k c rest s _ r h => ?_) () trivial
 · simp only [Rz25_19, ils, cond_false, S.suitsAll]; rfl
 · have h := h () trivial
   have hk : k < n.2.length := by rw [← hlen]; exact r.lt
   have hj : jget n.2 (Int.ofNat k) = some n.2[k] := by rw [jget_nat]; exact List.getElem?_eq_getElem hk
   have hr := hv _ (List.getElem_mem hk)
   rw [List.drop_eq_getElem_cons hk, S.suitsAll]
   simp only [Rz25_19, r.ilt, r.get, r.next, h, cond_true, hg, hj, Prod.eta, hr]
   cases S.suits g c n.2[k] <;> simp [oL]
theorem rck_types (l : List DForm) (g : DGraph) (hl : g.1.length < LF) (hw : ∀ f ∈ l, f.2.length < LF) (hp : S.typedPre l g = true) : Gz25_13 LF l g LF (Int.ofNat 0) = some (S.unlessE (S.typed l g g.1) 8, ()) := by
 refine range1 (R := Rtz25) g.1 (fun rest i => some (S.unlessE (S.typed l g rest) 8, ())) hl (fun K => ?_) (fun K i n rest r h => ?_)
 · simp only [Rz25_13, ils, cond_false, S.typed]; rfl
 · unfold S.typedPre at hp
   have hn := List.all_eq_true.1 hp n r.mem
   simp only [Bool.and_eq_true, decide_eq_true_eq] at hn
   obtain ⟨f, f1, f2, f3, f4⟩ := form_get hn.1
   simp only [Rz25_13, r.ilt, r.get, f1, cond_true, ieq_nat]
   rw [S.typed, f2]
   by_cases hlen : f.2.length = n.2.length
   · rw [if_pos hlen.symm, decide_eq_true hlen, Bool.not_true, cond_false]
     refine (rck_inner l g K f.2 f.1 i n r.get (hw f f3) hlen (List.all_eq_true.1 hn.2)).trans ?_
     rw [r.next, h]
     split <;> rfl
   · rw [if_neg (fun h => hlen h.symm), decide_eq_false hlen, Bool.not_false, cond_true]
     rfl
theorem Fz25_eq (l : List DForm) (g : DGraph) (hl : g.1.length < LF) (hw : ∀ f ∈ l, f.2.length < LF) : Fz25 LF l g = some (S.checkG l g, ()) := by
 simp only [Fz25, Rz25_in, S.checkG, Prod.eta, ne_zero]
 by_cases h0 : ¬ S.checkForms l = 0
 · rw [decide_eq_true h0, cond_true, if_pos h0]
 have h0 := Decidable.not_not.1 h0
 rw [decide_eq_false (by simpa using h0), cond_false, if_neg (by simpa using h0), S.check]
 by_cases h1 : ¬ S.formed g = 0
 · rw [decide_eq_true h1, cond_true, if_pos h1]
 have h1 := Decidable.not_not.1 h1
 rw [decide_eq_false (by simpa using h1), cond_false, if_neg (by simpa using h1)]
 refine range0 (σ := Unit) (R := Rtz25) g.1 (fun i _ => i) (fun i _ => (g.1.take i).any (fun n => decide (S.form l n.1 < 0)) = false) (fun rest i _ => some ((if rest.any (fun n => decide (S.form l n.1 < 0)) then 4 else S.unlessE (S.typed l g g.1) 8), ())) hl (fun K s hI => ?_) (fun K i n rest s hI r h => ?_) () (by simp)
 · simp only [Rz25_8, ils, cond_false]
   rw [List.take_length] at hI
   exact rck_types l g hl hw (check_pre hl h1 hI)
 · simp only [Rz25_8, r.ilt, r.get, r.next, cond_true, iltI_eq]
   have e2 : (n :: rest).any (fun n => decide (S.form l n.1 < 0)) = (decide (S.form l n.1 < 0) || rest.any (fun n => decide (S.form l n.1 < 0))) := rfl
   rw [e2]
   cases hb : decide (S.form l n.1 < Int.ofNat 0) with
   | true =>
     have hb2 : decide (S.form l n.1 < 0) = true := hb
     rfl
   | false =>
     have hb2 : decide (S.form l n.1 < 0) = false := hb
     rw [cond_false, Bool.false_or]
     refine h () ?_
     rw [r.take, List.any_append, hI]
     simp [hb2]
theorem conz25 (hc : Con Try.prog idz24 spz24) : Con Try.prog idz25 spz25 := mkz25 ⟨hc, conz22, conz19, conz23, trivial⟩ fun x y hx h => ⟨LF, (Fz25_eq _ _ (wf_len hx.2.1.1) fun f hf => wf_len (hx.1.2 f hf).2).trans h⟩
theorem rs_loop (s : ByteArray) (hl : s.size < LF) : Gz18_4 LF s LF (Int.ofNat 0) = some (((byteList s).all (fun b => !S.badR b 97 122) && !decide (S.smallWords.any (fun w => keqS s w) = true)), ()) := by
 have hbl : (byteList s).length < LF := by rw [bl_len]; exact hl
 refine range1 (R := Rtz18) (byteList s) (fun rest _ => some ((rest.all (fun b => !S.badR b 97 122) && !decide (S.smallWords.any (fun w => keqS s w) = true)), ())) hbl (fun K => ?_) (fun K i b rest r h => ?_)
 · rw [bl_len]
   simp only [Rz18_4, ils, cond_false, List.all_nil, Bool.true_and, S.smallWords, List.any_cons, List.any_nil, Bool.or_false]
   cases keqS s (S.lit [116, 114, 117, 101]) <;> cases keqS s (S.lit [102, 97, 108, 115, 101]) <;> cases keqS s (S.lit [118, 111, 105, 100]) <;> cases keqS s (S.lit [99, 117, 114, 114, 101, 110, 116]) <;> cases keqS s (S.lit [114, 101, 115, 117, 108, 116]) <;> rfl
 · have hlt : iltI (Int.ofNat i) (Int.ofNat s.size) = true := by have := r.ilt; rwa [bl_len] at this
   rw [List.all_cons, Bool.and_assoc]
   generalize (rest.all (fun b => !S.badR b 97 122) && !decide (S.smallWords.any (fun w => keqS s w) = true)) = z at h ⊢
   simp only [Rz18_4, hlt, r.get, r.next, h, cond_true, iltI_eq, ieqI_eq]
   simp only [oL, S.badR]
   by_cases h1 : b < 97 <;> by_cases h2 : 122 < b <;> by_cases h3 : b < 48 <;> by_cases h4 : 57 < b <;> by_cases h5 : b = 95 <;> simp [h1, h2, h3, h4, h5] <;> omega
theorem Fz18_eq (s : ByteArray) : Fz18 LF s = some (S.small s, ()) := by
 have key : ∀ z : Bool, (z = true ↔ S.small s = true) → z = S.small s := fun z h => by rw [Bool.eq_iff_iff]; exact h
 simp only [Fz18, Rz18_in, ilt_nat]
 by_cases h1 : s.size < 1
 · rw [decide_eq_true h1, cond_true]
   refine congrArg some (Prod.ext (key _ ⟨fun h => (by cases h), fun h => ?_⟩) rfl)
   obtain ⟨_, ⟨b, hb, _⟩, _⟩ := (small_iff s).1 h
   have := (List.getElem?_eq_some_iff.1 hb).1
   rw [bl_len] at this; omega
 rw [decide_eq_false h1, cond_false]
 by_cases h2 : 20 < s.size
 · rw [decide_eq_true h2, cond_true]
   refine congrArg some (Prod.ext (key _ ⟨fun h => (by cases h), fun h => ?_⟩) rfl)
   have := ((small_iff s).1 h).1; omega
 rw [decide_eq_false h2, cond_false]
 have hb := bl_get (s := s) (i := 0) (by omega)
 have hj : jget (byteList s) (Int.ofNat 0) = some ((s[0]'(by omega)).toNat : Int) := by rw [jget_nat]; exact hb
 generalize ((s[0]'(by omega)).toNat : Int) = b0 at hb hj
 simp only [hj, iltI_eq]
 simp only [oL]
 by_cases h3 : b0 < 97
 · rw [decide_eq_true h3, cond_true]
   refine congrArg some (Prod.ext (key _ ⟨fun h => (by cases h), fun h => ?_⟩) rfl)
   obtain ⟨_, ⟨b, hb2, _⟩, _⟩ := (small_iff s).1 h
   rw [hb] at hb2; cases hb2; omega
 rw [decide_eq_false h3, cond_false]
 by_cases h4 : 122 < b0
 · rw [decide_eq_true h4, cond_true]
   refine congrArg some (Prod.ext (key _ ⟨fun h => (by cases h), fun h => ?_⟩) rfl)
   obtain ⟨_, ⟨b, hb2, _⟩, _⟩ := (small_iff s).1 h
   rw [hb] at hb2; cases hb2; omega
 rw [decide_eq_false h4, cond_false]
 refine (rs_loop s (by unfold LF; omega)).trans (congrArg some (Prod.ext (key _ ?_) rfl))
 rw [small_iff]
 simp only [Bool.and_eq_true, List.all_eq_true, Bool.not_eq_true', decide_eq_false_iff_not]
 have hm : S.smallWords.any (fun w => keqS s w) = true ↔ s ∈ S.smallWords := by
   rw [List.any_eq_true]
   exact ⟨fun ⟨x, hx, h⟩ => by rw [of_decide_eq_true h]; exact hx, fun h => ⟨s, h, decide_eq_true rfl⟩⟩
 rw [hm]
 exact ⟨fun h => ⟨by omega, ⟨b0, hb, by omega, by omega⟩, h.1, h.2⟩, fun h => ⟨h.2.2.1, h.2.2.2⟩⟩
theorem conz18 : Con Try.prog idz18 spz18 := mkz18 trivial fun x y hx h => ⟨LF, (Fz18_eq _).trans h⟩
theorem col_take {l : List DCol} {i : Nat} {c : DCol} (h : l[i]? = some c) : S.col l c.1 < Int.ofNat i ↔ ¬ S.col (l.take i) c.1 < 0 := idx_take (p := fun x : DCol => keqS x.1 c.1) h (by simp [keqS])
theorem form_take {l : List DForm} {i : Nat} {f : DForm} (h : l[i]? = some f) : S.form l f.1 < Int.ofNat i ↔ ¬ S.form (l.take i) f.1 < 0 := idx_take (p := fun x : DForm => keqS x.1 f.1) h (by simp [keqS])
theorem rcf_cols (l : List DForm) (K4 : Int → Option Rtz24) (i : Nat) (f : DForm) (hf : jget l (Int.ofNat i) = some f) (hl : f.2.length < LF) (Z : Int → Option Rtz24) (hZ0 : Z 0 = K4 (IntKind.i64.wrap (Int.add (Int.ofNat i) (Int.ofNat 1)))) (hZ : ∀ e, e ≠ 0 → Z e = some (e, ())) :
   Gz24_14 LF l K4 LF (Int.ofNat 0, Int.ofNat i) = Z (S.ccGo f.2 0 f.2) := by
 refine range0 (σ := Unit) (R := Rtz24) f.2 (fun k _ => (k, Int.ofNat i)) (fun _ _ => True) (fun rest k _ => Z (S.ccGo f.2 k rest)) hl (fun K s _ => ?_) (fun K k c rest s _ r h => ?_) () trivial
 · simp only [Rz24_14, hf, ils, cond_false, S.ccGo, hZ0]
 · have h := h () trivial
   rw [S.ccGo]
   simp only [Rz24_14, hf, r.ilt, r.get, r.next, h, cond_true]
   have ht := col_take r.get?
   generalize S.ccGo f.2 (k + 1) rest = z
   have h4 := hZ 4 (by decide)
   have h6 := hZ 6 (by decide)
   have h1 := hZ 1 (by decide)
   cases S.small c.1 with
   | false => rw [if_pos rfl, h4]; rfl
   | true =>
     rw [Bool.not_true, cond_false, if_neg (show ¬ true = false by decide)]
     by_cases hc : S.col (f.2.take k) c.1 < 0
     · have hn : ¬ S.col f.2 c.1 < Int.ofNat k := fun h => (ht.1 h) hc
       rw [iltI_eq, decide_eq_false hn, cond_false, if_neg (fun h => h hc)]
       simp only [iltI_eq, ieqI_eq, keqS, oL]
       have hw : S.within c.2.1 1 3 = (!decide (c.2.1 < 1) && !decide (3 < c.2.1)) := by
         unfold S.within
         rw [Bool.eq_iff_iff]
         simp only [Bool.and_eq_true, decide_eq_true_eq, Bool.not_eq_true', decide_eq_false_iff_not]
         omega
       rw [hw]
       by_cases a1 : c.2.1 < 1
       · rw [decide_eq_true a1, if_pos (show (!true && !decide (3 < c.2.1)) = false from rfl), h1]; rfl
       rw [decide_eq_false a1]
       by_cases a3 : 3 < c.2.1
       · rw [decide_eq_true a3, if_pos (show (!false && !true) = false from rfl), h1]; rfl
       rw [decide_eq_false a3, if_neg (show ¬ (!false && !false) = false by decide)]
       by_cases b3 : c.2.1 = 3
       · rw [decide_eq_true b3, if_neg (fun h => h.1 b3)]; rfl
       rw [decide_eq_false b3]
       by_cases b4 : c.2.2 = S.lit []
       · rw [decide_eq_true b4, if_neg (fun h => h.2 b4)]; rfl
       · rw [decide_eq_false b4, if_pos ⟨b3, b4⟩, h1]; rfl
     · have hy : S.col f.2 c.1 < Int.ofNat k := ht.2 hc
       rw [iltI_eq, decide_eq_true hy, cond_true, if_pos hc, h6]; rfl
theorem rcf_in (x1 : List DForm) (K25 : Int → Option Rtz24) (i : Nat) (f : DForm) (hg : jget x1 (Int.ofNat i) = some f) (hf : f.2.length < LF) (Z : Bool → Option Rtz24) (hZ1 : Z true = K25 (IntKind.i64.wrap (Int.add (Int.ofNat i) (Int.ofNat 1)))) (hZ : Z false = some (5, ())) :
   Gz24_28 LF x1 K25 LF (Int.ofNat 0, Int.ofNat i) = Z (S.cfIn x1 f.2) := by
 refine range0 (σ := Unit) (R := Rtz24) f.2 (fun k _ => (k, Int.ofNat i)) (fun _ _ => True) (fun rest _ _ => Z (S.cfIn x1 rest)) hf (fun K s _ => ?_) (fun K k c rest s _ r h => ?_) () trivial
 · simp only [Rz24_28, hg, ils, cond_false, S.cfIn, hZ1]
 · have h := h () trivial
   rw [S.cfIn]
   simp only [Rz24_28, hg, r.ilt, r.get, r.next, h, cond_true, iltI_eq, ieqI_eq, keqS]
   have ea : S.lit [65, 78, 89] = S.ANY := rfl
   generalize S.cfIn x1 rest = z
   simp only [ea, oL]
   by_cases h3 : c.2.1 = 3
   · by_cases hn : c.2.2 = S.ANY
     · rw [decide_eq_true h3, decide_eq_true hn, if_neg (fun h => h.2.1 hn)]; rfl
     · by_cases hf : S.form x1 c.2.2 < 0
       · rw [decide_eq_true h3, decide_eq_false hn, decide_eq_true hf, if_pos ⟨h3, hn, hf⟩, hZ]; rfl
       · rw [decide_eq_true h3, decide_eq_false hn, decide_eq_false hf, if_neg (fun h => hf h.2.2)]; rfl
   · rw [decide_eq_false h3, if_neg (fun h => h3 h.1)]; rfl
theorem rcf_second (x1 : List DForm) (hl : x1.length < LF) (hw : ∀ f ∈ x1, f.2.length < LF) : Gz24_25 LF x1 LF (Int.ofNat 0) = some (S.cfGo2 x1 x1, ()) := by
 refine range1 (R := Rtz24) x1 (fun rest i => some (S.cfGo2 x1 rest, ())) hl (fun K => ?_) (fun K i v rest r h => ?_)
 · simp only [Rz24_25, ils, cond_false]; rfl
 · simp only [Rz24_25, r.ilt, cond_true]
   refine (rcf_in x1 K i v r.get (hw v r.mem) (fun b => some ((if b = true then S.cfGo2 x1 rest else 5), ())) ?_ rfl).trans ?_
   · rw [r.next, h]; rfl
   · rw [S.cfGo2]
theorem Fz24_eq (l : List DForm) (hl : l.length < LF) (hw : ∀ f ∈ l, f.2.length < LF) : Fz24 LF l = some (S.checkForms l, ()) := by
 simp only [Fz24, Rz24_in, S.checkForms, ilt_nat]
 by_cases h24 : 24 < l.length
 · rw [decide_eq_true h24, cond_true, if_pos h24]; rfl
 rw [decide_eq_false h24, cond_false, if_neg h24]
 refine range1 (R := Rtz24) l (fun rest i => some (S.cfGo l i rest, ())) hl (fun K => ?_) (fun K i v rest r h => ?_)
 · simp only [Rz24_4, ils, cond_false, S.cfGo]
   exact rcf_second l hl hw
 · have ht := form_take r.get?
   rw [S.cfGo]
   simp only [first3, S.unlessE]
   simp only [Rz24_4, r.ilt, r.get, cond_true, ilt_nat]
   cases hcl : S.class_ v.1 with
   | false => rfl
   | true =>
     rw [Bool.not_true, cond_false, cond_true, if_pos (rfl : (0 : Int) = 0)]
     by_cases hc : S.form (l.take i) v.1 < 0
     · have hn : ¬ S.form l v.1 < Int.ofNat i := fun h => (ht.1 h) hc
       rw [iltI_eq, decide_eq_false hn, cond_false, decide_eq_true hc, cond_true, if_pos (rfl : (0 : Int) = 0)]
       unfold S.checkCols
       by_cases h30 : 30 < v.2.length
       · rw [decide_eq_true h30, cond_true, if_pos h30]; rfl
       · rw [decide_eq_false h30, cond_false, if_neg h30]
         refine (rcf_cols l K i v r.get (hw v r.mem) (fun e => some ((if e = 0 then S.cfGo l (i + 1) rest else e), ())) ?_ (fun e he => by simp only [if_neg he])).trans rfl
         rw [r.next, h]; rfl
     · have hy : S.form l v.1 < Int.ofNat i := ht.2 hc
       rw [iltI_eq, decide_eq_true hy, cond_true, decide_eq_false hc, cond_false]
       rfl
theorem conz24 (hcl : Con Try.prog 54 spz30) : Con Try.prog idz24 spz24 := mkz24 ⟨hcl, conz18, conz19, conz20, trivial⟩ fun x y hx h => ⟨LF, (Fz24_eq _ (wf_len hx.1) fun f hf => wf_len (hx.1.2 f hf).2).trans h⟩
def nmz26 : Nat → Option Nm := fun k => cond (Nat.beq k 2) (some ⟨[0, 1, 5], [], [], [], [], 0, 0, false⟩) (none)
def stz26 : Nat → Bool := fun k => cond (Nat.beq k 2) true (false)
def hdz26 := stz26
abbrev Rtz26 : Type := Int × Unit
def smlz26 : List (Nat × Sm) := []
def hxlz26 : List (Nat × Hx) := []
def clz26 (R : Type) (lf : Nat) : ClK R := icallK Try.prog ttT.get ftT.get (nm1 131 nmz26) (smL smlz26) (hxL hxlz26) lf 20 R
abbrev idz26 : Nat := 131
def encz26_2 (x1 : ByteArray) (x2 : Int) (p : Int) : NRes := (NRes.mk (.node (some (IV.str x1)) (.node (some (IV.int .i64 x2)) .leaf (.node (some (IV.int .i64 p)) .leaf .leaf)) .leaf) (IS.mk .leaf 0) [] 0)
def Rz26_in (lf : Nat) (x1 : ByteArray) (x2 : Int) (L2 : Int → Option Rtz26) : Option Rtz26 := (L2 (Int.ofNat 0))
def Rz26_2 (lf : Nat) (x1 : ByteArray) (x2 : Int) (L2 : Int → Option Rtz26) (p : Int) : Option Rtz26 := (cond (iltI (IntKind.i64.wrap (Int.add x2 p)) (Int.ofNat (ByteArray.size x1))) (match (jget (byteList x1) (IntKind.i64.wrap (Int.add x2 p))) with | .none  => none | .some v0 => (cond (Bool.not (iltI v0 (Int.ofNat 97))) (cond (Bool.not (iltI (Int.ofNat 122) v0)) (L2 (IntKind.i64.wrap (Int.add p (Int.ofNat 1)))) (cond (Bool.not (iltI v0 (Int.ofNat 65))) (cond (Bool.not (iltI (Int.ofNat 90) v0)) (L2 (IntKind.i64.wrap (Int.add p (Int.ofNat 1)))) (cond (Bool.not (iltI v0 (Int.ofNat 48))) (cond (Bool.not (iltI (Int.ofNat 57) v0)) (L2 (IntKind.i64.wrap (Int.add p (Int.ofNat 1)))) (cond (ieqI v0 (Int.ofNat 95)) (L2 (IntKind.i64.wrap (Int.add p (Int.ofNat 1)))) (some (p, ())))) (cond (ieqI v0 (Int.ofNat 95)) (L2 (IntKind.i64.wrap (Int.add p (Int.ofNat 1)))) (some (p, ()))))) (cond (Bool.not (iltI v0 (Int.ofNat 48))) (cond (Bool.not (iltI (Int.ofNat 57) v0)) (L2 (IntKind.i64.wrap (Int.add p (Int.ofNat 1)))) (cond (ieqI v0 (Int.ofNat 95)) (L2 (IntKind.i64.wrap (Int.add p (Int.ofNat 1)))) (some (p, ())))) (cond (ieqI v0 (Int.ofNat 95)) (L2 (IntKind.i64.wrap (Int.add p (Int.ofNat 1)))) (some (p, ())))))) (cond (Bool.not (iltI v0 (Int.ofNat 65))) (cond (Bool.not (iltI (Int.ofNat 90) v0)) (L2 (IntKind.i64.wrap (Int.add p (Int.ofNat 1)))) (cond (Bool.not (iltI v0 (Int.ofNat 48))) (cond (Bool.not (iltI (Int.ofNat 57) v0)) (L2 (IntKind.i64.wrap (Int.add p (Int.ofNat 1)))) (cond (ieqI v0 (Int.ofNat 95)) (L2 (IntKind.i64.wrap (Int.add p (Int.ofNat 1)))) (some (p, ())))) (cond (ieqI v0 (Int.ofNat 95)) (L2 (IntKind.i64.wrap (Int.add p (Int.ofNat 1)))) (some (p, ()))))) (cond (Bool.not (iltI v0 (Int.ofNat 48))) (cond (Bool.not (iltI (Int.ofNat 57) v0)) (L2 (IntKind.i64.wrap (Int.add p (Int.ofNat 1)))) (cond (ieqI v0 (Int.ofNat 95)) (L2 (IntKind.i64.wrap (Int.add p (Int.ofNat 1)))) (some (p, ())))) (cond (ieqI v0 (Int.ofNat 95)) (L2 (IntKind.i64.wrap (Int.add p (Int.ofNat 1)))) (some (p, ()))))))) (some (p, ())))
abbrev gz26 : Type := ElA [.str, (.int .i64)] → Option Rtz26
abbrev sz26 (g : gz26) : Sm := ⟨[.str, (.int .i64)], [(false, (.int .i64))], g⟩
abbrev Ez26 (g : gz26) (J : JT Rtz26) (lf : Nat) (x1 : ByteArray) (x2 : Int) := icodeT Try.prog ttT.get nmz26 fi131.nt (clz26 _ lf) lf stz26 J fi131.body [] (argGo (argV [.str, (.int .i64)] (x1, x2, ())) 0 .leaf) S0 [] (lastK ttT.get fi131 (sz26 g))
abbrev Bz26 (g : gz26) (J : JT Rtz26) (lf k : Nat) (ms : List Nat) (q : NRes) := icodeFT Try.prog ttT.get nmz26 fi131.nt (clz26 _ lf) lf stz26 J k fi131.body [] ms q (lastK ttT.get fi131 (sz26 g))
theorem inz26 (g : gz26) (J : JT Rtz26) (lf : Nat) (x1 : ByteArray) (x2 : Int) : Ez26 g J lf x1 x2 = Rz26_in lf x1 x2 (fun q => J 2 [lf] (encz26_2 x1 x2 q)) := by kernel_rfl
theorem stz26_2 (g : gz26) (J : JT Rtz26) (lf : Nat) (x1 : ByteArray) (x2 : Int) (m1 : Nat) (p : Int) : Bz26 g J lf 2 [m1] (encz26_2 x1 x2 p) = Rz26_2 lf x1 x2 (fun q => J 2 [m1] (encz26_2 x1 x2 q)) p := by kernel_rfl
theorem ndz26 : (regs fi131.body).Nodup := by decide +kernel
theorem okz26 : okC nmz26 stz26 hdz26 fi131.body none = true := by kernel_rfl
def Az26 (g : gz26) (lf : Nat) : JT Rtz26 := atN Try.prog ttT.get nmz26 fi131 (sz26 g) (clz26 _ lf) lf hdz26
def Gz26_2 (lf : Nat) (x1 : ByteArray) (x2 : Int) : Nat → (Int) → Option Rtz26 := rounds fun K p => Rz26_2 lf x1 x2 K p
theorem atz26_2 (g : gz26) (lf : Nat) (x1 : ByteArray) (x2 : Int) : ∀ (n : Nat) (p : Int), Az26 g lf 2 [n] (encz26_2 x1 x2 p) = Gz26_2 lf x1 x2 n p
 | 0, p => atz 2 [0] rfl _
 | n + 1, p => by
   have ih := atz26_2 g lf x1 x2 n
   refine (atN_eq (iKe 20 _) ndz26 okz26 2 [n + 1] [n] rfl _).trans ((stz26_2 g (Az26 g lf) lf x1 x2 n p).trans ?_)
   rw [(show (fun q => Az26 g lf 2 [n] (encz26_2 x1 x2 q)) = (fun q => Gz26_2 lf x1 x2 n q) from funext ih)]
   rfl
def Fz26 (lf : Nat) (x1 : ByteArray) (x2 : Int) : Option Rtz26 := Rz26_in lf x1 x2 (fun q => Gz26_2 lf x1 x2 lf q)
theorem runz26 (g : gz26) (lf : Nat) (x1 : ByteArray) (x2 : Int) : Ez26 g (Az26 g lf) lf x1 x2 = Fz26 lf x1 x2 := by
   refine (inz26 g (Az26 g lf) lf x1 x2).trans ?_
   rw [(show (fun q => Az26 g lf 2 [lf] (encz26_2 x1 x2 q)) = (fun q => Gz26_2 lf x1 x2 lf q) from funext fun q => atz26_2 g lf x1 x2 lf q)]
   rfl
theorem hxsz26 : HxsOK Try.prog hxlz26 := trivial
theorem mkz26 {g : gz26} (hsm : SmOK Try.prog smlz26) (hg : ∀ (x : ElA [.str, (.int .i64)]) (y : Rtz26), WfA [.str, (.int .i64)] x → g x = some y → ∃ lf, Fz26 lf x.1 x.2.1 = some y) : Con Try.prog 131 ⟨[.str, (.int .i64)], [(false, (.int .i64))], g⟩ :=
 conT (nmf := nmz26) (sml := smlz26) (hxl := hxlz26) (st := stz26) (hd := hdz26) 20 mixed ttOK ftOK hsm hxsz26 cal131 rfl rfl (by kernel_rfl) (fun x => by kernel_rfl) ndz26 okz26 fun x y hx hy => by
   obtain ⟨lf, h⟩ := hg x y hx hy
   exact ⟨lf, (runz26 g lf x.1 x.2.1).trans h⟩
def nmz27 : Nat → Option Nm := fun k => cond (Nat.beq k 2) (some ⟨[0, 2, 3], [], [], [], [], 0, 0, false⟩) (cond (Nat.beq k 10) (some ⟨[0, 2, 4, 5], [], [], [], [], 0, 0, false⟩) (none))
def stz27 : Nat → Bool := fun k => cond (Nat.beq k 2) true (cond (Nat.beq k 10) true (false))
def hdz27 := stz27
abbrev Rtz27 : Type := DR1Numbered × Unit
def smlz27 : List (Nat × Sm) := []
def hxlz27 : List (Nat × Hx) := []
def clz27 (R : Type) (lf : Nat) : ClK R := icallK Try.prog ttT.get ftT.get (nm1 133 nmz27) (smL smlz27) (hxL hxlz27) lf 20 R
abbrev idz27 : Nat := 133
def encz27_2 (x1 : ByteArray) (p : Int) : NRes := (NRes.mk (.node (some (IV.str x1)) (.node none (.node (some (IV.int .i64 p)) .leaf .leaf) .leaf) (.node (some (IV.ptr 0 0)) .leaf .leaf)) (IS.mk (.node (some (IObj.row (List.cons (IV.int .i64 (Int.ofNat 0)) (List.cons (IV.int .i64 (Int.ofNat 0)) [])))) .leaf .leaf) 1) [] 0)
def encz27_10 (x1 : ByteArray) (p : Int × Int) : NRes := (NRes.mk (.node (some (IV.str x1)) (.node none .leaf (.node (some (IV.int .i64 p.1)) .leaf .leaf)) (.node (some (IV.ptr 0 0)) (.node (some (IV.int .i64 p.2)) .leaf .leaf) .leaf)) (IS.mk (.node (some (IObj.row (List.cons (IV.int .i64 (Int.ofNat 0)) (List.cons (IV.int .i64 (Int.ofNat 0)) [])))) .leaf .leaf) 1) [] 0)
def Rz27_in (lf : Nat) (x1 : ByteArray) (L2 : Int → Option Rtz27) : Option Rtz27 := (L2 (Int.ofNat 0))
def Rz27_2 (lf : Nat) (x1 : ByteArray) (L2 : Int → Option Rtz27) (L10 : (Int × Int) → Option Rtz27) (p : Int) : Option Rtz27 := (cond (iltI p (Int.ofNat (ByteArray.size x1))) (match (jget (byteList x1) p) with | .none  => none | .some v0 => (cond (Bool.not (iltI v0 (Int.ofNat 48))) (cond (Bool.not (Bool.not (iltI (Int.ofNat 57) v0))) (some (((Int.ofNat 0), (Int.ofNat 2)), ())) (L2 (IntKind.i64.wrap (Int.add p (Int.ofNat 1))))) (some (((Int.ofNat 0), (Int.ofNat 2)), ())))) (match (jget (byteList x1) (Int.ofNat 0)) with | .none  => none | .some v24 => (cond (ieqI v24 (Int.ofNat 48)) (cond (iltI (Int.ofNat 1) (Int.ofNat (ByteArray.size x1))) (some (((Int.ofNat 0), (Int.ofNat 2)), ())) (L10 ((Int.ofNat 0), (Int.ofNat 0)))) (L10 ((Int.ofNat 0), (Int.ofNat 0))))))
def Rz27_10 (lf : Nat) (x1 : ByteArray) (L10 : (Int × Int) → Option Rtz27) (p : Int × Int) : Option Rtz27 := (cond (iltI p.1 (Int.ofNat (ByteArray.size x1))) (match (jget (byteList x1) p.1) with | .none  => none | .some v0 => (cond (iltI (Int.ofNat 1099511627776) (IntKind.i64.wrap (Int.sub (IntKind.i64.wrap (Int.add (IntKind.i64.wrap (Int.mul (Int.ofNat 10) p.2)) (IntKind.i64.wrap v0))) (Int.ofNat 48)))) (some (((Int.ofNat 0), (Int.ofNat 3)), ())) (L10 ((IntKind.i64.wrap (Int.add p.1 (Int.ofNat 1))), (IntKind.i64.wrap (Int.sub (IntKind.i64.wrap (Int.add (IntKind.i64.wrap (Int.mul (Int.ofNat 10) p.2)) (IntKind.i64.wrap v0))) (Int.ofNat 48))))))) (some ((p.2, (Int.ofNat 0)), ())))
abbrev gz27 : Type := ElA [.str] → Option Rtz27
abbrev sz27 (g : gz27) : Sm := ⟨[.str], [(false, cR1Numbered)], g⟩
abbrev Ez27 (g : gz27) (J : JT Rtz27) (lf : Nat) (x1 : ByteArray) := icodeT Try.prog ttT.get nmz27 fi133.nt (clz27 _ lf) lf stz27 J fi133.body [] (argGo (argV [.str] (x1, ())) 0 .leaf) S0 [] (lastK ttT.get fi133 (sz27 g))
abbrev Bz27 (g : gz27) (J : JT Rtz27) (lf k : Nat) (ms : List Nat) (q : NRes) := icodeFT Try.prog ttT.get nmz27 fi133.nt (clz27 _ lf) lf stz27 J k fi133.body [] ms q (lastK ttT.get fi133 (sz27 g))
theorem inz27 (g : gz27) (J : JT Rtz27) (lf : Nat) (x1 : ByteArray) : Ez27 g J lf x1 = Rz27_in lf x1 (fun q => J 2 [lf] (encz27_2 x1 q)) := by kernel_rfl
theorem stz27_2 (g : gz27) (J : JT Rtz27) (lf : Nat) (x1 : ByteArray) (m1 : Nat) (p : Int) : Bz27 g J lf 2 [m1] (encz27_2 x1 p) = Rz27_2 lf x1 (fun q => J 2 [m1] (encz27_2 x1 q)) (fun q => J 10 [lf] (encz27_10 x1 q)) p := by kernel_rfl
theorem stz27_10 (g : gz27) (J : JT Rtz27) (lf : Nat) (x1 : ByteArray) (m1 : Nat) (p : Int × Int) : Bz27 g J lf 10 [m1] (encz27_10 x1 p) = Rz27_10 lf x1 (fun q => J 10 [m1] (encz27_10 x1 q)) p := by kernel_rfl
theorem ndz27 : (regs fi133.body).Nodup := by decide +kernel
theorem okz27 : okC nmz27 stz27 hdz27 fi133.body none = true := by kernel_rfl
def Az27 (g : gz27) (lf : Nat) : JT Rtz27 := atN Try.prog ttT.get nmz27 fi133 (sz27 g) (clz27 _ lf) lf hdz27
def Gz27_10 (lf : Nat) (x1 : ByteArray) : Nat → (Int × Int) → Option Rtz27 := rounds fun K p => Rz27_10 lf x1 K p
theorem atz27_10 (g : gz27) (lf : Nat) (x1 : ByteArray) : ∀ (n : Nat) (p : Int × Int), Az27 g lf 10 [n] (encz27_10 x1 p) = Gz27_10 lf x1 n p
 | 0, p => atz 10 [0] rfl _
 | n + 1, p => by
   have ih := atz27_10 g lf x1 n
   refine (atN_eq (iKe 20 _) ndz27 okz27 10 [n + 1] [n] rfl _).trans ((stz27_10 g (Az27 g lf) lf x1 n p).trans ?_)
   rw [(show (fun q => Az27 g lf 10 [n] (encz27_10 x1 q)) = (fun q => Gz27_10 lf x1 n q) from funext ih)]
   rfl
def Gz27_2 (lf : Nat) (x1 : ByteArray) : Nat → (Int) → Option Rtz27 := rounds fun K p => Rz27_2 lf x1 K (fun q => Gz27_10 lf x1 lf q) p
theorem atz27_2 (g : gz27) (lf : Nat) (x1 : ByteArray) : ∀ (n : Nat) (p : Int), Az27 g lf 2 [n] (encz27_2 x1 p) = Gz27_2 lf x1 n p
 | 0, p => atz 2 [0] rfl _
 | n + 1, p => by
   have ih := atz27_2 g lf x1 n
   refine (atN_eq (iKe 20 _) ndz27 okz27 2 [n + 1] [n] rfl _).trans ((stz27_2 g (Az27 g lf) lf x1 n p).trans ?_)
   rw [(show (fun q => Az27 g lf 10 [lf] (encz27_10 x1 q)) = (fun q => Gz27_10 lf x1 lf q) from funext fun q => atz27_10 g lf x1 lf q), (show (fun q => Az27 g lf 2 [n] (encz27_2 x1 q)) = (fun q => Gz27_2 lf x1 n q) from funext ih)]
   rfl
def Fz27 (lf : Nat) (x1 : ByteArray) : Option Rtz27 := Rz27_in lf x1 (fun q => Gz27_2 lf x1 lf q)
theorem runz27 (g : gz27) (lf : Nat) (x1 : ByteArray) : Ez27 g (Az27 g lf) lf x1 = Fz27 lf x1 := by
   refine (inz27 g (Az27 g lf) lf x1).trans ?_
   rw [(show (fun q => Az27 g lf 2 [lf] (encz27_2 x1 q)) = (fun q => Gz27_2 lf x1 lf q) from funext fun q => atz27_2 g lf x1 lf q)]
   rfl
theorem hxsz27 : HxsOK Try.prog hxlz27 := trivial
theorem mkz27 {g : gz27} (hsm : SmOK Try.prog smlz27) (hg : ∀ (x : ElA [.str]) (y : Rtz27), WfA [.str] x → g x = some y → ∃ lf, Fz27 lf x.1 = some y) : Con Try.prog 133 ⟨[.str], [(false, cR1Numbered)], g⟩ :=
 conT (nmf := nmz27) (sml := smlz27) (hxl := hxlz27) (st := stz27) (hd := hdz27) 20 mixed ttOK ftOK hsm hxsz27 cal133 rfl rfl (by kernel_rfl) (fun x => by kernel_rfl) ndz27 okz27 fun x y hx hy => by
   obtain ⟨lf, h⟩ := hg x y hx hy
   exact ⟨lf, (runz27 g lf x.1).trans h⟩
def nmz28 : Nat → Option Nm := fun k => cond (Nat.beq k 8) (some ⟨[0, 2, 3, 4, 5], [], [], [], [], 0, 0, false⟩) (none)
def stz28 : Nat → Bool := fun k => cond (Nat.beq k 8) true (false)
def hdz28 := stz28
abbrev Rtz28 : Type := DR1Kinded × Unit
def smlz28 : List (Nat × Sm) := [(129, spz17)]
def hxlz28 : List (Nat × Hx) := []
def clz28 (R : Type) (lf : Nat) : ClK R := icallK Try.prog ttT.get ftT.get (nm1 134 nmz28) (smL smlz28) (hxL hxlz28) lf 20 R
abbrev idz28 : Nat := 134
def encz28_8 (x1 : ByteArray) (p : Int × Bool × Bool) : NRes := (NRes.mk (.node (some (IV.str x1)) (.node none (.node (some (IV.bool p.2.2)) .leaf .leaf) (.node (some (IV.int .i64 p.1)) .leaf .leaf)) (.node (some (IV.ptr 0 0)) (.node (some (IV.bool p.2.1)) .leaf .leaf) .leaf)) (IS.mk (.node (some (IObj.row (List.cons (IV.int .i64 (Int.ofNat 0)) (List.cons (IV.int .i64 (Int.ofNat 0)) [])))) .leaf .leaf) 1) [] 0)
def Rz28_in (lf : Nat) (x1 : ByteArray) (L8 : (Int × Bool × Bool) → Option Rtz28) : Option Rtz28 := (cond (S.has (List.cons (S.lit [97, 110, 100]) (List.cons (S.lit [97, 115]) (List.cons (S.lit [97, 116, 116, 97, 99, 104, 101, 100]) (List.cons (S.lit [99, 104, 101, 99, 107]) (List.cons (S.lit [99, 108, 97, 115, 115]) (List.cons (S.lit [99, 114, 101, 97, 116, 101]) (List.cons (S.lit [100, 101, 102, 101, 114, 114, 101, 100]) (List.cons (S.lit [100, 101, 116, 97, 99, 104, 97, 98, 108, 101]) (List.cons (S.lit [100, 111]) (List.cons (S.lit [101, 108, 115, 101]) (List.cons (S.lit [101, 110, 100]) (List.cons (S.lit [101, 110, 115, 117, 114, 101]) (List.cons (S.lit [102, 101, 97, 116, 117, 114, 101]) (List.cons (S.lit [102, 114, 111, 109]) (List.cons (S.lit [105, 102]) (List.cons (S.lit [105, 109, 112, 108, 105, 101, 115]) (List.cons (S.lit [105, 110, 104, 101, 114, 105, 116]) (List.cons (S.lit [105, 110, 118, 97, 114, 105, 97, 110, 116]) (List.cons (S.lit [108, 111, 99, 97, 108]) (List.cons (S.lit [108, 111, 111, 112]) (List.cons (S.lit [110, 111, 116]) (List.cons (S.lit [111, 108, 100]) (List.cons (S.lit [111, 114]) (List.cons (S.lit [112, 117, 116]) (List.cons (S.lit [114, 97, 105, 115, 101]) (List.cons (S.lit [114, 101, 100, 101, 102, 105, 110, 101]) (List.cons (S.lit [114, 101, 110, 97, 109, 101]) (List.cons (S.lit [114, 101, 113, 117, 105, 114, 101]) (List.cons (S.lit [114, 101, 115, 99, 117, 101]) (List.cons (S.lit [114, 101, 116, 114, 121]) (List.cons (S.lit [115, 101, 108, 101, 99, 116]) (List.cons (S.lit [115, 101, 112, 97, 114, 97, 116, 101]) (List.cons (S.lit [116, 104, 101, 110]) (List.cons (S.lit [117, 110, 100, 101, 102, 105, 110, 101]) (List.cons (S.lit [117, 110, 116, 105, 108]) (List.cons (S.lit [118, 97, 114, 105, 97, 110, 116]) (List.cons (S.lit [119, 104, 101, 110]) []))))))))))))))))))))))))))))))))))))) x1) (some (((Int.ofNat 3), (Int.ofNat 0)), ())) (cond (S.has (List.cons (S.lit [84, 114, 117, 101]) (List.cons (S.lit [70, 97, 108, 115, 101]) (List.cons (S.lit [86, 111, 105, 100]) (List.cons (S.lit [67, 117, 114, 114, 101, 110, 116]) (List.cons (S.lit [82, 101, 115, 117, 108, 116]) []))))) x1) (some (((Int.ofNat 3), (Int.ofNat 0)), ())) (cond (S.has (List.cons (S.lit [116, 114, 117, 101]) (List.cons (S.lit [102, 97, 108, 115, 101]) (List.cons (S.lit [118, 111, 105, 100]) (List.cons (S.lit [99, 117, 114, 114, 101, 110, 116]) (List.cons (S.lit [114, 101, 115, 117, 108, 116]) []))))) x1) (some (((Int.ofNat 0), (Int.ofNat 4)), ())) (L8 ((Int.ofNat 0), Bool.false, Bool.false)))))
def Rz28_8 (lf : Nat) (x1 : ByteArray) (L8 : (Int × Bool × Bool) → Option Rtz28) (p : Int × Bool × Bool) : Option Rtz28 := (cond (iltI p.1 (Int.ofNat (ByteArray.size x1))) (cond p.2.2 (cond p.2.1 (L8 ((IntKind.i64.wrap (Int.add p.1 (Int.ofNat 1))), Bool.true, Bool.true)) (match (jget (byteList x1) p.1) with | .none  => none | .some v23 => (cond (Bool.not (iltI v23 (Int.ofNat 65))) (L8 ((IntKind.i64.wrap (Int.add p.1 (Int.ofNat 1))), (Bool.not (iltI (Int.ofNat 90) v23)), Bool.true)) (L8 ((IntKind.i64.wrap (Int.add p.1 (Int.ofNat 1))), Bool.false, Bool.true))))) (match (jget (byteList x1) p.1) with | .none  => none | .some v27 => (cond (Bool.not (iltI v27 (Int.ofNat 97))) (cond p.2.1 (L8 ((IntKind.i64.wrap (Int.add p.1 (Int.ofNat 1))), Bool.true, (Bool.not (iltI (Int.ofNat 122) v27)))) (match (jget (byteList x1) p.1) with | .none  => none | .some v31 => (cond (Bool.not (iltI v31 (Int.ofNat 65))) (L8 ((IntKind.i64.wrap (Int.add p.1 (Int.ofNat 1))), (Bool.not (iltI (Int.ofNat 90) v31)), (Bool.not (iltI (Int.ofNat 122) v27)))) (L8 ((IntKind.i64.wrap (Int.add p.1 (Int.ofNat 1))), Bool.false, (Bool.not (iltI (Int.ofNat 122) v27))))))) (cond p.2.1 (L8 ((IntKind.i64.wrap (Int.add p.1 (Int.ofNat 1))), Bool.true, Bool.false)) (match (jget (byteList x1) p.1) with | .none  => none | .some v35 => (cond (Bool.not (iltI v35 (Int.ofNat 65))) (L8 ((IntKind.i64.wrap (Int.add p.1 (Int.ofNat 1))), (Bool.not (iltI (Int.ofNat 90) v35)), Bool.false)) (L8 ((IntKind.i64.wrap (Int.add p.1 (Int.ofNat 1))), Bool.false, Bool.false)))))))) (cond p.2.2 (cond p.2.1 (some (((Int.ofNat 0), (Int.ofNat 2)), ())) (cond (iltI (Int.ofNat 20) (Int.ofNat (ByteArray.size x1))) (some (((Int.ofNat 0), (Int.ofNat 3)), ())) (cond p.2.2 (some (((Int.ofNat 1), (Int.ofNat 0)), ())) (some (((Int.ofNat 2), (Int.ofNat 0)), ()))))) (cond (iltI (Int.ofNat 20) (Int.ofNat (ByteArray.size x1))) (some (((Int.ofNat 0), (Int.ofNat 3)), ())) (cond p.2.2 (some (((Int.ofNat 1), (Int.ofNat 0)), ())) (some (((Int.ofNat 2), (Int.ofNat 0)), ()))))))
abbrev gz28 : Type := ElA [.str] → Option Rtz28
abbrev sz28 (g : gz28) : Sm := ⟨[.str], [(false, cR1Kinded)], g⟩
abbrev Ez28 (g : gz28) (J : JT Rtz28) (lf : Nat) (x1 : ByteArray) := icodeT Try.prog ttT.get nmz28 fi134.nt (clz28 _ lf) lf stz28 J fi134.body [] (argGo (argV [.str] (x1, ())) 0 .leaf) S0 [] (lastK ttT.get fi134 (sz28 g))
abbrev Bz28 (g : gz28) (J : JT Rtz28) (lf k : Nat) (ms : List Nat) (q : NRes) := icodeFT Try.prog ttT.get nmz28 fi134.nt (clz28 _ lf) lf stz28 J k fi134.body [] ms q (lastK ttT.get fi134 (sz28 g))
theorem inz28 (g : gz28) (J : JT Rtz28) (lf : Nat) (x1 : ByteArray) : Ez28 g J lf x1 = Rz28_in lf x1 (fun q => J 8 [lf] (encz28_8 x1 q)) := by kernel_rfl
theorem stz28_8 (g : gz28) (J : JT Rtz28) (lf : Nat) (x1 : ByteArray) (m1 : Nat) (p : Int × Bool × Bool) : Bz28 g J lf 8 [m1] (encz28_8 x1 p) = Rz28_8 lf x1 (fun q => J 8 [m1] (encz28_8 x1 q)) p := by kernel_rfl
theorem ndz28 : (regs fi134.body).Nodup := by decide +kernel
theorem okz28 : okC nmz28 stz28 hdz28 fi134.body none = true := by kernel_rfl
def Az28 (g : gz28) (lf : Nat) : JT Rtz28 := atN Try.prog ttT.get nmz28 fi134 (sz28 g) (clz28 _ lf) lf hdz28
def Gz28_8 (lf : Nat) (x1 : ByteArray) : Nat → (Int × Bool × Bool) → Option Rtz28 := rounds fun K p => Rz28_8 lf x1 K p
theorem atz28_8 (g : gz28) (lf : Nat) (x1 : ByteArray) : ∀ (n : Nat) (p : Int × Bool × Bool), Az28 g lf 8 [n] (encz28_8 x1 p) = Gz28_8 lf x1 n p
 | 0, p => atz 8 [0] rfl _
 | n + 1, p => by
   have ih := atz28_8 g lf x1 n
   refine (atN_eq (iKe 20 _) ndz28 okz28 8 [n + 1] [n] rfl _).trans ((stz28_8 g (Az28 g lf) lf x1 n p).trans ?_)
   rw [(show (fun q => Az28 g lf 8 [n] (encz28_8 x1 q)) = (fun q => Gz28_8 lf x1 n q) from funext ih)]
   rfl
def Fz28 (lf : Nat) (x1 : ByteArray) : Option Rtz28 := Rz28_in lf x1 (fun q => Gz28_8 lf x1 lf q)
theorem runz28 (g : gz28) (lf : Nat) (x1 : ByteArray) : Ez28 g (Az28 g lf) lf x1 = Fz28 lf x1 := by
   refine (inz28 g (Az28 g lf) lf x1).trans ?_
   rw [(show (fun q => Az28 g lf 8 [lf] (encz28_8 x1 q)) = (fun q => Gz28_8 lf x1 lf q) from funext fun q => atz28_8 g lf x1 lf q)]
   rfl
theorem hxsz28 : HxsOK Try.prog hxlz28 := trivial
theorem mkz28 {g : gz28} (hsm : SmOK Try.prog smlz28) (hg : ∀ (x : ElA [.str]) (y : Rtz28), WfA [.str] x → g x = some y → ∃ lf, Fz28 lf x.1 = some y) : Con Try.prog 134 ⟨[.str], [(false, cR1Kinded)], g⟩ :=
 conT (nmf := nmz28) (sml := smlz28) (hxl := hxlz28) (st := stz28) (hd := hdz28) 20 mixed ttOK ftOK hsm hxsz28 cal134 rfl rfl (by kernel_rfl) (fun x => by kernel_rfl) ndz28 okz28 fun x y hx hy => by
   obtain ⟨lf, h⟩ := hg x y hx hy
   exact ⟨lf, (runz28 g lf x.1).trans h⟩
def nmz29 : Nat → Option Nm := fun k => none
def stz29 : Nat → Bool := fun k => false
def hdz29 := stz29
abbrev Rtz29 : Type := DR1Kinded × Unit
def smlz29 : List (Nat × Sm) := [(129, spz17), (131, spz26), (133, spz27), (134, spz28)]
def hxlz29 : List (Nat × Hx) := []
def clz29 (R : Type) (lf : Nat) : ClK R := icallK Try.prog ttT.get ftT.get (nm1 96 nmz29) (smL smlz29) (hxL hxlz29) lf 20 R
abbrev idz29 : Nat := 96
def Rz29_in (lf : Nat) (x1 : ByteArray) : Option Rtz29 := (cond (S.has (List.cons (S.lit [58, 61]) (List.cons (S.lit [47, 61]) (List.cons (S.lit [60, 61]) (List.cons (S.lit [62, 61]) (List.cons (S.lit [47, 47]) (List.cons (S.lit [61]) (List.cons (S.lit [60]) (List.cons (S.lit [62]) (List.cons (S.lit [43]) (List.cons (S.lit [45]) (List.cons (S.lit [42]) (List.cons (S.lit [37]) (List.cons (S.lit [40]) (List.cons (S.lit [41]) (List.cons (S.lit [91]) (List.cons (S.lit [93]) (List.cons (S.lit [123]) (List.cons (S.lit [125]) (List.cons (S.lit [44]) (List.cons (S.lit [59]) (List.cons (S.lit [58]) (List.cons (S.lit [46]) [])))))))))))))))))))))) x1) (some (((Int.ofNat 5), (Int.ofNat 0)), ())) (cond (ieqI (Int.ofNat (ByteArray.size x1)) (Int.ofNat 0)) (some (((Int.ofNat 0), (Int.ofNat 2)), ())) (cond (iltI (S.run0 x1) (Int.ofNat (ByteArray.size x1))) (some (((Int.ofNat 0), (Int.ofNat 2)), ())) (match (jget (byteList x1) (Int.ofNat 0)) with | .none  => none | .some v0 => (cond (ieqI v0 (Int.ofNat 95)) (some (((Int.ofNat 0), (Int.ofNat 2)), ())) (match (jget (byteList x1) (Int.ofNat 0)) with | .none  => none | .some v1 => (cond (Bool.not (iltI v1 (Int.ofNat 48))) (cond (Bool.not (iltI (Int.ofNat 57) v1)) (match (cond (Nat.ble 1 (ByteArray.size x1)) (some ((S.number x1), ())) none) with | .none  => none | .some v2 => (cond (Bool.not (ieqI v2.1.2 (Int.ofNat 0))) (some (((Int.ofNat 0), v2.1.2), ())) (some (((Int.ofNat 4), (Int.ofNat 0)), ())))) (some (((S.word x1).1, (S.word x1).2), ()))) (some (((S.word x1).1, (S.word x1).2), ())))))))))
abbrev gz29 : Type := ElA [.str] → Option Rtz29
abbrev sz29 (g : gz29) : Sm := ⟨[.str], [(false, cR1Kinded)], g⟩
abbrev Ez29 (g : gz29) (J : JT Rtz29) (lf : Nat) (x1 : ByteArray) := icodeT Try.prog ttT.get nmz29 fi96.nt (clz29 _ lf) lf stz29 J fi96.body [] (argGo (argV [.str] (x1, ())) 0 .leaf) S0 [] (lastK ttT.get fi96 (sz29 g))
theorem inz29 (g : gz29) (J : JT Rtz29) (lf : Nat) (x1 : ByteArray) : Ez29 g J lf x1 = Rz29_in lf x1 := by kernel_rfl
theorem ndz29 : (regs fi96.body).Nodup := by decide +kernel
theorem okz29 : okC nmz29 stz29 hdz29 fi96.body none = true := by kernel_rfl
def Az29 (g : gz29) (lf : Nat) : JT Rtz29 := atN Try.prog ttT.get nmz29 fi96 (sz29 g) (clz29 _ lf) lf hdz29
def Fz29 (lf : Nat) (x1 : ByteArray) : Option Rtz29 := Rz29_in lf x1
theorem runz29 (g : gz29) (lf : Nat) (x1 : ByteArray) : Ez29 g (Az29 g lf) lf x1 = Fz29 lf x1 := by
   refine (inz29 g (Az29 g lf) lf x1).trans ?_
   rfl
theorem hxsz29 : HxsOK Try.prog hxlz29 := trivial
theorem mkz29 {g : gz29} (hsm : SmOK Try.prog smlz29) (hg : ∀ (x : ElA [.str]) (y : Rtz29), WfA [.str] x → g x = some y → ∃ lf, Fz29 lf x.1 = some y) : Con Try.prog 96 ⟨[.str], [(false, cR1Kinded)], g⟩ :=
 conT (nmf := nmz29) (sml := smlz29) (hxl := hxlz29) (st := stz29) (hd := hdz29) 20 mixed ttOK ftOK hsm hxsz29 cal96 rfl rfl (by kernel_rfl) (fun x => by kernel_rfl) ndz29 okz29 fun x y hx hy => by
   obtain ⟨lf, h⟩ := hg x y hx hy
   exact ⟨lf, (runz29 g lf x.1).trans h⟩
def nmz30 : Nat → Option Nm := fun k => none
def stz30 : Nat → Bool := fun k => false
def hdz30 := stz30
abbrev Rtz30 : Type := Bool × Unit
def smlz30 : List (Nat × Sm) := [(96, spz29)]
def hxlz30 : List (Nat × Hx) := []
def clz30 (R : Type) (lf : Nat) : ClK R := icallK Try.prog ttT.get ftT.get (nm1 54 nmz30) (smL smlz30) (hxL hxlz30) lf 20 R
abbrev idz30 : Nat := 54
def Rz30_in (lf : Nat) (x1 : ByteArray) : Option Rtz30 := (cond (ieqI (S.shape x1).2 (Int.ofNat 0)) (cond (ieqI (S.shape x1).1 (Int.ofNat 2)) (cond (Bool.not (keqS x1 (S.lit [73, 78, 84, 69, 71, 69, 82]))) (cond (Bool.not (keqS x1 (S.lit [66, 79, 79, 76, 69, 65, 78]))) (cond (Bool.not (keqS x1 (S.lit [65, 78, 89]))) (some ((Bool.not (keqS x1 (S.lit [78, 79, 78, 69]))), ())) (some (Bool.false, ()))) (some (Bool.false, ()))) (some (Bool.false, ()))) (some (Bool.false, ()))) (some (Bool.false, ())))
abbrev gz30 : Type := ElA [.str] → Option Rtz30
abbrev sz30 (g : gz30) : Sm := ⟨[.str], [(false, .bool)], g⟩
abbrev Ez30 (g : gz30) (J : JT Rtz30) (lf : Nat) (x1 : ByteArray) := icodeT Try.prog ttT.get nmz30 fi54.nt (clz30 _ lf) lf stz30 J fi54.body [] (argGo (argV [.str] (x1, ())) 0 .leaf) S0 [] (lastK ttT.get fi54 (sz30 g))
theorem inz30 (g : gz30) (J : JT Rtz30) (lf : Nat) (x1 : ByteArray) : Ez30 g J lf x1 = Rz30_in lf x1 := by kernel_rfl
theorem ndz30 : (regs fi54.body).Nodup := by decide +kernel
theorem okz30 : okC nmz30 stz30 hdz30 fi54.body none = true := by kernel_rfl
def Az30 (g : gz30) (lf : Nat) : JT Rtz30 := atN Try.prog ttT.get nmz30 fi54 (sz30 g) (clz30 _ lf) lf hdz30
def Fz30 (lf : Nat) (x1 : ByteArray) : Option Rtz30 := Rz30_in lf x1
theorem runz30 (g : gz30) (lf : Nat) (x1 : ByteArray) : Ez30 g (Az30 g lf) lf x1 = Fz30 lf x1 := by
   refine (inz30 g (Az30 g lf) lf x1).trans ?_
   rfl
theorem hxsz30 : HxsOK Try.prog hxlz30 := trivial
theorem mkz30 {g : gz30} (hsm : SmOK Try.prog smlz30) (hg : ∀ (x : ElA [.str]) (y : Rtz30), WfA [.str] x → g x = some y → ∃ lf, Fz30 lf x.1 = some y) : Con Try.prog 54 ⟨[.str], [(false, .bool)], g⟩ :=
 conT (nmf := nmz30) (sml := smlz30) (hxl := hxlz30) (st := stz30) (hd := hdz30) 20 mixed ttOK ftOK hsm hxsz30 cal54 rfl rfl (by kernel_rfl) (fun x => by kernel_rfl) ndz30 okz30 fun x y hx hy => by
   obtain ⟨lf, h⟩ := hg x y hx hy
   exact ⟨lf, (runz30 g lf x.1).trans h⟩
theorem q_run_tree {α : Type} (v : Int) (X Y : α) : (cond (Bool.not (iltI v (Int.ofNat 97))) (cond (Bool.not (iltI (Int.ofNat 122) v)) X (cond (Bool.not (iltI v (Int.ofNat 65))) (cond (Bool.not (iltI (Int.ofNat 90) v)) X (cond (Bool.not (iltI v (Int.ofNat 48))) (cond (Bool.not (iltI (Int.ofNat 57) v)) X (cond (ieqI v (Int.ofNat 95)) X Y)) (cond (ieqI v (Int.ofNat 95)) X Y))) (cond (Bool.not (iltI v (Int.ofNat 48))) (cond (Bool.not (iltI (Int.ofNat 57) v)) X (cond (ieqI v (Int.ofNat 95)) X Y)) (cond (ieqI v (Int.ofNat 95)) X Y)))) (cond (Bool.not (iltI v (Int.ofNat 65))) (cond (Bool.not (iltI (Int.ofNat 90) v)) X (cond (Bool.not (iltI v (Int.ofNat 48))) (cond (Bool.not (iltI (Int.ofNat 57) v)) X (cond (ieqI v (Int.ofNat 95)) X Y)) (cond (ieqI v (Int.ofNat 95)) X Y))) (cond (Bool.not (iltI v (Int.ofNat 48))) (cond (Bool.not (iltI (Int.ofNat 57) v)) X (cond (ieqI v (Int.ofNat 95)) X Y)) (cond (ieqI v (Int.ofNat 95)) X Y)))) = cond (S.isPart v) X Y := by
 simp only [iltI_eq, ieqI_eq, oL]
 have hp : S.isPart v = (((!decide (v < 97) && !decide (122 < v)) || (!decide (v < 65) && !decide (90 < v))) || (!decide (v < 48) && !decide (57 < v)) || decide (v = 95)) := by
   have e : ∀ a b : Int, decide (a ≤ b) = !decide (b < a) := fun a b => by
     by_cases h : b < a
     · rw [decide_eq_true h, decide_eq_false (by omega)]; rfl
     · rw [decide_eq_false h, decide_eq_true (by omega)]; rfl
   simp only [S.isPart, S.isSmall, S.isCap, S.isDig, e]
 rw [hp]
 cases decide (v < 97) <;> cases decide (122 < v) <;> cases decide (v < 65) <;> cases decide (90 < v) <;> cases decide (v < 48) <;> cases decide (57 < v) <;> cases decide (v = 95) <;> rfl
theorem Fz26_eq (s : ByteArray) (hl : s.size < LF) : Fz26 LF s (Int.ofNat 0) = some (S.run0 s, ()) := by
 have hbl : (byteList s).length < LF := by rw [bl_len]; exact hl
 have h0 : ∀ i : Nat, i < LF → IntKind.i64.wrap (Int.add (Int.ofNat 0) (Int.ofNat i)) = Int.ofNat i := fun i hi => by
   rw [show Int.add (Int.ofNat 0) (Int.ofNat i) = Int.ofNat i from Int.zero_add _]
   exact wrap64_in (by unfold LF at hi; show _ ≤ (i : Int) ∧ (i : Int) < _; omega)
 refine (range1 (R := Rtz26) (byteList s) (fun rest i => some (Int.ofNat (i + (rest.takeWhile S.isPart).length), ())) hbl (fun K => ?_) (fun K i v rest r h => ?_)).trans ?_
 · simp only [Rz26_2, h0 _ hbl]
   rw [bl_len, ils]; rfl
 · have hlt : iltI (Int.ofNat i) (Int.ofNat s.size) = true := by have := r.ilt; rwa [bl_len] at this
   simp only [Rz26_2, h0 i (by have := r.lt; omega), hlt, r.get, r.next, h, cond_true, q_run_tree, List.takeWhile_cons]
   cases S.isPart v with
   | true => simp only [cond_true, if_true, List.length_cons]; exact congrArg (fun n => some (Int.ofNat n, ())) (by omega)
   | false => rfl
 · unfold S.run0; rw [Nat.zero_add]
theorem ieqI_true {a b : Int} (h : ieqI a b = true) : a = b := by rw [ieqI_eq] at h; exact of_decide_eq_true h
theorem conz26 : Con Try.prog idz26 spz26 := mkz26 trivial fun x y hx h => ⟨LF, by
 have h : cond (ieqI x.2.1 (Int.ofNat 0)) (some (S.run0 x.1, ())) none = some y := h
 cases hr : ieqI x.2.1 (Int.ofNat 0) with
 | false => rw [hr] at h; cases h
 | true =>
   rw [hr] at h
   have e : x.2.1 = Int.ofNat 0 := ieqI_true hr
   have e2 : Fz26 LF x.1 x.2.1 = Fz26 LF x.1 (Int.ofNat 0) := congrArg (Fz26 LF x.1) e
   exact e2.trans ((Fz26_eq x.1 hx.1).trans h)⟩
theorem bl_wrap {s : ByteArray} {b : Int} (h : b ∈ byteList s) : IntKind.i64.wrap b = b := by
 have := bl_range h
 exact wrap64_in (by omega)
theorem Fz27_eq (s : ByteArray) (hl : s.size < LF) (hp : 0 < s.size) : Fz27 LF s = some (S.number s, ()) := by
 have hbl : (byteList s).length < LF := by rw [bl_len]; exact hl
 have h10 : ∀ n : Int, Gz27_10 LF s LF (Int.ofNat 0, n) = some (S.numGo (byteList s) n, ()) := fun n => by
   refine range0 (σ := Int) (R := Rtz27) (byteList s) (fun i n => (i, n)) (fun _ _ => True) (fun rest _ n => some (S.numGo rest n, ())) hbl (fun K n _ => ?_) (fun K i v rest n _ r h => ?_) n trivial
   · simp only [Rz27_10]
     rw [bl_len, ils]; rfl
   · have hlt : iltI (Int.ofNat i) (Int.ofNat s.size) = true := by have := r.ilt; rwa [bl_len] at this
     simp only [Rz27_10, hlt, r.get, r.next, cond_true, bl_wrap r.mem, h _ trivial, S.numGo]
     generalize IntKind.i64.wrap (Int.sub (IntKind.i64.wrap (Int.add (IntKind.i64.wrap (Int.mul (Int.ofNat 10) n)) v)) (Int.ofNat 48)) = m
     rw [iltI_eq]
     simp only [oL]
     by_cases hm : 1099511627776 < m
     · rw [decide_eq_true hm, cond_true, if_pos hm]
     · rw [decide_eq_false hm, cond_false, if_neg hm]
 obtain ⟨b0, hb0⟩ : ∃ b, (byteList s)[0]? = some b := ⟨_, bl_get hp⟩
 have hj : jget (byteList s) (Int.ofNat 0) = some b0 := by rw [jget_nat]; exact hb0
 show Gz27_2 LF s LF (Int.ofNat 0) = _
 refine (range1 (R := Rtz27) (byteList s) (fun rest i => some ((if rest.all S.isDig = false then ((0 : Int), (2 : Int)) else if (byteList s)[0]? = some 48 ∧ 1 < s.size then (0, 2) else S.numGo (byteList s) 0), ())) hbl (fun K => ?_) (fun K i v rest r h => ?_)).trans ?_
 · simp only [Rz27_2, h10]
   rw [bl_len, ils, cond_false, List.all_nil, if_neg (by simp), hj, hb0]
   simp only [ilt_nat, ieqI_eq]
   simp only [oL]
   by_cases h48 : b0 = 48
   · by_cases h1 : 1 < s.size
     · rw [decide_eq_true h48, decide_eq_true h1, if_pos ⟨by rw [h48], h1⟩]; rfl
     · rw [decide_eq_true h48, decide_eq_false h1, if_neg (fun h => h1 h.2)]; rfl
   · rw [decide_eq_false h48, if_neg (fun h => h48 (Option.some.inj h.1))]; rfl
 · have hlt : iltI (Int.ofNat i) (Int.ofNat s.size) = true := by have := r.ilt; rwa [bl_len] at this
   rw [List.all_cons]
   simp only [Rz27_2, hlt, r.get, r.next, h, cond_true, iltI_eq]
   simp only [oL]
   unfold S.isDig
   by_cases a : v < 48
   · rw [decide_eq_true a, decide_eq_false (show ¬ 48 ≤ v by omega)]; rfl
   by_cases b : 57 < v
   · rw [decide_eq_false a, decide_eq_true b, decide_eq_true (show 48 ≤ v by omega), decide_eq_false (show ¬ v ≤ 57 by omega)]; rfl
   · rw [decide_eq_false a, decide_eq_false b, decide_eq_true (show 48 ≤ v by omega), decide_eq_true (show v ≤ 57 by omega)]; rfl
 · rfl
theorem conz27 : Con Try.prog idz27 spz27 := mkz27 trivial fun x y hx h => ⟨LF, by
 have h : cond (Nat.blt 0 (ByteArray.size x.1)) (some (S.number x.1, ())) none = some y := h
 cases hr : Nat.blt 0 (ByteArray.size x.1) with
 | false => rw [hr] at h; cases h
 | true => rw [hr] at h; exact (Fz27_eq x.1 hx.1 (by simpa using hr)).trans h⟩
theorem Fz28_eq (s : ByteArray) (hl : s.size < LF) : Fz28 LF s = some (S.word s, ()) := by
 have hbl : (byteList s).length < LF := by rw [bl_len]; exact hl
 obtain ⟨W, hW⟩ : ∃ W : Bool → Bool → Int × Int, ∀ lo hi, W lo hi = if (lo && hi) = true then (0, 2) else if 20 < s.size then (0, 3) else if lo = true then (1, 0) else (2, 0) := ⟨_, fun _ _ => rfl⟩
 have h8 : Gz28_8 LF s LF (Int.ofNat 0, false, false) = some (W ((byteList s).any S.isSmall) ((byteList s).any S.isCap), ()) := by
   refine (range0 (σ := Bool × Bool) (R := Rtz28) (byteList s) (fun i q => (i, q)) (fun _ _ => True) (fun rest _ q => some (W (q.2 || rest.any S.isSmall) (q.1 || rest.any S.isCap), ())) hbl (fun K q _ => ?_) (fun K i v rest q _ r h => ?_) (false, false) trivial).trans ?_
   · simp only [Rz28_8]
     rw [bl_len, ils, cond_false]
     simp only [List.any_nil, Bool.or_false, ilt_nat, hW]
     simp only [oL]
     obtain ⟨hi, lo⟩ := q
     by_cases h20 : 20 < s.size
     · simp only [decide_eq_true h20, if_pos h20]; cases hi <;> cases lo <;> rfl
     · simp only [decide_eq_false h20, if_neg h20]; cases hi <;> cases lo <;> rfl
   · have hlt : iltI (Int.ofNat i) (Int.ofNat s.size) = true := by have := r.ilt; rwa [bl_len] at this
     have hh := fun hi lo => h (hi, lo) trivial
     simp only [Rz28_8, hlt, r.get, r.next, cond_true, hh, iltI_eq]
     simp only [oL, List.any_cons]
     have e : ∀ a b : Int, decide (a ≤ b) = !decide (b < a) := fun a b => by
       by_cases h : b < a
       · rw [decide_eq_true h, decide_eq_false (by omega)]; rfl
       · rw [decide_eq_false h, decide_eq_true (by omega)]; rfl
     have e1 : S.isSmall v = (!decide (v < 97) && !decide (122 < v)) := by simp only [S.isSmall, e]
     have e2 : S.isCap v = (!decide (v < 65) && !decide (90 < v)) := by simp only [S.isCap, e]
     rw [e1, e2]
     generalize List.any rest S.isSmall = zs
     generalize List.any rest S.isCap = zc
     obtain ⟨hi, lo⟩ := q
     cases decide (v < 97) <;> cases decide (122 < v) <;> cases decide (v < 65) <;> cases decide (90 < v) <;> cases hi <;> cases lo <;> rfl
   · simp only [Bool.false_or]
 rw [hW] at h8
 simp only [Fz28, Rz28_in, S.word]
 show cond (S.has S.keywords s) _ (cond (S.has S.wordsT s) _ (cond (S.has S.smallWords s) _ (Gz28_8 LF s LF (Int.ofNat 0, false, false)))) = _
 rw [h8]
 cases S.has S.keywords s with
 | true => rfl
 | false =>
   cases S.has S.wordsT s with
   | true => rfl
   | false =>
     cases S.has S.smallWords s with
     | true => rfl
     | false => rfl
theorem conz28 : Con Try.prog idz28 spz28 := mkz28 ⟨conz17, trivial⟩ fun x y hx h => ⟨LF, (Fz28_eq x.1 hx.1).trans h⟩
theorem Fz29_eq (lf : Nat) (s : ByteArray) : Fz29 lf s = some (S.shape s, ()) := by
 simp only [Fz29, Rz29_in, S.shape]
 show cond (S.has S.signs s) _ _ = _
 cases S.has S.signs s with
 | true => rfl
 | false =>
   rw [cond_false, if_neg (by simp), ieq_nat]
   by_cases h0 : s.size = 0
   · rw [decide_eq_true h0, cond_true]
     have : (byteList s)[0]? = none := by rw [List.getElem?_eq_none_iff, bl_len, h0]; exact Nat.le_refl _
     rw [this]; rfl
   rw [decide_eq_false h0, cond_false]
   have hb := bl_get (s := s) (i := 0) (by omega)
   have hj : jget (byteList s) (Int.ofNat 0) = some ((s[0]'(by omega)).toNat : Int) := by rw [jget_nat]; exact hb
   generalize ((s[0]'(by omega)).toNat : Int) = b0 at hb hj
   rw [hj, hb]
   simp only [iltI_eq, ieqI_eq]
   simp only [oL]
   by_cases h1 : S.run0 s < Int.ofNat s.size
   · rw [decide_eq_true h1, if_pos h1]; rfl
   rw [decide_eq_false h1, if_neg h1, cond_false]
   by_cases h2 : b0 = 95
   · rw [decide_eq_true h2, if_pos h2]; rfl
   rw [decide_eq_false h2, if_neg h2, cond_false]
   have hn : Nat.ble 1 s.size = true := Nat.ble_eq_true_of_le (by omega)
   rw [hn]
   simp only [cond_true]
   have hd : S.isDig b0 = (!decide (b0 < 48) && !decide (57 < b0)) := by
     unfold S.isDig
     rw [Bool.eq_iff_iff]
     simp only [Bool.and_eq_true, decide_eq_true_eq, Bool.not_eq_true', decide_eq_false_iff_not]
     omega
   rw [hd]
   cases decide (b0 < 48) with
   | true => rfl
   | false =>
     cases decide (57 < b0) with
     | true => rfl
     | false =>
       by_cases h5 : (S.number s).2 = 0
       · rw [decide_eq_true h5, if_pos (show (!false && !false) = true from rfl), if_pos h5]; rfl
       · rw [decide_eq_false h5, if_pos (show (!false && !false) = true from rfl), if_neg h5]; rfl
theorem conz29 : Con Try.prog idz29 spz29 := mkz29 ⟨conz17, conz26, conz27, conz28, trivial⟩ fun x y hx h => ⟨LF, (Fz29_eq _ _).trans h⟩
theorem has_iff (l : List ByteArray) (s : ByteArray) : S.has l s = true ↔ s ∈ l := by
 unfold S.has
 rw [List.any_eq_true]
 exact ⟨fun ⟨x, hx, h⟩ => by rw [← of_decide_eq_true h]; exact hx, fun h => ⟨s, h, decide_eq_true rfl⟩⟩
theorem tw_all {α : Type} (p : α → Bool) : ∀ l : List α, (l.takeWhile p).length < l.length ↔ ¬ ∀ x ∈ l, p x = true
 | [] => by simp
 | x :: l => by
   have ih := tw_all p l
   rw [List.takeWhile_cons]
   cases hx : p x with
   | true =>
     rw [if_pos rfl]
     simp only [List.length_cons, Nat.add_lt_add_iff_right, ih, List.mem_cons, forall_eq_or_imp, hx, true_and]
   | false =>
     rw [if_neg (by simp)]
     simp only [List.length_nil, List.length_cons, List.mem_cons, forall_eq_or_imp, hx]
     constructor
     · intro _ h; exact absurd h.1 (by simp)
     · intro _; omega
theorem run_iff (s : ByteArray) : S.run0 s < Int.ofNat s.size ↔ ¬ ∀ b ∈ byteList s, S.isPart b = true := by
 rw [← tw_all, bl_len]
 unfold S.run0
 exact Int.ofNat_lt
theorem signs_head : ∀ w ∈ S.signs, ∀ b, (byteList w)[0]? = some b → S.isCap b = false := by decide +kernel
theorem keys_low : ∀ w ∈ S.keywords, (byteList w).any S.isSmall = true := by decide +kernel
theorem words_low : ∀ w ∈ S.wordsT, (byteList w).any S.isSmall = true := by decide +kernel
theorem small_low : ∀ w ∈ S.smallWords, (byteList w).any S.isSmall = true := by decide +kernel
theorem shape_class (s : ByteArray) : ((S.shape s).2 = 0 ∧ (S.shape s).1 = 2) ↔ s.size ≤ 20 ∧ (∃ b, (byteList s)[0]? = some b ∧ 65 ≤ b ∧ b ≤ 90) ∧ (∀ b ∈ byteList s, S.isPart b = true ∧ S.isSmall b = false) := by
 constructor
 · intro h
   unfold S.shape at h
   split at h
   · exact absurd h.2 (by simp)
   split at h
   · exact absurd h.1 (by simp)
   rename_i b hb
   split at h
   · exact absurd h.1 (by simp)
   rename_i hrun
   have hpart := Decidable.not_not.1 (fun hn => hrun ((run_iff s).2 hn))
   split at h
   · exact absurd h.1 (by simp)
   rename_i h95
   split at h
   · split at h
     · exact absurd h.2 (by simp)
     · rename_i hn; exact absurd h.1 hn
   rename_i hdig
   unfold S.word at h
   split at h
   · exact absurd h.2 (by simp)
   split at h
   · exact absurd h.1 (by simp)
   split at h
   · exact absurd h.1 (by simp)
   split at h
   · exact absurd h.1 (by simp)
   rename_i h20
   split at h
   · exact absurd h.2 (by simp)
   rename_i hlow
   have hlow' : ∀ c ∈ byteList s, S.isSmall c = false := fun c hc => by
     cases hs : S.isSmall c with
     | false => rfl
     | true => exact absurd (List.any_eq_true.2 ⟨c, hc, hs⟩) hlow
   have hm := List.mem_of_getElem? hb
   have hcap : S.isCap b = true := by
     have := hpart b hm
     unfold S.isPart at this
     rw [hlow' b hm, Bool.false_or] at this
     simp only [Bool.or_eq_true, decide_eq_true_eq] at this
     rcases this with (h | h) | h
     · exact h
     · exact absurd h hdig
     · exact absurd h h95
   unfold S.isCap at hcap
   simp only [Bool.and_eq_true, decide_eq_true_eq] at hcap
   exact ⟨by omega, ⟨b, hb, hcap.1, hcap.2⟩, fun c hc => ⟨hpart c hc, hlow' c hc⟩⟩
 · rintro ⟨h20, ⟨b, hb, c1, c2⟩, hall⟩
   have hcap : S.isCap b = true := by unfold S.isCap; simp; omega
   have hs1 : ¬ S.has S.signs s = true := fun h => by
     have := signs_head s ((has_iff _ _).1 h) b hb
     rw [hcap] at this; cases this
   have hlow : (byteList s).any S.isSmall = false := by
     rw [List.any_eq_false]
     exact fun c hc => by rw [(hall c hc).2]; simp
   have hno : ∀ l : List ByteArray, (∀ w ∈ l, (byteList w).any S.isSmall = true) → S.has l s = false := fun l hl => by
     cases hh : S.has l s with
     | false => rfl
     | true => have := hl s ((has_iff _ _).1 hh); rw [hlow] at this; cases this
   have hrun : ¬ S.run0 s < Int.ofNat s.size := fun h => (run_iff s).1 h fun c hc => (hall c hc).1
   have hdig : ¬ S.isDig b = true := by unfold S.isDig; simp; omega
   unfold S.shape S.word
   rw [if_neg hs1, hb]
   simp only
   rw [if_neg hrun, if_neg (by omega), if_neg hdig, hno _ keys_low, hno _ words_low, hno _ small_low, hlow]
   rw [if_neg (by simp), if_neg (by simp), if_neg (by simp), if_neg (by omega), if_neg (by simp)]
   exact ⟨rfl, rfl⟩
theorem Fz30_eq (lf : Nat) (s : ByteArray) : Fz30 lf s = some (S.class_ s, ()) := by
 have key : ∀ z : Bool, (z = true ↔ S.class_ s = true) → (some (z, ()) : Option Rtz30) = some (S.class_ s, ()) := fun z h => by rw [Bool.eq_iff_iff.2 h]
 have hw : s ∈ S.classWords ↔ (s = S.lit [73, 78, 84, 69, 71, 69, 82] ∨ s = S.lit [66, 79, 79, 76, 69, 65, 78] ∨ s = S.lit [65, 78, 89] ∨ s = S.lit [78, 79, 78, 69]) := by
   simp only [S.classWords, List.mem_cons, List.not_mem_nil, or_false]; exact Iff.rfl
 have hs := shape_class s
 have hc := class_iff s
 simp only [Fz30, Rz30_in, ieqI_eq, keqS]
 simp only [oL]
 by_cases e : ¬ (S.shape s).2 = 0
 · rw [decide_eq_false e]
   exact key _ ⟨fun h => (by cases h), fun h => absurd (hs.2 ⟨(hc.1 h).1, (hc.1 h).2.1, (hc.1 h).2.2.1⟩).1 e⟩
 have e := Decidable.not_not.1 e
 rw [decide_eq_true e, cond_true]
 by_cases k : ¬ (S.shape s).1 = 2
 · rw [decide_eq_false k]
   exact key _ ⟨fun h => (by cases h), fun h => absurd (hs.2 ⟨(hc.1 h).1, (hc.1 h).2.1, (hc.1 h).2.2.1⟩).2 k⟩
 have k := Decidable.not_not.1 k
 rw [decide_eq_true k, cond_true]
 have hh := hs.1 ⟨e, k⟩
 have hcl : S.class_ s = true ↔ ¬ s ∈ S.classWords := ⟨fun h => (hc.1 h).2.2.2, fun h => hc.2 ⟨hh.1, hh.2.1, hh.2.2, h⟩⟩
 by_cases w1 : s = S.lit [73, 78, 84, 69, 71, 69, 82]
 · rw [decide_eq_true w1]
   exact key _ ⟨fun h => (by cases h), fun h => absurd (hw.2 (.inl w1)) (hcl.1 h)⟩
 rw [decide_eq_false w1]
 by_cases w2 : s = S.lit [66, 79, 79, 76, 69, 65, 78]
 · rw [decide_eq_true w2]
   exact key _ ⟨fun h => (by cases h), fun h => absurd (hw.2 (.inr (.inl w2))) (hcl.1 h)⟩
 rw [decide_eq_false w2]
 by_cases w3 : s = S.lit [65, 78, 89]
 · rw [decide_eq_true w3]
   exact key _ ⟨fun h => (by cases h), fun h => absurd (hw.2 (.inr (.inr (.inl w3)))) (hcl.1 h)⟩
 rw [decide_eq_false w3]
 by_cases w4 : s = S.lit [78, 79, 78, 69]
 · rw [decide_eq_true w4]
   exact key _ ⟨fun h => (by cases h), fun h => absurd (hw.2 (.inr (.inr (.inr w4)))) (hcl.1 h)⟩
 rw [decide_eq_false w4]
 refine key _ ⟨fun _ => hcl.2 fun h => ?_, fun _ => rfl⟩
 rcases hw.1 h with h | h | h | h
 · exact w1 h
 · exact w2 h
 · exact w3 h
 · exact w4 h
theorem conz30 : Con Try.prog idz30 spz30 := mkz30 ⟨conz29, trivial⟩ fun x y hx h => ⟨LF, (Fz30_eq _ _).trans h⟩
theorem con_rCheckForms : Con Try.prog idz24 spz24 := conz24 conz30
theorem con_rCheck : Con Try.prog idz25 spz25 := conz25 con_rCheckForms
end Go.Proofs.Ytcnhjofpmpipfaa
end
