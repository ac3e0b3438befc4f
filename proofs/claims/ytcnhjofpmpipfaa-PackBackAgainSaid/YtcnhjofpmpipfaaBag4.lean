/- Texts: Jy, Jvs, Jra, Qsp, Qsp2, Lsp, Lsan, Lsn, Qsp3, Lg3, Lg1, Qg3, Jhx, Qg1, Qp1, Qg2, Jcl, Qcl. -/
import Derived.Test.YtcnhjofpmpipfaaBag3
import Derived.Test.YtcnhjofpmpipfaaBag1
import Derived.KernelRfl
/- Contracts out of plain forms; tables of contracts as lists. -/
section
set_option linter.unusedVariables false
namespace Go.Jx
open Go Go.Sx Go.RowKit
universe u

def smL : List (Nat × Sm) → Nat → Option Sm
  | [], _ => none
  | e :: l, f => cond (Nat.beq f e.1) (some e.2) (smL l f)
def SmOK (P : Program) : List (Nat × Sm) → Prop
  | [] => True
  | e :: l => Con P e.1 e.2 ∧ SmOK P l
theorem smL_ok {P : Program} : ∀ {l : List (Nat × Sm)}, SmOK P l → ∀ f s, smL l f = some s → Con P f s
  | [], _, f, s, h => by cases h
  | e :: l, hl, f, s, h => by
    unfold smL at h
    cases hb : Nat.beq f e.1 with
    | true => rw [hb, cond_true] at h; cases h; rw [Nat.eq_of_beq_eq_true hb]; exact hl.1
    | false => rw [hb, cond_false] at h; exact smL_ok hl.2 f s h
def hxL : List (Nat × Hx) → Nat → Option Hx
  | [], _ => none
  | e :: l, f => cond (Nat.beq f e.1) (some e.2) (hxL l f)
def HxsOK (P : Program) : List (Nat × Hx) → Prop
  | [] => True
  | e :: l => HxOK P e.1 e.2.f ∧ HxsOK P l
theorem hxL_ok {P : Program} : ∀ {l : List (Nat × Hx)}, HxsOK P l → ∀ f s, hxL l f = some s → HxOK P f s.f
  | [], _, f, s, h => by cases h
  | e :: l, hl, f, s, h => by
    unfold hxL at h
    cases hb : Nat.beq f e.1 with
    | true => rw [hb, cond_true] at h; cases h; rw [Nat.eq_of_beq_eq_true hb]; exact hl.1
    | false => rw [hb, cond_false] at h; exact hxL_ok hl.2 f s h
def nm1 (f : Nat) (nmf : Nat → Option Nm) : Nat → Nat → Option Nm := fun g => cond (Nat.beq g f) nmf fun _ => none
theorem nm1_self (f : Nat) (nmf : Nat → Option Nm) : nm1 f nmf f = nmf := by unfold nm1; rw [Nat.beq_refl, cond_true]
/-- The contract of a function out of its run with stops ahead of rounds. -/
theorem conT {P : Program} {tt : Nat → Option TI} {ft : Nat → Option FI} {sml : List (Nat × Sm)} {hxl : List (Nat × Hx)} {f : Nat} {s : Sm} {fi : FI} {nmf : Nat → Option Nm} {st hd : Nat → Bool} (n : Nat) (hm : P.follows .mixedOrders = true) (htt : TT P tt) (hft : FT P ft) (hsm : SmOK P sml)
    (hhx : HxsOK P hxl) (hC : Callable P f) (h1 : smL sml f = none) (h2 : hxL hxl f = none) (h3 : ft f = some fi) (h4 : ∀ x, Nat.ble (argV s.pts x).length fi.nt = true) (hn : (regs fi.body).Nodup) (hl : okC nmf st hd fi.body none = true)
    (hrun : ∀ (x : ElA s.pts) (y : ElR s.rts), WfA s.pts x → s.f x = some y → ∃ lf,
      icodeT P tt nmf fi.nt (icallK P tt ft (nm1 f nmf) (smL sml) (hxL hxl) lf n (ElR s.rts)) lf st (atN P tt nmf fi s (icallK P tt ft (nm1 f nmf) (smL sml) (hxL hxl) lf n (ElR s.rts)) lf hd) fi.body [] (argGo (argV s.pts x) 0 .leaf) S0 [] (lastK tt fi s) = some y) : Con P f s := by
  refine conK (nm := nm1 f nmf) (sm := smL sml) (hx := hxL hxl) hm htt hft (smL_ok hsm) (hxL_ok hhx) hC fun x y hx2 hy => ?_
  obtain ⟨lf, hr⟩ := hrun x y hx2 hy
  refine ⟨n + 1, lf, ?_⟩
  rw [← at_in (icallK_eq n _) hn hl] at hr
  have e := nm1_self f nmf
  unfold icallK
  simp only [h1, h2, h3, h4, cond_true, e]
  exact hr
/-- A text out of its bytes. -/
def S.lit (l : List Nat) : ByteArray := ⟨⟨l.map UInt8.ofNat⟩⟩
end Go.Jx
end

/- The calls of strings.IndexFunc; the interpreter is monotone in its calls. -/
section
set_option linter.unusedVariables false
namespace Go.Jx
open Go Go.Sx Go.RowKit
universe u

section
variable {P : Program} {tt : Nat → Option TI} {nm : Nat → Option Nm} {B nt lf : Nat} {round : Option Nat} {cl cl' : Cl}
def ClLe (cl cl' : Cl) : Prop := ∀ t vs S r, cl t vs S = some r → cl' t vs S = some r
theorem istep_mono (h : ClLe cl cl') {fr : PT IV} {S : IS} {o : Oper} {r : Res} (hr : istep P tt nt cl fr S o = some r) : istep P tt nt cl' fr S o = some r := by
  obtain ⟨dst, op, ty, pos, aft, g⟩ := o
  cases op <;> try exact hr
  rename_i c
  obtain ⟨callee, args, ts⟩ := c
  cases callee <;> try exact hr
  rename_i x
  simp only [istep, oget] at hr ⊢
  generalize evo nt fr x = e1 at hr ⊢
  cases e1 with
  | none => cases hr
  | some v =>
    simp only at hr ⊢
    generalize evL nt fr args.toList = e2 at hr ⊢
    cases e2 with
    | none => cases hr
    | some vs =>
      cases v <;> simp only at hr ⊢ <;> first | (cases hr; done) | exact h _ _ _ _ hr
theorem iseq_mono (h : ClLe cl cl') {ops : List Oper} : ∀ {l : List Oper} {fr : PT IV} {S : IS} {q : FRes}, iseq P tt nt cl ops l fr S = some q → iseq P tt nt cl' ops l fr S = some q
  | [], fr, S, q, hq => hq
  | o :: l, fr, S, q, hq => by
    unfold iseq at hq ⊢
    cases hgk : gOK ops fr o.guard with
    | false => rw [hgk] at hq; cases hq
    | true =>
    rw [hgk, cond_true] at hq
    rw [cond_true]
    cases hw : wantI ops nt fr o.guard with
    | true =>
      rw [hw, cond_true] at hq
      rw [cond_true]
      cases hs : istep P tt nt cl fr S o with
      | none => rw [hs] at hq; cases hq
      | some r =>
        rw [hs] at hq
        rw [istep_mono h hs]
        simp only at hq ⊢
        cases hn : iseq P tt nt cl ops l (putD o.dst r.v fr) r.S with
        | none => rw [hn] at hq; cases hq
        | some q2 => rw [hn] at hq; rw [iseq_mono h hn]; exact hq
    | false =>
      rw [hw, cond_false] at hq
      rw [cond_false]
      exact iseq_mono h hq
theorem irecs_mono (h : ClLe cl cl') {ops : List Oper} : ∀ {l : List Oper} {fr : PT IV} {S : IS} {q : Recs}, irecs P tt nt cl ops l fr S = some q → irecs P tt nt cl' ops l fr S = some q
  | [], fr, S, q, hq => hq
  | o :: l, fr, S, q, hq => by
    unfold irecs at hq ⊢
    cases hgk : gOK ops fr o.guard with
    | false => rw [hgk] at hq; cases hq
    | true =>
    rw [hgk, cond_true] at hq
    rw [cond_true]
    cases hw : wantI ops nt fr o.guard with
    | true =>
      rw [hw, cond_true] at hq
      rw [cond_true]
      cases hs : istep P tt nt cl fr S o with
      | none => rw [hs] at hq; cases hq
      | some r =>
        rw [hs] at hq
        rw [istep_mono h hs]
        simp only at hq ⊢
        cases hn : irecs P tt nt cl ops l (putD o.dst r.v fr) r.S with
        | none => rw [hn] at hq; cases hq
        | some q2 => rw [hn] at hq; rw [irecs_mono h hn]; exact hq
    | false =>
      rw [hw, cond_false] at hq
      rw [cond_false]
      cases hn : irecs P tt nt cl ops l (putD o.dst (.tup []) fr) S with
      | none => rw [hn] at hq; cases hq
      | some q2 => rw [hn] at hq; rw [irecs_mono h hn]; exact hq
theorem iany_mono (h : ClLe cl cl') {ops : List Oper} {fr : PT IV} {S : IS} {q : FRes} (hq : iany P tt nt cl ops fr S = some q) : iany P tt nt cl' ops fr S = some q := by
  unfold iany at hq ⊢
  cases hn : irecs P tt nt cl ops ops fr S with
  | none => rw [hn] at hq; cases hq
  | some q2 => rw [hn] at hq; rw [irecs_mono h hn]; exact hq
theorem ifin_mono (h : ClLe cl cl') {f : Nat} {caps : List IV} {S : IS} {id : Nat} {fr : PT IV} {ds : List Nat} {rd : Nat} {q : CRes} (hq : ifin cl f caps S id fr ds rd = some q) : ifin cl' f caps S id fr ds rd = some q := by
  unfold ifin at hq ⊢
  cases hn : cl (.fn f) (.yield id :: caps) S with
  | none => rw [hn] at hq; cases hq
  | some r => rw [hn] at hq; rw [h _ _ _ _ hn]; exact hq
theorem icode_mono (h : ClLe cl cl') : ∀ (c : Code) {fr : PT IV} {S : IS} {ds : List Nat} {q : CRes}, icode P tt nm B nt cl lf round c fr S ds = some q → icode P tt nm B nt cl' lf round c fr S ds = some q := by
  intro c
  induction c with
  | skip => intro fr S ds q hq; exact hq
  | label l => intro fr S ds q hq; exact hq
  | exit id => intro fr S ds q hq; exact hq
  | goto l => intro fr S ds q hq; exact hq
  | ret => intro fr S ds q hq; exact hq
  | refuse _ => intro fr S ds q hq; exact hq
  | region id ops draw =>
    intro fr S ds q hq
    simp only [icode] at hq ⊢
    cases hx : inorm nt (nm id) B fr S ds with
    | none => rw [hx] at hq; cases hq
    | some x =>
      rw [hx] at hq
      simp only at hq ⊢
      cases draw with
      | true =>
        simp only [cond_true] at hq ⊢
        cases hn : iany P tt nt cl ops.toList x.fr x.S with
        | none => rw [hn] at hq; cases hq
        | some r => rw [hn] at hq; rw [iany_mono h hn]; exact hq
      | false =>
        simp only [cond_false] at hq ⊢
        cases hn : iseq P tt nt cl ops.toList ops.toList x.fr x.S with
        | none => rw [hn] at hq; cases hq
        | some r => rw [hn] at hq; rw [iseq_mono h hn]; exact hq
  | seq x y ihx ihy =>
    intro fr S ds q hq
    simp only [icode] at hq ⊢
    cases hn : icode P tt nm B nt cl lf round x fr S ds with
    | none => rw [hn] at hq; cases hq
    | some r =>
      rw [hn] at hq
      rw [ihx hn]
      simp only at hq ⊢
      cases he : r.e <;> rw [he] at hq <;> simp only at hq ⊢ <;> try exact hq
      cases hn2 : icode P tt nm B nt cl lf round y r.fr r.S r.ds with
      | none => rw [hn2] at hq; cases hq
      | some r2 => rw [hn2] at hq; rw [ihy hn2]; exact hq
  | cond c x y ihx ihy =>
    intro fr S ds q hq
    simp only [icode] at hq ⊢
    cases hv : evo nt fr c with
    | none => rw [hv] at hq; cases hq
    | some v =>
      rw [hv] at hq
      cases v <;> simp only at hq ⊢ <;> try (cases hq; done)
      rename_i b
      cases b with
      | true => exact ihx hq
      | false => exact ihy hq
  | block id c ih =>
    intro fr S ds q hq
    simp only [icode] at hq ⊢
    cases hn : icode P tt nm B nt cl lf round c fr S ds with
    | none => rw [hn] at hq; cases hq
    | some r => rw [hn] at hq; rw [ih hn]; exact hq
  | scope c ih =>
    intro fr S ds q hq
    simp only [icode] at hq ⊢
    cases hn : icode P tt nm B nt cl lf round c fr S ds with
    | none => rw [hn] at hq; cases hq
    | some r => rw [hn] at hq; rw [ih hn]; exact hq
  | loop c ih =>
    intro fr S ds q hq
    simp only [icode] at hq ⊢
    cases hm : loopM nm c with
    | some m =>
      rw [hm] at hq
      simp only at hq ⊢
      obtain ⟨q0, hq0, rfl⟩ := mbO_some hq
      have key : ∀ n fr S ds q, iiterM (icode P tt nm B nt cl lf round c) m.1 m.2 n fr S ds = some q → iiterM (icode P tt nm B nt cl' lf round c) m.1 m.2 n fr S ds = some q := by
        intro n
        induction n with
        | zero => intro fr S ds q hq; exact hq
        | succ n ihn =>
          intro fr S ds q hq
          unfold iiterM at hq ⊢
          cases hn : icode P tt nm B nt cl lf round c fr S ds with
          | none => rw [hn] at hq; cases hq
          | some r =>
            rw [hn] at hq
            rw [ih hn]
            simp only at hq ⊢
            cases hb : (subm r.rd m.1 && subm r.wr m.2) with
            | false => rw [hb] at hq; cases hq
            | true =>
              rw [hb, cond_true] at hq
              rw [cond_true]
              cases he : r.e <;> rw [he] at hq <;> simp only at hq ⊢ <;> first | exact ihn _ _ _ _ hq | exact hq
      rw [key _ _ _ _ _ hq0]
      rfl
    | none =>
      rw [hm] at hq
      simp only at hq ⊢
      have key : ∀ n fr S ds q, iiter (icode P tt nm B nt cl lf round c) n fr S ds = some q → iiter (icode P tt nm B nt cl' lf round c) n fr S ds = some q := by
        intro n
        induction n with
        | zero => intro fr S ds q hq; exact hq
        | succ n ihn =>
          intro fr S ds q hq
          unfold iiter at hq ⊢
          cases hn : icode P tt nm B nt cl lf round c fr S ds with
          | none => rw [hn] at hq; cases hq
          | some r =>
            rw [hn] at hq
            rw [ih hn]
            simp only at hq ⊢
            cases he : r.e <;> rw [he] at hq <;> simp only at hq ⊢ <;> try exact hq
            cases hn2 : iiter (icode P tt nm B nt cl lf round c) n r.fr r.S r.ds with
            | none => rw [hn2] at hq; cases hq
            | some r2 => rw [hn2] at hq; rw [ihn _ _ _ _ hn2]; exact hq
      exact key _ _ _ _ _ hq
  | rangeFunc g ps assign body ih1 ih2 =>
    intro fr S ds q hq
    simp only [icode] at hq ⊢
    obtain ⟨q0, hq0, rfl⟩ := mbO_some hq
    cases hv : evo nt fr g with
    | none => rw [hv] at hq0; cases hq0
    | some v =>
      rw [hv] at hq0
      cases v <;> simp only at hq0 ⊢ <;> try (cases hq0; done)
      cases round with
      | none => simp only at hq0 ⊢; rw [ifin_mono h hq0]; rfl
      | some l =>
        simp only at hq0 ⊢
        cases ho : S.heap.get l with
        | none => rw [ho] at hq0; cases hq0
        | some o =>
          rw [ho] at hq0
          cases o <;> simp only at hq0 ⊢ <;> try (cases hq0; done)
          rw [ifin_mono h hq0]; rfl
end

/-! ### Runes of a text -/
def sixO (p : Nat → Int → Option Bool) (s : ByteArray) (b : Bool) : Nat → Nat → Option Int
  | 0, _ => none
  | n + 1, i => cond (Nat.blt i s.size) (match p (i + (Utf8.decode s i).2) (Int.ofNat (Utf8.decode s i).1) with
    | none => none
    | some a => cond (decide (a = b)) (some (Int.ofNat i)) (sixO p s b n (i + (Utf8.decode s i).2))) (some (-1))
def sixF (cl : Cl) (vs : List IV) (S : IS) : Option Res := match vs with
  | [.str s, .fn g caps, .bool b] => match sixO (fun q x => ob (cl (.fn g) (.int .i32 x :: caps) (S.new (.iter s q))) (ansB (below S.next))) s b (s.size + 1) 0 with
    | none => none
    | some i => some ⟨.int .i64 i, S, below S.next, 0⟩
  | _ => none
def sixK (clP : ClP) (R : Type) (vs : List IV) (S : IS) (kk : Res → Option R) : Option R := match vs with
  | [.str s, .fn g caps, .bool b] => match sixO (fun q x => clP Bool (.fn g) (.int .i32 x :: caps) (S.new (.iter s q)) (ansB (below S.next))) s b (s.size + 1) 0 with
    | none => none
    | some i => kk ⟨.int .i64 i, S, below S.next, 0⟩
  | _ => none
theorem six_eq (cl : Cl) (clP : ClP) (h : ∀ R, ClEq cl (clP R)) (R : Type) (vs : List IV) (S : IS) (kk : Res → Option R) : sixK clP R vs S kk = ob (sixF cl vs S) kk := by
  unfold sixK sixF
  split
  · rename_i s g caps b
    simp only [h Bool _ _ _ _]
    cases sixO (fun q x => ob (cl (.fn g) (.int .i32 x :: caps) (S.new (.iter s q))) (ansB (below S.next))) s b (s.size + 1) 0 <;> rfl
  · rfl
def sixHx : Hx := ⟨sixF, sixK, six_eq⟩
theorem sixF_inv {cl : Cl} {vs : List IV} {S : IS} {r : Res} (h : sixF cl vs S = some r) : ∃ s g caps b i, vs = [.str s, .fn g caps, .bool b] ∧ sixO (fun q x => ob (cl (.fn g) (.int .i32 x :: caps) (S.new (.iter s q))) (ansB (below S.next))) s b (s.size + 1) 0 = some i ∧ r = ⟨.int .i64 i, S, below S.next, 0⟩ := by
  unfold sixF at h
  split at h
  · rename_i s g caps b
    split at h <;> cases h
    rename_i i hi
    exact ⟨_, _, _, _, _, rfl, hi, rfl⟩
  · cases h
def nmS (mr mw : Nat) : Nat → Option Nm := fun j => cond (Nat.beq j 2) (some ⟨[1, 2, 10], [], [], [], [], mr, mw, true⟩) none
def frS (g : Nat) (caps : List IV) (b : Bool) (id : Nat) : PT IV := ((PT.leaf.set (.fn g caps) 1).set (.bool b) 2).set (.ptr id 0) 10
def clT (test : Tgt → List IV → IS → Bool) (c : Res) : Cl := fun t vs S => cond (test t vs S) (some c) none
structure SixFacts (P : Program) (tt : Nat → Option TI) (fi : FI) (A B L C : Code) : Prop where
  body : fi.body = .seq A (.seq (.seq B (.block 0 (.loop L))) C)
  three : Nat.ble 3 fi.nt = true
  head : ∀ mr mw, okC (nmS mr mw) (fun k => Nat.beq k 2) (fun k => Nat.beq k 2) L (some 2) = true
  ab : ∀ (R : Type) (clK : ClK R) (B0 mr mw lf : Nat) (s : ByteArray) (g : Nat) (caps : List IV) (b : Bool) (S : IS) (kk : _ → Option R), icodeK P tt (nmS mr mw) B0 fi.nt clK lf none (.seq A B) (argGo [.str s, .fn g caps, .bool b] 0 .leaf) S [] (fun r => kk (tup [1, 2, 10] r)) =
    kk (.normal, [.fn g caps, .bool b, .ptr S.next 0], S.new (.iter s 0), [], (mb B0 0).lor (mb B0 0), (mb B0 0).lor (mb B0 0))
  l : ∀ (R : Type) (B0 mr mw lf : Nat) (g : Nat) (caps : List IV) (b a : Bool) (id rd : Nat) (S S' : IS) (test : Tgt → List IV → IS → Bool) (kk : _ → Option R), icodeK P tt (nmS mr mw) B0 fi.nt (fun t vs S kk => cond (test t vs S) (kk ⟨.bool a, S', rd, 0⟩) none) lf none L (frS g caps b id) S [] (fun r => kk (tup [1, 2, 6, 10] r)) =
    match S.heap.get id with
    | some (.iter s p) => cond (Nat.blt p s.size)
      (cond (test (.fn g) (.int .i32 (Int.ofNat (Utf8.decode s p).1) :: caps) (S.set id (.iter s (p + (Utf8.decode s p).2))))
        (cond (decide (a = b))
          (kk (.ret, [.fn g caps, .bool b, .int .i64 (Int.ofNat p), .ptr id 0], S', [], (mb B0 0).lor (Nat.lor 0 ((mb B0 0).lor ((mb B0 (Nat.lor 0 (Nat.lor 0 (rd.lor 0)))).lor ((mb B0 0).lor 0)))),
            (mb B0 (Nat.lor 0 ((Nat.pow 2 id).lor 0))).lor (Nat.lor 0 ((mb B0 0).lor ((mb B0 0).lor ((mb B0 0).lor 0))))))
          (kk (.normal, [.fn g caps, .bool b, .unk, .ptr id 0], S', [], (mb B0 0).lor (Nat.lor 0 ((mb B0 0).lor ((mb B0 (Nat.lor 0 (Nat.lor 0 (rd.lor 0)))).lor 0))),
            (mb B0 (Nat.lor 0 ((Nat.pow 2 id).lor 0))).lor (Nat.lor 0 ((mb B0 0).lor ((mb B0 0).lor 0))))))
        none)
      (kk (.exit 0, [.fn g caps, .bool b, .unk, .ptr id 0], S, [], (mb B0 ((Nat.pow 2 id).lor 0)).lor 0, (mb B0 0).lor 0))
    | _ => none
  e : ∀ (R : Type) (clK : ClK R) (B0 mr mw lf : Nat) (fr : PT IV) (S : IS) (kk : CRes → Option R), icodeK P tt (nmS mr mw) B0 fi.nt clK lf none C fr S [] kk = kk ⟨.ret, fr.set (.int .i64 (-1)) 6, S, [], (mb B0 0).lor 0, (mb B0 0).lor 0⟩
  res : fi.res = [.tmp 6]
  nt6 : Nat.blt 6 fi.nt = true
  lm : ∀ mr mw, loopM (nmS mr mw) L = some (mr, mw)
theorem PT.one_set {α : Type u} (x y : α) : ∀ (f n : Nat), n ≤ f → (PT.one x f n).set y n = PT.one y f n
  | 0, n, h => by
    obtain rfl : n = 0 := by omega
    rfl
  | f + 1, n, h => by
    by_cases hn : n = 0
    · subst hn; rfl
    · by_cases h2 : n % 2 = 1
      · simp only [PT.one, beq_f hn, cond_false, beq_t h2, cond_true, PT.set]
        rw [PT.one_set x y f _ (by omega)]
      · simp only [PT.one, beq_f hn, cond_false, beq_f h2, PT.set]
        rw [PT.one_set x y f _ (by omega)]
theorem PT.set_set {α : Type u} (x y : α) : ∀ (t : PT α) (n : Nat), (t.set x n).set y n = t.set y n
  | .leaf, n => PT.one_set x y n n (Nat.le_refl _)
  | .node v l r, n => by
    by_cases hn : n = 0
    · subst hn; rfl
    · by_cases h2 : n % 2 = 1
      · simp only [PT.set, beq_f hn, cond_false, beq_t h2, cond_true]
        rw [PT.set_set x y l]
      · simp only [PT.set, beq_f hn, cond_false, beq_f h2]
        rw [PT.set_set x y r]
theorem IS.new_set (S : IS) (o o' : IObj) : (S.new o).set S.next o' = S.new o' := by
  unfold IS.new IS.set
  simp only [PT.set_set]
theorem IS.new_get (S : IS) (o : IObj) : (S.new o).heap.get S.next = some o := by
  unfold IS.new
  simp only [PT.get_set, if_true]
theorem subm_iff {a m : Nat} : subm a m = true ↔ ∀ j, a.testBit j = true → m.testBit j = true := by
  constructor
  · intro h j hj; exact subm_tin (T := fun j => m.testBit j = true) h (fun j hj => hj) j hj
  · intro h
    unfold subm
    have : a ||| m = m := Nat.eq_of_testBit_eq fun j => by
      rw [Nat.testBit_or]
      cases ha : a.testBit j with
      | false => rfl
      | true => rw [h j ha]; rfl
    rw [this]; exact Nat.beq_refl m
theorem below_bit (n j : Nat) : (below n).testBit j = decide (j < n) := by unfold below; exact Nat.testBit_two_pow_sub_one ..
theorem hx_int2 {P : Program} {tt : Nat → Option TI} {fi : FI} {f : Nat} {nm : Nat → Option Nm} {lf : Nat} {cl : Cl} {vs : List IV} {S S1 : IS} {fr : PT IV} {e : IEx} {rd wr : Nat} {k : IntKind} {i : Int} {t : Nat} (hm : P.follows .mixedOrders = true) (htt : TT P tt) (hfi : FIok P f fi) (hcl : ClOK P cl) (hfr : ClFr cl)
    (hb : Nat.ble vs.length fi.nt = true) (hr : icode P tt nm S.next fi.nt cl lf none fi.body (argGo vs 0 .leaf) S [] = some ⟨e, fr, S1, [], rd, wr⟩) (hw : wr % 2 ^ S.next = 0) (he : e.leaves = true) (hres : fi.res = [.tmp t]) (hnt : Nat.blt t fi.nt = true) (hs : slot fr t = .int k i)
    {T : TW} {E : Env} {us : List Value} (p : Pre T E S) (hrd : tin T.r (below S.next)) (hv : VRs E vs us) : Callable P f ∧ CallsIn Fence.wide 0 P f us.toArray E.w (RetE T E S ⟨.int k i, S, below S.next, 0⟩) := by
  refine body_ok (fi := fi) (r := ⟨.int k i, S, (rd ||| 0) % 2 ^ S.next, 0⟩) hm htt hfi hcl hfr hb hr he ?_ p (below_tin hrd) (fun j hj => by simp at hj) hv
  have e1 : imarks ([] : List Nat) S1 = some (S1, 0) := rfl
  simp only [ileave, e1, hres, ires, hnt, cond_true, hs]
  simp only [tupI, igc, low2, low0, Nat.or_zero, hw, Nat.beq_refl, Bool.and_self, cond_true]
variable {P : Program} {tt : Nat → Option TI} {fi : FI} {A B L C : Code}
theorem six_loop (F : SixFacts P tt fi A B L C) {cl : Cl} (hcalm : Calm cl) {s : ByteArray} {b : Bool} {g : Nat} {caps : List IV} {S : IS} {i : Int} {lf : Nat} : ∀ (fuel p : Nat) (fr : PT IV), (slot fr 1 = .fn g caps ∧ slot fr 2 = .bool b ∧ slot fr 10 = .ptr S.next 0) →
    sixO (fun q x => ob (cl (.fn g) (.int .i32 x :: caps) (S.new (.iter s q))) (ansB (below S.next))) s b fuel p = some i →
    ∃ r, iiterM (icode P tt (nmS (below (S.next + 1)) (2 ^ S.next)) S.next fi.nt cl lf none L) (below (S.next + 1)) (2 ^ S.next) fuel fr (S.new (.iter s p)) [] = some r ∧ r.ds = [] ∧ r.rd = below (S.next + 1) ∧ r.wr = 2 ^ S.next ∧ ((r.e = .ret ∧ slot r.fr 6 = .int .i64 i) ∨ (r.e = .exit 0 ∧ i = -1)) := by
  intro fuel
  induction fuel with
  | zero => intro p fr hs hi; cases hi
  | succ n ih =>
    intro p fr hs hi
    have e1 := fun cl => headedO (P := P) (tt := tt) (B := S.next) (nt := fi.nt) (lf := lf) (cl := cl) (h := 2) (m := ⟨[1, 2, 10], [], [], [], [], below (S.next + 1), 2 ^ S.next, true⟩) rfl rfl (fr := fr) (fr' := frS g caps b S.next) (by
      intro t ht
      simp only [List.mem_cons, List.not_mem_nil, or_false] at ht
      rcases ht with rfl | rfl | rfl
      · exact hs.1
      · exact hs.2.1
      · exact hs.2.2) (c := L) (S := S.new (.iter s p)) (ds := []) (F.head _ _)
    have hb1 : ∀ x, subm x (below S.next) = true → subm (mb S.next x) (below (S.next + 1)) = true := fun x hx => mb_subm (by
      rw [subm_iff] at hx ⊢
      intro j hj
      have := hx j hj
      rw [below_bit] at this ⊢
      simp only [decide_eq_true_eq] at this ⊢
      omega)
    have hb2 : subm (mb S.next (2 ^ S.next)) (2 ^ S.next) = true := mb_subm (subm_self _)
    have hb3 : subm (mb S.next (2 ^ S.next)) (below (S.next + 1)) = true := mb_subm (by
      rw [subm_iff]
      intro j hj
      rw [Nat.testBit_two_pow] at hj
      rw [below_bit]
      simp only [decide_eq_true_eq] at hj ⊢
      omega)
    have hpw : Nat.pow 2 S.next = 2 ^ S.next := rfl
    unfold sixO at hi
    cases hlt : Nat.blt p s.size with
    | false =>
      rw [hlt, cond_false] at hi
      cases hi
      have e2 := F.l (IEx × List IV × IS × List Nat × Nat × Nat) S.next (below (S.next + 1)) (2 ^ S.next) lf g caps b false S.next 0 (S.new (.iter s p)) S (fun _ _ _ => false) some
      rw [IS.new_get] at e2
      simp only [hlt, cond_false, cond_true, mb_zero, lor_zero, zero_lor] at e2
      have ec : (fun (t : Tgt) (vs : List IV) (S : IS) (kk : Res → Option (IEx × List IV × IS × List Nat × Nat × Nat)) => (none : Option (IEx × List IV × IS × List Nat × Nat × Nat))) = fun t vs S kk => ob ((fun _ _ _ => none : Cl) t vs S) kk := rfl
      rw [ec] at e2
      obtain ⟨r, hr, ht⟩ := run_tup e2
      have hr := icode_mono (cl' := cl) (fun t vs S r h => by cases h) _ hr
      simp only [tup, Prod.mk.injEq] at ht
      obtain ⟨t1, t2, t3, t4, t5, t6⟩ := ht
      refine ⟨⟨.exit 0, r.fr, S.new (.iter s p), [], below (S.next + 1), 2 ^ S.next⟩, ?_, rfl, rfl, rfl, .inr ⟨rfl, rfl⟩⟩
      unfold iiterM
      rw [e1 cl]
      have hr' : icode P tt (nmS (below (S.next + 1)) (2 ^ S.next)) S.next fi.nt cl lf none L (frS g caps b S.next) (S.new (.iter s p)) [] = some r := hr
      simp only [hr', t5, t6, hpw, hb3, subm_zero, Bool.and_self, cond_true, t1, t3, t4]
    | true =>
      rw [hlt, cond_true] at hi
      cases hc : cl (.fn g) (.int .i32 (Int.ofNat (Utf8.decode s p).1) :: caps) (S.new (.iter s (p + (Utf8.decode s p).2))) with
      | none => rw [hc] at hi; cases hi
      | some r0 =>
      rw [hc] at hi
      simp only [ob] at hi
      obtain ⟨v0, S0', rd0, wr0⟩ := r0
      cases v0 <;> simp only [ansB] at hi <;> try (cases hi; done)
      rename_i a
      cases hmk : (Nat.beq wr0 0 && subm rd0 (below S.next)) with
      | false => rw [hmk] at hi; cases hi
      | true =>
      rw [hmk] at hi
      simp only [Bool.and_eq_true] at hmk
      have hw0 : wr0 = 0 := Nat.eq_of_beq_eq_true hmk.1
      subst hw0
      have hS : S0' = S.new (.iter s (p + (Utf8.decode s p).2)) := hcalm _ _ _ _ hc rfl rfl
      subst hS
      simp only [cond_true] at hi
      have hsm := hb1 _ hmk.2
      let c0 : Res := ⟨.bool a, S.new (.iter s (p + (Utf8.decode s p).2)), rd0, 0⟩
      let test : Tgt → List IV → IS → Bool := fun t vs S => @decide (cl t vs S = some c0) (Classical.propDecidable _)
      have hle : ClLe (clT test c0) cl := fun t vs S r h => by
        unfold clT at h
        cases ht : test t vs S with
        | false => rw [ht] at h; cases h
        | true =>
          rw [ht] at h; cases h
          exact @of_decide_eq_true _ (Classical.propDecidable _) ht
      have e2 := F.l (IEx × List IV × IS × List Nat × Nat × Nat) S.next (below (S.next + 1)) (2 ^ S.next) lf g caps b a S.next rd0 (S.new (.iter s p)) (S.new (.iter s (p + (Utf8.decode s p).2))) test some
      rw [IS.new_get] at e2
      have htest : test (.fn g) (.int .i32 (Int.ofNat (Utf8.decode s p).1) :: caps) ((S.new (.iter s p)).set S.next (.iter s (p + (Utf8.decode s p).2))) = true := by
        rw [IS.new_set]
        exact @decide_eq_true _ (Classical.propDecidable _) hc
      simp only [hlt, htest, cond_true, mb_zero, lor_zero, zero_lor] at e2
      cases hab : decide (a = b) with
      | true =>
        rw [hab, cond_true] at e2 hi
        cases hi
        have ec : (fun (t : Tgt) (vs : List IV) (S : IS) (kk : Res → Option (IEx × List IV × IS × List Nat × Nat × Nat)) => cond (test t vs S) (kk c0) none) = fun t vs S kk => ob (clT test c0 t vs S) kk := by
          funext t vs S kk
          unfold clT
          cases test t vs S <;> rfl
        rw [ec] at e2
        obtain ⟨r, hr, ht⟩ := run_tup e2
        have hr := icode_mono hle _ hr
        simp only [tup, Prod.mk.injEq, List.map_cons, List.cons.injEq] at ht
        obtain ⟨t1, t2, t3, t4, t5, t6⟩ := ht
        refine ⟨⟨.ret, r.fr, S.new (.iter s (p + (Utf8.decode s p).2)), [], below (S.next + 1), 2 ^ S.next⟩, ?_, rfl, rfl, rfl, .inl ⟨rfl, t2.2.2.1⟩⟩
        unfold iiterM
        rw [e1 cl]
        have hr' : icode P tt (nmS (below (S.next + 1)) (2 ^ S.next)) S.next fi.nt cl lf none L (frS g caps b S.next) (S.new (.iter s p)) [] = some r := hr
        simp only [hr', t5, t6, hpw, hsm, hb2, Bool.and_self, cond_true, t1, t3, t4]
      | false =>
        rw [hab, cond_false] at e2 hi
        have ec : (fun (t : Tgt) (vs : List IV) (S : IS) (kk : Res → Option (IEx × List IV × IS × List Nat × Nat × Nat)) => cond (test t vs S) (kk c0) none) = fun t vs S kk => ob (clT test c0 t vs S) kk := by
          funext t vs S kk
          unfold clT
          cases test t vs S <;> rfl
        rw [ec] at e2
        obtain ⟨r, hr, ht⟩ := run_tup e2
        have hr := icode_mono hle _ hr
        simp only [tup, Prod.mk.injEq, List.map_cons, List.cons.injEq] at ht
        obtain ⟨t1, t2, t3, t4, t5, t6⟩ := ht
        obtain ⟨q, q1, q2⟩ := ih (p + (Utf8.decode s p).2) r.fr ⟨t2.1, t2.2.1, t2.2.2.2.1⟩ hi
        refine ⟨q, ?_, q2⟩
        unfold iiterM
        rw [e1 cl]
        have hr' : icode P tt (nmS (below (S.next + 1)) (2 ^ S.next)) S.next fi.nt cl lf none L (frS g caps b S.next) (S.new (.iter s p)) [] = some r := hr
        simp only [hr', t5, t6, hpw, hsm, hb2, Bool.and_self, cond_true, t1, t3, t4]
        exact q1
theorem mb_mod (n : Nat) : mb n (2 ^ n) % 2 ^ n = 0 := by
  unfold mb
  cases Nat.beq n 0
  · exact Nat.mod_self _
  · exact Nat.zero_mod _
theorem six_ok {f : Nat} (F : SixFacts P tt fi A B L C) (hm : P.follows .mixedOrders = true) (htt : TT P tt) (hfi : FIok P f fi) : HxOK P f sixF := by
  refine ⟨fun cl hcl hfr hcalm vs S r h T E us p hrd hwr hv => ?_, fun cl hfr vs S r h => ?_, fun cl hcalm vs S r h _ _ => ?_⟩
  · obtain ⟨s, g, caps, b, i, rfl, hi, rfl⟩ := sixF_inv h
    obtain ⟨ra, hra, hta⟩ := run_tup (cl := cl) (F.ab (IEx × List IV × IS × List Nat × Nat × Nat) (fun t vs S kk => ob (cl t vs S) kk) S.next (below (S.next + 1)) (2 ^ S.next) (s.size + 1) s g caps b S some)
    obtain ⟨rae, rafr, raS, rads, rard, rawr⟩ := ra
    simp only [tup, Prod.mk.injEq, List.map_cons, List.map_nil, List.cons.injEq, mb_zero, lor_zero] at hta
    obtain ⟨rfl, ⟨s1, s2, s3, _⟩, rfl, rfl, rfl, rfl⟩ := hta
    obtain ⟨r, hr, hds, hrd2, hwr2, hcase⟩ := six_loop F hcalm (lf := s.size + 1) (s.size + 1) 0 rafr ⟨s1, s2, s3⟩ hi
    obtain ⟨re, rfr, rS, rds, rrd, rwr⟩ := r
    simp only at hds hrd2 hwr2 hcase
    subst hds; subst hrd2; subst hwr2
    simp only [icode] at hra
    cases hA : icode P tt (nmS (below (S.next + 1)) (2 ^ S.next)) S.next fi.nt cl (s.size + 1) none A (argGo [.str s, .fn g caps, .bool b] 0 .leaf) S [] with
    | none => rw [hA] at hra; cases hra
    | some qa =>
    rw [hA] at hra
    simp only at hra
    obtain ⟨qe, qfr, qS, qds, qrd, qwr⟩ := qa
    cases qe <;> simp only at hra <;> try (cases hra; done)
    cases hB : icode P tt (nmS (below (S.next + 1)) (2 ^ S.next)) S.next fi.nt cl (s.size + 1) none B qfr qS qds with
    | none => rw [hB] at hra; cases hra
    | some qb =>
    rw [hB] at hra
    obtain ⟨be, bfr, bS, bds, brd, bwr⟩ := qb
    simp only [CRes.or, Option.some.injEq, CRes.mk.injEq] at hra
    obtain ⟨rfl, rfl, rfl, rfl, h5, h6⟩ := hra
    obtain ⟨z1, z2⟩ : qwr = 0 ∧ bwr = 0 := by
      constructor
      · exact Nat.eq_of_testBit_eq fun j => by have := congrArg (fun x => x.testBit j) h6; simp [Nat.testBit_or] at this; simp [this.1]
      · exact Nat.eq_of_testBit_eq fun j => by have := congrArg (fun x => x.testBit j) h6; simp [Nat.testBit_or] at this; simp [this.2]
    subst z1; subst z2
    rcases hcase with ⟨he, hs⟩ | ⟨he, hi2⟩
    · subst he
      refine hx_int2 (vs := [.str s, .fn g caps, .bool b]) (nm := nmS (below (S.next + 1)) (2 ^ S.next)) (lf := s.size + 1) (fr := rfr) (e := .ret) (k := .i64) (i := i) (t := 6) (S1 := rS) (rd := qrd ||| (brd ||| mb S.next (below (S.next + 1)))) (wr := mb S.next (2 ^ S.next)) hm htt hfi hcl hfr F.three ?_ (mb_mod _) rfl F.res F.nt6 hs p hrd hv
      rw [F.body]
      simp only [icode, hA, hB, F.lm, hr, mbO, mbR, CRes.or, Nat.zero_or]
    · subst he; subst hi2
      have hc := runK (F.e CRes (fun t vs S kk => ob (cl t vs S) kk) S.next (below (S.next + 1)) (2 ^ S.next) (s.size + 1) rfr rS some)
      refine hx_int2 (vs := [.str s, .fn g caps, .bool b]) (nm := nmS (below (S.next + 1)) (2 ^ S.next)) (lf := s.size + 1) (fr := rfr.set (.int .i64 (-1)) 6) (e := .ret) (k := .i64) (i := -1) (t := 6) (S1 := rS) (rd := qrd ||| ((brd ||| mb S.next (below (S.next + 1))) ||| 0)) (wr := mb S.next (2 ^ S.next)) hm htt hfi hcl hfr F.three ?_ (mb_mod _) rfl F.res F.nt6 (by rw [slot_set, if_pos rfl]) p hrd hv
      rw [F.body]
      simp only [icode, hA, hB, F.lm, hr, mbO, mbR, mb_zero, CRes.or, Nat.zero_or, Nat.beq_refl, cond_true, hc, lor_zero, Nat.or_zero]
  · obtain ⟨_, _, _, _, _, _, _, rfl⟩ := sixF_inv h
    exact FrO.same _ rfl
  · obtain ⟨_, _, _, _, _, _, _, rfl⟩ := sixF_inv h
    rfl
end Go.Jx
end

/- Loops over lists by an index, and what helps to read plain forms. -/
section
set_option linter.unusedVariables false
namespace Go.Jx
open Go Go.Sx Go.RowKit
universe u

theorem cond_if {α : Type} (b : Bool) (x y : α) : cond b x y = if b = true then x else y := by cases b <;> rfl
/-- Small numbers. -/
theorem oL : Int.ofNat 0 = 0 ∧ Int.ofNat 1 = 1 ∧ Int.ofNat 2 = 2 ∧ Int.ofNat 3 = 3 ∧ Int.ofNat 4 = 4 ∧ Int.ofNat 5 = 5 ∧ Int.ofNat 6 = 6 ∧ Int.ofNat 7 = 7 ∧ Int.ofNat 8 = 8 ∧ Int.ofNat 9 = 9 ∧ Int.ofNat 10 = 10 ∧ Int.ofNat 12 = 12 ∧ Int.ofNat 16 = 16 ∧ Int.ofNat 20 = 20 ∧ Int.ofNat 24 = 24 ∧ Int.ofNat 30 = 30 ∧ Int.ofNat 31 = 31 ∧ Int.ofNat 40 = 40 ∧ Int.ofNat 45 = 45 ∧ Int.ofNat 48 = 48 ∧ Int.ofNat 57 = 57 ∧ Int.ofNat 60 = 60 ∧ Int.ofNat 64 = 64 ∧ Int.ofNat 65 = 65 ∧ Int.ofNat 70 = 70 ∧ Int.ofNat 90 = 90 ∧ Int.ofNat 95 = 95 ∧ Int.ofNat 97 = 97 ∧ Int.ofNat 100 = 100 ∧ Int.ofNat 122 = 122 ∧ Int.ofNat 127 = 127 ∧ Int.ofNat 128 = 128 ∧ Int.ofNat 200 = 200 ∧ Int.ofNat 256 = 256 ∧ Int.ofNat 400 = 400 ∧ Int.ofNat 410 = 410 ∧ Int.ofNat 1500 = 1500 ∧ Int.ofNat 60000 = 60000 ∧ Int.ofNat 60010 = 60010 ∧ Int.ofNat 65536 = 65536 ∧ Int.ofNat 16777216 = 16777216 ∧ Int.ofNat 2147483647 = 2147483647 ∧ Int.ofNat 1099511627776 = 1099511627776 :=
  ⟨rfl, rfl, rfl, rfl, rfl, rfl, rfl, rfl, rfl, rfl, rfl, rfl, rfl, rfl, rfl, rfl, rfl, rfl, rfl, rfl, rfl, rfl, rfl, rfl, rfl, rfl, rfl, rfl, rfl, rfl, rfl, rfl, rfl, rfl, rfl, rfl, rfl, rfl, rfl, rfl, rfl, rfl, rfl⟩
theorem oLn : Int.negSucc 0 = -1 ∧ Int.negSucc 1099511627775 = -1099511627776 := ⟨rfl, rfl⟩
theorem jget_nat {α : Type} {l : List α} {i : Nat} : jget l (Int.ofNat i) = l[i]? := by unfold jget; rw [if_pos (by simp)]; simp
theorem jget_of {α : Type} {l : List α} {i : Int} (h0 : 0 ≤ i) (h1 : i < l.length) : ∃ x, jget l i = some x ∧ l[i.toNat]? = some x ∧ x ∈ l := by
  have h2 : i.toNat < l.length := by omega
  refine ⟨l[i.toNat], ?_, List.getElem?_eq_getElem h2, List.getElem_mem h2⟩
  unfold jget
  rw [if_pos h0, List.getElem?_eq_getElem h2]
theorem bsz_one : ∀ c : TC, 1 ≤ bsz c
  | .int k => by cases k <;> simp [bsz]
  | .bool => by simp [bsz]
  | .str => by simp [bsz]
  | .list _ => by simp [bsz]
  | .two a b => by have := bsz_one a; simp only [bsz]; omega
def LF : Nat := 9223372036854775808
theorem wf_len {c : TC} {l : El (.list c)} (h : WfE (.list c) l) : List.length (α := El c) l < LF := by
  have h1 := h.1
  have h2 := bsz_one c
  have : List.length (α := El c) l * 1 ≤ List.length (α := El c) l * bsz c := Nat.mul_le_mul_left _ h2
  unfold LF
  omega
theorem wrap_succ {n : Nat} (h : n + 1 < LF) : IntKind.i64.wrap (Int.add (Int.ofNat n) (Int.ofNat 1)) = Int.ofNat (n + 1) := by
  unfold LF at h
  rw [show Int.add (Int.ofNat n) (Int.ofNat 1) = Int.ofNat (n + 1) from rfl]
  exact wrap64_in (by simp; omega)
/-- What is known at a round over an element of a list. -/
structure Rnd {α : Type} (l : List α) (i : Nat) (v : α) (rest : List α) : Prop where
  drop : l.drop i = v :: rest
  mem : v ∈ l
  lt : i < l.length
  ilt : iltI (Int.ofNat i) (Int.ofNat l.length) = true
  get : jget l (Int.ofNat i) = some v
  get? : l[i]? = some v
  next : IntKind.i64.wrap (Int.add (Int.ofNat i) (Int.ofNat 1)) = Int.ofNat (i + 1)
  tail : l.drop (i + 1) = rest
  take : l.take (i + 1) = l.take i ++ [v]
theorem ilt_self (n : Nat) : iltI (Int.ofNat n) (Int.ofNat n) = false := by rw [iltI_eq]; simp
theorem rnd_of {α : Type} {l : List α} {i : Nat} (h : i < l.length) (hl : l.length < LF) : ∃ v rest, Rnd l i v rest := by
  refine ⟨l[i], l.drop (i + 1), List.drop_eq_getElem_cons h, List.getElem_mem h, h, by rw [iltI_eq]; simp; omega, ?_, List.getElem?_eq_getElem h, wrap_succ (by omega), rfl, ?_⟩
  · rw [jget_nat]; exact List.getElem?_eq_getElem h
  · rw [List.take_succ_eq_append_getElem h]
/-- A loop over a list by an index. -/
theorem range_by {α σ A R : Type} {T : (A → Option R) → A → Option R} (l : List α) (mk : Int → σ → A) (I : Nat → σ → Prop) (g : List α → Nat → σ → Option R) (hl : l.length < LF)
    (hnil : ∀ K s, I l.length s → T K (mk (Int.ofNat l.length) s) = g [] l.length s)
    (hcons : ∀ K i v rest s, I i s → Rnd l i v rest → (∀ s', I (i + 1) s' → K (mk (Int.ofNat (i + 1)) s') = g rest (i + 1) s') → T K (mk (Int.ofNat i) s) = g (v :: rest) i s) :
    ∀ n i s, i ≤ l.length → I i s → l.length - i < n → rounds T n (mk (Int.ofNat i) s) = g (l.drop i) i s
  | 0, i, s, _, _, h => by omega
  | n + 1, i, s, hi, hI, h => by
    show T (rounds T n) (mk (Int.ofNat i) s) = _
    by_cases e : i = l.length
    · subst e
      rw [hnil _ _ hI, List.drop_length]
    · obtain ⟨v, rest, r⟩ := rnd_of (l := l) (i := i) (by omega) hl
      rw [hcons (rounds T n) i v rest s hI r fun s' hI' => ?_, r.drop]
      rw [range_by l mk I g hl hnil hcons n (i + 1) s' (by have := r.lt; omega) hI' (by omega), r.tail]
/-- The same from the start. -/
theorem range0 {α σ A R : Type} {T : (A → Option R) → A → Option R} (l : List α) (mk : Int → σ → A) (I : Nat → σ → Prop) (g : List α → Nat → σ → Option R) (hl : l.length < LF)
    (hnil : ∀ K s, I l.length s → T K (mk (Int.ofNat l.length) s) = g [] l.length s)
    (hcons : ∀ K i v rest s, I i s → Rnd l i v rest → (∀ s', I (i + 1) s' → K (mk (Int.ofNat (i + 1)) s') = g rest (i + 1) s') → T K (mk (Int.ofNat i) s) = g (v :: rest) i s)
    (s : σ) (hI : I 0 s) : rounds T LF (mk (Int.ofNat 0) s) = g l 0 s := by
  have := range_by l mk I g hl hnil hcons LF 0 s (Nat.zero_le _) hI (by omega)
  rwa [List.drop_zero] at this
/-- Without a state. -/
theorem range1 {α R : Type} {T : (Int → Option R) → Int → Option R} (l : List α) (g : List α → Nat → Option R) (hl : l.length < LF)
    (hnil : ∀ K, T K (Int.ofNat l.length) = g [] l.length)
    (hcons : ∀ K i v rest, Rnd l i v rest → K (Int.ofNat (i + 1)) = g rest (i + 1) → T K (Int.ofNat i) = g (v :: rest) i) : rounds T LF (Int.ofNat 0) = g l 0 :=
  range0 (σ := Unit) l (fun i _ => i) (fun _ _ => True) (fun rest i _ => g rest i) hl (fun K _ _ => hnil K) (fun K i v rest _ _ r h => hcons K i v rest r (h () trivial)) () trivial
theorem sixO_some {p : Nat → Int → Option Bool} {q : Int → Bool} (hp : ∀ i r, p i r = some (q r)) (s : ByteArray) (b : Bool) : ∀ (n i : Nat), s.size - i < n → ∃ k, sixO p s b n i = some k
  | 0, i, h => by omega
  | n + 1, i, h => by
    unfold sixO
    cases hlt : Nat.blt i s.size with
    | false => exact ⟨_, rfl⟩
    | true =>
      have h1 : i < s.size := by simpa using hlt
      simp only [cond_true, hp]
      cases decide (q (Int.ofNat (Utf8.decode s i).1) = b) with
      | true => exact ⟨_, rfl⟩
      | false =>
        rw [cond_false]
        have := decode_width s i
        exact sixO_some hp s b n _ (by omega)
namespace S
/-- The index of the first that is so; -1 if there is none. -/
def idx {α : Type} (p : α → Bool) (l : List α) : Int := match l.findIdx? p with
  | some j => Int.ofNat j
  | none => -1
theorem idx_nonneg {α : Type} (p : α → Bool) (l : List α) : 0 ≤ idx p l ↔ l.any p = true := by
  unfold idx
  cases h : l.findIdx? p with
  | none =>
    simp only
    rw [List.findIdx?_eq_none_iff] at h
    constructor
    · intro h; omega
    · intro h2
      rw [List.any_eq_true] at h2
      obtain ⟨x, hx, hp⟩ := h2
      rw [h x hx] at hp; cases hp
  | some j =>
    simp only
    obtain ⟨h1, h2, h3⟩ := List.findIdx?_eq_some_iff_getElem.1 h
    constructor
    · intro _
      rw [List.any_eq_true]
      exact ⟨_, List.getElem_mem h1, h2⟩
    · intro _; exact Int.natCast_nonneg _
theorem idx_get {α : Type} {p : α → Bool} {l : List α} (h : 0 ≤ idx p l) : ∃ x, jget l (idx p l) = some x ∧ l[(idx p l).toNat]? = some x ∧ p x = true ∧ x ∈ l ∧ idx p l < l.length ∧ l.find? p = some x := by
  unfold idx at h ⊢
  cases hf : l.findIdx? p with
  | none => rw [hf] at h; simp at h
  | some j =>
    simp only
    obtain ⟨h1, h2, h3⟩ := List.findIdx?_eq_some_iff_getElem.1 hf
    refine ⟨l[j], ?_, by simp [h1], h2, List.getElem_mem h1, by simpa using h1, ?_⟩
    · rw [jget_nat]; exact List.getElem?_eq_getElem h1
    · rw [List.find?_eq_some_iff_getElem]
      exact ⟨h2, j, h1, rfl, fun k hk => by simpa using h3 k hk⟩
theorem idx_neg {α : Type} {p : α → Bool} {l : List α} (h : idx p l < 0) : l.find? p = none := by
  have h2 : l.any p = false := by
    cases ha : l.any p with
    | false => rfl
    | true => have := (idx_nonneg p l).2 ha; omega
  rw [List.find?_eq_none]
  rw [List.any_eq_false] at h2
  exact h2
end S
theorem idxO_idx {α : Type} {p : α → Option Bool} (q : α → Bool) {l : List α} (h : ∀ x ∈ l, p x = some (q x)) : idxO p l 0 = some (S.idx q l) := by
  rw [idxO_some h]
  unfold S.idx
  cases l.findIdx? q <;> simp
end Go.Jx
end

/- What the functions of package pack compute: plain functions over data. -/
section
set_option linter.unusedVariables false
noncomputable section
namespace Go.Proofs.Ytcnhjofpmpipfaa
open Go Go.Sx Go.RowKit Go.Jx
abbrev DVal : Type := Int × Int
abbrev DNode : Type := ByteArray × List DVal
abbrev DGraph : Type := List DNode × List DVal
abbrev DCol : Type := ByteArray × Int × ByteArray
abbrev DForm : Type := ByteArray × List DCol
abbrev DGive : Type := ByteArray × Int × Int
abbrev DRule : Type := ByteArray × ByteArray × List DGive
abbrev DRefusal : Type := Int × ByteArray
namespace S
open Go.Jx.S
def within (n lo hi : Int) : Bool := decide (lo ≤ n) && decide (n ≤ hi)
def unlessE (b : Bool) (e : Int) : Int := cond b 0 e
def first : List Int → Int
  | [] => 0
  | e :: l => if e = 0 then first l else e
def ANY : ByteArray := S.lit [65, 78, 89]
def form (l : List DForm) (n : ByteArray) : Int := idx (fun f => keqS f.1 n) l
def col (l : List DCol) (n : ByteArray) : Int := idx (fun c => keqS c.1 n) l
def zRule : DRule := (S.lit [], S.lit [], [])
def zCol : DCol := (S.lit [], 0, S.lit [])
def zGive : DGive := (S.lit [], 0, 0)
def zForm : DForm := (S.lit [], [])
def zVal : DVal := (0, 0)
def zNode : DNode := (S.lit [], [])
def zGraph : DGraph := ([], [])
def zRefusal : DRefusal := (0, S.lit [])
def at_ {α : Type} (d : α) (l : List α) (i : Int) : α := (l[i.toNat]?).getD d
def ruleOf (l : List DRule) (c : ByteArray) : DRule × Bool := match l.find? (fun r => keqS r.1 c) with
  | some r => (r, true)
  | none => (zRule, false)
def badR (r lo hi : Int) : Bool := !((decide (lo ≤ r) && decide (r ≤ hi)) || (decide (48 ≤ r) && decide (r ≤ 57)) || decide (r = 95))
def named (s : ByteArray) (lo hi : Int) : Bool :=
  if s = S.lit [] then false
  else if 20 < s.size then false
  else match (byteList s)[0]? with
    | none => false
    | some b => if b < lo then false else if hi < b then false else match sixO (fun _ r => some (badR r lo hi)) s true (s.size + 1) 0 with
      | none => false
      | some i => decide (i < 0)
def classWords : List ByteArray := [S.lit [73, 78, 84, 69, 71, 69, 82], S.lit [66, 79, 79, 76, 69, 65, 78], ANY, S.lit [78, 79, 78, 69]]
def smallWords : List ByteArray := [S.lit [116, 114, 117, 101], S.lit [102, 97, 108, 115, 101], S.lit [118, 111, 105, 100], S.lit [99, 117, 114, 114, 101, 110, 116], S.lit [114, 101, 115, 117, 108, 116]]
def index (l : List ByteArray) (v : ByteArray) : Int := idx (fun x => keqS v x) l
def class_ (s : ByteArray) : Bool := named s 65 90 && decide (index classWords s < 0)
def small (s : ByteArray) : Bool := named s 97 122 && decide (index smallWords s < 0)
def ccGo (l : List DCol) : Nat → List DCol → Int
  | _, [] => 0
  | k, c :: r =>
    if small c.1 = false then 4
    else if ¬ col (l.take k) c.1 < 0 then 6
    else if within c.2.1 1 3 = false then 1
    else if ¬ c.2.1 = 3 ∧ ¬ c.2.2 = S.lit [] then 1
    else ccGo l (k + 1) r
def checkCols (l : List DCol) : Int := if 30 < l.length then 3 else ccGo l 0 l
def cfIn (l : List DForm) : List DCol → Bool
  | [] => true
  | c :: r => if c.2.1 = 3 ∧ ¬ c.2.2 = ANY ∧ form l c.2.2 < 0 then false else cfIn l r
def cfGo2 (l : List DForm) : List DForm → Int
  | [] => 0
  | f :: r => if cfIn l f.2 = true then cfGo2 l r else 5
def cfGo (l : List DForm) : Nat → List DForm → Int
  | _, [] => cfGo2 l l
  | k, f :: r =>
    let e := first [unlessE (class_ f.1) 4, unlessE (decide (form (l.take k) f.1 < 0)) 6, checkCols f.2]
    if e = 0 then cfGo l (k + 1) r else e
def checkForms (l : List DForm) : Int := if 24 < l.length then 3 else cfGo l 0 l
def value (v : DVal) (many : Int) : Bool :=
  if v.1 = 1 then within v.2 (-1099511627776) 1099511627776
  else if v.1 = 2 then within v.2 0 1
  else if v.1 = 3 then decide (v.2 = 0)
  else if v.1 = 4 then within v.2 0 (IntKind.i64.wrap (Int.sub many (Int.ofNat 1)))
  else false
def refers (v : DVal) : Bool := decide (v.1 = 3) || decide (v.1 = 4)
def formed (g : DGraph) : Int :=
  if 400 < g.1.length ∨ 60 < g.2.length then 3
  else if g.1.any (fun n => decide (30 < n.2.length)) then 3
  else if g.1.any (fun n => n.2.any fun v => !value v (Int.ofNat g.1.length)) then 2
  else if g.2.any (fun v => !value v (Int.ofNat g.1.length) || !refers v) then 2
  else 0
def refOK (g : DGraph) (v : DVal) : Bool := decide (v.1 = 4 → 0 ≤ v.2 ∧ v.2 < g.1.length)
def suits (g : DGraph) (c : DCol) (v : DVal) : Bool :=
  if c.2.1 = 1 then decide (v.1 = 1)
  else if c.2.1 = 2 then decide (v.1 = 2)
  else decide (v.1 = 3) || (decide (v.1 = 4) && (decide (c.2.2 = ANY) || decide ((at_ zNode g.1 v.2).1 = c.2.2)))
def colsOf (l : List DForm) (c : ByteArray) : List DCol := (at_ zForm l (form l c)).2
def suitsAll (g : DGraph) : List DCol → List DVal → Bool
  | c :: cs, v :: vs => if suits g c v = true then suitsAll g cs vs else false
  | _, _ => true
def typed (l : List DForm) (g : DGraph) : List DNode → Bool
  | [] => true
  | n :: ns => if n.2.length = (colsOf l n.1).length then (if suitsAll g (colsOf l n.1) n.2 = true then typed l g ns else false) else false
def typedPre (l : List DForm) (g : DGraph) : Bool := g.1.all fun n => decide (0 ≤ form l n.1) && n.2.all (refOK g)
def check (l : List DForm) (g : DGraph) : Int :=
  if ¬ formed g = 0 then formed g
  else if g.1.any (fun n => decide (form l n.1 < 0)) then 4
  else unlessE (typed l g g.1) 8
def checkG (l : List DForm) (g : DGraph) : Int := if ¬ checkForms l = 0 then checkForms l else check l g
def leads (l : List DRule) (a b : ByteArray) : Bool := decide (b = ANY) || ((ruleOf l a).2 && decide ((ruleOf l a).1.2.1 = b))
def fits (l : List DRule) (g : DGive) (a b : DCol) : Bool :=
  if g.2.1 = 1 then decide (a.2.1 = b.2.1) && (decide (¬ a.2.1 = 3) || leads l a.2.2 b.2.2)
  else if g.2.1 = 2 then decide (a.2.1 = 2) && decide (b.2.1 = 1)
  else if g.2.1 = 3 then decide (a.2.1 = 1) && decide (b.2.1 = 2)
  else if g.2.1 = 4 then decide (a.2.1 = 1) && decide (b.2.1 = 1)
  else if g.2.1 = 5 then decide (a.2.1 = 3) && (decide (b.2.1 = 3) && leads l a.2.2 b.2.2)
  else if g.2.1 = 6 then decide (b.2.1 = 1) || (decide (b.2.1 = 2) && within g.2.2 0 1)
  else decide (b.2.1 = 3)
def most (g : DGive) : Int := if g.2.1 = 4 ∨ g.2.1 = 6 then 1099511627776 else 0
def give (l : List DRule) (g : DGive) (cols : List DCol) (b : DCol) : Int :=
  if within g.2.1 1 5 = true ∧ col cols g.1 < 0 then 4
  else if within g.2.1 1 7 = false ∨ (within g.2.1 1 5 = false ∧ ¬ g.1 = S.lit []) ∨ within g.2.2 (-most g) (most g) = false ∨ (g.2.1 = 6 ∧ b.2.1 = 2 ∧ within g.2.2 0 1 = false) then 1
  else unlessE (fits l g (if within g.2.1 1 5 = true then at_ zCol cols (col cols g.1) else zCol) b) 8
def crGives (l : List DRule) (was : List DCol) : List DCol → List DGive → Int
  | c :: now, g :: r => if give l g was c = 0 then crGives l was now r else give l g was c
  | _, _ => 0
def crGo3 (a b : List DForm) (l : List DRule) : List DRule → Int
  | [] => 0
  | r :: rs =>
    if r.2.2.length = (colsOf b r.2.1).length then
      (if crGives l (colsOf a r.1) (colsOf b r.2.1) r.2.2 = 0 then crGo3 a b l rs else crGives l (colsOf a r.1) (colsOf b r.2.1) r.2.2)
    else 2
def crGo2 (a b : List DForm) (l : List DRule) : List DForm → Int
  | [] => crGo3 a b l l
  | f :: fs => if (ruleOf l f.1).2 = true then crGo2 a b l fs else 5
def crGo (a b : List DForm) (l : List DRule) : Nat → List DRule → Int
  | _, [] => crGo2 a b l a
  | k, r :: rs => if form a r.1 < 0 then 4 else if form b r.2.1 < 0 then 4 else if (ruleOf (l.take k) r.1).2 = true then 6 else crGo a b l (k + 1) rs
def checkRules0 (a b : List DForm) (l : List DRule) : Int := if 24 < l.length then 3 else crGo a b l 0 l
def checkRules (a b : List DForm) (l : List DRule) : Int := if first [checkForms a, checkForms b] = 0 then checkRules0 a b l else first [checkForms a, checkForms b]
/-- The value that a way takes. -/
def src (g : DGive) (cols : List DCol) (l : List DVal) : DVal := at_ zVal l (col cols g.1)
def made (g : DGive) (cols : List DCol) (l : List DVal) (b : DCol) : DVal × Bool :=
  if g.2.1 = 6 then (if b.2.1 = 2 then ((2, g.2.2), true) else ((1, g.2.2), true))
  else if g.2.1 = 7 then ((3, 0), true)
  else if g.2.1 = 2 then ((1, (src g cols l).2), true)
  else if g.2.1 = 3 then ((2, (src g cols l).2), within (src g cols l).2 0 1)
  else if g.2.1 = 4 then (src g cols l, decide ((src g cols l).2 < g.2.2))
  else if g.2.1 = 5 then (src g cols l, decide ((src g cols l).1 = 4))
  else (src g cols l, true)
def madePre (g : DGive) (cols : List DCol) (l : List DVal) : Bool := decide (¬ g.2.1 = 6 → ¬ g.2.1 = 7 → 0 ≤ col cols g.1 ∧ col cols g.1 < l.length)
/-- The values of an object, or the name of the field that cannot be made. -/
def cvIn (cols : List DCol) (vs : List DVal) : List DGive → List DCol → List DVal → Option (List DVal) × ByteArray
  | g :: gs, c :: cs, acc => if (made g cols vs c).2 = true then cvIn cols vs gs cs (acc ++ [(made g cols vs c).1]) else (none, c.1)
  | _, _, acc => (some acc, S.lit [])
def cvGo (a b : List DForm) (l : List DRule) (roots : List DVal) : Nat → List DNode → List DNode → DGraph × DRefusal × Int
  | _, [], acc => ((acc, roots), zRefusal, 0)
  | i, n :: ns, acc =>
    let r := (ruleOf l n.1).1
    match cvIn (colsOf a n.1) n.2 r.2.2 (colsOf b r.2.1) [] with
    | (some vs, _) => cvGo a b l roots (i + 1) ns (acc ++ [(r.2.1, vs)])
    | (none, c) => (zGraph, (Int.ofNat i, c), 10)
def convert (a b : List DForm) (l : List DRule) (g : DGraph) : DGraph × DRefusal × Int :=
  if ¬ checkRules a b l = 0 then (zGraph, zRefusal, checkRules a b l)
  else if ¬ check a g = 0 then (zGraph, zRefusal, check a g)
  else cvGo a b l g.2 0 g.1 []
def keeps (l : List DRule) (a b : DCol) : Bool :=
  if ¬ a.2.1 = 3 then true
  else if a.2.2 = ANY ∨ b.2.2 = ANY then decide (a.2.2 = b.2.2)
  else leads l a.2.2 b.2.2
end S
def sp_p_within : Sm := ⟨[.int .i64, .int .i64, .int .i64], [(false, .bool)], fun x => some (S.within x.1 x.2.1 x.2.2.1, ())⟩
def sp_p_first : Sm := ⟨[.list (.int .i64)], [(false, .int .i64)], fun x => some (S.first x.1, ())⟩
def sp_p_form : Sm := ⟨[.list cForm, .str], [(false, .int .i64)], fun x => some (S.form x.1 x.2.1, ())⟩
def sp_p_col : Sm := ⟨[.list cCol, .str], [(false, .int .i64)], fun x => some (S.col x.1 x.2.1, ())⟩
def sp_p_ruleOf : Sm := ⟨[.list cRule, .str], [(false, cRule), (false, .bool)], fun x => some ((S.ruleOf x.1 x.2.1).1, (S.ruleOf x.1 x.2.1).2, ())⟩
def sp_p_named : Sm := ⟨[.str, .int .u8, .int .u8], [(false, .bool)], fun x => some (S.named x.1 x.2.1 x.2.2.1, ())⟩
def sp_slices_Index_string : Sm := ⟨[.list .str, .str], [(false, .int .i64)], fun x => some (S.index x.1 x.2.1, ())⟩
def sp_p_class : Sm := ⟨[.str], [(false, .bool)], fun x => some (S.class_ x.1, ())⟩
def sp_p_small : Sm := ⟨[.str], [(false, .bool)], fun x => some (S.small x.1, ())⟩
def sp_p_checkCols : Sm := ⟨[.list cCol], [(false, .int .i64)], fun x => some (S.checkCols x.1, ())⟩
def sp_p_CheckForms : Sm := ⟨[.list cForm], [(false, .int .i64)], fun x => some (S.checkForms x.1, ())⟩
def sp_p_value : Sm := ⟨[cVal, .int .i64], [(false, .bool)], fun x => some (S.value x.1 x.2.1, ())⟩
def sp_p_formed : Sm := ⟨[cGraph], [(false, .int .i64)], fun x => some (S.formed x.1, ())⟩
def sp_p_suits : Sm := ⟨[cGraph, cCol, cVal], [(false, .bool)], fun x => cond (S.refOK x.1 x.2.2.1) (some (S.suits x.1 x.2.1 x.2.2.1, ())) none⟩
def sp_p_typed : Sm := ⟨[.list cForm, cGraph], [(false, .bool)], fun x => cond (S.typedPre x.1 x.2.1) (some (S.typed x.1 x.2.1 x.2.1.1, ())) none⟩
def sp_p_check : Sm := ⟨[.list cForm, cGraph], [(false, .int .i64)], fun x => some (S.check x.1 x.2.1, ())⟩
def sp_p_Check : Sm := ⟨[.list cForm, cGraph], [(false, .int .i64)], fun x => some (S.checkG x.1 x.2.1, ())⟩
def sp_p_leads : Sm := ⟨[.list cRule, .str, .str], [(false, .bool)], fun x => some (S.leads x.1 x.2.1 x.2.2.1, ())⟩
def sp_p_fits : Sm := ⟨[.list cRule, cGive, cCol, cCol], [(false, .bool)], fun x => some (S.fits x.1 x.2.1 x.2.2.1 x.2.2.2.1, ())⟩
def sp_p_give : Sm := ⟨[.list cRule, cGive, .list cCol, cCol], [(false, .int .i64)], fun x => some (S.give x.1 x.2.1 x.2.2.1 x.2.2.2.1, ())⟩
def sp_p_checkRules : Sm := ⟨[.list cForm, .list cForm, .list cRule], [(false, .int .i64)], fun x => some (S.checkRules0 x.1 x.2.1 x.2.2.1, ())⟩
def sp_p_CheckRules : Sm := ⟨[.list cForm, .list cForm, .list cRule], [(false, .int .i64)], fun x => some (S.checkRules x.1 x.2.1 x.2.2.1, ())⟩
def sp_p_made : Sm := ⟨[cGive, .list cCol, .list cVal, cCol], [(false, cVal), (false, .bool)], fun x => cond (S.madePre x.1 x.2.1 x.2.2.1) (some ((S.made x.1 x.2.1 x.2.2.1 x.2.2.2.1).1, (S.made x.1 x.2.1 x.2.2.1 x.2.2.2.1).2, ())) none⟩
def sp_p_Convert : Sm := ⟨[.list cForm, .list cForm, .list cRule, cGraph], [(false, cGraph), (false, cRefusal), (false, .int .i64)], fun x => some ((S.convert x.1 x.2.1 x.2.2.1 x.2.2.2.1).1, (S.convert x.1 x.2.1 x.2.2.1 x.2.2.2.1).2.1, (S.convert x.1 x.2.1 x.2.2.1 x.2.2.2.1).2.2, ())⟩
def sp_p_keeps : Sm := ⟨[.list cRule, cCol, cCol], [(false, .bool)], fun x => some (S.keeps x.1 x.2.1 x.2.2.1, ())⟩
def sp_slices_Clone_Val : Sm := ⟨[.list cVal], [(false, .list cVal)], fun x => some (x.1, ())⟩
end Go.Proofs.Ytcnhjofpmpipfaa

end
end

/- What pack's chaining and undoing of rules compute: plain functions over data. -/
section
set_option linter.unusedVariables false
noncomputable section
namespace Go.Proofs.Ytcnhjofpmpipfaa
open Go Go.Sx Go.RowKit Go.Jx
namespace S
open Go.Jx.S
def both (a b : DGive) : DGive × Bool :=
  if b.2.1 = 1 then (a, true)
  else if a.2.1 = 1 then ((a.1, b.2.1, b.2.2), true)
  else if a.2.1 = 2 ∧ b.2.1 = 3 then ((a.1, 1, 0), true)
  else if a.2.1 = 2 ∧ b.2.1 = 4 then (a, decide (2 ≤ b.2.2))
  else if a.2.1 = 4 ∧ b.2.1 = 4 then ((a.1, a.2.1, imin a.2.2 b.2.2), true)
  else if a.2.1 = 5 ∧ b.2.1 = 5 then (a, true)
  else if a.2.1 = 6 ∧ b.2.1 = 2 then (a, true)
  else if a.2.1 = 6 ∧ b.2.1 = 3 then (a, within a.2.2 0 1)
  else if a.2.1 = 6 ∧ b.2.1 = 4 then (a, decide (a.2.2 < b.2.2))
  else (zGive, false)
def hasFrom (l : List DGive) (n : ByteArray) : Bool := l.any fun g => keqS g.1 n
def asksG (g : DGive) : Bool := decide (g.2.1 = 3) || (decide (g.2.1 = 4) || decide (g.2.1 = 5))
def chGo (a : DRule) (mid : List DCol) : List DGive → List DGive → Option (List DGive)
  | [], acc => some acc
  | g :: gs, acc =>
    if g.2.1 = 6 ∨ g.2.1 = 7 then chGo a mid gs (acc ++ [g])
    else if (both (at_ zGive a.2.2 (col mid g.1)) g).2 = true then chGo a mid gs (acc ++ [(both (at_ zGive a.2.2 (col mid g.1)) g).1])
    else none
def chAsk (l : List DGive) : List DGive → List DCol → Bool
  | g :: gs, c :: cs => cond (asksG g && !hasFrom l c.1) false (chAsk l gs cs)
  | _, _ => true
def chained (a b : DRule) (mid : List DCol) : DRule × Bool := match chGo a mid b.2.2 [] with
  | none => (zRule, false)
  | some gs => if chAsk b.2.2 a.2.2 mid = true then ((a.1, b.2.1, gs), true) else (zRule, false)
def chainGo (mid : List DForm) (a b : List DRule) : List DForm → List DRule → List DRule × Int
  | [], acc => (acc, 0)
  | f :: fs, acc =>
    let x := (ruleOf a f.1).1
    let c := chained x (ruleOf b x.2.1).1 (colsOf mid x.2.1)
    if c.2 = true then chainGo mid a b fs (acc ++ [c.1]) else ([], 5)
def chain (l1 l2 l3 : List DForm) (a b : List DRule) : List DRule × Int :=
  if ¬ first [checkForms l1, checkForms l2, checkForms l3] = 0 then ([], first [checkForms l1, checkForms l2, checkForms l3])
  else if ¬ first [checkRules0 l1 l2 a, checkRules0 l2 l3 b] = 0 then ([], first [checkRules0 l1 l2 a, checkRules0 l2 l3 b])
  else chainGo l2 a b l1 []
end S
end Go.Proofs.Ytcnhjofpmpipfaa

end
end

/- What the law's bounds and the comparisons compute. -/
section
set_option linter.unusedVariables false
noncomputable section
namespace Go.Proofs.Ytcnhjofpmpipfaa
open Go Go.Sx Go.RowKit Go.Jx
namespace S
def sameVals (a b : List DVal) : Bool := decide (a = b)
def sameGraphs (a b : DGraph) : Bool := decide (a = b)
end S
def sp_r_SameVals : Sm := ⟨[.list cVal, .list cVal], [(false, .bool)], fun x => some (S.sameVals x.1 x.2.1, ())⟩
def sp_r_SameGraphs : Sm := ⟨[cGraph, cGraph], [(false, .bool)], fun x => some (S.sameGraphs x.1 x.2.1, ())⟩
namespace S
def fewForms (l : List DForm) : Bool :=
  l.all (fun f => decide (f.1.size ≤ 30 ∧ (f.2.length ≤ 6 ∨ 30 < f.2.length) ∧ f.2.length ≤ 40) && f.2.all fun c => decide (c.1.size ≤ 30 ∧ c.2.2.size ≤ 30)) && decide (l.length ≤ 6 ∨ 24 < l.length ∧ l.length ≤ 30)
def few (g : DGraph) : Bool :=
  g.1.all (fun n => decide ((n.2.length ≤ 8 ∨ 30 < n.2.length) ∧ n.2.length ≤ 40)) && decide ((g.1.length ≤ 30 ∨ 400 < g.1.length ∧ g.1.length ≤ 410) ∧ (g.2.length ≤ 10 ∨ 60 < g.2.length ∧ g.2.length ≤ 70))
def fewRules (l : List DRule) : Bool := l.all (fun r => decide (r.2.2.length ≤ 8)) && decide (l.length ≤ 8 ∨ 24 < l.length ∧ l.length ≤ 30)
end S
def sp_l_fewForms : Sm := ⟨[.list cForm], [(false, .bool)], fun x => some (S.fewForms x.1, ())⟩
def sp_l_few : Sm := ⟨[cGraph], [(false, .bool)], fun x => some (S.few x.1, ())⟩
def sp_l_fewRules : Sm := ⟨[.list cRule], [(false, .bool)], fun x => some (S.fewRules x.1, ())⟩
/-- The closed check answers yes. -/
def sp_l_sanity : Sm := ⟨[], [(false, .bool)], fun _ => some (true, ())⟩
def sp_l_true4 : Sm := ⟨[.list cForm, .list cForm, .list cRule, cGraph], [(false, .bool)], fun _ => some (true, ())⟩
end Go.Proofs.Ytcnhjofpmpipfaa

end
end

/- The closed check answers yes. -/
section
set_option linter.unusedVariables false
set_option maxRecDepth 100000
namespace Go.Proofs.Ytcnhjofpmpipfaa
open Go Go.Sx Go.RowKit Go.Jx
def exN : Ex := fun _ => none
def isR (o : Option Res) : Bool := match o with
  | some r => (match runR sp_l_sanity r with
    | some y => y.1
    | none => false)
  | none => false
theorem isR_spec {o : Option Res} (h : isR o = true) : ∃ r, o = some r ∧ runR sp_l_sanity r = some (true, ()) := by
  cases o with
  | none => cases h
  | some r =>
    refine ⟨r, rfl, ?_⟩
    unfold isR at h
    cases hr : runR sp_l_sanity r with
    | none => simp only [hr] at h; cases h
    | some y =>
      simp only [hr] at h
      exact congrArg some (Prod.ext h rfl)
theorem san15 : isR (icall Try.prog ttT.get ftT.get (fun _ _ => none) exN 1000 100 (.fn 15) [] S0) = true := by kernel_rfl
end Go.Proofs.Ytcnhjofpmpipfaa
end

/- The closed check's contract. -/
section
set_option linter.unusedVariables false
namespace Go.Proofs.Ytcnhjofpmpipfaa
open Go Go.Sx Go.RowKit Go.Jx
theorem exN_ok : ExOK Try.prog exN := ⟨fun _ _ h => (nomatch h), fun _ _ h => (nomatch h), fun _ _ h => (nomatch h)⟩
theorem con_l_sanity : Con Try.prog 15 sp_l_sanity := con_of_run (lf := 1000) mixed ttOK ftOK exN_ok cal15 fun x y h => by
  obtain ⟨r, h1, h2⟩ := isR_spec san15
  exact ⟨100, 1000, r, h1, h2.trans h⟩
end Go.Proofs.Ytcnhjofpmpipfaa
end

/- What pack's undoing of rules computes: plain functions over data. -/
section
set_option linter.unusedVariables false
noncomputable section
namespace Go.Proofs.Ytcnhjofpmpipfaa
open Go Go.Sx Go.RowKit Go.Jx
namespace S
open Go.Jx.S
def bkGo (l : List DRule) (was now : List DCol) : List DGive → Nat → List DGive → Option (List DGive)
  | [], _, acc => some acc
  | g :: gs, i, acc =>
    if ¬ g.2.1 = 1 then none
    else if ¬ (at_ zGive acc (col was g.1)).2.1 = 0 then none
    else if keeps l (at_ zCol was (col was g.1)) (at_ zCol now i) = false then none
    else bkGo l was now gs (i + 1) (acc.set (col was g.1).toNat ((at_ zCol now i).1, 1, 0))
def back (l : List DRule) (r : DRule) (was now : List DCol) : DRule × Bool :=
  if ¬ was.length = now.length then (zRule, false)
  else match bkGo l was now r.2.2 0 (rep was.length zGive) with
    | none => (zRule, false)
    | some gs => ((r.2.1, r.1, gs), true)
def backPre (r : DRule) (was now : List DCol) : Bool := decide (r.2.2.length ≤ now.length) && r.2.2.all fun g => decide (g.2.1 = 1 → 0 ≤ col was g.1)
def bkAll (a : List DForm) (l : List DRule) : List DForm → List DRule → Option (List DRule)
  | [], acc => some acc
  | f :: fs, acc =>
    let i := idx (fun r : DRule => keqS r.2.1 f.1) l
    if i < 0 then none
    else
      let r := at_ zRule l i
      let p := back l r (colsOf a r.1) f.2
      if p.2 = true then bkAll a l fs (acc ++ [p.1]) else none
def Back (a b : List DForm) (l : List DRule) : List DRule × Bool × Int :=
  if ¬ checkRules a b l = 0 then ([], false, checkRules a b l)
  else match bkAll a l b [] with
    | none => ([], false, 0)
    | some out => if ¬ out.length = l.length then ([], false, 0) else (out, true, 0)
end S
def sp_p_back : Sm := ⟨[.list cRule, cRule, .list cCol, .list cCol], [(false, cRule), (false, .bool)], fun x => cond (S.backPre x.2.1 x.2.2.1 x.2.2.2.1) (some ((S.back x.1 x.2.1 x.2.2.1 x.2.2.2.1).1, (S.back x.1 x.2.1 x.2.2.1 x.2.2.2.1).2, ())) none⟩
def sp_p_Back : Sm := ⟨[.list cForm, .list cForm, .list cRule], [(false, .list cRule), (false, .bool), (false, .int .i64)], fun x => some ((S.Back x.1 x.2.1 x.2.2.1).1, (S.Back x.1 x.2.1 x.2.2.1).2.1, (S.Back x.1 x.2.1 x.2.2.1).2.2, ())⟩
end Go.Proofs.Ytcnhjofpmpipfaa

end
end

/- Made by program: plain forms of functions. -/
section
set_option linter.unusedVariables false
set_option maxRecDepth 100000
noncomputable section
namespace Go.Proofs.Ytcnhjofpmpipfaa
open Go Go.Sx Go.RowKit Go.Jx
def nm_l_PackBackAgain : Nat → Option Nm := fun k => none
def st_l_PackBackAgain : Nat → Bool := fun k => false
def hd_l_PackBackAgain : Nat → Bool := fun k => false
abbrev Rt_l_PackBackAgain : Type := Bool × Unit
def sml_l_PackBackAgain : List (Nat × Sm) := [(13, sp_l_fewForms), (14, sp_l_few), (27, sp_l_fewRules), (15, sp_l_sanity), (26, sp_r_SameGraphs), (31, sp_p_Back), (18, sp_p_Check), (28, sp_p_Convert), (29, sp_p_CheckRules)]
def hxl_l_PackBackAgain : List (Nat × Hx) := []
def cl_l_PackBackAgain (R : Type) (lf : Nat) : ClK R := icallK Try.prog ttT.get ftT.get (nm1 7 nm_l_PackBackAgain) (smL sml_l_PackBackAgain) (hxL hxl_l_PackBackAgain) lf 20 R
abbrev id_l_PackBackAgain : Nat := 7
def R_l_PackBackAgain_in (lf : Nat) (x1 : (List DForm)) (x2 : (List DForm)) (x3 : (List DRule)) (x4 : DGraph) : Option Rt_l_PackBackAgain := (cond (Bool.not (Go.Proofs.Ytcnhjofpmpipfaa.S.fewForms x1)) (some (Bool.true, ())) (cond (Bool.not (Go.Proofs.Ytcnhjofpmpipfaa.S.fewForms x2)) (some (Bool.true, ())) (cond (Bool.not (Go.Proofs.Ytcnhjofpmpipfaa.S.fewRules x3)) (some (Bool.true, ())) (cond (Bool.not (Go.Proofs.Ytcnhjofpmpipfaa.S.few (x4.1, x4.2))) (some (Bool.true, ())) (cond (Bool.not (ieqI (Go.Proofs.Ytcnhjofpmpipfaa.S.Back x1 x2 x3).2.2 (Int.ofNat 0))) (some ((ieqI (Int.ofNat (List.length (Go.Proofs.Ytcnhjofpmpipfaa.S.Back x1 x2 x3).1)) (Int.ofNat 0)), ())) (cond (Bool.not (Go.Proofs.Ytcnhjofpmpipfaa.S.Back x1 x2 x3).2.1) (some ((ieqI (Int.ofNat (List.length (Go.Proofs.Ytcnhjofpmpipfaa.S.Back x1 x2 x3).1)) (Int.ofNat 0)), ())) (cond (Bool.not (ieqI (Go.Proofs.Ytcnhjofpmpipfaa.S.checkRules x2 x1 (Go.Proofs.Ytcnhjofpmpipfaa.S.Back x1 x2 x3).1) (Int.ofNat 0))) (some (Bool.false, ())) (cond (Bool.not (ieqI (Go.Proofs.Ytcnhjofpmpipfaa.S.Back x2 x1 (Go.Proofs.Ytcnhjofpmpipfaa.S.Back x1 x2 x3).1).2.2 (Int.ofNat 0))) (some (Bool.false, ())) (cond (Bool.not (Go.Proofs.Ytcnhjofpmpipfaa.S.Back x2 x1 (Go.Proofs.Ytcnhjofpmpipfaa.S.Back x1 x2 x3).1).2.1) (some (Bool.false, ())) (cond (Bool.not (ieqI (Int.ofNat (List.length (Go.Proofs.Ytcnhjofpmpipfaa.S.Back x2 x1 (Go.Proofs.Ytcnhjofpmpipfaa.S.Back x1 x2 x3).1).1)) (Int.ofNat (List.length x3)))) (some (Bool.false, ())) (cond (Bool.not (ieqI (Go.Proofs.Ytcnhjofpmpipfaa.S.checkG x1 (x4.1, x4.2)) (Int.ofNat 0))) (some (Bool.true, ())) (cond (ieqI (Go.Proofs.Ytcnhjofpmpipfaa.S.convert x1 x2 x3 (x4.1, x4.2)).2.2 (Int.ofNat 0)) (cond (ieqI (Go.Proofs.Ytcnhjofpmpipfaa.S.convert x2 x1 (Go.Proofs.Ytcnhjofpmpipfaa.S.Back x1 x2 x3).1 ((Go.Proofs.Ytcnhjofpmpipfaa.S.convert x1 x2 x3 (x4.1, x4.2)).1.1, (Go.Proofs.Ytcnhjofpmpipfaa.S.convert x1 x2 x3 (x4.1, x4.2)).1.2)).2.2 (Int.ofNat 0)) (cond (ieqI (Go.Proofs.Ytcnhjofpmpipfaa.S.convert x1 x2 (Go.Proofs.Ytcnhjofpmpipfaa.S.Back x2 x1 (Go.Proofs.Ytcnhjofpmpipfaa.S.Back x1 x2 x3).1).1 (x4.1, x4.2)).2.2 (Int.ofNat 0)) (cond (Go.Proofs.Ytcnhjofpmpipfaa.S.sameGraphs ((Go.Proofs.Ytcnhjofpmpipfaa.S.convert x2 x1 (Go.Proofs.Ytcnhjofpmpipfaa.S.Back x1 x2 x3).1 ((Go.Proofs.Ytcnhjofpmpipfaa.S.convert x1 x2 x3 (x4.1, x4.2)).1.1, (Go.Proofs.Ytcnhjofpmpipfaa.S.convert x1 x2 x3 (x4.1, x4.2)).1.2)).1.1, (Go.Proofs.Ytcnhjofpmpipfaa.S.convert x2 x1 (Go.Proofs.Ytcnhjofpmpipfaa.S.Back x1 x2 x3).1 ((Go.Proofs.Ytcnhjofpmpipfaa.S.convert x1 x2 x3 (x4.1, x4.2)).1.1, (Go.Proofs.Ytcnhjofpmpipfaa.S.convert x1 x2 x3 (x4.1, x4.2)).1.2)).1.2) (x4.1, x4.2)) (some ((Go.Proofs.Ytcnhjofpmpipfaa.S.sameGraphs ((Go.Proofs.Ytcnhjofpmpipfaa.S.convert x1 x2 x3 (x4.1, x4.2)).1.1, (Go.Proofs.Ytcnhjofpmpipfaa.S.convert x1 x2 x3 (x4.1, x4.2)).1.2) ((Go.Proofs.Ytcnhjofpmpipfaa.S.convert x1 x2 (Go.Proofs.Ytcnhjofpmpipfaa.S.Back x2 x1 (Go.Proofs.Ytcnhjofpmpipfaa.S.Back x1 x2 x3).1).1 (x4.1, x4.2)).1.1, (Go.Proofs.Ytcnhjofpmpipfaa.S.convert x1 x2 (Go.Proofs.Ytcnhjofpmpipfaa.S.Back x2 x1 (Go.Proofs.Ytcnhjofpmpipfaa.S.Back x1 x2 x3).1).1 (x4.1, x4.2)).1.2)), ())) (some (Bool.false, ()))) (some (Bool.false, ()))) (some (Bool.false, ()))) (some (Bool.false, ()))))))))))))))
theorem in_l_PackBackAgain (g : ElA [(.list cForm), (.list cForm), (.list cRule), cGraph] → Option Rt_l_PackBackAgain) (J : Nat → List Nat → NRes → Option Rt_l_PackBackAgain) (lf : Nat) (x1 : (List DForm)) (x2 : (List DForm)) (x3 : (List DRule)) (x4 : DGraph) : icodeT Try.prog ttT.get nm_l_PackBackAgain fi7.nt (cl_l_PackBackAgain _ lf) lf st_l_PackBackAgain J fi7.body [] (argGo (argV [(.list cForm), (.list cForm), (.list cRule), cGraph] (x1, x2, x3, x4, ())) 0 .leaf) S0 [] (lastK ttT.get fi7 ⟨[(.list cForm), (.list cForm), (.list cRule), cGraph], [(false, .bool)], g⟩) = R_l_PackBackAgain_in lf x1 x2 x3 x4 := by kernel_rfl
theorem nd_l_PackBackAgain : (regs fi7.body).Nodup := by decide +kernel
theorem ok_l_PackBackAgain : okC nm_l_PackBackAgain st_l_PackBackAgain hd_l_PackBackAgain fi7.body none = true := by kernel_rfl
def A_l_PackBackAgain (g : ElA [(.list cForm), (.list cForm), (.list cRule), cGraph] → Option Rt_l_PackBackAgain) (lf : Nat) : Nat → List Nat → NRes → Option Rt_l_PackBackAgain := atN Try.prog ttT.get nm_l_PackBackAgain fi7 ⟨[(.list cForm), (.list cForm), (.list cRule), cGraph], [(false, .bool)], g⟩ (cl_l_PackBackAgain _ lf) lf hd_l_PackBackAgain
def F_l_PackBackAgain (lf : Nat) (x1 : (List DForm)) (x2 : (List DForm)) (x3 : (List DRule)) (x4 : DGraph) : Option Rt_l_PackBackAgain := R_l_PackBackAgain_in lf x1 x2 x3 x4
theorem run_l_PackBackAgain (g : ElA [(.list cForm), (.list cForm), (.list cRule), cGraph] → Option Rt_l_PackBackAgain) (lf : Nat) (x1 : (List DForm)) (x2 : (List DForm)) (x3 : (List DRule)) (x4 : DGraph) : icodeT Try.prog ttT.get nm_l_PackBackAgain fi7.nt (cl_l_PackBackAgain _ lf) lf st_l_PackBackAgain (A_l_PackBackAgain g lf) fi7.body [] (argGo (argV [(.list cForm), (.list cForm), (.list cRule), cGraph] (x1, x2, x3, x4, ())) 0 .leaf) S0 [] (lastK ttT.get fi7 ⟨[(.list cForm), (.list cForm), (.list cRule), cGraph], [(false, .bool)], g⟩) = F_l_PackBackAgain lf x1 x2 x3 x4 := by
    refine (in_l_PackBackAgain g (A_l_PackBackAgain g lf) lf x1 x2 x3 x4).trans ?_
    rfl
theorem hxs_l_PackBackAgain : HxsOK Try.prog hxl_l_PackBackAgain := trivial
theorem mk_l_PackBackAgain {g : ElA [(.list cForm), (.list cForm), (.list cRule), cGraph] → Option Rt_l_PackBackAgain} (hsm : SmOK Try.prog sml_l_PackBackAgain) (hg : ∀ (x : ElA [(.list cForm), (.list cForm), (.list cRule), cGraph]) (y : Rt_l_PackBackAgain), WfA [(.list cForm), (.list cForm), (.list cRule), cGraph] x → g x = some y → ∃ lf, F_l_PackBackAgain lf x.1 x.2.1 x.2.2.1 x.2.2.2.1 = some y) : Con Try.prog 7 ⟨[(.list cForm), (.list cForm), (.list cRule), cGraph], [(false, .bool)], g⟩ :=
  conT (nmf := nm_l_PackBackAgain) (sml := sml_l_PackBackAgain) (hxl := hxl_l_PackBackAgain) (st := st_l_PackBackAgain) (hd := hd_l_PackBackAgain) 20 mixed ttOK ftOK hsm hxs_l_PackBackAgain cal7 rfl rfl (by kernel_rfl) (fun x => by kernel_rfl) nd_l_PackBackAgain ok_l_PackBackAgain fun x y hx hy => by
    obtain ⟨lf, h⟩ := hg x y hx hy
    exact ⟨lf, (run_l_PackBackAgain g lf x.1 x.2.1 x.2.2.1 x.2.2.2.1).trans h⟩
end Go.Proofs.Ytcnhjofpmpipfaa

end
end

/- Made by program: plain forms of functions. -/
section
set_option linter.unusedVariables false
set_option maxRecDepth 100000
noncomputable section
namespace Go.Proofs.Ytcnhjofpmpipfaa
open Go Go.Sx Go.RowKit Go.Jx
def nm_r_SameVals : Nat → Option Nm := fun k => cond (Nat.beq k 4) (some ⟨[0, 1, 5], [], [], [], [], 0, 0, false⟩) (none)
def st_r_SameVals : Nat → Bool := fun k => cond (Nat.beq k 4) true (false)
def hd_r_SameVals : Nat → Bool := fun k => cond (Nat.beq k 4) true (false)
abbrev Rt_r_SameVals : Type := Bool × Unit
def sml_r_SameVals : List (Nat × Sm) := []
def hxl_r_SameVals : List (Nat × Hx) := []
def cl_r_SameVals (R : Type) (lf : Nat) : ClK R := icallK Try.prog ttT.get ftT.get (nm1 73 nm_r_SameVals) (smL sml_r_SameVals) (hxL hxl_r_SameVals) lf 20 R
abbrev id_r_SameVals : Nat := 73
def enc_r_SameVals_4 (x1 : (List DVal)) (x2 : (List DVal)) (p : Int) : NRes := (NRes.mk (PT.node (some (IV.lst cVal x1)) (PT.node (some (IV.lst cVal x2)) PT.leaf (PT.node (some (IV.int Go.IntKind.i64 p)) PT.leaf PT.leaf)) PT.leaf) (IS.mk PT.leaf 0) [] 0)
def R_r_SameVals_in (lf : Nat) (x1 : (List DVal)) (x2 : (List DVal)) (L4 : Int → Option Rt_r_SameVals) : Option Rt_r_SameVals := (cond (Bool.not (ieqI (Int.ofNat (List.length x1)) (Int.ofNat (List.length x2)))) (some (Bool.false, ())) (L4 (Int.ofNat 0)))
def R_r_SameVals_4 (lf : Nat) (x1 : (List DVal)) (x2 : (List DVal)) (L4 : Int → Option Rt_r_SameVals) (p : Int) : Option Rt_r_SameVals := (cond (iltI p (Int.ofNat (List.length x1))) (match (jget x1 p) with | .none  => none | .some v0 => (match (jget x2 p) with | .none  => none | .some v1 => (cond (Bool.not (Bool.and (keqI v0.1 v1.1) (Bool.and (keqI v0.2 v1.2) Bool.true))) (some (Bool.false, ())) (L4 (Go.IntKind.wrap Go.IntKind.i64 (Int.add p (Int.ofNat 1))))))) (some (Bool.true, ())))
theorem in_r_SameVals (g : ElA [(.list cVal), (.list cVal)] → Option Rt_r_SameVals) (J : Nat → List Nat → NRes → Option Rt_r_SameVals) (lf : Nat) (x1 : (List DVal)) (x2 : (List DVal)) : icodeT Try.prog ttT.get nm_r_SameVals fi73.nt (cl_r_SameVals _ lf) lf st_r_SameVals J fi73.body [] (argGo (argV [(.list cVal), (.list cVal)] (x1, x2, ())) 0 .leaf) S0 [] (lastK ttT.get fi73 ⟨[(.list cVal), (.list cVal)], [(false, .bool)], g⟩) = R_r_SameVals_in lf x1 x2 (fun q => J 4 [lf] (enc_r_SameVals_4 x1 x2 q)) := by kernel_rfl
theorem st_r_SameVals_4 (g : ElA [(.list cVal), (.list cVal)] → Option Rt_r_SameVals) (J : Nat → List Nat → NRes → Option Rt_r_SameVals) (lf : Nat) (x1 : (List DVal)) (x2 : (List DVal)) (m1 : Nat) (p : Int) : icodeFT Try.prog ttT.get nm_r_SameVals fi73.nt (cl_r_SameVals _ lf) lf st_r_SameVals J 4 fi73.body [] [m1] (enc_r_SameVals_4 x1 x2 p) (lastK ttT.get fi73 ⟨[(.list cVal), (.list cVal)], [(false, .bool)], g⟩) = R_r_SameVals_4 lf x1 x2 (fun q => J 4 [m1] (enc_r_SameVals_4 x1 x2 q)) p := by kernel_rfl
theorem nd_r_SameVals : (regs fi73.body).Nodup := by decide +kernel
theorem ok_r_SameVals : okC nm_r_SameVals st_r_SameVals hd_r_SameVals fi73.body none = true := by kernel_rfl
def A_r_SameVals (g : ElA [(.list cVal), (.list cVal)] → Option Rt_r_SameVals) (lf : Nat) : Nat → List Nat → NRes → Option Rt_r_SameVals := atN Try.prog ttT.get nm_r_SameVals fi73 ⟨[(.list cVal), (.list cVal)], [(false, .bool)], g⟩ (cl_r_SameVals _ lf) lf hd_r_SameVals
def G_r_SameVals_4 (lf : Nat) (x1 : (List DVal)) (x2 : (List DVal)) : Nat → (Int) → Option Rt_r_SameVals := rounds fun K p => R_r_SameVals_4 lf x1 x2 K p
theorem at_r_SameVals_4 (g : ElA [(.list cVal), (.list cVal)] → Option Rt_r_SameVals) (lf : Nat) (x1 : (List DVal)) (x2 : (List DVal)) : ∀ (n : Nat) (p : Int), A_r_SameVals g lf 4 [n] (enc_r_SameVals_4 x1 x2 p) = G_r_SameVals_4 lf x1 x2 n p
  | 0, p => atN_zero 4 [0] rfl _
  | n + 1, p => by
    have ih := at_r_SameVals_4 g lf x1 x2 n
    refine (atN_eq (icallK_eq 20 _) nd_r_SameVals ok_r_SameVals 4 [n + 1] [n] rfl _).trans ((st_r_SameVals_4 g (A_r_SameVals g lf) lf x1 x2 n p).trans ?_)
    rw [(show (fun q => A_r_SameVals g lf 4 [n] (enc_r_SameVals_4 x1 x2 q)) = (fun q => G_r_SameVals_4 lf x1 x2 n q) from funext ih)]
    rfl
def F_r_SameVals (lf : Nat) (x1 : (List DVal)) (x2 : (List DVal)) : Option Rt_r_SameVals := R_r_SameVals_in lf x1 x2 (fun q => G_r_SameVals_4 lf x1 x2 lf q)
theorem run_r_SameVals (g : ElA [(.list cVal), (.list cVal)] → Option Rt_r_SameVals) (lf : Nat) (x1 : (List DVal)) (x2 : (List DVal)) : icodeT Try.prog ttT.get nm_r_SameVals fi73.nt (cl_r_SameVals _ lf) lf st_r_SameVals (A_r_SameVals g lf) fi73.body [] (argGo (argV [(.list cVal), (.list cVal)] (x1, x2, ())) 0 .leaf) S0 [] (lastK ttT.get fi73 ⟨[(.list cVal), (.list cVal)], [(false, .bool)], g⟩) = F_r_SameVals lf x1 x2 := by
    refine (in_r_SameVals g (A_r_SameVals g lf) lf x1 x2).trans ?_
    rw [(show (fun q => A_r_SameVals g lf 4 [lf] (enc_r_SameVals_4 x1 x2 q)) = (fun q => G_r_SameVals_4 lf x1 x2 lf q) from funext fun q => at_r_SameVals_4 g lf x1 x2 lf q)]
    rfl
theorem hxs_r_SameVals : HxsOK Try.prog hxl_r_SameVals := trivial
theorem mk_r_SameVals {g : ElA [(.list cVal), (.list cVal)] → Option Rt_r_SameVals} (hsm : SmOK Try.prog sml_r_SameVals) (hg : ∀ (x : ElA [(.list cVal), (.list cVal)]) (y : Rt_r_SameVals), WfA [(.list cVal), (.list cVal)] x → g x = some y → ∃ lf, F_r_SameVals lf x.1 x.2.1 = some y) : Con Try.prog 73 ⟨[(.list cVal), (.list cVal)], [(false, .bool)], g⟩ :=
  conT (nmf := nm_r_SameVals) (sml := sml_r_SameVals) (hxl := hxl_r_SameVals) (st := st_r_SameVals) (hd := hd_r_SameVals) 20 mixed ttOK ftOK hsm hxs_r_SameVals cal73 rfl rfl (by kernel_rfl) (fun x => by kernel_rfl) nd_r_SameVals ok_r_SameVals fun x y hx hy => by
    obtain ⟨lf, h⟩ := hg x y hx hy
    exact ⟨lf, (run_r_SameVals g lf x.1 x.2.1).trans h⟩
def nm_r_SameGraphs : Nat → Option Nm := fun k => cond (Nat.beq k 5) (some ⟨[2, 3, 6], [], [], [], [], 0, 0, false⟩) (none)
def st_r_SameGraphs : Nat → Bool := fun k => cond (Nat.beq k 5) true (false)
def hd_r_SameGraphs : Nat → Bool := fun k => cond (Nat.beq k 5) true (false)
abbrev Rt_r_SameGraphs : Type := Bool × Unit
def sml_r_SameGraphs : List (Nat × Sm) := [(73, sp_r_SameVals)]
def hxl_r_SameGraphs : List (Nat × Hx) := []
def cl_r_SameGraphs (R : Type) (lf : Nat) : ClK R := icallK Try.prog ttT.get ftT.get (nm1 26 nm_r_SameGraphs) (smL sml_r_SameGraphs) (hxL hxl_r_SameGraphs) lf 20 R
abbrev id_r_SameGraphs : Nat := 26
def enc_r_SameGraphs_5 (x1 : DGraph) (x2 : DGraph) (p : Int) : NRes := (NRes.mk (PT.node none (PT.node none (PT.node (some (IV.ptr 1 0)) PT.leaf PT.leaf) PT.leaf) (PT.node (some (IV.ptr 0 0)) PT.leaf (PT.node (some (IV.int Go.IntKind.i64 p)) PT.leaf PT.leaf))) (IS.mk (PT.node (some (IObj.row (List.cons (IV.lst cNode x1.1) (List.cons (IV.lst cVal x1.2) [])))) (PT.node (some (IObj.row (List.cons (IV.lst cNode x2.1) (List.cons (IV.lst cVal x2.2) [])))) PT.leaf PT.leaf) PT.leaf) 2) [] 0)
def R_r_SameGraphs_in (lf : Nat) (x1 : DGraph) (x2 : DGraph) (L5 : Int → Option Rt_r_SameGraphs) : Option Rt_r_SameGraphs := (cond (Bool.not (Go.Proofs.Ytcnhjofpmpipfaa.S.sameVals x1.2 x2.2)) (some (Bool.false, ())) (cond (Bool.not (ieqI (Int.ofNat (List.length x1.1)) (Int.ofNat (List.length x2.1)))) (some (Bool.false, ())) (L5 (Int.ofNat 0))))
def R_r_SameGraphs_5 (lf : Nat) (x1 : DGraph) (x2 : DGraph) (L5 : Int → Option Rt_r_SameGraphs) (p : Int) : Option Rt_r_SameGraphs := (cond (iltI p (Int.ofNat (List.length x1.1))) (match (jget x1.1 p) with | .none  => none | .some v0 => (match (jget x2.1 p) with | .none  => none | .some v1 => (cond (Bool.not (Go.Proofs.Ytcnhjofpmpipfaa.S.sameVals v0.2 v1.2)) (some (Bool.false, ())) (match (jget x1.1 p) with | .none  => none | .some v2 => (match (jget x2.1 p) with | .none  => none | .some v3 => (cond (Bool.not (keqS v2.1 v3.1)) (some (Bool.false, ())) (L5 (Go.IntKind.wrap Go.IntKind.i64 (Int.add p (Int.ofNat 1)))))))))) (some (Bool.true, ())))
theorem in_r_SameGraphs (g : ElA [cGraph, cGraph] → Option Rt_r_SameGraphs) (J : Nat → List Nat → NRes → Option Rt_r_SameGraphs) (lf : Nat) (x1 : DGraph) (x2 : DGraph) : icodeT Try.prog ttT.get nm_r_SameGraphs fi26.nt (cl_r_SameGraphs _ lf) lf st_r_SameGraphs J fi26.body [] (argGo (argV [cGraph, cGraph] (x1, x2, ())) 0 .leaf) S0 [] (lastK ttT.get fi26 ⟨[cGraph, cGraph], [(false, .bool)], g⟩) = R_r_SameGraphs_in lf x1 x2 (fun q => J 5 [lf] (enc_r_SameGraphs_5 x1 x2 q)) := by kernel_rfl
theorem st_r_SameGraphs_5 (g : ElA [cGraph, cGraph] → Option Rt_r_SameGraphs) (J : Nat → List Nat → NRes → Option Rt_r_SameGraphs) (lf : Nat) (x1 : DGraph) (x2 : DGraph) (m1 : Nat) (p : Int) : icodeFT Try.prog ttT.get nm_r_SameGraphs fi26.nt (cl_r_SameGraphs _ lf) lf st_r_SameGraphs J 5 fi26.body [] [m1] (enc_r_SameGraphs_5 x1 x2 p) (lastK ttT.get fi26 ⟨[cGraph, cGraph], [(false, .bool)], g⟩) = R_r_SameGraphs_5 lf x1 x2 (fun q => J 5 [m1] (enc_r_SameGraphs_5 x1 x2 q)) p := by kernel_rfl
theorem nd_r_SameGraphs : (regs fi26.body).Nodup := by decide +kernel
theorem ok_r_SameGraphs : okC nm_r_SameGraphs st_r_SameGraphs hd_r_SameGraphs fi26.body none = true := by kernel_rfl
def A_r_SameGraphs (g : ElA [cGraph, cGraph] → Option Rt_r_SameGraphs) (lf : Nat) : Nat → List Nat → NRes → Option Rt_r_SameGraphs := atN Try.prog ttT.get nm_r_SameGraphs fi26 ⟨[cGraph, cGraph], [(false, .bool)], g⟩ (cl_r_SameGraphs _ lf) lf hd_r_SameGraphs
def G_r_SameGraphs_5 (lf : Nat) (x1 : DGraph) (x2 : DGraph) : Nat → (Int) → Option Rt_r_SameGraphs := rounds fun K p => R_r_SameGraphs_5 lf x1 x2 K p
theorem at_r_SameGraphs_5 (g : ElA [cGraph, cGraph] → Option Rt_r_SameGraphs) (lf : Nat) (x1 : DGraph) (x2 : DGraph) : ∀ (n : Nat) (p : Int), A_r_SameGraphs g lf 5 [n] (enc_r_SameGraphs_5 x1 x2 p) = G_r_SameGraphs_5 lf x1 x2 n p
  | 0, p => atN_zero 5 [0] rfl _
  | n + 1, p => by
    have ih := at_r_SameGraphs_5 g lf x1 x2 n
    refine (atN_eq (icallK_eq 20 _) nd_r_SameGraphs ok_r_SameGraphs 5 [n + 1] [n] rfl _).trans ((st_r_SameGraphs_5 g (A_r_SameGraphs g lf) lf x1 x2 n p).trans ?_)
    rw [(show (fun q => A_r_SameGraphs g lf 5 [n] (enc_r_SameGraphs_5 x1 x2 q)) = (fun q => G_r_SameGraphs_5 lf x1 x2 n q) from funext ih)]
    rfl
def F_r_SameGraphs (lf : Nat) (x1 : DGraph) (x2 : DGraph) : Option Rt_r_SameGraphs := R_r_SameGraphs_in lf x1 x2 (fun q => G_r_SameGraphs_5 lf x1 x2 lf q)
theorem run_r_SameGraphs (g : ElA [cGraph, cGraph] → Option Rt_r_SameGraphs) (lf : Nat) (x1 : DGraph) (x2 : DGraph) : icodeT Try.prog ttT.get nm_r_SameGraphs fi26.nt (cl_r_SameGraphs _ lf) lf st_r_SameGraphs (A_r_SameGraphs g lf) fi26.body [] (argGo (argV [cGraph, cGraph] (x1, x2, ())) 0 .leaf) S0 [] (lastK ttT.get fi26 ⟨[cGraph, cGraph], [(false, .bool)], g⟩) = F_r_SameGraphs lf x1 x2 := by
    refine (in_r_SameGraphs g (A_r_SameGraphs g lf) lf x1 x2).trans ?_
    rw [(show (fun q => A_r_SameGraphs g lf 5 [lf] (enc_r_SameGraphs_5 x1 x2 q)) = (fun q => G_r_SameGraphs_5 lf x1 x2 lf q) from funext fun q => at_r_SameGraphs_5 g lf x1 x2 lf q)]
    rfl
theorem hxs_r_SameGraphs : HxsOK Try.prog hxl_r_SameGraphs := trivial
theorem mk_r_SameGraphs {g : ElA [cGraph, cGraph] → Option Rt_r_SameGraphs} (hsm : SmOK Try.prog sml_r_SameGraphs) (hg : ∀ (x : ElA [cGraph, cGraph]) (y : Rt_r_SameGraphs), WfA [cGraph, cGraph] x → g x = some y → ∃ lf, F_r_SameGraphs lf x.1 x.2.1 = some y) : Con Try.prog 26 ⟨[cGraph, cGraph], [(false, .bool)], g⟩ :=
  conT (nmf := nm_r_SameGraphs) (sml := sml_r_SameGraphs) (hxl := hxl_r_SameGraphs) (st := st_r_SameGraphs) (hd := hd_r_SameGraphs) 20 mixed ttOK ftOK hsm hxs_r_SameGraphs cal26 rfl rfl (by kernel_rfl) (fun x => by kernel_rfl) nd_r_SameGraphs ok_r_SameGraphs fun x y hx hy => by
    obtain ⟨lf, h⟩ := hg x y hx hy
    exact ⟨lf, (run_r_SameGraphs g lf x.1 x.2.1).trans h⟩
def nm_l_fewForms : Nat → Option Nm := fun k => cond (Nat.beq k 2) (some ⟨[0, 3], [], [], [], [], 0, 0, false⟩) (cond (Nat.beq k 8) (some ⟨[0, 3, 4, 5], [], [], [], [], 0, 0, false⟩) (none))
def st_l_fewForms : Nat → Bool := fun k => cond (Nat.beq k 2) true (cond (Nat.beq k 8) true (false))
def hd_l_fewForms : Nat → Bool := fun k => cond (Nat.beq k 2) true (cond (Nat.beq k 8) true (false))
abbrev Rt_l_fewForms : Type := Bool × Unit
def sml_l_fewForms : List (Nat × Sm) := []
def hxl_l_fewForms : List (Nat × Hx) := []
def cl_l_fewForms (R : Type) (lf : Nat) : ClK R := icallK Try.prog ttT.get ftT.get (nm1 13 nm_l_fewForms) (smL sml_l_fewForms) (hxL hxl_l_fewForms) lf 20 R
abbrev id_l_fewForms : Nat := 13
def enc_l_fewForms_2 (x1 : (List DForm)) (p : Int) : NRes := (NRes.mk (PT.node (some (IV.lst cForm x1)) (PT.node none (PT.node (some (IV.int Go.IntKind.i64 p)) PT.leaf PT.leaf) PT.leaf) PT.leaf) (IS.mk PT.leaf 0) [] 0)
def enc_l_fewForms_8 (x1 : (List DForm)) (p : Int × Int × Int) : NRes := (NRes.mk (PT.node (some (IV.lst cForm x1)) (PT.node none (PT.node (some (IV.int Go.IntKind.i64 p.2.2)) PT.leaf PT.leaf) (PT.node (some (IV.int Go.IntKind.i64 p.2.1)) PT.leaf PT.leaf)) (PT.node none (PT.node (some (IV.int Go.IntKind.i64 p.1)) PT.leaf PT.leaf) PT.leaf)) (IS.mk PT.leaf 0) [] 0)
def R_l_fewForms_in (lf : Nat) (x1 : (List DForm)) (L2 : Int → Option Rt_l_fewForms) : Option Rt_l_fewForms := (L2 (Int.ofNat 0))
def R_l_fewForms_2 (lf : Nat) (x1 : (List DForm)) (L8 : (Int × Int × Int) → Option Rt_l_fewForms) (p : Int) : Option Rt_l_fewForms := (cond (iltI p (Int.ofNat (List.length x1))) (match (jget x1 p) with | .none  => none | .some v0 => (match (jget x1 p) with | .none  => none | .some v1 => (cond (iltI (Int.ofNat 30) (Int.ofNat (ByteArray.size v1.1))) (some (Bool.false, ())) (cond (iltI (Int.ofNat 6) (Int.ofNat (List.length v0.2))) (cond (Bool.not (iltI (Int.ofNat 30) (Int.ofNat (List.length v0.2)))) (some (Bool.false, ())) (cond (iltI (Int.ofNat 40) (Int.ofNat (List.length v0.2))) (some (Bool.false, ())) (L8 ((Int.ofNat (List.length v0.2)), (Int.ofNat 0), p)))) (cond (iltI (Int.ofNat 40) (Int.ofNat (List.length v0.2))) (some (Bool.false, ())) (L8 ((Int.ofNat (List.length v0.2)), (Int.ofNat 0), p))))))) (cond (Bool.not (iltI (Int.ofNat 6) (Int.ofNat (List.length x1)))) (some (Bool.true, ())) (cond (iltI (Int.ofNat 24) (Int.ofNat (List.length x1))) (some ((Bool.not (iltI (Int.ofNat 30) (Int.ofNat (List.length x1)))), ())) (some (Bool.false, ())))))
def R_l_fewForms_8 (lf : Nat) (x1 : (List DForm)) (L8 : (Int × Int × Int) → Option Rt_l_fewForms) (L2 : Int → Option Rt_l_fewForms) (p : Int × Int × Int) : Option Rt_l_fewForms := (cond (iltI p.2.1 p.1) (match (jget x1 p.2.2) with | .none  => none | .some v0 => (match (jget v0.2 p.2.1) with | .none  => none | .some v1 => (cond (iltI (Int.ofNat 30) (Int.ofNat (ByteArray.size v1.1))) (some (Bool.false, ())) (match (jget x1 p.2.2) with | .none  => none | .some v2 => (match (jget v2.2 p.2.1) with | .none  => none | .some v3 => (cond (iltI (Int.ofNat 30) (Int.ofNat (ByteArray.size v3.2.2))) (some (Bool.false, ())) (L8 (p.1, (Go.IntKind.wrap Go.IntKind.i64 (Int.add p.2.1 (Int.ofNat 1))), p.2.2)))))))) (L2 (Go.IntKind.wrap Go.IntKind.i64 (Int.add p.2.2 (Int.ofNat 1)))))
theorem in_l_fewForms (g : ElA [(.list cForm)] → Option Rt_l_fewForms) (J : Nat → List Nat → NRes → Option Rt_l_fewForms) (lf : Nat) (x1 : (List DForm)) : icodeT Try.prog ttT.get nm_l_fewForms fi13.nt (cl_l_fewForms _ lf) lf st_l_fewForms J fi13.body [] (argGo (argV [(.list cForm)] (x1, ())) 0 .leaf) S0 [] (lastK ttT.get fi13 ⟨[(.list cForm)], [(false, .bool)], g⟩) = R_l_fewForms_in lf x1 (fun q => J 2 [lf] (enc_l_fewForms_2 x1 q)) := by kernel_rfl
theorem st_l_fewForms_2 (g : ElA [(.list cForm)] → Option Rt_l_fewForms) (J : Nat → List Nat → NRes → Option Rt_l_fewForms) (lf : Nat) (x1 : (List DForm)) (m1 : Nat) (p : Int) : icodeFT Try.prog ttT.get nm_l_fewForms fi13.nt (cl_l_fewForms _ lf) lf st_l_fewForms J 2 fi13.body [] [m1] (enc_l_fewForms_2 x1 p) (lastK ttT.get fi13 ⟨[(.list cForm)], [(false, .bool)], g⟩) = R_l_fewForms_2 lf x1 (fun q => J 8 [m1, lf] (enc_l_fewForms_8 x1 q)) p := by kernel_rfl
theorem st_l_fewForms_8 (g : ElA [(.list cForm)] → Option Rt_l_fewForms) (J : Nat → List Nat → NRes → Option Rt_l_fewForms) (lf : Nat) (x1 : (List DForm)) (m1 : Nat) (m2 : Nat) (p : Int × Int × Int) : icodeFT Try.prog ttT.get nm_l_fewForms fi13.nt (cl_l_fewForms _ lf) lf st_l_fewForms J 8 fi13.body [] [m1, m2] (enc_l_fewForms_8 x1 p) (lastK ttT.get fi13 ⟨[(.list cForm)], [(false, .bool)], g⟩) = R_l_fewForms_8 lf x1 (fun q => J 8 [m1, m2] (enc_l_fewForms_8 x1 q)) (fun q => J 2 [m1] (enc_l_fewForms_2 x1 q)) p := by kernel_rfl
theorem nd_l_fewForms : (regs fi13.body).Nodup := by decide +kernel
theorem ok_l_fewForms : okC nm_l_fewForms st_l_fewForms hd_l_fewForms fi13.body none = true := by kernel_rfl
def A_l_fewForms (g : ElA [(.list cForm)] → Option Rt_l_fewForms) (lf : Nat) : Nat → List Nat → NRes → Option Rt_l_fewForms := atN Try.prog ttT.get nm_l_fewForms fi13 ⟨[(.list cForm)], [(false, .bool)], g⟩ (cl_l_fewForms _ lf) lf hd_l_fewForms
def G_l_fewForms_8 (lf : Nat) (x1 : (List DForm)) (K2 : Int → Option Rt_l_fewForms) : Nat → (Int × Int × Int) → Option Rt_l_fewForms := rounds fun K p => R_l_fewForms_8 lf x1 K K2 p
theorem at_l_fewForms_8 (g : ElA [(.list cForm)] → Option Rt_l_fewForms) (lf : Nat) (x1 : (List DForm)) (m1 : Nat) : ∀ (n : Nat) (p : Int × Int × Int), A_l_fewForms g lf 8 [m1, n] (enc_l_fewForms_8 x1 p) = G_l_fewForms_8 lf x1 (fun q => A_l_fewForms g lf 2 [m1] (enc_l_fewForms_2 x1 q)) n p
  | 0, p => atN_zero 8 [m1, 0] rfl _
  | n + 1, p => by
    have ih := at_l_fewForms_8 g lf x1 m1 n
    refine (atN_eq (icallK_eq 20 _) nd_l_fewForms ok_l_fewForms 8 [m1, n + 1] [m1, n] rfl _).trans ((st_l_fewForms_8 g (A_l_fewForms g lf) lf x1 m1 n p).trans ?_)
    rw [(show (fun q => A_l_fewForms g lf 8 [m1, n] (enc_l_fewForms_8 x1 q)) = (fun q => G_l_fewForms_8 lf x1 (fun q => A_l_fewForms g lf 2 [m1] (enc_l_fewForms_2 x1 q)) n q) from funext ih)]
    rfl
def G_l_fewForms_2 (lf : Nat) (x1 : (List DForm)) : Nat → (Int) → Option Rt_l_fewForms := rounds fun K p => R_l_fewForms_2 lf x1 (fun q => G_l_fewForms_8 lf x1 K lf q) p
theorem at_l_fewForms_2 (g : ElA [(.list cForm)] → Option Rt_l_fewForms) (lf : Nat) (x1 : (List DForm)) : ∀ (n : Nat) (p : Int), A_l_fewForms g lf 2 [n] (enc_l_fewForms_2 x1 p) = G_l_fewForms_2 lf x1 n p
  | 0, p => atN_zero 2 [0] rfl _
  | n + 1, p => by
    have ih := at_l_fewForms_2 g lf x1 n
    refine (atN_eq (icallK_eq 20 _) nd_l_fewForms ok_l_fewForms 2 [n + 1] [n] rfl _).trans ((st_l_fewForms_2 g (A_l_fewForms g lf) lf x1 n p).trans ?_)
    rw [(show (fun q => A_l_fewForms g lf 8 [n, lf] (enc_l_fewForms_8 x1 q)) = (fun q => G_l_fewForms_8 lf x1 (fun q => A_l_fewForms g lf 2 [n] (enc_l_fewForms_2 x1 q)) lf q) from funext fun q => at_l_fewForms_8 g lf x1 n lf q), (show (fun q => A_l_fewForms g lf 2 [n] (enc_l_fewForms_2 x1 q)) = (fun q => G_l_fewForms_2 lf x1 n q) from funext ih)]
    rfl
def F_l_fewForms (lf : Nat) (x1 : (List DForm)) : Option Rt_l_fewForms := R_l_fewForms_in lf x1 (fun q => G_l_fewForms_2 lf x1 lf q)
theorem run_l_fewForms (g : ElA [(.list cForm)] → Option Rt_l_fewForms) (lf : Nat) (x1 : (List DForm)) : icodeT Try.prog ttT.get nm_l_fewForms fi13.nt (cl_l_fewForms _ lf) lf st_l_fewForms (A_l_fewForms g lf) fi13.body [] (argGo (argV [(.list cForm)] (x1, ())) 0 .leaf) S0 [] (lastK ttT.get fi13 ⟨[(.list cForm)], [(false, .bool)], g⟩) = F_l_fewForms lf x1 := by
    refine (in_l_fewForms g (A_l_fewForms g lf) lf x1).trans ?_
    rw [(show (fun q => A_l_fewForms g lf 2 [lf] (enc_l_fewForms_2 x1 q)) = (fun q => G_l_fewForms_2 lf x1 lf q) from funext fun q => at_l_fewForms_2 g lf x1 lf q)]
    rfl
theorem hxs_l_fewForms : HxsOK Try.prog hxl_l_fewForms := trivial
theorem mk_l_fewForms {g : ElA [(.list cForm)] → Option Rt_l_fewForms} (hsm : SmOK Try.prog sml_l_fewForms) (hg : ∀ (x : ElA [(.list cForm)]) (y : Rt_l_fewForms), WfA [(.list cForm)] x → g x = some y → ∃ lf, F_l_fewForms lf x.1 = some y) : Con Try.prog 13 ⟨[(.list cForm)], [(false, .bool)], g⟩ :=
  conT (nmf := nm_l_fewForms) (sml := sml_l_fewForms) (hxl := hxl_l_fewForms) (st := st_l_fewForms) (hd := hd_l_fewForms) 20 mixed ttOK ftOK hsm hxs_l_fewForms cal13 rfl rfl (by kernel_rfl) (fun x => by kernel_rfl) nd_l_fewForms ok_l_fewForms fun x y hx hy => by
    obtain ⟨lf, h⟩ := hg x y hx hy
    exact ⟨lf, (run_l_fewForms g lf x.1).trans h⟩
def nm_l_few : Nat → Option Nm := fun k => cond (Nat.beq k 3) (some ⟨[1, 3, 4], [], [], [], [], 0, 0, false⟩) (none)
def st_l_few : Nat → Bool := fun k => cond (Nat.beq k 3) true (false)
def hd_l_few : Nat → Bool := fun k => cond (Nat.beq k 3) true (false)
abbrev Rt_l_few : Type := Bool × Unit
def sml_l_few : List (Nat × Sm) := []
def hxl_l_few : List (Nat × Hx) := []
def cl_l_few (R : Type) (lf : Nat) : ClK R := icallK Try.prog ttT.get ftT.get (nm1 14 nm_l_few) (smL sml_l_few) (hxL hxl_l_few) lf 20 R
abbrev id_l_few : Nat := 14
def enc_l_few_3 (x1 : DGraph) (p : Int) : NRes := (NRes.mk (PT.node none (PT.node (some (IV.ptr 0 0)) (PT.node (some (IV.int Go.IntKind.i64 (Int.ofNat (List.length x1.1)))) PT.leaf PT.leaf) PT.leaf) (PT.node none (PT.node (some (IV.int Go.IntKind.i64 p)) PT.leaf PT.leaf) PT.leaf)) (IS.mk (PT.node (some (IObj.row (List.cons (IV.lst cNode x1.1) (List.cons (IV.lst cVal x1.2) [])))) PT.leaf PT.leaf) 1) [] 0)
def R_l_few_in (lf : Nat) (x1 : DGraph) (L3 : Int → Option Rt_l_few) : Option Rt_l_few := (L3 (Int.ofNat 0))
def R_l_few_3 (lf : Nat) (x1 : DGraph) (L3 : Int → Option Rt_l_few) (p : Int) : Option Rt_l_few := (cond (iltI p (Int.ofNat (List.length x1.1))) (match (jget x1.1 p) with | .none  => none | .some v0 => (cond (iltI (Int.ofNat 8) (Int.ofNat (List.length v0.2))) (cond (Bool.not (iltI (Int.ofNat 30) (Int.ofNat (List.length v0.2)))) (some (Bool.false, ())) (cond (iltI (Int.ofNat 40) (Int.ofNat (List.length v0.2))) (some (Bool.false, ())) (L3 (Go.IntKind.wrap Go.IntKind.i64 (Int.add p (Int.ofNat 1)))))) (cond (iltI (Int.ofNat 40) (Int.ofNat (List.length v0.2))) (some (Bool.false, ())) (L3 (Go.IntKind.wrap Go.IntKind.i64 (Int.add p (Int.ofNat 1))))))) (cond (Bool.not (iltI (Int.ofNat 30) (Int.ofNat (List.length x1.1)))) (cond (Bool.not (iltI (Int.ofNat 10) (Int.ofNat (List.length x1.2)))) (some (Bool.true, ())) (cond (iltI (Int.ofNat 60) (Int.ofNat (List.length x1.2))) (some ((Bool.not (iltI (Int.ofNat 70) (Int.ofNat (List.length x1.2)))), ())) (some (Bool.false, ())))) (cond (iltI (Int.ofNat 400) (Int.ofNat (List.length x1.1))) (cond (Bool.not (iltI (Int.ofNat 410) (Int.ofNat (List.length x1.1)))) (cond (Bool.not (iltI (Int.ofNat 10) (Int.ofNat (List.length x1.2)))) (some (Bool.true, ())) (cond (iltI (Int.ofNat 60) (Int.ofNat (List.length x1.2))) (some ((Bool.not (iltI (Int.ofNat 70) (Int.ofNat (List.length x1.2)))), ())) (some (Bool.false, ())))) (some (Bool.false, ()))) (some (Bool.false, ())))))
theorem in_l_few (g : ElA [cGraph] → Option Rt_l_few) (J : Nat → List Nat → NRes → Option Rt_l_few) (lf : Nat) (x1 : DGraph) : icodeT Try.prog ttT.get nm_l_few fi14.nt (cl_l_few _ lf) lf st_l_few J fi14.body [] (argGo (argV [cGraph] (x1, ())) 0 .leaf) S0 [] (lastK ttT.get fi14 ⟨[cGraph], [(false, .bool)], g⟩) = R_l_few_in lf x1 (fun q => J 3 [lf] (enc_l_few_3 x1 q)) := by kernel_rfl
theorem st_l_few_3 (g : ElA [cGraph] → Option Rt_l_few) (J : Nat → List Nat → NRes → Option Rt_l_few) (lf : Nat) (x1 : DGraph) (m1 : Nat) (p : Int) : icodeFT Try.prog ttT.get nm_l_few fi14.nt (cl_l_few _ lf) lf st_l_few J 3 fi14.body [] [m1] (enc_l_few_3 x1 p) (lastK ttT.get fi14 ⟨[cGraph], [(false, .bool)], g⟩) = R_l_few_3 lf x1 (fun q => J 3 [m1] (enc_l_few_3 x1 q)) p := by kernel_rfl
theorem nd_l_few : (regs fi14.body).Nodup := by decide +kernel
theorem ok_l_few : okC nm_l_few st_l_few hd_l_few fi14.body none = true := by kernel_rfl
def A_l_few (g : ElA [cGraph] → Option Rt_l_few) (lf : Nat) : Nat → List Nat → NRes → Option Rt_l_few := atN Try.prog ttT.get nm_l_few fi14 ⟨[cGraph], [(false, .bool)], g⟩ (cl_l_few _ lf) lf hd_l_few
def G_l_few_3 (lf : Nat) (x1 : DGraph) : Nat → (Int) → Option Rt_l_few := rounds fun K p => R_l_few_3 lf x1 K p
theorem at_l_few_3 (g : ElA [cGraph] → Option Rt_l_few) (lf : Nat) (x1 : DGraph) : ∀ (n : Nat) (p : Int), A_l_few g lf 3 [n] (enc_l_few_3 x1 p) = G_l_few_3 lf x1 n p
  | 0, p => atN_zero 3 [0] rfl _
  | n + 1, p => by
    have ih := at_l_few_3 g lf x1 n
    refine (atN_eq (icallK_eq 20 _) nd_l_few ok_l_few 3 [n + 1] [n] rfl _).trans ((st_l_few_3 g (A_l_few g lf) lf x1 n p).trans ?_)
    rw [(show (fun q => A_l_few g lf 3 [n] (enc_l_few_3 x1 q)) = (fun q => G_l_few_3 lf x1 n q) from funext ih)]
    rfl
def F_l_few (lf : Nat) (x1 : DGraph) : Option Rt_l_few := R_l_few_in lf x1 (fun q => G_l_few_3 lf x1 lf q)
theorem run_l_few (g : ElA [cGraph] → Option Rt_l_few) (lf : Nat) (x1 : DGraph) : icodeT Try.prog ttT.get nm_l_few fi14.nt (cl_l_few _ lf) lf st_l_few (A_l_few g lf) fi14.body [] (argGo (argV [cGraph] (x1, ())) 0 .leaf) S0 [] (lastK ttT.get fi14 ⟨[cGraph], [(false, .bool)], g⟩) = F_l_few lf x1 := by
    refine (in_l_few g (A_l_few g lf) lf x1).trans ?_
    rw [(show (fun q => A_l_few g lf 3 [lf] (enc_l_few_3 x1 q)) = (fun q => G_l_few_3 lf x1 lf q) from funext fun q => at_l_few_3 g lf x1 lf q)]
    rfl
theorem hxs_l_few : HxsOK Try.prog hxl_l_few := trivial
theorem mk_l_few {g : ElA [cGraph] → Option Rt_l_few} (hsm : SmOK Try.prog sml_l_few) (hg : ∀ (x : ElA [cGraph]) (y : Rt_l_few), WfA [cGraph] x → g x = some y → ∃ lf, F_l_few lf x.1 = some y) : Con Try.prog 14 ⟨[cGraph], [(false, .bool)], g⟩ :=
  conT (nmf := nm_l_few) (sml := sml_l_few) (hxl := hxl_l_few) (st := st_l_few) (hd := hd_l_few) 20 mixed ttOK ftOK hsm hxs_l_few cal14 rfl rfl (by kernel_rfl) (fun x => by kernel_rfl) nd_l_few ok_l_few fun x y hx hy => by
    obtain ⟨lf, h⟩ := hg x y hx hy
    exact ⟨lf, (run_l_few g lf x.1).trans h⟩
def nm_l_fewRules : Nat → Option Nm := fun k => cond (Nat.beq k 2) (some ⟨[0, 3], [], [], [], [], 0, 0, false⟩) (none)
def st_l_fewRules : Nat → Bool := fun k => cond (Nat.beq k 2) true (false)
def hd_l_fewRules : Nat → Bool := fun k => cond (Nat.beq k 2) true (false)
abbrev Rt_l_fewRules : Type := Bool × Unit
def sml_l_fewRules : List (Nat × Sm) := []
def hxl_l_fewRules : List (Nat × Hx) := []
def cl_l_fewRules (R : Type) (lf : Nat) : ClK R := icallK Try.prog ttT.get ftT.get (nm1 27 nm_l_fewRules) (smL sml_l_fewRules) (hxL hxl_l_fewRules) lf 20 R
abbrev id_l_fewRules : Nat := 27
def enc_l_fewRules_2 (x1 : (List DRule)) (p : Int) : NRes := (NRes.mk (PT.node (some (IV.lst cRule x1)) (PT.node none (PT.node (some (IV.int Go.IntKind.i64 p)) PT.leaf PT.leaf) PT.leaf) PT.leaf) (IS.mk PT.leaf 0) [] 0)
def R_l_fewRules_in (lf : Nat) (x1 : (List DRule)) (L2 : Int → Option Rt_l_fewRules) : Option Rt_l_fewRules := (L2 (Int.ofNat 0))
def R_l_fewRules_2 (lf : Nat) (x1 : (List DRule)) (L2 : Int → Option Rt_l_fewRules) (p : Int) : Option Rt_l_fewRules := (cond (iltI p (Int.ofNat (List.length x1))) (match (jget x1 p) with | .none  => none | .some v0 => (cond (iltI (Int.ofNat 8) (Int.ofNat (List.length v0.2.2))) (some (Bool.false, ())) (L2 (Go.IntKind.wrap Go.IntKind.i64 (Int.add p (Int.ofNat 1)))))) (cond (Bool.not (iltI (Int.ofNat 8) (Int.ofNat (List.length x1)))) (some (Bool.true, ())) (cond (iltI (Int.ofNat 24) (Int.ofNat (List.length x1))) (some ((Bool.not (iltI (Int.ofNat 30) (Int.ofNat (List.length x1)))), ())) (some (Bool.false, ())))))
theorem in_l_fewRules (g : ElA [(.list cRule)] → Option Rt_l_fewRules) (J : Nat → List Nat → NRes → Option Rt_l_fewRules) (lf : Nat) (x1 : (List DRule)) : icodeT Try.prog ttT.get nm_l_fewRules fi27.nt (cl_l_fewRules _ lf) lf st_l_fewRules J fi27.body [] (argGo (argV [(.list cRule)] (x1, ())) 0 .leaf) S0 [] (lastK ttT.get fi27 ⟨[(.list cRule)], [(false, .bool)], g⟩) = R_l_fewRules_in lf x1 (fun q => J 2 [lf] (enc_l_fewRules_2 x1 q)) := by kernel_rfl
theorem st_l_fewRules_2 (g : ElA [(.list cRule)] → Option Rt_l_fewRules) (J : Nat → List Nat → NRes → Option Rt_l_fewRules) (lf : Nat) (x1 : (List DRule)) (m1 : Nat) (p : Int) : icodeFT Try.prog ttT.get nm_l_fewRules fi27.nt (cl_l_fewRules _ lf) lf st_l_fewRules J 2 fi27.body [] [m1] (enc_l_fewRules_2 x1 p) (lastK ttT.get fi27 ⟨[(.list cRule)], [(false, .bool)], g⟩) = R_l_fewRules_2 lf x1 (fun q => J 2 [m1] (enc_l_fewRules_2 x1 q)) p := by kernel_rfl
theorem nd_l_fewRules : (regs fi27.body).Nodup := by decide +kernel
theorem ok_l_fewRules : okC nm_l_fewRules st_l_fewRules hd_l_fewRules fi27.body none = true := by kernel_rfl
def A_l_fewRules (g : ElA [(.list cRule)] → Option Rt_l_fewRules) (lf : Nat) : Nat → List Nat → NRes → Option Rt_l_fewRules := atN Try.prog ttT.get nm_l_fewRules fi27 ⟨[(.list cRule)], [(false, .bool)], g⟩ (cl_l_fewRules _ lf) lf hd_l_fewRules
def G_l_fewRules_2 (lf : Nat) (x1 : (List DRule)) : Nat → (Int) → Option Rt_l_fewRules := rounds fun K p => R_l_fewRules_2 lf x1 K p
theorem at_l_fewRules_2 (g : ElA [(.list cRule)] → Option Rt_l_fewRules) (lf : Nat) (x1 : (List DRule)) : ∀ (n : Nat) (p : Int), A_l_fewRules g lf 2 [n] (enc_l_fewRules_2 x1 p) = G_l_fewRules_2 lf x1 n p
  | 0, p => atN_zero 2 [0] rfl _
  | n + 1, p => by
    have ih := at_l_fewRules_2 g lf x1 n
    refine (atN_eq (icallK_eq 20 _) nd_l_fewRules ok_l_fewRules 2 [n + 1] [n] rfl _).trans ((st_l_fewRules_2 g (A_l_fewRules g lf) lf x1 n p).trans ?_)
    rw [(show (fun q => A_l_fewRules g lf 2 [n] (enc_l_fewRules_2 x1 q)) = (fun q => G_l_fewRules_2 lf x1 n q) from funext ih)]
    rfl
def F_l_fewRules (lf : Nat) (x1 : (List DRule)) : Option Rt_l_fewRules := R_l_fewRules_in lf x1 (fun q => G_l_fewRules_2 lf x1 lf q)
theorem run_l_fewRules (g : ElA [(.list cRule)] → Option Rt_l_fewRules) (lf : Nat) (x1 : (List DRule)) : icodeT Try.prog ttT.get nm_l_fewRules fi27.nt (cl_l_fewRules _ lf) lf st_l_fewRules (A_l_fewRules g lf) fi27.body [] (argGo (argV [(.list cRule)] (x1, ())) 0 .leaf) S0 [] (lastK ttT.get fi27 ⟨[(.list cRule)], [(false, .bool)], g⟩) = F_l_fewRules lf x1 := by
    refine (in_l_fewRules g (A_l_fewRules g lf) lf x1).trans ?_
    rw [(show (fun q => A_l_fewRules g lf 2 [lf] (enc_l_fewRules_2 x1 q)) = (fun q => G_l_fewRules_2 lf x1 lf q) from funext fun q => at_l_fewRules_2 g lf x1 lf q)]
    rfl
theorem hxs_l_fewRules : HxsOK Try.prog hxl_l_fewRules := trivial
theorem mk_l_fewRules {g : ElA [(.list cRule)] → Option Rt_l_fewRules} (hsm : SmOK Try.prog sml_l_fewRules) (hg : ∀ (x : ElA [(.list cRule)]) (y : Rt_l_fewRules), WfA [(.list cRule)] x → g x = some y → ∃ lf, F_l_fewRules lf x.1 = some y) : Con Try.prog 27 ⟨[(.list cRule)], [(false, .bool)], g⟩ :=
  conT (nmf := nm_l_fewRules) (sml := sml_l_fewRules) (hxl := hxl_l_fewRules) (st := st_l_fewRules) (hd := hd_l_fewRules) 20 mixed ttOK ftOK hsm hxs_l_fewRules cal27 rfl rfl (by kernel_rfl) (fun x => by kernel_rfl) nd_l_fewRules ok_l_fewRules fun x y hx hy => by
    obtain ⟨lf, h⟩ := hg x y hx hy
    exact ⟨lf, (run_l_fewRules g lf x.1).trans h⟩
end Go.Proofs.Ytcnhjofpmpipfaa

end
end

/- Made by program: plain forms of functions. -/
section
set_option linter.unusedVariables false
set_option maxRecDepth 100000
noncomputable section
namespace Go.Proofs.Ytcnhjofpmpipfaa
open Go Go.Sx Go.RowKit Go.Jx
end Go.Proofs.Ytcnhjofpmpipfaa

end
end

/- The calls of slices.IndexFunc and of strings.IndexFunc. -/
section
set_option linter.unusedVariables false
set_option maxRecDepth 100000
noncomputable section
namespace Go.Proofs.Ytcnhjofpmpipfaa
open Go Go.Sx Go.RowKit Go.Jx
theorem ixF114 : IdxFacts Try.prog ttT.get cRule fi114 (cL fb114) (cL (cL (cR fb114))) (cB (cB (cR (cL (cR fb114))))) (cR (cR fb114)) :=
  ⟨by kernel_rfl, by kernel_rfl, fun mr => by kernel_rfl, fun R clK B0 mr lf l g caps S kk => by kernel_rfl, fun R clK B0 mr lf l g caps S kk => by kernel_rfl, fun R clK B0 mr lf l g caps S i kk => by kernel_rfl, fun R clK B0 mr lf fr S kk => by kernel_rfl, by kernel_rfl, by kernel_rfl, fun mr => by kernel_rfl⟩
theorem ixO114 : HxOK Try.prog 114 (idxF cRule) := idx_ok ixF114 mixed ttOK fo114
theorem ixF125 : IdxFacts Try.prog ttT.get cForm fi125 (cL fb125) (cL (cL (cR fb125))) (cB (cB (cR (cL (cR fb125))))) (cR (cR fb125)) :=
  ⟨by kernel_rfl, by kernel_rfl, fun mr => by kernel_rfl, fun R clK B0 mr lf l g caps S kk => by kernel_rfl, fun R clK B0 mr lf l g caps S kk => by kernel_rfl, fun R clK B0 mr lf l g caps S i kk => by kernel_rfl, fun R clK B0 mr lf fr S kk => by kernel_rfl, by kernel_rfl, by kernel_rfl, fun mr => by kernel_rfl⟩
theorem ixO125 : HxOK Try.prog 125 (idxF cForm) := idx_ok ixF125 mixed ttOK fo125
theorem ixF135 : IdxFacts Try.prog ttT.get cNode fi135 (cL fb135) (cL (cL (cR fb135))) (cB (cB (cR (cL (cR fb135))))) (cR (cR fb135)) :=
  ⟨by kernel_rfl, by kernel_rfl, fun mr => by kernel_rfl, fun R clK B0 mr lf l g caps S kk => by kernel_rfl, fun R clK B0 mr lf l g caps S kk => by kernel_rfl, fun R clK B0 mr lf l g caps S i kk => by kernel_rfl, fun R clK B0 mr lf fr S kk => by kernel_rfl, by kernel_rfl, by kernel_rfl, fun mr => by kernel_rfl⟩
theorem ixO135 : HxOK Try.prog 135 (idxF cNode) := idx_ok ixF135 mixed ttOK fo135
theorem ixF137 : IdxFacts Try.prog ttT.get cVal fi137 (cL fb137) (cL (cL (cR fb137))) (cB (cB (cR (cL (cR fb137))))) (cR (cR fb137)) :=
  ⟨by kernel_rfl, by kernel_rfl, fun mr => by kernel_rfl, fun R clK B0 mr lf l g caps S kk => by kernel_rfl, fun R clK B0 mr lf l g caps S kk => by kernel_rfl, fun R clK B0 mr lf l g caps S i kk => by kernel_rfl, fun R clK B0 mr lf fr S kk => by kernel_rfl, by kernel_rfl, by kernel_rfl, fun mr => by kernel_rfl⟩
theorem ixO137 : HxOK Try.prog 137 (idxF cVal) := idx_ok ixF137 mixed ttOK fo137
theorem sxF143 : SixFacts Try.prog ttT.get fi143 (cL fb143) (cL (cL (cR fb143))) (cB (cB (cR (cL (cR fb143))))) (cR (cR fb143)) :=
  ⟨by kernel_rfl, by kernel_rfl, fun mr mw => by kernel_rfl, fun R clK B0 mr mw lf s g caps b S kk => by kernel_rfl, fun R B0 mr mw lf g caps b a id rd S S' test kk => by kernel_rfl, fun R clK B0 mr mw lf fr S kk => by kernel_rfl, by kernel_rfl, by kernel_rfl, fun mr mw => by kernel_rfl⟩
theorem ixO143 : HxOK Try.prog 143 sixF := six_ok sxF143 mixed ttOK fo143
theorem ixF144 : IdxFacts Try.prog ttT.get cCol fi144 (cL fb144) (cL (cL (cR fb144))) (cB (cB (cR (cL (cR fb144))))) (cR (cR fb144)) :=
  ⟨by kernel_rfl, by kernel_rfl, fun mr => by kernel_rfl, fun R clK B0 mr lf l g caps S kk => by kernel_rfl, fun R clK B0 mr lf l g caps S kk => by kernel_rfl, fun R clK B0 mr lf l g caps S i kk => by kernel_rfl, fun R clK B0 mr lf fr S kk => by kernel_rfl, by kernel_rfl, by kernel_rfl, fun mr => by kernel_rfl⟩
theorem ixO144 : HxOK Try.prog 144 (idxF cCol) := idx_ok ixF144 mixed ttOK fo144
end Go.Proofs.Ytcnhjofpmpipfaa

end
end

/- Made by program: plain forms of functions. -/
section
set_option linter.unusedVariables false
set_option maxRecDepth 100000
noncomputable section
namespace Go.Proofs.Ytcnhjofpmpipfaa
open Go Go.Sx Go.RowKit Go.Jx
def nm_p_within : Nat → Option Nm := fun k => none
def st_p_within : Nat → Bool := fun k => false
def hd_p_within : Nat → Bool := fun k => false
abbrev Rt_p_within : Type := Bool × Unit
def sml_p_within : List (Nat × Sm) := []
def hxl_p_within : List (Nat × Hx) := []
def cl_p_within (R : Type) (lf : Nat) : ClK R := icallK Try.prog ttT.get ftT.get (nm1 83 nm_p_within) (smL sml_p_within) (hxL hxl_p_within) lf 20 R
abbrev id_p_within : Nat := 83
def R_p_within_in (lf : Nat) (x1 : Int) (x2 : Int) (x3 : Int) : Option Rt_p_within := (cond (Bool.not (iltI x1 x2)) (some ((Bool.not (iltI x3 x1)), ())) (some (Bool.false, ())))
theorem in_p_within (g : ElA [(.int .i64), (.int .i64), (.int .i64)] → Option Rt_p_within) (J : Nat → List Nat → NRes → Option Rt_p_within) (lf : Nat) (x1 : Int) (x2 : Int) (x3 : Int) : icodeT Try.prog ttT.get nm_p_within fi83.nt (cl_p_within _ lf) lf st_p_within J fi83.body [] (argGo (argV [(.int .i64), (.int .i64), (.int .i64)] (x1, x2, x3, ())) 0 .leaf) S0 [] (lastK ttT.get fi83 ⟨[(.int .i64), (.int .i64), (.int .i64)], [(false, .bool)], g⟩) = R_p_within_in lf x1 x2 x3 := by kernel_rfl
theorem nd_p_within : (regs fi83.body).Nodup := by decide +kernel
theorem ok_p_within : okC nm_p_within st_p_within hd_p_within fi83.body none = true := by kernel_rfl
def A_p_within (g : ElA [(.int .i64), (.int .i64), (.int .i64)] → Option Rt_p_within) (lf : Nat) : Nat → List Nat → NRes → Option Rt_p_within := atN Try.prog ttT.get nm_p_within fi83 ⟨[(.int .i64), (.int .i64), (.int .i64)], [(false, .bool)], g⟩ (cl_p_within _ lf) lf hd_p_within
def F_p_within (lf : Nat) (x1 : Int) (x2 : Int) (x3 : Int) : Option Rt_p_within := R_p_within_in lf x1 x2 x3
theorem run_p_within (g : ElA [(.int .i64), (.int .i64), (.int .i64)] → Option Rt_p_within) (lf : Nat) (x1 : Int) (x2 : Int) (x3 : Int) : icodeT Try.prog ttT.get nm_p_within fi83.nt (cl_p_within _ lf) lf st_p_within (A_p_within g lf) fi83.body [] (argGo (argV [(.int .i64), (.int .i64), (.int .i64)] (x1, x2, x3, ())) 0 .leaf) S0 [] (lastK ttT.get fi83 ⟨[(.int .i64), (.int .i64), (.int .i64)], [(false, .bool)], g⟩) = F_p_within lf x1 x2 x3 := by
    refine (in_p_within g (A_p_within g lf) lf x1 x2 x3).trans ?_
    rfl
theorem hxs_p_within : HxsOK Try.prog hxl_p_within := trivial
theorem mk_p_within {g : ElA [(.int .i64), (.int .i64), (.int .i64)] → Option Rt_p_within} (hsm : SmOK Try.prog sml_p_within) (hg : ∀ (x : ElA [(.int .i64), (.int .i64), (.int .i64)]) (y : Rt_p_within), WfA [(.int .i64), (.int .i64), (.int .i64)] x → g x = some y → ∃ lf, F_p_within lf x.1 x.2.1 x.2.2.1 = some y) : Con Try.prog 83 ⟨[(.int .i64), (.int .i64), (.int .i64)], [(false, .bool)], g⟩ :=
  conT (nmf := nm_p_within) (sml := sml_p_within) (hxl := hxl_p_within) (st := st_p_within) (hd := hd_p_within) 20 mixed ttOK ftOK hsm hxs_p_within cal83 rfl rfl (by kernel_rfl) (fun x => by kernel_rfl) nd_p_within ok_p_within fun x y hx hy => by
    obtain ⟨lf, h⟩ := hg x y hx hy
    exact ⟨lf, (run_p_within g lf x.1 x.2.1 x.2.2.1).trans h⟩
def nm_p_first : Nat → Option Nm := fun k => cond (Nat.beq k 2) (some ⟨[5, 6, 7], [], [], [], [], 0, 0, false⟩) (none)
def st_p_first : Nat → Bool := fun k => cond (Nat.beq k 2) true (false)
def hd_p_first : Nat → Bool := fun k => cond (Nat.beq k 2) true (false)
abbrev Rt_p_first : Type := Int × Unit
def sml_p_first : List (Nat × Sm) := []
def hxl_p_first : List (Nat × Hx) := []
def cl_p_first (R : Type) (lf : Nat) : ClK R := icallK Try.prog ttT.get ftT.get (nm1 49 nm_p_first) (smL sml_p_first) (hxL hxl_p_first) lf 20 R
abbrev id_p_first : Nat := 49
def enc_p_first_2 (x1 : (List Int)) (p : Int) : NRes := (NRes.mk (PT.node none (PT.node none (PT.node none (PT.node (some (IV.int Go.IntKind.i64 p)) PT.leaf PT.leaf) PT.leaf) (PT.node (some (IV.lst (TC.int Go.IntKind.i64) x1)) PT.leaf PT.leaf)) (PT.node none PT.leaf (PT.node (some (IV.int Go.IntKind.i64 (Int.ofNat (List.length x1)))) PT.leaf PT.leaf))) (IS.mk PT.leaf 0) [] 0)
def R_p_first_in (lf : Nat) (x1 : (List Int)) (L2 : Int → Option Rt_p_first) : Option Rt_p_first := (L2 (Int.ofNat 0))
def R_p_first_2 (lf : Nat) (x1 : (List Int)) (L2 : Int → Option Rt_p_first) (p : Int) : Option Rt_p_first := (cond (iltI p (Int.ofNat (List.length x1))) (match (jget x1 p) with | .none  => none | .some v0 => (cond (Bool.not (ieqI v0 (Int.ofNat 0))) (some (v0, ())) (L2 (Go.IntKind.wrap Go.IntKind.i64 (Int.add p (Int.ofNat 1)))))) (some ((Int.ofNat 0), ())))
theorem in_p_first (g : ElA [(.list (.int .i64))] → Option Rt_p_first) (J : Nat → List Nat → NRes → Option Rt_p_first) (lf : Nat) (x1 : (List Int)) : icodeT Try.prog ttT.get nm_p_first fi49.nt (cl_p_first _ lf) lf st_p_first J fi49.body [] (argGo (argV [(.list (.int .i64))] (x1, ())) 0 .leaf) S0 [] (lastK ttT.get fi49 ⟨[(.list (.int .i64))], [(false, (.int .i64))], g⟩) = R_p_first_in lf x1 (fun q => J 2 [lf] (enc_p_first_2 x1 q)) := by kernel_rfl
theorem st_p_first_2 (g : ElA [(.list (.int .i64))] → Option Rt_p_first) (J : Nat → List Nat → NRes → Option Rt_p_first) (lf : Nat) (x1 : (List Int)) (m1 : Nat) (p : Int) : icodeFT Try.prog ttT.get nm_p_first fi49.nt (cl_p_first _ lf) lf st_p_first J 2 fi49.body [] [m1] (enc_p_first_2 x1 p) (lastK ttT.get fi49 ⟨[(.list (.int .i64))], [(false, (.int .i64))], g⟩) = R_p_first_2 lf x1 (fun q => J 2 [m1] (enc_p_first_2 x1 q)) p := by kernel_rfl
theorem nd_p_first : (regs fi49.body).Nodup := by decide +kernel
theorem ok_p_first : okC nm_p_first st_p_first hd_p_first fi49.body none = true := by kernel_rfl
def A_p_first (g : ElA [(.list (.int .i64))] → Option Rt_p_first) (lf : Nat) : Nat → List Nat → NRes → Option Rt_p_first := atN Try.prog ttT.get nm_p_first fi49 ⟨[(.list (.int .i64))], [(false, (.int .i64))], g⟩ (cl_p_first _ lf) lf hd_p_first
def G_p_first_2 (lf : Nat) (x1 : (List Int)) : Nat → (Int) → Option Rt_p_first := rounds fun K p => R_p_first_2 lf x1 K p
theorem at_p_first_2 (g : ElA [(.list (.int .i64))] → Option Rt_p_first) (lf : Nat) (x1 : (List Int)) : ∀ (n : Nat) (p : Int), A_p_first g lf 2 [n] (enc_p_first_2 x1 p) = G_p_first_2 lf x1 n p
  | 0, p => atN_zero 2 [0] rfl _
  | n + 1, p => by
    have ih := at_p_first_2 g lf x1 n
    refine (atN_eq (icallK_eq 20 _) nd_p_first ok_p_first 2 [n + 1] [n] rfl _).trans ((st_p_first_2 g (A_p_first g lf) lf x1 n p).trans ?_)
    rw [(show (fun q => A_p_first g lf 2 [n] (enc_p_first_2 x1 q)) = (fun q => G_p_first_2 lf x1 n q) from funext ih)]
    rfl
def F_p_first (lf : Nat) (x1 : (List Int)) : Option Rt_p_first := R_p_first_in lf x1 (fun q => G_p_first_2 lf x1 lf q)
theorem run_p_first (g : ElA [(.list (.int .i64))] → Option Rt_p_first) (lf : Nat) (x1 : (List Int)) : icodeT Try.prog ttT.get nm_p_first fi49.nt (cl_p_first _ lf) lf st_p_first (A_p_first g lf) fi49.body [] (argGo (argV [(.list (.int .i64))] (x1, ())) 0 .leaf) S0 [] (lastK ttT.get fi49 ⟨[(.list (.int .i64))], [(false, (.int .i64))], g⟩) = F_p_first lf x1 := by
    refine (in_p_first g (A_p_first g lf) lf x1).trans ?_
    rw [(show (fun q => A_p_first g lf 2 [lf] (enc_p_first_2 x1 q)) = (fun q => G_p_first_2 lf x1 lf q) from funext fun q => at_p_first_2 g lf x1 lf q)]
    rfl
theorem hxs_p_first : HxsOK Try.prog hxl_p_first := trivial
theorem mk_p_first {g : ElA [(.list (.int .i64))] → Option Rt_p_first} (hsm : SmOK Try.prog sml_p_first) (hg : ∀ (x : ElA [(.list (.int .i64))]) (y : Rt_p_first), WfA [(.list (.int .i64))] x → g x = some y → ∃ lf, F_p_first lf x.1 = some y) : Con Try.prog 49 ⟨[(.list (.int .i64))], [(false, (.int .i64))], g⟩ :=
  conT (nmf := nm_p_first) (sml := sml_p_first) (hxl := hxl_p_first) (st := st_p_first) (hd := hd_p_first) 20 mixed ttOK ftOK hsm hxs_p_first cal49 rfl rfl (by kernel_rfl) (fun x => by kernel_rfl) nd_p_first ok_p_first fun x y hx hy => by
    obtain ⟨lf, h⟩ := hg x y hx hy
    exact ⟨lf, (run_p_first g lf x.1).trans h⟩
def nm_p_form : Nat → Option Nm := fun k => none
def st_p_form : Nat → Bool := fun k => false
def hd_p_form : Nat → Bool := fun k => false
abbrev Rt_p_form : Type := Int × Unit
def sml_p_form : List (Nat × Sm) := []
def hxl_p_form : List (Nat × Hx) := [(125, idxHx cForm)]
def cl_p_form (R : Type) (lf : Nat) : ClK R := icallK Try.prog ttT.get ftT.get (nm1 52 nm_p_form) (smL sml_p_form) (hxL hxl_p_form) lf 20 R
abbrev id_p_form : Nat := 52
def R_p_form_in (lf : Nat) (x1 : (List DForm)) (x2 : ByteArray) : Option Rt_p_form := (match (idxO (fun v0 => (some (keqS v0.1 x2))) x1 0) with | .none  => none | .some v1 => (some (v1, ())))
theorem in_p_form (g : ElA [(.list cForm), .str] → Option Rt_p_form) (J : Nat → List Nat → NRes → Option Rt_p_form) (lf : Nat) (x1 : (List DForm)) (x2 : ByteArray) : icodeT Try.prog ttT.get nm_p_form fi52.nt (cl_p_form _ lf) lf st_p_form J fi52.body [] (argGo (argV [(.list cForm), .str] (x1, x2, ())) 0 .leaf) S0 [] (lastK ttT.get fi52 ⟨[(.list cForm), .str], [(false, (.int .i64))], g⟩) = R_p_form_in lf x1 x2 := by kernel_rfl
theorem nd_p_form : (regs fi52.body).Nodup := by decide +kernel
theorem ok_p_form : okC nm_p_form st_p_form hd_p_form fi52.body none = true := by kernel_rfl
def A_p_form (g : ElA [(.list cForm), .str] → Option Rt_p_form) (lf : Nat) : Nat → List Nat → NRes → Option Rt_p_form := atN Try.prog ttT.get nm_p_form fi52 ⟨[(.list cForm), .str], [(false, (.int .i64))], g⟩ (cl_p_form _ lf) lf hd_p_form
def F_p_form (lf : Nat) (x1 : (List DForm)) (x2 : ByteArray) : Option Rt_p_form := R_p_form_in lf x1 x2
theorem run_p_form (g : ElA [(.list cForm), .str] → Option Rt_p_form) (lf : Nat) (x1 : (List DForm)) (x2 : ByteArray) : icodeT Try.prog ttT.get nm_p_form fi52.nt (cl_p_form _ lf) lf st_p_form (A_p_form g lf) fi52.body [] (argGo (argV [(.list cForm), .str] (x1, x2, ())) 0 .leaf) S0 [] (lastK ttT.get fi52 ⟨[(.list cForm), .str], [(false, (.int .i64))], g⟩) = F_p_form lf x1 x2 := by
    refine (in_p_form g (A_p_form g lf) lf x1 x2).trans ?_
    rfl
theorem hxs_p_form : HxsOK Try.prog hxl_p_form := ⟨ixO125, trivial⟩
theorem mk_p_form {g : ElA [(.list cForm), .str] → Option Rt_p_form} (hsm : SmOK Try.prog sml_p_form) (hg : ∀ (x : ElA [(.list cForm), .str]) (y : Rt_p_form), WfA [(.list cForm), .str] x → g x = some y → ∃ lf, F_p_form lf x.1 x.2.1 = some y) : Con Try.prog 52 ⟨[(.list cForm), .str], [(false, (.int .i64))], g⟩ :=
  conT (nmf := nm_p_form) (sml := sml_p_form) (hxl := hxl_p_form) (st := st_p_form) (hd := hd_p_form) 20 mixed ttOK ftOK hsm hxs_p_form cal52 rfl rfl (by kernel_rfl) (fun x => by kernel_rfl) nd_p_form ok_p_form fun x y hx hy => by
    obtain ⟨lf, h⟩ := hg x y hx hy
    exact ⟨lf, (run_p_form g lf x.1 x.2.1).trans h⟩
def nm_p_col : Nat → Option Nm := fun k => none
def st_p_col : Nat → Bool := fun k => false
def hd_p_col : Nat → Bool := fun k => false
abbrev Rt_p_col : Type := Int × Unit
def sml_p_col : List (Nat × Sm) := []
def hxl_p_col : List (Nat × Hx) := [(144, idxHx cCol)]
def cl_p_col (R : Type) (lf : Nat) : ClK R := icallK Try.prog ttT.get ftT.get (nm1 95 nm_p_col) (smL sml_p_col) (hxL hxl_p_col) lf 20 R
abbrev id_p_col : Nat := 95
def R_p_col_in (lf : Nat) (x1 : (List DCol)) (x2 : ByteArray) : Option Rt_p_col := (match (idxO (fun v0 => (some (keqS v0.1 x2))) x1 0) with | .none  => none | .some v1 => (some (v1, ())))
theorem in_p_col (g : ElA [(.list cCol), .str] → Option Rt_p_col) (J : Nat → List Nat → NRes → Option Rt_p_col) (lf : Nat) (x1 : (List DCol)) (x2 : ByteArray) : icodeT Try.prog ttT.get nm_p_col fi95.nt (cl_p_col _ lf) lf st_p_col J fi95.body [] (argGo (argV [(.list cCol), .str] (x1, x2, ())) 0 .leaf) S0 [] (lastK ttT.get fi95 ⟨[(.list cCol), .str], [(false, (.int .i64))], g⟩) = R_p_col_in lf x1 x2 := by kernel_rfl
theorem nd_p_col : (regs fi95.body).Nodup := by decide +kernel
theorem ok_p_col : okC nm_p_col st_p_col hd_p_col fi95.body none = true := by kernel_rfl
def A_p_col (g : ElA [(.list cCol), .str] → Option Rt_p_col) (lf : Nat) : Nat → List Nat → NRes → Option Rt_p_col := atN Try.prog ttT.get nm_p_col fi95 ⟨[(.list cCol), .str], [(false, (.int .i64))], g⟩ (cl_p_col _ lf) lf hd_p_col
def F_p_col (lf : Nat) (x1 : (List DCol)) (x2 : ByteArray) : Option Rt_p_col := R_p_col_in lf x1 x2
theorem run_p_col (g : ElA [(.list cCol), .str] → Option Rt_p_col) (lf : Nat) (x1 : (List DCol)) (x2 : ByteArray) : icodeT Try.prog ttT.get nm_p_col fi95.nt (cl_p_col _ lf) lf st_p_col (A_p_col g lf) fi95.body [] (argGo (argV [(.list cCol), .str] (x1, x2, ())) 0 .leaf) S0 [] (lastK ttT.get fi95 ⟨[(.list cCol), .str], [(false, (.int .i64))], g⟩) = F_p_col lf x1 x2 := by
    refine (in_p_col g (A_p_col g lf) lf x1 x2).trans ?_
    rfl
theorem hxs_p_col : HxsOK Try.prog hxl_p_col := ⟨ixO144, trivial⟩
theorem mk_p_col {g : ElA [(.list cCol), .str] → Option Rt_p_col} (hsm : SmOK Try.prog sml_p_col) (hg : ∀ (x : ElA [(.list cCol), .str]) (y : Rt_p_col), WfA [(.list cCol), .str] x → g x = some y → ∃ lf, F_p_col lf x.1 x.2.1 = some y) : Con Try.prog 95 ⟨[(.list cCol), .str], [(false, (.int .i64))], g⟩ :=
  conT (nmf := nm_p_col) (sml := sml_p_col) (hxl := hxl_p_col) (st := st_p_col) (hd := hd_p_col) 20 mixed ttOK ftOK hsm hxs_p_col cal95 rfl rfl (by kernel_rfl) (fun x => by kernel_rfl) nd_p_col ok_p_col fun x y hx hy => by
    obtain ⟨lf, h⟩ := hg x y hx hy
    exact ⟨lf, (run_p_col g lf x.1 x.2.1).trans h⟩
def nm_p_ruleOf : Nat → Option Nm := fun k => none
def st_p_ruleOf : Nat → Bool := fun k => false
def hd_p_ruleOf : Nat → Bool := fun k => false
abbrev Rt_p_ruleOf : Type := DRule × Bool × Unit
def sml_p_ruleOf : List (Nat × Sm) := []
def hxl_p_ruleOf : List (Nat × Hx) := [(114, idxHx cRule)]
def cl_p_ruleOf (R : Type) (lf : Nat) : ClK R := icallK Try.prog ttT.get ftT.get (nm1 75 nm_p_ruleOf) (smL sml_p_ruleOf) (hxL hxl_p_ruleOf) lf 20 R
abbrev id_p_ruleOf : Nat := 75
def R_p_ruleOf_in (lf : Nat) (x1 : (List DRule)) (x2 : ByteArray) : Option Rt_p_ruleOf := (match (idxO (fun v0 => (some (keqS v0.1 x2))) x1 0) with | .none  => none | .some v1 => (cond (iltI v1 (Int.ofNat 0)) (some (((S.lit []), ((S.lit []), [])), (Bool.false, ()))) (match (jget x1 v1) with | .none  => none | .some v2 => (some ((v2.1, (v2.2.1, v2.2.2)), (Bool.true, ()))))))
theorem in_p_ruleOf (g : ElA [(.list cRule), .str] → Option Rt_p_ruleOf) (J : Nat → List Nat → NRes → Option Rt_p_ruleOf) (lf : Nat) (x1 : (List DRule)) (x2 : ByteArray) : icodeT Try.prog ttT.get nm_p_ruleOf fi75.nt (cl_p_ruleOf _ lf) lf st_p_ruleOf J fi75.body [] (argGo (argV [(.list cRule), .str] (x1, x2, ())) 0 .leaf) S0 [] (lastK ttT.get fi75 ⟨[(.list cRule), .str], [(false, cRule), (false, .bool)], g⟩) = R_p_ruleOf_in lf x1 x2 := by kernel_rfl
theorem nd_p_ruleOf : (regs fi75.body).Nodup := by decide +kernel
theorem ok_p_ruleOf : okC nm_p_ruleOf st_p_ruleOf hd_p_ruleOf fi75.body none = true := by kernel_rfl
def A_p_ruleOf (g : ElA [(.list cRule), .str] → Option Rt_p_ruleOf) (lf : Nat) : Nat → List Nat → NRes → Option Rt_p_ruleOf := atN Try.prog ttT.get nm_p_ruleOf fi75 ⟨[(.list cRule), .str], [(false, cRule), (false, .bool)], g⟩ (cl_p_ruleOf _ lf) lf hd_p_ruleOf
def F_p_ruleOf (lf : Nat) (x1 : (List DRule)) (x2 : ByteArray) : Option Rt_p_ruleOf := R_p_ruleOf_in lf x1 x2
theorem run_p_ruleOf (g : ElA [(.list cRule), .str] → Option Rt_p_ruleOf) (lf : Nat) (x1 : (List DRule)) (x2 : ByteArray) : icodeT Try.prog ttT.get nm_p_ruleOf fi75.nt (cl_p_ruleOf _ lf) lf st_p_ruleOf (A_p_ruleOf g lf) fi75.body [] (argGo (argV [(.list cRule), .str] (x1, x2, ())) 0 .leaf) S0 [] (lastK ttT.get fi75 ⟨[(.list cRule), .str], [(false, cRule), (false, .bool)], g⟩) = F_p_ruleOf lf x1 x2 := by
    refine (in_p_ruleOf g (A_p_ruleOf g lf) lf x1 x2).trans ?_
    rfl
theorem hxs_p_ruleOf : HxsOK Try.prog hxl_p_ruleOf := ⟨ixO114, trivial⟩
theorem mk_p_ruleOf {g : ElA [(.list cRule), .str] → Option Rt_p_ruleOf} (hsm : SmOK Try.prog sml_p_ruleOf) (hg : ∀ (x : ElA [(.list cRule), .str]) (y : Rt_p_ruleOf), WfA [(.list cRule), .str] x → g x = some y → ∃ lf, F_p_ruleOf lf x.1 x.2.1 = some y) : Con Try.prog 75 ⟨[(.list cRule), .str], [(false, cRule), (false, .bool)], g⟩ :=
  conT (nmf := nm_p_ruleOf) (sml := sml_p_ruleOf) (hxl := hxl_p_ruleOf) (st := st_p_ruleOf) (hd := hd_p_ruleOf) 20 mixed ttOK ftOK hsm hxs_p_ruleOf cal75 rfl rfl (by kernel_rfl) (fun x => by kernel_rfl) nd_p_ruleOf ok_p_ruleOf fun x y hx hy => by
    obtain ⟨lf, h⟩ := hg x y hx hy
    exact ⟨lf, (run_p_ruleOf g lf x.1 x.2.1).trans h⟩
def nm_p_named : Nat → Option Nm := fun k => none
def st_p_named : Nat → Bool := fun k => false
def hd_p_named : Nat → Bool := fun k => false
abbrev Rt_p_named : Type := Bool × Unit
def sml_p_named : List (Nat × Sm) := []
def hxl_p_named : List (Nat × Hx) := [(143, sixHx)]
def cl_p_named (R : Type) (lf : Nat) : ClK R := icallK Try.prog ttT.get ftT.get (nm1 90 nm_p_named) (smL sml_p_named) (hxL hxl_p_named) lf 20 R
abbrev id_p_named : Nat := 90
def R_p_named_in (lf : Nat) (x1 : ByteArray) (x2 : Int) (x3 : Int) : Option Rt_p_named := (cond (keqS x1 (S.lit [])) (some (Bool.false, ())) (cond (iltI (Int.ofNat 20) (Int.ofNat (ByteArray.size x1))) (some (Bool.false, ())) (match (jget (byteList x1) (Int.ofNat 0)) with | .none  => none | .some v0 => (cond (iltI v0 x2) (some (Bool.false, ())) (match (jget (byteList x1) (Int.ofNat 0)) with | .none  => none | .some v1 => (cond (iltI x3 v1) (some (Bool.false, ())) (match (sixO (fun v2 v3 => (cond (Bool.not (iltI v3 (Go.IntKind.wrap Go.IntKind.i32 x2))) (cond (Bool.not (iltI (Go.IntKind.wrap Go.IntKind.i32 x3) v3)) (some Bool.false) (cond (Bool.not (iltI v3 (Int.ofNat 48))) (cond (Bool.not (iltI (Int.ofNat 57) v3)) (some Bool.false) (some (Bool.not (ieqI v3 (Int.ofNat 95))))) (some (Bool.not (ieqI v3 (Int.ofNat 95)))))) (cond (Bool.not (iltI v3 (Int.ofNat 48))) (cond (Bool.not (iltI (Int.ofNat 57) v3)) (some Bool.false) (some (Bool.not (ieqI v3 (Int.ofNat 95))))) (some (Bool.not (ieqI v3 (Int.ofNat 95))))))) x1 Bool.true (Nat.add (ByteArray.size x1) 1) 0) with | .none  => none | .some v4 => (some ((iltI v4 (Int.ofNat 0)), ())))))))))
theorem in_p_named (g : ElA [.str, (.int .u8), (.int .u8)] → Option Rt_p_named) (J : Nat → List Nat → NRes → Option Rt_p_named) (lf : Nat) (x1 : ByteArray) (x2 : Int) (x3 : Int) : icodeT Try.prog ttT.get nm_p_named fi90.nt (cl_p_named _ lf) lf st_p_named J fi90.body [] (argGo (argV [.str, (.int .u8), (.int .u8)] (x1, x2, x3, ())) 0 .leaf) S0 [] (lastK ttT.get fi90 ⟨[.str, (.int .u8), (.int .u8)], [(false, .bool)], g⟩) = R_p_named_in lf x1 x2 x3 := by kernel_rfl
theorem nd_p_named : (regs fi90.body).Nodup := by decide +kernel
theorem ok_p_named : okC nm_p_named st_p_named hd_p_named fi90.body none = true := by kernel_rfl
def A_p_named (g : ElA [.str, (.int .u8), (.int .u8)] → Option Rt_p_named) (lf : Nat) : Nat → List Nat → NRes → Option Rt_p_named := atN Try.prog ttT.get nm_p_named fi90 ⟨[.str, (.int .u8), (.int .u8)], [(false, .bool)], g⟩ (cl_p_named _ lf) lf hd_p_named
def F_p_named (lf : Nat) (x1 : ByteArray) (x2 : Int) (x3 : Int) : Option Rt_p_named := R_p_named_in lf x1 x2 x3
theorem run_p_named (g : ElA [.str, (.int .u8), (.int .u8)] → Option Rt_p_named) (lf : Nat) (x1 : ByteArray) (x2 : Int) (x3 : Int) : icodeT Try.prog ttT.get nm_p_named fi90.nt (cl_p_named _ lf) lf st_p_named (A_p_named g lf) fi90.body [] (argGo (argV [.str, (.int .u8), (.int .u8)] (x1, x2, x3, ())) 0 .leaf) S0 [] (lastK ttT.get fi90 ⟨[.str, (.int .u8), (.int .u8)], [(false, .bool)], g⟩) = F_p_named lf x1 x2 x3 := by
    refine (in_p_named g (A_p_named g lf) lf x1 x2 x3).trans ?_
    rfl
theorem hxs_p_named : HxsOK Try.prog hxl_p_named := ⟨ixO143, trivial⟩
theorem mk_p_named {g : ElA [.str, (.int .u8), (.int .u8)] → Option Rt_p_named} (hsm : SmOK Try.prog sml_p_named) (hg : ∀ (x : ElA [.str, (.int .u8), (.int .u8)]) (y : Rt_p_named), WfA [.str, (.int .u8), (.int .u8)] x → g x = some y → ∃ lf, F_p_named lf x.1 x.2.1 x.2.2.1 = some y) : Con Try.prog 90 ⟨[.str, (.int .u8), (.int .u8)], [(false, .bool)], g⟩ :=
  conT (nmf := nm_p_named) (sml := sml_p_named) (hxl := hxl_p_named) (st := st_p_named) (hd := hd_p_named) 20 mixed ttOK ftOK hsm hxs_p_named cal90 rfl rfl (by kernel_rfl) (fun x => by kernel_rfl) nd_p_named ok_p_named fun x y hx hy => by
    obtain ⟨lf, h⟩ := hg x y hx hy
    exact ⟨lf, (run_p_named g lf x.1 x.2.1 x.2.2.1).trans h⟩
def nm_slices_Index_string : Nat → Option Nm := fun k => cond (Nat.beq k 2) (some ⟨[0, 1, 7, 8], [], [], [], [], 0, 0, false⟩) (none)
def st_slices_Index_string : Nat → Bool := fun k => cond (Nat.beq k 2) true (false)
def hd_slices_Index_string : Nat → Bool := fun k => cond (Nat.beq k 2) true (false)
abbrev Rt_slices_Index_string : Type := Int × Unit
def sml_slices_Index_string : List (Nat × Sm) := []
def hxl_slices_Index_string : List (Nat × Hx) := []
def cl_slices_Index_string (R : Type) (lf : Nat) : ClK R := icallK Try.prog ttT.get ftT.get (nm1 124 nm_slices_Index_string) (smL sml_slices_Index_string) (hxL hxl_slices_Index_string) lf 20 R
abbrev id_slices_Index_string : Nat := 124
def enc_slices_Index_string_2 (x1 : (List ByteArray)) (x2 : ByteArray) (p : Int) : NRes := (NRes.mk (PT.node (some (IV.lst TC.str x1)) (PT.node (some (IV.str x2)) (PT.node none (PT.node (some (IV.int Go.IntKind.i64 (Int.ofNat (List.length x1)))) PT.leaf PT.leaf) PT.leaf) PT.leaf) (PT.node none (PT.node none (PT.node (some (IV.int Go.IntKind.i64 p)) PT.leaf PT.leaf) PT.leaf) PT.leaf)) (IS.mk PT.leaf 0) [] 0)
def R_slices_Index_string_in (lf : Nat) (x1 : (List ByteArray)) (x2 : ByteArray) (L2 : Int → Option Rt_slices_Index_string) : Option Rt_slices_Index_string := (L2 (Int.ofNat 0))
def R_slices_Index_string_2 (lf : Nat) (x1 : (List ByteArray)) (x2 : ByteArray) (L2 : Int → Option Rt_slices_Index_string) (p : Int) : Option Rt_slices_Index_string := (cond (iltI p (Int.ofNat (List.length x1))) (match (jget x1 p) with | .none  => none | .some v0 => (cond (keqS x2 v0) (some (p, ())) (L2 (Go.IntKind.wrap Go.IntKind.i64 (Int.add p (Int.ofNat 1)))))) (some ((Int.negSucc 0), ())))
theorem in_slices_Index_string (g : ElA [(.list .str), .str] → Option Rt_slices_Index_string) (J : Nat → List Nat → NRes → Option Rt_slices_Index_string) (lf : Nat) (x1 : (List ByteArray)) (x2 : ByteArray) : icodeT Try.prog ttT.get nm_slices_Index_string fi124.nt (cl_slices_Index_string _ lf) lf st_slices_Index_string J fi124.body [] (argGo (argV [(.list .str), .str] (x1, x2, ())) 0 .leaf) S0 [] (lastK ttT.get fi124 ⟨[(.list .str), .str], [(false, (.int .i64))], g⟩) = R_slices_Index_string_in lf x1 x2 (fun q => J 2 [lf] (enc_slices_Index_string_2 x1 x2 q)) := by kernel_rfl
theorem st_slices_Index_string_2 (g : ElA [(.list .str), .str] → Option Rt_slices_Index_string) (J : Nat → List Nat → NRes → Option Rt_slices_Index_string) (lf : Nat) (x1 : (List ByteArray)) (x2 : ByteArray) (m1 : Nat) (p : Int) : icodeFT Try.prog ttT.get nm_slices_Index_string fi124.nt (cl_slices_Index_string _ lf) lf st_slices_Index_string J 2 fi124.body [] [m1] (enc_slices_Index_string_2 x1 x2 p) (lastK ttT.get fi124 ⟨[(.list .str), .str], [(false, (.int .i64))], g⟩) = R_slices_Index_string_2 lf x1 x2 (fun q => J 2 [m1] (enc_slices_Index_string_2 x1 x2 q)) p := by kernel_rfl
theorem nd_slices_Index_string : (regs fi124.body).Nodup := by decide +kernel
theorem ok_slices_Index_string : okC nm_slices_Index_string st_slices_Index_string hd_slices_Index_string fi124.body none = true := by kernel_rfl
def A_slices_Index_string (g : ElA [(.list .str), .str] → Option Rt_slices_Index_string) (lf : Nat) : Nat → List Nat → NRes → Option Rt_slices_Index_string := atN Try.prog ttT.get nm_slices_Index_string fi124 ⟨[(.list .str), .str], [(false, (.int .i64))], g⟩ (cl_slices_Index_string _ lf) lf hd_slices_Index_string
def G_slices_Index_string_2 (lf : Nat) (x1 : (List ByteArray)) (x2 : ByteArray) : Nat → (Int) → Option Rt_slices_Index_string := rounds fun K p => R_slices_Index_string_2 lf x1 x2 K p
theorem at_slices_Index_string_2 (g : ElA [(.list .str), .str] → Option Rt_slices_Index_string) (lf : Nat) (x1 : (List ByteArray)) (x2 : ByteArray) : ∀ (n : Nat) (p : Int), A_slices_Index_string g lf 2 [n] (enc_slices_Index_string_2 x1 x2 p) = G_slices_Index_string_2 lf x1 x2 n p
  | 0, p => atN_zero 2 [0] rfl _
  | n + 1, p => by
    have ih := at_slices_Index_string_2 g lf x1 x2 n
    refine (atN_eq (icallK_eq 20 _) nd_slices_Index_string ok_slices_Index_string 2 [n + 1] [n] rfl _).trans ((st_slices_Index_string_2 g (A_slices_Index_string g lf) lf x1 x2 n p).trans ?_)
    rw [(show (fun q => A_slices_Index_string g lf 2 [n] (enc_slices_Index_string_2 x1 x2 q)) = (fun q => G_slices_Index_string_2 lf x1 x2 n q) from funext ih)]
    rfl
def F_slices_Index_string (lf : Nat) (x1 : (List ByteArray)) (x2 : ByteArray) : Option Rt_slices_Index_string := R_slices_Index_string_in lf x1 x2 (fun q => G_slices_Index_string_2 lf x1 x2 lf q)
theorem run_slices_Index_string (g : ElA [(.list .str), .str] → Option Rt_slices_Index_string) (lf : Nat) (x1 : (List ByteArray)) (x2 : ByteArray) : icodeT Try.prog ttT.get nm_slices_Index_string fi124.nt (cl_slices_Index_string _ lf) lf st_slices_Index_string (A_slices_Index_string g lf) fi124.body [] (argGo (argV [(.list .str), .str] (x1, x2, ())) 0 .leaf) S0 [] (lastK ttT.get fi124 ⟨[(.list .str), .str], [(false, (.int .i64))], g⟩) = F_slices_Index_string lf x1 x2 := by
    refine (in_slices_Index_string g (A_slices_Index_string g lf) lf x1 x2).trans ?_
    rw [(show (fun q => A_slices_Index_string g lf 2 [lf] (enc_slices_Index_string_2 x1 x2 q)) = (fun q => G_slices_Index_string_2 lf x1 x2 lf q) from funext fun q => at_slices_Index_string_2 g lf x1 x2 lf q)]
    rfl
theorem hxs_slices_Index_string : HxsOK Try.prog hxl_slices_Index_string := trivial
theorem mk_slices_Index_string {g : ElA [(.list .str), .str] → Option Rt_slices_Index_string} (hsm : SmOK Try.prog sml_slices_Index_string) (hg : ∀ (x : ElA [(.list .str), .str]) (y : Rt_slices_Index_string), WfA [(.list .str), .str] x → g x = some y → ∃ lf, F_slices_Index_string lf x.1 x.2.1 = some y) : Con Try.prog 124 ⟨[(.list .str), .str], [(false, (.int .i64))], g⟩ :=
  conT (nmf := nm_slices_Index_string) (sml := sml_slices_Index_string) (hxl := hxl_slices_Index_string) (st := st_slices_Index_string) (hd := hd_slices_Index_string) 20 mixed ttOK ftOK hsm hxs_slices_Index_string cal124 rfl rfl (by kernel_rfl) (fun x => by kernel_rfl) nd_slices_Index_string ok_slices_Index_string fun x y hx hy => by
    obtain ⟨lf, h⟩ := hg x y hx hy
    exact ⟨lf, (run_slices_Index_string g lf x.1 x.2.1).trans h⟩
def nm_p_class : Nat → Option Nm := fun k => none
def st_p_class : Nat → Bool := fun k => false
def hd_p_class : Nat → Bool := fun k => false
abbrev Rt_p_class : Type := Bool × Unit
def sml_p_class : List (Nat × Sm) := [(90, sp_p_named), (124, sp_slices_Index_string)]
def hxl_p_class : List (Nat × Hx) := []
def cl_p_class (R : Type) (lf : Nat) : ClK R := icallK Try.prog ttT.get ftT.get (nm1 51 nm_p_class) (smL sml_p_class) (hxL hxl_p_class) lf 20 R
abbrev id_p_class : Nat := 51
def R_p_class_in (lf : Nat) (x1 : ByteArray) : Option Rt_p_class := (cond (Go.Proofs.Ytcnhjofpmpipfaa.S.named x1 (Int.ofNat 65) (Int.ofNat 90)) (some ((Bool.not (Bool.not (iltI (Go.Proofs.Ytcnhjofpmpipfaa.S.index (List.cons (S.lit [73, 78, 84, 69, 71, 69, 82]) (List.cons (S.lit [66, 79, 79, 76, 69, 65, 78]) (List.cons (S.lit [65, 78, 89]) (List.cons (S.lit [78, 79, 78, 69]) [])))) x1) (Int.ofNat 0)))), ())) (some (Bool.false, ())))
theorem in_p_class (g : ElA [.str] → Option Rt_p_class) (J : Nat → List Nat → NRes → Option Rt_p_class) (lf : Nat) (x1 : ByteArray) : icodeT Try.prog ttT.get nm_p_class fi51.nt (cl_p_class _ lf) lf st_p_class J fi51.body [] (argGo (argV [.str] (x1, ())) 0 .leaf) S0 [] (lastK ttT.get fi51 ⟨[.str], [(false, .bool)], g⟩) = R_p_class_in lf x1 := by kernel_rfl
theorem nd_p_class : (regs fi51.body).Nodup := by decide +kernel
theorem ok_p_class : okC nm_p_class st_p_class hd_p_class fi51.body none = true := by kernel_rfl
def A_p_class (g : ElA [.str] → Option Rt_p_class) (lf : Nat) : Nat → List Nat → NRes → Option Rt_p_class := atN Try.prog ttT.get nm_p_class fi51 ⟨[.str], [(false, .bool)], g⟩ (cl_p_class _ lf) lf hd_p_class
def F_p_class (lf : Nat) (x1 : ByteArray) : Option Rt_p_class := R_p_class_in lf x1
theorem run_p_class (g : ElA [.str] → Option Rt_p_class) (lf : Nat) (x1 : ByteArray) : icodeT Try.prog ttT.get nm_p_class fi51.nt (cl_p_class _ lf) lf st_p_class (A_p_class g lf) fi51.body [] (argGo (argV [.str] (x1, ())) 0 .leaf) S0 [] (lastK ttT.get fi51 ⟨[.str], [(false, .bool)], g⟩) = F_p_class lf x1 := by
    refine (in_p_class g (A_p_class g lf) lf x1).trans ?_
    rfl
theorem hxs_p_class : HxsOK Try.prog hxl_p_class := trivial
theorem mk_p_class {g : ElA [.str] → Option Rt_p_class} (hsm : SmOK Try.prog sml_p_class) (hg : ∀ (x : ElA [.str]) (y : Rt_p_class), WfA [.str] x → g x = some y → ∃ lf, F_p_class lf x.1 = some y) : Con Try.prog 51 ⟨[.str], [(false, .bool)], g⟩ :=
  conT (nmf := nm_p_class) (sml := sml_p_class) (hxl := hxl_p_class) (st := st_p_class) (hd := hd_p_class) 20 mixed ttOK ftOK hsm hxs_p_class cal51 rfl rfl (by kernel_rfl) (fun x => by kernel_rfl) nd_p_class ok_p_class fun x y hx hy => by
    obtain ⟨lf, h⟩ := hg x y hx hy
    exact ⟨lf, (run_p_class g lf x.1).trans h⟩
def nm_p_small : Nat → Option Nm := fun k => none
def st_p_small : Nat → Bool := fun k => false
def hd_p_small : Nat → Bool := fun k => false
abbrev Rt_p_small : Type := Bool × Unit
def sml_p_small : List (Nat × Sm) := [(90, sp_p_named), (124, sp_slices_Index_string)]
def hxl_p_small : List (Nat × Hx) := []
def cl_p_small (R : Type) (lf : Nat) : ClK R := icallK Try.prog ttT.get ftT.get (nm1 94 nm_p_small) (smL sml_p_small) (hxL hxl_p_small) lf 20 R
abbrev id_p_small : Nat := 94
def R_p_small_in (lf : Nat) (x1 : ByteArray) : Option Rt_p_small := (cond (Go.Proofs.Ytcnhjofpmpipfaa.S.named x1 (Int.ofNat 97) (Int.ofNat 122)) (some ((Bool.not (Bool.not (iltI (Go.Proofs.Ytcnhjofpmpipfaa.S.index (List.cons (S.lit [116, 114, 117, 101]) (List.cons (S.lit [102, 97, 108, 115, 101]) (List.cons (S.lit [118, 111, 105, 100]) (List.cons (S.lit [99, 117, 114, 114, 101, 110, 116]) (List.cons (S.lit [114, 101, 115, 117, 108, 116]) []))))) x1) (Int.ofNat 0)))), ())) (some (Bool.false, ())))
theorem in_p_small (g : ElA [.str] → Option Rt_p_small) (J : Nat → List Nat → NRes → Option Rt_p_small) (lf : Nat) (x1 : ByteArray) : icodeT Try.prog ttT.get nm_p_small fi94.nt (cl_p_small _ lf) lf st_p_small J fi94.body [] (argGo (argV [.str] (x1, ())) 0 .leaf) S0 [] (lastK ttT.get fi94 ⟨[.str], [(false, .bool)], g⟩) = R_p_small_in lf x1 := by kernel_rfl
theorem nd_p_small : (regs fi94.body).Nodup := by decide +kernel
theorem ok_p_small : okC nm_p_small st_p_small hd_p_small fi94.body none = true := by kernel_rfl
def A_p_small (g : ElA [.str] → Option Rt_p_small) (lf : Nat) : Nat → List Nat → NRes → Option Rt_p_small := atN Try.prog ttT.get nm_p_small fi94 ⟨[.str], [(false, .bool)], g⟩ (cl_p_small _ lf) lf hd_p_small
def F_p_small (lf : Nat) (x1 : ByteArray) : Option Rt_p_small := R_p_small_in lf x1
theorem run_p_small (g : ElA [.str] → Option Rt_p_small) (lf : Nat) (x1 : ByteArray) : icodeT Try.prog ttT.get nm_p_small fi94.nt (cl_p_small _ lf) lf st_p_small (A_p_small g lf) fi94.body [] (argGo (argV [.str] (x1, ())) 0 .leaf) S0 [] (lastK ttT.get fi94 ⟨[.str], [(false, .bool)], g⟩) = F_p_small lf x1 := by
    refine (in_p_small g (A_p_small g lf) lf x1).trans ?_
    rfl
theorem hxs_p_small : HxsOK Try.prog hxl_p_small := trivial
theorem mk_p_small {g : ElA [.str] → Option Rt_p_small} (hsm : SmOK Try.prog sml_p_small) (hg : ∀ (x : ElA [.str]) (y : Rt_p_small), WfA [.str] x → g x = some y → ∃ lf, F_p_small lf x.1 = some y) : Con Try.prog 94 ⟨[.str], [(false, .bool)], g⟩ :=
  conT (nmf := nm_p_small) (sml := sml_p_small) (hxl := hxl_p_small) (st := st_p_small) (hd := hd_p_small) 20 mixed ttOK ftOK hsm hxs_p_small cal94 rfl rfl (by kernel_rfl) (fun x => by kernel_rfl) nd_p_small ok_p_small fun x y hx hy => by
    obtain ⟨lf, h⟩ := hg x y hx hy
    exact ⟨lf, (run_p_small g lf x.1).trans h⟩
def nm_p_checkCols : Nat → Option Nm := fun k => cond (Nat.beq k 4) (some ⟨[0, 8, 9, 10], [], [], [], [], 0, 0, false⟩) (none)
def st_p_checkCols : Nat → Bool := fun k => cond (Nat.beq k 4) true (false)
def hd_p_checkCols : Nat → Bool := fun k => cond (Nat.beq k 4) true (false)
abbrev Rt_p_checkCols : Type := Int × Unit
def sml_p_checkCols : List (Nat × Sm) := [(94, sp_p_small), (95, sp_p_col), (83, sp_p_within)]
def hxl_p_checkCols : List (Nat × Hx) := []
def cl_p_checkCols (R : Type) (lf : Nat) : ClK R := icallK Try.prog ttT.get ftT.get (nm1 53 nm_p_checkCols) (smL sml_p_checkCols) (hxL hxl_p_checkCols) lf 20 R
abbrev id_p_checkCols : Nat := 53
def enc_p_checkCols_4 (x1 : (List DCol)) (p : Int) : NRes := (NRes.mk (PT.node (some (IV.lst cCol x1)) (PT.node none PT.leaf (PT.node none (PT.node (some (IV.int Go.IntKind.i64 (Int.ofNat (List.length x1)))) PT.leaf PT.leaf) PT.leaf)) (PT.node none (PT.node none (PT.node (some (IV.lst cCol x1)) PT.leaf PT.leaf) PT.leaf) (PT.node none (PT.node (some (IV.int Go.IntKind.i64 p)) PT.leaf PT.leaf) PT.leaf))) (IS.mk PT.leaf 0) [] 0)
def R_p_checkCols_in (lf : Nat) (x1 : (List DCol)) (L4 : Int → Option Rt_p_checkCols) : Option Rt_p_checkCols := (cond (iltI (Int.ofNat 30) (Int.ofNat (List.length x1))) (some ((Int.ofNat 3), ())) (L4 (Int.ofNat 0)))
def R_p_checkCols_4 (lf : Nat) (x1 : (List DCol)) (L4 : Int → Option Rt_p_checkCols) (p : Int) : Option Rt_p_checkCols := (cond (iltI p (Int.ofNat (List.length x1))) (match (jget x1 p) with | .none  => none | .some v0 => (cond (Bool.not (Go.Proofs.Ytcnhjofpmpipfaa.S.small v0.1)) (some ((Int.ofNat 4), ())) (cond (lchk (Int.ofNat 0) p (Int.ofNat (List.length x1)) (Int.ofNat (List.length x1))) (cond (Bool.not (iltI (Go.Proofs.Ytcnhjofpmpipfaa.S.col (lsub x1 (Int.ofNat 0) p) v0.1) (Int.ofNat 0))) (some ((Int.ofNat 6), ())) (cond (Bool.not (Go.Proofs.Ytcnhjofpmpipfaa.S.within v0.2.1 (Int.ofNat 1) (Int.ofNat 3))) (some ((Int.ofNat 1), ())) (cond (Bool.not (ieqI v0.2.1 (Int.ofNat 3))) (cond (Bool.not (keqS v0.2.2 (S.lit []))) (some ((Int.ofNat 1), ())) (L4 (Go.IntKind.wrap Go.IntKind.i64 (Int.add p (Int.ofNat 1))))) (L4 (Go.IntKind.wrap Go.IntKind.i64 (Int.add p (Int.ofNat 1))))))) none))) (some ((Int.ofNat 0), ())))
theorem in_p_checkCols (g : ElA [(.list cCol)] → Option Rt_p_checkCols) (J : Nat → List Nat → NRes → Option Rt_p_checkCols) (lf : Nat) (x1 : (List DCol)) : icodeT Try.prog ttT.get nm_p_checkCols fi53.nt (cl_p_checkCols _ lf) lf st_p_checkCols J fi53.body [] (argGo (argV [(.list cCol)] (x1, ())) 0 .leaf) S0 [] (lastK ttT.get fi53 ⟨[(.list cCol)], [(false, (.int .i64))], g⟩) = R_p_checkCols_in lf x1 (fun q => J 4 [lf] (enc_p_checkCols_4 x1 q)) := by kernel_rfl
theorem st_p_checkCols_4 (g : ElA [(.list cCol)] → Option Rt_p_checkCols) (J : Nat → List Nat → NRes → Option Rt_p_checkCols) (lf : Nat) (x1 : (List DCol)) (m1 : Nat) (p : Int) : icodeFT Try.prog ttT.get nm_p_checkCols fi53.nt (cl_p_checkCols _ lf) lf st_p_checkCols J 4 fi53.body [] [m1] (enc_p_checkCols_4 x1 p) (lastK ttT.get fi53 ⟨[(.list cCol)], [(false, (.int .i64))], g⟩) = R_p_checkCols_4 lf x1 (fun q => J 4 [m1] (enc_p_checkCols_4 x1 q)) p := by kernel_rfl
theorem nd_p_checkCols : (regs fi53.body).Nodup := by decide +kernel
theorem ok_p_checkCols : okC nm_p_checkCols st_p_checkCols hd_p_checkCols fi53.body none = true := by kernel_rfl
def A_p_checkCols (g : ElA [(.list cCol)] → Option Rt_p_checkCols) (lf : Nat) : Nat → List Nat → NRes → Option Rt_p_checkCols := atN Try.prog ttT.get nm_p_checkCols fi53 ⟨[(.list cCol)], [(false, (.int .i64))], g⟩ (cl_p_checkCols _ lf) lf hd_p_checkCols
def G_p_checkCols_4 (lf : Nat) (x1 : (List DCol)) : Nat → (Int) → Option Rt_p_checkCols := rounds fun K p => R_p_checkCols_4 lf x1 K p
theorem at_p_checkCols_4 (g : ElA [(.list cCol)] → Option Rt_p_checkCols) (lf : Nat) (x1 : (List DCol)) : ∀ (n : Nat) (p : Int), A_p_checkCols g lf 4 [n] (enc_p_checkCols_4 x1 p) = G_p_checkCols_4 lf x1 n p
  | 0, p => atN_zero 4 [0] rfl _
  | n + 1, p => by
    have ih := at_p_checkCols_4 g lf x1 n
    refine (atN_eq (icallK_eq 20 _) nd_p_checkCols ok_p_checkCols 4 [n + 1] [n] rfl _).trans ((st_p_checkCols_4 g (A_p_checkCols g lf) lf x1 n p).trans ?_)
    rw [(show (fun q => A_p_checkCols g lf 4 [n] (enc_p_checkCols_4 x1 q)) = (fun q => G_p_checkCols_4 lf x1 n q) from funext ih)]
    rfl
def F_p_checkCols (lf : Nat) (x1 : (List DCol)) : Option Rt_p_checkCols := R_p_checkCols_in lf x1 (fun q => G_p_checkCols_4 lf x1 lf q)
theorem run_p_checkCols (g : ElA [(.list cCol)] → Option Rt_p_checkCols) (lf : Nat) (x1 : (List DCol)) : icodeT Try.prog ttT.get nm_p_checkCols fi53.nt (cl_p_checkCols _ lf) lf st_p_checkCols (A_p_checkCols g lf) fi53.body [] (argGo (argV [(.list cCol)] (x1, ())) 0 .leaf) S0 [] (lastK ttT.get fi53 ⟨[(.list cCol)], [(false, (.int .i64))], g⟩) = F_p_checkCols lf x1 := by
    refine (in_p_checkCols g (A_p_checkCols g lf) lf x1).trans ?_
    rw [(show (fun q => A_p_checkCols g lf 4 [lf] (enc_p_checkCols_4 x1 q)) = (fun q => G_p_checkCols_4 lf x1 lf q) from funext fun q => at_p_checkCols_4 g lf x1 lf q)]
    rfl
theorem hxs_p_checkCols : HxsOK Try.prog hxl_p_checkCols := trivial
theorem mk_p_checkCols {g : ElA [(.list cCol)] → Option Rt_p_checkCols} (hsm : SmOK Try.prog sml_p_checkCols) (hg : ∀ (x : ElA [(.list cCol)]) (y : Rt_p_checkCols), WfA [(.list cCol)] x → g x = some y → ∃ lf, F_p_checkCols lf x.1 = some y) : Con Try.prog 53 ⟨[(.list cCol)], [(false, (.int .i64))], g⟩ :=
  conT (nmf := nm_p_checkCols) (sml := sml_p_checkCols) (hxl := hxl_p_checkCols) (st := st_p_checkCols) (hd := hd_p_checkCols) 20 mixed ttOK ftOK hsm hxs_p_checkCols cal53 rfl rfl (by kernel_rfl) (fun x => by kernel_rfl) nd_p_checkCols ok_p_checkCols fun x y hx hy => by
    obtain ⟨lf, h⟩ := hg x y hx hy
    exact ⟨lf, (run_p_checkCols g lf x.1).trans h⟩
def nm_p_CheckForms : Nat → Option Nm := fun k => cond (Nat.beq k 4) (some ⟨[0, 13, 14, 15], [], [], [], [], 0, 0, false⟩) (cond (Nat.beq k 11) (some ⟨[0, 41, 42, 43], [], [], [], [], 0, 0, false⟩) (cond (Nat.beq k 14) (some ⟨[0, 41, 42, 43, 48, 49, 50], [], [], [], [], 0, 0, false⟩) (none)))
def st_p_CheckForms : Nat → Bool := fun k => cond (Nat.beq k 4) true (cond (Nat.beq k 11) true (cond (Nat.beq k 14) true (false)))
def hd_p_CheckForms : Nat → Bool := fun k => cond (Nat.beq k 4) true (cond (Nat.beq k 11) true (cond (Nat.beq k 14) true (false)))
abbrev Rt_p_CheckForms : Type := Int × Unit
def sml_p_CheckForms : List (Nat × Sm) := [(51, sp_p_class), (52, sp_p_form), (53, sp_p_checkCols), (49, sp_p_first)]
def hxl_p_CheckForms : List (Nat × Hx) := []
def cl_p_CheckForms (R : Type) (lf : Nat) : ClK R := icallK Try.prog ttT.get ftT.get (nm1 16 nm_p_CheckForms) (smL sml_p_CheckForms) (hxL hxl_p_CheckForms) lf 20 R
abbrev id_p_CheckForms : Nat := 16
def enc_p_CheckForms_4 (x1 : (List DForm)) (p : Int) : NRes := (NRes.mk (PT.node (some (IV.lst cForm x1)) (PT.node none (PT.node none (PT.node none (PT.node (some (IV.int Go.IntKind.i64 p)) PT.leaf PT.leaf) PT.leaf) PT.leaf) (PT.node none PT.leaf (PT.node (some (IV.lst cForm x1)) PT.leaf PT.leaf))) (PT.node none PT.leaf (PT.node none PT.leaf (PT.node (some (IV.int Go.IntKind.i64 (Int.ofNat (List.length x1)))) PT.leaf PT.leaf)))) (IS.mk PT.leaf 0) [] 0)
def enc_p_CheckForms_11 (x1 : (List DForm)) (p : Int) : NRes := (NRes.mk (PT.node (some (IV.lst cForm x1)) (PT.node none (PT.node none PT.leaf (PT.node none PT.leaf (PT.node none (PT.node (some (IV.int Go.IntKind.i64 p)) PT.leaf PT.leaf) PT.leaf))) (PT.node none (PT.node none PT.leaf (PT.node none (PT.node (some (IV.lst cForm x1)) PT.leaf PT.leaf) PT.leaf)) PT.leaf)) (PT.node none PT.leaf (PT.node none (PT.node none PT.leaf (PT.node none (PT.node (some (IV.int Go.IntKind.i64 (Int.ofNat (List.length x1)))) PT.leaf PT.leaf) PT.leaf)) PT.leaf))) (IS.mk PT.leaf 0) [] 0)
def enc_p_CheckForms_14 (x1 : (List DForm)) (p : (List DCol) × Int × Int) : NRes := (NRes.mk (PT.node (some (IV.lst cForm x1)) (PT.node none (PT.node none PT.leaf (PT.node none PT.leaf (PT.node none (PT.node (some (IV.int Go.IntKind.i64 p.2.2)) PT.leaf PT.leaf) PT.leaf))) (PT.node none (PT.node none (PT.node none PT.leaf (PT.node (some (IV.int Go.IntKind.i64 (Int.ofNat (List.length p.1)))) PT.leaf PT.leaf)) (PT.node none (PT.node (some (IV.lst cForm x1)) PT.leaf PT.leaf) PT.leaf)) PT.leaf)) (PT.node none (PT.node none (PT.node none (PT.node none PT.leaf (PT.node (some (IV.lst cCol p.1)) PT.leaf PT.leaf)) PT.leaf) PT.leaf) (PT.node none (PT.node none (PT.node none PT.leaf (PT.node (some (IV.int Go.IntKind.i64 p.2.1)) PT.leaf PT.leaf)) (PT.node none (PT.node (some (IV.int Go.IntKind.i64 (Int.ofNat (List.length x1)))) PT.leaf PT.leaf) PT.leaf)) PT.leaf))) (IS.mk PT.leaf 0) [] 0)
def R_p_CheckForms_in (lf : Nat) (x1 : (List DForm)) (L4 : Int → Option Rt_p_CheckForms) : Option Rt_p_CheckForms := (cond (iltI (Int.ofNat 24) (Int.ofNat (List.length x1))) (some ((Int.ofNat 3), ())) (L4 (Int.ofNat 0)))
def R_p_CheckForms_4 (lf : Nat) (x1 : (List DForm)) (L4 : Int → Option Rt_p_CheckForms) (L11 : Int → Option Rt_p_CheckForms) (p : Int) : Option Rt_p_CheckForms := (cond (iltI p (Int.ofNat (List.length x1))) (match (jget x1 p) with | .none  => none | .some v0 => (cond (Go.Proofs.Ytcnhjofpmpipfaa.S.class_ v0.1) (cond (lchk (Int.ofNat 0) p (Int.ofNat (List.length x1)) (Int.ofNat (List.length x1))) (cond (iltI (Go.Proofs.Ytcnhjofpmpipfaa.S.form (lsub x1 (Int.ofNat 0) p) v0.1) (Int.ofNat 0)) (cond (Bool.not (ieqI (Go.Proofs.Ytcnhjofpmpipfaa.S.first (List.cons (Int.ofNat 0) (List.cons (Int.ofNat 0) (List.cons (Go.Proofs.Ytcnhjofpmpipfaa.S.checkCols v0.2) [])))) (Int.ofNat 0))) (some ((Go.Proofs.Ytcnhjofpmpipfaa.S.first (List.cons (Int.ofNat 0) (List.cons (Int.ofNat 0) (List.cons (Go.Proofs.Ytcnhjofpmpipfaa.S.checkCols v0.2) [])))), ())) (L4 (Go.IntKind.wrap Go.IntKind.i64 (Int.add p (Int.ofNat 1))))) (cond (Bool.not (ieqI (Go.Proofs.Ytcnhjofpmpipfaa.S.first (List.cons (Int.ofNat 0) (List.cons (Int.ofNat 6) (List.cons (Go.Proofs.Ytcnhjofpmpipfaa.S.checkCols v0.2) [])))) (Int.ofNat 0))) (some ((Go.Proofs.Ytcnhjofpmpipfaa.S.first (List.cons (Int.ofNat 0) (List.cons (Int.ofNat 6) (List.cons (Go.Proofs.Ytcnhjofpmpipfaa.S.checkCols v0.2) [])))), ())) (L4 (Go.IntKind.wrap Go.IntKind.i64 (Int.add p (Int.ofNat 1)))))) none) (cond (lchk (Int.ofNat 0) p (Int.ofNat (List.length x1)) (Int.ofNat (List.length x1))) (cond (iltI (Go.Proofs.Ytcnhjofpmpipfaa.S.form (lsub x1 (Int.ofNat 0) p) v0.1) (Int.ofNat 0)) (cond (Bool.not (ieqI (Go.Proofs.Ytcnhjofpmpipfaa.S.first (List.cons (Int.ofNat 4) (List.cons (Int.ofNat 0) (List.cons (Go.Proofs.Ytcnhjofpmpipfaa.S.checkCols v0.2) [])))) (Int.ofNat 0))) (some ((Go.Proofs.Ytcnhjofpmpipfaa.S.first (List.cons (Int.ofNat 4) (List.cons (Int.ofNat 0) (List.cons (Go.Proofs.Ytcnhjofpmpipfaa.S.checkCols v0.2) [])))), ())) (L4 (Go.IntKind.wrap Go.IntKind.i64 (Int.add p (Int.ofNat 1))))) (cond (Bool.not (ieqI (Go.Proofs.Ytcnhjofpmpipfaa.S.first (List.cons (Int.ofNat 4) (List.cons (Int.ofNat 6) (List.cons (Go.Proofs.Ytcnhjofpmpipfaa.S.checkCols v0.2) [])))) (Int.ofNat 0))) (some ((Go.Proofs.Ytcnhjofpmpipfaa.S.first (List.cons (Int.ofNat 4) (List.cons (Int.ofNat 6) (List.cons (Go.Proofs.Ytcnhjofpmpipfaa.S.checkCols v0.2) [])))), ())) (L4 (Go.IntKind.wrap Go.IntKind.i64 (Int.add p (Int.ofNat 1)))))) none))) (L11 (Int.ofNat 0)))
def R_p_CheckForms_11 (lf : Nat) (x1 : (List DForm)) (L14 : ((List DCol) × Int × Int) → Option Rt_p_CheckForms) (p : Int) : Option Rt_p_CheckForms := (cond (iltI p (Int.ofNat (List.length x1))) (match (jget x1 p) with | .none  => none | .some v0 => (L14 (v0.2, (Int.ofNat 0), p))) (some ((Int.ofNat 0), ())))
def R_p_CheckForms_14 (lf : Nat) (x1 : (List DForm)) (L14 : ((List DCol) × Int × Int) → Option Rt_p_CheckForms) (L11 : Int → Option Rt_p_CheckForms) (p : (List DCol) × Int × Int) : Option Rt_p_CheckForms := (cond (iltI p.2.1 (Int.ofNat (List.length p.1))) (match (jget p.1 p.2.1) with | .none  => none | .some v0 => (cond (ieqI v0.2.1 (Int.ofNat 3)) (cond (Bool.not (keqS v0.2.2 (S.lit [65, 78, 89]))) (cond (iltI (Go.Proofs.Ytcnhjofpmpipfaa.S.form x1 v0.2.2) (Int.ofNat 0)) (some ((Int.ofNat 5), ())) (L14 (p.1, (Go.IntKind.wrap Go.IntKind.i64 (Int.add p.2.1 (Int.ofNat 1))), p.2.2))) (L14 (p.1, (Go.IntKind.wrap Go.IntKind.i64 (Int.add p.2.1 (Int.ofNat 1))), p.2.2))) (L14 (p.1, (Go.IntKind.wrap Go.IntKind.i64 (Int.add p.2.1 (Int.ofNat 1))), p.2.2)))) (L11 (Go.IntKind.wrap Go.IntKind.i64 (Int.add p.2.2 (Int.ofNat 1)))))
theorem in_p_CheckForms (g : ElA [(.list cForm)] → Option Rt_p_CheckForms) (J : Nat → List Nat → NRes → Option Rt_p_CheckForms) (lf : Nat) (x1 : (List DForm)) : icodeT Try.prog ttT.get nm_p_CheckForms fi16.nt (cl_p_CheckForms _ lf) lf st_p_CheckForms J fi16.body [] (argGo (argV [(.list cForm)] (x1, ())) 0 .leaf) S0 [] (lastK ttT.get fi16 ⟨[(.list cForm)], [(false, (.int .i64))], g⟩) = R_p_CheckForms_in lf x1 (fun q => J 4 [lf] (enc_p_CheckForms_4 x1 q)) := by kernel_rfl
theorem st_p_CheckForms_4 (g : ElA [(.list cForm)] → Option Rt_p_CheckForms) (J : Nat → List Nat → NRes → Option Rt_p_CheckForms) (lf : Nat) (x1 : (List DForm)) (m1 : Nat) (p : Int) : icodeFT Try.prog ttT.get nm_p_CheckForms fi16.nt (cl_p_CheckForms _ lf) lf st_p_CheckForms J 4 fi16.body [] [m1] (enc_p_CheckForms_4 x1 p) (lastK ttT.get fi16 ⟨[(.list cForm)], [(false, (.int .i64))], g⟩) = R_p_CheckForms_4 lf x1 (fun q => J 4 [m1] (enc_p_CheckForms_4 x1 q)) (fun q => J 11 [lf] (enc_p_CheckForms_11 x1 q)) p := by kernel_rfl
theorem st_p_CheckForms_11 (g : ElA [(.list cForm)] → Option Rt_p_CheckForms) (J : Nat → List Nat → NRes → Option Rt_p_CheckForms) (lf : Nat) (x1 : (List DForm)) (m1 : Nat) (p : Int) : icodeFT Try.prog ttT.get nm_p_CheckForms fi16.nt (cl_p_CheckForms _ lf) lf st_p_CheckForms J 11 fi16.body [] [m1] (enc_p_CheckForms_11 x1 p) (lastK ttT.get fi16 ⟨[(.list cForm)], [(false, (.int .i64))], g⟩) = R_p_CheckForms_11 lf x1 (fun q => J 14 [m1, lf] (enc_p_CheckForms_14 x1 q)) p := by kernel_rfl
theorem st_p_CheckForms_14 (g : ElA [(.list cForm)] → Option Rt_p_CheckForms) (J : Nat → List Nat → NRes → Option Rt_p_CheckForms) (lf : Nat) (x1 : (List DForm)) (m1 : Nat) (m2 : Nat) (p : (List DCol) × Int × Int) : icodeFT Try.prog ttT.get nm_p_CheckForms fi16.nt (cl_p_CheckForms _ lf) lf st_p_CheckForms J 14 fi16.body [] [m1, m2] (enc_p_CheckForms_14 x1 p) (lastK ttT.get fi16 ⟨[(.list cForm)], [(false, (.int .i64))], g⟩) = R_p_CheckForms_14 lf x1 (fun q => J 14 [m1, m2] (enc_p_CheckForms_14 x1 q)) (fun q => J 11 [m1] (enc_p_CheckForms_11 x1 q)) p := by kernel_rfl
theorem nd_p_CheckForms : (regs fi16.body).Nodup := by decide +kernel
theorem ok_p_CheckForms : okC nm_p_CheckForms st_p_CheckForms hd_p_CheckForms fi16.body none = true := by kernel_rfl
def A_p_CheckForms (g : ElA [(.list cForm)] → Option Rt_p_CheckForms) (lf : Nat) : Nat → List Nat → NRes → Option Rt_p_CheckForms := atN Try.prog ttT.get nm_p_CheckForms fi16 ⟨[(.list cForm)], [(false, (.int .i64))], g⟩ (cl_p_CheckForms _ lf) lf hd_p_CheckForms
def G_p_CheckForms_14 (lf : Nat) (x1 : (List DForm)) (K11 : Int → Option Rt_p_CheckForms) : Nat → ((List DCol) × Int × Int) → Option Rt_p_CheckForms := rounds fun K p => R_p_CheckForms_14 lf x1 K K11 p
theorem at_p_CheckForms_14 (g : ElA [(.list cForm)] → Option Rt_p_CheckForms) (lf : Nat) (x1 : (List DForm)) (m1 : Nat) : ∀ (n : Nat) (p : (List DCol) × Int × Int), A_p_CheckForms g lf 14 [m1, n] (enc_p_CheckForms_14 x1 p) = G_p_CheckForms_14 lf x1 (fun q => A_p_CheckForms g lf 11 [m1] (enc_p_CheckForms_11 x1 q)) n p
  | 0, p => atN_zero 14 [m1, 0] rfl _
  | n + 1, p => by
    have ih := at_p_CheckForms_14 g lf x1 m1 n
    refine (atN_eq (icallK_eq 20 _) nd_p_CheckForms ok_p_CheckForms 14 [m1, n + 1] [m1, n] rfl _).trans ((st_p_CheckForms_14 g (A_p_CheckForms g lf) lf x1 m1 n p).trans ?_)
    rw [(show (fun q => A_p_CheckForms g lf 14 [m1, n] (enc_p_CheckForms_14 x1 q)) = (fun q => G_p_CheckForms_14 lf x1 (fun q => A_p_CheckForms g lf 11 [m1] (enc_p_CheckForms_11 x1 q)) n q) from funext ih)]
    rfl
def G_p_CheckForms_11 (lf : Nat) (x1 : (List DForm)) : Nat → (Int) → Option Rt_p_CheckForms := rounds fun K p => R_p_CheckForms_11 lf x1 (fun q => G_p_CheckForms_14 lf x1 K lf q) p
theorem at_p_CheckForms_11 (g : ElA [(.list cForm)] → Option Rt_p_CheckForms) (lf : Nat) (x1 : (List DForm)) : ∀ (n : Nat) (p : Int), A_p_CheckForms g lf 11 [n] (enc_p_CheckForms_11 x1 p) = G_p_CheckForms_11 lf x1 n p
  | 0, p => atN_zero 11 [0] rfl _
  | n + 1, p => by
    have ih := at_p_CheckForms_11 g lf x1 n
    refine (atN_eq (icallK_eq 20 _) nd_p_CheckForms ok_p_CheckForms 11 [n + 1] [n] rfl _).trans ((st_p_CheckForms_11 g (A_p_CheckForms g lf) lf x1 n p).trans ?_)
    rw [(show (fun q => A_p_CheckForms g lf 14 [n, lf] (enc_p_CheckForms_14 x1 q)) = (fun q => G_p_CheckForms_14 lf x1 (fun q => A_p_CheckForms g lf 11 [n] (enc_p_CheckForms_11 x1 q)) lf q) from funext fun q => at_p_CheckForms_14 g lf x1 n lf q), (show (fun q => A_p_CheckForms g lf 11 [n] (enc_p_CheckForms_11 x1 q)) = (fun q => G_p_CheckForms_11 lf x1 n q) from funext ih)]
    rfl
def G_p_CheckForms_4 (lf : Nat) (x1 : (List DForm)) : Nat → (Int) → Option Rt_p_CheckForms := rounds fun K p => R_p_CheckForms_4 lf x1 K (fun q => G_p_CheckForms_11 lf x1 lf q) p
theorem at_p_CheckForms_4 (g : ElA [(.list cForm)] → Option Rt_p_CheckForms) (lf : Nat) (x1 : (List DForm)) : ∀ (n : Nat) (p : Int), A_p_CheckForms g lf 4 [n] (enc_p_CheckForms_4 x1 p) = G_p_CheckForms_4 lf x1 n p
  | 0, p => atN_zero 4 [0] rfl _
  | n + 1, p => by
    have ih := at_p_CheckForms_4 g lf x1 n
    refine (atN_eq (icallK_eq 20 _) nd_p_CheckForms ok_p_CheckForms 4 [n + 1] [n] rfl _).trans ((st_p_CheckForms_4 g (A_p_CheckForms g lf) lf x1 n p).trans ?_)
    rw [(show (fun q => A_p_CheckForms g lf 11 [lf] (enc_p_CheckForms_11 x1 q)) = (fun q => G_p_CheckForms_11 lf x1 lf q) from funext fun q => at_p_CheckForms_11 g lf x1 lf q), (show (fun q => A_p_CheckForms g lf 4 [n] (enc_p_CheckForms_4 x1 q)) = (fun q => G_p_CheckForms_4 lf x1 n q) from funext ih)]
    rfl
def F_p_CheckForms (lf : Nat) (x1 : (List DForm)) : Option Rt_p_CheckForms := R_p_CheckForms_in lf x1 (fun q => G_p_CheckForms_4 lf x1 lf q)
theorem run_p_CheckForms (g : ElA [(.list cForm)] → Option Rt_p_CheckForms) (lf : Nat) (x1 : (List DForm)) : icodeT Try.prog ttT.get nm_p_CheckForms fi16.nt (cl_p_CheckForms _ lf) lf st_p_CheckForms (A_p_CheckForms g lf) fi16.body [] (argGo (argV [(.list cForm)] (x1, ())) 0 .leaf) S0 [] (lastK ttT.get fi16 ⟨[(.list cForm)], [(false, (.int .i64))], g⟩) = F_p_CheckForms lf x1 := by
    refine (in_p_CheckForms g (A_p_CheckForms g lf) lf x1).trans ?_
    rw [(show (fun q => A_p_CheckForms g lf 4 [lf] (enc_p_CheckForms_4 x1 q)) = (fun q => G_p_CheckForms_4 lf x1 lf q) from funext fun q => at_p_CheckForms_4 g lf x1 lf q)]
    rfl
theorem hxs_p_CheckForms : HxsOK Try.prog hxl_p_CheckForms := trivial
theorem mk_p_CheckForms {g : ElA [(.list cForm)] → Option Rt_p_CheckForms} (hsm : SmOK Try.prog sml_p_CheckForms) (hg : ∀ (x : ElA [(.list cForm)]) (y : Rt_p_CheckForms), WfA [(.list cForm)] x → g x = some y → ∃ lf, F_p_CheckForms lf x.1 = some y) : Con Try.prog 16 ⟨[(.list cForm)], [(false, (.int .i64))], g⟩ :=
  conT (nmf := nm_p_CheckForms) (sml := sml_p_CheckForms) (hxl := hxl_p_CheckForms) (st := st_p_CheckForms) (hd := hd_p_CheckForms) 20 mixed ttOK ftOK hsm hxs_p_CheckForms cal16 rfl rfl (by kernel_rfl) (fun x => by kernel_rfl) nd_p_CheckForms ok_p_CheckForms fun x y hx hy => by
    obtain ⟨lf, h⟩ := hg x y hx hy
    exact ⟨lf, (run_p_CheckForms g lf x.1).trans h⟩
def nm_p_value : Nat → Option Nm := fun k => none
def st_p_value : Nat → Bool := fun k => false
def hd_p_value : Nat → Bool := fun k => false
abbrev Rt_p_value : Type := Bool × Unit
def sml_p_value : List (Nat × Sm) := [(83, sp_p_within)]
def hxl_p_value : List (Nat × Hx) := []
def cl_p_value (R : Type) (lf : Nat) : ClK R := icallK Try.prog ttT.get ftT.get (nm1 106 nm_p_value) (smL sml_p_value) (hxL hxl_p_value) lf 20 R
abbrev id_p_value : Nat := 106
def R_p_value_in (lf : Nat) (x1 : DVal) (x2 : Int) : Option Rt_p_value := (cond (ieqI x1.1 (Int.ofNat 1)) (some ((Go.Proofs.Ytcnhjofpmpipfaa.S.within x1.2 (Int.negSucc 1099511627775) (Int.ofNat 1099511627776)), ())) (cond (ieqI x1.1 (Int.ofNat 2)) (some ((Go.Proofs.Ytcnhjofpmpipfaa.S.within x1.2 (Int.ofNat 0) (Int.ofNat 1)), ())) (cond (ieqI x1.1 (Int.ofNat 3)) (some ((ieqI x1.2 (Int.ofNat 0)), ())) (cond (ieqI x1.1 (Int.ofNat 4)) (some ((Go.Proofs.Ytcnhjofpmpipfaa.S.within x1.2 (Int.ofNat 0) (Go.IntKind.wrap Go.IntKind.i64 (Int.sub x2 (Int.ofNat 1)))), ())) (some (Bool.false, ()))))))
theorem in_p_value (g : ElA [cVal, (.int .i64)] → Option Rt_p_value) (J : Nat → List Nat → NRes → Option Rt_p_value) (lf : Nat) (x1 : DVal) (x2 : Int) : icodeT Try.prog ttT.get nm_p_value fi106.nt (cl_p_value _ lf) lf st_p_value J fi106.body [] (argGo (argV [cVal, (.int .i64)] (x1, x2, ())) 0 .leaf) S0 [] (lastK ttT.get fi106 ⟨[cVal, (.int .i64)], [(false, .bool)], g⟩) = R_p_value_in lf x1 x2 := by kernel_rfl
theorem nd_p_value : (regs fi106.body).Nodup := by decide +kernel
theorem ok_p_value : okC nm_p_value st_p_value hd_p_value fi106.body none = true := by kernel_rfl
def A_p_value (g : ElA [cVal, (.int .i64)] → Option Rt_p_value) (lf : Nat) : Nat → List Nat → NRes → Option Rt_p_value := atN Try.prog ttT.get nm_p_value fi106 ⟨[cVal, (.int .i64)], [(false, .bool)], g⟩ (cl_p_value _ lf) lf hd_p_value
def F_p_value (lf : Nat) (x1 : DVal) (x2 : Int) : Option Rt_p_value := R_p_value_in lf x1 x2
theorem run_p_value (g : ElA [cVal, (.int .i64)] → Option Rt_p_value) (lf : Nat) (x1 : DVal) (x2 : Int) : icodeT Try.prog ttT.get nm_p_value fi106.nt (cl_p_value _ lf) lf st_p_value (A_p_value g lf) fi106.body [] (argGo (argV [cVal, (.int .i64)] (x1, x2, ())) 0 .leaf) S0 [] (lastK ttT.get fi106 ⟨[cVal, (.int .i64)], [(false, .bool)], g⟩) = F_p_value lf x1 x2 := by
    refine (in_p_value g (A_p_value g lf) lf x1 x2).trans ?_
    rfl
theorem hxs_p_value : HxsOK Try.prog hxl_p_value := trivial
theorem mk_p_value {g : ElA [cVal, (.int .i64)] → Option Rt_p_value} (hsm : SmOK Try.prog sml_p_value) (hg : ∀ (x : ElA [cVal, (.int .i64)]) (y : Rt_p_value), WfA [cVal, (.int .i64)] x → g x = some y → ∃ lf, F_p_value lf x.1 x.2.1 = some y) : Con Try.prog 106 ⟨[cVal, (.int .i64)], [(false, .bool)], g⟩ :=
  conT (nmf := nm_p_value) (sml := sml_p_value) (hxl := hxl_p_value) (st := st_p_value) (hd := hd_p_value) 20 mixed ttOK ftOK hsm hxs_p_value cal106 rfl rfl (by kernel_rfl) (fun x => by kernel_rfl) nd_p_value ok_p_value fun x y hx hy => by
    obtain ⟨lf, h⟩ := hg x y hx hy
    exact ⟨lf, (run_p_value g lf x.1 x.2.1).trans h⟩
def nm_p_formed : Nat → Option Nm := fun k => cond (Nat.beq k 4) (some ⟨[1, 19, 20, 21], [], [], [], [], 0, 0, false⟩) (cond (Nat.beq k 11) (some ⟨[1, 5, 32, 33, 34], [], [], [], [], 0, 0, false⟩) (none))
def st_p_formed : Nat → Bool := fun k => cond (Nat.beq k 4) true (cond (Nat.beq k 11) true (false))
def hd_p_formed : Nat → Bool := fun k => cond (Nat.beq k 4) true (cond (Nat.beq k 11) true (false))
abbrev Rt_p_formed : Type := Int × Unit
def sml_p_formed : List (Nat × Sm) := [(106, sp_p_value)]
def hxl_p_formed : List (Nat × Hx) := [(137, idxHx cVal)]
def cl_p_formed (R : Type) (lf : Nat) : ClK R := icallK Try.prog ttT.get ftT.get (nm1 70 nm_p_formed) (smL sml_p_formed) (hxL hxl_p_formed) lf 20 R
abbrev id_p_formed : Nat := 70
def enc_p_formed_4 (x1 : DGraph) (p : Int) : NRes := (NRes.mk (PT.node none (PT.node (some (IV.ptr 0 0)) (PT.node none PT.leaf (PT.node none (PT.node (some (IV.lst cNode x1.1)) PT.leaf PT.leaf) PT.leaf)) (PT.node none PT.leaf (PT.node none (PT.node (some (IV.int Go.IntKind.i64 p)) PT.leaf PT.leaf) PT.leaf))) (PT.node none (PT.node none PT.leaf (PT.node none (PT.node (some (IV.int Go.IntKind.i64 (Int.ofNat (List.length x1.1)))) PT.leaf PT.leaf) PT.leaf)) PT.leaf)) (IS.mk (PT.node (some (IObj.row (List.cons (IV.lst cNode x1.1) (List.cons (IV.lst cVal x1.2) [])))) PT.leaf PT.leaf) 1) [] 0)
def enc_p_formed_11 (x1 : DGraph) (p : Int) : NRes := (NRes.mk (PT.node none (PT.node (some (IV.ptr 0 0)) PT.leaf (PT.node (some (IV.ptr 1 0)) (PT.node none (PT.node none (PT.node (some (IV.int Go.IntKind.i64 (Int.ofNat (List.length x1.1)))) PT.leaf PT.leaf) PT.leaf) PT.leaf) PT.leaf)) (PT.node none (PT.node none (PT.node none (PT.node none (PT.node (some (IV.lst cNode x1.1)) PT.leaf PT.leaf) PT.leaf) PT.leaf) PT.leaf) (PT.node none (PT.node none (PT.node none (PT.node (some (IV.int Go.IntKind.i64 p)) PT.leaf PT.leaf) PT.leaf) PT.leaf) PT.leaf))) (IS.mk (PT.node (some (IObj.row (List.cons (IV.lst cNode x1.1) (List.cons (IV.lst cVal x1.2) [])))) (PT.node (some (IObj.row (List.cons (IV.fn 105 (List.cons (IV.ptr 0 0) [])) []))) PT.leaf PT.leaf) PT.leaf) 2) [] 0)
def R_p_formed_in (lf : Nat) (x1 : DGraph) (L4 : Int → Option Rt_p_formed) : Option Rt_p_formed := (cond (iltI (Int.ofNat 400) (Int.ofNat (List.length x1.1))) (some ((Int.ofNat 3), ())) (cond (iltI (Int.ofNat 60) (Int.ofNat (List.length x1.2))) (some ((Int.ofNat 3), ())) (L4 (Int.ofNat 0))))
def R_p_formed_4 (lf : Nat) (x1 : DGraph) (L4 : Int → Option Rt_p_formed) (L11 : Int → Option Rt_p_formed) (p : Int) : Option Rt_p_formed := (cond (iltI p (Int.ofNat (List.length x1.1))) (match (jget x1.1 p) with | .none  => none | .some v0 => (cond (iltI (Int.ofNat 30) (Int.ofNat (List.length v0.2))) (some ((Int.ofNat 3), ())) (L4 (Go.IntKind.wrap Go.IntKind.i64 (Int.add p (Int.ofNat 1)))))) (L11 (Int.ofNat 0)))
def R_p_formed_11 (lf : Nat) (x1 : DGraph) (L11 : Int → Option Rt_p_formed) (p : Int) : Option Rt_p_formed := (cond (iltI p (Int.ofNat (List.length x1.1))) (match (jget x1.1 p) with | .none  => none | .some v0 => (match (idxO (fun v1 => (some (Bool.not (Go.Proofs.Ytcnhjofpmpipfaa.S.value (v1.1, v1.2) (Int.ofNat (List.length x1.1)))))) v0.2 0) with | .none  => none | .some v2 => (cond (Bool.not (iltI v2 (Int.ofNat 0))) (some ((Int.ofNat 2), ())) (L11 (Go.IntKind.wrap Go.IntKind.i64 (Int.add p (Int.ofNat 1))))))) (match (idxO (fun v26 => (cond (Bool.not (Go.Proofs.Ytcnhjofpmpipfaa.S.value (v26.1, v26.2) (Int.ofNat (List.length x1.1)))) (some Bool.true) (cond (ieqI v26.1 (Int.ofNat 3)) (some Bool.false) (some (Bool.not (ieqI v26.1 (Int.ofNat 4))))))) x1.2 0) with | .none  => none | .some v27 => (cond (Bool.not (Bool.not (iltI v27 (Int.ofNat 0)))) (some ((Int.ofNat 0), ())) (some ((Int.ofNat 2), ())))))
theorem in_p_formed (g : ElA [cGraph] → Option Rt_p_formed) (J : Nat → List Nat → NRes → Option Rt_p_formed) (lf : Nat) (x1 : DGraph) : icodeT Try.prog ttT.get nm_p_formed fi70.nt (cl_p_formed _ lf) lf st_p_formed J fi70.body [] (argGo (argV [cGraph] (x1, ())) 0 .leaf) S0 [] (lastK ttT.get fi70 ⟨[cGraph], [(false, (.int .i64))], g⟩) = R_p_formed_in lf x1 (fun q => J 4 [lf] (enc_p_formed_4 x1 q)) := by kernel_rfl
theorem st_p_formed_4 (g : ElA [cGraph] → Option Rt_p_formed) (J : Nat → List Nat → NRes → Option Rt_p_formed) (lf : Nat) (x1 : DGraph) (m1 : Nat) (p : Int) : icodeFT Try.prog ttT.get nm_p_formed fi70.nt (cl_p_formed _ lf) lf st_p_formed J 4 fi70.body [] [m1] (enc_p_formed_4 x1 p) (lastK ttT.get fi70 ⟨[cGraph], [(false, (.int .i64))], g⟩) = R_p_formed_4 lf x1 (fun q => J 4 [m1] (enc_p_formed_4 x1 q)) (fun q => J 11 [lf] (enc_p_formed_11 x1 q)) p := by kernel_rfl
theorem st_p_formed_11 (g : ElA [cGraph] → Option Rt_p_formed) (J : Nat → List Nat → NRes → Option Rt_p_formed) (lf : Nat) (x1 : DGraph) (m1 : Nat) (p : Int) : icodeFT Try.prog ttT.get nm_p_formed fi70.nt (cl_p_formed _ lf) lf st_p_formed J 11 fi70.body [] [m1] (enc_p_formed_11 x1 p) (lastK ttT.get fi70 ⟨[cGraph], [(false, (.int .i64))], g⟩) = R_p_formed_11 lf x1 (fun q => J 11 [m1] (enc_p_formed_11 x1 q)) p := by kernel_rfl
theorem nd_p_formed : (regs fi70.body).Nodup := by decide +kernel
theorem ok_p_formed : okC nm_p_formed st_p_formed hd_p_formed fi70.body none = true := by kernel_rfl
def A_p_formed (g : ElA [cGraph] → Option Rt_p_formed) (lf : Nat) : Nat → List Nat → NRes → Option Rt_p_formed := atN Try.prog ttT.get nm_p_formed fi70 ⟨[cGraph], [(false, (.int .i64))], g⟩ (cl_p_formed _ lf) lf hd_p_formed
def G_p_formed_11 (lf : Nat) (x1 : DGraph) : Nat → (Int) → Option Rt_p_formed := rounds fun K p => R_p_formed_11 lf x1 K p
theorem at_p_formed_11 (g : ElA [cGraph] → Option Rt_p_formed) (lf : Nat) (x1 : DGraph) : ∀ (n : Nat) (p : Int), A_p_formed g lf 11 [n] (enc_p_formed_11 x1 p) = G_p_formed_11 lf x1 n p
  | 0, p => atN_zero 11 [0] rfl _
  | n + 1, p => by
    have ih := at_p_formed_11 g lf x1 n
    refine (atN_eq (icallK_eq 20 _) nd_p_formed ok_p_formed 11 [n + 1] [n] rfl _).trans ((st_p_formed_11 g (A_p_formed g lf) lf x1 n p).trans ?_)
    rw [(show (fun q => A_p_formed g lf 11 [n] (enc_p_formed_11 x1 q)) = (fun q => G_p_formed_11 lf x1 n q) from funext ih)]
    rfl
def G_p_formed_4 (lf : Nat) (x1 : DGraph) : Nat → (Int) → Option Rt_p_formed := rounds fun K p => R_p_formed_4 lf x1 K (fun q => G_p_formed_11 lf x1 lf q) p
theorem at_p_formed_4 (g : ElA [cGraph] → Option Rt_p_formed) (lf : Nat) (x1 : DGraph) : ∀ (n : Nat) (p : Int), A_p_formed g lf 4 [n] (enc_p_formed_4 x1 p) = G_p_formed_4 lf x1 n p
  | 0, p => atN_zero 4 [0] rfl _
  | n + 1, p => by
    have ih := at_p_formed_4 g lf x1 n
    refine (atN_eq (icallK_eq 20 _) nd_p_formed ok_p_formed 4 [n + 1] [n] rfl _).trans ((st_p_formed_4 g (A_p_formed g lf) lf x1 n p).trans ?_)
    rw [(show (fun q => A_p_formed g lf 11 [lf] (enc_p_formed_11 x1 q)) = (fun q => G_p_formed_11 lf x1 lf q) from funext fun q => at_p_formed_11 g lf x1 lf q), (show (fun q => A_p_formed g lf 4 [n] (enc_p_formed_4 x1 q)) = (fun q => G_p_formed_4 lf x1 n q) from funext ih)]
    rfl
def F_p_formed (lf : Nat) (x1 : DGraph) : Option Rt_p_formed := R_p_formed_in lf x1 (fun q => G_p_formed_4 lf x1 lf q)
theorem run_p_formed (g : ElA [cGraph] → Option Rt_p_formed) (lf : Nat) (x1 : DGraph) : icodeT Try.prog ttT.get nm_p_formed fi70.nt (cl_p_formed _ lf) lf st_p_formed (A_p_formed g lf) fi70.body [] (argGo (argV [cGraph] (x1, ())) 0 .leaf) S0 [] (lastK ttT.get fi70 ⟨[cGraph], [(false, (.int .i64))], g⟩) = F_p_formed lf x1 := by
    refine (in_p_formed g (A_p_formed g lf) lf x1).trans ?_
    rw [(show (fun q => A_p_formed g lf 4 [lf] (enc_p_formed_4 x1 q)) = (fun q => G_p_formed_4 lf x1 lf q) from funext fun q => at_p_formed_4 g lf x1 lf q)]
    rfl
theorem hxs_p_formed : HxsOK Try.prog hxl_p_formed := ⟨ixO137, trivial⟩
theorem mk_p_formed {g : ElA [cGraph] → Option Rt_p_formed} (hsm : SmOK Try.prog sml_p_formed) (hg : ∀ (x : ElA [cGraph]) (y : Rt_p_formed), WfA [cGraph] x → g x = some y → ∃ lf, F_p_formed lf x.1 = some y) : Con Try.prog 70 ⟨[cGraph], [(false, (.int .i64))], g⟩ :=
  conT (nmf := nm_p_formed) (sml := sml_p_formed) (hxl := hxl_p_formed) (st := st_p_formed) (hd := hd_p_formed) 20 mixed ttOK ftOK hsm hxs_p_formed cal70 rfl rfl (by kernel_rfl) (fun x => by kernel_rfl) nd_p_formed ok_p_formed fun x y hx hy => by
    obtain ⟨lf, h⟩ := hg x y hx hy
    exact ⟨lf, (run_p_formed g lf x.1).trans h⟩
def nm_p_suits : Nat → Option Nm := fun k => none
def st_p_suits : Nat → Bool := fun k => false
def hd_p_suits : Nat → Bool := fun k => false
abbrev Rt_p_suits : Type := Bool × Unit
def sml_p_suits : List (Nat × Sm) := []
def hxl_p_suits : List (Nat × Hx) := []
def cl_p_suits (R : Type) (lf : Nat) : ClK R := icallK Try.prog ttT.get ftT.get (nm1 121 nm_p_suits) (smL sml_p_suits) (hxL hxl_p_suits) lf 20 R
abbrev id_p_suits : Nat := 121
def R_p_suits_in (lf : Nat) (x1 : DGraph) (x2 : DCol) (x3 : DVal) : Option Rt_p_suits := (cond (ieqI x2.2.1 (Int.ofNat 1)) (some ((ieqI x3.1 (Int.ofNat 1)), ())) (cond (ieqI x2.2.1 (Int.ofNat 2)) (some ((ieqI x3.1 (Int.ofNat 2)), ())) (cond (ieqI x3.1 (Int.ofNat 3)) (some (Bool.true, ())) (cond (ieqI x3.1 (Int.ofNat 4)) (cond (keqS x2.2.2 (S.lit [65, 78, 89])) (some (Bool.true, ())) (match (jget x1.1 x3.2) with | .none  => none | .some v0 => (some ((keqS v0.1 x2.2.2), ())))) (some (Bool.false, ()))))))
theorem in_p_suits (g : ElA [cGraph, cCol, cVal] → Option Rt_p_suits) (J : Nat → List Nat → NRes → Option Rt_p_suits) (lf : Nat) (x1 : DGraph) (x2 : DCol) (x3 : DVal) : icodeT Try.prog ttT.get nm_p_suits fi121.nt (cl_p_suits _ lf) lf st_p_suits J fi121.body [] (argGo (argV [cGraph, cCol, cVal] (x1, x2, x3, ())) 0 .leaf) S0 [] (lastK ttT.get fi121 ⟨[cGraph, cCol, cVal], [(false, .bool)], g⟩) = R_p_suits_in lf x1 x2 x3 := by kernel_rfl
theorem nd_p_suits : (regs fi121.body).Nodup := by decide +kernel
theorem ok_p_suits : okC nm_p_suits st_p_suits hd_p_suits fi121.body none = true := by kernel_rfl
def A_p_suits (g : ElA [cGraph, cCol, cVal] → Option Rt_p_suits) (lf : Nat) : Nat → List Nat → NRes → Option Rt_p_suits := atN Try.prog ttT.get nm_p_suits fi121 ⟨[cGraph, cCol, cVal], [(false, .bool)], g⟩ (cl_p_suits _ lf) lf hd_p_suits
def F_p_suits (lf : Nat) (x1 : DGraph) (x2 : DCol) (x3 : DVal) : Option Rt_p_suits := R_p_suits_in lf x1 x2 x3
theorem run_p_suits (g : ElA [cGraph, cCol, cVal] → Option Rt_p_suits) (lf : Nat) (x1 : DGraph) (x2 : DCol) (x3 : DVal) : icodeT Try.prog ttT.get nm_p_suits fi121.nt (cl_p_suits _ lf) lf st_p_suits (A_p_suits g lf) fi121.body [] (argGo (argV [cGraph, cCol, cVal] (x1, x2, x3, ())) 0 .leaf) S0 [] (lastK ttT.get fi121 ⟨[cGraph, cCol, cVal], [(false, .bool)], g⟩) = F_p_suits lf x1 x2 x3 := by
    refine (in_p_suits g (A_p_suits g lf) lf x1 x2 x3).trans ?_
    rfl
theorem hxs_p_suits : HxsOK Try.prog hxl_p_suits := trivial
theorem mk_p_suits {g : ElA [cGraph, cCol, cVal] → Option Rt_p_suits} (hsm : SmOK Try.prog sml_p_suits) (hg : ∀ (x : ElA [cGraph, cCol, cVal]) (y : Rt_p_suits), WfA [cGraph, cCol, cVal] x → g x = some y → ∃ lf, F_p_suits lf x.1 x.2.1 x.2.2.1 = some y) : Con Try.prog 121 ⟨[cGraph, cCol, cVal], [(false, .bool)], g⟩ :=
  conT (nmf := nm_p_suits) (sml := sml_p_suits) (hxl := hxl_p_suits) (st := st_p_suits) (hd := hd_p_suits) 20 mixed ttOK ftOK hsm hxs_p_suits cal121 rfl rfl (by kernel_rfl) (fun x => by kernel_rfl) nd_p_suits ok_p_suits fun x y hx hy => by
    obtain ⟨lf, h⟩ := hg x y hx hy
    exact ⟨lf, (run_p_suits g lf x.1 x.2.1 x.2.2.1).trans h⟩
def nm_p_typed : Nat → Option Nm := fun k => cond (Nat.beq k 2) (some ⟨[0, 3, 11, 12, 13], [], [], [], [], 0, 0, false⟩) (cond (Nat.beq k 8) (some ⟨[0, 3, 6, 11, 12, 13, 31, 32, 33], [], [], [], [], 0, 0, false⟩) (none))
def st_p_typed : Nat → Bool := fun k => cond (Nat.beq k 2) true (cond (Nat.beq k 8) true (false))
def hd_p_typed : Nat → Bool := fun k => cond (Nat.beq k 2) true (cond (Nat.beq k 8) true (false))
abbrev Rt_p_typed : Type := Bool × Unit
def sml_p_typed : List (Nat × Sm) := [(52, sp_p_form), (121, sp_p_suits)]
def hxl_p_typed : List (Nat × Hx) := []
def cl_p_typed (R : Type) (lf : Nat) : ClK R := icallK Try.prog ttT.get ftT.get (nm1 88 nm_p_typed) (smL sml_p_typed) (hxL hxl_p_typed) lf 20 R
abbrev id_p_typed : Nat := 88
def enc_p_typed_2 (x1 : (List DForm)) (x2 : DGraph) (p : Int) : NRes := (NRes.mk (PT.node (some (IV.lst cForm x1)) (PT.node none (PT.node (some (IV.ptr 0 0)) PT.leaf (PT.node (some (IV.lst cNode x2.1)) PT.leaf PT.leaf)) (PT.node none PT.leaf (PT.node (some (IV.int Go.IntKind.i64 p)) PT.leaf PT.leaf))) (PT.node none (PT.node none PT.leaf (PT.node (some (IV.int Go.IntKind.i64 (Int.ofNat (List.length x2.1)))) PT.leaf PT.leaf)) PT.leaf)) (IS.mk (PT.node (some (IObj.row (List.cons (IV.lst cNode x2.1) (List.cons (IV.lst cVal x2.2) [])))) PT.leaf PT.leaf) 1) [] 0)
def enc_p_typed_8 (x1 : (List DForm)) (x2 : DGraph) (p : (List DVal) × (List DCol) × ByteArray × Int × Int) : NRes := (NRes.mk (PT.node (some (IV.lst cForm x1)) (PT.node none (PT.node (some (IV.ptr 0 0)) (PT.node none (PT.node none (PT.node (some (IV.lst cCol p.2.1)) PT.leaf PT.leaf) PT.leaf) PT.leaf) (PT.node (some (IV.lst cNode x2.1)) PT.leaf PT.leaf)) (PT.node none (PT.node none (PT.node none (PT.node (some (IV.int Go.IntKind.i64 p.2.2.2.1)) PT.leaf PT.leaf) PT.leaf) PT.leaf) (PT.node (some (IV.int Go.IntKind.i64 p.2.2.2.2)) PT.leaf PT.leaf))) (PT.node none (PT.node none (PT.node none (PT.node none (PT.node (some (IV.int Go.IntKind.i64 (Int.ofNat (List.length p.2.1)))) PT.leaf PT.leaf) PT.leaf) PT.leaf) (PT.node (some (IV.int Go.IntKind.i64 (Int.ofNat (List.length x2.1)))) PT.leaf PT.leaf)) (PT.node (some (IV.ptr 1 0)) PT.leaf PT.leaf))) (IS.mk (PT.node (some (IObj.row (List.cons (IV.lst cNode x2.1) (List.cons (IV.lst cVal x2.2) [])))) (PT.node (some (IObj.row (List.cons (IV.str p.2.2.1) (List.cons (IV.lst cVal p.1) [])))) PT.leaf PT.leaf) PT.leaf) 2) [] 0)
def R_p_typed_in (lf : Nat) (x1 : (List DForm)) (x2 : DGraph) (L2 : Int → Option Rt_p_typed) : Option Rt_p_typed := (L2 (Int.ofNat 0))
def R_p_typed_2 (lf : Nat) (x1 : (List DForm)) (x2 : DGraph) (L8 : ((List DVal) × (List DCol) × ByteArray × Int × Int) → Option Rt_p_typed) (p : Int) : Option Rt_p_typed := (cond (iltI p (Int.ofNat (List.length x2.1))) (match (jget x2.1 p) with | .none  => none | .some v0 => (match (jget x1 (Go.Proofs.Ytcnhjofpmpipfaa.S.form x1 v0.1)) with | .none  => none | .some v1 => (cond (Bool.not (ieqI (Int.ofNat (List.length v0.2)) (Int.ofNat (List.length v1.2)))) (some (Bool.false, ())) (L8 (v0.2, v1.2, v0.1, (Int.ofNat 0), p))))) (some (Bool.true, ())))
def R_p_typed_8 (lf : Nat) (x1 : (List DForm)) (x2 : DGraph) (L8 : ((List DVal) × (List DCol) × ByteArray × Int × Int) → Option Rt_p_typed) (L2 : Int → Option Rt_p_typed) (p : (List DVal) × (List DCol) × ByteArray × Int × Int) : Option Rt_p_typed := (cond (iltI p.2.2.2.1 (Int.ofNat (List.length p.2.1))) (match (jget p.2.1 p.2.2.2.1) with | .none  => none | .some v0 => (match (jget p.1 p.2.2.2.1) with | .none  => none | .some v1 => (match (cond (Go.Proofs.Ytcnhjofpmpipfaa.S.refOK (x2.1, x2.2) (v1.1, v1.2)) (some ((Go.Proofs.Ytcnhjofpmpipfaa.S.suits (x2.1, x2.2) (v0.1, (v0.2.1, v0.2.2)) (v1.1, v1.2)), ())) none) with | .none  => none | .some v2 => (cond (Bool.not v2.1) (some (Bool.false, ())) (L8 (p.1, p.2.1, p.2.2.1, (Go.IntKind.wrap Go.IntKind.i64 (Int.add p.2.2.2.1 (Int.ofNat 1))), p.2.2.2.2)))))) (L2 (Go.IntKind.wrap Go.IntKind.i64 (Int.add p.2.2.2.2 (Int.ofNat 1)))))
theorem in_p_typed (g : ElA [(.list cForm), cGraph] → Option Rt_p_typed) (J : Nat → List Nat → NRes → Option Rt_p_typed) (lf : Nat) (x1 : (List DForm)) (x2 : DGraph) : icodeT Try.prog ttT.get nm_p_typed fi88.nt (cl_p_typed _ lf) lf st_p_typed J fi88.body [] (argGo (argV [(.list cForm), cGraph] (x1, x2, ())) 0 .leaf) S0 [] (lastK ttT.get fi88 ⟨[(.list cForm), cGraph], [(false, .bool)], g⟩) = R_p_typed_in lf x1 x2 (fun q => J 2 [lf] (enc_p_typed_2 x1 x2 q)) := by kernel_rfl
theorem st_p_typed_2 (g : ElA [(.list cForm), cGraph] → Option Rt_p_typed) (J : Nat → List Nat → NRes → Option Rt_p_typed) (lf : Nat) (x1 : (List DForm)) (x2 : DGraph) (m1 : Nat) (p : Int) : icodeFT Try.prog ttT.get nm_p_typed fi88.nt (cl_p_typed _ lf) lf st_p_typed J 2 fi88.body [] [m1] (enc_p_typed_2 x1 x2 p) (lastK ttT.get fi88 ⟨[(.list cForm), cGraph], [(false, .bool)], g⟩) = R_p_typed_2 lf x1 x2 (fun q => J 8 [m1, lf] (enc_p_typed_8 x1 x2 q)) p := by kernel_rfl
theorem st_p_typed_8 (g : ElA [(.list cForm), cGraph] → Option Rt_p_typed) (J : Nat → List Nat → NRes → Option Rt_p_typed) (lf : Nat) (x1 : (List DForm)) (x2 : DGraph) (m1 : Nat) (m2 : Nat) (p : (List DVal) × (List DCol) × ByteArray × Int × Int) : icodeFT Try.prog ttT.get nm_p_typed fi88.nt (cl_p_typed _ lf) lf st_p_typed J 8 fi88.body [] [m1, m2] (enc_p_typed_8 x1 x2 p) (lastK ttT.get fi88 ⟨[(.list cForm), cGraph], [(false, .bool)], g⟩) = R_p_typed_8 lf x1 x2 (fun q => J 8 [m1, m2] (enc_p_typed_8 x1 x2 q)) (fun q => J 2 [m1] (enc_p_typed_2 x1 x2 q)) p := by kernel_rfl
theorem nd_p_typed : (regs fi88.body).Nodup := by decide +kernel
theorem ok_p_typed : okC nm_p_typed st_p_typed hd_p_typed fi88.body none = true := by kernel_rfl
def A_p_typed (g : ElA [(.list cForm), cGraph] → Option Rt_p_typed) (lf : Nat) : Nat → List Nat → NRes → Option Rt_p_typed := atN Try.prog ttT.get nm_p_typed fi88 ⟨[(.list cForm), cGraph], [(false, .bool)], g⟩ (cl_p_typed _ lf) lf hd_p_typed
def G_p_typed_8 (lf : Nat) (x1 : (List DForm)) (x2 : DGraph) (K2 : Int → Option Rt_p_typed) : Nat → ((List DVal) × (List DCol) × ByteArray × Int × Int) → Option Rt_p_typed := rounds fun K p => R_p_typed_8 lf x1 x2 K K2 p
theorem at_p_typed_8 (g : ElA [(.list cForm), cGraph] → Option Rt_p_typed) (lf : Nat) (x1 : (List DForm)) (x2 : DGraph) (m1 : Nat) : ∀ (n : Nat) (p : (List DVal) × (List DCol) × ByteArray × Int × Int), A_p_typed g lf 8 [m1, n] (enc_p_typed_8 x1 x2 p) = G_p_typed_8 lf x1 x2 (fun q => A_p_typed g lf 2 [m1] (enc_p_typed_2 x1 x2 q)) n p
  | 0, p => atN_zero 8 [m1, 0] rfl _
  | n + 1, p => by
    have ih := at_p_typed_8 g lf x1 x2 m1 n
    refine (atN_eq (icallK_eq 20 _) nd_p_typed ok_p_typed 8 [m1, n + 1] [m1, n] rfl _).trans ((st_p_typed_8 g (A_p_typed g lf) lf x1 x2 m1 n p).trans ?_)
    rw [(show (fun q => A_p_typed g lf 8 [m1, n] (enc_p_typed_8 x1 x2 q)) = (fun q => G_p_typed_8 lf x1 x2 (fun q => A_p_typed g lf 2 [m1] (enc_p_typed_2 x1 x2 q)) n q) from funext ih)]
    rfl
def G_p_typed_2 (lf : Nat) (x1 : (List DForm)) (x2 : DGraph) : Nat → (Int) → Option Rt_p_typed := rounds fun K p => R_p_typed_2 lf x1 x2 (fun q => G_p_typed_8 lf x1 x2 K lf q) p
theorem at_p_typed_2 (g : ElA [(.list cForm), cGraph] → Option Rt_p_typed) (lf : Nat) (x1 : (List DForm)) (x2 : DGraph) : ∀ (n : Nat) (p : Int), A_p_typed g lf 2 [n] (enc_p_typed_2 x1 x2 p) = G_p_typed_2 lf x1 x2 n p
  | 0, p => atN_zero 2 [0] rfl _
  | n + 1, p => by
    have ih := at_p_typed_2 g lf x1 x2 n
    refine (atN_eq (icallK_eq 20 _) nd_p_typed ok_p_typed 2 [n + 1] [n] rfl _).trans ((st_p_typed_2 g (A_p_typed g lf) lf x1 x2 n p).trans ?_)
    rw [(show (fun q => A_p_typed g lf 8 [n, lf] (enc_p_typed_8 x1 x2 q)) = (fun q => G_p_typed_8 lf x1 x2 (fun q => A_p_typed g lf 2 [n] (enc_p_typed_2 x1 x2 q)) lf q) from funext fun q => at_p_typed_8 g lf x1 x2 n lf q), (show (fun q => A_p_typed g lf 2 [n] (enc_p_typed_2 x1 x2 q)) = (fun q => G_p_typed_2 lf x1 x2 n q) from funext ih)]
    rfl
def F_p_typed (lf : Nat) (x1 : (List DForm)) (x2 : DGraph) : Option Rt_p_typed := R_p_typed_in lf x1 x2 (fun q => G_p_typed_2 lf x1 x2 lf q)
theorem run_p_typed (g : ElA [(.list cForm), cGraph] → Option Rt_p_typed) (lf : Nat) (x1 : (List DForm)) (x2 : DGraph) : icodeT Try.prog ttT.get nm_p_typed fi88.nt (cl_p_typed _ lf) lf st_p_typed (A_p_typed g lf) fi88.body [] (argGo (argV [(.list cForm), cGraph] (x1, x2, ())) 0 .leaf) S0 [] (lastK ttT.get fi88 ⟨[(.list cForm), cGraph], [(false, .bool)], g⟩) = F_p_typed lf x1 x2 := by
    refine (in_p_typed g (A_p_typed g lf) lf x1 x2).trans ?_
    rw [(show (fun q => A_p_typed g lf 2 [lf] (enc_p_typed_2 x1 x2 q)) = (fun q => G_p_typed_2 lf x1 x2 lf q) from funext fun q => at_p_typed_2 g lf x1 x2 lf q)]
    rfl
theorem hxs_p_typed : HxsOK Try.prog hxl_p_typed := trivial
theorem mk_p_typed {g : ElA [(.list cForm), cGraph] → Option Rt_p_typed} (hsm : SmOK Try.prog sml_p_typed) (hg : ∀ (x : ElA [(.list cForm), cGraph]) (y : Rt_p_typed), WfA [(.list cForm), cGraph] x → g x = some y → ∃ lf, F_p_typed lf x.1 x.2.1 = some y) : Con Try.prog 88 ⟨[(.list cForm), cGraph], [(false, .bool)], g⟩ :=
  conT (nmf := nm_p_typed) (sml := sml_p_typed) (hxl := hxl_p_typed) (st := st_p_typed) (hd := hd_p_typed) 20 mixed ttOK ftOK hsm hxs_p_typed cal88 rfl rfl (by kernel_rfl) (fun x => by kernel_rfl) nd_p_typed ok_p_typed fun x y hx hy => by
    obtain ⟨lf, h⟩ := hg x y hx hy
    exact ⟨lf, (run_p_typed g lf x.1 x.2.1).trans h⟩
def nm_p_check : Nat → Option Nm := fun k => none
def st_p_check : Nat → Bool := fun k => false
def hd_p_check : Nat → Bool := fun k => false
abbrev Rt_p_check : Type := Int × Unit
def sml_p_check : List (Nat × Sm) := [(70, sp_p_formed), (52, sp_p_form), (88, sp_p_typed)]
def hxl_p_check : List (Nat × Hx) := [(135, idxHx cNode)]
def cl_p_check (R : Type) (lf : Nat) : ClK R := icallK Try.prog ttT.get ftT.get (nm1 59 nm_p_check) (smL sml_p_check) (hxL hxl_p_check) lf 20 R
abbrev id_p_check : Nat := 59
def R_p_check_in (lf : Nat) (x1 : (List DForm)) (x2 : DGraph) : Option Rt_p_check := (cond (Bool.not (ieqI (Go.Proofs.Ytcnhjofpmpipfaa.S.formed (x2.1, x2.2)) (Int.ofNat 0))) (some ((Go.Proofs.Ytcnhjofpmpipfaa.S.formed (x2.1, x2.2)), ())) (match (idxO (fun v0 => (some (iltI (Go.Proofs.Ytcnhjofpmpipfaa.S.form x1 v0.1) (Int.ofNat 0)))) x2.1 0) with | .none  => none | .some v1 => (cond (Bool.not (iltI v1 (Int.ofNat 0))) (some ((Int.ofNat 4), ())) (match (cond (Go.Proofs.Ytcnhjofpmpipfaa.S.typedPre x1 (x2.1, x2.2)) (some ((Go.Proofs.Ytcnhjofpmpipfaa.S.typed x1 (x2.1, x2.2) x2.1), ())) none) with | .none  => none | .some v2 => (cond v2.1 (some ((Int.ofNat 0), ())) (some ((Int.ofNat 8), ())))))))
theorem in_p_check (g : ElA [(.list cForm), cGraph] → Option Rt_p_check) (J : Nat → List Nat → NRes → Option Rt_p_check) (lf : Nat) (x1 : (List DForm)) (x2 : DGraph) : icodeT Try.prog ttT.get nm_p_check fi59.nt (cl_p_check _ lf) lf st_p_check J fi59.body [] (argGo (argV [(.list cForm), cGraph] (x1, x2, ())) 0 .leaf) S0 [] (lastK ttT.get fi59 ⟨[(.list cForm), cGraph], [(false, (.int .i64))], g⟩) = R_p_check_in lf x1 x2 := by kernel_rfl
theorem nd_p_check : (regs fi59.body).Nodup := by decide +kernel
theorem ok_p_check : okC nm_p_check st_p_check hd_p_check fi59.body none = true := by kernel_rfl
def A_p_check (g : ElA [(.list cForm), cGraph] → Option Rt_p_check) (lf : Nat) : Nat → List Nat → NRes → Option Rt_p_check := atN Try.prog ttT.get nm_p_check fi59 ⟨[(.list cForm), cGraph], [(false, (.int .i64))], g⟩ (cl_p_check _ lf) lf hd_p_check
def F_p_check (lf : Nat) (x1 : (List DForm)) (x2 : DGraph) : Option Rt_p_check := R_p_check_in lf x1 x2
theorem run_p_check (g : ElA [(.list cForm), cGraph] → Option Rt_p_check) (lf : Nat) (x1 : (List DForm)) (x2 : DGraph) : icodeT Try.prog ttT.get nm_p_check fi59.nt (cl_p_check _ lf) lf st_p_check (A_p_check g lf) fi59.body [] (argGo (argV [(.list cForm), cGraph] (x1, x2, ())) 0 .leaf) S0 [] (lastK ttT.get fi59 ⟨[(.list cForm), cGraph], [(false, (.int .i64))], g⟩) = F_p_check lf x1 x2 := by
    refine (in_p_check g (A_p_check g lf) lf x1 x2).trans ?_
    rfl
theorem hxs_p_check : HxsOK Try.prog hxl_p_check := ⟨ixO135, trivial⟩
theorem mk_p_check {g : ElA [(.list cForm), cGraph] → Option Rt_p_check} (hsm : SmOK Try.prog sml_p_check) (hg : ∀ (x : ElA [(.list cForm), cGraph]) (y : Rt_p_check), WfA [(.list cForm), cGraph] x → g x = some y → ∃ lf, F_p_check lf x.1 x.2.1 = some y) : Con Try.prog 59 ⟨[(.list cForm), cGraph], [(false, (.int .i64))], g⟩ :=
  conT (nmf := nm_p_check) (sml := sml_p_check) (hxl := hxl_p_check) (st := st_p_check) (hd := hd_p_check) 20 mixed ttOK ftOK hsm hxs_p_check cal59 rfl rfl (by kernel_rfl) (fun x => by kernel_rfl) nd_p_check ok_p_check fun x y hx hy => by
    obtain ⟨lf, h⟩ := hg x y hx hy
    exact ⟨lf, (run_p_check g lf x.1 x.2.1).trans h⟩
def nm_p_Check : Nat → Option Nm := fun k => none
def st_p_Check : Nat → Bool := fun k => false
def hd_p_Check : Nat → Bool := fun k => false
abbrev Rt_p_Check : Type := Int × Unit
def sml_p_Check : List (Nat × Sm) := [(16, sp_p_CheckForms), (59, sp_p_check)]
def hxl_p_Check : List (Nat × Hx) := []
def cl_p_Check (R : Type) (lf : Nat) : ClK R := icallK Try.prog ttT.get ftT.get (nm1 18 nm_p_Check) (smL sml_p_Check) (hxL hxl_p_Check) lf 20 R
abbrev id_p_Check : Nat := 18
def R_p_Check_in (lf : Nat) (x1 : (List DForm)) (x2 : DGraph) : Option Rt_p_Check := (cond (Bool.not (ieqI (Go.Proofs.Ytcnhjofpmpipfaa.S.checkForms x1) (Int.ofNat 0))) (some ((Go.Proofs.Ytcnhjofpmpipfaa.S.checkForms x1), ())) (some ((Go.Proofs.Ytcnhjofpmpipfaa.S.check x1 (x2.1, x2.2)), ())))
theorem in_p_Check (g : ElA [(.list cForm), cGraph] → Option Rt_p_Check) (J : Nat → List Nat → NRes → Option Rt_p_Check) (lf : Nat) (x1 : (List DForm)) (x2 : DGraph) : icodeT Try.prog ttT.get nm_p_Check fi18.nt (cl_p_Check _ lf) lf st_p_Check J fi18.body [] (argGo (argV [(.list cForm), cGraph] (x1, x2, ())) 0 .leaf) S0 [] (lastK ttT.get fi18 ⟨[(.list cForm), cGraph], [(false, (.int .i64))], g⟩) = R_p_Check_in lf x1 x2 := by kernel_rfl
theorem nd_p_Check : (regs fi18.body).Nodup := by decide +kernel
theorem ok_p_Check : okC nm_p_Check st_p_Check hd_p_Check fi18.body none = true := by kernel_rfl
def A_p_Check (g : ElA [(.list cForm), cGraph] → Option Rt_p_Check) (lf : Nat) : Nat → List Nat → NRes → Option Rt_p_Check := atN Try.prog ttT.get nm_p_Check fi18 ⟨[(.list cForm), cGraph], [(false, (.int .i64))], g⟩ (cl_p_Check _ lf) lf hd_p_Check
def F_p_Check (lf : Nat) (x1 : (List DForm)) (x2 : DGraph) : Option Rt_p_Check := R_p_Check_in lf x1 x2
theorem run_p_Check (g : ElA [(.list cForm), cGraph] → Option Rt_p_Check) (lf : Nat) (x1 : (List DForm)) (x2 : DGraph) : icodeT Try.prog ttT.get nm_p_Check fi18.nt (cl_p_Check _ lf) lf st_p_Check (A_p_Check g lf) fi18.body [] (argGo (argV [(.list cForm), cGraph] (x1, x2, ())) 0 .leaf) S0 [] (lastK ttT.get fi18 ⟨[(.list cForm), cGraph], [(false, (.int .i64))], g⟩) = F_p_Check lf x1 x2 := by
    refine (in_p_Check g (A_p_Check g lf) lf x1 x2).trans ?_
    rfl
theorem hxs_p_Check : HxsOK Try.prog hxl_p_Check := trivial
theorem mk_p_Check {g : ElA [(.list cForm), cGraph] → Option Rt_p_Check} (hsm : SmOK Try.prog sml_p_Check) (hg : ∀ (x : ElA [(.list cForm), cGraph]) (y : Rt_p_Check), WfA [(.list cForm), cGraph] x → g x = some y → ∃ lf, F_p_Check lf x.1 x.2.1 = some y) : Con Try.prog 18 ⟨[(.list cForm), cGraph], [(false, (.int .i64))], g⟩ :=
  conT (nmf := nm_p_Check) (sml := sml_p_Check) (hxl := hxl_p_Check) (st := st_p_Check) (hd := hd_p_Check) 20 mixed ttOK ftOK hsm hxs_p_Check cal18 rfl rfl (by kernel_rfl) (fun x => by kernel_rfl) nd_p_Check ok_p_Check fun x y hx hy => by
    obtain ⟨lf, h⟩ := hg x y hx hy
    exact ⟨lf, (run_p_Check g lf x.1 x.2.1).trans h⟩
end Go.Proofs.Ytcnhjofpmpipfaa

end
end

/- The contracts of package pack, first part. -/
section
set_option linter.unusedVariables false
namespace Go.Proofs.Ytcnhjofpmpipfaa
open Go Go.Sx Go.RowKit Go.Jx
theorem F_p_within_eq (lf : Nat) (n lo hi : Int) : F_p_within lf n lo hi = some (S.within n lo hi, ()) := by
  simp only [F_p_within, R_p_within_in, S.within, iltI_eq, cond_if]
  by_cases h1 : n < lo
  · simp [h1]; omega
  · by_cases h2 : hi < n <;> simp [h1, h2] <;> omega
theorem con_p_within : Con Try.prog id_p_within sp_p_within := mk_p_within trivial fun x y _ h => ⟨0, (F_p_within_eq _ _ _ _).trans h⟩
theorem F_p_first_eq (l : List Int) (hl : l.length < LF) : F_p_first LF l = some (S.first l, ()) := by
  refine range1 (R := Rt_p_first) l (fun rest _ => some (S.first rest, ())) hl (fun K => ?_) (fun K i v rest r h => ?_)
  · simp only [R_p_first_2, ilt_self, cond_false]; rfl
  · simp only [R_p_first_2, r.ilt, r.get, r.next, h, cond_true, S.first, ieqI_eq, cond_if]
    by_cases hv : v = 0
    · simp [hv]
    · simp [hv]
theorem con_p_first : Con Try.prog id_p_first sp_p_first := mk_p_first trivial fun x y hx h => ⟨LF, (F_p_first_eq _ (wf_len hx.1)).trans h⟩
theorem F_p_form_eq (lf : Nat) (l : List DForm) (n : ByteArray) : F_p_form lf l n = some (S.form l n, ()) := by
  simp only [F_p_form, R_p_form_in]
  rw [idxO_idx (l := l) (fun f : DForm => keqS f.1 n) fun x _ => rfl]
  rfl
theorem con_p_form : Con Try.prog id_p_form sp_p_form := mk_p_form trivial fun x y _ h => ⟨0, (F_p_form_eq _ _ _).trans h⟩
theorem F_p_col_eq (lf : Nat) (l : List DCol) (n : ByteArray) : F_p_col lf l n = some (S.col l n, ()) := by
  simp only [F_p_col, R_p_col_in]
  rw [idxO_idx (l := l) (fun f : DCol => keqS f.1 n) fun x _ => rfl]
  rfl
theorem con_p_col : Con Try.prog id_p_col sp_p_col := mk_p_col trivial fun x y _ h => ⟨0, (F_p_col_eq _ _ _).trans h⟩
theorem F_p_ruleOf_eq (lf : Nat) (l : List DRule) (n : ByteArray) : F_p_ruleOf lf l n = some ((S.ruleOf l n).1, (S.ruleOf l n).2, ()) := by
  simp only [F_p_ruleOf, R_p_ruleOf_in]
  rw [idxO_idx (l := l) (fun f : DRule => keqS f.1 n) fun x _ => rfl]
  simp only [iltI_eq, cond_if]
  by_cases h : S.idx (fun f : DRule => keqS f.1 n) l < 0
  · have := S.idx_neg h
    simp only [S.ruleOf, this]
    rw [if_pos (by simpa using h)]
    rfl
  · obtain ⟨x, h1, h2, h3, h4, h5, h6⟩ := S.idx_get (p := fun f : DRule => keqS f.1 n) (l := l) (by omega)
    simp only [S.ruleOf, h6, h1]
    rw [if_neg (by simpa using h)]
theorem con_p_ruleOf : Con Try.prog id_p_ruleOf sp_p_ruleOf := mk_p_ruleOf trivial fun x y _ h => ⟨0, (F_p_ruleOf_eq _ _ _).trans h⟩
theorem byteList_get {s : ByteArray} (h : 0 < s.size) : ∃ b, (byteList s)[0]? = some b := by
  unfold byteList
  have : 0 < s.data.toList.length := by simpa using h
  exact ⟨_, by rw [List.getElem?_map, List.getElem?_eq_getElem this]; rfl⟩
theorem size_pos {s : ByteArray} (h : ¬ s = S.lit []) : 0 < s.size := by
  rcases Nat.eq_zero_or_pos s.size with h0 | h0
  · exfalso; apply h
    obtain ⟨a⟩ := s
    have : a = #[] := by simpa [ByteArray.size] using h0
    rw [this]; rfl
  · exact h0
theorem F_p_named_eq (lf : Nat) (s : ByteArray) (lo hi : Int) (h1 : IntKind.u8.wrap lo = lo) (h2 : IntKind.u8.wrap hi = hi) : F_p_named lf s lo hi = some (S.named s lo hi, ()) := by
  have w1 : IntKind.i32.wrap lo = lo := by rw [wrap_iff] at *; simp [IntKind.min, IntKind.max, IntKind.bits, IntKind.signed] at *; omega
  have w2 : IntKind.i32.wrap hi = hi := by rw [wrap_iff] at *; simp [IntKind.min, IntKind.max, IntKind.bits, IntKind.signed] at *; omega
  simp only [F_p_named, R_p_named_in, S.named, w1, w2]
  by_cases hs : s = S.lit []
  · subst hs; simp [keqS]
  have hp := size_pos hs
  rw [if_neg hs, show keqS s (S.lit []) = false by simp [keqS, hs], cond_false]
  by_cases h20 : 20 < s.size
  · rw [if_pos h20, show iltI (Int.ofNat 20) (Int.ofNat s.size) = true by rw [iltI_eq]; exact decide_eq_true (Int.ofNat_lt.2 h20), cond_true]
  rw [if_neg h20, show iltI (Int.ofNat 20) (Int.ofNat s.size) = false by rw [iltI_eq]; simp; omega, cond_false]
  obtain ⟨b, hb⟩ := byteList_get hp
  have hj : jget (byteList s) (Int.ofNat 0) = some b := by rw [jget_nat, hb]
  simp only [hj, hb, iltI_eq, cond_if, decide_eq_true_eq]
  by_cases hlo : b < lo
  · rw [if_pos hlo, if_pos hlo]
  rw [if_neg hlo, if_neg hlo]
  by_cases hhi : hi < b
  · rw [if_pos hhi, if_pos hhi]
  rw [if_neg hhi, if_neg hhi]
  have e : (fun (v2 : Nat) (v3 : Int) => (if (!decide (v3 < lo)) = true then if (!decide (hi < v3)) = true then some false else if (!decide (v3 < Int.ofNat 48)) = true then if (!decide (Int.ofNat 57 < v3)) = true then some false else some (!ieqI v3 (Int.ofNat 95)) else some (!ieqI v3 (Int.ofNat 95)) else if (!decide (v3 < Int.ofNat 48)) = true then if (!decide (Int.ofNat 57 < v3)) = true then some false else some (!ieqI v3 (Int.ofNat 95)) else some (!ieqI v3 (Int.ofNat 95)) : Option Bool)) = fun _ r => some (S.badR r lo hi) := by
    funext _ r
    have e48 : Int.ofNat 48 = 48 := rfl
    have e57 : Int.ofNat 57 = 57 := rfl
    have e95 : Int.ofNat 95 = 95 := rfl
    simp only [S.badR, ieqI_eq, e48, e57, e95]
    by_cases a : r < lo <;> by_cases b : hi < r <;> by_cases c : r < 48 <;> by_cases d : 57 < r <;> by_cases e : r = 95 <;> simp [a, b, c, d, e] <;> omega
  rw [e]
  have e0 : Int.ofNat 0 = 0 := rfl
  obtain ⟨k, hk⟩ := sixO_some (p := fun _ r => some (S.badR r lo hi)) (q := fun r => S.badR r lo hi) (fun _ _ => rfl) s true (s.size + 1) 0 (by omega)
  have hk2 : sixO (fun _ r => some (S.badR r lo hi)) s Bool.true (Nat.add s.size 1) 0 = some k := hk
  simp only [hk, hk2, e0]
theorem con_p_named : Con Try.prog id_p_named sp_p_named := mk_p_named trivial fun x y hx h => ⟨0, (F_p_named_eq _ _ _ _ hx.2.1 hx.2.2.1).trans h⟩
theorem F_slices_Index_string_eq (l : List ByteArray) (v : ByteArray) (hl : l.length < LF) : F_slices_Index_string LF l v = some (S.index l v, ()) := by
  refine (range1 (R := Rt_slices_Index_string) l (fun rest i => some ((match rest.findIdx? (fun x => keqS v x) with | some j => Int.ofNat (i + j) | none => -1), ())) hl (fun K => ?_) (fun K i w rest r h => ?_)).trans ?_
  · simp only [R_slices_Index_string_2, ilt_self, cond_false]; rfl
  · simp only [R_slices_Index_string_2, r.ilt, r.get, r.next, h, cond_true, List.findIdx?_cons]
    cases keqS v w with
    | true => rfl
    | false =>
      simp only [cond_false]
      cases List.findIdx? (fun x => keqS v x) rest with
      | none => rfl
      | some j => simp; omega
  · simp only [S.index, S.idx, Nat.zero_add]; all_goals rfl
theorem con_slices_Index_string : Con Try.prog id_slices_Index_string sp_slices_Index_string := mk_slices_Index_string trivial fun x y hx h => ⟨LF, (F_slices_Index_string_eq _ _ (wf_len hx.1)).trans h⟩
theorem F_p_class_eq (lf : Nat) (s : ByteArray) : F_p_class lf s = some (S.class_ s, ()) := by
  simp only [F_p_class, R_p_class_in, S.class_, iltI_eq]
  have e1 : Int.ofNat 65 = 65 := rfl
  have e2 : Int.ofNat 90 = 90 := rfl
  rw [e1, e2]
  cases S.named s 65 90
  · rfl
  · simp; rfl
theorem con_p_class : Con Try.prog id_p_class sp_p_class := mk_p_class ⟨con_p_named, con_slices_Index_string, trivial⟩ fun x y hx h => ⟨LF, (F_p_class_eq _ _).trans h⟩
theorem F_p_small_eq (lf : Nat) (s : ByteArray) : F_p_small lf s = some (S.small s, ()) := by
  simp only [F_p_small, R_p_small_in, S.small, iltI_eq]
  have e1 : Int.ofNat 97 = 97 := rfl
  have e2 : Int.ofNat 122 = 122 := rfl
  rw [e1, e2]
  cases S.named s 97 122
  · rfl
  · simp; rfl
theorem con_p_small : Con Try.prog id_p_small sp_p_small := mk_p_small ⟨con_p_named, con_slices_Index_string, trivial⟩ fun x y hx h => ⟨LF, (F_p_small_eq _ _).trans h⟩

/-! ### Classes -/
theorem lchk_pre {α : Type} (l : List α) {i : Nat} (h : i ≤ l.length) : lchk (Int.ofNat 0) (Int.ofNat i) (Int.ofNat l.length) (Int.ofNat l.length) = true := by
  simp [lchk, iltI_eq]; omega
theorem lsub_pre {α : Type} (l : List α) (i : Nat) : lsub l (Int.ofNat 0) (Int.ofNat i) = l.take i := by
  simp [lsub]
theorem F_p_checkCols_eq (l : List DCol) (hl : l.length < LF) : F_p_checkCols LF l = some (S.checkCols l, ()) := by
  simp only [F_p_checkCols, R_p_checkCols_in, S.checkCols]
  by_cases h30 : 30 < l.length
  · rw [if_pos h30, show iltI (Int.ofNat 30) (Int.ofNat l.length) = true by rw [iltI_eq]; exact decide_eq_true (Int.ofNat_lt.2 h30)]; rfl
  rw [if_neg h30, show iltI (Int.ofNat 30) (Int.ofNat l.length) = false by rw [iltI_eq]; exact decide_eq_false (fun h => h30 (Int.ofNat_lt.1 h)), cond_false]
  refine range1 (R := Rt_p_checkCols) l (fun rest i => some (S.ccGo l i rest, ())) hl (fun K => ?_) (fun K i v rest r h => ?_)
  · simp only [R_p_checkCols_4, ilt_self, cond_false]; rfl
  · simp only [R_p_checkCols_4, r.ilt, r.get, r.next, h, cond_true, lchk_pre l (Nat.le_of_lt r.lt), lsub_pre, S.ccGo, iltI_eq, ieqI_eq, keqS, cond_if]
    simp only [oL]
    generalize S.small v.1 = b1
    generalize S.within v.2.1 1 3 = b2
    by_cases hc : S.col (l.take i) v.1 < 0 <;> by_cases h3 : v.2.1 = 3 <;> by_cases hn : v.2.2 = S.lit [] <;> cases b1 <;> cases b2 <;> simp [hc, h3, hn]
theorem con_p_checkCols : Con Try.prog id_p_checkCols sp_p_checkCols := mk_p_checkCols ⟨con_p_small, con_p_col, con_p_within, trivial⟩ fun x y hx h => ⟨LF, (F_p_checkCols_eq _ (wf_len hx.1)).trans h⟩
theorem cf_inner (x1 : List DForm) (K11 : Int → Option Rt_p_CheckForms) (f : DForm) (hf : f.2.length < LF) (i : Nat) :
    G_p_CheckForms_14 LF x1 K11 LF (f.2, Int.ofNat 0, Int.ofNat i) = if S.cfIn x1 f.2 = true then K11 (IntKind.i64.wrap (Int.add (Int.ofNat i) (Int.ofNat 1))) else some (5, ()) := by
  refine range0 (σ := Unit) (R := Rt_p_CheckForms) f.2 (fun k _ => (f.2, k, Int.ofNat i)) (fun _ _ => True) (fun rest _ _ => if S.cfIn x1 rest = true then K11 (IntKind.i64.wrap (Int.add (Int.ofNat i) (Int.ofNat 1))) else some (5, ())) hf (fun K s _ => ?_) (fun K k c rest s _ r h => ?_) () trivial
  · simp only [R_p_CheckForms_14, ilt_self, cond_false]; rfl
  · have h := h () trivial
    have e3 : Int.ofNat 3 = 3 := rfl
    have e0 : Int.ofNat 0 = 0 := rfl
    simp only [R_p_CheckForms_14, r.ilt, r.get, r.next, h, cond_true, iltI_eq, ieqI_eq, keqS, cond_if, S.cfIn]
    simp only [e3, e0]
    have ea : S.lit [65, 78, 89] = S.ANY := rfl
    simp only [ea, decide_eq_true_eq, Bool.not_eq_true', decide_eq_false_iff_not]
    by_cases h3 : c.2.1 = 3 <;> by_cases hn : c.2.2 = S.ANY <;> by_cases hf : S.form x1 c.2.2 < 0 <;> simp [h3, hn, hf]
theorem cf_second (x1 : List DForm) (hl : x1.length < LF) (hw : ∀ f ∈ x1, f.2.length < LF) : G_p_CheckForms_11 LF x1 LF (Int.ofNat 0) = some (S.cfGo2 x1 x1, ()) := by
  refine range1 (R := Rt_p_CheckForms) x1 (fun rest i => some (S.cfGo2 x1 rest, ())) hl (fun K => ?_) (fun K i v rest r h => ?_)
  · simp only [R_p_CheckForms_11, ilt_self, cond_false]; rfl
  · simp only [R_p_CheckForms_11, r.ilt, r.get, cond_true]
    refine (cf_inner x1 K v (hw v r.mem) i).trans ?_
    rw [r.next, h]
    simp only [S.cfGo2]
    split <;> rfl
theorem first3 (a b c : Int) : S.first [a, b, c] = if a = 0 then (if b = 0 then c else b) else a := by
  simp only [S.first]
  split
  · split
    · split <;> simp_all
    · rfl
  · rfl
theorem F_p_CheckForms_eq (l : List DForm) (hl : l.length < LF) (hw : ∀ f ∈ l, f.2.length < LF) : F_p_CheckForms LF l = some (S.checkForms l, ()) := by
  simp only [F_p_CheckForms, R_p_CheckForms_in, S.checkForms]
  by_cases h24 : 24 < l.length
  · rw [if_pos h24, show iltI (Int.ofNat 24) (Int.ofNat l.length) = true by rw [iltI_eq]; exact decide_eq_true (Int.ofNat_lt.2 h24)]; rfl
  rw [if_neg h24, show iltI (Int.ofNat 24) (Int.ofNat l.length) = false by rw [iltI_eq]; exact decide_eq_false (fun h => h24 (Int.ofNat_lt.1 h)), cond_false]
  refine range1 (R := Rt_p_CheckForms) l (fun rest i => some (S.cfGo l i rest, ())) hl (fun K => ?_) (fun K i v rest r h => ?_)
  · simp only [R_p_CheckForms_4, ilt_self, cond_false, S.cfGo]
    exact cf_second l hl hw
  · have e0 : Int.ofNat 0 = 0 := rfl
    simp only [R_p_CheckForms_4, r.ilt, r.get, r.next, h, cond_true, lchk_pre l (Nat.le_of_lt r.lt), lsub_pre, S.cfGo, iltI_eq, ieqI_eq, cond_if, S.unlessE, first3]
    simp only [e0]
    have e4 : Int.ofNat 4 = 4 := rfl
    have e6 : Int.ofNat 6 = 6 := rfl
    simp only [e4, e6]
    cases S.class_ v.1 <;> by_cases hf : S.form (l.take i) v.1 < 0 <;> by_cases hc : S.checkCols v.2 = 0 <;> simp [hf, hc]
theorem con_p_CheckForms : Con Try.prog id_p_CheckForms sp_p_CheckForms := mk_p_CheckForms ⟨con_p_class, con_p_form, con_p_checkCols, con_p_first, trivial⟩ fun x y hx h => ⟨LF, (F_p_CheckForms_eq _ (wf_len hx.1) fun f hf => wf_len (hx.1.2 f hf).2).trans h⟩

/-! ### Graphs -/
theorem F_p_value_eq (lf : Nat) (v : DVal) (many : Int) : F_p_value lf v many = some (S.value v many, ()) := by
  simp only [F_p_value, R_p_value_in, S.value, ieqI_eq, cond_if]
  simp only [oL, oLn, decide_eq_true_eq]
  split
  · rfl
  split
  · rfl
  split
  · rfl
  split <;> rfl
theorem con_p_value : Con Try.prog id_p_value sp_p_value := mk_p_value ⟨con_p_within, trivial⟩ fun x y hx h => ⟨LF, (F_p_value_eq _ _ _).trans h⟩
theorem idx_any {α : Type} (p : α → Bool) (l : List α) : (!iltI (S.idx p l) (Int.ofNat 0)) = l.any p := by
  have := S.idx_nonneg p l
  rw [iltI_eq, Bool.eq_iff_iff]
  simp only [oL, Bool.not_eq_true', decide_eq_false_iff_not, Int.not_lt]
  exact this
theorem idx_any0 {α : Type} (p : α → Bool) (l : List α) : (!iltI (S.idx p l) 0) = l.any p := idx_any p l
theorem fm_third (g : DGraph) (hl : g.1.length < LF) : G_p_formed_11 LF g LF (Int.ofNat 0) = some ((if g.1.any (fun n => n.2.any fun v => !S.value v (Int.ofNat g.1.length)) then 2 else if g.2.any (fun v => !S.value v (Int.ofNat g.1.length) || !S.refers v) then 2 else 0), ()) := by
  refine (range1 (R := Rt_p_formed) g.1 (fun rest i => some ((if rest.any (fun n => n.2.any fun v => !S.value v (Int.ofNat g.1.length)) then 2 else if g.2.any (fun v => !S.value v (Int.ofNat g.1.length) || !S.refers v) then 2 else 0), ())) hl (fun K => ?_) (fun K i n rest r h => ?_))
  · simp only [R_p_formed_11, ilt_self, cond_false]
    rw [idxO_idx (l := g.2) (fun v : DVal => !S.value v (Int.ofNat g.1.length) || !S.refers v) fun v _ => ?_]
    · simp only [idx_any, cond_if, List.any_nil, Bool.not_eq_true', oL]
      simp only [idx_any0]
      cases h : (g.2.any fun v => !S.value v (Int.ofNat g.1.length) || !S.refers v) <;> rfl
    · simp only [S.refers, ieqI_eq, oL, cond_if]
      generalize S.value (v.1, v.2) (Int.ofNat g.1.length) = b
      by_cases h3 : v.1 = 3 <;> by_cases h4 : v.1 = 4 <;> cases b <;> simp [h3, h4]
  · simp only [R_p_formed_11, r.ilt, r.get, r.next, h, cond_true, Prod.eta]
    rw [idxO_idx (l := n.2) (fun v : DVal => !S.value v (Int.ofNat g.1.length)) fun v _ => rfl]
    simp only [idx_any]
    have e2 : (n :: rest).any (fun n => n.2.any fun v => !S.value v (Int.ofNat g.1.length)) = ((n.2.any fun v => !S.value v (Int.ofNat g.1.length)) || rest.any (fun n => n.2.any fun v => !S.value v (Int.ofNat g.1.length))) := rfl
    rw [e2]
    cases hb : (n.2.any fun v => !S.value v (Int.ofNat g.1.length)) with
    | true => rw [cond_true, Bool.true_or, if_pos rfl]; rfl
    | false => rw [cond_false, Bool.false_or]
theorem fm_second (g : DGraph) (hl : g.1.length < LF) : G_p_formed_4 LF g LF (Int.ofNat 0) = some ((if g.1.any (fun n => decide (30 < n.2.length)) then 3 else if g.1.any (fun n => n.2.any fun v => !S.value v (Int.ofNat g.1.length)) then 2 else if g.2.any (fun v => !S.value v (Int.ofNat g.1.length) || !S.refers v) then 2 else 0), ()) := by
  refine (range1 (R := Rt_p_formed) g.1 (fun rest i => some ((if rest.any (fun n => decide (30 < n.2.length)) then 3 else if g.1.any (fun n => n.2.any fun v => !S.value v (Int.ofNat g.1.length)) then 2 else if g.2.any (fun v => !S.value v (Int.ofNat g.1.length) || !S.refers v) then 2 else 0), ())) hl (fun K => ?_) (fun K i n rest r h => ?_))
  · simp only [R_p_formed_4, ilt_self, cond_false]
    exact fm_third g hl
  · have e : (iltI (Int.ofNat 30) (Int.ofNat n.2.length)) = decide (30 < n.2.length) := by
      rw [iltI_eq, Bool.eq_iff_iff]; simp only [decide_eq_true_eq]; exact Int.ofNat_lt
    simp only [R_p_formed_4, r.ilt, r.get, r.next, h, cond_true, e]
    have e2 : (n :: rest).any (fun n => decide (30 < n.2.length)) = (decide (30 < n.2.length) || rest.any (fun n => decide (30 < n.2.length))) := rfl
    rw [e2]
    by_cases hb : 30 < n.2.length
    · rw [decide_eq_true hb, cond_true, Bool.true_or, if_pos rfl]; rfl
    · rw [decide_eq_false hb, cond_false, Bool.false_or]
theorem ilt_nat (a b : Nat) : iltI (Int.ofNat a) (Int.ofNat b) = decide (a < b) := by
  rw [iltI_eq, Bool.eq_iff_iff]; simp only [decide_eq_true_eq]; exact Int.ofNat_lt
theorem F_p_formed_eq (g : DGraph) (hl : g.1.length < LF) : F_p_formed LF g = some (S.formed g, ()) := by
  simp only [F_p_formed, R_p_formed_in, S.formed, ilt_nat, cond_if]
  by_cases h1 : 400 < g.1.length
  · simp [h1, oL]
  by_cases h2 : 60 < g.2.length
  · simp [h1, h2, oL]
  rw [if_neg (by simpa using h1), if_neg (by simpa using h2), if_neg (by omega)]
  exact fm_second g hl
theorem con_p_formed : Con Try.prog id_p_formed sp_p_formed := mk_p_formed ⟨con_p_value, trivial⟩ fun x y hx h => ⟨LF, (F_p_formed_eq _ (wf_len hx.1.1)).trans h⟩
theorem F_p_suits_eq (lf : Nat) (g : DGraph) (c : DCol) (v : DVal) (h : S.refOK g v = true) : F_p_suits lf g c v = some (S.suits g c v, ()) := by
  simp only [F_p_suits, R_p_suits_in, S.suits, ieqI_eq, keqS, cond_if]
  have ea : S.lit [65, 78, 89] = S.ANY := rfl
  simp only [ea, oL, decide_eq_true_eq]
  by_cases h1 : c.2.1 = 1
  · simp [h1]
  by_cases h2 : c.2.1 = 2
  · simp [h2]
  by_cases h3 : v.1 = 3
  · simp [h1, h2, h3]
  by_cases h4 : v.1 = 4
  · unfold S.refOK at h
    obtain ⟨a, b⟩ := of_decide_eq_true h h4
    obtain ⟨x, e1, e2, e3⟩ := jget_of a b
    have e4 : S.at_ S.zNode g.1 v.2 = x := by unfold S.at_; rw [e2]; rfl
    rw [e1, e4]
    by_cases hA : c.2.2 = S.ANY <;> simp [h1, h2, h3, h4, hA]
  · simp [h1, h2, h3, h4]
theorem con_p_suits : Con Try.prog id_p_suits sp_p_suits := mk_p_suits trivial fun x y hx h => ⟨0, by
  have h : cond (S.refOK x.1 x.2.2.1) (some (S.suits x.1 x.2.1 x.2.2.1, ())) none = some y := h
  cases hr : S.refOK x.1 x.2.2.1 with
  | false => rw [hr] at h; cases h
  | true => rw [hr] at h; exact (F_p_suits_eq _ _ _ _ hr).trans h⟩
theorem ieq_nat (a b : Nat) : ieqI (Int.ofNat a) (Int.ofNat b) = decide (a = b) := by
  rw [ieqI_eq, Bool.eq_iff_iff]; simp only [decide_eq_true_eq]; exact Int.ofNat_inj
theorem ty_inner (l : List DForm) (g : DGraph) (K2 : Int → Option Rt_p_typed) (nm : ByteArray) (vs : List DVal) (hv : ∀ v ∈ vs, S.refOK g v = true) (cs : List DCol) (hc : cs.length < LF) (hlen : vs.length = cs.length) (i : Nat) :
    G_p_typed_8 LF l g K2 LF (vs, cs, nm, Int.ofNat 0, Int.ofNat i) = if S.suitsAll g cs vs = true then K2 (IntKind.i64.wrap (Int.add (Int.ofNat i) (Int.ofNat 1))) else some (false, ()) := by
  refine range0 (σ := Unit) (R := Rt_p_typed) cs (fun k _ => (vs, cs, nm, k, Int.ofNat i)) (fun _ _ => True) (fun rest k _ => if S.suitsAll g rest (vs.drop k) = true then K2 (IntKind.i64.wrap (Int.add (Int.ofNat i) (Int.ofNat 1))) else some (false, ())) hc (fun K s _ => ?_) (fun K k c rest s _ r h => ?_) () trivial
  · simp only [R_p_typed_8, ilt_self, cond_false, S.suitsAll]; rfl
  · have h := h () trivial
    have hk : k < vs.length := by rw [hlen]; exact r.lt
    have hj : jget vs (Int.ofNat k) = some vs[k] := by rw [jget_nat]; exact List.getElem?_eq_getElem hk
    have hr := hv _ (List.getElem_mem hk)
    rw [List.drop_eq_getElem_cons hk, S.suitsAll]
    simp only [R_p_typed_8, r.ilt, r.get, r.next, h, cond_true, hj, Prod.eta, hr]
    cases S.suits g c vs[k] <;> simp
theorem F_p_typed_eq (l : List DForm) (g : DGraph) (hl : g.1.length < LF) (hw : ∀ f ∈ l, f.2.length < LF) (hp : S.typedPre l g = true) : F_p_typed LF l g = some (S.typed l g g.1, ()) := by
  show G_p_typed_2 LF l g LF (Int.ofNat 0) = _
  refine range1 (R := Rt_p_typed) g.1 (fun rest i => some (S.typed l g rest, ())) hl (fun K => ?_) (fun K i n rest r h => ?_)
  · simp only [R_p_typed_2, ilt_self, cond_false, S.typed]
  · unfold S.typedPre at hp
    have hn := List.all_eq_true.1 hp n r.mem
    simp only [Bool.and_eq_true, decide_eq_true_eq] at hn
    obtain ⟨f, f1, f2, f3, f4, f5, f6⟩ := S.idx_get (p := fun f : DForm => keqS f.1 n.1) (l := l) hn.1
    have f1' : jget l (S.form l n.1) = some f := f1
    have hc : S.colsOf l n.1 = f.2 := by
      unfold S.colsOf S.at_ S.form
      rw [f2]; rfl
    simp only [R_p_typed_2, r.ilt, r.get, f1', cond_true, ieq_nat]
    rw [S.typed, hc]
    by_cases hlen : n.2.length = f.2.length
    · rw [if_pos hlen, decide_eq_true hlen, Bool.not_true, cond_false]
      refine (ty_inner l g K n.1 n.2 (List.all_eq_true.1 hn.2) f.2 (hw f f4) hlen i).trans ?_
      rw [r.next, h]
      split <;> rfl
    · rw [if_neg hlen, decide_eq_false hlen, Bool.not_false, cond_true]
theorem con_p_typed : Con Try.prog id_p_typed sp_p_typed := mk_p_typed ⟨con_p_form, con_p_suits, trivial⟩ fun x y hx h => ⟨LF, by
  have h : cond (S.typedPre x.1 x.2.1) (some (S.typed x.1 x.2.1 x.2.1.1, ())) none = some y := h
  cases hr : S.typedPre x.1 x.2.1 with
  | false => rw [hr] at h; cases h
  | true => rw [hr] at h; exact (F_p_typed_eq _ _ (wf_len hx.2.1.1) (fun f hf => wf_len (hx.1.2 f hf).2) hr).trans h⟩
theorem refOK_of_value {g : DGraph} {v : DVal} (hl : g.1.length < LF) (h : S.value v (Int.ofNat g.1.length) = true) : S.refOK g v = true := by
  unfold S.refOK
  refine decide_eq_true fun h4 => ?_
  unfold S.value at h
  have hw : IntKind.i64.wrap (Int.sub (Int.ofNat g.1.length) (Int.ofNat 1)) = (g.1.length : Int) - 1 := wrap64_in (by
    unfold LF at hl
    show -9223372036854775808 ≤ (g.1.length : Int) - 1 ∧ (g.1.length : Int) - 1 < 9223372036854775808
    omega)
  rw [hw] at h
  simp [h4, S.within] at h
  omega
theorem formed_zero {g : DGraph} (h : S.formed g = 0) : g.1.length ≤ 400 ∧ g.2.length ≤ 60 ∧ (∀ n ∈ g.1, n.2.length ≤ 30) ∧ (∀ n ∈ g.1, ∀ v ∈ n.2, S.value v (Int.ofNat g.1.length) = true) ∧ ∀ v ∈ g.2, S.value v (Int.ofNat g.1.length) = true ∧ S.refers v = true := by
  unfold S.formed at h
  split at h
  · cases h
  split at h
  · cases h
  split at h
  · cases h
  split at h
  · cases h
  rename_i h1 h2 h3 h4
  simp only [List.any_eq_true, not_exists, not_and, decide_eq_true_eq, Bool.not_eq_true', Bool.not_eq_false, Bool.or_eq_true, not_or] at h2 h3 h4
  exact ⟨by omega, by omega, fun n hn => by have := h2 n hn; omega, fun n hn v hv => h3 n hn v hv, fun v hv => h4 v hv⟩
theorem ne_zero (a : Int) : (!ieqI a (Int.ofNat 0)) = decide (¬ a = 0) := by
  rw [ieqI_eq, Bool.eq_iff_iff]; simp [oL]
theorem check_pre {l : List DForm} {g : DGraph} (hl : g.1.length < LF) (h0 : S.formed g = 0) (hb : g.1.any (fun n => decide (S.form l n.1 < 0)) = false) : S.typedPre l g = true := by
  obtain ⟨_, _, _, hv, _⟩ := formed_zero h0
  unfold S.typedPre
  rw [List.all_eq_true]
  intro n hn
  simp only [Bool.and_eq_true, decide_eq_true_eq, List.all_eq_true]
  rw [List.any_eq_false] at hb
  have := hb n hn
  simp only [decide_eq_true_eq] at this
  exact ⟨by omega, fun v hv2 => refOK_of_value hl (hv n hn v hv2)⟩
theorem F_p_check_eq (lf : Nat) (l : List DForm) (g : DGraph) (hl : g.1.length < LF) : F_p_check lf l g = some (S.check l g, ()) := by
  simp only [F_p_check, R_p_check_in, S.check, Prod.eta, ne_zero]
  by_cases h0 : S.formed g = 0
  · rw [decide_eq_false (by simpa using h0), cond_false, if_neg (by simpa using h0)]
    rw [idxO_idx (l := g.1) (fun n : DNode => decide (S.form l n.1 < 0)) fun v _ => by rw [iltI_eq]; rfl]
    simp only [idx_any]
    cases hb : g.1.any (fun n => decide (S.form l n.1 < 0)) with
    | true => rw [cond_true, if_pos rfl]; rfl
    | false =>
      rw [check_pre hl h0 hb, cond_false, if_neg (by simp)]
      simp only [cond_true, S.unlessE]
      cases S.typed l g g.1 <;> rfl
  · rw [decide_eq_true (by simpa using h0), cond_true, if_pos (by simpa using h0)]
theorem con_p_check : Con Try.prog id_p_check sp_p_check := mk_p_check ⟨con_p_formed, con_p_form, con_p_typed, trivial⟩ fun x y hx h => ⟨LF, (F_p_check_eq _ _ _ (wf_len hx.2.1.1)).trans h⟩
theorem F_p_Check_eq (lf : Nat) (l : List DForm) (g : DGraph) : F_p_Check lf l g = some (S.checkG l g, ()) := by
  simp only [F_p_Check, R_p_Check_in, S.checkG, Prod.eta, ne_zero]
  by_cases h0 : S.checkForms l = 0
  · rw [decide_eq_false (by simpa using h0), cond_false, if_neg (by simpa using h0)]
  · rw [decide_eq_true (by simpa using h0), cond_true, if_pos (by simpa using h0)]
theorem con_p_Check : Con Try.prog id_p_Check sp_p_Check := mk_p_Check ⟨con_p_CheckForms, con_p_check, trivial⟩ fun x y hx h => ⟨LF, (F_p_Check_eq _ _ _).trans h⟩
end Go.Proofs.Ytcnhjofpmpipfaa
end

/- Made by program: plain forms of functions. -/
section
set_option linter.unusedVariables false
set_option maxRecDepth 100000
noncomputable section
namespace Go.Proofs.Ytcnhjofpmpipfaa
open Go Go.Sx Go.RowKit Go.Jx
def nm_p_leads : Nat → Option Nm := fun k => none
def st_p_leads : Nat → Bool := fun k => false
def hd_p_leads : Nat → Bool := fun k => false
abbrev Rt_p_leads : Type := Bool × Unit
def sml_p_leads : List (Nat × Sm) := [(75, sp_p_ruleOf)]
def hxl_p_leads : List (Nat × Hx) := []
def cl_p_leads (R : Type) (lf : Nat) : ClK R := icallK Try.prog ttT.get ftT.get (nm1 139 nm_p_leads) (smL sml_p_leads) (hxL hxl_p_leads) lf 20 R
abbrev id_p_leads : Nat := 139
def R_p_leads_in (lf : Nat) (x1 : (List DRule)) (x2 : ByteArray) (x3 : ByteArray) : Option Rt_p_leads := (cond (keqS x3 (S.lit [65, 78, 89])) (some (Bool.true, ())) (cond (Go.Proofs.Ytcnhjofpmpipfaa.S.ruleOf x1 x2).2 (some ((keqS (Go.Proofs.Ytcnhjofpmpipfaa.S.ruleOf x1 x2).1.2.1 x3), ())) (some (Bool.false, ()))))
theorem in_p_leads (g : ElA [(.list cRule), .str, .str] → Option Rt_p_leads) (J : Nat → List Nat → NRes → Option Rt_p_leads) (lf : Nat) (x1 : (List DRule)) (x2 : ByteArray) (x3 : ByteArray) : icodeT Try.prog ttT.get nm_p_leads fi139.nt (cl_p_leads _ lf) lf st_p_leads J fi139.body [] (argGo (argV [(.list cRule), .str, .str] (x1, x2, x3, ())) 0 .leaf) S0 [] (lastK ttT.get fi139 ⟨[(.list cRule), .str, .str], [(false, .bool)], g⟩) = R_p_leads_in lf x1 x2 x3 := by kernel_rfl
theorem nd_p_leads : (regs fi139.body).Nodup := by decide +kernel
theorem ok_p_leads : okC nm_p_leads st_p_leads hd_p_leads fi139.body none = true := by kernel_rfl
def A_p_leads (g : ElA [(.list cRule), .str, .str] → Option Rt_p_leads) (lf : Nat) : Nat → List Nat → NRes → Option Rt_p_leads := atN Try.prog ttT.get nm_p_leads fi139 ⟨[(.list cRule), .str, .str], [(false, .bool)], g⟩ (cl_p_leads _ lf) lf hd_p_leads
def F_p_leads (lf : Nat) (x1 : (List DRule)) (x2 : ByteArray) (x3 : ByteArray) : Option Rt_p_leads := R_p_leads_in lf x1 x2 x3
theorem run_p_leads (g : ElA [(.list cRule), .str, .str] → Option Rt_p_leads) (lf : Nat) (x1 : (List DRule)) (x2 : ByteArray) (x3 : ByteArray) : icodeT Try.prog ttT.get nm_p_leads fi139.nt (cl_p_leads _ lf) lf st_p_leads (A_p_leads g lf) fi139.body [] (argGo (argV [(.list cRule), .str, .str] (x1, x2, x3, ())) 0 .leaf) S0 [] (lastK ttT.get fi139 ⟨[(.list cRule), .str, .str], [(false, .bool)], g⟩) = F_p_leads lf x1 x2 x3 := by
    refine (in_p_leads g (A_p_leads g lf) lf x1 x2 x3).trans ?_
    rfl
theorem hxs_p_leads : HxsOK Try.prog hxl_p_leads := trivial
theorem mk_p_leads {g : ElA [(.list cRule), .str, .str] → Option Rt_p_leads} (hsm : SmOK Try.prog sml_p_leads) (hg : ∀ (x : ElA [(.list cRule), .str, .str]) (y : Rt_p_leads), WfA [(.list cRule), .str, .str] x → g x = some y → ∃ lf, F_p_leads lf x.1 x.2.1 x.2.2.1 = some y) : Con Try.prog 139 ⟨[(.list cRule), .str, .str], [(false, .bool)], g⟩ :=
  conT (nmf := nm_p_leads) (sml := sml_p_leads) (hxl := hxl_p_leads) (st := st_p_leads) (hd := hd_p_leads) 20 mixed ttOK ftOK hsm hxs_p_leads cal139 rfl rfl (by kernel_rfl) (fun x => by kernel_rfl) nd_p_leads ok_p_leads fun x y hx hy => by
    obtain ⟨lf, h⟩ := hg x y hx hy
    exact ⟨lf, (run_p_leads g lf x.1 x.2.1 x.2.2.1).trans h⟩
def nm_p_fits : Nat → Option Nm := fun k => none
def st_p_fits : Nat → Bool := fun k => false
def hd_p_fits : Nat → Bool := fun k => false
abbrev Rt_p_fits : Type := Bool × Unit
def sml_p_fits : List (Nat × Sm) := [(83, sp_p_within), (139, sp_p_leads)]
def hxl_p_fits : List (Nat × Hx) := []
def cl_p_fits (R : Type) (lf : Nat) : ClK R := icallK Try.prog ttT.get ftT.get (nm1 138 nm_p_fits) (smL sml_p_fits) (hxL hxl_p_fits) lf 20 R
abbrev id_p_fits : Nat := 138
def R_p_fits_in (lf : Nat) (x1 : (List DRule)) (x2 : DGive) (x3 : DCol) (x4 : DCol) : Option Rt_p_fits := (cond (ieqI x2.2.1 (Int.ofNat 1)) (cond (ieqI x3.2.1 x4.2.1) (cond (Bool.not (ieqI x3.2.1 (Int.ofNat 3))) (some (Bool.true, ())) (some ((Go.Proofs.Ytcnhjofpmpipfaa.S.leads x1 x3.2.2 x4.2.2), ()))) (some (Bool.false, ()))) (cond (ieqI x2.2.1 (Int.ofNat 2)) (cond (ieqI x3.2.1 (Int.ofNat 2)) (some ((ieqI x4.2.1 (Int.ofNat 1)), ())) (some (Bool.false, ()))) (cond (ieqI x2.2.1 (Int.ofNat 3)) (cond (ieqI x3.2.1 (Int.ofNat 1)) (some ((ieqI x4.2.1 (Int.ofNat 2)), ())) (some (Bool.false, ()))) (cond (ieqI x2.2.1 (Int.ofNat 4)) (cond (ieqI x3.2.1 (Int.ofNat 1)) (some ((ieqI x4.2.1 (Int.ofNat 1)), ())) (some (Bool.false, ()))) (cond (ieqI x2.2.1 (Int.ofNat 5)) (cond (ieqI x3.2.1 (Int.ofNat 3)) (cond (ieqI x4.2.1 (Int.ofNat 3)) (some ((Go.Proofs.Ytcnhjofpmpipfaa.S.leads x1 x3.2.2 x4.2.2), ())) (some (Bool.false, ()))) (some (Bool.false, ()))) (cond (ieqI x2.2.1 (Int.ofNat 6)) (cond (ieqI x4.2.1 (Int.ofNat 1)) (some (Bool.true, ())) (cond (ieqI x4.2.1 (Int.ofNat 2)) (some ((Go.Proofs.Ytcnhjofpmpipfaa.S.within x2.2.2 (Int.ofNat 0) (Int.ofNat 1)), ())) (some (Bool.false, ())))) (some ((ieqI x4.2.1 (Int.ofNat 3)), ()))))))))
theorem in_p_fits (g : ElA [(.list cRule), cGive, cCol, cCol] → Option Rt_p_fits) (J : Nat → List Nat → NRes → Option Rt_p_fits) (lf : Nat) (x1 : (List DRule)) (x2 : DGive) (x3 : DCol) (x4 : DCol) : icodeT Try.prog ttT.get nm_p_fits fi138.nt (cl_p_fits _ lf) lf st_p_fits J fi138.body [] (argGo (argV [(.list cRule), cGive, cCol, cCol] (x1, x2, x3, x4, ())) 0 .leaf) S0 [] (lastK ttT.get fi138 ⟨[(.list cRule), cGive, cCol, cCol], [(false, .bool)], g⟩) = R_p_fits_in lf x1 x2 x3 x4 := by kernel_rfl
theorem nd_p_fits : (regs fi138.body).Nodup := by decide +kernel
theorem ok_p_fits : okC nm_p_fits st_p_fits hd_p_fits fi138.body none = true := by kernel_rfl
def A_p_fits (g : ElA [(.list cRule), cGive, cCol, cCol] → Option Rt_p_fits) (lf : Nat) : Nat → List Nat → NRes → Option Rt_p_fits := atN Try.prog ttT.get nm_p_fits fi138 ⟨[(.list cRule), cGive, cCol, cCol], [(false, .bool)], g⟩ (cl_p_fits _ lf) lf hd_p_fits
def F_p_fits (lf : Nat) (x1 : (List DRule)) (x2 : DGive) (x3 : DCol) (x4 : DCol) : Option Rt_p_fits := R_p_fits_in lf x1 x2 x3 x4
theorem run_p_fits (g : ElA [(.list cRule), cGive, cCol, cCol] → Option Rt_p_fits) (lf : Nat) (x1 : (List DRule)) (x2 : DGive) (x3 : DCol) (x4 : DCol) : icodeT Try.prog ttT.get nm_p_fits fi138.nt (cl_p_fits _ lf) lf st_p_fits (A_p_fits g lf) fi138.body [] (argGo (argV [(.list cRule), cGive, cCol, cCol] (x1, x2, x3, x4, ())) 0 .leaf) S0 [] (lastK ttT.get fi138 ⟨[(.list cRule), cGive, cCol, cCol], [(false, .bool)], g⟩) = F_p_fits lf x1 x2 x3 x4 := by
    refine (in_p_fits g (A_p_fits g lf) lf x1 x2 x3 x4).trans ?_
    rfl
theorem hxs_p_fits : HxsOK Try.prog hxl_p_fits := trivial
theorem mk_p_fits {g : ElA [(.list cRule), cGive, cCol, cCol] → Option Rt_p_fits} (hsm : SmOK Try.prog sml_p_fits) (hg : ∀ (x : ElA [(.list cRule), cGive, cCol, cCol]) (y : Rt_p_fits), WfA [(.list cRule), cGive, cCol, cCol] x → g x = some y → ∃ lf, F_p_fits lf x.1 x.2.1 x.2.2.1 x.2.2.2.1 = some y) : Con Try.prog 138 ⟨[(.list cRule), cGive, cCol, cCol], [(false, .bool)], g⟩ :=
  conT (nmf := nm_p_fits) (sml := sml_p_fits) (hxl := hxl_p_fits) (st := st_p_fits) (hd := hd_p_fits) 20 mixed ttOK ftOK hsm hxs_p_fits cal138 rfl rfl (by kernel_rfl) (fun x => by kernel_rfl) nd_p_fits ok_p_fits fun x y hx hy => by
    obtain ⟨lf, h⟩ := hg x y hx hy
    exact ⟨lf, (run_p_fits g lf x.1 x.2.1 x.2.2.1 x.2.2.2.1).trans h⟩
def nm_p_give : Nat → Option Nm := fun k => cond (Nat.beq k 8) (some ⟨[0, 2, 5, 7, 9, 10, 11], [], [], [], [], 0, 0, false⟩) (cond (Nat.beq k 11) (some ⟨[0, 2, 5, 7, 9, 10, 12], [], [], [], [], 0, 0, false⟩) (cond (Nat.beq k 13) (some ⟨[0, 5, 7, 12], [], [], [], [], 0, 0, false⟩) (none)))
def st_p_give : Nat → Bool := fun k => cond (Nat.beq k 8) true (cond (Nat.beq k 11) true (cond (Nat.beq k 13) true (false)))
def hd_p_give : Nat → Bool := fun k => false
abbrev Rt_p_give : Type := Int × Unit
def sml_p_give : List (Nat × Sm) := [(95, sp_p_col), (83, sp_p_within), (138, sp_p_fits)]
def hxl_p_give : List (Nat × Hx) := []
def cl_p_give (R : Type) (lf : Nat) : ClK R := icallK Try.prog ttT.get ftT.get (nm1 113 nm_p_give) (smL sml_p_give) (hxL hxl_p_give) lf 20 R
abbrev id_p_give : Nat := 113
def enc_p_give_8 (x1 : (List DRule)) (x2 : DGive) (x3 : (List DCol)) (x4 : DCol) (p : Int) : NRes := (NRes.mk (PT.node (some (IV.lst cRule x1)) (PT.node none (PT.node none (PT.node (some (IV.ptr 1 0)) PT.leaf PT.leaf) (PT.node (some (IV.int Go.IntKind.i64 p)) PT.leaf PT.leaf)) (PT.node (some (IV.ptr 0 0)) (PT.node (some (IV.int Go.IntKind.i64 (Go.Proofs.Ytcnhjofpmpipfaa.S.col x3 x2.1))) PT.leaf PT.leaf) PT.leaf)) (PT.node (some (IV.lst cCol x3)) PT.leaf (PT.node none (PT.node (some (IV.bool (Go.Proofs.Ytcnhjofpmpipfaa.S.within x2.2.1 (Int.ofNat 1) (Int.ofNat 5)))) PT.leaf PT.leaf) PT.leaf))) (IS.mk (PT.node (some (IObj.row (List.cons (IV.str x2.1) (List.cons (IV.int Go.IntKind.i64 x2.2.1) (List.cons (IV.int Go.IntKind.i64 x2.2.2) []))))) (PT.node (some (IObj.row (List.cons (IV.str x4.1) (List.cons (IV.int Go.IntKind.i64 x4.2.1) (List.cons (IV.str x4.2.2) []))))) PT.leaf PT.leaf) PT.leaf) 2) [] 0)
def enc_p_give_11 (x1 : (List DRule)) (x2 : DGive) (x3 : (List DCol)) (x4 : DCol) (p : Unit) : NRes := (NRes.mk (PT.node (some (IV.lst cRule x1)) (PT.node none (PT.node none (PT.node (some (IV.ptr 1 0)) PT.leaf PT.leaf) PT.leaf) (PT.node (some (IV.ptr 0 0)) (PT.node (some (IV.int Go.IntKind.i64 (Go.Proofs.Ytcnhjofpmpipfaa.S.col x3 x2.1))) PT.leaf PT.leaf) PT.leaf)) (PT.node (some (IV.lst cCol x3)) (PT.node none PT.leaf (PT.node (some (IV.ptr 2 0)) PT.leaf PT.leaf)) (PT.node none (PT.node (some (IV.bool (Go.Proofs.Ytcnhjofpmpipfaa.S.within x2.2.1 (Int.ofNat 1) (Int.ofNat 5)))) PT.leaf PT.leaf) PT.leaf))) (IS.mk (PT.node (some (IObj.row (List.cons (IV.str x2.1) (List.cons (IV.int Go.IntKind.i64 x2.2.1) (List.cons (IV.int Go.IntKind.i64 x2.2.2) []))))) (PT.node (some (IObj.row (List.cons (IV.str x4.1) (List.cons (IV.int Go.IntKind.i64 x4.2.1) (List.cons (IV.str x4.2.2) []))))) PT.leaf PT.leaf) (PT.node (some (IObj.row (List.cons (IV.str (S.lit [])) (List.cons (IV.int Go.IntKind.i64 (Int.ofNat 0)) (List.cons (IV.str (S.lit [])) []))))) PT.leaf PT.leaf)) 3) [] 0)
def enc_p_give_13 (x1 : (List DRule)) (x2 : DGive) (x3 : (List DCol)) (x4 : DCol) (p : ByteArray × Int × ByteArray) : NRes := (NRes.mk (PT.node (some (IV.lst cRule x1)) (PT.node none (PT.node none (PT.node (some (IV.ptr 1 0)) PT.leaf PT.leaf) PT.leaf) (PT.node (some (IV.ptr 0 0)) PT.leaf PT.leaf)) (PT.node none (PT.node none PT.leaf (PT.node (some (IV.ptr 2 0)) PT.leaf PT.leaf)) PT.leaf)) (IS.mk (PT.node (some (IObj.row (List.cons (IV.str x2.1) (List.cons (IV.int Go.IntKind.i64 x2.2.1) (List.cons (IV.int Go.IntKind.i64 x2.2.2) []))))) (PT.node (some (IObj.row (List.cons (IV.str x4.1) (List.cons (IV.int Go.IntKind.i64 x4.2.1) (List.cons (IV.str x4.2.2) []))))) PT.leaf PT.leaf) (PT.node (some (IObj.row (List.cons (IV.str p.1) (List.cons (IV.int Go.IntKind.i64 p.2.1) (List.cons (IV.str p.2.2) []))))) PT.leaf PT.leaf)) 3) [] 0)
def R_p_give_in (lf : Nat) (x1 : (List DRule)) (x2 : DGive) (x3 : (List DCol)) (x4 : DCol) (L8 : Int → Option Rt_p_give) : Option Rt_p_give := (cond (Go.Proofs.Ytcnhjofpmpipfaa.S.within x2.2.1 (Int.ofNat 1) (Int.ofNat 5)) (cond (iltI (Go.Proofs.Ytcnhjofpmpipfaa.S.col x3 x2.1) (Int.ofNat 0)) (some ((Int.ofNat 4), ())) (cond (ieqI x2.2.1 (Int.ofNat 4)) (L8 (Int.ofNat 1099511627776)) (cond (ieqI x2.2.1 (Int.ofNat 6)) (L8 (Int.ofNat 1099511627776)) (L8 (Int.ofNat 0))))) (cond (ieqI x2.2.1 (Int.ofNat 4)) (L8 (Int.ofNat 1099511627776)) (cond (ieqI x2.2.1 (Int.ofNat 6)) (L8 (Int.ofNat 1099511627776)) (L8 (Int.ofNat 0)))))
def R_p_give_8 (lf : Nat) (x1 : (List DRule)) (x2 : DGive) (x3 : (List DCol)) (x4 : DCol) (L11 : Unit → Option Rt_p_give) (p : Int) : Option Rt_p_give := (cond (Bool.not (Go.Proofs.Ytcnhjofpmpipfaa.S.within x2.2.1 (Int.ofNat 1) (Int.ofNat 7))) (some ((Int.ofNat 1), ())) (cond (Bool.not (Go.Proofs.Ytcnhjofpmpipfaa.S.within x2.2.1 (Int.ofNat 1) (Int.ofNat 5))) (cond (Bool.not (keqS x2.1 (S.lit []))) (some ((Int.ofNat 1), ())) (cond (Bool.not (Go.Proofs.Ytcnhjofpmpipfaa.S.within x2.2.2 (Go.IntKind.wrap Go.IntKind.i64 (Int.sub (Int.ofNat 0) p)) p)) (some ((Int.ofNat 1), ())) (cond (ieqI x2.2.1 (Int.ofNat 6)) (cond (ieqI x4.2.1 (Int.ofNat 2)) (cond (Bool.not (Go.Proofs.Ytcnhjofpmpipfaa.S.within x2.2.2 (Int.ofNat 0) (Int.ofNat 1))) (some ((Int.ofNat 1), ())) (L11 ())) (L11 ())) (L11 ())))) (cond (Bool.not (Go.Proofs.Ytcnhjofpmpipfaa.S.within x2.2.2 (Go.IntKind.wrap Go.IntKind.i64 (Int.sub (Int.ofNat 0) p)) p)) (some ((Int.ofNat 1), ())) (cond (ieqI x2.2.1 (Int.ofNat 6)) (cond (ieqI x4.2.1 (Int.ofNat 2)) (cond (Bool.not (Go.Proofs.Ytcnhjofpmpipfaa.S.within x2.2.2 (Int.ofNat 0) (Int.ofNat 1))) (some ((Int.ofNat 1), ())) (L11 ())) (L11 ())) (L11 ())))))
def R_p_give_11 (lf : Nat) (x1 : (List DRule)) (x2 : DGive) (x3 : (List DCol)) (x4 : DCol) (L13 : (ByteArray × Int × ByteArray) → Option Rt_p_give) (p : Unit) : Option Rt_p_give := (cond (Go.Proofs.Ytcnhjofpmpipfaa.S.within x2.2.1 (Int.ofNat 1) (Int.ofNat 5)) (match (jget x3 (Go.Proofs.Ytcnhjofpmpipfaa.S.col x3 x2.1)) with | .none  => none | .some v0 => (L13 (v0.1, v0.2.1, v0.2.2))) (L13 ((S.lit []), (Int.ofNat 0), (S.lit []))))
def R_p_give_13 (lf : Nat) (x1 : (List DRule)) (x2 : DGive) (x3 : (List DCol)) (x4 : DCol) (p : ByteArray × Int × ByteArray) : Option Rt_p_give := (cond (Go.Proofs.Ytcnhjofpmpipfaa.S.fits x1 (x2.1, (x2.2.1, x2.2.2)) (p.1, (p.2.1, p.2.2)) (x4.1, (x4.2.1, x4.2.2))) (some ((Int.ofNat 0), ())) (some ((Int.ofNat 8), ())))
theorem in_p_give (g : ElA [(.list cRule), cGive, (.list cCol), cCol] → Option Rt_p_give) (J : Nat → List Nat → NRes → Option Rt_p_give) (lf : Nat) (x1 : (List DRule)) (x2 : DGive) (x3 : (List DCol)) (x4 : DCol) : icodeT Try.prog ttT.get nm_p_give fi113.nt (cl_p_give _ lf) lf st_p_give J fi113.body [] (argGo (argV [(.list cRule), cGive, (.list cCol), cCol] (x1, x2, x3, x4, ())) 0 .leaf) S0 [] (lastK ttT.get fi113 ⟨[(.list cRule), cGive, (.list cCol), cCol], [(false, (.int .i64))], g⟩) = R_p_give_in lf x1 x2 x3 x4 (fun q => J 8 [] (enc_p_give_8 x1 x2 x3 x4 q)) := by kernel_rfl
theorem st_p_give_8 (g : ElA [(.list cRule), cGive, (.list cCol), cCol] → Option Rt_p_give) (J : Nat → List Nat → NRes → Option Rt_p_give) (lf : Nat) (x1 : (List DRule)) (x2 : DGive) (x3 : (List DCol)) (x4 : DCol) (p : Int) : icodeFT Try.prog ttT.get nm_p_give fi113.nt (cl_p_give _ lf) lf st_p_give J 8 fi113.body [] [] (enc_p_give_8 x1 x2 x3 x4 p) (lastK ttT.get fi113 ⟨[(.list cRule), cGive, (.list cCol), cCol], [(false, (.int .i64))], g⟩) = R_p_give_8 lf x1 x2 x3 x4 (fun q => J 11 [] (enc_p_give_11 x1 x2 x3 x4 q)) p := by kernel_rfl
theorem st_p_give_11 (g : ElA [(.list cRule), cGive, (.list cCol), cCol] → Option Rt_p_give) (J : Nat → List Nat → NRes → Option Rt_p_give) (lf : Nat) (x1 : (List DRule)) (x2 : DGive) (x3 : (List DCol)) (x4 : DCol) (p : Unit) : icodeFT Try.prog ttT.get nm_p_give fi113.nt (cl_p_give _ lf) lf st_p_give J 11 fi113.body [] [] (enc_p_give_11 x1 x2 x3 x4 p) (lastK ttT.get fi113 ⟨[(.list cRule), cGive, (.list cCol), cCol], [(false, (.int .i64))], g⟩) = R_p_give_11 lf x1 x2 x3 x4 (fun q => J 13 [] (enc_p_give_13 x1 x2 x3 x4 q)) p := by kernel_rfl
theorem st_p_give_13 (g : ElA [(.list cRule), cGive, (.list cCol), cCol] → Option Rt_p_give) (J : Nat → List Nat → NRes → Option Rt_p_give) (lf : Nat) (x1 : (List DRule)) (x2 : DGive) (x3 : (List DCol)) (x4 : DCol) (p : ByteArray × Int × ByteArray) : icodeFT Try.prog ttT.get nm_p_give fi113.nt (cl_p_give _ lf) lf st_p_give J 13 fi113.body [] [] (enc_p_give_13 x1 x2 x3 x4 p) (lastK ttT.get fi113 ⟨[(.list cRule), cGive, (.list cCol), cCol], [(false, (.int .i64))], g⟩) = R_p_give_13 lf x1 x2 x3 x4 p := by kernel_rfl
theorem nd_p_give : (regs fi113.body).Nodup := by decide +kernel
theorem ok_p_give : okC nm_p_give st_p_give hd_p_give fi113.body none = true := by kernel_rfl
def A_p_give (g : ElA [(.list cRule), cGive, (.list cCol), cCol] → Option Rt_p_give) (lf : Nat) : Nat → List Nat → NRes → Option Rt_p_give := atN Try.prog ttT.get nm_p_give fi113 ⟨[(.list cRule), cGive, (.list cCol), cCol], [(false, (.int .i64))], g⟩ (cl_p_give _ lf) lf hd_p_give
def G_p_give_13 (lf : Nat) (x1 : (List DRule)) (x2 : DGive) (x3 : (List DCol)) (x4 : DCol) (p : ByteArray × Int × ByteArray) : Option Rt_p_give := R_p_give_13 lf x1 x2 x3 x4 p
theorem at_p_give_13 (g : ElA [(.list cRule), cGive, (.list cCol), cCol] → Option Rt_p_give) (lf : Nat) (x1 : (List DRule)) (x2 : DGive) (x3 : (List DCol)) (x4 : DCol) (p : ByteArray × Int × ByteArray) : A_p_give g lf 13 [] (enc_p_give_13 x1 x2 x3 x4 p) = G_p_give_13 lf x1 x2 x3 x4 p := by
    refine (atN_eq (icallK_eq 20 _) nd_p_give ok_p_give 13 [] [] rfl _).trans ((st_p_give_13 g (A_p_give g lf) lf x1 x2 x3 x4 p).trans ?_)
    rfl
def G_p_give_11 (lf : Nat) (x1 : (List DRule)) (x2 : DGive) (x3 : (List DCol)) (x4 : DCol) (p : Unit) : Option Rt_p_give := R_p_give_11 lf x1 x2 x3 x4 (fun q => G_p_give_13 lf x1 x2 x3 x4 q) p
theorem at_p_give_11 (g : ElA [(.list cRule), cGive, (.list cCol), cCol] → Option Rt_p_give) (lf : Nat) (x1 : (List DRule)) (x2 : DGive) (x3 : (List DCol)) (x4 : DCol) (p : Unit) : A_p_give g lf 11 [] (enc_p_give_11 x1 x2 x3 x4 p) = G_p_give_11 lf x1 x2 x3 x4 p := by
    refine (atN_eq (icallK_eq 20 _) nd_p_give ok_p_give 11 [] [] rfl _).trans ((st_p_give_11 g (A_p_give g lf) lf x1 x2 x3 x4 p).trans ?_)
    rw [(show (fun q => A_p_give g lf 13 [] (enc_p_give_13 x1 x2 x3 x4 q)) = (fun q => G_p_give_13 lf x1 x2 x3 x4 q) from funext fun q => at_p_give_13 g lf x1 x2 x3 x4 q)]
    rfl
def G_p_give_8 (lf : Nat) (x1 : (List DRule)) (x2 : DGive) (x3 : (List DCol)) (x4 : DCol) (p : Int) : Option Rt_p_give := R_p_give_8 lf x1 x2 x3 x4 (fun q => G_p_give_11 lf x1 x2 x3 x4 q) p
theorem at_p_give_8 (g : ElA [(.list cRule), cGive, (.list cCol), cCol] → Option Rt_p_give) (lf : Nat) (x1 : (List DRule)) (x2 : DGive) (x3 : (List DCol)) (x4 : DCol) (p : Int) : A_p_give g lf 8 [] (enc_p_give_8 x1 x2 x3 x4 p) = G_p_give_8 lf x1 x2 x3 x4 p := by
    refine (atN_eq (icallK_eq 20 _) nd_p_give ok_p_give 8 [] [] rfl _).trans ((st_p_give_8 g (A_p_give g lf) lf x1 x2 x3 x4 p).trans ?_)
    rw [(show (fun q => A_p_give g lf 11 [] (enc_p_give_11 x1 x2 x3 x4 q)) = (fun q => G_p_give_11 lf x1 x2 x3 x4 q) from funext fun q => at_p_give_11 g lf x1 x2 x3 x4 q)]
    rfl
def F_p_give (lf : Nat) (x1 : (List DRule)) (x2 : DGive) (x3 : (List DCol)) (x4 : DCol) : Option Rt_p_give := R_p_give_in lf x1 x2 x3 x4 (fun q => G_p_give_8 lf x1 x2 x3 x4 q)
theorem run_p_give (g : ElA [(.list cRule), cGive, (.list cCol), cCol] → Option Rt_p_give) (lf : Nat) (x1 : (List DRule)) (x2 : DGive) (x3 : (List DCol)) (x4 : DCol) : icodeT Try.prog ttT.get nm_p_give fi113.nt (cl_p_give _ lf) lf st_p_give (A_p_give g lf) fi113.body [] (argGo (argV [(.list cRule), cGive, (.list cCol), cCol] (x1, x2, x3, x4, ())) 0 .leaf) S0 [] (lastK ttT.get fi113 ⟨[(.list cRule), cGive, (.list cCol), cCol], [(false, (.int .i64))], g⟩) = F_p_give lf x1 x2 x3 x4 := by
    refine (in_p_give g (A_p_give g lf) lf x1 x2 x3 x4).trans ?_
    rw [(show (fun q => A_p_give g lf 8 [] (enc_p_give_8 x1 x2 x3 x4 q)) = (fun q => G_p_give_8 lf x1 x2 x3 x4 q) from funext fun q => at_p_give_8 g lf x1 x2 x3 x4 q)]
    rfl
theorem hxs_p_give : HxsOK Try.prog hxl_p_give := trivial
theorem mk_p_give {g : ElA [(.list cRule), cGive, (.list cCol), cCol] → Option Rt_p_give} (hsm : SmOK Try.prog sml_p_give) (hg : ∀ (x : ElA [(.list cRule), cGive, (.list cCol), cCol]) (y : Rt_p_give), WfA [(.list cRule), cGive, (.list cCol), cCol] x → g x = some y → ∃ lf, F_p_give lf x.1 x.2.1 x.2.2.1 x.2.2.2.1 = some y) : Con Try.prog 113 ⟨[(.list cRule), cGive, (.list cCol), cCol], [(false, (.int .i64))], g⟩ :=
  conT (nmf := nm_p_give) (sml := sml_p_give) (hxl := hxl_p_give) (st := st_p_give) (hd := hd_p_give) 20 mixed ttOK ftOK hsm hxs_p_give cal113 rfl rfl (by kernel_rfl) (fun x => by kernel_rfl) nd_p_give ok_p_give fun x y hx hy => by
    obtain ⟨lf, h⟩ := hg x y hx hy
    exact ⟨lf, (run_p_give g lf x.1 x.2.1 x.2.2.1 x.2.2.2.1).trans h⟩
def nm_p_checkRules : Nat → Option Nm := fun k => cond (Nat.beq k 4) (some ⟨[0, 1, 2, 25, 26, 27], [], [], [], [], 0, 0, false⟩) (cond (Nat.beq k 13) (some ⟨[0, 1, 2, 55, 56, 57], [], [], [], [], 0, 0, false⟩) (cond (Nat.beq k 20) (some ⟨[0, 1, 2, 71, 72, 73], [], [], [], [], 0, 0, false⟩) (cond (Nat.beq k 26) (some ⟨[0, 1, 2, 17, 18, 71, 72, 73, 100, 101, 102], [], [], [], [], 0, 0, false⟩) (none))))
def st_p_checkRules : Nat → Bool := fun k => cond (Nat.beq k 4) true (cond (Nat.beq k 13) true (cond (Nat.beq k 20) true (cond (Nat.beq k 26) true (false))))
def hd_p_checkRules : Nat → Bool := fun k => cond (Nat.beq k 4) true (cond (Nat.beq k 13) true (cond (Nat.beq k 20) true (cond (Nat.beq k 26) true (false))))
abbrev Rt_p_checkRules : Type := Int × Unit
def sml_p_checkRules : List (Nat × Sm) := [(52, sp_p_form), (75, sp_p_ruleOf), (113, sp_p_give)]
def hxl_p_checkRules : List (Nat × Hx) := []
def cl_p_checkRules (R : Type) (lf : Nat) : ClK R := icallK Try.prog ttT.get ftT.get (nm1 77 nm_p_checkRules) (smL sml_p_checkRules) (hxL hxl_p_checkRules) lf 20 R
abbrev id_p_checkRules : Nat := 77
def enc_p_checkRules_4 (x1 : (List DForm)) (x2 : (List DForm)) (x3 : (List DRule)) (p : Int) : NRes := (NRes.mk (PT.node (some (IV.lst cForm x1)) (PT.node (some (IV.lst cForm x2)) (PT.node none PT.leaf (PT.node none PT.leaf (PT.node (some (IV.int Go.IntKind.i64 p)) PT.leaf PT.leaf))) (PT.node none (PT.node none PT.leaf (PT.node (some (IV.lst cRule x3)) PT.leaf PT.leaf)) PT.leaf)) (PT.node (some (IV.lst cRule x3)) PT.leaf (PT.node none (PT.node none PT.leaf (PT.node (some (IV.int Go.IntKind.i64 (Int.ofNat (List.length x3)))) PT.leaf PT.leaf)) PT.leaf))) (IS.mk PT.leaf 0) [] 0)
def enc_p_checkRules_13 (x1 : (List DForm)) (x2 : (List DForm)) (x3 : (List DRule)) (p : Int) : NRes := (NRes.mk (PT.node (some (IV.lst cForm x1)) (PT.node (some (IV.lst cForm x2)) (PT.node none (PT.node none PT.leaf (PT.node none PT.leaf (PT.node (some (IV.lst cForm x1)) PT.leaf PT.leaf))) PT.leaf) (PT.node none (PT.node none PT.leaf (PT.node none PT.leaf (PT.node (some (IV.int Go.IntKind.i64 p)) PT.leaf PT.leaf))) PT.leaf)) (PT.node (some (IV.lst cRule x3)) (PT.node none (PT.node none PT.leaf (PT.node none PT.leaf (PT.node (some (IV.int Go.IntKind.i64 (Int.ofNat (List.length x1)))) PT.leaf PT.leaf))) PT.leaf) PT.leaf)) (IS.mk PT.leaf 0) [] 0)
def enc_p_checkRules_20 (x1 : (List DForm)) (x2 : (List DForm)) (x3 : (List DRule)) (p : Int) : NRes := (NRes.mk (PT.node (some (IV.lst cForm x1)) (PT.node (some (IV.lst cForm x2)) (PT.node none (PT.node none PT.leaf (PT.node none (PT.node none (PT.node (some (IV.lst cRule x3)) PT.leaf PT.leaf) PT.leaf) PT.leaf)) PT.leaf) (PT.node none (PT.node none PT.leaf (PT.node none (PT.node none (PT.node (some (IV.int Go.IntKind.i64 p)) PT.leaf PT.leaf) PT.leaf) PT.leaf)) PT.leaf)) (PT.node (some (IV.lst cRule x3)) (PT.node none (PT.node none PT.leaf (PT.node none (PT.node none (PT.node (some (IV.int Go.IntKind.i64 (Int.ofNat (List.length x3)))) PT.leaf PT.leaf) PT.leaf) PT.leaf)) PT.leaf) PT.leaf)) (IS.mk PT.leaf 0) [] 0)
def enc_p_checkRules_26 (x1 : (List DForm)) (x2 : (List DForm)) (x3 : (List DRule)) (p : (List DCol) × (List DCol) × (List DGive) × Int × Int) : NRes := (NRes.mk (PT.node (some (IV.lst cForm x1)) (PT.node (some (IV.lst cForm x2)) (PT.node none (PT.node none PT.leaf (PT.node none (PT.node none (PT.node (some (IV.lst cRule x3)) PT.leaf PT.leaf) PT.leaf) PT.leaf)) PT.leaf) (PT.node none (PT.node none (PT.node (some (IV.lst cCol p.2.1)) PT.leaf PT.leaf) (PT.node none (PT.node none (PT.node (some (IV.int Go.IntKind.i64 p.2.2.2.2)) PT.leaf PT.leaf) PT.leaf) PT.leaf)) (PT.node none (PT.node none (PT.node none PT.leaf (PT.node (some (IV.int Go.IntKind.i64 (Int.ofNat (List.length p.2.2.1)))) PT.leaf PT.leaf)) PT.leaf) PT.leaf))) (PT.node (some (IV.lst cRule x3)) (PT.node none (PT.node none PT.leaf (PT.node none (PT.node none (PT.node (some (IV.int Go.IntKind.i64 (Int.ofNat (List.length x3)))) PT.leaf PT.leaf) PT.leaf) PT.leaf)) (PT.node none (PT.node none (PT.node none PT.leaf (PT.node (some (IV.lst cGive p.2.2.1)) PT.leaf PT.leaf)) PT.leaf) PT.leaf)) (PT.node none (PT.node none (PT.node (some (IV.lst cCol p.1)) PT.leaf PT.leaf) PT.leaf) (PT.node none (PT.node none (PT.node none PT.leaf (PT.node (some (IV.int Go.IntKind.i64 p.2.2.2.1)) PT.leaf PT.leaf)) PT.leaf) PT.leaf)))) (IS.mk PT.leaf 0) [] 0)
def R_p_checkRules_in (lf : Nat) (x1 : (List DForm)) (x2 : (List DForm)) (x3 : (List DRule)) (L4 : Int → Option Rt_p_checkRules) : Option Rt_p_checkRules := (cond (iltI (Int.ofNat 24) (Int.ofNat (List.length x3))) (some ((Int.ofNat 3), ())) (L4 (Int.ofNat 0)))
def R_p_checkRules_4 (lf : Nat) (x1 : (List DForm)) (x2 : (List DForm)) (x3 : (List DRule)) (L4 : Int → Option Rt_p_checkRules) (L13 : Int → Option Rt_p_checkRules) (p : Int) : Option Rt_p_checkRules := (cond (iltI p (Int.ofNat (List.length x3))) (match (jget x3 p) with | .none  => none | .some v0 => (cond (iltI (Go.Proofs.Ytcnhjofpmpipfaa.S.form x1 v0.1) (Int.ofNat 0)) (some ((Int.ofNat 4), ())) (cond (iltI (Go.Proofs.Ytcnhjofpmpipfaa.S.form x2 v0.2.1) (Int.ofNat 0)) (some ((Int.ofNat 4), ())) (cond (lchk (Int.ofNat 0) p (Int.ofNat (List.length x3)) (Int.ofNat (List.length x3))) (cond (Go.Proofs.Ytcnhjofpmpipfaa.S.ruleOf (lsub x3 (Int.ofNat 0) p) v0.1).2 (some ((Int.ofNat 6), ())) (L4 (Go.IntKind.wrap Go.IntKind.i64 (Int.add p (Int.ofNat 1))))) none)))) (L13 (Int.ofNat 0)))
def R_p_checkRules_13 (lf : Nat) (x1 : (List DForm)) (x2 : (List DForm)) (x3 : (List DRule)) (L13 : Int → Option Rt_p_checkRules) (L20 : Int → Option Rt_p_checkRules) (p : Int) : Option Rt_p_checkRules := (cond (iltI p (Int.ofNat (List.length x1))) (match (jget x1 p) with | .none  => none | .some v0 => (cond (Bool.not (Go.Proofs.Ytcnhjofpmpipfaa.S.ruleOf x3 v0.1).2) (some ((Int.ofNat 5), ())) (L13 (Go.IntKind.wrap Go.IntKind.i64 (Int.add p (Int.ofNat 1)))))) (L20 (Int.ofNat 0)))
def R_p_checkRules_20 (lf : Nat) (x1 : (List DForm)) (x2 : (List DForm)) (x3 : (List DRule)) (L26 : ((List DCol) × (List DCol) × (List DGive) × Int × Int) → Option Rt_p_checkRules) (p : Int) : Option Rt_p_checkRules := (cond (iltI p (Int.ofNat (List.length x3))) (match (jget x3 p) with | .none  => none | .some v0 => (match (jget x1 (Go.Proofs.Ytcnhjofpmpipfaa.S.form x1 v0.1)) with | .none  => none | .some v1 => (match (jget x2 (Go.Proofs.Ytcnhjofpmpipfaa.S.form x2 v0.2.1)) with | .none  => none | .some v2 => (cond (Bool.not (ieqI (Int.ofNat (List.length v0.2.2)) (Int.ofNat (List.length v2.2)))) (some ((Int.ofNat 2), ())) (L26 (v2.2, v1.2, v0.2.2, (Int.ofNat 0), p)))))) (some ((Int.ofNat 0), ())))
def R_p_checkRules_26 (lf : Nat) (x1 : (List DForm)) (x2 : (List DForm)) (x3 : (List DRule)) (L26 : ((List DCol) × (List DCol) × (List DGive) × Int × Int) → Option Rt_p_checkRules) (L20 : Int → Option Rt_p_checkRules) (p : (List DCol) × (List DCol) × (List DGive) × Int × Int) : Option Rt_p_checkRules := (cond (iltI p.2.2.2.1 (Int.ofNat (List.length p.2.2.1))) (match (jget p.2.2.1 p.2.2.2.1) with | .none  => none | .some v0 => (match (jget p.1 p.2.2.2.1) with | .none  => none | .some v1 => (cond (Bool.not (ieqI (Go.Proofs.Ytcnhjofpmpipfaa.S.give x3 (v0.1, (v0.2.1, v0.2.2)) p.2.1 (v1.1, (v1.2.1, v1.2.2))) (Int.ofNat 0))) (some ((Go.Proofs.Ytcnhjofpmpipfaa.S.give x3 (v0.1, (v0.2.1, v0.2.2)) p.2.1 (v1.1, (v1.2.1, v1.2.2))), ())) (L26 (p.1, p.2.1, p.2.2.1, (Go.IntKind.wrap Go.IntKind.i64 (Int.add p.2.2.2.1 (Int.ofNat 1))), p.2.2.2.2))))) (L20 (Go.IntKind.wrap Go.IntKind.i64 (Int.add p.2.2.2.2 (Int.ofNat 1)))))
theorem in_p_checkRules (g : ElA [(.list cForm), (.list cForm), (.list cRule)] → Option Rt_p_checkRules) (J : Nat → List Nat → NRes → Option Rt_p_checkRules) (lf : Nat) (x1 : (List DForm)) (x2 : (List DForm)) (x3 : (List DRule)) : icodeT Try.prog ttT.get nm_p_checkRules fi77.nt (cl_p_checkRules _ lf) lf st_p_checkRules J fi77.body [] (argGo (argV [(.list cForm), (.list cForm), (.list cRule)] (x1, x2, x3, ())) 0 .leaf) S0 [] (lastK ttT.get fi77 ⟨[(.list cForm), (.list cForm), (.list cRule)], [(false, (.int .i64))], g⟩) = R_p_checkRules_in lf x1 x2 x3 (fun q => J 4 [lf] (enc_p_checkRules_4 x1 x2 x3 q)) := by kernel_rfl
theorem st_p_checkRules_4 (g : ElA [(.list cForm), (.list cForm), (.list cRule)] → Option Rt_p_checkRules) (J : Nat → List Nat → NRes → Option Rt_p_checkRules) (lf : Nat) (x1 : (List DForm)) (x2 : (List DForm)) (x3 : (List DRule)) (m1 : Nat) (p : Int) : icodeFT Try.prog ttT.get nm_p_checkRules fi77.nt (cl_p_checkRules _ lf) lf st_p_checkRules J 4 fi77.body [] [m1] (enc_p_checkRules_4 x1 x2 x3 p) (lastK ttT.get fi77 ⟨[(.list cForm), (.list cForm), (.list cRule)], [(false, (.int .i64))], g⟩) = R_p_checkRules_4 lf x1 x2 x3 (fun q => J 4 [m1] (enc_p_checkRules_4 x1 x2 x3 q)) (fun q => J 13 [lf] (enc_p_checkRules_13 x1 x2 x3 q)) p := by kernel_rfl
theorem st_p_checkRules_13 (g : ElA [(.list cForm), (.list cForm), (.list cRule)] → Option Rt_p_checkRules) (J : Nat → List Nat → NRes → Option Rt_p_checkRules) (lf : Nat) (x1 : (List DForm)) (x2 : (List DForm)) (x3 : (List DRule)) (m1 : Nat) (p : Int) : icodeFT Try.prog ttT.get nm_p_checkRules fi77.nt (cl_p_checkRules _ lf) lf st_p_checkRules J 13 fi77.body [] [m1] (enc_p_checkRules_13 x1 x2 x3 p) (lastK ttT.get fi77 ⟨[(.list cForm), (.list cForm), (.list cRule)], [(false, (.int .i64))], g⟩) = R_p_checkRules_13 lf x1 x2 x3 (fun q => J 13 [m1] (enc_p_checkRules_13 x1 x2 x3 q)) (fun q => J 20 [lf] (enc_p_checkRules_20 x1 x2 x3 q)) p := by kernel_rfl
theorem st_p_checkRules_20 (g : ElA [(.list cForm), (.list cForm), (.list cRule)] → Option Rt_p_checkRules) (J : Nat → List Nat → NRes → Option Rt_p_checkRules) (lf : Nat) (x1 : (List DForm)) (x2 : (List DForm)) (x3 : (List DRule)) (m1 : Nat) (p : Int) : icodeFT Try.prog ttT.get nm_p_checkRules fi77.nt (cl_p_checkRules _ lf) lf st_p_checkRules J 20 fi77.body [] [m1] (enc_p_checkRules_20 x1 x2 x3 p) (lastK ttT.get fi77 ⟨[(.list cForm), (.list cForm), (.list cRule)], [(false, (.int .i64))], g⟩) = R_p_checkRules_20 lf x1 x2 x3 (fun q => J 26 [m1, lf] (enc_p_checkRules_26 x1 x2 x3 q)) p := by kernel_rfl
theorem st_p_checkRules_26 (g : ElA [(.list cForm), (.list cForm), (.list cRule)] → Option Rt_p_checkRules) (J : Nat → List Nat → NRes → Option Rt_p_checkRules) (lf : Nat) (x1 : (List DForm)) (x2 : (List DForm)) (x3 : (List DRule)) (m1 : Nat) (m2 : Nat) (p : (List DCol) × (List DCol) × (List DGive) × Int × Int) : icodeFT Try.prog ttT.get nm_p_checkRules fi77.nt (cl_p_checkRules _ lf) lf st_p_checkRules J 26 fi77.body [] [m1, m2] (enc_p_checkRules_26 x1 x2 x3 p) (lastK ttT.get fi77 ⟨[(.list cForm), (.list cForm), (.list cRule)], [(false, (.int .i64))], g⟩) = R_p_checkRules_26 lf x1 x2 x3 (fun q => J 26 [m1, m2] (enc_p_checkRules_26 x1 x2 x3 q)) (fun q => J 20 [m1] (enc_p_checkRules_20 x1 x2 x3 q)) p := by kernel_rfl
theorem nd_p_checkRules : (regs fi77.body).Nodup := by decide +kernel
theorem ok_p_checkRules : okC nm_p_checkRules st_p_checkRules hd_p_checkRules fi77.body none = true := by kernel_rfl
def A_p_checkRules (g : ElA [(.list cForm), (.list cForm), (.list cRule)] → Option Rt_p_checkRules) (lf : Nat) : Nat → List Nat → NRes → Option Rt_p_checkRules := atN Try.prog ttT.get nm_p_checkRules fi77 ⟨[(.list cForm), (.list cForm), (.list cRule)], [(false, (.int .i64))], g⟩ (cl_p_checkRules _ lf) lf hd_p_checkRules
def G_p_checkRules_26 (lf : Nat) (x1 : (List DForm)) (x2 : (List DForm)) (x3 : (List DRule)) (K20 : Int → Option Rt_p_checkRules) : Nat → ((List DCol) × (List DCol) × (List DGive) × Int × Int) → Option Rt_p_checkRules := rounds fun K p => R_p_checkRules_26 lf x1 x2 x3 K K20 p
theorem at_p_checkRules_26 (g : ElA [(.list cForm), (.list cForm), (.list cRule)] → Option Rt_p_checkRules) (lf : Nat) (x1 : (List DForm)) (x2 : (List DForm)) (x3 : (List DRule)) (m1 : Nat) : ∀ (n : Nat) (p : (List DCol) × (List DCol) × (List DGive) × Int × Int), A_p_checkRules g lf 26 [m1, n] (enc_p_checkRules_26 x1 x2 x3 p) = G_p_checkRules_26 lf x1 x2 x3 (fun q => A_p_checkRules g lf 20 [m1] (enc_p_checkRules_20 x1 x2 x3 q)) n p
  | 0, p => atN_zero 26 [m1, 0] rfl _
  | n + 1, p => by
    have ih := at_p_checkRules_26 g lf x1 x2 x3 m1 n
    refine (atN_eq (icallK_eq 20 _) nd_p_checkRules ok_p_checkRules 26 [m1, n + 1] [m1, n] rfl _).trans ((st_p_checkRules_26 g (A_p_checkRules g lf) lf x1 x2 x3 m1 n p).trans ?_)
    rw [(show (fun q => A_p_checkRules g lf 26 [m1, n] (enc_p_checkRules_26 x1 x2 x3 q)) = (fun q => G_p_checkRules_26 lf x1 x2 x3 (fun q => A_p_checkRules g lf 20 [m1] (enc_p_checkRules_20 x1 x2 x3 q)) n q) from funext ih)]
    rfl
def G_p_checkRules_20 (lf : Nat) (x1 : (List DForm)) (x2 : (List DForm)) (x3 : (List DRule)) : Nat → (Int) → Option Rt_p_checkRules := rounds fun K p => R_p_checkRules_20 lf x1 x2 x3 (fun q => G_p_checkRules_26 lf x1 x2 x3 K lf q) p
theorem at_p_checkRules_20 (g : ElA [(.list cForm), (.list cForm), (.list cRule)] → Option Rt_p_checkRules) (lf : Nat) (x1 : (List DForm)) (x2 : (List DForm)) (x3 : (List DRule)) : ∀ (n : Nat) (p : Int), A_p_checkRules g lf 20 [n] (enc_p_checkRules_20 x1 x2 x3 p) = G_p_checkRules_20 lf x1 x2 x3 n p
  | 0, p => atN_zero 20 [0] rfl _
  | n + 1, p => by
    have ih := at_p_checkRules_20 g lf x1 x2 x3 n
    refine (atN_eq (icallK_eq 20 _) nd_p_checkRules ok_p_checkRules 20 [n + 1] [n] rfl _).trans ((st_p_checkRules_20 g (A_p_checkRules g lf) lf x1 x2 x3 n p).trans ?_)
    rw [(show (fun q => A_p_checkRules g lf 26 [n, lf] (enc_p_checkRules_26 x1 x2 x3 q)) = (fun q => G_p_checkRules_26 lf x1 x2 x3 (fun q => A_p_checkRules g lf 20 [n] (enc_p_checkRules_20 x1 x2 x3 q)) lf q) from funext fun q => at_p_checkRules_26 g lf x1 x2 x3 n lf q), (show (fun q => A_p_checkRules g lf 20 [n] (enc_p_checkRules_20 x1 x2 x3 q)) = (fun q => G_p_checkRules_20 lf x1 x2 x3 n q) from funext ih)]
    rfl
def G_p_checkRules_13 (lf : Nat) (x1 : (List DForm)) (x2 : (List DForm)) (x3 : (List DRule)) : Nat → (Int) → Option Rt_p_checkRules := rounds fun K p => R_p_checkRules_13 lf x1 x2 x3 K (fun q => G_p_checkRules_20 lf x1 x2 x3 lf q) p
theorem at_p_checkRules_13 (g : ElA [(.list cForm), (.list cForm), (.list cRule)] → Option Rt_p_checkRules) (lf : Nat) (x1 : (List DForm)) (x2 : (List DForm)) (x3 : (List DRule)) : ∀ (n : Nat) (p : Int), A_p_checkRules g lf 13 [n] (enc_p_checkRules_13 x1 x2 x3 p) = G_p_checkRules_13 lf x1 x2 x3 n p
  | 0, p => atN_zero 13 [0] rfl _
  | n + 1, p => by
    have ih := at_p_checkRules_13 g lf x1 x2 x3 n
    refine (atN_eq (icallK_eq 20 _) nd_p_checkRules ok_p_checkRules 13 [n + 1] [n] rfl _).trans ((st_p_checkRules_13 g (A_p_checkRules g lf) lf x1 x2 x3 n p).trans ?_)
    rw [(show (fun q => A_p_checkRules g lf 20 [lf] (enc_p_checkRules_20 x1 x2 x3 q)) = (fun q => G_p_checkRules_20 lf x1 x2 x3 lf q) from funext fun q => at_p_checkRules_20 g lf x1 x2 x3 lf q), (show (fun q => A_p_checkRules g lf 13 [n] (enc_p_checkRules_13 x1 x2 x3 q)) = (fun q => G_p_checkRules_13 lf x1 x2 x3 n q) from funext ih)]
    rfl
def G_p_checkRules_4 (lf : Nat) (x1 : (List DForm)) (x2 : (List DForm)) (x3 : (List DRule)) : Nat → (Int) → Option Rt_p_checkRules := rounds fun K p => R_p_checkRules_4 lf x1 x2 x3 K (fun q => G_p_checkRules_13 lf x1 x2 x3 lf q) p
theorem at_p_checkRules_4 (g : ElA [(.list cForm), (.list cForm), (.list cRule)] → Option Rt_p_checkRules) (lf : Nat) (x1 : (List DForm)) (x2 : (List DForm)) (x3 : (List DRule)) : ∀ (n : Nat) (p : Int), A_p_checkRules g lf 4 [n] (enc_p_checkRules_4 x1 x2 x3 p) = G_p_checkRules_4 lf x1 x2 x3 n p
  | 0, p => atN_zero 4 [0] rfl _
  | n + 1, p => by
    have ih := at_p_checkRules_4 g lf x1 x2 x3 n
    refine (atN_eq (icallK_eq 20 _) nd_p_checkRules ok_p_checkRules 4 [n + 1] [n] rfl _).trans ((st_p_checkRules_4 g (A_p_checkRules g lf) lf x1 x2 x3 n p).trans ?_)
    rw [(show (fun q => A_p_checkRules g lf 13 [lf] (enc_p_checkRules_13 x1 x2 x3 q)) = (fun q => G_p_checkRules_13 lf x1 x2 x3 lf q) from funext fun q => at_p_checkRules_13 g lf x1 x2 x3 lf q), (show (fun q => A_p_checkRules g lf 4 [n] (enc_p_checkRules_4 x1 x2 x3 q)) = (fun q => G_p_checkRules_4 lf x1 x2 x3 n q) from funext ih)]
    rfl
def F_p_checkRules (lf : Nat) (x1 : (List DForm)) (x2 : (List DForm)) (x3 : (List DRule)) : Option Rt_p_checkRules := R_p_checkRules_in lf x1 x2 x3 (fun q => G_p_checkRules_4 lf x1 x2 x3 lf q)
theorem run_p_checkRules (g : ElA [(.list cForm), (.list cForm), (.list cRule)] → Option Rt_p_checkRules) (lf : Nat) (x1 : (List DForm)) (x2 : (List DForm)) (x3 : (List DRule)) : icodeT Try.prog ttT.get nm_p_checkRules fi77.nt (cl_p_checkRules _ lf) lf st_p_checkRules (A_p_checkRules g lf) fi77.body [] (argGo (argV [(.list cForm), (.list cForm), (.list cRule)] (x1, x2, x3, ())) 0 .leaf) S0 [] (lastK ttT.get fi77 ⟨[(.list cForm), (.list cForm), (.list cRule)], [(false, (.int .i64))], g⟩) = F_p_checkRules lf x1 x2 x3 := by
    refine (in_p_checkRules g (A_p_checkRules g lf) lf x1 x2 x3).trans ?_
    rw [(show (fun q => A_p_checkRules g lf 4 [lf] (enc_p_checkRules_4 x1 x2 x3 q)) = (fun q => G_p_checkRules_4 lf x1 x2 x3 lf q) from funext fun q => at_p_checkRules_4 g lf x1 x2 x3 lf q)]
    rfl
theorem hxs_p_checkRules : HxsOK Try.prog hxl_p_checkRules := trivial
theorem mk_p_checkRules {g : ElA [(.list cForm), (.list cForm), (.list cRule)] → Option Rt_p_checkRules} (hsm : SmOK Try.prog sml_p_checkRules) (hg : ∀ (x : ElA [(.list cForm), (.list cForm), (.list cRule)]) (y : Rt_p_checkRules), WfA [(.list cForm), (.list cForm), (.list cRule)] x → g x = some y → ∃ lf, F_p_checkRules lf x.1 x.2.1 x.2.2.1 = some y) : Con Try.prog 77 ⟨[(.list cForm), (.list cForm), (.list cRule)], [(false, (.int .i64))], g⟩ :=
  conT (nmf := nm_p_checkRules) (sml := sml_p_checkRules) (hxl := hxl_p_checkRules) (st := st_p_checkRules) (hd := hd_p_checkRules) 20 mixed ttOK ftOK hsm hxs_p_checkRules cal77 rfl rfl (by kernel_rfl) (fun x => by kernel_rfl) nd_p_checkRules ok_p_checkRules fun x y hx hy => by
    obtain ⟨lf, h⟩ := hg x y hx hy
    exact ⟨lf, (run_p_checkRules g lf x.1 x.2.1 x.2.2.1).trans h⟩
def nm_p_CheckRules : Nat → Option Nm := fun k => none
def st_p_CheckRules : Nat → Bool := fun k => false
def hd_p_CheckRules : Nat → Bool := fun k => false
abbrev Rt_p_CheckRules : Type := Int × Unit
def sml_p_CheckRules : List (Nat × Sm) := [(16, sp_p_CheckForms), (49, sp_p_first), (77, sp_p_checkRules)]
def hxl_p_CheckRules : List (Nat × Hx) := []
def cl_p_CheckRules (R : Type) (lf : Nat) : ClK R := icallK Try.prog ttT.get ftT.get (nm1 29 nm_p_CheckRules) (smL sml_p_CheckRules) (hxL hxl_p_CheckRules) lf 20 R
abbrev id_p_CheckRules : Nat := 29
def R_p_CheckRules_in (lf : Nat) (x1 : (List DForm)) (x2 : (List DForm)) (x3 : (List DRule)) : Option Rt_p_CheckRules := (cond (Bool.not (ieqI (Go.Proofs.Ytcnhjofpmpipfaa.S.first (List.cons (Go.Proofs.Ytcnhjofpmpipfaa.S.checkForms x1) (List.cons (Go.Proofs.Ytcnhjofpmpipfaa.S.checkForms x2) []))) (Int.ofNat 0))) (some ((Go.Proofs.Ytcnhjofpmpipfaa.S.first (List.cons (Go.Proofs.Ytcnhjofpmpipfaa.S.checkForms x1) (List.cons (Go.Proofs.Ytcnhjofpmpipfaa.S.checkForms x2) []))), ())) (some ((Go.Proofs.Ytcnhjofpmpipfaa.S.checkRules0 x1 x2 x3), ())))
theorem in_p_CheckRules (g : ElA [(.list cForm), (.list cForm), (.list cRule)] → Option Rt_p_CheckRules) (J : Nat → List Nat → NRes → Option Rt_p_CheckRules) (lf : Nat) (x1 : (List DForm)) (x2 : (List DForm)) (x3 : (List DRule)) : icodeT Try.prog ttT.get nm_p_CheckRules fi29.nt (cl_p_CheckRules _ lf) lf st_p_CheckRules J fi29.body [] (argGo (argV [(.list cForm), (.list cForm), (.list cRule)] (x1, x2, x3, ())) 0 .leaf) S0 [] (lastK ttT.get fi29 ⟨[(.list cForm), (.list cForm), (.list cRule)], [(false, (.int .i64))], g⟩) = R_p_CheckRules_in lf x1 x2 x3 := by kernel_rfl
theorem nd_p_CheckRules : (regs fi29.body).Nodup := by decide +kernel
theorem ok_p_CheckRules : okC nm_p_CheckRules st_p_CheckRules hd_p_CheckRules fi29.body none = true := by kernel_rfl
def A_p_CheckRules (g : ElA [(.list cForm), (.list cForm), (.list cRule)] → Option Rt_p_CheckRules) (lf : Nat) : Nat → List Nat → NRes → Option Rt_p_CheckRules := atN Try.prog ttT.get nm_p_CheckRules fi29 ⟨[(.list cForm), (.list cForm), (.list cRule)], [(false, (.int .i64))], g⟩ (cl_p_CheckRules _ lf) lf hd_p_CheckRules
def F_p_CheckRules (lf : Nat) (x1 : (List DForm)) (x2 : (List DForm)) (x3 : (List DRule)) : Option Rt_p_CheckRules := R_p_CheckRules_in lf x1 x2 x3
theorem run_p_CheckRules (g : ElA [(.list cForm), (.list cForm), (.list cRule)] → Option Rt_p_CheckRules) (lf : Nat) (x1 : (List DForm)) (x2 : (List DForm)) (x3 : (List DRule)) : icodeT Try.prog ttT.get nm_p_CheckRules fi29.nt (cl_p_CheckRules _ lf) lf st_p_CheckRules (A_p_CheckRules g lf) fi29.body [] (argGo (argV [(.list cForm), (.list cForm), (.list cRule)] (x1, x2, x3, ())) 0 .leaf) S0 [] (lastK ttT.get fi29 ⟨[(.list cForm), (.list cForm), (.list cRule)], [(false, (.int .i64))], g⟩) = F_p_CheckRules lf x1 x2 x3 := by
    refine (in_p_CheckRules g (A_p_CheckRules g lf) lf x1 x2 x3).trans ?_
    rfl
theorem hxs_p_CheckRules : HxsOK Try.prog hxl_p_CheckRules := trivial
theorem mk_p_CheckRules {g : ElA [(.list cForm), (.list cForm), (.list cRule)] → Option Rt_p_CheckRules} (hsm : SmOK Try.prog sml_p_CheckRules) (hg : ∀ (x : ElA [(.list cForm), (.list cForm), (.list cRule)]) (y : Rt_p_CheckRules), WfA [(.list cForm), (.list cForm), (.list cRule)] x → g x = some y → ∃ lf, F_p_CheckRules lf x.1 x.2.1 x.2.2.1 = some y) : Con Try.prog 29 ⟨[(.list cForm), (.list cForm), (.list cRule)], [(false, (.int .i64))], g⟩ :=
  conT (nmf := nm_p_CheckRules) (sml := sml_p_CheckRules) (hxl := hxl_p_CheckRules) (st := st_p_CheckRules) (hd := hd_p_CheckRules) 20 mixed ttOK ftOK hsm hxs_p_CheckRules cal29 rfl rfl (by kernel_rfl) (fun x => by kernel_rfl) nd_p_CheckRules ok_p_CheckRules fun x y hx hy => by
    obtain ⟨lf, h⟩ := hg x y hx hy
    exact ⟨lf, (run_p_CheckRules g lf x.1 x.2.1 x.2.2.1).trans h⟩
def nm_p_made : Nat → Option Nm := fun k => none
def st_p_made : Nat → Bool := fun k => false
def hd_p_made : Nat → Bool := fun k => false
abbrev Rt_p_made : Type := DVal × Bool × Unit
def sml_p_made : List (Nat × Sm) := [(95, sp_p_col), (83, sp_p_within)]
def hxl_p_made : List (Nat × Hx) := []
def cl_p_made (R : Type) (lf : Nat) : ClK R := icallK Try.prog ttT.get ftT.get (nm1 76 nm_p_made) (smL sml_p_made) (hxL hxl_p_made) lf 20 R
abbrev id_p_made : Nat := 76
def R_p_made_in (lf : Nat) (x1 : DGive) (x2 : (List DCol)) (x3 : (List DVal)) (x4 : DCol) : Option Rt_p_made := (cond (ieqI x1.2.1 (Int.ofNat 6)) (cond (ieqI x4.2.1 (Int.ofNat 2)) (some (((Int.ofNat 2), x1.2.2), (Bool.true, ()))) (some (((Int.ofNat 1), x1.2.2), (Bool.true, ())))) (cond (ieqI x1.2.1 (Int.ofNat 7)) (some (((Int.ofNat 3), (Int.ofNat 0)), (Bool.true, ()))) (match (jget x3 (Go.Proofs.Ytcnhjofpmpipfaa.S.col x2 x1.1)) with | .none  => none | .some v0 => (cond (ieqI x1.2.1 (Int.ofNat 2)) (some (((Int.ofNat 1), v0.2), (Bool.true, ()))) (cond (ieqI x1.2.1 (Int.ofNat 3)) (some (((Int.ofNat 2), v0.2), ((Go.Proofs.Ytcnhjofpmpipfaa.S.within v0.2 (Int.ofNat 0) (Int.ofNat 1)), ()))) (cond (ieqI x1.2.1 (Int.ofNat 4)) (some ((v0.1, v0.2), ((iltI v0.2 x1.2.2), ()))) (cond (ieqI x1.2.1 (Int.ofNat 5)) (some ((v0.1, v0.2), ((ieqI v0.1 (Int.ofNat 4)), ()))) (some ((v0.1, v0.2), (Bool.true, ()))))))))))
theorem in_p_made (g : ElA [cGive, (.list cCol), (.list cVal), cCol] → Option Rt_p_made) (J : Nat → List Nat → NRes → Option Rt_p_made) (lf : Nat) (x1 : DGive) (x2 : (List DCol)) (x3 : (List DVal)) (x4 : DCol) : icodeT Try.prog ttT.get nm_p_made fi76.nt (cl_p_made _ lf) lf st_p_made J fi76.body [] (argGo (argV [cGive, (.list cCol), (.list cVal), cCol] (x1, x2, x3, x4, ())) 0 .leaf) S0 [] (lastK ttT.get fi76 ⟨[cGive, (.list cCol), (.list cVal), cCol], [(false, cVal), (false, .bool)], g⟩) = R_p_made_in lf x1 x2 x3 x4 := by kernel_rfl
theorem nd_p_made : (regs fi76.body).Nodup := by decide +kernel
theorem ok_p_made : okC nm_p_made st_p_made hd_p_made fi76.body none = true := by kernel_rfl
def A_p_made (g : ElA [cGive, (.list cCol), (.list cVal), cCol] → Option Rt_p_made) (lf : Nat) : Nat → List Nat → NRes → Option Rt_p_made := atN Try.prog ttT.get nm_p_made fi76 ⟨[cGive, (.list cCol), (.list cVal), cCol], [(false, cVal), (false, .bool)], g⟩ (cl_p_made _ lf) lf hd_p_made
def F_p_made (lf : Nat) (x1 : DGive) (x2 : (List DCol)) (x3 : (List DVal)) (x4 : DCol) : Option Rt_p_made := R_p_made_in lf x1 x2 x3 x4
theorem run_p_made (g : ElA [cGive, (.list cCol), (.list cVal), cCol] → Option Rt_p_made) (lf : Nat) (x1 : DGive) (x2 : (List DCol)) (x3 : (List DVal)) (x4 : DCol) : icodeT Try.prog ttT.get nm_p_made fi76.nt (cl_p_made _ lf) lf st_p_made (A_p_made g lf) fi76.body [] (argGo (argV [cGive, (.list cCol), (.list cVal), cCol] (x1, x2, x3, x4, ())) 0 .leaf) S0 [] (lastK ttT.get fi76 ⟨[cGive, (.list cCol), (.list cVal), cCol], [(false, cVal), (false, .bool)], g⟩) = F_p_made lf x1 x2 x3 x4 := by
    refine (in_p_made g (A_p_made g lf) lf x1 x2 x3 x4).trans ?_
    rfl
theorem hxs_p_made : HxsOK Try.prog hxl_p_made := trivial
theorem mk_p_made {g : ElA [cGive, (.list cCol), (.list cVal), cCol] → Option Rt_p_made} (hsm : SmOK Try.prog sml_p_made) (hg : ∀ (x : ElA [cGive, (.list cCol), (.list cVal), cCol]) (y : Rt_p_made), WfA [cGive, (.list cCol), (.list cVal), cCol] x → g x = some y → ∃ lf, F_p_made lf x.1 x.2.1 x.2.2.1 x.2.2.2.1 = some y) : Con Try.prog 76 ⟨[cGive, (.list cCol), (.list cVal), cCol], [(false, cVal), (false, .bool)], g⟩ :=
  conT (nmf := nm_p_made) (sml := sml_p_made) (hxl := hxl_p_made) (st := st_p_made) (hd := hd_p_made) 20 mixed ttOK ftOK hsm hxs_p_made cal76 rfl rfl (by kernel_rfl) (fun x => by kernel_rfl) nd_p_made ok_p_made fun x y hx hy => by
    obtain ⟨lf, h⟩ := hg x y hx hy
    exact ⟨lf, (run_p_made g lf x.1 x.2.1 x.2.2.1 x.2.2.2.1).trans h⟩
def nm_slices_Clone_Val : Nat → Option Nm := fun k => none
def st_slices_Clone_Val : Nat → Bool := fun k => false
def hd_slices_Clone_Val : Nat → Bool := fun k => false
abbrev Rt_slices_Clone_Val : Type := (List DVal) × Unit
def sml_slices_Clone_Val : List (Nat × Sm) := []
def hxl_slices_Clone_Val : List (Nat × Hx) := []
def cl_slices_Clone_Val (R : Type) (lf : Nat) : ClK R := icallK Try.prog ttT.get ftT.get (nm1 74 nm_slices_Clone_Val) (smL sml_slices_Clone_Val) (hxL hxl_slices_Clone_Val) lf 20 R
abbrev id_slices_Clone_Val : Nat := 74
def R_slices_Clone_Val_in (lf : Nat) (x1 : (List DVal)) : Option Rt_slices_Clone_Val := (match x1 with | .nil  => none | .cons v0 v1 => (cond (Nat.ble (Nat.mul (Nat.add 0 (List.length x1)) 16) 140737488355328) (some (x1, ())) none))
theorem in_slices_Clone_Val (g : ElA [(.list cVal)] → Option Rt_slices_Clone_Val) (J : Nat → List Nat → NRes → Option Rt_slices_Clone_Val) (lf : Nat) (x1 : (List DVal)) : icodeT Try.prog ttT.get nm_slices_Clone_Val fi74.nt (cl_slices_Clone_Val _ lf) lf st_slices_Clone_Val J fi74.body [] (argGo (argV [(.list cVal)] (x1, ())) 0 .leaf) S0 [] (lastK ttT.get fi74 ⟨[(.list cVal)], [(false, (.list cVal))], g⟩) = R_slices_Clone_Val_in lf x1 := by kernel_rfl
theorem nd_slices_Clone_Val : (regs fi74.body).Nodup := by decide +kernel
theorem ok_slices_Clone_Val : okC nm_slices_Clone_Val st_slices_Clone_Val hd_slices_Clone_Val fi74.body none = true := by kernel_rfl
def A_slices_Clone_Val (g : ElA [(.list cVal)] → Option Rt_slices_Clone_Val) (lf : Nat) : Nat → List Nat → NRes → Option Rt_slices_Clone_Val := atN Try.prog ttT.get nm_slices_Clone_Val fi74 ⟨[(.list cVal)], [(false, (.list cVal))], g⟩ (cl_slices_Clone_Val _ lf) lf hd_slices_Clone_Val
def F_slices_Clone_Val (lf : Nat) (x1 : (List DVal)) : Option Rt_slices_Clone_Val := R_slices_Clone_Val_in lf x1
theorem run_slices_Clone_Val (g : ElA [(.list cVal)] → Option Rt_slices_Clone_Val) (lf : Nat) (x1 : (List DVal)) : icodeT Try.prog ttT.get nm_slices_Clone_Val fi74.nt (cl_slices_Clone_Val _ lf) lf st_slices_Clone_Val (A_slices_Clone_Val g lf) fi74.body [] (argGo (argV [(.list cVal)] (x1, ())) 0 .leaf) S0 [] (lastK ttT.get fi74 ⟨[(.list cVal)], [(false, (.list cVal))], g⟩) = F_slices_Clone_Val lf x1 := by
    refine (in_slices_Clone_Val g (A_slices_Clone_Val g lf) lf x1).trans ?_
    rfl
theorem hxs_slices_Clone_Val : HxsOK Try.prog hxl_slices_Clone_Val := trivial
theorem mk_slices_Clone_Val {g : ElA [(.list cVal)] → Option Rt_slices_Clone_Val} (hsm : SmOK Try.prog sml_slices_Clone_Val) (hg : ∀ (x : ElA [(.list cVal)]) (y : Rt_slices_Clone_Val), WfA [(.list cVal)] x → g x = some y → ∃ lf, F_slices_Clone_Val lf x.1 = some y) : Con Try.prog 74 ⟨[(.list cVal)], [(false, (.list cVal))], g⟩ :=
  conT (nmf := nm_slices_Clone_Val) (sml := sml_slices_Clone_Val) (hxl := hxl_slices_Clone_Val) (st := st_slices_Clone_Val) (hd := hd_slices_Clone_Val) 20 mixed ttOK ftOK hsm hxs_slices_Clone_Val cal74 rfl rfl (by kernel_rfl) (fun x => by kernel_rfl) nd_slices_Clone_Val ok_slices_Clone_Val fun x y hx hy => by
    obtain ⟨lf, h⟩ := hg x y hx hy
    exact ⟨lf, (run_slices_Clone_Val g lf x.1).trans h⟩
def nm_p_Convert : Nat → Option Nm := fun k => cond (Nat.beq k 9) (some ⟨[0, 1, 2, 8, 9, 13, 48, 49, 50], [], [(13, 0, cNode)], [], [], 0, 0, false⟩) (cond (Nat.beq k 15) (some ⟨[0, 1, 2, 8, 9, 13, 14, 15, 16, 18, 19, 48, 49, 50, 80, 81, 82], [], [(13, 0, cNode), (19, 1, cVal)], [], [], 0, 0, false⟩) (none))
def st_p_Convert : Nat → Bool := fun k => cond (Nat.beq k 9) true (cond (Nat.beq k 15) true (false))
def hd_p_Convert : Nat → Bool := fun k => cond (Nat.beq k 9) true (cond (Nat.beq k 15) true (false))
abbrev Rt_p_Convert : Type := DGraph × DRefusal × Int × Unit
def sml_p_Convert : List (Nat × Sm) := [(29, sp_p_CheckRules), (59, sp_p_check), (49, sp_p_first), (74, sp_slices_Clone_Val), (75, sp_p_ruleOf), (52, sp_p_form), (76, sp_p_made)]
def hxl_p_Convert : List (Nat × Hx) := []
def cl_p_Convert (R : Type) (lf : Nat) : ClK R := icallK Try.prog ttT.get ftT.get (nm1 28 nm_p_Convert) (smL sml_p_Convert) (hxL hxl_p_Convert) lf 20 R
abbrev id_p_Convert : Nat := 28
def enc_p_Convert_9 (x1 : (List DForm)) (x2 : (List DForm)) (x3 : (List DRule)) (x4 : DGraph) (p : Int × (List DNode)) : NRes := (NRes.mk (PT.node (some (IV.lst cForm x1)) (PT.node (some (IV.lst cForm x2)) PT.leaf (PT.node none (PT.node (some (IV.ptr 1 0)) (PT.node none PT.leaf (PT.node (some (IV.int Go.IntKind.i64 (Int.ofNat (List.length x4.1)))) PT.leaf PT.leaf)) PT.leaf) (PT.node (some (IV.ptr 2 0)) PT.leaf PT.leaf))) (PT.node (some (IV.lst cRule x3)) (PT.node none (PT.node (some (IV.ptr 0 0)) (PT.node none PT.leaf (PT.node (some (IV.lst cNode x4.1)) PT.leaf PT.leaf)) PT.leaf) PT.leaf) (PT.node none (PT.node none (PT.node none PT.leaf (PT.node (some (IV.int Go.IntKind.i64 p.1)) PT.leaf PT.leaf)) PT.leaf) PT.leaf))) (IS.mk (PT.node (some (IObj.row (List.cons IV.nilsl (List.cons IV.nilsl [])))) (PT.node (some (IObj.row (List.cons (IV.int Go.IntKind.i64 (Int.ofNat 0)) (List.cons (IV.str (S.lit [])) [])))) (PT.node (some (IObj.arr cNode p.2)) PT.leaf PT.leaf) PT.leaf) (PT.node (some (IObj.row (List.cons (IV.arr 3) (List.cons (IV.lst cVal x4.2) [])))) PT.leaf PT.leaf)) 4) [] 0)
def enc_p_Convert_15 (x1 : (List DForm)) (x2 : (List DForm)) (x3 : (List DRule)) (x4 : DGraph) (p : (List DCol) × (List DVal) × (List DCol) × ByteArray × Int × (List DVal) × Int × Int × (List DNode)) : NRes := (NRes.mk (PT.node (some (IV.lst cForm x1)) (PT.node (some (IV.lst cForm x2)) (PT.node none (PT.node none (PT.node (some (IV.ptr 3 0)) PT.leaf PT.leaf) PT.leaf) (PT.node none (PT.node (some (IV.ptr 5 0)) PT.leaf PT.leaf) PT.leaf)) (PT.node none (PT.node (some (IV.ptr 1 0)) (PT.node none PT.leaf (PT.node (some (IV.int Go.IntKind.i64 (Int.ofNat (List.length x4.1)))) (PT.node (some (IV.int Go.IntKind.i64 (Int.ofNat (List.length p.2.2.1)))) PT.leaf PT.leaf) PT.leaf)) PT.leaf) (PT.node (some (IV.ptr 2 0)) PT.leaf PT.leaf))) (PT.node (some (IV.lst cRule x3)) (PT.node none (PT.node (some (IV.ptr 0 0)) (PT.node (some (IV.ptr 4 0)) PT.leaf (PT.node (some (IV.lst cNode x4.1)) (PT.node (some (IV.lst cCol p.2.2.1)) PT.leaf PT.leaf) PT.leaf)) PT.leaf) PT.leaf) (PT.node none (PT.node none (PT.node (some (IV.lst cCol p.1)) PT.leaf (PT.node (some (IV.int Go.IntKind.i64 p.2.2.2.2.2.2.1)) (PT.node (some (IV.int Go.IntKind.i64 p.2.2.2.2.1)) PT.leaf PT.leaf) PT.leaf)) PT.leaf) (PT.node (some (IV.int Go.IntKind.i64 p.2.2.2.2.2.2.2.1)) PT.leaf PT.leaf)))) (IS.mk (PT.node (some (IObj.row (List.cons IV.nilsl (List.cons IV.nilsl [])))) (PT.node (some (IObj.row (List.cons (IV.int Go.IntKind.i64 (Int.ofNat 0)) (List.cons (IV.str (S.lit [])) [])))) (PT.node (some (IObj.row (List.cons (IV.str p.2.2.2.1) (List.cons (IV.lst cVal p.2.1) [])))) (PT.node (some (IObj.arr cVal p.2.2.2.2.2.1)) PT.leaf PT.leaf) PT.leaf) (PT.node (some (IObj.row (List.cons (IV.str (Go.Proofs.Ytcnhjofpmpipfaa.S.ruleOf x3 p.2.2.2.1).1.2.1) (List.cons (IV.arr 7) [])))) PT.leaf PT.leaf)) (PT.node (some (IObj.row (List.cons (IV.arr 6) (List.cons (IV.lst cVal x4.2) [])))) (PT.node (some (IObj.row (List.cons (IV.str (Go.Proofs.Ytcnhjofpmpipfaa.S.ruleOf x3 p.2.2.2.1).1.1) (List.cons (IV.str (Go.Proofs.Ytcnhjofpmpipfaa.S.ruleOf x3 p.2.2.2.1).1.2.1) (List.cons (IV.lst cGive (Go.Proofs.Ytcnhjofpmpipfaa.S.ruleOf x3 p.2.2.2.1).1.2.2) []))))) PT.leaf PT.leaf) (PT.node (some (IObj.arr cNode p.2.2.2.2.2.2.2.2)) PT.leaf PT.leaf))) 8) [] 0)
def R_p_Convert_in (lf : Nat) (x1 : (List DForm)) (x2 : (List DForm)) (x3 : (List DRule)) (x4 : DGraph) (L9 : (Int × (List DNode)) → Option Rt_p_Convert) : Option Rt_p_Convert := (cond (Bool.not (ieqI (Go.Proofs.Ytcnhjofpmpipfaa.S.first (List.cons (Go.Proofs.Ytcnhjofpmpipfaa.S.checkRules x1 x2 x3) [])) (Int.ofNat 0))) (some (([], []), (((Int.ofNat 0), (S.lit [])), ((Go.Proofs.Ytcnhjofpmpipfaa.S.first (List.cons (Go.Proofs.Ytcnhjofpmpipfaa.S.checkRules x1 x2 x3) [])), ())))) (cond (Bool.not (ieqI (Go.Proofs.Ytcnhjofpmpipfaa.S.check x1 (x4.1, x4.2)) (Int.ofNat 0))) (some (([], []), (((Int.ofNat 0), (S.lit [])), ((Go.Proofs.Ytcnhjofpmpipfaa.S.check x1 (x4.1, x4.2)), ())))) (L9 ((Int.ofNat 0), []))))
def R_p_Convert_9 (lf : Nat) (x1 : (List DForm)) (x2 : (List DForm)) (x3 : (List DRule)) (x4 : DGraph) (L15 : ((List DCol) × (List DVal) × (List DCol) × ByteArray × Int × (List DVal) × Int × Int × (List DNode)) → Option Rt_p_Convert) (p : Int × (List DNode)) : Option Rt_p_Convert := (cond (iltI p.1 (Int.ofNat (List.length x4.1))) (match (jget x4.1 p.1) with | .none  => none | .some v0 => (match (jget x1 (Go.Proofs.Ytcnhjofpmpipfaa.S.form x1 v0.1)) with | .none  => none | .some v1 => (match (jget x2 (Go.Proofs.Ytcnhjofpmpipfaa.S.form x2 (Go.Proofs.Ytcnhjofpmpipfaa.S.ruleOf x3 v0.1).1.2.1)) with | .none  => none | .some v2 => (L15 (v1.2, v0.2, v2.2, v0.1, (Int.ofNat 0), [], p.1, p.1, p.2))))) (some ((p.2, x4.2), (((Int.ofNat 0), (S.lit [])), ((Int.ofNat 0), ())))))
def R_p_Convert_15 (lf : Nat) (x1 : (List DForm)) (x2 : (List DForm)) (x3 : (List DRule)) (x4 : DGraph) (L15 : ((List DCol) × (List DVal) × (List DCol) × ByteArray × Int × (List DVal) × Int × Int × (List DNode)) → Option Rt_p_Convert) (L9 : (Int × (List DNode)) → Option Rt_p_Convert) (p : (List DCol) × (List DVal) × (List DCol) × ByteArray × Int × (List DVal) × Int × Int × (List DNode)) : Option Rt_p_Convert := (cond (iltI p.2.2.2.2.1 (Int.ofNat (List.length p.2.2.1))) (match (jget p.2.2.1 p.2.2.2.2.1) with | .none  => none | .some v0 => (match (jget (Go.Proofs.Ytcnhjofpmpipfaa.S.ruleOf x3 p.2.2.2.1).1.2.2 p.2.2.2.2.1) with | .none  => none | .some v1 => (match (cond (Go.Proofs.Ytcnhjofpmpipfaa.S.madePre (v1.1, (v1.2.1, v1.2.2)) p.1 p.2.1) (some ((Go.Proofs.Ytcnhjofpmpipfaa.S.made (v1.1, (v1.2.1, v1.2.2)) p.1 p.2.1 (v0.1, (v0.2.1, v0.2.2))).1, ((Go.Proofs.Ytcnhjofpmpipfaa.S.made (v1.1, (v1.2.1, v1.2.2)) p.1 p.2.1 (v0.1, (v0.2.1, v0.2.2))).2, ()))) none) with | .none  => none | .some v2 => (cond (Bool.not v2.2.1) (some (([], []), ((p.2.2.2.2.2.2.2.1, v0.1), ((Int.ofNat 10), ())))) (cond (Nat.ble (Nat.mul (Nat.add (List.length p.2.2.2.2.2.1) 1) 16) 140737488355328) (L15 (p.1, p.2.1, p.2.2.1, p.2.2.2.1, (Go.IntKind.wrap Go.IntKind.i64 (Int.add p.2.2.2.2.1 (Int.ofNat 1))), (List.append p.2.2.2.2.2.1 (List.cons (v2.1.1, v2.1.2) [])), p.2.2.2.2.2.2.1, p.2.2.2.2.2.2.2.1, p.2.2.2.2.2.2.2.2)) none))))) (cond (Nat.ble (Nat.mul (Nat.add (List.length p.2.2.2.2.2.2.2.2) 1) 40) 140737488355328) (L9 ((Go.IntKind.wrap Go.IntKind.i64 (Int.add p.2.2.2.2.2.2.1 (Int.ofNat 1))), (List.append p.2.2.2.2.2.2.2.2 (List.cons ((Go.Proofs.Ytcnhjofpmpipfaa.S.ruleOf x3 p.2.2.2.1).1.2.1, p.2.2.2.2.2.1) [])))) none))
theorem in_p_Convert (g : ElA [(.list cForm), (.list cForm), (.list cRule), cGraph] → Option Rt_p_Convert) (J : Nat → List Nat → NRes → Option Rt_p_Convert) (lf : Nat) (x1 : (List DForm)) (x2 : (List DForm)) (x3 : (List DRule)) (x4 : DGraph) : icodeT Try.prog ttT.get nm_p_Convert fi28.nt (cl_p_Convert _ lf) lf st_p_Convert J fi28.body [] (argGo (argV [(.list cForm), (.list cForm), (.list cRule), cGraph] (x1, x2, x3, x4, ())) 0 .leaf) S0 [] (lastK ttT.get fi28 ⟨[(.list cForm), (.list cForm), (.list cRule), cGraph], [(false, cGraph), (false, cRefusal), (false, (.int .i64))], g⟩) = R_p_Convert_in lf x1 x2 x3 x4 (fun q => J 9 [lf] (enc_p_Convert_9 x1 x2 x3 x4 q)) := by kernel_rfl
theorem st_p_Convert_9 (g : ElA [(.list cForm), (.list cForm), (.list cRule), cGraph] → Option Rt_p_Convert) (J : Nat → List Nat → NRes → Option Rt_p_Convert) (lf : Nat) (x1 : (List DForm)) (x2 : (List DForm)) (x3 : (List DRule)) (x4 : DGraph) (m1 : Nat) (p : Int × (List DNode)) : icodeFT Try.prog ttT.get nm_p_Convert fi28.nt (cl_p_Convert _ lf) lf st_p_Convert J 9 fi28.body [] [m1] (enc_p_Convert_9 x1 x2 x3 x4 p) (lastK ttT.get fi28 ⟨[(.list cForm), (.list cForm), (.list cRule), cGraph], [(false, cGraph), (false, cRefusal), (false, (.int .i64))], g⟩) = R_p_Convert_9 lf x1 x2 x3 x4 (fun q => J 15 [m1, lf] (enc_p_Convert_15 x1 x2 x3 x4 q)) p := by kernel_rfl
theorem st_p_Convert_15 (g : ElA [(.list cForm), (.list cForm), (.list cRule), cGraph] → Option Rt_p_Convert) (J : Nat → List Nat → NRes → Option Rt_p_Convert) (lf : Nat) (x1 : (List DForm)) (x2 : (List DForm)) (x3 : (List DRule)) (x4 : DGraph) (m1 : Nat) (m2 : Nat) (p : (List DCol) × (List DVal) × (List DCol) × ByteArray × Int × (List DVal) × Int × Int × (List DNode)) : icodeFT Try.prog ttT.get nm_p_Convert fi28.nt (cl_p_Convert _ lf) lf st_p_Convert J 15 fi28.body [] [m1, m2] (enc_p_Convert_15 x1 x2 x3 x4 p) (lastK ttT.get fi28 ⟨[(.list cForm), (.list cForm), (.list cRule), cGraph], [(false, cGraph), (false, cRefusal), (false, (.int .i64))], g⟩) = R_p_Convert_15 lf x1 x2 x3 x4 (fun q => J 15 [m1, m2] (enc_p_Convert_15 x1 x2 x3 x4 q)) (fun q => J 9 [m1] (enc_p_Convert_9 x1 x2 x3 x4 q)) p := by kernel_rfl
theorem nd_p_Convert : (regs fi28.body).Nodup := by decide +kernel
theorem ok_p_Convert : okC nm_p_Convert st_p_Convert hd_p_Convert fi28.body none = true := by kernel_rfl
def A_p_Convert (g : ElA [(.list cForm), (.list cForm), (.list cRule), cGraph] → Option Rt_p_Convert) (lf : Nat) : Nat → List Nat → NRes → Option Rt_p_Convert := atN Try.prog ttT.get nm_p_Convert fi28 ⟨[(.list cForm), (.list cForm), (.list cRule), cGraph], [(false, cGraph), (false, cRefusal), (false, (.int .i64))], g⟩ (cl_p_Convert _ lf) lf hd_p_Convert
def G_p_Convert_15 (lf : Nat) (x1 : (List DForm)) (x2 : (List DForm)) (x3 : (List DRule)) (x4 : DGraph) (K9 : (Int × (List DNode)) → Option Rt_p_Convert) : Nat → ((List DCol) × (List DVal) × (List DCol) × ByteArray × Int × (List DVal) × Int × Int × (List DNode)) → Option Rt_p_Convert := rounds fun K p => R_p_Convert_15 lf x1 x2 x3 x4 K K9 p
theorem at_p_Convert_15 (g : ElA [(.list cForm), (.list cForm), (.list cRule), cGraph] → Option Rt_p_Convert) (lf : Nat) (x1 : (List DForm)) (x2 : (List DForm)) (x3 : (List DRule)) (x4 : DGraph) (m1 : Nat) : ∀ (n : Nat) (p : (List DCol) × (List DVal) × (List DCol) × ByteArray × Int × (List DVal) × Int × Int × (List DNode)), A_p_Convert g lf 15 [m1, n] (enc_p_Convert_15 x1 x2 x3 x4 p) = G_p_Convert_15 lf x1 x2 x3 x4 (fun q => A_p_Convert g lf 9 [m1] (enc_p_Convert_9 x1 x2 x3 x4 q)) n p
  | 0, p => atN_zero 15 [m1, 0] rfl _
  | n + 1, p => by
    have ih := at_p_Convert_15 g lf x1 x2 x3 x4 m1 n
    refine (atN_eq (icallK_eq 20 _) nd_p_Convert ok_p_Convert 15 [m1, n + 1] [m1, n] rfl _).trans ((st_p_Convert_15 g (A_p_Convert g lf) lf x1 x2 x3 x4 m1 n p).trans ?_)
    rw [(show (fun q => A_p_Convert g lf 15 [m1, n] (enc_p_Convert_15 x1 x2 x3 x4 q)) = (fun q => G_p_Convert_15 lf x1 x2 x3 x4 (fun q => A_p_Convert g lf 9 [m1] (enc_p_Convert_9 x1 x2 x3 x4 q)) n q) from funext ih)]
    rfl
def G_p_Convert_9 (lf : Nat) (x1 : (List DForm)) (x2 : (List DForm)) (x3 : (List DRule)) (x4 : DGraph) : Nat → (Int × (List DNode)) → Option Rt_p_Convert := rounds fun K p => R_p_Convert_9 lf x1 x2 x3 x4 (fun q => G_p_Convert_15 lf x1 x2 x3 x4 K lf q) p
theorem at_p_Convert_9 (g : ElA [(.list cForm), (.list cForm), (.list cRule), cGraph] → Option Rt_p_Convert) (lf : Nat) (x1 : (List DForm)) (x2 : (List DForm)) (x3 : (List DRule)) (x4 : DGraph) : ∀ (n : Nat) (p : Int × (List DNode)), A_p_Convert g lf 9 [n] (enc_p_Convert_9 x1 x2 x3 x4 p) = G_p_Convert_9 lf x1 x2 x3 x4 n p
  | 0, p => atN_zero 9 [0] rfl _
  | n + 1, p => by
    have ih := at_p_Convert_9 g lf x1 x2 x3 x4 n
    refine (atN_eq (icallK_eq 20 _) nd_p_Convert ok_p_Convert 9 [n + 1] [n] rfl _).trans ((st_p_Convert_9 g (A_p_Convert g lf) lf x1 x2 x3 x4 n p).trans ?_)
    rw [(show (fun q => A_p_Convert g lf 15 [n, lf] (enc_p_Convert_15 x1 x2 x3 x4 q)) = (fun q => G_p_Convert_15 lf x1 x2 x3 x4 (fun q => A_p_Convert g lf 9 [n] (enc_p_Convert_9 x1 x2 x3 x4 q)) lf q) from funext fun q => at_p_Convert_15 g lf x1 x2 x3 x4 n lf q), (show (fun q => A_p_Convert g lf 9 [n] (enc_p_Convert_9 x1 x2 x3 x4 q)) = (fun q => G_p_Convert_9 lf x1 x2 x3 x4 n q) from funext ih)]
    rfl
def F_p_Convert (lf : Nat) (x1 : (List DForm)) (x2 : (List DForm)) (x3 : (List DRule)) (x4 : DGraph) : Option Rt_p_Convert := R_p_Convert_in lf x1 x2 x3 x4 (fun q => G_p_Convert_9 lf x1 x2 x3 x4 lf q)
theorem run_p_Convert (g : ElA [(.list cForm), (.list cForm), (.list cRule), cGraph] → Option Rt_p_Convert) (lf : Nat) (x1 : (List DForm)) (x2 : (List DForm)) (x3 : (List DRule)) (x4 : DGraph) : icodeT Try.prog ttT.get nm_p_Convert fi28.nt (cl_p_Convert _ lf) lf st_p_Convert (A_p_Convert g lf) fi28.body [] (argGo (argV [(.list cForm), (.list cForm), (.list cRule), cGraph] (x1, x2, x3, x4, ())) 0 .leaf) S0 [] (lastK ttT.get fi28 ⟨[(.list cForm), (.list cForm), (.list cRule), cGraph], [(false, cGraph), (false, cRefusal), (false, (.int .i64))], g⟩) = F_p_Convert lf x1 x2 x3 x4 := by
    refine (in_p_Convert g (A_p_Convert g lf) lf x1 x2 x3 x4).trans ?_
    rw [(show (fun q => A_p_Convert g lf 9 [lf] (enc_p_Convert_9 x1 x2 x3 x4 q)) = (fun q => G_p_Convert_9 lf x1 x2 x3 x4 lf q) from funext fun q => at_p_Convert_9 g lf x1 x2 x3 x4 lf q)]
    rfl
theorem hxs_p_Convert : HxsOK Try.prog hxl_p_Convert := trivial
theorem mk_p_Convert {g : ElA [(.list cForm), (.list cForm), (.list cRule), cGraph] → Option Rt_p_Convert} (hsm : SmOK Try.prog sml_p_Convert) (hg : ∀ (x : ElA [(.list cForm), (.list cForm), (.list cRule), cGraph]) (y : Rt_p_Convert), WfA [(.list cForm), (.list cForm), (.list cRule), cGraph] x → g x = some y → ∃ lf, F_p_Convert lf x.1 x.2.1 x.2.2.1 x.2.2.2.1 = some y) : Con Try.prog 28 ⟨[(.list cForm), (.list cForm), (.list cRule), cGraph], [(false, cGraph), (false, cRefusal), (false, (.int .i64))], g⟩ :=
  conT (nmf := nm_p_Convert) (sml := sml_p_Convert) (hxl := hxl_p_Convert) (st := st_p_Convert) (hd := hd_p_Convert) 20 mixed ttOK ftOK hsm hxs_p_Convert cal28 rfl rfl (by kernel_rfl) (fun x => by kernel_rfl) nd_p_Convert ok_p_Convert fun x y hx hy => by
    obtain ⟨lf, h⟩ := hg x y hx hy
    exact ⟨lf, (run_p_Convert g lf x.1 x.2.1 x.2.2.1 x.2.2.2.1).trans h⟩
end Go.Proofs.Ytcnhjofpmpipfaa

end
end

/- What a call leaves that makes an empty list. -/
section
set_option linter.unusedVariables false
namespace Go.Jx
open Go Go.Sx Go.RowKit
universe u
/-- No data, of so many cells. -/
inductive NoD (n : Nat) : Type
instance (n : Nat) : Dat (NoD n) where
  sz := n
  enc _ _ _ x := nomatch x
  len {_ _ _ x} _ := nomatch x
  mono {_ _ _ _ _ x} _ _ := nomatch x
  ones {_ _ _ x} _ := nomatch x
theorem own_cap {n : Nat} {m M : List Nat} {w : World} {a : Option Addr} {cap : Nat} {l : List (NoD n)} (h : Go.Sx.Own m M w a cap l) : cap < 9223372036854775808 := by
  rcases h with ⟨_, h, _⟩ | ⟨_, _, _, _, _, _, _, h, _⟩
  · omega
  · exact h.2
theorem lst_nil2 {E : Env} {c : TC} {u : Value} (h : VR E (.lst c []) u) : ∃ a cap, u = .slice a 0 cap ∧ cap < 9223372036854775808 := by
  cases h with
  | lst0 hc => exact ⟨_, _, rfl, hc⟩
  | lst us h1 h2 h3 hb hh hc hu => exact ⟨_, _, rfl, h2⟩
theorem ret_nil {M : List Nat} {w w' : World} {c : TC} {e : Ending} (hM : ∀ b ∈ M, b < w.heap.size) (h : Ret (fun v w' => ∃ a' c' m', v = .slice a' 0 c' ∧ c' < 9223372036854775808 ∧ Evo [] w m' w') e w') :
    RetE T0 (EM M w) S0 ⟨.lst c [], S0, 0, 0⟩ e w' := by
  cases e with
  | returned v =>
    obtain ⟨a, k, m, rfl, hk, ev⟩ := h
    refine ⟨_, EM M w', rfl, rfl, .lst0 hk, ⟨?_, ?_, fun id h => h.elim, Nat.le_refl _⟩, ⟨fun id h => h.elim⟩⟩
    · exact (preM (M := M) (w := w') fun b hb => Nat.lt_of_lt_of_le (hM b hb) ev.size).st
    · exact ⟨ev.os, ev.tape, ev.output, ev.size, fun b hb _ => ev.same b hb (by simp), fun id h => h.elim, fun id h => h.elim, fun id _ h => h.elim, fun b hb => .inl hb, fun b hb _ => .inl hb⟩
  | panicked c => exact h.elim
  | outgrown => exact h.elim
end Go.Jx
end

/- The calls of slices.Clone. -/
section
set_option linter.unusedVariables false
set_option maxRecDepth 100000
namespace Go.Proofs.Ytcnhjofpmpipfaa
open Go Go.Sx Go.RowKit Go.Jx

theorem cloneN_slices_Clone_Val {M : List Nat} {w : World} {a : Option Addr} {cap : Nat} (hM : Lo M w) (hc : cap < 9223372036854775808) : Calls Try.prog 74 #[.slice a 0 cap] w (Ret fun v w' => ∃ a' c' m', v = .slice a' 0 c' ∧ c' < 9223372036854775808 ∧ Evo [] w m' w') := by
  have hS : SL M w a cap ([] : List (NoD 2)) := ⟨⟨Nat.zero_le _, hc⟩, .inl rfl⟩
  refine enter (l := [.slice a 0 cap]) Try.func74 rfl Try.ntmps74 rfl ?_
  refine c_seq fun KhK1 hK1 => ?_
  refine c_reg ?_
  refine op_assign (v := .slice none 0 0) rfl rfl rfl ?_
  refine wpList_nil ?_
  refine hK1 _ _ ?_
  refine c_seq fun KhK2 hK2 => ?_
  refine c_seq fun KhK3 hK3 => ?_
  refine c_reg ?_
  refine op_move (v := .slice a 0 cap) rfl rfl rfl ?_
  refine op_nilS ty24 rfl rfl rfl rfl ?_
  refine wpList_nil ?_
  refine hK3 _ _ ?_
  refine c_ifB rfl rfl (fun hb4 => ?_) (fun hb4 => ?_)
  · refine c_seq fun KhK5 hK5 => ?_
    refine c_reg ?_
    refine op_assign (v := .slice none 0 0) rfl rfl rfl ?_
    refine wpList_nil ?_
    refine hK5 _ _ ?_
    refine wp_ret ?_
    exact ret1 Try.results74 rfl ⟨none, 0, [], rfl, by decide, Evo.refl [] w⟩
  · refine wp_skip ?_
    refine hK2 _ _ ?_
    refine c_seq fun KhK7 hK7 => ?_
    refine c_reg ?_
    refine op_buildSlice0 (α := NoD 2) (m := []) (M := M) ty24 ty51 rfl (hM.mono (Evo.refl [] w).size) fun β14 w15 hβ16 u17 hz18 ho19 => ?_
    have e20 := u17.evoN (m := []) hβ16 hz18
    refine op_move (v := .slice a 0 cap) rfl rfl rfl ?_
    refine op_append ty24 ty24 ty51 rfl rfl rfl rfl rfl rfl rfl ho19 (hS.mono (e20.tr M)) (hM.mono e20.size) (by simp) fun a22 c23 w24 m25 ho26 e27 u28 hbk29 hsub30 => ?_
    refine op_assign (v := .slice a22 (([] : List (NoD 2)) ++ []).length c23) rfl rfl rfl ?_
    refine wpList_nil ?_
    refine hK7 _ _ ?_
    refine wp_ret ?_
    exact ret1 Try.results74 rfl ⟨a22, c23, m25, rfl, own_cap ho26, e20.trans e27⟩
theorem con_slices_Clone_Val' : Con Try.prog 74 ⟨[.list cVal], [(false, .list cVal)], fun x => match x.1 with | [] => none | v :: l => some (x.1, ())⟩ := mk_slices_Clone_Val trivial fun x y hx h => ⟨0, by
  obtain ⟨l, _⟩ := x
  have hl := wf_len hx.1
  have hb := hx.1.1
  cases l with
  | nil => cases h
  | cons v l =>
    cases h
    simp only [F_slices_Clone_Val, R_slices_Clone_Val_in, List.nil_append]
    exact Eq.trans (congrArg (fun b => cond b (some (v :: l, ())) none) (Nat.ble_eq_true_of_le (Nat.le_trans (Nat.le_of_eq (congrArg (fun z => Nat.mul z 16) (Nat.zero_add _))) hb))) rfl⟩
theorem con_slices_Clone_Val : Con Try.prog id_slices_Clone_Val sp_slices_Clone_Val := by
  refine ⟨cal74, fun M w x us y hy hM hv => ?_⟩
  obtain ⟨l, _⟩ := x
  cases l with
  | cons v l => exact con_slices_Clone_Val'.calls M w (v :: l, ()) us y hy hM hv
  | nil =>
    cases hy
    obtain ⟨u, us2, rfl, h1, h2⟩ := hv.inv
    obtain rfl : us2 = [] := List.length_eq_zero_iff.1 h2.1.symm
    obtain ⟨a, cap, rfl, hc⟩ := lst_nil2 h1
    refine callsIn_wide.2 ((cloneN_slices_Clone_Val (M := M) hM hc).mono fun e w' hR => ?_)
    exact ret_nil hM hR
end Go.Proofs.Ytcnhjofpmpipfaa
end
