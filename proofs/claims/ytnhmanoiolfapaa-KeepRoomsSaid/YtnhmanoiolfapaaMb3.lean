/- Texts: Jp, Jq, Jr, Js, Jt, Jrd, Jrw, Jtab, Krd8, Ju, Jw, Jv, Jy, Jvs, Jra, Xb, Ksp, Jca, Jcb, Jcc, Jcd. -/
import Derived.Test.YtnhmanoiolfapaaMb2
import Derived.SizedLaws
import Derived.ProofKit
import Derived.Deep.Slices
import Derived.Lib.SmallJoins
import Derived.Carry
import Derived.Test.YtnhmanoiolfapaaProg
import Derived.KernelRfl
import Derived.Test.YtnhmanoiolfapaaMb1
import Derived.Laws.RangeAny
set_option linter.unusedVariables false
section
namespace Go.Jx
open Go Go.Sx Go.RowKit
universe u

def FrX(S S':IS)(wr:Nat):Prop:=S.next<=S'.next/\∀id,id<S.next->wr.testBit id=false->S'.H id=S.H id
theorem FrX.refl(S:IS)(wr:Nat):FrX S S wr:=⟨jaq _,fun _ _ _=>rfl⟩
theorem FrX.trans{S S1 S2:IS}{w1 w2:Nat}(h:FrX S S1 w1)(k:FrX S1 S2 w2):FrX S S2 (w1 ||| w2) :=
 ⟨jbj h.1 k.1,fun id hid hb=>by
  simp only[jcc,jcd] at hb;rw[k.2 id (jbf hid h.1) hb.2,h.2 id hid hb.1]⟩
theorem FrX.set(S:IS)(id:Nat)(o:IObj):FrX S (S.set id o) (2 ^ id) :=
 ⟨jaq _,fun k hk hb=>by rw[IS.H_set,up_ne _ _ (qgz hb)]⟩
theorem FrX.new(S:IS)(o:IObj)(wr:Nat):FrX S (S.new o) wr :=
 ⟨Nat.le_succ _,fun k hk hb=>by rw[IS.H_new,up_ne _ _ (by omega)]⟩
theorem FrX.newTrans{S S':IS}{o:IObj}{wr:Nat}(k:FrX (S.new o) S' wr):FrX S S' wr:=by
 have:=(FrX.new S o 0).trans k
 rwa [jep] at this
theorem FrX.comm{S S':IS}{a b:Nat}(h:FrX S S' (a ||| b)):FrX S S' (b ||| a):=by rwa [Nat.or_comm]
def FrXB(B:Nat)(S S':IS)(wr:Nat):Prop:=B<=S'.next/\∀id,id<B->wr.testBit id=false->S'.H id=S.H id
theorem FrX.toB{B:Nat}{S S':IS}{wr:Nat}(hB:B<=S.next)(h:FrX S S' wr):FrXB B S S' wr:=⟨jbj hB h.1,fun id hid hb=>h.2 id (jbf hid hB) hb⟩
theorem FrXB.trans{B:Nat}{S S1 S2:IS}{w1 w2:Nat}(h:FrXB B S S1 w1)(k:FrXB B S1 S2 w2):FrXB B S S2 (w1 ||| w2) :=
 ⟨k.1,fun id hid hb=>by
  simp only[jcc,jcd] at hb;rw[k.2 id hid hb.2,h.2 id hid hb.1]⟩
theorem FrXB.full{S S':IS}{wr:Nat}(h:FrXB S.next S S' wr):FrX S S' wr:=h
theorem qnp{S S':IS}{c:TC}{v v':IV}{w:Nat}(h:coeV S c v=some (v',S',w)):FrX S S' w:=by
 unfold coeV at h;split at h<;>try cases h
 ·exact FrX.new _ _ _
 ·split at h<;>try cases h
  rename_i c' l ho;cases hb:TC.beq c' c<;>rw[hb] at h<;>cases h;exact FrX.refl _ _
 ·rename_i id off len s cap0;split at h<;>try cases h
  rename_i cs ho;cases hb:(Nat.beq off 0&&Nat.beq s (csz c)&&Nat.ble (len*s) cs.length&&Nat.ble (len*bsz c) 140737488355328&&qpg c) with
  | false=>rw[hb] at h;cases h
  | true =>
  rw[hb,jab] at h;split at h<;>cases h;rename_i l _ _;have:=(FrX.set S id .dead).trans (FrX.new (S.set id .dead) (.arr c l) 0)
  rwa [jfo] at this
theorem q2v{nt:Nat}:∀(l:List (Nat × TC)) {fr fr':PT IV} {S S':IS} {w:Nat},coeS nt l fr S=some (fr',S',w)->FrX S S' w
 | [],fr,fr',S,S',w,h=>by cases h;exact FrX.refl _ _
 | (t,c)::l,fr,fr',S,S',w,h=>by
  simp only[coeS] at h;cases hb:Nat.blt t nt with
  | false=>rw[hb] at h;cases h
  | true =>
  rw[hb,jab] at h;split at h
  ·cases h
  rename_i h1;split at h<;>cases h;rename_i h2;exact(qnp h1).trans (q2v l h2)
theorem q7n{fr:PT IV}{S S':IS}{t off:Nat}{c:TC}{w:Nat}(h:qjr fr S t off c=some (S',w)):FrX S S' w:=by
 unfold qjr at h;split at h<;>try cases h
 split at h<;>try cases h
 split at h<;>try cases h
 split at h
 ·cases h
 rename_i h1;split at h<;>try cases h
 rename_i cs1 ho1;cases hb:Nat.blt _ cs1.length with
 | false=>rw[hb] at h;cases h
 | true =>
 rw[hb,jab] at h;cases h;exact(qnp h1).trans (FrX.set _ _ _)
theorem q24{nt:Nat}{fr:PT IV}:∀(l:List (Nat × Nat × TC)) {S S':IS} {w:Nat},coeC nt fr l S=some (S',w)->FrX S S' w
 | [],S,S',w,h=>by cases h;exact FrX.refl _ _
 | (t,off,c)::l,S,S',w,h=>by
  simp only[coeC] at h;cases hb:Nat.blt t nt with
  | false=>rw[hb] at h;cases h
  | true =>
  rw[hb,jab] at h;split at h
  ·cases h
  rename_i h1;split at h<;>cases h;rename_i h2;exact(q7n h1).trans (q24 l h2)
theorem qmg{kc vc:TC}{v:IV}{S S':IS}{w:Nat}(h:qfa S kc vc v=some (S',w)):FrX S S' w:=by
 unfold qfa at h;split at h<;>try cases h
 split at h<;>try cases h
 ·cases hb:(qdp kc&&qdp vc) with
  | false=>rw[hb] at h;cases h
  | true =>
  rw[hb,jab] at h;split at h<;>cases h;exact FrX.set _ _ _
 ·exact FrX.refl _ _
theorem q1z{nt:Nat}{fr:PT IV}:∀(l:List (Nat × TC × TC)) {S S':IS} {w:Nat},coeM nt fr l S=some (S',w)->FrX S S' w
 | [],S,S',w,h=>by cases h;exact FrX.refl _ _
 | (t,kc,vc)::l,S,S',w,h=>by
  simp only[coeM] at h;cases hb:Nat.blt t nt with
  | false=>rw[hb] at h;cases h
  | true =>
  rw[hb,jab] at h;split at h
  ·cases h
  rename_i h1;split at h<;>cases h;rename_i h2;exact(qmg h1).trans (q1z l h2)
theorem q19{nt:Nat}{fr:PT IV}:∀(l:List (Nat × Nat × TC × TC)) {S S':IS} {w:Nat},coeD nt fr l S=some (S',w)->FrX S S' w
 | [],S,S',w,h=>by cases h;exact FrX.refl _ _
 | (t,off,kc,vc)::l,S,S',w,h=>by
  simp only[coeD] at h;cases hb:Nat.blt t nt with
  | false=>rw[hb] at h;cases h
  | true =>
  rw[hb,jab] at h;split at h
  ·cases h
  split at h
  ·cases h
  rename_i h1;split at h<;>cases h;rename_i h2;exact(FrX.refl S _).trans ((qmg h1).trans (q19 l h2))
theorem q5n{S:IS}{B:Nat}:∀{k id:Nat},id<k->(qpr S B k).testBit id=false->∀o,S.heap.get id=some o->lowO B o=true
 | 0,id,h,_,o,_=>absurd h (by omega)
 | k+1,id,h,hb,o,ho=>by
  unfold qpr at hb;rw[jcc,jcd] at hb;by_cases e:id=k
  ·subst e;have h2:=hb.2;rw[ho] at h2;cases hl:lowO B o with
   | true=>rfl
   | false=>simp only[hl,jah,jdu] at h2;cases h2
  ·exact q5n (by omega) hb.1 o ho
theorem qx4:∀{ds:List Nat} {S S':IS} {w:Nat},qho ds S=some (S',w)->FrX S S' w
 | [],S,S',w,h=>by cases h;exact FrX.refl _ _
 | D::ds,S,S',w,h=>by
  unfold qho at h;split at h<;>try cases h
  split at h<;>cases h;rename_i h1;exact(FrX.set _ _ _).trans (qx4 h1)
theorem za5{nt B:Nat}{m:Option Nm}{fr:PT IV}{S:IS}{ds:List Nat}{x:NRes}(hB:B<=S.next)(h:qcc nt m B fr S ds=some x):FrXB B S x.S x.wr:=by
 unfold qcc at h;split at h
 ·cases h;exact(FrX.refl _ _).toB hB
 rename_i m;cases hfo:m.fo with
 | true=>rw[hfo,jab] at h;cases h;exact(FrX.refl _ _).toB hB
 | false =>
 rw[hfo,jah] at h;split at h
 ·cases h
 rename_i fr1 S1 w1 h1;split at h
 ·cases h
 rename_i S2 w2 h2;split at h
 ·cases h
 rename_i S3 w3 h3;split at h
 ·cases h
 rename_i S4 w4 h4;split at h
 ·cases h
 rename_i S5 w5 h5;simp only at h;generalize clos S5 B 1000 (m.keep.flatMap (fun t=>ids2 (slot fr1 t))++qny S5 B) []=q at h;cases hb:(ndB q&&q.all (fun id=>Nat.ble B id)) with
 | false=>rw[hb] at h;cases h
 | true =>
 rw[hb,jab] at h;cases h;have f4:=((q2v _ h1).trans ((q24 _ h2).trans ((q1z _ h3).trans ((q19 _ h4).trans (qx4 h5))))).toB hB;refine f4.trans ⟨jdz _ _,fun id hid hbit=>?_⟩;rw[qp5,jam hid];unfold IS.H;cases ho:S5.heap.get id with
 | none=>rfl
 | some o=>simp only[qfq,q5n hid hbit o ho,jab]
section
variable {P : Program} {tt : Nat -> Option TI} {T : TW} {nt lf : Nat} {cl : Cl} {F : Fence} {round : Option Nat} {nm : Nat -> Option Nm} {B : Nat}
theorem qqq(hcl:ClFr cl){ops:List Oper}:∀{l:List Oper} {fr:PT IV} {S:IS} {q:FRes},iseq P tt nt cl ops l fr S=some q->FrX S q.S q.wr
 | [],fr,S,q,h=>by cases h;exact FrX.refl _ _
 | o::l,fr,S,q,h=>by
  unfold iseq at h;cases hgk:gOK ops fr o.guard with
  | false=>rw[hgk] at h;cases h
  | true =>
  rw[hgk,jab] at h;cases hw:qc3 ops nt fr o.guard with
  | true =>
   rw[hw,jab] at h;split at h
   ·cases h
   rename_i r hr;split at h<;>cases h;rename_i q hq;exact FrX.trans (qqt hcl _ hr) (qqq hcl hq)
  | false=>rw[hw,jah] at h;exact qqq hcl h
theorem qp6(hcl:ClFr cl){ops:List Oper}:∀{l:List Oper} {fr:PT IV} {S:IS} {q:Recs},qc2 P tt nt cl ops l fr S=some q->FrX S q.S (orWr q.l)
 | [],fr,S,q,h=>by cases h;exact FrX.refl _ _
 | o::l,fr,S,q,h=>by
  unfold qc2 at h;cases hgk:gOK ops fr o.guard with
  | false=>rw[hgk] at h;cases h
  | true =>
  rw[hgk,jab] at h;cases hw:qc3 ops nt fr o.guard with
  | true =>
   rw[hw,jab] at h;split at h
   ·cases h
   rename_i r hr;split at h<;>cases h;rename_i q hq;exact FrX.trans (qqt hcl _ hr) (qp6 hcl hq)
  | false =>
   rw[hw,jah] at h;split at h<;>cases h;rename_i q hq;have:=qp6 hcl hq;show FrX S q.S (0 ||| orWr q.l);rw[jep];exact this
theorem zmf(hcl:ClFr cl){ops:List Oper}{fr:PT IV}{S:IS}{q:FRes}(h:iany P tt nt cl ops fr S=some q):FrX S q.S q.wr:=by
 unfold iany at h;split at h
 ·cases h
 rename_i q0 hq;cases hc:ichk q0.l q0.S (befs ops []) [] with
 | true=>rw[hc,jab] at h;cases h;exact qp6 hcl hq
 | false=>rw[hc] at h;cases h
theorem q1k(hcl:ClFr cl){f:Nat}{caps:List IV}{S:IS}{id:Nat}{fr:PT IV}{ds:List Nat}{rd:Nat}{r:CRes}(h:ifin cl f caps S id fr ds rd=some r):FrX S r.S r.wr:=by
 unfold ifin at h;split at h
 ·cases h
 rename_i r1 hr1;have h1:FrX S r1.S r1.wr:=hcl _ _ _ _ hr1;split at h<;>try cases h
 split at h
 ·cases h
 ·split at h
  ·cases h;exact FrX.trans h1 (FrX.set _ _ _)
  ·split at h<;>cases h;exact FrX.trans h1 (FrX.set _ _ _)
theorem qqe{B:Nat}{S:IS}{r:CRes}(h:FrXB B S r.S r.wr):FrXB B S (mbR B r).S (mbR B r).wr:=by
 refine⟨h.1,fun id hid hb=>?_⟩;have hb:(mb B r.wr).testBit id=false:=hb;unfold mb at hb;cases h0:Nat.beq B 0 with
 | true =>
  have:B=0:=jaj h0;omega
 | false=>rw[h0] at hb;exact h.2 id hid hb
theorem qu9(hz:frzF nm=false)(hcl:ClFr cl):∀(c:Code) {fr:PT IV} {S:IS} {ds:List Nat} {r:CRes},B<=S.next->qaj P tt nm B nt cl lf round c fr S ds=some r->FrXB B S r.S r.wr:=by
 have eB:mB nm B=B:=by unfold mB;rw[hz];rfl
 intro c;induction c with
 | skip=>intro fr S ds r hB h;cases h;exact(FrX.refl _ _).toB hB
 | label l=>intro fr S ds r hB h;cases h;exact(FrX.refl _ _).toB hB
 | exit id=>intro fr S ds r hB h;cases h;exact(FrX.refl _ _).toB hB
 | goto l=>intro fr S ds r hB h;cases h;exact(FrX.refl _ _).toB hB
 | ret=>intro fr S ds r hB h;cases h;exact(FrX.refl _ _).toB hB
 | refuse _=>intro fr S ds r hB h;cases h
 | region id ops draw =>
  intro fr S ds r hB h;simp only[qaj] at h;have h0:=qgd h;clear h;obtain⟨r,h,rfl⟩:=h0;rw[eB];refine qqe ?_;split at h
  ·cases h
  rename_i x hx;split at h<;>cases h;rename_i q hq;have h0:=za5 hB hx;cases draw with
  | true=>rw[jab] at hq;exact h0.trans ((zmf hcl hq).toB h0.1)
  | false=>rw[jah] at hq;exact h0.trans ((qqq hcl hq).toB h0.1)
 | seq x y ihx ihy =>
  intro fr S ds r hB h;simp only[qaj] at h;split at h
  ·cases h
  rename_i r1 hr1;split at h
  ·split at h<;>cases h;rename_i q hq;exact FrXB.trans (ihx hB hr1) (ihy (ihx hB hr1).1 hq)
  ·cases h;exact ihx hB hr1
 | cond c x y ihx ihy =>
  intro fr S ds r hB h;simp only[qaj] at h;split at h<;>try cases h
  rename_i b hb;cases b with
  | true=>exact ihx hB h
  | false=>exact ihy hB h
 | block id c ih =>
  intro fr S ds r hB h;simp only[qaj] at h;split at h
  ·cases h
  rename_i r1 hr1;split at h
  ·rename_i id' he;cases hid:Nat.beq id' id with
   | true=>rw[hid,jab] at h;cases h;exact(ih hB hr1:FrXB B S r1.S r1.wr)
   | false=>rw[hid,jah] at h;cases h;exact ih hB hr1
  ·cases h;exact ih hB hr1
 | scope c ih =>
  intro fr S ds r hB h;simp only[qaj] at h;split at h
  ·cases h
  rename_i r1 hr1;split at h
  ·cases h
  ·cases h;exact ih hB hr1
 | loop c ih =>
  intro fr S ds r hB h;simp only[qaj] at h;split at h
  ·rename_i m hm;have h0:=qgd h;clear h;obtain⟨r,h,rfl⟩:=h0;rw[eB];refine qqe ?_;have key:∀(j:Nat) (fr:PT IV) (S:IS) (ds:List Nat) (r:CRes),B<=S.next->qcq (qaj P tt nm B nt cl lf round c) m.1 m.2 j fr S ds=some r->FrXB B S r.S m.2/\r.wr=m.2:=by
    intro j;induction j with
    | zero=>intro fr S ds r hB h;cases h
    | succ j ihj =>
     intro fr S ds r hB h;unfold qcq at h;split at h
     ·cases h
     rename_i r1 hr1;cases hb:(subm r1.rd m.1&&subm r1.wr m.2) with
     | false=>rw[hb] at h;cases h
     | true =>
     rw[hb,jab] at h;simp only[jae] at hb;have f1:=ih hB hr1;have e:r1.wr ||| m.2=m.2:=jaj hb.2;split at h
     ·obtain⟨f2,e2⟩:=ihj _ _ _ _ f1.1 h;have:=f1.trans f2;rw[e] at this;exact⟨this,e2⟩
     ·cases h;have:=f1.trans (FrX.refl r1.S m.2 |>.toB f1.1);rw[e] at this;exact⟨this,rfl⟩
   obtain⟨k1,k2⟩:=key _ _ _ _ _ hB h;rw[k2];exact k1
  have key:∀(j:Nat) (fr:PT IV) (S:IS) (ds:List Nat) (r:CRes),B<=S.next->qek (qaj P tt nm B nt cl lf round c) j fr S ds=some r->FrXB B S r.S r.wr:=by
   intro j;induction j with
   | zero=>intro fr S ds r hB h;cases h
   | succ j ihj =>
    intro fr S ds r hB h;unfold qek at h;split at h
    ·cases h
    rename_i r1 hr1;split at h
    ·split at h<;>cases h;rename_i q hq;exact FrXB.trans (ih hB hr1) (ihj _ _ _ _ (ih hB hr1).1 hq)
    ·cases h;exact ih hB hr1
  exact key _ _ _ _ _ hB h
 | rangeFunc g ps assign body ih1 ih2 =>
  intro fr S ds r hB h;simp only[qaj] at h;have h0:=qgd h;clear h;obtain⟨r,h,rfl⟩:=h0;rw[eB];refine qqe ?_;split at h<;>try cases h
  split at h
  ·exact(FrX.newTrans (FrX.newTrans (q1k hcl h))).toB hB
  ·split at h<;>try cases h
   exact(FrX.newTrans (q1k hcl h)).toB hB

def qdl:List Nat->List IV->PT IV->PT IV
 | t::ts,v::vs,fr=>qdl ts vs (fr.set v t)
 | _,_,fr=>fr
theorem qsg{E:Env}:∀{ps:List Nat} {vs:List IV} {us:List Value} {fr:PT IV} {tmps:Array Value},VRs E vs us->FR E nt fr tmps->FR E nt (qdl ps vs fr) ((ps.zip us).foldl (fun tmps (t,a)=>tmps.setIfInBounds t a) tmps)
 | [],vs,us,fr,tmps,hv,hf=>by simpa [qdl] using hf
 | t::ps,[],us,fr,tmps,hv,hf=>by
  have:=hv.1;cases us with
  | nil=>simpa [qdl] using hf
  | cons u us=>simp at this
 | t::ps,v::vs,us,fr,tmps,hv,hf=>by
  obtain⟨u,us,rfl,h1,h2⟩:=hv.inv;simp only[qdl,List.zip_cons_cons,jdt];exact qsg h2 (hf.put h1)
def qdc:IEx->Option Code
 | .normal=>none
 | .ret=>some .ret
 | .exit id=>some (.exit id)
 | .goto l=>some (.goto l)
def qef(P:Program)(tt:Nat->Option TI)(cl:Cl)(lf:Nat)(id:Nat)(vs:List IV)(S:IS):Option Res :=
 match S.heap.get id with
 | some (.loop .ready _ nt fr ps assign body _)=>cond (Nat.beq vs.length ps.length&&qa1 assign&&qa1 body)
  (match qaj P tt (fun _=>none) S.next nt cl lf (some id) assign (qdl ps vs fr) S [] with
  | none=>none
  | some r1=>match r1.e with
   | .normal=>match r1.S.heap.get id with
    | some (.loop .ready pend nt2 fr2 ps2 as2 bd2 D2)=>match qaj P tt (fun _=>none) S.next nt cl lf (some id) body r1.fr (r1.S.set id (.loop .busy pend nt2 fr2 ps2 as2 bd2 D2)) r1.ds with
     | none=>none
     | some r2=>match r2.S.heap.get id with
      | some (.loop _ _ nt3 fr3 ps3 as3 bd3 D3)=>some ⟨.bool (qdc r2.e).isNone,r2.S.set id (.loop (if (qdc r2.e).isNone then .ready else .done) (qdc r2.e) nt3 fr3 ps3 as3 bd3 D3),2 ^ id ||| (r1.rd ||| r2.rd),(r1.wr ||| 2 ^ id) ||| (r2.wr ||| 2 ^ id)⟩
      | _=>none
    | _=>none
   | _=>none) none
 | _=>none
theorem zih(hcl:ClFr cl){id:Nat}{vs:List IV}{S:IS}:FrO S (qef P tt cl lf id vs S):=by
 intro r h;unfold qef at h;split at h<;>try cases h
 rename_i x nt fr ps assign body y hobj;cases hb:(Nat.beq vs.length ps.length&&qa1 assign&&qa1 body) with
 | false=>rw[hb] at h;cases h
 | true =>
 rw[hb,jab] at h;split at h
 ·cases h
 rename_i r1 hr1;split at h<;>try cases h
 split at h<;>try cases h
 split at h
 ·cases h
 rename_i r2 hr2;split at h<;>cases h;have a1:=qu9 rfl hcl _ (jaq _) hr1;have a3:=qu9 (S:=r1.S.set id _) rfl hcl _ a1.1 hr2;exact(a1.trans ((FrX.set r1.S id _).toB a1.1)).trans (a3.trans ((FrX.set r2.S id _).toB a3.1))
theorem zgw(hm:P.follows .mixedOrders=true)(hcl:ClOK P cl)(hfr:ClFr cl)(htt:TT P tt){id:Nat}{vs:List IV}{S:IS}{r:Res}(h:qef P tt cl lf id vs S=some r)
  (T:TW) (E:Env) (us:List Value) (p:Pre T E S) (hrd:tin T.r r.rd) (hwr:tin T.w r.wr) (hv:VRs E vs us) (hA:E.A id):YieldAt Fence.wide 0 P (E.ρ id) us.toArray E.w (RetE T E S r):=by
 unfold qef at h;split at h<;>try cases h
 rename_i pd nt fr ps assign body D hobj;cases hb:(Nat.beq vs.length ps.length&&qa1 assign&&qa1 body) with
 | false=>rw[hb] at h;cases h
 | true =>
 rw[hb,jab] at h;simp only[jae] at hb;obtain⟨⟨hb1,hb2⟩,hb3⟩:=hb;have hlen:=jaj hb1;split at h
 ·cases h
 rename_i r1 hr1;split at h<;>try cases h
 rename_i he1;split at h<;>try cases h
 rename_i pend nt2 fr2 ps2 as2 bd2 D2 hobj1;split at h
 ·cases h
 rename_i r2 hr2;split at h<;>cases h;rename_i st3 pd3 nt3 fr3 ps3 as3 bd3 D3 hobj2;obtain⟨t1,t2⟩:=qao hrd;obtain⟨t3,t4⟩:=qao t2;obtain⟨v1,v2⟩:=qao hwr;obtain⟨v3,v4⟩:=qao v1;obtain⟨v5,_⟩:=qao v2;obtain⟨fn,tmps,g1,g2,g3⟩:=p.st.objs id (qaf t1) hA _ hobj;have hy:=run_yield (P:=P) (args:=us.toArray) g1 (by simp only[List.size_toArray];rw[<- hv.1,hlen]);have hz:(ps.toArray.zip us.toArray).foldl (fun tmps (t,a)=>tmps.setIfInBounds t a) tmps=(ps.zip us).foldl (fun tmps (t,a)=>tmps.setIfInBounds t a) tmps:=by
  simp[List.zip_toArray]
 refine⟨fn,_,assign,body,hy,roundIn_of_wpIn trivial ?_⟩;have hFp:(Fence.wide.inRound (E.ρ id)).plain=Fence.wide:=rfl;refine qh7 (T:=T) (E:=E) (a:={ tmps:=_,defers:=[] }) (S:=S) (ds:=[]) (round:=some id) (B:=S.next) (fun h=>(by cases h)) hm hFp hcl hfr htt assign hb2 p (jaq _) p.nw ?_ (DS.nil (N:=0) (jb3 _)) (fun _=>⟨rfl,hA,p.bnd id hA⟩) hr1 t3 v3 ?_
 ·have:=qsg (ps:=ps) hv g2;rw[<- hz] at this;exact this
 intro E1 a1 k1 k2 kB;obtain⟨k3,k4⟩:=kB.full p;rw[he1];have p1:=k3.pre p;have hle1:=k3.env p;obtain⟨a1',a2',a3'⟩:=hle1.alw id hA;obtain⟨fn1,tmps1,g1',g2',g3'⟩:=p1.st.objs id (qaf t1) a1' _ hobj1;rw[a2'] at g1';have hbg:=run_beginRound (P:=P) g1' rfl;have hL:Live E1 r1.S.H id:=⟨p1.st.blk id (qaf t1) a1' _ hobj1 rfl,_,hobj1,rfl⟩;have hu1:Upd [E1.ρ id] E1.w (E1.w.putObj (E.ρ id) (.loop { state:=.busy,pending:=pend,fn:=fn1,tmps:=tmps1,params:=ps2.toArray,assign:=as2,body:=bd2,defers:=E1.ρ D2 })):=by rw[a2'];exact Upd.putObj _ _ _
 obtain⟨q1,q2⟩:=Post.write p1 (o':=.loop .busy pend nt2 fr2 ps2 as2 bd2 D2) (qaf v4) a1' hL hu1
  ⟨fn1,tmps1,by
   rw[show (E1.at_ (E1.w.putObj (E.ρ id) (.loop { state:=.busy,pending:=pend,fn:=fn1,tmps:=tmps1,params:=ps2.toArray,assign:=as2,body:=bd2,defers:=E1.ρ D2 }))).ρ id=E.ρ id from a2'];exact jbn (qas g1'),FR.mono (Env.at_le p1.st (qaf v4) a1' hL hu1) g2',g3'⟩
 have p2:=q1.pre p1;have hle2:=q1.env p1;have q3:=Post.trans p k3 k4 q1;have q4:=k4.trans q2 k3.le;refine⟨_,hbg,?_⟩;obtain⟨E2,hE2⟩:∃E2,E1.at_ (E1.w.putObj (E.ρ id) (.loop { state:=.busy,pending:=pend,fn:=fn1,tmps:=tmps1,params:=ps2.toArray,assign:=as2,body:=bd2,defers:=E1.ρ D2 }))=E2:=⟨_,rfl⟩;have hw2:E1.w.putObj (E.ρ id) (.loop { state:=.busy,pending:=pend,fn:=fn1,tmps:=tmps1,params:=ps2.toArray,assign:=as2,body:=bd2,defers:=E1.ρ D2 })=E2.w:=by rw[<- hE2];rfl
 have hleE2:E.Le E2:=by rw[<- hE2];exact hle1.trans hle2
 rw[hE2] at p2 hle2 q3 q4;show body.wpIn _ 0 P _ a1 (E1.w.putObj (E.ρ id) (.loop { state:=.busy,pending:=pend,fn:=fn1,tmps:=tmps1,params:=ps2.toArray,assign:=as2,body:=bd2,defers:=E1.ρ D2 }));rw[hw2];obtain⟨b1,b2,b3⟩:=hleE2.alw id hA;refine qh7 (T:=T) (E:=E2) (a:=a1) (round:=some id) (B:=S.next) (fun h=>(by cases h)) hm hFp hcl hfr htt body hb3 p2 q3.le p.nw (k1.mono hle2) (k2.mono hle2 (by rw[<- hE2];exact q1.stp.size)) (fun _=>⟨by show some (E.ρ id)=some (E2.ρ id);rw[b2],b1,p.bnd id hA⟩) hr2 t4 v5 ?_;intro E3 a3 m1 m2 mB;obtain⟨q5,q6⟩:=PostB.full p ((PostB.of (jaq _) p.nw q3 q4).trans mB);have p3:=q5.pre p;have hle3:=q5.env p;obtain⟨c1,c2,c3⟩:=hle3.alw id hA;obtain⟨fn3,tmps3,g13,g23,g33⟩:=p3.st.objs id (qaf t1) c1 _ hobj2;rw[c2] at g13;have hend:=fun j=>run_endRound (P:=P) j g13;have hL3:Live E3 r2.S.H id:=⟨p3.st.blk id (qaf t1) c1 _ hobj2 rfl,_,hobj2,rfl⟩;have fin:∀(st:LoopState) (pe:Option Code),RetE T E S ⟨.bool pe.isNone,r2.S.set id (.loop st pe nt3 fr3 ps3 as3 bd3 D3),2 ^ id ||| (r1.rd ||| r2.rd),(r1.wr ||| 2 ^ id) ||| (r2.wr ||| 2 ^ id)⟩ (.returned (.bool pe.isNone)) (E3.w.putObj (E.ρ id) (.loop { state:=st,pending:=pe,fn:=fn3,tmps:=tmps3,params:=ps3.toArray,assign:=as3,body:=bd3,defers:=E3.ρ D3 })):=fun st pe=>by
  have hu3:Upd [E3.ρ id] E3.w (E3.w.putObj (E.ρ id) (.loop { state:=st,pending:=pe,fn:=fn3,tmps:=tmps3,params:=ps3.toArray,assign:=as3,body:=bd3,defers:=E3.ρ D3 })):=by rw[c2];exact Upd.putObj _ _ _
  obtain⟨z1,z2⟩:=Post.write p3 (o':=.loop st pe nt3 fr3 ps3 as3 bd3 D3) (qaf v4) c1 hL3 hu3
   ⟨fn3,tmps3,by
    rw[show (E3.at_ (E3.w.putObj (E.ρ id) (.loop { state:=st,pending:=pe,fn:=fn3,tmps:=tmps3,params:=ps3.toArray,assign:=as3,body:=bd3,defers:=E3.ρ D3 }))).ρ id=E.ρ id from c2];exact jbn (qas g13),FR.mono (Env.at_le p3.st (qaf v4) c1 hL3 hu3) g23,g33⟩
  exact⟨_,_,rfl,rfl,.bool _,Post.trans p q5 q6 z1,q6.trans z2 q5.le⟩
 cases he:r2.e with
 | normal=>exact⟨_,_,hend none,by simpa [he,qdc] using fin .ready none⟩
 | ret=>exact⟨_,_,hend (some .ret),by simpa [he,qdc] using fin .done (some .ret)⟩
 | exit i=>exact⟨_,_,hend (some (.exit i)),by simpa [he,qdc] using fin .done (some (.exit i))⟩
 | goto l=>exact⟨_,_,hend (some (.goto l)),by simpa [he,qdc] using fin .done (some (.goto l))⟩

def qd6(tt:Nat->Option TI)(nt:Nat)(res:List ResultVar)(S0:IS)(r:CRes):Option Res :=
 match qfi r.ds r.S with
 | none=>none
 | some (S',wr)=>match ires tt nt r.fr S' res with
  | none=>none
  | some (vs,rd)=>some (igc S0 ⟨tupI vs,S',r.rd ||| rd,r.wr ||| wr⟩)
def IEx.leaves:IEx->Bool
 | .normal=>true
 | .ret=>true
 | _=>false
def Calm(cl:Cl):Prop:=∀tgt vs S r,cl tgt vs S=some r->r.wr=0->low2 S.next r.v=true->r.S=S
abbrev Ex:=Nat->Option (Cl->List IV->IS->Option Res)
structure ExOK (P:Program) (ex:Ex):Prop where
 fn:∀f g,ex f=some g->∀cl,ClOK P cl->ClFr cl->Calm cl->∀vs S r,g cl vs S=some r->∀(T:TW) (E:Env) (us:List Value),Pre T E S->tin T.r r.rd->tin T.w r.wr->VRs E vs us->qah P f/\CallsIn Fence.wide 0 P f us.toArray E.w (RetE T E S r)
 fr:∀f g,ex f=some g->∀cl,ClFr cl->∀vs S,FrO S (g cl vs S)
 calm:∀f g,ex f=some g->∀cl,Calm cl->∀vs S r,g cl vs S=some r->r.wr=0->low2 S.next r.v=true->r.S=S
def qce(P:Program)(tt:Nat->Option TI)(ft:Nat->Option FI)(nm:Nat->Nat->Option Nm)(ex:Ex)(lf:Nat):Nat->Cl
 | 0,_,_,_=>none
 | n+1,tgt,vs,S=>match tgt with
  | .yield id=>qef P tt (qce P tt ft nm ex lf n) lf id vs S
  | .fn f=>match ex f with
   | some g=>g (qce P tt ft nm ex lf n) vs S
   | none=>match ft f with
    | none=>none
    | some fi=>cond (frzF (nm f)) none (cond (Nat.ble vs.length fi.nt) (match qaj P tt (nm f) S.next fi.nt (qce P tt ft nm ex lf n) lf none fi.body (qaz vs 0 .leaf) S [] with
    | none=>none
    | some r=>cond r.e.leaves (qd6 tt fi.nt fi.res S r) none) none)
theorem q3z:∀{ds:List Nat} {S S':IS} {wr:Nat},qfi ds S=some (S',wr)->FrX S S' wr
 | [],S,S',wr,h=>by cases h;exact FrX.refl _ _
 | D::ds,S,S',wr,h=>by
  unfold qfi at h;split at h<;>try cases h
  split at h<;>cases h;rename_i S' wr hm;exact FrX.trans (FrX.set _ _ _) (q3z hm)
theorem q91{res:List ResultVar}{S0:IS}{r:CRes}(h0:FrX S0 r.S r.wr):FrO S0 (qd6 tt nt res S0 r):=by
 intro q h;unfold qd6 at h;split at h
 ·cases h
 rename_i S' wr hm;split at h<;>cases h;exact q50 (FrX.trans h0 (q3z hm))
variable {ft : Nat -> Option FI} {nmt : Nat -> Nat -> Option Nm} {ex : Ex}
theorem qfu(hex:ExOK P ex):∀n,ClFr (qce P tt ft nmt ex lf n)
 | 0=>fun tgt vs S=>FrO.none
 | n+1=>fun tgt vs S=>by
  unfold qce;cases tgt with
  | yield id=>exact zih (qfu hex n)
  | fn f =>
   simp only;split
   ·rename_i g hg;exact hex.fr f g hg _ (qfu hex n) vs S
   split
   ·exact FrO.none
   rename_i fi hfi;cases hz:frzF (nmt f) with
   | true=>exact FrO.none
   | false =>
   simp only[jah];apply FrO.cond
   ·split
    ·exact FrO.none
    rename_i r hr;apply FrO.cond
    ·exact q91 (qu9 hz (qfu hex n) _ (jaq _) hr).full
    ·exact FrO.none
   ·exact FrO.none
theorem zhx{id:Nat}{vs:List IV}{S:IS}{r:Res}(h:qef P tt cl lf id vs S=some r)(hw:r.wr=0):False:=by
 unfold qef at h;split at h<;>try cases h
 rename_i pe nt fr ps assign body D ho;cases hb:(Nat.beq vs.length ps.length&&qa1 assign&&qa1 body) with
 | false=>rw[hb] at h;cases h
 | true =>
 rw[hb,jab] at h;split at h
 ·cases h
 split at h<;>try cases h
 split at h<;>try cases h
 split at h
 ·cases h
 split at h<;>cases h;have h1:=(or_zero hw).1;have h2:=(or_zero h1).2;have:=jfc (n:=id);omega
theorem q2l{S:IS}{q:Res}(hw:(igc S q).wr=0)(hv:low2 S.next (igc S q).v=true):(igc S q).S=S:=by
 unfold igc at hw hv ⊢;cases hb:(Nat.beq (q.wr % 2 ^ S.next) 0&&low2 S.next q.v) with
 | true=>rfl
 | false =>
  rw[hb,jah] at hw hv;rw[Bool.and_eq_false_iff] at hb;rcases hb with hb|hb
  ·rw[show q.wr % 2 ^ S.next=0 from hw] at hb;cases hb
  ·rw[show low2 S.next q.v=true from hv] at hb;cases hb
theorem qy1(hex:ExOK P ex):∀n,Calm (qce P tt ft nmt ex lf n)
 | 0=>fun tgt vs S r h=>by cases h
 | n+1=>fun tgt vs S r h hw hv=>by
  unfold qce at h;cases tgt with
  | yield id=>exact(zhx h hw).elim
  | fn f =>
   simp only at h;split at h
   ·rename_i g hg;exact hex.calm f g hg _ (qy1 hex n) vs S r h hw hv
   split at h
   ·cases h
   rename_i fi hfi;cases hz:frzF (nmt f) with
   | true=>rw[hz] at h;cases h
   | false =>
   rw[hz,jah] at h;cases hb:Nat.ble vs.length fi.nt with
   | false=>rw[hb] at h;cases h
   | true =>
   rw[hb,jab] at h;split at h
   ·cases h
   rename_i r1 hr1;cases hl:r1.e.leaves with
   | false=>rw[hl] at h;cases h
   | true =>
   rw[hl,jab] at h;unfold qd6 at h;split at h
   ·cases h
   split at h<;>cases h;exact q2l hw hv
theorem qxl{fi:FI}{f:Nat}{nm:Nat->Option Nm}{vs:List IV}{S:IS}{r1:CRes}{r:Res}(hz:frzF nm=false)(hm:P.follows .mixedOrders=true)(htt:TT P tt)
  (hfi:∃fn,P.funcs[f]?=some fn/\fn.body=some fi.body/\fn.ntmps=fi.nt/\fn.results=fi.res.toArray/\(fn.name == "runtime.NumGoroutine") = false/\qa1 fi.body=true) (hcl:ClOK P cl) (hfr:ClFr cl)
  (hb:Nat.ble vs.length fi.nt=true) (hr1:qaj P tt nm S.next fi.nt cl lf none fi.body (qaz vs 0 .leaf) S []=some r1) (hl:r1.e.leaves=true) (h:qd6 tt fi.nt fi.res S r1=some r)
  {T:TW} {E:Env} {us:List Value} (p:Pre T E S) (hrd:tin T.r r.rd) (hwr:tin T.w r.wr) (hv:VRs E vs us):qah P f/\CallsIn Fence.wide 0 P f us.toArray E.w (RetE T E S r):=by
 unfold qd6 at h;split at h
 ·cases h
 rename_i S' wr hmk;split at h<;>cases h;rename_i vs' rd' hres;obtain⟨fn,f1,f2,f3,f4,f5,f6⟩:=hfi;refine⟨⟨fn,f1,by rw[f2];rfl,f5⟩,?_⟩;obtain⟨T',p',t1,t2,hback⟩:=qxi p hrd hwr;obtain⟨u1,u2⟩:=qao t1;obtain⟨u3,u4⟩:=qao t2;refine callsIn_of_wp_marks f1 f2 trivial ?_;refine qh7 (T:=T') (E:=E) (S:=S) (ds:=[]) (round:=none) (B:=S.next) (fun h=>by rw[hz] at h;cases h) hm rfl hcl hfr htt fi.body f6 p' (jaq _) p'.nw ?_ (DS.nil (N:=E.w.heap.size) (jaq _)) (fun _=>rfl) hr1 u1 u3 ?_
 ·have:=FR.enter (nt:=fi.nt) hv (jak hb);rw[f3];exact this
 intro E1 a1 k1 k2 kB;obtain⟨k3,k4⟩:=kB.full p';have hlv:LeavesInM Fence.wide 0 P fn a1.tmps (RetE T E S (igc S ⟨tupI vs',S',r1.rd ||| rd',r1.wr ||| wr⟩)) a1.defers .returning E1.w:=by
  refine qrq (E0:=E) (S0':=S) (B:=S.next) (jaq _) p'.nw (k3.pre p') k2 kB hmk u4 fun E2 hq p2 hv=>?_;obtain⟨us',h1,h2⟩:=ql7 htt p2 ⟨k1.size,fun t ht=>hv _ _ (k1.get t ht)⟩ hres u2;have h3:=qxb (P:=P) (w:=E2.w) f4 h1;refine⟨qhd us',h3,?_⟩;exact hback _ _ ⟨_,E2,rfl,rfl,qyp h2,hq.full p'⟩
 cases he:r1.e with
 | normal=>rw[he] at *;exact hlv
 | ret=>exact hlv
 | exit i=>rw[he] at hl;cases hl
 | goto l=>rw[he] at hl;cases hl
theorem qj8(hm:P.follows .mixedOrders=true)(htt:TT P tt)(hft:FT P ft)(hex:ExOK P ex):∀n,ClOK P (qce P tt ft nmt ex lf n)
 | 0=>⟨fun _ _ _ _ h=>(by cases h),fun _ _ _ _ h=>(by cases h)⟩
 | n+1=>by
  refine⟨fun f vs S r h T E us p hrd hwr hv=>?_,fun id vs S r h T E us p hrd hwr hv hA=>?_⟩
  ·unfold qce at h;simp only at h;split at h
   ·rename_i g hg;exact hex.fn f g hg _ (qj8 hm htt hft hex n) (qfu hex n) (qy1 hex n) vs S r h T E us p hrd hwr hv
   split at h
   ·cases h
   rename_i fi hfi;cases hz:frzF (nmt f) with
   | true=>rw[hz] at h;cases h
   | false =>
   rw[hz,jah] at h;cases hb:Nat.ble vs.length fi.nt with
   | false=>rw[hb] at h;cases h
   | true =>
   rw[hb,jab] at h;split at h
   ·cases h
   rename_i r1 hr1;cases hl:r1.e.leaves with
   | false=>rw[hl] at h;cases h
   | true =>
   rw[hl,jab] at h;exact qxl hz hm htt (hft f fi hfi) (qj8 hm htt hft hex n) (qfu hex n) hb hr1 hl h p hrd hwr hv
  ·unfold qce at h;simp only at h;exact zgw hm (qj8 hm htt hft hex n) (qfu hex n) htt h T E us p hrd hwr hv hA

end
end Go.Jx
end

section
namespace Go.Jx
open Go Go.Sx Go.RowKit
universe u

def ElA:List TC->Type
 | []=>Unit
 | c::cs=>El c × ElA cs
def argV:(cs:List TC)->ElA cs->List IV
 | [],_=>[]
 | c::cs,x=>asIV c x.1::argV cs x.2
def ElR:List (Bool × TC)->Type
 | []=>Unit
 | (true,c)::cs=>List (El c) × ElR cs
 | (false,c)::cs=>El c × ElR cs
def resV:(cs:List (Bool × TC))->Nat->ElR cs->List IV
 | [],_,_=>[]
 | (true,c)::cs,n,x=>.arr n::resV cs (n+1) x.2
 | (false,c)::cs,n,x=>asIV c x.1::resV cs n x.2
def resO:(cs:List (Bool × TC))->ElR cs->List IObj
 | [],_=>[]
 | (true,c)::cs,x=>.arr c x.1::resO cs x.2
 | (false,c)::cs,x=>resO cs x.2
def addO:List IObj->IS->IS
 | [],S=>S
 | o::l,S=>addO l (S.new o)
theorem qcm:∀(l:List IObj) (S:IS),(addO l S).next=S.next+l.length
 | [],S=>rfl
 | o::l,S=>by unfold addO;rw[qcm l];simp [IS.new];omega
theorem qb8:∀(l:List IObj) (S:IS) (k:Nat),(addO l S).H k=if k<S.next then S.H k else if k<S.next+l.length then l[k-S.next]? else S.H k
 | [],S,k=>by
  simp only[addO,jbi,jb5];by_cases h:k<S.next
  ·rw[jam h]
  ·rw[jan h,jan h]
 | o::l,S,k=>by
  unfold addO;rw[qb8 l];have e:(S.new o).next=S.next+1:=rfl
  rw[e,IS.H_new];by_cases h1:k<S.next
  ·rw[jam (by omega),jam h1,up_ne _ _ (by omega)]
  ·rw[jan h1];by_cases h2:k=S.next
   ·subst h2;rw[jam (by omega),qai,jam (by simp)];simp
   ·rw[jan (by omega),up_ne _ _ h2];simp only[jat];by_cases h3:k<S.next+(l.length+1)
    ·rw[jam (by omega),jam h3,show k-S.next=(k-(S.next+1))+1 by omega,jau]
    ·rw[jan (by omega),jan h3]
def scal:TC->Bool
 | .list _=>false
 | .two a b=>scal a&&scal b
 | _=>true
structure Sm where
 pts:List TC
 rts:List (Bool × TC)
 f:ElA pts->Option (ElR rts)
def Sm.flat(s:Sm):Bool:=s.rts.all fun r=>scal r.2
def EM(M:List Nat)(w:World):Env:=⟨fun _=>0,fun _=>0,fun _=>.nilFunc,fun _=>false,fun _=>False,M,w⟩
def S0:IS:=⟨.leaf,0⟩
def T0:TW:=⟨fun _=>True,fun _=>True,fun _ h=>h⟩
theorem preM{M:List Nat}{w:World}(h:∀b∈M,b<w.heap.size)(g:Gl M w):Pre T0 (EM M w) S0 :=
 ⟨⟨fun id _ h=>h.elim,fun id _ h=>h.elim,fun id _ h=>h.elim,fun i j _ _ h=>h.elim,h⟩,fun id h=>h.elim,fun id _=>trivial,g⟩
structure Con (P:Program) (f:Nat) (s:Sm):Prop where
 callable:qah P f
 calls:∀(M:List Nat) (w:World) (x:ElA s.pts) (us:List Value) (y:ElR s.rts),s.f x=some y->(∀b∈M,b<w.heap.size)->Gl M w->VRs (EM M w) (argV s.pts x) us ->
  CallsIn Fence.wide 0 P f us.toArray w (RetE T0 (EM M w) S0 ⟨tupI (resV s.rts 0 y),addO (resO s.rts y) S0,0,0⟩)

def fitV:TC->IV->Bool
 | .two _ _,.agg _=>true
 | .two _ _,_=>false
 | _,.agg _=>false
 | _,.unk=>false
 | _,.tup _=>false
 | _,_=>true
def qd8:(cs:List TC)->IS->List IV->Option (ElA cs × IS × Nat)
 | [],S,vs=>match vs with
  | []=>some ((),S,0)
  | _=>none
 | c::cs,S,vs=>match vs with
  | v::vs=>cond (fitV c v) (match icl c S (cellsOf v) with
   | some (x,[],S1,w1)=>match qd8 cs S1 vs with
    | some (xs,S2,w2)=>some ((x,xs),S2,w1 ||| w2)
    | none=>none
   | _=>none) none
  | _=>none
def exf(s:Sm)(vs:List IV)(S:IS):Option Res :=
 match qd8 s.pts S vs with
 | none=>none
 | some (x,S1,w)=>match s.f x with
  | none=>none
  | some y=>cond s.flat (some ⟨tupI (resV s.rts S.next y),addO (resO s.rts y) S,w,0⟩) (some ⟨tupI (resV s.rts S1.next y),addO (resO s.rts y) S1,0,w⟩)
section
variable {P : Program} {E : Env} {S : IS} {T : TW}
theorem qre{E0 E:Env}{c:TC}{x:El c}{v:IV}{u:Value}(hf:fitV c v=true)(hv:VR E0 v u)(h:VRs E (cel c x) u.cells.toList):VR E (asIV c x) u:=by
 have hone:(∀a b,c≠.two a b)->u.cells.toList=[u]:=fun hc=>by
  cases c with
  | two a b=>exact absurd rfl (hc a b)
  | int k=>cases hv<;>first|rfl|cases hf
  | bool=>cases hv<;>first|rfl|cases hf
  | str=>cases hv<;>first|rfl|cases hf
  | list c=>cases hv<;>first|rfl|cases hf
 cases c with
 | two a b =>
  cases hv<;>try cases hf
  exact .agg h.1 h.2
 | int k=>rw[hone (by simp)] at h;exact h.2 0 (by simp[cel]) (by simp)
 | bool=>rw[hone (by simp)] at h;exact h.2 0 (by simp[cel]) (by simp)
 | str=>rw[hone (by simp)] at h;exact h.2 0 (by simp[cel]) (by simp)
 | list c=>rw[hone (by simp)] at h;exact h.2 0 (by simp[cel]) (by simp)
theorem qud{c:TC}{v:IV}(h:fitV c v=true):qcx v=true:=by cases c<;>cases v<;>first|rfl|cases h
theorem qe9{E E':Env}(hm:∀b,b∈E'.m->b∈E.m)(hw:E'.w=E.w){c:TC}{x:El c}{u:Value}(h:VR E (asIV c x) u):VR E' (asIV c x) u:=by
 have hno:∀{v:IV} {u:Value},VR E v u->_:=fun h=>VR.noid hm hw h;cases c with
 | two a b =>
  cases h with
  | agg hl hh=>exact .agg hl fun i a b=>(hno (hh i a b)).2.2 _ _ (jbh a)
 | int k=>exact(hno h).2.2 (.int k) x (by simp[cel,asIV])
 | bool=>exact(hno h).2.2 .bool x (by simp[cel,asIV])
 | str=>exact(hno h).2.2 .str x (by simp[cel,asIV])
 | list c=>exact(hno h).2.2 (.list c) x (by simp[cel,asIV])
theorem qq6:∀(cs:List TC) {E:Env} {S:IS} {vs:List IV} {us:List Value} {x:ElA cs} {S':IS} {w:Nat},qd8 cs S vs=some (x,S',w)->Pre T E S->tin T.w w->VRs E vs us ->
  ∃E',E'.w=E.w/\Post T E S E' S'/\Fresh E S E'/\VRs E' (argV cs x) us
 | [],E,S,vs,us,x,S',w,h,p,hw,hv=>by
  cases vs with
  | cons v vs=>cases h
  | nil=>cases h;exact⟨E,rfl,Post.refl p,Fresh.refl E S,hv⟩
 | c::cs,E,S,vs,us,x,S',w,h,p,hw,hv=>by
  cases vs with
  | nil=>cases h
  | cons v vs =>
  simp only[qd8] at h;cases hb:fitV c v with
  | false=>rw[hb] at h;cases h
  | true =>
  rw[hb,jab] at h;split at h<;>try cases h
  rename_i x1 S1 w1 h1;split at h<;>cases h;rename_i xs S2 w2 h2;obtain⟨g1,g2⟩:=qao hw;obtain⟨u,us,rfl,a1,a2⟩:=hv.inv;obtain⟨E1,e1,q1,f1,us1,us2,e2,v1,v2⟩:=qex c h1 p g1 (a1.cells (qud hb));have:us2=[]:=by have:=v2.1;simpa using this.symm
  subst this;rw[jbo] at e2;rw[<- e2] at v1;have b1:=qre hb a1 v1;obtain⟨E2,e3,q2,f2,b2⟩:=qq6 cs h2 (q1.pre p) g2 (a2.mono (q1.env p));exact⟨E2,e3.trans e1,Post.trans p q1 f1 q2,f1.trans f2 q1.le,VRs.cons (b1.mono (q2.env (q1.pre p))) b2⟩
theorem qq1{E E':Env}(hm:∀b,b∈E'.m->b∈E.m)(hw:E'.w=E.w):∀(cs:List TC) {x:ElA cs} {us:List Value},VRs E (argV cs x) us->VRs E' (argV cs x) us
 | [],x,us,h=>by have:=h.1;cases us with|nil=>exact VRs.nil|cons _ _=>simp [argV] at this
 | c::cs,x,us,h=>by
  obtain⟨u,us,rfl,a1,a2⟩:=VRs.inv (v:=asIV c x.1) (cs:=argV cs x.2) h;exact VRs.cons (qe9 hm hw a1) (qq1 hm hw cs a2)
theorem qi5:∀(cs:List (Bool × TC)) (y:ElR cs) (o:IObj),o∈resO cs y->∃c l,o=.arr c l
 | [],y,o,h=>by cases h
 | (true,c)::cs,y,o,h=>by
  rcases jav.1 h with h|h
  ·exact⟨c,y.1,h⟩
  ·exact qi5 cs y.2 o h
 | (false,c)::cs,y,o,h=>qi5 cs y.2 o h
theorem qgs{E E':Env}:∀{c:TC} {v:IV} {x:El c} {u:Value},scal c=true->v∈cel c x->VR E v u->VR E' v u
 | .int k,v,x,u,_,hm,h=>by
  have:v=.int k x:=by simpa [cel] using hm
  subst this;cases h;exact .int _ _ (by assumption)
 | .bool,v,x,u,_,hm,h=>by
  have:v=.bool x:=by simpa [cel] using hm
  subst this;cases h;exact .bool _
 | .str,v,x,u,_,hm,h=>by
  have:v=.str x:=by simpa [cel] using hm
  subst this;cases h;exact .str _ (by assumption)
 | .list c,v,x,u,hs,_,_=>by cases hs
 | .two a b,v,x,u,hs,hm,h=>by
  simp only[scal,jae] at hs;simp only[cel,jbq] at hm;rcases hm with hm|hm
  ·exact qgs hs.1 hm h
  ·exact qgs hs.2 hm h
theorem zjg{E E':Env}{c:TC}{x:El c}{u:Value}(hs:scal c=true)(h:VR E (asIV c x) u):VR E' (asIV c x) u:=by
 cases c with
 | two a b =>
  cases h with
  | agg hl hh=>exact .agg hl fun i a b=>qgs hs (jbh a) (hh i a b)
 | int k=>exact qgs (c:=.int k) (x:=x) hs (by simp[cel,asIV]) h
 | bool=>exact qgs (c:=.bool) (x:=x) hs (by simp[cel,asIV]) h
 | str=>exact qgs (c:=.str) (x:=x) hs (by simp[cel,asIV]) h
 | list c=>cases hs
def mrgC(Eb Er:Env)(n:Nat):Env :=
 ⟨fun id=>if id<n then Eb.ρ id else Er.ρ (id-n),fun id=>if id<n then Eb.κ id else Er.κ (id-n),fun id=>if id<n then Eb.hd id else Er.hd (id-n),fun id=>if id<n then Eb.hb id else Er.hb (id-n),
  fun id=>(id<n/\Eb.A id)\/(n<=id/\Er.A (id-n)),Eb.m++Er.m,Er.w⟩
theorem qeb{Eb Er:Env}{n k:Nat}:(mrgC Eb Er n).ρ (n+k)=Er.ρ k/\(mrgC Eb Er n).κ (n+k)=Er.κ k/\(mrgC Eb Er n).hd (n+k)=Er.hd k/\(mrgC Eb Er n).hb (n+k)=Er.hb k:=by
 have h:¬n+k<n:=by omega
 refine⟨?_,?_,?_,?_⟩<;>simp only[mrgC,jan h,ja1]
theorem qe6{Eb Er:Env}{n id:Nat}(h:id<n):(mrgC Eb Er n).ρ id=Eb.ρ id/\(mrgC Eb Er n).κ id=Eb.κ id/\(mrgC Eb Er n).hd id=Eb.hd id/\(mrgC Eb Er n).hb id=Eb.hb id:=by
 refine⟨?_,?_,?_,?_⟩<;>simp only[mrgC,jam h]
theorem qrg{Eb Er:Env}{n:Nat}(hd:∀{c:TC} {x:El c} {u:Value},VR Er (asIV c x) u->scal c=true\/True->(scal c=true->VR (mrgC Eb Er n) (asIV c x) u)/\((∀b,b∈Eb.m->b∈Er.m)->VR (mrgC Eb Er n) (asIV c x) u)) :
  ∀(cs:List (Bool × TC)) (k:Nat) {y:ElR cs} {us:List Value},((cs.all fun r=>scal r.2)=true\/∀b,b∈Eb.m->b∈Er.m)->VRs Er (resV cs k y) us->VRs (mrgC Eb Er n) (resV cs (n+k) y) us
 | [],k,y,us,hs,h=>by have:=h.1;cases us with|nil=>exact VRs.nil|cons _ _=>simp [resV] at this
 | (true,c)::cs,k,y,us,hs,h=>by
  obtain⟨u,us,rfl,a1,a2⟩:=VRs.inv (v:=.arr k) (cs:=resV cs (k+1) y.2) h;have:=qrg hd cs (k+1) (hs.imp (fun h=>by simp only[jdp,jae] at h;exact h.2) fun h=>h) a2;cases a1 with
  | arr hA hh =>
  obtain⟨m1,m2,m3,m4⟩:=qeb (Eb:=Eb) (Er:=Er) (n:=n) (k:=k);exact VRs.cons (.arr (.inr ⟨by omega,by rw[ja1];exact hA⟩) (m3.trans hh)) this
 | (false,c)::cs,k,y,us,hs,h=>by
  obtain⟨u,us,rfl,a1,a2⟩:=VRs.inv (v:=asIV c y.1) (cs:=resV cs k y.2) h;have:=qrg hd cs k (hs.imp (fun h=>by simp only[jdp,jae] at h;exact h.2) fun h=>h) a2;refine VRs.cons ?_ this;rcases hs with hs|hs
  ·simp only[jdp,jae] at hs;exact(hd a1 (.inr trivial)).1 hs.1
  ·exact(hd a1 (.inr trivial)).2 hs
theorem qzu{s:Sm}{y:ElR s.rts}{M:List Nat}{Eb:Env}{Sb:IS}{e:Ending}{w':World}{rd wr:Nat}(pb:Pre T Eb Sb)(hM:∀b∈M,b∈Eb.m)(hflat:s.flat=true\/∀b∈Eb.m,b∈M)
   (hR:RetE T0 (EM M Eb.w) S0 ⟨tupI (resV s.rts 0 y),addO (resO s.rts y) S0,0,0⟩ e w'):RetE T Eb Sb ⟨tupI (resV s.rts Sb.next y),addO (resO s.rts y) Sb,rd,wr⟩ e w':=by
 obtain⟨u,Er,rfl,rfl,k1,k2,k3⟩:=hR;have hsame:∀b,b<Eb.w.heap.size->Er.w.heap[b]?=Eb.w.heap[b]?:=fun b hb=>k2.stp.same b hb fun id _ hA _=>hA.elim;have hMr:∀b∈M,b∈Er.m:=fun b hb=>by
   rcases k2.stp.mem b hb (pb.st.lo b (hM b hb)) with h|⟨id,_,hA,_⟩
   · exact h
   · exact hA.elim
 have hrM:∀b∈Er.m,b∈M\/Eb.w.heap.size<=b:=k2.stp.memo;have hnew:∀id,Er.A id->Live Er (addO (resO s.rts y) S0).H id->Eb.w.heap.size<=Er.ρ id:=fun id hA hL=>by
   rcases k2.stp.new id hA (fun h=>h) hL with h|⟨j,_,hA,_⟩
   · exact h
   · exact hA.elim
 generalize hn:Sb.next=n
 have hle:Eb.Le (mrgC Eb Er n):=⟨fun id hA=>by
   have hlt:id<n:=by rw[<- hn];exact pb.bnd id hA
   obtain⟨m1,m2,m3,m4⟩:=qe6 (Eb:=Eb) (Er:=Er) hlt;exact⟨.inl ⟨hlt,hA⟩,m1,m2,m3,m4⟩,⟨fun b hb hm=>⟨fun h=>by
     rcases jbq.1 h with h|h
     · exact hm h
     · rcases hrM b h with h|h
       · exact hm (hM b h)
       · omega,hsame b hb⟩⟩⟩
 have hdat:(∀b,b∈Eb.m->b∈Er.m)->∀b,b∈(mrgC Eb Er n).m->b∈Er.m:=fun h b hb=>by
   rcases jbq.1 hb with hb|hb
   · exact h b hb
   · exact hb
 have hflat2:(s.rts.all fun r=>scal r.2)=true\/∀b,b∈Eb.m->b∈Er.m:=hflat.imp (fun h=>h) fun h b hb=>hMr b (h b hb);have hv:∀us,VRs Er (resV s.rts 0 y) us->VRs (mrgC Eb Er n) (resV s.rts (n+0) y) us:=fun us=>qrg (Eb:=Eb) (Er:=Er) (n:=n) (fun {c x u} h _=>⟨fun hs=>zjg hs h,fun hm=>qe9 (hdat hm) rfl h⟩) s.rts 0 hflat2;have hHn:∀k,(addO (resO s.rts y) Sb).H (n+k)=if k<(resO s.rts y).length then (resO s.rts y)[k]? else Sb.H (n+k):=fun k=>by
   rw[qb8,jan (by omega),hn];by_cases h:k<(resO s.rts y).length
   · rw[jam h,jam (by omega),ja1]
   · rw[jan h,jan (by omega)]
 have hHo:∀id,id<n->(addO (resO s.rts y) Sb).H id=Sb.H id:=fun id h=>by rw[qb8,jam (by omega)]
 have hH0:∀k,(addO (resO s.rts y) S0).H k=(resO s.rts y)[k]?:=fun k=>by
   rw[qb8];have e:S0.next=0:=rfl
   rw[e,jan (by omega),jbk,jda];by_cases h:k<(resO s.rts y).length
   · rw[jam h]
   · rw[jan h,jbt (by omega)];rfl
 have hbndr:∀k,Er.A k->k<(resO s.rts y).length:=fun k hA=>by
   have:=k2.bnd k hA;rw[qcm] at this;have e:S0.next=0:=rfl
   omega
 have hobj:∀{k:Nat} {o:IObj},Er.A k->(addO (resO s.rts y) Sb).H (n+k)=some o->(addO (resO s.rts y) S0).H k=some o:=fun {k o} hA h=>by
   rw[hHn,jam (hbndr k hA)] at h;rw[hH0];exact h
 have hlv:∀{k:Nat},Er.A k->Live (mrgC Eb Er n) (addO (resO s.rts y) Sb).H (n+k)->Live Er (addO (resO s.rts y) S0).H k:=fun {k} hA ⟨h0,o,h1,h2⟩=>⟨by rw[qeb.2.2.2] at h0;exact h0,o,hobj hA h1,h2⟩;have hlo:∀{id:Nat},id<n->Live (mrgC Eb Er n) (addO (resO s.rts y) Sb).H id->Live Eb Sb.H id:=fun {id} hlt ⟨h0,o,h1,h2⟩=>⟨by rw[(qe6 hlt).2.2.2] at h0;exact h0,o,by rw[hHo id hlt] at h1;exact h1,h2⟩;refine⟨u,mrgC Eb Er n,rfl,rfl,?_,⟨⟨?_,?_,?_,?_,?_⟩,⟨k2.stp.os,k2.stp.tape,k2.stp.output,k2.stp.size,fun b hb _=>hsame b hb,hle.alw,?_,?_,?_,fun b hb _=>.inl (jb0 _ hb)⟩,?_,?_⟩,⟨?_⟩⟩
 · -- the value
   have key:∀(vs ws:List IV),(∀us,VRs Er vs us->VRs (mrgC Eb Er n) ws us)->vs.length=ws.length->VR Er (tupI vs) u->VR (mrgC Eb Er n) (tupI ws) u:=by
     intro vs ws h hl hu;match vs,ws,hl with
     | [],[],_ =>
       cases hu with
       | tup hl hh=>have:=h _ ⟨hl,hh⟩;exact .tup this.1 this.2
     | [v],[w],_ =>
       have:=h [u] (VRs.cons hu VRs.nil);exact this.2 0 (by simp) (by simp)
     | v1::v2::vs,w1::w2::ws,_ =>
       cases hu with
       | tup hl hh=>have:=h _ ⟨hl,hh⟩;exact .tup this.1 this.2
   refine key _ _ (fun us h=>?_) ?_ k1
   · have:=hv us h
     rwa [jb5] at this
   · have:∀(cs:List (Bool × TC)) (i j:Nat) (y:ElR cs),(resV cs i y).length=(resV cs j y).length:=by
       intro cs;induction cs with
       | nil=>intro i j y;rfl
       | cons c cs ih=>intro i j y;obtain⟨b,c⟩:=c;cases b<;>simp [resV]<;>exact ih _ _ y.2
     exact this _ _ _ _
 · -- objects
   intro id ht hA o ho;rcases hA with ⟨hlt,hA⟩|⟨hge,hA⟩
   · rw[hHo id hlt] at ho;exact(pb.st.objs id ht hA o ho).mono hle hA (pb.st.blk id ht hA o ho) fun hl hb=>hsame _ ((pb.st.objs id ht hA o ho).lt hl hb)
   · obtain⟨k,rfl⟩:∃k,id=n+k:=⟨id-n,by omega⟩;rw[ja1] at hA;have ho':=hobj hA ho;obtain⟨m1,m2,m3,m4⟩:=qeb (Eb:=Eb) (Er:=Er) (n:=n) (k:=k);have hor:=k2.st.objs k trivial hA o ho';have hmem:o∈resO s.rts y:=by rw[hH0] at ho';exact jbu ho'
     obtain⟨c,l,rfl⟩:=qi5 _ _ _ hmem;have hsc:scal c=true\/∀b,b∈Eb.m->b∈Er.m:=by
       rcases hflat2 with h|h
       · left;have:∀(cs:List (Bool × TC)) (y:ElR cs),(cs.all fun r=>scal r.2)=true->.arr c l∈resO cs y->scal c=true:=by
           intro cs;induction cs with
           | nil=>intro y _ h;cases h
           | cons r cs ih =>
             intro y hs h;obtain⟨b,c'⟩:=r;simp only[jdp,jae] at hs;cases b with
             | false=>exact ih y.2 hs.2 h
             | true =>
               rcases jav.1 h with h|h
               · cases h;exact hs.1
               · exact ih y.2 hs.2 h
         exact this _ _ h hmem
       · exact .inr h
     obtain⟨a,cap,g1,g2,g3,g4,g5⟩:=hor;refine⟨a,cap,m3.trans g1,g2,g3,g4,g5.imp (fun⟨x,y⟩=>⟨m4.trans x,y⟩) fun⟨b1,b2,cells,t,b3,b4,us,b5,b6⟩=>⟨m4.trans b1,by rw[m1];exact b2,cells,t,by rw[m1];exact b3,b4,us,b5,fun i hi j hj=>?_⟩⟩;rcases hsc with h|h
     · exact qgs h (jbh hj) (b6 i hi j hj)
     · exact(VR.noid (hdat h) rfl (b6 i hi j hj)).2.2 _ _ (jbh hj)
 · intro id ht hA o ho hb;rcases hA with ⟨hlt,hA⟩|⟨hge,hA⟩
   · rw[hHo id hlt] at ho;rw[(qe6 hlt).2.2.2];exact pb.st.blk id ht hA o ho hb
   · obtain⟨k,rfl⟩:∃k,id=n+k:=⟨id-n,by omega⟩;rw[ja1] at hA;have ho':=hobj hA ho;rw[qeb.2.2.2];exact k2.st.blk k trivial hA o ho' hb
 · intro id ht hA hL;rcases hA with ⟨hlt,hA⟩|⟨hge,hA⟩
   · rw[(qe6 hlt).1];exact jb0 _ (pb.st.own id ht hA (hlo hlt hL))
   · obtain⟨k,rfl⟩:∃k,id=n+k:=⟨id-n,by omega⟩;rw[ja1] at hA;rw[qeb.1];exact jb8 _ (k2.st.own k trivial hA (hlv hA hL))
 · intro i j ti tj hAi hAj hLi hLj he;rcases hAi with ⟨hi,hAi⟩|⟨hi,hAi⟩<;>rcases hAj with ⟨hj,hAj⟩|⟨hj,hAj⟩
   · rw[(qe6 hi).1,(qe6 hj).1] at he;exact pb.st.inj i j ti tj hAi hAj (hlo hi hLi) (hlo hj hLj) he
   · obtain⟨k,rfl⟩:∃k,j=n+k:=⟨j-n,by omega⟩;rw[ja1] at hAj;rw[(qe6 hi).1,qeb.1] at he;have h1:=hnew k hAj (hlv hAj hLj);have h2:=pb.st.lo _ (pb.st.own i ti hAi (hlo hi hLi));omega
   · obtain⟨k,rfl⟩:∃k,i=n+k:=⟨i-n,by omega⟩;rw[ja1] at hAi;rw[(qe6 hj).1,qeb.1] at he;have h1:=hnew k hAi (hlv hAi hLi);have h2:=pb.st.lo _ (pb.st.own j tj hAj (hlo hj hLj));omega
   · obtain⟨k,rfl⟩:∃k,i=n+k:=⟨i-n,by omega⟩;obtain⟨k',rfl⟩:∃k,j=n+k:=⟨j-n,by omega⟩;rw[ja1] at hAi hAj;rw[qeb.1,qeb.1] at he;rw[k2.st.inj k k' trivial trivial hAi hAj (hlv hAi hLi) (hlv hAj hLj) he]
 · intro b hb;rcases jbq.1 hb with hb|hb
   · exact jbf (pb.st.lo b hb) k2.stp.size
   · exact k2.st.lo b hb
 · intro id hA hn' hL;rcases hA with ⟨hlt,hA⟩|⟨hge,hA⟩
   · exact absurd hA hn'
   · obtain⟨k,rfl⟩:∃k,id=n+k:=⟨id-n,by omega⟩;rw[ja1] at hA;rw[qeb.1];exact .inl (hnew k hA (hlv hA hL))
 · intro id ht hA hL;exact hlo (by rw[<- hn];exact pb.bnd id hA) hL
 · intro b hb;rcases jbq.1 hb with hb|hb
   · exact .inl hb
   · rcases hrM b hb with h|h
     · exact .inl (hM b h)
     · exact .inr h
 · intro id hA;show id<(addO (resO s.rts y) Sb).next
   rw[qcm,hn];rcases hA with ⟨hlt,hA⟩|⟨hge,hA⟩
   · omega
   · have:=hbndr _ hA;omega
 · show Sb.next<=(addO (resO s.rts y) Sb).next
   rw[qcm];omega
 · intro id hA hn';rcases hA with ⟨hlt,hA⟩|⟨hge,hA⟩
   · exact absurd hA hn'
   · show Sb.next<=id
     omega
theorem zfe{f:Nat}{s:Sm}(hc:Con P f s){vs:List IV}{r:Res}(h:exf s vs S=some r){us:List Value}(p:Pre T E S)(hrd:tin T.r r.rd)(hwr:tin T.w r.wr)(hv:VRs E vs us) :
  qah P f/\CallsIn Fence.wide 0 P f us.toArray E.w (RetE T E S r):=by
 refine⟨hc.callable,?_⟩;unfold exf at h;split at h
 ·cases h
 rename_i x S1 w hx;split at h
 ·cases h
 rename_i y hy;cases hb:s.flat with
 | true =>
  rw[hb,jab] at h;cases h;have p':Pre ⟨T.r,T.r,fun _ h=>h⟩ E S:=⟨p.st,p.bnd,fun id h=>T.sub _ (p.nw id h),p.gl⟩;obtain⟨E1,e1,q1,f1,b1⟩:=qq6 s.pts (T:=⟨T.r,T.r,fun _ h=>h⟩) hx p' hrd hv;have hm:∀b∈E1.m,b∈E.m:=fun b hb=>by
   rcases q1.stp.memo b hb with h|h
   ·exact h
   ·have:=q1.st.lo b hb;rw[e1] at this;omega
  have hcall:=hc.calls E1.m E.w x us y hy (fun b hb=>p.st.lo b (hm b hb)) (p.gl.sub hm) (qq1 (E:=E1) (E':=EM E1.m E.w) (fun _ h=>h) e1.symm s.pts b1);exact hcall.mono fun e w' hR=>qzu (Eb:=E) (Sb:=S) (T:=T) p hm (.inl hb) hR
 | false =>
  rw[hb,jah] at h;cases h;obtain⟨E1,e1,q1,f1,b1⟩:=qq6 s.pts hx p hwr hv;have p1:=q1.pre p;have hcall:=hc.calls E1.m E1.w x us y hy p1.st.lo p1.gl (qq1 (E:=E1) (E':=EM E1.m E1.w) (fun _ h=>h) rfl s.pts b1);rw[<- e1];refine hcall.mono fun e w' hR=>?_;obtain⟨u,E2,g1,g2,g3,g4,g5⟩:=qzu (Eb:=E1) (Sb:=S1) (rd:=0) (wr:=w) p1 (fun _ h=>h) (.inr fun _ h=>h) hR;exact⟨u,E2,g1,g2,g3,Post.trans p q1 f1 g4,f1.trans g5 q1.le⟩
theorem qo8(l:List IObj)(S:IS)(w:Nat):FrX S (addO l S) w:=⟨by rw[qcm];omega,fun id hid _=>by rw[qb8,jam hid]⟩
theorem qxr:∀(cs:List TC) {S:IS} {vs:List IV} {x:ElA cs} {S':IS} {w:Nat},qd8 cs S vs=some (x,S',w)->FrX S S' w
 | [],S,vs,x,S',w,h=>by
  cases vs with
  | cons v vs=>cases h
  | nil=>cases h;exact FrX.refl _ _
 | c::cs,S,vs,x,S',w,h=>by
  cases vs with
  | nil=>cases h
  | cons v vs =>
  simp only[qd8] at h;cases hb:fitV c v with
  | false=>rw[hb] at h;cases h
  | true =>
  rw[hb,jab] at h;split at h<;>try cases h
  rename_i h1;split at h<;>cases h;rename_i h2;obtain⟨a1,a2⟩:=qes c _ _ _ _ _ _ h1;exact FrX.trans ⟨jdj a1.symm,fun id _ hb=>a2 id hb⟩ (qxr cs h2)
theorem zla{s:Sm}{vs:List IV}:FrO S (exf s vs S):=fun r h=>by
 unfold exf at h;split at h
 ·cases h
 rename_i x S1 w hx;split at h
 ·cases h
 rename_i y hy;cases hb:s.flat with
 | true=>rw[hb,jab] at h;cases h;exact qo8 _ _ _
 | false =>
  rw[hb,jah] at h;cases h;have:=(qxr s.pts hx).trans (qo8 (resO s.rts y) S1 0);rw[jfo] at this;exact this
theorem q5a(n:Nat):Nat.blt n n=false:=by
 cases h:Nat.blt n n with
 | false=>rfl
 | true=>exact absurd (show n<n from jak h) (jcu n)
theorem q2w:∀(cs:List (Bool × TC)) (n:Nat) (y:ElR cs),(resV cs n y).all (low1 n)=true->resO cs y=[]
 | [],_,_,_=>rfl
 | (true,c)::cs,n,y,h=>by
  have h:(low1 n (.arr n)&&(resV cs (n+1) y.2).all (low1 n))=true:=h;have e:low1 n (.arr n)=Nat.blt n n:=rfl;rw[e,q5a] at h;cases h
 | (false,c)::cs,n,y,h=>by
  have h:(low1 n (asIV c y.1)&&(resV cs n y.2).all (low1 n))=true:=h;rw[jae] at h;exact q2w cs n y.2 h.2
theorem qx1(cs:List (Bool × TC))(n:Nat)(y:ElR cs)(h:low2 n (tupI (resV cs n y))=true):resO cs y=[]:=by
 match cs,y,h with
 | [],y,h=>rfl
 | [(true,c)],y,h =>
  have e:low2 n (tupI (resV [(true,c)] n y))=Nat.blt n n:=rfl;rw[e,q5a] at h;cases h
 | [(false,c)],y,h=>rfl
 | (ba,a)::(bb,b)::cs,y,h =>
  refine q2w _ n y ?_;cases ba<;>cases bb<;>exact h
theorem qys:∀(cs:List TC) {S:IS} {vs:List IV} {x:ElA cs} {S':IS},qd8 cs S vs=some (x,S',0)->S'=S
 | [],S,vs,x,S',h=>by
  cases vs with
  | nil=>cases h;rfl
  | cons v vs=>cases h
 | c::cs,S,vs,x,S',h=>by
  cases vs with
  | nil=>cases h
  | cons v vs =>
  simp only[qd8] at h;cases hb:fitV c v with
  | false=>rw[hb] at h;cases h
  | true =>
  rw[hb,jab] at h;split at h
  ·rename_i x1 S1 w1 h1;split at h
   ·rename_i xs S2 w2 h2;have hS:S2=S':=jaw (fun o:Option (ElA (c::cs) × IS × Nat)=>match o with|some q=>q.2.1|none=>S') h;have hw:w1 ||| w2=0:=jaw (fun o:Option (ElA (c::cs) × IS × Nat)=>match o with|some q=>q.2.2|none=>0) h;obtain⟨e1,e2⟩:=or_zero hw;rw[e1] at h1;rw[e2] at h2;rw[<- hS,qys cs h2,(qjy c h1).1]
   ·cases h
  ·cases h
theorem ze3{s:Sm}{vs:List IV}{S:IS}{r:Res}(h:exf s vs S=some r)(hw:r.wr=0)(hv:low2 S.next r.v=true):r.S=S:=by
 unfold exf at h;split at h
 ·cases h
 rename_i x S1 w hx;split at h
 ·cases h
 rename_i y hy;cases hb:s.flat with
 | true =>
  rw[hb,jab] at h;cases h;show addO (resO s.rts y) S=S;rw[qx1 _ _ _ hv];rfl
 | false =>
  rw[hb,jah] at h;cases h;have hw:w=0:=hw;subst hw;have e:=qys _ hx;subst e;show addO (resO s.rts y) S1=S1;rw[qx1 _ _ _ hv];rfl
structure HxOK (P:Program) (f:Nat) (g:Cl->List IV->IS->Option Res):Prop where
 fn:∀cl,ClOK P cl->ClFr cl->Calm cl->∀vs S r,g cl vs S=some r->∀(T:TW) (E:Env) (us:List Value),Pre T E S->tin T.r r.rd->tin T.w r.wr->VRs E vs us->qah P f/\CallsIn Fence.wide 0 P f us.toArray E.w (RetE T E S r)
 fr:∀cl,ClFr cl->∀vs S,FrO S (g cl vs S)
 calm:∀cl,Calm cl->∀vs S r,g cl vs S=some r->r.wr=0->low2 S.next r.v=true->r.S=S
def ElQ:List (Bool × TC)->Type
 | []=>Unit
 | (true,_)::cs=>Nat × ElQ cs
 | (false,c)::cs=>El c × ElQ cs
def valQ:(cs:List (Bool × TC))->ElQ cs->List IV
 | [],_=>[]
 | (true,c)::cs,x=>.arr x.1::valQ cs x.2
 | (false,c)::cs,x=>asIV c x.1::valQ cs x.2
def idsQ:(cs:List (Bool × TC))->ElQ cs->List Nat
 | [],_=>[]
 | (true,c)::cs,x=>x.1::idsQ cs x.2
 | (false,c)::cs,x=>idsQ cs x.2
def clR:(cs:List (Bool × TC))->IS->List IV->Option (ElQ cs × IS × Nat)
 | [],S,vs=>match vs with
  | []=>some ((),S,0)
  | _=>none
 | (true,c)::cs,S,vs=>match vs with
  | v::vs=>match coeV S c v with
   | some (.arr id,S1,w1)=>match clR cs S1 vs with
    | some (q,S2,w2)=>some ((id,q),S2,w1 ||| w2)
    | none=>none
   | _=>none
  | _=>none
 | (false,c)::cs,S,vs=>match vs with
  | v::vs=>cond (fitV c v) (match icl c S (cellsOf v) with
   | some (x,[],S1,w1)=>match clR cs S1 vs with
    | some (q,S2,w2)=>some ((x,q),S2,w1 ||| w2)
    | none=>none
   | _=>none) none
  | _=>none
def qcz:(cs:List (Bool × TC))->ElQ cs->IS->Option (ElR cs)
 | [],_,_=>some ()
 | (true,c)::cs,x,S=>match S.heap.get x.1 with
  | some (.arr c' l)=>match qbj c' c l with
   | some l'=>match qcz cs x.2 S with
    | some y=>some (l',y)
    | none=>none
   | none=>none
  | _=>none
 | (false,c)::cs,x,S=>match qcz cs x.2 S with
  | some y=>some (x.1,y)
  | none=>none
theorem qmo:∀(cs:List (Bool × TC)) {E:Env} {S:IS} {vs:List IV} {us:List Value} {x:ElQ cs} {S':IS} {w:Nat},clR cs S vs=some (x,S',w)->Pre T E S->tin T.w w->VRs E vs us ->
  ∃E',E'.w=E.w/\Post T E S E' S'/\Fresh E S E'/\VRs E' (valQ cs x) us
 | [],E,S,vs,us,x,S',w,h,p,hw,hv=>by
  cases vs with
  | cons v vs=>cases h
  | nil=>cases h;exact⟨E,rfl,Post.refl p,Fresh.refl E S,hv⟩
 | (true,c)::cs,E,S,vs,us,x,S',w,h,p,hw,hv=>by
  cases vs with
  | nil=>cases h
  | cons v vs =>
  simp only[clR] at h;split at h<;>try cases h
  rename_i id S1 w1 h1;split at h<;>cases h;rename_i q S2 w2 h2;obtain⟨g1,g2⟩:=qao hw;obtain⟨u,us,rfl,a1,a2⟩:=hv.inv;obtain⟨E1,e1,q1,f1,v1⟩:=qkm p h1 g1 a1;obtain⟨E2,e3,q2,f2,b2⟩:=qmo cs h2 (q1.pre p) g2 (a2.mono (q1.env p));exact⟨E2,e3.trans e1,Post.trans p q1 f1 q2,f1.trans f2 q1.le,VRs.cons (v1.mono (q2.env (q1.pre p))) b2⟩
 | (false,c)::cs,E,S,vs,us,x,S',w,h,p,hw,hv=>by
  cases vs with
  | nil=>cases h
  | cons v vs =>
  simp only[clR] at h;cases hb:fitV c v with
  | false=>rw[hb] at h;cases h
  | true =>
  rw[hb,jab] at h;split at h<;>try cases h
  rename_i x1 S1 w1 h1;split at h<;>cases h;rename_i xs S2 w2 h2;obtain⟨g1,g2⟩:=qao hw;obtain⟨u,us,rfl,a1,a2⟩:=hv.inv;obtain⟨E1,e1,q1,f1,us1,us2,e2,v1,v2⟩:=qex c h1 p g1 (a1.cells (qud hb));have:us2=[]:=by have:=v2.1;simpa using this.symm
  subst this;rw[jbo] at e2;rw[<- e2] at v1;have b1:=qre hb a1 v1;obtain⟨E2,e3,q2,f2,b2⟩:=qmo cs h2 (q1.pre p) g2 (a2.mono (q1.env p));exact⟨E2,e3.trans e1,Post.trans p q1 f1 q2,f1.trans f2 q1.le,VRs.cons (b1.mono (q2.env (q1.pre p))) b2⟩
theorem qni:∀(cs:List (Bool × TC)) {x:ElQ cs} {S:IS} {y:ElR cs},qcz cs x S=some y->(resO cs y).length=(idsQ cs x).length/\∀k:Nat,(resO cs y)[k]?=((idsQ cs x)[k]?).bind fun id=>S.heap.get id
 | [],x,S,y,h=>⟨rfl,fun k=>by simp[resO,idsQ]⟩
 | (true,c)::cs,x,S,y,h=>by
  simp only[qcz] at h;split at h<;>try cases h
  rename_i c' l ho;split at h<;>try cases h
  rename_i l' hl;obtain⟨rfl,rfl⟩:=qcj hl;split at h<;>cases h;rename_i y' hy;obtain⟨a1,a2⟩:=qni cs hy;refine⟨by simp[resO,idsQ,a1],fun k=>?_⟩;cases k with
  | zero=>simp [resO,idsQ,ho]
  | succ k=>simpa [resO,idsQ] using a2 k
 | (false,c)::cs,x,S,y,h=>by
  simp only[qcz] at h;split at h<;>cases h;rename_i y' hy;exact qni cs hy
theorem qqx{q:List Nat}(hnd:ndB q=true):∀(cs:List (Bool × TC)) {x:ElQ cs} {S:IS} {y:ElR cs} {pre:List Nat} {us:List Value},q=pre++idsQ cs x->qcz cs x S=some y->VRs E (valQ cs x) us->VRs (renE 0 q E) (resV cs pre.length y) us
 | [],x,S,y,pre,us,hq,h,hv=>by have:=hv.1;cases us with|nil=>exact VRs.nil|cons _ _=>simp [valQ] at this
 | (true,c)::cs,x,S,y,pre,us,hq,h,hv=>by
  obtain⟨u,us,rfl,a1,a2⟩:=VRs.inv (v:=.arr x.1) (cs:=valQ cs x.2) hv;simp only[qcz] at h;split at h<;>try cases h
  split at h<;>try cases h
  split at h<;>cases h;rename_i y' hy;have h2:=qqx hnd cs (pre:=pre++[x.1]) (by rw[hq];simp [idsQ]) hy a2;rw[jag] at h2;refine VRs.cons ?_ h2;have e:ol 0 q pre.length=x.1:=by
   unfold ol;rw[jan (by omega),jda,hq];simp[idsQ,jai]
  cases a1 with
  | arr hA hh=>exact .arr ⟨by rw[hq];simp [idsQ],by rw[e];exact hA⟩ (by simp only[renE,e];exact hh)
 | (false,c)::cs,x,S,y,pre,us,hq,h,hv=>by
  obtain⟨u,us,rfl,a1,a2⟩:=VRs.inv (v:=asIV c x.1) (cs:=valQ cs x.2) hv;simp only[qcz] at h;split at h<;>cases h;rename_i y' hy;exact VRs.cons (qe9 (E:=E) (E':=renE 0 q E) (fun _ h=>h) rfl a1) (qqx hnd cs hq hy a2)
theorem Post.congr{E':Env}{S' S'':IS}(hH:S'.H=S''.H)(hn:S'.next=S''.next)(h:Post T E S E' S'):Post T E S E' S'' :=
 ⟨hH▸h.st,hH▸h.stp,fun id ha=>hn▸h.bnd id ha,hn▸h.le⟩
def qin(n:Nat)(v:IV):Option (List IV) :=
 cond (Nat.beq n 1) (some [v]) (match v with
  | .tup vs=>cond (Nat.beq vs.length n) (some vs) none
  | _=>none)
def runR(s:Sm)(r:Res):Option (ElR s.rts) :=
 match qin s.rts.length r.v with
 | none=>none
 | some vs=>match clR s.rts r.S vs with
  | none=>none
  | some (x,S2,_)=>cond (ndB (idsQ s.rts x)) (qcz s.rts x S2) none
theorem zm3{s:Sm}{r:Res}{y:ElR s.rts}{M:List Nat}{w w':World}{e:Ending}(hM:∀b∈M,b<w.heap.size)(hg:Gl M w)(h:runR s r=some y)(hR:RetE T0 (EM M w) S0 r e w') :
   RetE T0 (EM M w) S0 ⟨tupI (resV s.rts 0 y),addO (resO s.rts y) S0,0,0⟩ e w':=by
 obtain⟨u,E1,rfl,rfl,k1,k2,k3⟩:=hR;have p0:=preM hM hg;have p1:=k2.pre p0;unfold runR at h;split at h
 · cases h
 rename_i vs hvs;split at h
 · cases h
 rename_i x S2 w2 hx;cases hnd:ndB (idsQ s.rts x) with
 | false=>rw[hnd] at h;cases h
 | true =>
 rw[hnd,jab] at h
 -- the results one by one
 have hlist:∃us:List Value,VRs E1 vs us/\∀(E':Env) (ws:List IV),ws.length=s.rts.length->VRs E' ws us->VR E' (tupI ws) u:=by
   unfold qin at hvs;cases hone:Nat.beq s.rts.length 1 with
   | true =>
     rw[hone,jab] at hvs;cases hvs;have hlen:=jaj hone;exact⟨[u],VRs.cons k1 VRs.nil,fun E' ws hl hw=>by
       rw[hlen] at hl;match ws,hl with
       | [a],_=>exact hw.2 0 (by simp) (by simp)⟩
   | false =>
     rw[hone,jah] at hvs;split at hvs<;>try cases hvs
     rename_i ws0 hv;cases hb:Nat.beq ws0.length s.rts.length with
     | false=>rw[hb] at hvs;cases hvs
     | true =>
     rw[hb,jab] at hvs;cases hvs;rw[hv] at k1;cases k1 with
     | tup hl hh =>
     refine⟨_,⟨hl,hh⟩,fun E' ws hl' hw=>?_⟩;match ws,hl' with
     | [],_=>exact .tup hw.1 hw.2
     | [a],hl'=>rw[<- hl'] at hone;cases hone
     | a::b::ws,_=>exact .tup hw.1 hw.2
 obtain⟨us,hus,hfin⟩:=hlist;obtain⟨E2,e2,q2,f2,hv2⟩:=qmo s.rts hx p1 (fun _ _=>trivial) hus;have p2:=q2.pre p1;have hq:=Post.trans p0 k2 k3 q2;have hf:=k3.trans f2 k2.le;have b1:=PostB.of (B:=0) (jb3 _) (fun _ _=>trivial) hq hf;have b2:=qz4 (z:=fun _=>none) (B:=0) (q:=idsQ s.rts x) p2 (jb3 _) (fun _ _=>trivial) (fun _ _ h=>by cases h) hnd (by rw[jbg];intro _ _;rfl);obtain⟨z1,z2⟩:=PostB.full p0 (show PostB S0.next T0 (EM M w) S0 _ _ from b1.trans b2);obtain⟨g1,g2⟩:=qni s.rts h;have hval:=qqx hnd s.rts (pre:=[]) rfl h hv2;refine⟨u,renE 0 (idsQ s.rts x) E2,rfl,e2,hfin _ _ ?_ hval,Post.congr ?_ ?_ z1,⟨fun id ha hn=>z2.fr id ha hn⟩⟩
 · have:∀(cs:List (Bool × TC)) (i:Nat) (y:ElR cs),(resV cs i y).length=cs.length:=by
     intro cs;induction cs with
     | nil=>intro i y;rfl
     | cons c cs ih=>intro i y;obtain⟨b,c⟩:=c;cases b<;>simp [resV]<;>exact ih _ y.2
   exact this _ _ _
 · funext k;rw[qp5,jan (show ¬k<0 by omega),qb8];have e0:S0.next=0:=rfl
   rw[e0,jan (show ¬k<0 by omega),jbk,jbk,jda,g1];by_cases hk:k<(idsQ s.rts x).length
   · rw[jam hk,jam hk,g2 k,jac hk];have e:ol 0 (idsQ s.rts x) k=(idsQ s.rts x)[k]:=by unfold ol;rw[jan (by omega),jda,jai,jac hk];rfl
     rw[e];simp only[jek];cases ho:S2.heap.get (idsQ s.rts x)[k] with
     | none=>rfl
     | some o =>
       have:o∈resO s.rts y:=by
         have:=g2 k;rw[jac hk,jek,ho] at this;exact jbu this
       obtain⟨c,l,rfl⟩:=qi5 _ _ _ this;rfl
   · rw[jan hk,jan hk];rfl
 · show 0+(idsQ s.rts x).length=(addO (resO s.rts y) S0).next
   rw[qcm,g1];rfl
end
end Go.Jx
end

section
namespace Go.Jx
open Go Go.Sx Go.RowKit
universe u

def ob{R:Type}(x:Option Res)(k:Res->Option R):Option R:=match x with|some r=>k r|none=>none
theorem qbd{R:Type}(k:Res->Option R)(b:Bool)(x y:Option Res):ob (cond b x y) k=cond b (ob x k) (ob y k):=by cases b<;>rfl
def slEl(tt:Nat->Option TI)(ty:Nat):Option TI:=match tt ty with
 | none=>none
 | some ti=>match ti.und with
  | .slice e=>tt e
  | _=>none
section
variable {R : Type}
def qp2(tt:Nat->Option TI)(S:IS)(ty:TypeId)(v:IV)(kk:Res->Option R):Option R:=match v with
 | .aptr id s i off=>match tt ty with
  | none=>none
  | some ti=>match S.heap.get id with
   | some (.arr c l)=>cond (Nat.beq s (csz c)) (match l[i]? with
    | none=>none
    | some x=>ob (cond (qa7 ti.und) (match (cel c x)[off]? with|some v=>some ⟨v,S,2 ^ id,0⟩|none=>none)
     (cond (Nat.ble (off+ti.sz) (csz c)) (some ⟨.agg (((cel c x).drop off).take ti.sz),S,2 ^ id,0⟩) none)) kk) none
   | _=>none
 | v=>ob (qdy tt S ty v) kk
theorem zha(tt:Nat->Option TI)(S:IS)(ty:TypeId)(v:IV)(kk:Res->Option R):qp2 tt S ty v kk=ob (qdy tt S ty v) kk:=by
 cases v<;>try rfl
 rename_i id s i off;simp only[qp2,qdy];cases tt ty with
 | none=>rfl
 | some ti =>
  simp only;cases S.heap.get id with
  | none=>rfl
  | some o =>
   cases o<;>try rfl
   simp only[qbd];rename_i c l;cases Nat.beq s (csz c)
   ·rfl
   ·simp only[jab];cases l[i]? with
    | none=>rfl
    | some x=>simp only[qbd];rfl
def qpi(tt:Nat->Option TI)(S:IS)(ty:Nat)(n m:Int)(kk:Res->Option R):Option R:=match tt ty with
 | none=>none
 | some ti=>match ti.und with
  | .slice e=>match tt e with
   | none=>none
   | some te=>match tcOf tt 8 e with
    | none=>none
    | some c=>match zC c te.zero.cells.toList with
     | some []=>cond (Nat.beq te.sz (csz c)&&(Nat.blt 0 te.bytes&&(Nat.ble (bsz c) te.bytes&&u8ok c e)))
      (cond (iltI n 0) none (cond (Nat.ble (Nat.mul m.toNat te.bytes) 140737488355328) (kk ⟨.arr S.next,S.new (.arr c (Go.Jx.S.rep n (zEl c))),0,0⟩) none)) none
     | _=>none
  | _=>none
theorem q28(tt:Nat->Option TI)(S:IS)(ty:Nat)(n m:Int)(kk:Res->Option R):qpi tt S ty n m kk=ob (imkC tt S ty n m) kk:=by
 unfold qpi imkC;cases tt ty with
 | none=>rfl
 | some ti =>
  simp only;cases ti.und<;>try rfl
  rename_i e;simp only;cases tt e with
  | none=>rfl
  | some te =>
   simp only;cases tcOf tt 8 e with
   | none=>rfl
   | some c =>
    simp only;cases zC c te.zero.cells.toList with
    | none=>rfl
    | some l =>
     cases l with
     | cons _ _=>rfl
     | nil=>simp only[qbd];rfl
def qxh(tt:Nat->Option TI)(S:IS)(ty:Nat)(v:IV)(kk:Res->Option R):Option R:=match v with
 | .int _ n=>qpi tt S ty n n kk
 | _=>none
def qqz(tt:Nat->Option TI)(S:IS)(ty:Nat)(v u:IV)(kk:Res->Option R):Option R:=match v,u with
 | .int _ n,.int _ m=>cond (iltI m n) none (qpi tt S ty n m kk)
 | _,_=>none
theorem zgr(tt:Nat->Option TI)(S:IS)(ty:Nat)(v:IV)(kk:Res->Option R):qxh tt S ty v kk=ob (qht tt S ty v) kk:=by
 cases v<;>first|rfl|exact q28 ..
theorem zfc(tt:Nat->Option TI)(S:IS)(ty:Nat)(v u:IV)(kk:Res->Option R):qqz tt S ty v u kk=ob (qgm tt S ty v u) kk:=by
 cases v<;>cases u<;>try rfl
 simp only[qqz,qgm,qbd,q28];rfl
def qt3(tt:Nat->Option TI)(S:IS)(ty:TypeId)(v u:IV)(kk:Res->Option R):Option R:=match v with
 | .aptr id s i off=>match tt ty with
  | none=>none
  | some ti=>match S.heap.get id with
   | some (.arr c l)=>cond (Nat.beq s (csz c)&&Nat.beq (cellsOf u).length ti.sz&&Nat.ble (off+ti.sz) (csz c)&&(cellsOf u).all one1)
    (match l[i]? with
    | none=>none
    | some x=>match icl c S (putI (cel c x) off (cellsOf u)) with
     | some (x2,[],S2,w)=>cond (Nat.testBit w id) none (kk ⟨.tup [],S2.set id (.arr c (l.set i x2)),0,w ||| 2 ^ id⟩)
     | _=>none) none
   | _=>none
 | v=>ob (qey tt S ty v u) kk
theorem q8v(tt:Nat->Option TI)(S:IS)(ty:TypeId)(v u:IV)(kk:Res->Option R):qt3 tt S ty v u kk=ob (qey tt S ty v u) kk:=by
 cases v<;>try rfl
 rename_i id s i off;simp only[qt3,qey];cases tt ty with
 | none=>rfl
 | some ti =>
  simp only;cases S.heap.get id with
  | none=>rfl
  | some o =>
   cases o<;>try rfl
   rename_i c l;simp only[qbd];cases (Nat.beq s (csz c)&&Nat.beq (cellsOf u).length ti.sz&&Nat.ble (off+ti.sz) (csz c)&&(cellsOf u).all one1)
   ·rfl
   ·simp only[jab];cases l[i]? with
    | none=>rfl
    | some x =>
     simp only;cases icl c S (putI (cel c x) off (cellsOf u)) with
     | none=>rfl
     | some q =>
      obtain⟨x2,r,S2,w⟩:=q;cases r with
      | nil =>
       simp only;rw[qbd];rfl
      | cons a r=>rfl
def qoa(tt:Nat->Option TI)(S:IS)(ty:Nat)(v u:IV)(kk:Res->Option R):Option R:=match v,u with
 | .lst c l,.int _ i=>match slEl tt ty with
  | none=>none
  | some te=>cond (Nat.beq te.sz (csz c)) (match jget l i with
   | none=>none
   | some x=>kk ⟨.eptr c x 0,S,0,0⟩) none
 | .arr id,.int _ i=>match slEl tt ty with
  | none=>none
  | some te=>match S.heap.get id with
   | some (.arr c l)=>cond (Nat.beq te.sz (csz c)) (match jget l i with
    | none=>none
    | some x=>kk ⟨.aptr id (csz c) i.toNat 0,S,2 ^ id,0⟩) none
   | some (.frz c l)=>cond (Nat.beq te.sz (csz c)) (match jget l i with
    | none=>none
    | some x=>kk ⟨.eptr c x 0,S,2 ^ id,0⟩) none
   | _=>none
 | v,u=>ob (qep tt S ty v u) kk
theorem znc(tt:Nat->Option TI)(S:IS)(ty:Nat)(v u:IV)(kk:Res->Option R):qoa tt S ty v u kk=ob (qep tt S ty v u) kk:=by
 cases v<;>try rfl
 ·cases u<;>try rfl
  rename_i c l k i;simp only[qoa,qep,slEl];cases tt ty with
  | none=>rfl
  | some ti =>
   simp only;cases ti.und<;>try rfl
   rename_i e;simp only;cases tt e with
   | none=>rfl
   | some te =>
    simp only[qbd];cases Nat.beq te.sz (csz c)
    ·rfl
    ·simp only[jab];cases jget l i<;>rfl
 ·cases u<;>try rfl
  rename_i id k i;simp only[qoa,qep,slEl];cases tt ty with
  | none=>rfl
  | some ti =>
   simp only;cases ti.und<;>try rfl
   rename_i e;simp only;cases tt e with
   | none=>rfl
   | some te =>
    simp only;cases S.heap.get id with
    | none=>rfl
    | some o =>
     cases o<;>try rfl
     all_goals
      rename_i c l;simp only[qbd];cases Nat.beq te.sz (csz c)
      ·rfl
      ·simp only[jab];cases jget l i<;>rfl
def qte(tt:Nat->Option TI)(S:IS)(ty:Nat)(lo hi mx:Option IV)(v:IV)(kk:Res->Option R):Option R:=match v with
 | .lst c l=>match slEl tt ty with
  | none=>none
  | some te=>match bndI lo 0,bndI hi l.length with
   | some a,some b=>match mx with
    | none=>cond (Nat.beq te.sz (csz c)) (cond (lchk a b l.length l.length) (kk ⟨.lst c (lsub l a b),S,0,0⟩) none) none
    | some mx=>match hi,bndI (some mx) 0 with
     | some _,some m=>cond (Nat.beq te.sz (csz c)) (cond (lchk a b m l.length) (kk ⟨.lst c (lsub l a b),S,0,0⟩) none) none
     | _,_=>none
   | _,_=>none
 | v=>ob (qer tt S ty lo hi mx v) kk
theorem q6z(tt:Nat->Option TI)(S:IS)(ty:Nat)(lo hi mx:Option IV)(v:IV)(kk:Res->Option R):qte tt S ty lo hi mx v kk=ob (qer tt S ty lo hi mx v) kk:=by
 cases v<;>try rfl
 rename_i c l;simp only[qte,qer,slEl];cases tt ty with
 | none=>rfl
 | some ti =>
  simp only;cases ti.und<;>try rfl
  rename_i e;simp only;cases tt e with
  | none=>rfl
  | some te =>
   simp only;cases bndI lo 0<;>cases bndI hi l.length<;>try rfl
   simp only;cases mx with
   | none=>simp only[qbd];rfl
   | some mx =>
    simp only;cases hi<;>cases bndI (some mx) 0<;>try rfl
    simp only[qbd];rfl
def qt9(tt:Nat->Option TI)(S:IS)(ty:Nat)(lo hi mx:Option IV)(s:ByteArray)(kk:Res->Option R):Option R :=
 match tt ty,mx with
 | some ti,none=>match ti.und with
  | .string=>match bndI lo 0,bndI hi s.size with
   | some a,some b=>cond (lchk a b s.size s.size) (kk ⟨.str (s.extract a.toNat b.toNat),S,0,0⟩) none
   | _,_=>none
  | _=>none
 | _,_=>none
theorem zev(tt:Nat->Option TI)(S:IS)(ty:Nat)(lo hi mx:Option IV)(s:ByteArray)(kk:Res->Option R):qt9 tt S ty lo hi mx s kk=ob (qgi tt S ty lo hi mx s) kk:=by
 simp only[qt9,qgi];cases tt ty<;>cases mx<;>try rfl
 rename_i ti;simp only;cases ti.und<;>try rfl
 simp only;cases bndI lo 0<;>cases bndI hi s.size<;>try rfl
 simp only[qbd];rfl
def qqo(tt:Nat->Option TI)(S:IS)(ty:Nat)(lo hi mx:Option IV)(id:Nat)(wh:Bool)(kk:Res->Option R):Option R :=
 match tt ty,mx with
 | some ti,none=>match ti.und with
  | .slice e=>match tt e with
   | none=>none
   | some te=>match S.heap.get id with
    | some (.arr c l)=>match bndI lo 0,bndI hi l.length with
     | some a,some b=>cond wh (cond (ieqI a 0&&ieqI b l.length) (kk ⟨.arr id,S,2 ^ id,0⟩) none)
      (cond (Nat.beq te.sz (csz c)&&lchk a b l.length l.length) (kk ⟨.lst c (lsub l a b),S.set id (.frz c l),0,2 ^ id⟩) none)
     | _,_=>none
    | some (.frz c l)=>match bndI lo 0,bndI hi l.length with
     | some a,some b=>cond (Nat.beq te.sz (csz c)&&lchk a b l.length l.length) (kk ⟨.lst c (lsub l a b),S,2 ^ id,0⟩) none
     | _,_=>none
    | _=>none
  | _=>none
 | _,_=>none
theorem zjo(tt:Nat->Option TI)(S:IS)(ty:Nat)(lo hi mx:Option IV)(id:Nat)(wh:Bool)(kk:Res->Option R):qqo tt S ty lo hi mx id wh kk=ob (qfx tt S ty lo hi mx id wh) kk:=by
 simp only[qqo,qfx];cases tt ty<;>cases mx<;>try rfl
 rename_i ti;simp only;cases ti.und<;>try rfl
 rename_i e;simp only;cases tt e<;>try rfl
 simp only;cases S.heap.get id<;>try rfl
 rename_i o;cases o<;>try rfl
 all_goals simp only
 ·rename_i c l;cases bndI lo 0<;>cases bndI hi l.length<;>try rfl
  simp only[qbd];rfl
 ·rename_i c l;cases bndI lo 0<;>cases bndI hi l.length<;>try rfl
  simp only[qbd];rfl
def qsy(tt:Nat->Option TI)(S:IS)(ty:Nat)(s:ByteArray)(i:Int)(kk:Res->Option R):Option R :=
 match tt ty with
 | some ti=>match ti.und with
  | .string=>match jget (qab s) i with
   | some x=>kk ⟨.int .u8 x,S,0,0⟩
   | none=>none
  | _=>none
 | none=>none
theorem zhl(tt:Nat->Option TI)(S:IS)(ty:Nat)(s:ByteArray)(i:Int)(kk:Res->Option R):qsy tt S ty s i kk=ob (qgp tt S ty s i) kk:=by
 simp only[qsy,qgp];cases tt ty<;>try rfl
 rename_i ti;simp only;cases ti.und<;>try rfl
 simp only;cases jget (qab s) i<;>rfl
def qsf(S:IS)(v:IV)(b:Bool)(kk:Res->Option R):Option R:=match v,b with
 | .ptr id 0,true=>match S.heap.get id with
  | some (.iter s p)=>cond (Nat.blt p s.size) (kk ⟨.tup [.bool true,.int .i64 p,.int .i32 (Utf8.decode s p).1],S.set id (.iter s (p+(Utf8.decode s p).2)),0,2 ^ id⟩)
   (kk ⟨.tup [.bool false],S,2 ^ id,0⟩)
  | _=>none
 | _,_=>none
theorem zef(S:IS)(v:IV)(b:Bool)(kk:Res->Option R):qsf S v b kk=ob (qfo S v b) kk:=by
 have e:∀id,qfo S (.ptr id 0) true=(match S.heap.get id with
  | some (.iter s p)=>cond (Nat.blt p s.size) (some ⟨.tup [.bool true,.int .i64 p,.int .i32 (Utf8.decode s p).1],S.set id (.iter s (p+(Utf8.decode s p).2)),0,2 ^ id⟩) (some ⟨.tup [.bool false],S,2 ^ id,0⟩)
  | _=>none):=fun id=>rfl
 unfold qsf;split
 ·rename_i id;rw[e];cases S.heap.get id with
  | none=>rfl
  | some o =>
   cases o<;>first|rfl|(simp only[qbd];rfl)
 ·rename_i h;unfold qfo;split
  ·rename_i id;exact absurd rfl (h id rfl)
  ·rfl
def qsm(tt:Nat->Option TI)(S:IS)(ty ty2 id:Nat)(y:IV)(kk:Res->Option R):Option R :=
 match S.heap.get id with
 | some (.arr c _)=>match qe8 tt ty ty2 c with
  | none=>none
  | some b=>match tsrc S c y with
   | none=>none
   | some (ly,S1,rd,wr)=>match S1.heap.get id with
    | some (.arr c2 lx)=>match qbj c c2 ly with
     | none=>none
     | some ly2=>cond (Nat.ble ((lx.length+ly2.length)*b) 140737488355328) (kk ⟨.arr S1.next,(S1.set id .dead).new (.arr c2 (lx++ly2)),rd,wr ||| 2 ^ id⟩) none
    | _=>none
 | _=>none
theorem q78(tt:Nat->Option TI)(S:IS)(ty ty2 id:Nat)(y:IV)(kk:Res->Option R):qsm tt S ty ty2 id y kk=ob (qf7 tt S ty ty2 id y) kk:=by
 simp only[qsm,qf7];cases S.heap.get id with
 | none=>rfl
 | some o =>
  cases o<;>try rfl
  rename_i c l;simp only;cases qe8 tt ty ty2 c with
  | none=>rfl
  | some b =>
   simp only;cases tsrc S c y with
   | none=>rfl
   | some q =>
    obtain⟨ly,S1,rd,wr⟩:=q;simp only;cases S1.heap.get id with
    | none=>rfl
    | some o =>
     cases o<;>try rfl
     rename_i c2 lx;simp only;cases qbj c c2 ly with
     | none=>rfl
     | some ly2=>simp only[qbd];rfl
def qe4(tt:Nat->Option TI)(S:IS)(ty ty2:Nat)(c:TC)(l:List (El c))(rd:Nat)(kk:Res->Option R):Option R :=
 match qe8 tt ty ty2 c with
 | none=>none
 | some b=>cond (Nat.ble ((0+l.length)*b) 140737488355328) (kk ⟨.arr (S.next+1),((S.new (.arr c [])).set S.next .dead).new (.arr c l),rd,0⟩) none
theorem q6k(tt:Nat->Option TI)(S:IS)(ty ty2:Nat)(c:TC)(l:List (El c))(rd:Nat)(kk:Res->Option R):qe4 tt S ty ty2 c l rd kk=ob (qc8 tt S ty ty2 c l rd) kk:=by
 simp only[qe4,qc8];cases qe8 tt ty ty2 c with
 | none=>rfl
 | some b=>simp only[qbd];rfl
def qlh(tt:Nat->Option TI)(S:IS)(ty ty2:Nat)(x y:IV)(kk:Res->Option R):Option R :=
 match x with
 | .arr id=>qsm tt S ty ty2 id y kk
 | x=>match y with
  | .lst c l=>cond (empS c x) (qe4 tt S ty ty2 c l 0 kk) none
  | .arr id=>match S.heap.get id with
   | some (.arr c l)=>cond (empS c x) (qe4 tt S ty ty2 c l (2 ^ id) kk) none
   | some (.frz c l)=>cond (empS c x) (qe4 tt S ty ty2 c l (2 ^ id) kk) none
   | _=>none
  | y=>ob (qh8 tt S ty ty2 x y) kk
theorem q6w(tt:Nat->Option TI)(S:IS)(ty ty2:Nat)(x y:IV)(kk:Res->Option R):qlh tt S ty ty2 x y kk=ob (iapp tt S ty ty2 x y) kk:=by
 have hz:∀(z:Option IObj) (b:TC->Bool) (id:Nat),(match z with
   | some (.arr c l)=>cond (b c) (qe4 tt S ty ty2 c l (2 ^ id) kk) none
   | some (.frz c l)=>cond (b c) (qe4 tt S ty ty2 c l (2 ^ id) kk) none
   | _=>none)=ob (match z with
   | some (.arr c l)=>cond (b c) (qc8 tt S ty ty2 c l (2 ^ id)) none
   | some (.frz c l)=>cond (b c) (qc8 tt S ty ty2 c l (2 ^ id)) none
   | _=>none) kk:=fun z b id=>by
  cases z with
  | none=>rfl
  | some o =>
   cases o<;>try rfl
   all_goals (simp only[qbd,q6k];rfl)
 have hl:∀(b:Bool) (c:TC) (l:List (El c)),cond b (qe4 tt S ty ty2 c l 0 kk) none=ob (cond b (qc8 tt S ty ty2 c l 0) none) kk:=fun b c l=>by simp only[qbd,q6k];rfl
 cases x<;>first|exact q78 _ _ _ _ _ _ _|(cases y<;>first|rfl|(simp only[qlh,iapp];exact hl _ _ _)|(simp only[qlh,iapp];exact hz _ (fun c=>empS c _) _))
def qjw(P:Program)(tt:Nat->Option TI)(nt:Nat)(fr:PT IV)(S:IS)(o:Oper)(op:BinOp)(T:TypeId)(ti:TI)(v u:IV)(kk:Res->Option R):Option R:=match v,u with
 | .str a,.str b=>match op with
  | .add=>cond (Nat.blt (a.size+b.size) 9223372036854775808) (kk ⟨.str (a++b),S,0,0⟩) none
  | op=>ob (qdd P tt nt fr S o op T ti (.str a) (.str b)) kk
 | .int k a,.int k' b=>match op with
  | .quo=>cond (decide (k=k')) (cond (ieqI b 0) none (kk ⟨.int k (k.wrap (a.tdiv b)),S,0,0⟩)) (ob (qbb P nt fr S o) kk)
  | .rem=>cond (decide (k=k')) (cond (ieqI b 0) none (kk ⟨.int k (a.tmod b),S,0,0⟩)) (ob (qbb P nt fr S o) kk)
  | op=>ob (qdd P tt nt fr S o op T ti (.int k a) (.int k' b)) kk
 | .lst _ l,.nilsl=>cond (isSl ti.und) (match l with
  | []=>none
  | _::_=>match op with
   | .eql=>kk ⟨.bool false,S,0,0⟩
   | .neq=>kk ⟨.bool true,S,0,0⟩
   | _=>none) none
 | v,u=>ob (qdd P tt nt fr S o op T ti v u) kk
theorem zjr(P:Program)(tt:Nat->Option TI)(nt:Nat)(fr:PT IV)(S:IS)(o:Oper)(op:BinOp)(T:TypeId)(ti:TI)(v u:IV)(kk:Res->Option R):qjw P tt nt fr S o op T ti v u kk=ob (qdd P tt nt fr S o op T ti v u) kk:=by
 cases v<;>cases u<;>try rfl
 ·cases op<;>try rfl
  all_goals
   rename_i k a k' b;simp only[qjw,qdd,qmr,ibin];cases decide (k=k') with
   | false=>rfl
   | true =>
    simp only[jab];cases ieqI b 0<;>rfl
 ·cases op<;>try rfl
  simp only[qjw,qdd,qbd];rfl
 ·simp only[qjw,qdd,qbd];rename_i c l;cases l<;>cases op<;>rfl
def exfK(s:Sm)(vs:List IV)(S:IS)(kk:Res->Option R):Option R :=
 match qd8 s.pts S vs with
 | none=>none
 | some (x,S1,w)=>match s.f x with
  | none=>none
  | some y=>cond s.flat (kk ⟨tupI (resV s.rts S.next y),addO (resO s.rts y) S,w,0⟩) (kk ⟨tupI (resV s.rts S1.next y),addO (resO s.rts y) S1,0,w⟩)
theorem zep(s:Sm)(vs:List IV)(S:IS)(kk:Res->Option R):exfK s vs S kk=ob (exf s vs S) kk:=by
 simp only[exfK,exf];cases qd8 s.pts S vs with
 | none=>rfl
 | some q =>
  obtain⟨x,S1,w⟩:=q;simp only;cases s.f x with
  | none=>rfl
  | some y=>simp only[qbd];rfl
def qso(tt:Nat->Option TI)(S:IS)(ty:Nat)(v:IV)(kk:Res->Option R):Option R:=match v with
 | .map id=>match tt ty with
  | some ti=>match ti.und with
   | .map _ _=>match S.heap.get id with
    | some (.tmap _ _ es)=>cond (Nat.blt es.length 9223372036854775808) (kk ⟨.int .i64 es.length,S,2 ^ id,0⟩) none
    | _=>ob (ilen tt S ty (.map id)) kk
   | _=>none
  | none=>none
 | v=>ob (ilen tt S ty v) kk
theorem zhr(tt:Nat->Option TI)(S:IS)(ty:Nat)(v:IV)(kk:Res->Option R):qso tt S ty v kk=ob (ilen tt S ty v) kk:=by
 cases v<;>try rfl
 rename_i id;simp only[qso];cases h1:tt ty with
 | none=>simp only[ilen,h1];rfl
 | some ti =>
  simp only;cases h2:ti.und<;>try (simp only[ilen,h1,h2];rfl)
  simp only;cases h3:S.heap.get id with
  | none=>rfl
  | some o =>
   cases o<;>try rfl
   simp only[ilen,h1,h2,h3,qbd];rfl
end
end Go.Jx
end

section
namespace Go.Jx
open Go Go.Sx Go.RowKit
universe u

def bd{α R:Type}(x:Option α)(k:α->Option R):Option R:=match x with|some a=>k a|none=>none
theorem qj3{α R:Type}(k:α->Option R)(b:Bool)(x y:Option α):bd (cond b x y) k=cond b (bd x k) (bd y k):=by cases b<;>rfl
theorem qfp{α R:Type}(x:Option α)(f:α->Option Res)(k:Res->Option R):ob (oget x f) k=bd x fun a=>ob (f a) k:=by cases x<;>rfl
section
variable {R : Type}
def iopK(P:Program)(tt:Nat->Option TI)(nt:Nat)(fr:PT IV)(S:IS)(o:Oper)(kk:Res->Option R):Option R :=
 match o.op with
 | .load T x=>bd (evo nt fr x) fun v=>qp2 tt S T v kk
 | .store T x y=>bd (evo nt fr x) fun v=>bd (evo nt fr y) fun u=>qt3 tt S T v u kk
 | .binOp op T x y _=>bd (evo nt fr x) fun v=>bd (evo nt fr y) fun u=>match tt T with
  | some ti=>qjw P tt nt fr S o op T ti v u kk
  | none=>none
 | .slice T x lo hi mx=>bd (evo nt fr x) fun v=>match v with
  | .lst c l=>bd (evM nt fr lo) fun lo=>bd (evM nt fr hi) fun hi=>bd (evM nt fr mx) fun mx=>qte tt S T lo hi mx (.lst c l) kk
  | .str s=>bd (evM nt fr lo) fun lo=>bd (evM nt fr hi) fun hi=>bd (evM nt fr mx) fun mx=>qt9 tt S T lo hi mx s kk
  | .arr id=>bd (evM nt fr lo) fun lo=>bd (evM nt fr hi) fun hi=>bd (evM nt fr mx) fun mx=>qqo tt S T lo hi mx id (q6m o.pos) kk
  | _=>ob (iop P tt nt fr S o) kk
 | .indexAddr T x y=>bd (evo nt fr x) fun v=>bd (evo nt fr y) fun u=>qoa tt S T v u kk
 | .makeSlice T x y=>bd (evo nt fr x) fun v=>cond (qm7 x y) (qxh tt S T v kk) (bd (evo nt fr y) fun u=>qqz tt S T v u kk)
 | .next x b=>bd (evo nt fr x) fun v=>qsf S v b kk
 | .index T x y=>bd (evo nt fr x) fun v=>bd (evo nt fr y) fun u=>match v,u with
  | .str s,.int _ i=>qsy tt S T s i kk
  | _,_=>ob (iop P tt nt fr S o) kk
 | .call ⟨.builtin .append,args,ts⟩=>match args.toList,ts.toList with
  | [x,y],[t1,t2]=>bd (evo nt fr x) fun v=>bd (evo nt fr y) fun u=>qlh tt S t1 t2 v u kk
  | _,_=>none
 | .call ⟨.builtin .len,args,ts⟩=>match args.toList,ts.toList with
  | [x],[t1]=>bd (evo nt fr x) fun v=>match v with
   | .map id=>qso tt S t1 (.map id) kk
   | _=>ob (iop P tt nt fr S o) kk
  | _,_=>none
 | _=>ob (iop P tt nt fr S o) kk
theorem q4r(P:Program)(tt:Nat->Option TI)(nt:Nat)(fr:PT IV)(S:IS)(o:Oper)(kk:Res->Option R):iopK P tt nt fr S o kk=ob (iop P tt nt fr S o) kk:=by
 obtain⟨dst,op,ty,pos,aft,g⟩:=o;cases op<;>try rfl
 case load T x=>simp only[iopK,iop,qfp,zha]
 case store T x y=>simp only[iopK,iop,qfp,q8v]
 case binOp op T x y t2 =>
  simp only[iopK,iop,qfp];cases evo nt fr x<;>try rfl
  cases evo nt fr y<;>try rfl
  simp only[bd];cases tt T<;>first|rfl|exact zjr ..
 case slice T x lo hi mx =>
  simp only[iopK];cases he:evo nt fr x with
  | none=>simp only[iop,he];rfl
  | some v =>
   simp only[bd];cases v<;>try rfl
   ·simp only[iop,he,oget];cases evM nt fr lo<;>try rfl
    cases evM nt fr hi<;>try rfl
    cases evM nt fr mx<;>try rfl
    exact zev ..
   ·simp only[iop,he,oget];cases evM nt fr lo<;>try rfl
    cases evM nt fr hi<;>try rfl
    cases evM nt fr mx<;>try rfl
    exact q6z ..
   ·simp only[iop,he,oget];cases evM nt fr lo<;>try rfl
    cases evM nt fr hi<;>try rfl
    cases evM nt fr mx<;>try rfl
    exact zjo ..
 case indexAddr T x y=>simp only[iopK,iop,qfp,znc]
 case makeSlice T x y=>simp only[iopK,iop,qfp,qbd,zgr,zfc]
 case next x b=>simp only[iopK,iop,qfp,zef]
 case index T x y =>
  simp only[iopK];cases he:evo nt fr x with
  | none=>simp only[iop,he];rfl
  | some v =>
   simp only[bd];cases he2:evo nt fr y with
   | none=>simp only[iop,he,he2,oget];rfl
   | some u =>
    simp only;cases v<;>cases u<;>try rfl
    simp only[iop,he,he2,oget];exact zhl ..
 case call c =>
  obtain⟨callee,args,ts⟩:=c;cases callee<;>try rfl
  rename_i b;cases b<;>try rfl
  case append =>
   simp only[iopK,iop];generalize args.toList=la;generalize ts.toList=lt;cases la with
   | nil=>rfl
   | cons x la=>cases la with
    | nil=>rfl
    | cons y la=>cases la with
     | cons z la=>rfl
     | nil=>cases lt with
      | nil=>rfl
      | cons t1 lt=>cases lt with
       | nil=>rfl
       | cons t2 lt=>cases lt with
        | cons t3 lt=>rfl
        | nil=>simp only[qfp,q6w]
  case len =>
   simp only[iopK,iop];generalize args.toList=la;generalize ts.toList=lt;cases la with
   | nil=>rfl
   | cons x la=>cases la with
    | cons y la=>rfl
    | nil=>cases lt with
     | nil=>rfl
     | cons t1 lt=>cases lt with
      | cons t2 lt=>rfl
      | nil =>
       simp only;cases he:evo nt fr x with
       | none=>rfl
       | some v =>
        simp only[bd,oget];cases v<;>try rfl
        exact zhr ..
abbrev ClK(R:Type):=Tgt->List IV->IS->(Res->Option R)->Option R
def qhn(P:Program)(tt:Nat->Option TI)(nt:Nat)(cl:ClK R)(fr:PT IV)(S:IS)(o:Oper)(kk:Res->Option R):Option R :=
 match o.op with
 | .call ⟨.value x,args,_⟩=>bd (evo nt fr x) fun v=>bd (evL nt fr args.toList) fun vs=>match v with
  | .fn f caps=>cl (.fn f) (vs++caps) S kk
  | .bfn f bs=>cl (.fn f) (bs++vs) S kk
  | .yield id=>cl (.yield id) vs S kk
  | _=>none
 | _=>iopK P tt nt fr S o kk
def ClEq(cl:Cl)(clK:ClK R):Prop:=∀tgt vs S kk,clK tgt vs S kk=ob (cl tgt vs S) kk
variable {P : Program} {tt : Nat -> Option TI} {nt : Nat} {cl : Cl} {clK : ClK R}
theorem qy0(h:ClEq cl clK)(fr:PT IV)(S:IS)(o:Oper)(kk:Res->Option R):qhn P tt nt clK fr S o kk=ob (qch P tt nt cl fr S o) kk:=by
 obtain⟨dst,op,ty,pos,aft,g⟩:=o;cases op
 case call c =>
  obtain⟨callee,args,ts⟩:=c;cases callee
  case value x =>
   simp only[qhn,qch,qfp];cases evo nt fr x<;>try rfl
   rename_i v;cases evL nt fr args.toList<;>try rfl
   rename_i vs;cases v<;>try rfl
   ·exact h ..
   ·exact h ..
   ·exact h ..
  all_goals (simp only[qhn,qch];exact q4r ..)
 all_goals (simp only[qhn,qch];exact q4r ..)
theorem PT.set_same{α:Type u}{x:α}:∀{t:PT α} {n:Nat},t.get n=some x->t.set x n=t
 | .leaf,n,h=>by cases h
 | .node v l r,n,h=>by
  unfold PT.get at h;unfold PT.set;cases h0:Nat.beq n 0 with
  | true=>rw[h0,jab] at h;subst h;rfl
  | false =>
   rw[h0,jah] at h;simp only[jah];cases h1:Nat.beq (n % 2) 1 with
   | true=>rw[h1,jab] at h;simp only[jab];rw[PT.set_same h]
   | false=>rw[h1,jah] at h;simp only[jah];rw[PT.set_same h]
theorem zb4{fr:PT IV}{t:Nat}{v:IV}(h:slot fr t=v)(hv:v≠.unk):fr.set v t=fr:=by
 unfold slot at h;cases hg:fr.get t with
 | none=>rw[hg] at h;exact absurd h.symm hv
 | some x=>rw[hg] at h;subst h;exact PT.set_same hg
def guK(ops:List Oper)(nt:Nat)(fr:PT IV)(g:Option (Nat × Bool))(yes no:PT IV->Option R):Option R :=
 match g with
 | none=>yes fr
 | some (j,want)=>match qb7 ops j with
  | none=>no fr
  | some t=>match slot fr t with
   | .bool b=>cond (Nat.blt t nt) (cond b (cond want yes no (fr.set (.bool true) t)) (cond want no yes (fr.set (.bool false) t))) (no fr)
   | v=>cond (qcx v) (no fr) none
theorem q4n(ops:List Oper)(nt:Nat)(fr:PT IV)(g:Option (Nat × Bool))(yes no:PT IV->Option R):guK ops nt fr g yes no=cond (gOK ops fr g) (cond (qc3 ops nt fr g) (yes fr) (no fr)) none:=by
 unfold guK gOK qc3 qk7;cases g with
 | none=>rfl
 | some q =>
  obtain⟨j,want⟩:=q;simp only;cases qb7 ops j with
  | none=>rfl
  | some t =>
   simp only;cases hs:slot fr t
   case bool b =>
    have hf:fr.set (.bool b) t=fr:=zb4 hs (by simp);simp only[qcx,jab];cases Nat.blt t nt
    ·rfl
    ·cases b<;>cases want<;>simp only[jab,jah,hf,jbb,ja4]
   all_goals (cases Nat.blt t nt<;>rfl)
def qhi(P:Program)(tt:Nat->Option TI)(nt:Nat)(cl:ClK R)(ops:List Oper):List Oper->PT IV->IS->(FRes->Option R)->Option R
 | [],fr,S,kk=>kk ⟨fr,S,0,0⟩
 | o::l,fr,S,kk=>guK ops nt fr o.guard
  (fun fr=>qhn P tt nt cl fr S o fun r=>qhi P tt nt cl ops l (putD o.dst r.v fr) r.S fun q=>kk ⟨q.fr,q.S,r.rd ||| q.rd,r.wr ||| q.wr⟩)
  (fun fr=>qhi P tt nt cl ops l (putD o.dst (.tup []) fr) S kk)
theorem qp9(h:ClEq cl clK)(ops:List Oper):∀(l:List Oper) (fr:PT IV) (S:IS) (kk:FRes->Option R),qhi P tt nt clK ops l fr S kk=bd (iseq P tt nt cl ops l fr S) kk
 | [],fr,S,kk=>rfl
 | o::l,fr,S,kk=>by
  simp only[qhi,iseq,q4n,qj3,qy0 h,qp9 h ops l];refine cond_congr' ?_;refine cond_congr' ?_;cases qch P tt nt cl fr S o with
  | none=>rfl
  | some r =>
   simp only[ob];cases iseq P tt nt cl ops l (putD o.dst r.v fr) r.S<;>rfl
where cond_congr' {b:Bool} {x x' y:Option R} (h:x=x'):cond b x y=cond b x' y:=by rw[h]
def qju(P:Program)(tt:Nat->Option TI)(nt:Nat)(cl:ClK R)(ops:List Oper):List Oper->PT IV->IS->(Recs->Option R)->Option R
 | [],fr,S,kk=>kk ⟨[],fr,S⟩
 | o::l,fr,S,kk=>guK ops nt fr o.guard
  (fun fr=>qhn P tt nt cl fr S o fun r=>qju P tt nt cl ops l (putD o.dst r.v fr) r.S fun q=>kk ⟨⟨fr,S,r.v,r.rd,r.wr,true⟩::q.l,q.fr,q.S⟩)
  (fun fr=>qju P tt nt cl ops l (putD o.dst (.tup []) fr) S fun q=>kk ⟨⟨fr,S,.tup [],0,0,false⟩::q.l,q.fr,q.S⟩)
theorem q1q(h:ClEq cl clK)(ops:List Oper):∀(l:List Oper) (fr:PT IV) (S:IS) (kk:Recs->Option R),qju P tt nt clK ops l fr S kk=bd (qc2 P tt nt cl ops l fr S) kk
 | [],fr,S,kk=>rfl
 | o::l,fr,S,kk=>by
  simp only[qju,qc2,q4n,qj3,qy0 h,q1q h ops l];cases gOK ops fr o.guard
  ·rfl
  cases qc3 ops nt fr o.guard
  ·simp only[jab,jah];cases qc2 P tt nt cl ops l (putD o.dst (.tup []) fr) S<;>rfl
  ·simp only[jab];cases qch P tt nt cl fr S o with
   | none=>rfl
   | some r =>
    simp only[ob];cases qc2 P tt nt cl ops l (putD o.dst r.v fr) r.S<;>rfl
def qpk(P:Program)(tt:Nat->Option TI)(nt:Nat)(cl:ClK R)(ops:List Oper)(fr:PT IV)(S:IS)(kk:FRes->Option R):Option R :=
 qju P tt nt cl ops ops fr S fun q=>cond (ichk q.l q.S (befs ops []) []) (kk ⟨q.fr,q.S,orRd q.l,orWr q.l⟩) none
theorem q0y(h:ClEq cl clK)(ops:List Oper)(fr:PT IV)(S:IS)(kk:FRes->Option R):qpk P tt nt clK ops fr S kk=bd (iany P tt nt cl ops fr S) kk:=by
 simp only[qpk,iany,q1q h];cases qc2 P tt nt cl ops ops fr S with
 | none=>rfl
 | some q=>simp only[qj3];rfl

abbrev CdK(R:Type):=PT IV->IS->List Nat->(CRes->Option R)->Option R
def qk9(f:CdK R):Nat->CdK R
 | 0,_,_,_,_=>none
 | n+1,fr,S,ds,kk=>f fr S ds fun r=>match r.e with
  | .normal=>qk9 f n r.fr r.S r.ds fun q=>kk (q.or r.rd r.wr)
  | _=>kk r
def qen(f:CdK R)(mr mw:Nat):Nat->CdK R
 | 0,_,_,_,_=>none
 | n+1,fr,S,ds,kk=>f fr S ds fun r=>cond (subm r.rd mr&&subm r.wr mw) (match r.e with
  | .normal=>qen f mr mw n r.fr r.S r.ds kk
  | e=>kk ⟨e,r.fr,r.S,r.ds,mr,mw⟩) none
def qog(cl:ClK R)(f:Nat)(caps:List IV)(S:IS)(id:Nat)(fr:PT IV)(ds:List Nat)(rd:Nat)(kk:CRes->Option R):Option R :=
 cl (.fn f) (.yield id::caps) S fun r=>match r.S.heap.get id with
  | some (.loop st pend nt fr2 ps assign body D)=>match st with
   | .busy=>none
   | _=>match pend with
    | none=>kk ⟨.normal,fr,r.S.set id (.loop .exhausted pend nt fr2 ps assign body D),ds,rd ||| (r.rd ||| 2 ^ id),r.wr ||| 2 ^ id⟩
    | some c=>match qiy c with
     | none=>none
     | some e=>kk ⟨e,fr,r.S.set id (.loop .exhausted pend nt fr2 ps assign body D),ds,rd ||| (r.rd ||| 2 ^ id),r.wr ||| 2 ^ id⟩
  | _=>none
theorem q55(h:ClEq cl clK)(f:Nat)(caps:List IV)(S:IS)(id:Nat)(fr:PT IV)(ds:List Nat)(rd:Nat)(kk:CRes->Option R):qog clK f caps S id fr ds rd kk=bd (ifin cl f caps S id fr ds rd) kk:=by
 simp only[qog,ifin,h (.fn f)];cases cl (.fn f) (.yield id::caps) S with
 | none=>rfl
 | some r =>
  simp only[ob];cases r.S.heap.get id with
  | none=>rfl
  | some o =>
   cases o<;>try rfl
   rename_i st pend nt fr2 ps assign body D;cases st<;>try rfl
   all_goals
    cases pend with
    | none=>rfl
    | some c =>
     simp only;cases qiy c<;>rfl
theorem qu7{B:Nat}(x:Option CRes)(kk:CRes->Option R):bd (mbO B x) kk=bd x fun r=>kk (mbR B r):=by cases x<;>rfl
def qax(P:Program)(tt:Nat->Option TI)(nm:Nat->Option Nm)(B:Nat)(nt:Nat)(cl:ClK R)(lf:Nat)(round:Option Nat):Code->CdK R
 | .skip,fr,S,ds,kk=>kk ⟨.normal,fr,S,ds,0,0⟩
 | .label _,fr,S,ds,kk=>kk ⟨.normal,fr,S,ds,0,0⟩
 | .exit id,fr,S,ds,kk=>kk ⟨.exit id,fr,S,ds,0,0⟩
 | .goto l,fr,S,ds,kk=>kk ⟨.goto l,fr,S,ds,0,0⟩
 | .ret,fr,S,ds,kk=>kk ⟨.ret,fr,S,ds,0,0⟩
 | .refuse _,_,_,_,_=>none
 | .region id ops draw,fr,S,ds,kk=>bd (qcc nt (nm id) B fr S ds) fun x =>
  cond draw (qpk P tt nt cl ops.toList x.fr x.S fun q=>kk (mbR (mB nm B) ⟨.normal,q.fr,q.S,x.ds,q.rd,x.wr ||| q.wr⟩))
   (qhi P tt nt cl ops.toList ops.toList x.fr x.S fun q=>kk (mbR (mB nm B) ⟨.normal,q.fr,q.S,x.ds,q.rd,x.wr ||| q.wr⟩))
 | .seq x y,fr,S,ds,kk=>qax P tt nm B nt cl lf round x fr S ds fun r=>match r.e with
  | .normal=>qax P tt nm B nt cl lf round y r.fr r.S r.ds fun q=>kk (q.or r.rd r.wr)
  | _=>kk r
 | .cond c x y,fr,S,ds,kk=>match evo nt fr c with
  | some (.bool b)=>cond b (qax P tt nm B nt cl lf round x fr S ds kk) (qax P tt nm B nt cl lf round y fr S ds kk)
  | _=>none
 | .block id c,fr,S,ds,kk=>qax P tt nm B nt cl lf round c fr S ds fun r=>match r.e with
  | .exit id'=>cond (Nat.beq id' id) (kk ⟨.normal,r.fr,r.S,r.ds,r.rd,r.wr⟩) (kk r)
  | _=>kk r
 | .scope c,fr,S,ds,kk=>qax P tt nm B nt cl lf round c fr S ds fun r=>match r.e with
  | .goto _=>none
  | _=>kk r
 | .loop c,fr,S,ds,kk=>match qdq nm c with
  | some m=>qen (qax P tt nm B nt cl lf round c) m.1 m.2 lf fr S ds fun r=>kk (mbR (mB nm B) r)
  | none=>qk9 (qax P tt nm B nt cl lf round c) lf fr S ds kk
 | .rangeFunc g ps assign body,fr,S,ds,kk=>match evo nt fr g with
  | some (.fn f caps)=>match round with
   | none=>qog cl f caps ((S.new (.defs true)).new (.loop .ready none nt fr ps.toList assign body S.next)) (S.next+1) fr (S.next::ds) 0 fun r=>kk (mbR (mB nm B) r)
   | some l=>match S.heap.get l with
    | some (.loop _ _ _ _ _ _ _ D)=>qog cl f caps (S.new (.loop .ready none nt fr ps.toList assign body D)) S.next fr ds (2 ^ l) fun r=>kk (mbR (mB nm B) r)
    | _=>none
  | _=>none
variable {nm : Nat -> Option Nm} {B lf : Nat} {round : Option Nat}
theorem qxq{g:PT IV->IS->List Nat->Option CRes}{f:CdK R}(h:∀fr S ds kk,f fr S ds kk=bd (g fr S ds) kk):∀n fr S ds kk,qk9 f n fr S ds kk=bd (qek g n fr S ds) kk
 | 0,_,_,_,_=>rfl
 | n+1,fr,S,ds,kk=>by
  simp only[qk9,qek,h,qxq h n];cases g fr S ds with
  | none=>rfl
  | some r =>
   simp only[bd];cases r.e<;>try rfl
   simp only;cases qek g n r.fr r.S r.ds<;>rfl
theorem qv8{g:PT IV->IS->List Nat->Option CRes}{f:CdK R}{mr mw:Nat}(h:∀fr S ds kk,f fr S ds kk=bd (g fr S ds) kk):∀n fr S ds kk,qen f mr mw n fr S ds kk=bd (qcq g mr mw n fr S ds) kk
 | 0,_,_,_,_=>rfl
 | n+1,fr,S,ds,kk=>by
  simp only[qen,qcq,h,qv8 h n];cases g fr S ds with
  | none=>rfl
  | some r =>
   simp only[qj3];simp only[bd];cases subm r.rd mr&&subm r.wr mw
   ·rfl
   ·simp only[jab];cases r.e<;>rfl
theorem qeu(hcl:ClEq cl clK):∀(c:Code) (fr:PT IV) (S:IS) (ds:List Nat) (kk:CRes->Option R),qax P tt nm B nt clK lf round c fr S ds kk=bd (qaj P tt nm B nt cl lf round c fr S ds) kk:=by
 intro c;induction c with
 | skip=>intros;rfl
 | label l=>intros;rfl
 | exit id=>intros;rfl
 | goto l=>intros;rfl
 | ret=>intros;rfl
 | refuse _=>intros;rfl
 | region id ops draw =>
  intro fr S ds kk;simp only[qax,qaj,qu7];cases qcc nt (nm id) B fr S ds with
  | none=>rfl
  | some x =>
   simp only[bd,q0y hcl,qp9 hcl];cases draw with
   | true=>simp only[jab];cases iany P tt nt cl ops.toList x.fr x.S<;>rfl
   | false=>simp only[jah];cases iseq P tt nt cl ops.toList ops.toList x.fr x.S<;>rfl
 | seq x y ihx ihy =>
  intro fr S ds kk;simp only[qax,qaj,ihx,ihy];cases qaj P tt nm B nt cl lf round x fr S ds with
  | none=>rfl
  | some r =>
   simp only[bd];cases r.e<;>try rfl
   simp only;cases qaj P tt nm B nt cl lf round y r.fr r.S r.ds<;>rfl
 | cond c x y ihx ihy =>
  intro fr S ds kk;simp only[qax,qaj];cases evo nt fr c with
  | none=>rfl
  | some v =>
   cases v<;>try rfl
   simp only[ihx,ihy,qj3]
 | block id c ih =>
  intro fr S ds kk;simp only[qax,qaj,ih];cases qaj P tt nm B nt cl lf round c fr S ds with
  | none=>rfl
  | some r =>
   simp only[bd];cases r.e<;>try rfl
   simp only;rename_i id';cases Nat.beq id' id<;>rfl
 | scope c ih =>
  intro fr S ds kk;simp only[qax,qaj,ih];cases qaj P tt nm B nt cl lf round c fr S ds with
  | none=>rfl
  | some r =>
   simp only[bd];cases r.e<;>rfl
 | loop c ih =>
  intro fr S ds kk;simp only[qax,qaj];cases qdq nm c with
  | none=>exact qxq ih _ _ _ _ _
  | some m=>exact(qv8 ih _ _ _ _ _).trans (qu7 _ _).symm
 | rangeFunc g ps assign body ih1 ih2 =>
  intro fr S ds kk;simp only[qax,qaj,qu7];cases evo nt fr g with
  | none=>rfl
  | some v =>
   cases v<;>try rfl
   simp only;cases round with
   | none=>exact q55 hcl ..
   | some l =>
    simp only;cases S.heap.get l with
    | none=>rfl
    | some o =>
     cases o<;>try rfl
     exact q55 hcl ..
def qq8(P:Program)(tt:Nat->Option TI)(cl:ClK R)(lf:Nat)(id:Nat)(vs:List IV)(S:IS)(kk:Res->Option R):Option R :=
 match S.heap.get id with
 | some (.loop .ready _ nt fr ps assign body _)=>cond (Nat.beq vs.length ps.length&&qa1 assign&&qa1 body)
  (qax P tt (fun _=>none) S.next nt cl lf (some id) assign (qdl ps vs fr) S [] fun r1=>match r1.e with
   | .normal=>match r1.S.heap.get id with
    | some (.loop .ready pend nt2 fr2 ps2 as2 bd2 D2)=>qax P tt (fun _=>none) S.next nt cl lf (some id) body r1.fr (r1.S.set id (.loop .busy pend nt2 fr2 ps2 as2 bd2 D2)) r1.ds fun r2 =>
     match r2.S.heap.get id with
     | some (.loop _ _ nt3 fr3 ps3 as3 bd3 D3)=>kk ⟨.bool (qdc r2.e).isNone,r2.S.set id (.loop (if (qdc r2.e).isNone then .ready else .done) (qdc r2.e) nt3 fr3 ps3 as3 bd3 D3),2 ^ id ||| (r1.rd ||| r2.rd),(r1.wr ||| 2 ^ id) ||| (r2.wr ||| 2 ^ id)⟩
     | _=>none
    | _=>none
   | _=>none) none
 | _=>none
theorem zmo(hcl:ClEq cl clK)(id:Nat)(vs:List IV)(S:IS)(kk:Res->Option R):qq8 P tt clK lf id vs S kk=ob (qef P tt cl lf id vs S) kk:=by
 simp only[qq8,qef];cases S.heap.get id with
 | none=>rfl
 | some o =>
  cases o<;>try rfl
  rename_i st pend nt fr ps assign body D;cases st<;>try rfl
  simp only[qbd,qeu hcl];cases (Nat.beq vs.length ps.length&&qa1 assign&&qa1 body)
  ·rfl
  ·simp only[jab];cases qaj P tt (fun _=>none) S.next nt cl lf (some id) assign (qdl ps vs fr) S [] with
   | none=>rfl
   | some r1 =>
    simp only[bd];cases r1.e<;>try rfl
    simp only;cases r1.S.heap.get id with
    | none=>rfl
    | some o =>
     cases o<;>try rfl
     rename_i st pend2 nt2 fr2 ps2 as2 bd2 D2;cases st<;>try rfl
     simp only;cases qaj P tt (fun _=>none) S.next nt cl lf (some id) body r1.fr (r1.S.set id (.loop .busy pend2 nt2 fr2 ps2 as2 bd2 D2)) r1.ds with
     | none=>rfl
     | some r2 =>
      simp only;cases r2.S.heap.get id with
      | none=>rfl
      | some o=>cases o<;>rfl
abbrev ClP:=(R:Type)->ClK R
structure Hx where
 f:Cl->List IV->IS->Option Res
 k:ClP->(R:Type)->List IV->IS->(Res->Option R)->Option R
 eq:∀(cl:Cl) (clP:ClP),(∀R,ClEq cl (clP R))->∀R vs S kk,k clP R vs S kk=ob (f cl vs S) kk
def exH(sm:Nat->Option Sm)(hx:Nat->Option Hx):Ex:=fun f=>match sm f with
 | some s=>some (fun _=>exf s)
 | none=>match hx f with
  | some h=>some h.f
  | none=>none
def qa8(P:Program)(tt:Nat->Option TI)(ft:Nat->Option FI)(nm:Nat->Nat->Option Nm)(sm:Nat->Option Sm)(hx:Nat->Option Hx)(lf:Nat):Nat->ClP
 | 0,_,_,_,_,_=>none
 | n+1,R,tgt,vs,S,kk=>match tgt with
  | .yield id=>qq8 P tt (qa8 P tt ft nm sm hx lf n R) lf id vs S kk
  | .fn f=>match sm f with
   | some s=>exfK s vs S kk
   | none=>match hx f with
    | some h=>h.k (qa8 P tt ft nm sm hx lf n) R vs S kk
    | none=>match ft f with
     | none=>none
     | some fi=>cond (frzF (nm f)) none (cond (Nat.ble vs.length fi.nt) (qax P tt (nm f) S.next fi.nt (qa8 P tt ft nm sm hx lf n R) lf none fi.body (qaz vs 0 .leaf) S [] fun r=>cond r.e.leaves (bd (qd6 tt fi.nt fi.res S r) kk) none) none)
theorem qbh{ft:Nat->Option FI}{nm:Nat->Nat->Option Nm}{sm:Nat->Option Sm}{hx:Nat->Option Hx}:∀n R,ClEq (qce P tt ft nm (exH sm hx) lf n) (qa8 P tt ft nm sm hx lf n R)
 | 0,_=>fun _ _ _ _=>rfl
 | n+1,R=>fun tgt vs S kk=>by
  unfold qa8 qce;cases tgt with
  | yield id=>exact zmo (qbh n R) ..
  | fn f =>
   simp only[exH];cases sm f with
   | some s=>exact zep ..
   | none =>
    simp only;cases hx f with
    | some h=>exact h.eq _ _ (qbh n) R vs S kk
    | none =>
     simp only;cases ft f with
     | none=>rfl
     | some fi =>
      simp only[qbd,qeu (qbh n R)];cases frzF (nm f)
      case true=>rfl
      simp only[jah];cases Nat.ble vs.length fi.nt
      ·rfl
      ·simp only[jab];cases qaj P tt (nm f) S.next fi.nt (qce P tt ft nm (exH sm hx) lf n) lf none fi.body (qaz vs 0 .leaf) S [] with
       | none=>rfl
       | some r =>
        simp only[bd,qbd];cases r.e.leaves
        ·rfl
        ·cases qd6 tt fi.nt fi.res S r<;>rfl
end
end Go.Jx
end

section
namespace Go.Jx
open Go Go.Sx Go.RowKit
universe u

def PT.Fa{α:Type u}:PT α->(Nat->α->Prop)->Prop
 | .leaf,_=>True
 | .node v l r,p=>(match v with|none=>True|some x=>p 0 x)/\l.Fa (fun k=>p (2*k+1))/\r.Fa (fun k=>p (2*k+2))
theorem PT.fa{α:Type u}:∀{t:PT α} {p:Nat->α->Prop},t.Fa p->∀k v,t.get k=some v->p k v
 | .leaf,p,h,k,v,hk=>by cases hk
 | .node x l r,p,h,k,v,hk=>by
  obtain⟨h1,h2,h3⟩:=h;unfold PT.get at hk;by_cases h0:k=0
  ·subst h0;rw[qdf rfl,jab] at hk;subst hk;exact h1
  ·rw[qbf h0,jah] at hk;by_cases h4:k % 2=1
   ·rw[qdf h4,jab] at hk;have:=PT.fa h2 _ _ hk
    rwa [show 2*(k / 2)+1=k by omega] at this
   ·rw[qbf h4,jah] at hk;have:=PT.fa h3 _ _ hk
    rwa [show 2*((k-1) / 2)+2=k by omega] at this
def FIok (P:Program) (f:Nat) (fi:FI):Prop:=∃fn,P.funcs[f]?=some fn/\fn.body=some fi.body/\fn.ntmps=fi.nt/\fn.results=fi.res.toArray/\(fn.name == "runtime.NumGoroutine") = false/\qa1 fi.body=true

def WfE:(c:TC)->El c->Prop
 | .int k=>fun(n:Int)=>k.wrap n=n
 | .bool=>fun _=>True
 | .str=>fun(s:ByteArray)=>s.size<9223372036854775808
 | .list c=>fun(l:List (El c))=>l.length*bsz c<=140737488355328/\∀x∈l,WfE c x
 | .two a b=>fun(x:El a × El b)=>WfE a x.1/\WfE b x.2
def WfA:(cs:List TC)->ElA cs->Prop
 | [],_=>True
 | c::cs,x=>WfE c x.1/\WfA cs x.2
theorem wf_cells{E:Env}:∀(c:TC) (x:El c) (us:Nat->Value),(∀j (h:j<(cel c x).length),VR E (cel c x)[j] (us j))->WfE c x
 | .int k,x,us,h=>by
  have:=h 0 (by simp[cel]);have h0:VR E (.int k x) (us 0):=this;generalize us 0=u at h0;cases h0;assumption
 | .bool,x,us,h=>trivial
 | .str,x,us,h=>by
  have:=h 0 (by simp[cel]);have h0:VR E (.str x) (us 0):=this;generalize us 0=u at h0;cases h0;assumption
 | .list c,l,us,h=>by
  have:=h 0 (by simp[cel]);have h0:VR E (.lst c l) (us 0):=this;generalize us 0=u at h0;cases h0 with
  | lst0 hc=>exact⟨by simp,fun x hx=>by cases hx⟩
  | lst us2 h1 h2 h3 hb hh hc hu =>
   refine⟨h3,fun x hx=>?_⟩;obtain⟨i,hi,rfl⟩:=jco.1 hx;exact wf_cells c _ (us2 i) (hu i hi)
 | .two a b,x,us,h=>by
  have e:cel (.two a b) x=cel a x.1++cel b x.2:=rfl;refine⟨wf_cells (E:=E) a x.1 us fun j hj=>?_,wf_cells (E:=E) b x.2 (fun j=>us ((cel a x.1).length+j)) fun j hj=>?_⟩
  ·have:=h j (by rw[e,jag];omega);simp only[e] at this
   rwa [jcr hj] at this
  ·have:=h ((cel a x.1).length+j) (by rw[e,jag];omega);simp only[e] at this;rw[jcm (by omega)] at this;simpa only [ja1] using this
theorem qvb{E:Env}{c:TC}{x:El c}{u:Value}(hc:cel c x=[asIV c x])(h:VR E (asIV c x) u):WfE c x :=
 wf_cells (E:=E) c x (fun _=>u) fun j hj=>by
  have:j=0:=by rw[hc] at hj;simp at hj;omega
  subst this;simp only[hc];exact h
theorem qo3{E:Env}{c:TC}{x:El c}{u:Value}(h:VR E (asIV c x) u):WfE c x:=by
 cases c with
 | two a b =>
  cases h with
  | agg hl hh =>
   rename_i us;refine wf_cells (E:=E) (.two a b) x (fun j=>us.getD j .nilFunc) fun j hj=>?_;have hj2:j<us.length:=by rw[<- hl];exact hj
   show VR E _ (us.getD j .nilFunc);rw[jai,jac hj2];exact hh j hj hj2
 | int k=>exact qvb rfl h
 | bool=>trivial
 | str=>exact qvb rfl h
 | list c=>exact qvb rfl h
theorem q0f{E:Env}:∀{cs:List TC} {x:ElA cs} {us:List Value},VRs E (argV cs x) us->WfA cs x
 | [],x,us,h=>trivial
 | c::cs,x,us,h=>by
  obtain⟨u,us,rfl,a1,a2⟩:=VRs.inv (v:=asIV c x.1) (cs:=argV cs x.2) h;exact⟨qo3 a1,q0f a2⟩
theorem conW{P:Program}{tt:Nat->Option TI}{ft:Nat->Option FI}{nm:Nat->Nat->Option Nm}{ex:Ex}{f:Nat}{s:Sm}(hm:P.follows .mixedOrders=true)(htt:TT P tt)(hft:FT P ft)(hex:ExOK P ex)(hC:qah P f)
  (hrun:∀(x:ElA s.pts) (y:ElR s.rts),WfA s.pts x->s.f x=some y->∃n lf r,qce P tt ft nm ex lf n (.fn f) (argV s.pts x) S0=some r/\runR s r=some y):Con P f s:=by
 refine⟨hC,fun M w x us y hy hM hg hv=>?_⟩;obtain⟨n,lf,r,h1,h2⟩:=hrun x y (q0f hv) hy;obtain⟨_,hcall⟩:=(qj8 (lf:=lf) hm htt hft hex n).fn f _ S0 r h1 T0 (EM M w) us (preM hM hg) (fun _ _=>trivial) (fun _ _=>trivial) hv;exact hcall.mono fun e w' hR=>zm3 hM hg h2 hR
theorem q32{P:Program}{sm:Nat->Option Sm}{hx:Nat->Option Hx}(h:∀f s,sm f=some s->Con P f s)(h2:∀f g,hx f=some g->HxOK P f g.f):ExOK P (exH sm hx):=by
 have key:∀f g,exH sm hx f=some g->(∃s,sm f=some s/\g=fun _=>exf s)\/∃q,hx f=some q/\g=q.f:=fun f g hg=>by
  unfold exH at hg;split at hg
  ·rename_i s hs;cases hg;exact .inl ⟨s,hs,rfl⟩
  split at hg<;>cases hg;rename_i q hq;exact .inr ⟨q,hq,rfl⟩
 refine⟨fun f g hg cl a b c vs S r hr T E us p hrd hwr hv=>?_,fun f g hg cl a vs S=>?_,fun f g hg cl a vs S r hr hw hv=>?_⟩
 ·rcases key f g hg with ⟨s,hs,rfl⟩|⟨q,hq,rfl⟩
  ·exact zfe (h f s hs) hr p hrd hwr hv
  ·exact(h2 f q hq).fn cl a b c vs S r hr T E us p hrd hwr hv
 ·rcases key f g hg with ⟨s,hs,rfl⟩|⟨q,hq,rfl⟩
  ·exact zla
  ·exact(h2 f q hq).fr cl a vs S
 ·rcases key f g hg with ⟨s,hs,rfl⟩|⟨q,hq,rfl⟩
  ·exact ze3 hr hw hv
  ·exact(h2 f q hq).calm cl a vs S r hr hw hv
theorem conK{P:Program}{tt:Nat->Option TI}{ft:Nat->Option FI}{nm:Nat->Nat->Option Nm}{sm:Nat->Option Sm}{hx:Nat->Option Hx}{f:Nat}{s:Sm}(hm:P.follows .mixedOrders=true)(htt:TT P tt)(hft:FT P ft)(hsm:∀f s,sm f=some s->Con P f s)
  (hhx:∀f g,hx f=some g->HxOK P f g.f) (hC:qah P f)
  (hrun:∀(x:ElA s.pts) (y:ElR s.rts),WfA s.pts x->s.f x=some y->∃n lf,qa8 P tt ft nm sm hx lf n _ (.fn f) (argV s.pts x) S0 (runR s)=some y):Con P f s:=by
 refine conW (nm:=nm) hm htt hft (q32 hsm hhx) hC fun x y hx2 hy=>?_;obtain⟨n,lf,h⟩:=hrun x y hx2 hy;rw[qbh n] at h;cases hr:qce P tt ft nm (exH sm hx) lf n (.fn f) (argV s.pts x) S0 with
 | none=>rw[hr] at h;cases h
 | some r=>rw[hr] at h;exact⟨n,lf,r,hr,h⟩
end Go.Jx
end

section
namespace Go.Jx
open Go Go.Sx Go.ChangeShapes Go.RowKit
def TRW(P:Program)(W:World)(T:TypeId)(cs:List Value):Prop :=
 ∃(H:Type) (en:TypeId × Value->H) (fuel:Nat) (x:DataW H × List MemPlace),DataW.trod en P W 0 (fun _=>true) true fuel T cs=some x/\∀n∈x.1.weights P T,n<=reachBytes
structure RdT (P:Program) (c:TC) (T:TypeId):Prop where
 sz:P.cellsOf T=csz c
 by_:bsz c<=P.bytesOf T
 rd:∀W cs,TRW P W T cs->∃x:El c,VRs (EM [] W) (cel c x) cs
theorem zbh{k:IntKind}{n:Int}(h:(Lit.int k n).wf=true):k.wrap n=n:=by
 have h':k.min<=n/\n<=k.max:=by simpa [Lit.wf] using h
 cases k<;>simp only[IntKind.min,IntKind.max,IntKind.wrap,IntKind.bits,IntKind.signed] at *<;>simp at *<;>omega
section
variable {P : Program} {W : World} {T : TypeId} {cs : List Value}
theorem VRs.one{E:Env}{v:IV}{u:Value}(h:VR E v u):VRs E [v] [u]:=VRs.cons h VRs.nil
theorem q7g{k:IntKind}(hT:P.underlying T=some (.int k))(hs:P.cellsOf T=1)(hb:P.bytesOf T=bsz (.int k)):RdT P (.int k) T:=⟨hs,jdj hb.symm,fun W cs h=>by
 obtain⟨H,en,fuel,x,h,hw⟩:=h;obtain⟨n,h1,_,h2⟩:=DataW.trod_int hT h;exact⟨n,h1▸VRs.one (.int k n (zbh h2))⟩⟩
theorem q9o(hT:P.underlying T=some .bool)(hs:P.cellsOf T=1)(hb:P.bytesOf T=1):RdT P .bool T:=⟨hs,jdj hb.symm,fun W cs h=>by
 obtain⟨H,en,fuel,x,h,hw⟩:=h;obtain⟨b,h1,_⟩:=DataW.trod_bool hT h;exact⟨b,h1▸VRs.one (.bool b)⟩⟩
theorem TRW.fields{fs:Array Field}(hT:P.underlying T=some (.struct fs))(h:TRW P W T cs):cs.length=P.cellsOf T/\∀(i:Nat) (f:Field),fs[i]?=some f->TRW P W f.type ((cs.drop f.offset).take (P.cellsOf f.type)):=by
 obtain⟨H,en,fuel,x,h,hw⟩:=h;obtain⟨xs,n,rfl,rfl,h1,h2,h3⟩:=DataW.trod_struct hT h;refine⟨h1,fun i f hf=>?_⟩;have hi:i<xs.length:=by rw[h2];exact(jec.1 hf).1
 refine⟨H,en,n,xs[i],by rw[h3 i f hf,jac hi],fun m hm=>hw m ?_⟩;simp only[DataW.weights,hT];refine DataW.weights_mem_each (j:=i) (t:=f.type) (d:=xs[i].1) ?_ ?_ m hm
 ·rw[jcl,Array.getElem?_toList,hf];rfl
 ·rw[jcl,jac hi];rfl
theorem qy8{H:Type}{e:TypeId}:∀{l:List (DataW H)} {d:DataW H},d∈l->∀n∈d.weights P e,n∈DataW.weightsAll P e l
 | [],d,h,_,_=>absurd h (by simp)
 | a::l,d,h,n,hn=>by
  rw[DataW.weightsAll,jbq];rcases jav.1 h with e|e
  ·exact .inl (e▸hn)
  ·exact .inr (qy8 e n hn)
theorem q5q{c:TC}{e:TypeId}(hT:P.underlying T=some (.slice e))(he:RdT P c e)(hpos:0<csz c)(hs:P.cellsOf T=1)(hb:P.bytesOf T=24):RdT P (.list c) T:=⟨hs,jdj hb.symm,fun W cs h=>by
 obtain⟨H,en,fuel,x,h,hw⟩:=h;rcases Go.Deep.open_slice hT h with ⟨rfl,_⟩|⟨a,len,cap,m,n,D,Pl,rfl,_,hl,hm,hmm,rfl,hi⟩
 ·exact⟨([]:List (El c)),VRs.one (.lst0 (by decide))⟩
 have hlm:len<=m:=by rw[hmm];simp;exact hl
 have hx:∀i,i<len->∃(x:El c) (cs':List Value),VRs (EM [] W) (cel c x) cs'/\W.cells? 0 (a.add (i*P.cellsOf e)) (P.cellsOf e)=some cs':=fun i hil=>by
  obtain⟨cs',h1,h2⟩:=hi i (by omega);obtain⟨x,hx⟩:=he.rd W cs' ⟨H,en,n,_,h2,fun k hk=>hw k (by
   simp only[DataW.weights,hT,jav,jbq];exact .inr (.inl (qy8 (jb7.2 ⟨i,jff.2 hil,rfl⟩) k hk)))⟩
  exact⟨x,cs',hx,h1⟩
 have hbytes:len*bsz c<=140737488355328:=by
  have h1:=hw ((((List.range len).map D).length+((List.range (m-len)).map fun j=>D (len+j)).length)*P.bytesOf e) (by simp only[DataW.weights,hT,jav,true_or]);rw[jb2,jfl,jbp] at h1;have h2:=jc2 len he.by_;unfold reachBytes at h1;omega
 have hlist:∀k,k<=len->∃l:List (El c),l.length=k/\∀i (h:i<l.length),∃cs',VRs (EM [] W) (cel c l[i]) cs'/\W.cells? 0 (a.add (i*P.cellsOf e)) (P.cellsOf e)=some cs':=fun k=>by
  induction k with
  | zero=>intro _;exact⟨[],rfl,fun i h=>by simp at h⟩
  | succ k ih =>
   intro hk;obtain⟨l,h1,h2⟩:=ih (by omega);obtain⟨x,cs',h3,h4⟩:=hx k (by omega);refine⟨l++[x],by simp[h1],fun i hi=>?_⟩;by_cases hlt:i<l.length
   ·rw[jcr hlt];exact h2 i hlt
   ·have:i=l.length:=by simp at hi;omega
    subst this;rw[jcm (jaq _)];simp only[jea,List.getElem_cons_zero];exact⟨cs',h3,by rw[h1];exact h4⟩
 obtain⟨l,hlen,hall⟩:=hlist len (jaq _);subst hlen;have hcap:cap<9223372036854775808:=by unfold maxLen at hm;omega
 refine⟨l,VRs.one ?_⟩;cases l with
 | nil=>exact .lst0 hcap
 | cons x0 l =>
 obtain⟨cs0,_,k1⟩:=hall 0 (by simp);obtain⟨_,_,k3⟩:=jfm k1;have k4:=k3 0 (by rw[he.sz];exact hpos);have hlen0:0<cs0.length:=by
  obtain⟨_,k2,_⟩:=jfm k1;rw[k2,he.sz];exact hpos
 rw[jac hlen0] at k4;have ha0:a.add (0*P.cellsOf e)=a:=by simp[Addr.add]
 rw[ha0] at k4;have ha1:a.add 0=a:=by simp[Addr.add]
 rw[ha1] at k4;unfold World.cell? at k4;split at k4<;>try cases k4
 rename_i cells t fz hc;obtain⟨ab,ao,asp⟩:=a;cases asp with
 | some p=>simp at k4
 | none =>
 have hcell:∀i (h:i<(x0::l).length),∃cs',VRs (EM [] W) (cel c (x0::l)[i]) cs'/\∀j,j<csz c->cells[ao+i*csz c+j]?=cs'[j]?:=fun i hi=>by
  obtain⟨cs',h1,h2⟩:=hall i hi;refine⟨cs',h1,fun j hj=>?_⟩;obtain⟨_,_,h3⟩:=jfm h2;have h4:=h3 j (by rw[he.sz];exact hj);rw[<- h4];have e1:(Addr.add ⟨ab,ao,none⟩ (i*P.cellsOf e)).add j=⟨ab,ao+i*csz c+j,none⟩:=by
   rw[he.sz];unfold Addr.add;by_cases hz:i*csz c=0
   ·rw[jam hz];by_cases hj0:j=0
    ·rw[jam hj0];simp
    ·rw[jan hj0];simp [hz]
   ·rw[jan hz];by_cases hj0:j=0
    ·rw[jam hj0];simp [hj0]
    ·rw[jan hj0]
  rw[e1];simp[World.cell?,hc]
 refine .lst (fun i j=>(cells[ao+i*csz c+j]?).getD .nilIface) hl hcap hbytes (by simp[EM]) hc (fun i hi j hj=>?_) (fun i hi j hj=>?_)
 ·obtain⟨cs',g1,g2⟩:=hcell i hi;have hj':j<cs'.length:=by have:=g1.1;rw[qb0] at this;omega
  rw[g2 j hj,jac hj'];rfl
 ·obtain⟨cs',g1,g2⟩:=hcell i hi;have hj1:j<csz c:=by rw[qb0] at hj;exact hj
  have hj':j<cs'.length:=by have:=g1.1;rw[qb0] at this;omega
  have:=g1.2 j hj hj';rw[g2 j hj1,jac hj'];exact this⟩
theorem zje{a b c d:TC}{f0 f1 f2 f3:Field}(hT:P.underlying T=some (.struct #[f0,f1,f2,f3]))(h0:RdT P a f0.type)(h1:RdT P b f1.type)(h2:RdT P c f2.type)(h3:RdT P d f3.type)(o0:f0.offset=0)(o1:f1.offset=csz a)(o2:f2.offset=csz a+csz b)(o3:f3.offset=csz a+csz b+csz c)(hs:P.cellsOf T=csz a+(csz b+(csz c+csz d)))(hb:Nat.ble (bsz (.two a (.two b (.two c d)))) (P.bytesOf T)=true):RdT P (.two a (.two b (.two c d))) T:=⟨hs,jak hb,fun W cs h=>by
 obtain⟨hl,hf⟩:=TRW.fields hT h;obtain⟨x,hx⟩:=h0.rd W _ (hf 0 f0 rfl);obtain⟨y,hy⟩:=h1.rd W _ (hf 1 f1 rfl);obtain⟨z,hz⟩:=h2.rd W _ (hf 2 f2 rfl);obtain⟨v,hv⟩:=h3.rd W _ (hf 3 f3 rfl);refine⟨(x,(y,(z,v))),?_⟩;rw[o0,jeg,h0.sz] at hx;rw[o1,h1.sz] at hy;rw[o2,h2.sz,<- jdq] at hz;rw[o3,h3.sz,jbv (by rw[ja6];omega),<- jdq,<- jdq] at hv;have h23:=VRs.append hz hv;rw[jc4] at h23;have h12:=VRs.append hy h23;rw[jc4] at h12;have:=VRs.append hx h12;rw[jc4] at this;exact this⟩
end
end Go.Jx
end

section
namespace Go.Jx
open Go Go.Sx Go.RowKit
theorem con_true{P:Program}{f:Nat}{pts:List TC}(h:Con P f ⟨pts,[(false,.bool)],fun _=>some (true,())⟩)(w:World)(hg:Gl [] w)(x:ElA pts)(us:List Value)(hv:VRs (EM [] w) (argV pts x) us) :
  Calls P f us.toArray w (Ret fun v w'=>v=.bool true/\Upd [] w w') :=
 (jde.1 (h.calls [] w x us (true,()) rfl (fun b hb=>by cases hb) hg hv)).mono fun e w' hR=>by
  obtain⟨v,E',rfl,rfl,k1,k2,k3⟩:=hR;exact⟨by cases k1;rfl,k2.stp.os,k2.stp.tape,k2.stp.output,k2.stp.size,fun b hb _=>k2.stp.same b hb fun id _ hA _=>hA.elim⟩
theorem vr_list{c:TC}{E:Env}{a:Option Addr}{len cap:Nat}{x:El (.list c)}(h:VRs E (cel (.list c) x) (Value.slice a len cap).cells.toList):VR E (asIV (.list c) x) (.slice a len cap) :=
 h.2 0 (by simp[cel]) (by simp[Value.cells])
theorem vr_int{k:IntKind}{E:Env}{n:Int}{x:El (.int k)}(h:VRs E (cel (.int k) x) (Value.int k n).cells.toList):VR E (asIV (.int k) x) (.int k n) :=
 h.2 0 (by simp[cel]) (by simp[Value.cells])
section
open Go.ChangeShapes
variable {H : Type} {enc : TypeId × Value -> H} {P : Program} {w : World} {base : Nat} {spare : Nat -> Bool} {held : Bool}
end
end Go.Jx
end

noncomputable section
set_option maxRecDepth 100000
namespace Go.Proofs.Ytnhmanoiolfapaa
open Go Go.Sx Go.RowKit Go.Jx
abbrev cPut:TC:=(.two (.int .i64) .str)
abbrev qav:TC:=(.two (.list .str) (.list cPut))
abbrev qad:TC:=(.two (.int .i64) (.two .str .bool))
abbrev qag:TC:=(.two qav (.two (.int .i64) (.two (.int .i64) (.list qad))))
abbrev cAct:TC:=(.two .bool cPut)
abbrev cCosignerlaw23Change:TC:=(.two (.int .u8) (.two (.int .u8) (.two (.int .u8) .bool)))
abbrev q5r:TC:=(.two (.int .i64) (.int .i64))
abbrev cKeepRecord:TC:=(.two (.list qad) (.two (.int .i64) .bool))
noncomputable def ti1:TI:=⟨1,8,(.func #[] #[] false),(.nilFunc)⟩
noncomputable def ti2:TI:=⟨1,8,(.int .i64),(.int .i64 0)⟩
noncomputable def ti3:TI:=⟨1,8,(.int .i64),(.int .i64 0)⟩
noncomputable def ti4:TI:=⟨1,1,(.bool),(.bool false)⟩
noncomputable def ti5:TI:=⟨1,1,(.int .u8),(.int .u8 0)⟩
noncomputable def ti9:TI:=⟨1,16,(.string),(.string ⟨#[]⟩)⟩
noncomputable def ti22:TI:=⟨1,24,(.slice 47),(.slice none 0 0)⟩
noncomputable def ti23:TI:=⟨1,2,(.int .u16),(.int .u16 0)⟩
noncomputable def ti24:TI:=⟨1,24,(.slice 5),(.slice none 0 0)⟩
noncomputable def ti27:TI:=⟨1,24,(.slice 9),(.slice none 0 0)⟩
noncomputable def ti28:TI:=⟨1,24,(.slice 56),(.slice none 0 0)⟩
noncomputable def ti30:TI:=⟨2,48,(.struct #[⟨"Sectors", 27,0, false, "", "", 0⟩, ⟨"Pending", 28,1, false, "", "", 24⟩]),(.agg #[.slice none 0 0,.slice none 0 0])⟩
noncomputable def ti31:TI:=⟨1,24,(.slice 62),(.slice none 0 0)⟩
noncomputable def ti33:TI:=⟨5,88,(.struct #[⟨"Disk", 30,0, false, "", "", 0⟩, ⟨"Half", 3,2, false, "", "", 48⟩, ⟨"Used", 3,3, false, "", "", 56⟩, ⟨"Cells", 31,4, false, "", "", 64⟩]),(.agg #[.slice none 0 0,.slice none 0 0,.int .i64 0,.int .i64 0,.slice none 0 0])⟩
noncomputable def ti36:TI:=⟨1,24,(.slice 58),(.slice none 0 0)⟩
noncomputable def ti37:TI:=⟨1,8,(.int .i64),(.int .i64 0)⟩
noncomputable def ti47:TI:=⟨1,24,(.slice 74),(.slice none 0 0)⟩
noncomputable def ti54:TI:=⟨1,8,(.map 3 4),(.map none)⟩
noncomputable def ti56:TI:=⟨2,24,(.struct #[⟨"At", 3,0, false, "", "", 0⟩, ⟨"Bytes", 9,1, false, "", "", 8⟩]),(.agg #[.int .i64 0,.string ⟨#[]⟩])⟩
noncomputable def ti58:TI:=⟨3,32,(.struct #[⟨"Sync", 4,0, false, "", "", 0⟩, ⟨"Put", 56,1, false, "", "", 8⟩]),(.agg #[.bool false,.int .i64 0,.string ⟨#[]⟩])⟩
noncomputable def ti62:TI:=⟨3,32,(.struct #[⟨"Key", 3,0, false, "", "", 0⟩, ⟨"Bytes", 9,1, false, "", "", 8⟩, ⟨"Gone", 4,2, false, "", "", 24⟩]),(.agg #[.int .i64 0,.string ⟨#[]⟩,.bool false])⟩
noncomputable def ti66:TI:=⟨1,24,(.slice 3),(.slice none 0 0)⟩
noncomputable def ti74:TI:=⟨4,4,(.struct #[⟨"Key", 5,0, false, "", "", 0⟩, ⟨"Long", 5,1, false, "", "", 1⟩, ⟨"Byte", 5,2, false, "", "", 2⟩, ⟨"Gone", 4,3, false, "", "", 3⟩]),(.agg #[.int .u8 0,.int .u8 0,.int .u8 0,.bool false])⟩
noncomputable def ti84:TI:=⟨1,8,(.func #[9] #[4] false),(.nilFunc)⟩
noncomputable def ti87:TI:=⟨1,8,(.func #[3] #[4] false),(.nilFunc)⟩
noncomputable def ti89:TI:=⟨2,16,(.struct #[⟨"from", 3,0, false, "", "cosigner/keep", 0⟩, ⟨"to", 3,1, false, "", "cosigner/keep", 8⟩]),(.agg #[.int .i64 0,.int .i64 0])⟩
noncomputable def ti92:TI:=⟨1,24,(.struct #[⟨"acts", 36,0, false, "", "cosigner/keep", 0⟩]),(.agg #[.slice none 0 0])⟩
noncomputable def ti98:TI:=⟨1,8,(.func #[56] #[4] false),(.nilFunc)⟩
noncomputable def qjx:TI:=⟨1,8,(.map 3 9),(.map none)⟩
noncomputable def qk2:TI:=⟨1,8,(.func #[121] #[] false),(.nilFunc)⟩
noncomputable def qky:TI:=⟨3,40,(.struct #[⟨"cells", 31,0, false, "", "cosigner/keep", 0⟩, ⟨"sectors", 3,1, false, "", "cosigner/keep", 24⟩, ⟨"torn", 4,2, false, "", "cosigner/keep", 32⟩]),(.agg #[.slice none 0 0,.int .i64 0,.bool false])⟩
noncomputable def qjl:TI:=⟨1,8,(.func #[62] #[4] false),(.nilFunc)⟩
noncomputable def qkq:TI:=⟨1,8,(.int .u64),(.int .u64 0)⟩
noncomputable def qj6:TI:=⟨1,8,(.func #[106] #[4] false),(.nilFunc)⟩
noncomputable def qi1:TI:=⟨1,8,(.func #[62] #[3] false),(.nilFunc)⟩
noncomputable def qj2:TI:=⟨1,8,(.func #[62,62] #[3] false),(.nilFunc)⟩
theorem ty1:Ty Try.prog 1 ti1.und ti1.sz ti1.bytes ti1.zero:=Ty.mk' (by kernel_rfl) (by kernel_rfl)
theorem ty2:Ty Try.prog 2 ti2.und ti2.sz ti2.bytes ti2.zero:=Ty.mk' (by kernel_rfl) (by kernel_rfl)
theorem ty3:Ty Try.prog 3 ti3.und ti3.sz ti3.bytes ti3.zero:=Ty.mk' (by kernel_rfl) (by kernel_rfl)
theorem ty4:Ty Try.prog 4 ti4.und ti4.sz ti4.bytes ti4.zero:=Ty.mk' (by kernel_rfl) (by kernel_rfl)
theorem ty5:Ty Try.prog 5 ti5.und ti5.sz ti5.bytes ti5.zero:=Ty.mk' (by kernel_rfl) (by kernel_rfl)
theorem ty9:Ty Try.prog 9 ti9.und ti9.sz ti9.bytes ti9.zero:=Ty.mk' (by kernel_rfl) (by kernel_rfl)
theorem ty22:Ty Try.prog 22 ti22.und ti22.sz ti22.bytes ti22.zero:=Ty.mk' (by kernel_rfl) (by kernel_rfl)
theorem ty23:Ty Try.prog 23 ti23.und ti23.sz ti23.bytes ti23.zero:=Ty.mk' (by kernel_rfl) (by kernel_rfl)
theorem ty24:Ty Try.prog 24 ti24.und ti24.sz ti24.bytes ti24.zero:=Ty.mk' (by kernel_rfl) (by kernel_rfl)
theorem ty27:Ty Try.prog 27 ti27.und ti27.sz ti27.bytes ti27.zero:=Ty.mk' (by kernel_rfl) (by kernel_rfl)
theorem ty28:Ty Try.prog 28 ti28.und ti28.sz ti28.bytes ti28.zero:=Ty.mk' (by kernel_rfl) (by kernel_rfl)
theorem ty30:Ty Try.prog 30 ti30.und ti30.sz ti30.bytes ti30.zero:=Ty.mk' (by kernel_rfl) (by kernel_rfl)
theorem ty31:Ty Try.prog 31 ti31.und ti31.sz ti31.bytes ti31.zero:=Ty.mk' (by kernel_rfl) (by kernel_rfl)
theorem ty33:Ty Try.prog 33 ti33.und ti33.sz ti33.bytes ti33.zero:=Ty.mk' (by kernel_rfl) (by kernel_rfl)
theorem ty36:Ty Try.prog 36 ti36.und ti36.sz ti36.bytes ti36.zero:=Ty.mk' (by kernel_rfl) (by kernel_rfl)
theorem ty37:Ty Try.prog 37 ti37.und ti37.sz ti37.bytes ti37.zero:=Ty.mk' (by kernel_rfl) (by kernel_rfl)
theorem ty47:Ty Try.prog 47 ti47.und ti47.sz ti47.bytes ti47.zero:=Ty.mk' (by kernel_rfl) (by kernel_rfl)
theorem ty54:Ty Try.prog 54 ti54.und ti54.sz ti54.bytes ti54.zero:=Ty.mk' (by kernel_rfl) (by kernel_rfl)
theorem ty56:Ty Try.prog 56 ti56.und ti56.sz ti56.bytes ti56.zero:=Ty.mk' (by kernel_rfl) (by kernel_rfl)
theorem ty58:Ty Try.prog 58 ti58.und ti58.sz ti58.bytes ti58.zero:=Ty.mk' (by kernel_rfl) (by kernel_rfl)
theorem ty62:Ty Try.prog 62 ti62.und ti62.sz ti62.bytes ti62.zero:=Ty.mk' (by kernel_rfl) (by kernel_rfl)
theorem ty66:Ty Try.prog 66 ti66.und ti66.sz ti66.bytes ti66.zero:=Ty.mk' (by kernel_rfl) (by kernel_rfl)
theorem ty74:Ty Try.prog 74 ti74.und ti74.sz ti74.bytes ti74.zero:=Ty.mk' (by kernel_rfl) (by kernel_rfl)
theorem ty84:Ty Try.prog 84 ti84.und ti84.sz ti84.bytes ti84.zero:=Ty.mk' (by kernel_rfl) (by kernel_rfl)
theorem ty87:Ty Try.prog 87 ti87.und ti87.sz ti87.bytes ti87.zero:=Ty.mk' (by kernel_rfl) (by kernel_rfl)
theorem ty89:Ty Try.prog 89 ti89.und ti89.sz ti89.bytes ti89.zero:=Ty.mk' (by kernel_rfl) (by kernel_rfl)
theorem ty92:Ty Try.prog 92 ti92.und ti92.sz ti92.bytes ti92.zero:=Ty.mk' (by kernel_rfl) (by kernel_rfl)
theorem ty98:Ty Try.prog 98 ti98.und ti98.sz ti98.bytes ti98.zero:=Ty.mk' (by kernel_rfl) (by kernel_rfl)
theorem q38:Ty Try.prog 101 qjx.und qjx.sz qjx.bytes qjx.zero:=Ty.mk' (by kernel_rfl) (by kernel_rfl)
theorem zlw:Ty Try.prog 103 qk2.und qk2.sz qk2.bytes qk2.zero:=Ty.mk' (by kernel_rfl) (by kernel_rfl)
theorem qhq:Ty Try.prog 106 qky.und qky.sz qky.bytes qky.zero:=Ty.mk' (by kernel_rfl) (by kernel_rfl)
theorem zg7:Ty Try.prog 108 qjl.und qjl.sz qjl.bytes qjl.zero:=Ty.mk' (by kernel_rfl) (by kernel_rfl)
theorem qo5:Ty Try.prog 112 qkq.und qkq.sz qkq.bytes qkq.zero:=Ty.mk' (by kernel_rfl) (by kernel_rfl)
theorem zfp:Ty Try.prog 121 qj6.und qj6.sz qj6.bytes qj6.zero:=Ty.mk' (by kernel_rfl) (by kernel_rfl)
theorem qtu:Ty Try.prog 125 qi1.und qi1.sz qi1.bytes qi1.zero:=Ty.mk' (by kernel_rfl) (by kernel_rfl)
theorem zbd:Ty Try.prog 147 qj2.und qj2.sz qj2.bytes qj2.zero:=Ty.mk' (by kernel_rfl) (by kernel_rfl)
def fbO(f:Func):Code:=match f.body with|some c=>c|none=>.skip
noncomputable def ttT:PT TI:=(.node none (.node (some ti1) (.node (some ti3) (.node none (.node none (.node (some ti31) .leaf .leaf) (.node (some ti47) .leaf .leaf)) (.node (some ti23) (.node none .leaf (.node (some qk2) .leaf .leaf)) (.node none (.node (some ti87) .leaf .leaf) .leaf))) (.node none (.node none .leaf (.node none (.node none (.node (some qj2) .leaf .leaf) .leaf) .leaf)) (.node (some ti27) .leaf .leaf))) (.node (some ti5) (.node (some ti9) (.node none (.node (some ti33) .leaf .leaf) .leaf) (.node none .leaf (.node none (.node (some ti89) .leaf .leaf) (.node (some qj6) .leaf .leaf)))) (.node none (.node none (.node (some ti37) .leaf (.node (some qjx) .leaf .leaf)) .leaf) (.node none .leaf (.node none .leaf (.node (some qi1) .leaf .leaf)))))) (.node (some ti2) (.node (some ti4) (.node none (.node none .leaf (.node none .leaf (.node (some qkq) .leaf .leaf))) (.node (some ti24) .leaf (.node (some ti56) .leaf .leaf))) (.node none (.node none (.node (some ti36) .leaf .leaf) (.node none (.node (some ti84) .leaf .leaf) .leaf)) (.node (some ti28) (.node none .leaf (.node (some qjl) .leaf .leaf)) (.node none (.node (some ti92) .leaf .leaf) .leaf)))) (.node none (.node none (.node none (.node none (.node (some ti66) .leaf .leaf) (.node (some ti98) .leaf .leaf)) .leaf) (.node none (.node none (.node (some ti74) .leaf .leaf) (.node (some qky) .leaf .leaf)) (.node (some ti58) .leaf .leaf))) (.node none (.node (some ti22) .leaf (.node (some ti54) .leaf .leaf)) (.node (some ti30) .leaf (.node (some ti62) .leaf .leaf))))))
theorem ttFa:ttT.Fa (fun T ti=>Ty Try.prog T ti.und ti.sz ti.bytes ti.zero):=⟨trivial,⟨ty1,⟨ty3,⟨trivial,⟨trivial,⟨ty31,trivial,trivial⟩,⟨ty47,trivial,trivial⟩⟩,⟨ty23,⟨trivial,trivial,⟨zlw,trivial,trivial⟩⟩,⟨trivial,⟨ty87,trivial,trivial⟩,trivial⟩⟩⟩,⟨trivial,⟨trivial,trivial,⟨trivial,⟨trivial,⟨zbd,trivial,trivial⟩,trivial⟩,trivial⟩⟩,⟨ty27,trivial,trivial⟩⟩⟩,⟨ty5,⟨ty9,⟨trivial,⟨ty33,trivial,trivial⟩,trivial⟩,⟨trivial,trivial,⟨trivial,⟨ty89,trivial,trivial⟩,⟨zfp,trivial,trivial⟩⟩⟩⟩,⟨trivial,⟨trivial,⟨ty37,trivial,⟨q38,trivial,trivial⟩⟩,trivial⟩,⟨trivial,trivial,⟨trivial,trivial,⟨qtu,trivial,trivial⟩⟩⟩⟩⟩⟩,⟨ty2,⟨ty4,⟨trivial,⟨trivial,trivial,⟨trivial,trivial,⟨qo5,trivial,trivial⟩⟩⟩,⟨ty24,trivial,⟨ty56,trivial,trivial⟩⟩⟩,⟨trivial,⟨trivial,⟨ty36,trivial,trivial⟩,⟨trivial,⟨ty84,trivial,trivial⟩,trivial⟩⟩,⟨ty28,⟨trivial,trivial,⟨zg7,trivial,trivial⟩⟩,⟨trivial,⟨ty92,trivial,trivial⟩,trivial⟩⟩⟩⟩,⟨trivial,⟨trivial,⟨trivial,⟨trivial,⟨ty66,trivial,trivial⟩,⟨ty98,trivial,trivial⟩⟩,trivial⟩,⟨trivial,⟨trivial,⟨ty74,trivial,trivial⟩,⟨qhq,trivial,trivial⟩⟩,⟨ty58,trivial,trivial⟩⟩⟩,⟨trivial,⟨ty22,trivial,⟨ty54,trivial,trivial⟩⟩,⟨ty30,trivial,⟨ty62,trivial,trivial⟩⟩⟩⟩⟩⟩
theorem ttOK:TT Try.prog ttT.get:=fun T ti h=>PT.fa ttFa T ti h
noncomputable def fb3:Code:=fbO Try.f3
noncomputable def fi3:FI:=⟨103,[ResultVar.tmp 8],fb3⟩
theorem fo3:FIok Try.prog 3 fi3:=⟨_,Try.func3,by kernel_rfl,Try.ntmps3,Try.results3,by kernel_rfl,by kernel_rfl⟩
noncomputable def fb4:Code:=fbO Try.f4
noncomputable def fi4:FI:=⟨208,[ResultVar.tmp 6],fb4⟩
theorem fo4:FIok Try.prog 4 fi4:=⟨_,Try.func4,by kernel_rfl,Try.ntmps4,Try.results4,by kernel_rfl,by kernel_rfl⟩
theorem cal4:qah Try.prog 4:=⟨_,Try.func4,by kernel_rfl,by kernel_rfl⟩
noncomputable def fb5:Code:=fbO Try.f5
noncomputable def fi5:FI:=⟨255,[ResultVar.tmp 0],fb5⟩
theorem fo5:FIok Try.prog 5 fi5:=⟨_,Try.func5,by kernel_rfl,Try.ntmps5,Try.results5,by kernel_rfl,by kernel_rfl⟩
theorem cal5:qah Try.prog 5:=⟨_,Try.func5,by kernel_rfl,by kernel_rfl⟩
noncomputable def fb6:Code:=fbO Try.f6
noncomputable def fi6:FI:=⟨19,[ResultVar.tmp 2],fb6⟩
theorem fo6:FIok Try.prog 6 fi6:=⟨_,Try.func6,by kernel_rfl,Try.ntmps6,Try.results6,by kernel_rfl,by kernel_rfl⟩
theorem cal6:qah Try.prog 6:=⟨_,Try.func6,by kernel_rfl,by kernel_rfl⟩
noncomputable def fb7:Code:=fbO Try.f7
noncomputable def fi7:FI:=⟨55,[ResultVar.cell 4 33,ResultVar.tmp 5],fb7⟩
theorem fo7:FIok Try.prog 7 fi7:=⟨_,Try.func7,by kernel_rfl,Try.ntmps7,Try.results7,by kernel_rfl,by kernel_rfl⟩
theorem cal7:qah Try.prog 7:=⟨_,Try.func7,by kernel_rfl,by kernel_rfl⟩
noncomputable def fb8:Code:=fbO Try.f8
noncomputable def fi8:FI:=⟨20,[ResultVar.tmp 2,ResultVar.tmp 3],fb8⟩
theorem fo8:FIok Try.prog 8 fi8:=⟨_,Try.func8,by kernel_rfl,Try.ntmps8,Try.results8,by kernel_rfl,by kernel_rfl⟩
theorem cal8:qah Try.prog 8:=⟨_,Try.func8,by kernel_rfl,by kernel_rfl⟩
noncomputable def fb9:Code:=fbO Try.f9
noncomputable def fi9:FI:=⟨58,[ResultVar.cell 8 30,ResultVar.tmp 9],fb9⟩
theorem fo9:FIok Try.prog 9 fi9:=⟨_,Try.func9,by kernel_rfl,Try.ntmps9,Try.results9,by kernel_rfl,by kernel_rfl⟩
noncomputable def fb10:Code:=fbO Try.f10
noncomputable def fi10:FI:=⟨27,[ResultVar.cell 2 33,ResultVar.tmp 3],fb10⟩
theorem fo10:FIok Try.prog 10 fi10:=⟨_,Try.func10,by kernel_rfl,Try.ntmps10,Try.results10,by kernel_rfl,by kernel_rfl⟩
theorem zeh:qah Try.prog 10:=⟨_,Try.func10,by kernel_rfl,by kernel_rfl⟩
noncomputable def fb11:Code:=fbO Try.f11
noncomputable def fi11:FI:=⟨18,[ResultVar.cell 2 33,ResultVar.tmp 3],fb11⟩
theorem fo11:FIok Try.prog 11 fi11:=⟨_,Try.func11,by kernel_rfl,Try.ntmps11,Try.results11,by kernel_rfl,by kernel_rfl⟩
theorem zn1:qah Try.prog 11:=⟨_,Try.func11,by kernel_rfl,by kernel_rfl⟩
noncomputable def fb12:Code:=fbO Try.f12
noncomputable def fi12:FI:=⟨26,[ResultVar.tmp 4],fb12⟩
theorem fo12:FIok Try.prog 12 fi12:=⟨_,Try.func12,by kernel_rfl,Try.ntmps12,Try.results12,by kernel_rfl,by kernel_rfl⟩
noncomputable def fb13:Code:=fbO Try.f13
noncomputable def fi13:FI:=⟨66,[ResultVar.tmp 2],fb13⟩
theorem fo13:FIok Try.prog 13 fi13:=⟨_,Try.func13,by kernel_rfl,Try.ntmps13,Try.results13,by kernel_rfl,by kernel_rfl⟩
theorem zd4:qah Try.prog 13:=⟨_,Try.func13,by kernel_rfl,by kernel_rfl⟩
noncomputable def fb14:Code:=fbO Try.f14
noncomputable def fi14:FI:=⟨57,[ResultVar.tmp 2,ResultVar.tmp 3],fb14⟩
theorem fo14:FIok Try.prog 14 fi14:=⟨_,Try.func14,by kernel_rfl,Try.ntmps14,Try.results14,by kernel_rfl,by kernel_rfl⟩
theorem q70:qah Try.prog 14:=⟨_,Try.func14,by kernel_rfl,by kernel_rfl⟩
noncomputable def fb15:Code:=fbO Try.f15
noncomputable def fi15:FI:=⟨12,[ResultVar.tmp 2,ResultVar.tmp 3],fb15⟩
theorem fo15:FIok Try.prog 15 fi15:=⟨_,Try.func15,by kernel_rfl,Try.ntmps15,Try.results15,by kernel_rfl,by kernel_rfl⟩
theorem zgs:qah Try.prog 15:=⟨_,Try.func15,by kernel_rfl,by kernel_rfl⟩
noncomputable def fb16:Code:=fbO Try.f16
noncomputable def fi16:FI:=⟨24,[ResultVar.tmp 4,ResultVar.tmp 5],fb16⟩
theorem fo16:FIok Try.prog 16 fi16:=⟨_,Try.func16,by kernel_rfl,Try.ntmps16,Try.results16,by kernel_rfl,by kernel_rfl⟩
theorem q6r:qah Try.prog 16:=⟨_,Try.func16,by kernel_rfl,by kernel_rfl⟩
noncomputable def fb17:Code:=fbO Try.f17
noncomputable def fi17:FI:=⟨49,[ResultVar.cell 4 33,ResultVar.tmp 5],fb17⟩
theorem fo17:FIok Try.prog 17 fi17:=⟨_,Try.func17,by kernel_rfl,Try.ntmps17,Try.results17,by kernel_rfl,by kernel_rfl⟩
theorem zi3:qah Try.prog 17:=⟨_,Try.func17,by kernel_rfl,by kernel_rfl⟩
noncomputable def fb18:Code:=fbO Try.f18
noncomputable def fi18:FI:=⟨21,[ResultVar.cell 4 33,ResultVar.tmp 5],fb18⟩
theorem fo18:FIok Try.prog 18 fi18:=⟨_,Try.func18,by kernel_rfl,Try.ntmps18,Try.results18,by kernel_rfl,by kernel_rfl⟩
theorem zg1:qah Try.prog 18:=⟨_,Try.func18,by kernel_rfl,by kernel_rfl⟩
noncomputable def fb19:Code:=fbO Try.f19
noncomputable def fi19:FI:=⟨47,[ResultVar.cell 2 33,ResultVar.tmp 3],fb19⟩
theorem fo19:FIok Try.prog 19 fi19:=⟨_,Try.func19,by kernel_rfl,Try.ntmps19,Try.results19,by kernel_rfl,by kernel_rfl⟩
theorem zdt:qah Try.prog 19:=⟨_,Try.func19,by kernel_rfl,by kernel_rfl⟩
noncomputable def fb20:Code:=fbO Try.f20
noncomputable def fi20:FI:=⟨83,[ResultVar.cell 4 30,ResultVar.tmp 5],fb20⟩
theorem fo20:FIok Try.prog 20 fi20:=⟨_,Try.func20,by kernel_rfl,Try.ntmps20,Try.results20,by kernel_rfl,by kernel_rfl⟩
theorem zg6:qah Try.prog 20:=⟨_,Try.func20,by kernel_rfl,by kernel_rfl⟩
noncomputable def fb21:Code:=fbO Try.f21
noncomputable def fi21:FI:=⟨64,[ResultVar.cell 4 30,ResultVar.tmp 5],fb21⟩
theorem fo21:FIok Try.prog 21 fi21:=⟨_,Try.func21,by kernel_rfl,Try.ntmps21,Try.results21,by kernel_rfl,by kernel_rfl⟩
theorem zk3:qah Try.prog 21:=⟨_,Try.func21,by kernel_rfl,by kernel_rfl⟩
noncomputable def fb22:Code:=fbO Try.f22
noncomputable def fi22:FI:=⟨46,[ResultVar.tmp 2],fb22⟩
theorem fo22:FIok Try.prog 22 fi22:=⟨_,Try.func22,by kernel_rfl,Try.ntmps22,Try.results22,by kernel_rfl,by kernel_rfl⟩
theorem zed:qah Try.prog 22:=⟨_,Try.func22,by kernel_rfl,by kernel_rfl⟩
noncomputable def fb23:Code:=fbO Try.f23
noncomputable def fi23:FI:=⟨82,[ResultVar.tmp 2,ResultVar.tmp 3],fb23⟩
theorem fo23:FIok Try.prog 23 fi23:=⟨_,Try.func23,by kernel_rfl,Try.ntmps23,Try.results23,by kernel_rfl,by kernel_rfl⟩
theorem zb2:qah Try.prog 23:=⟨_,Try.func23,by kernel_rfl,by kernel_rfl⟩
noncomputable def fb24:Code:=fbO Try.f24
noncomputable def fi24:FI:=⟨35,[ResultVar.tmp 2],fb24⟩
theorem fo24:FIok Try.prog 24 fi24:=⟨_,Try.func24,by kernel_rfl,Try.ntmps24,Try.results24,by kernel_rfl,by kernel_rfl⟩
theorem zl2:qah Try.prog 24:=⟨_,Try.func24,by kernel_rfl,by kernel_rfl⟩
noncomputable def fb25:Code:=fbO Try.f25
noncomputable def fi25:FI:=⟨79,[ResultVar.cell 2 33,ResultVar.tmp 3],fb25⟩
theorem fo25:FIok Try.prog 25 fi25:=⟨_,Try.func25,by kernel_rfl,Try.ntmps25,Try.results25,by kernel_rfl,by kernel_rfl⟩
theorem q9u:qah Try.prog 25:=⟨_,Try.func25,by kernel_rfl,by kernel_rfl⟩
noncomputable def fb26:Code:=fbO Try.f26
noncomputable def fi26:FI:=⟨22,[ResultVar.cell 4 33],fb26⟩
theorem fo26:FIok Try.prog 26 fi26:=⟨_,Try.func26,by kernel_rfl,Try.ntmps26,Try.results26,by kernel_rfl,by kernel_rfl⟩
theorem zj9:qah Try.prog 26:=⟨_,Try.func26,by kernel_rfl,by kernel_rfl⟩
noncomputable def fb27:Code:=fbO Try.f27
noncomputable def fi27:FI:=⟨15,[ResultVar.tmp 6],fb27⟩
theorem fo27:FIok Try.prog 27 fi27:=⟨_,Try.func27,by kernel_rfl,Try.ntmps27,Try.results27,by kernel_rfl,by kernel_rfl⟩
theorem zca:qah Try.prog 27:=⟨_,Try.func27,by kernel_rfl,by kernel_rfl⟩
noncomputable def fb28:Code:=fbO Try.f28
noncomputable def fi28:FI:=⟨37,[ResultVar.tmp 2],fb28⟩
theorem fo28:FIok Try.prog 28 fi28:=⟨_,Try.func28,by kernel_rfl,Try.ntmps28,Try.results28,by kernel_rfl,by kernel_rfl⟩
theorem zka:qah Try.prog 28:=⟨_,Try.func28,by kernel_rfl,by kernel_rfl⟩
noncomputable def fb29:Code:=fbO Try.f29
noncomputable def fi29:FI:=⟨19,[ResultVar.tmp 2],fb29⟩
theorem fo29:FIok Try.prog 29 fi29:=⟨_,Try.func29,by kernel_rfl,Try.ntmps29,Try.results29,by kernel_rfl,by kernel_rfl⟩
theorem zcy:qah Try.prog 29:=⟨_,Try.func29,by kernel_rfl,by kernel_rfl⟩
noncomputable def fb30:Code:=fbO Try.f30
noncomputable def fi30:FI:=⟨19,[ResultVar.tmp 4],fb30⟩
theorem fo30:FIok Try.prog 30 fi30:=⟨_,Try.func30,by kernel_rfl,Try.ntmps30,Try.results30,by kernel_rfl,by kernel_rfl⟩
theorem zn0:qah Try.prog 30:=⟨_,Try.func30,by kernel_rfl,by kernel_rfl⟩
noncomputable def fb31:Code:=fbO Try.f31
noncomputable def fi31:FI:=⟨70,[ResultVar.tmp 4,ResultVar.tmp 5],fb31⟩
theorem fo31:FIok Try.prog 31 fi31:=⟨_,Try.func31,by kernel_rfl,Try.ntmps31,Try.results31,by kernel_rfl,by kernel_rfl⟩
theorem znr:qah Try.prog 31:=⟨_,Try.func31,by kernel_rfl,by kernel_rfl⟩
noncomputable def fb32:Code:=fbO Try.f32
noncomputable def fi32:FI:=⟨18,[ResultVar.cell 2 30,ResultVar.tmp 3],fb32⟩
theorem fo32:FIok Try.prog 32 fi32:=⟨_,Try.func32,by kernel_rfl,Try.ntmps32,Try.results32,by kernel_rfl,by kernel_rfl⟩
theorem zdq:qah Try.prog 32:=⟨_,Try.func32,by kernel_rfl,by kernel_rfl⟩
noncomputable def fb33:Code:=fbO Try.f33
noncomputable def fi33:FI:=⟨29,[ResultVar.tmp 2,ResultVar.tmp 3],fb33⟩
theorem fo33:FIok Try.prog 33 fi33:=⟨_,Try.func33,by kernel_rfl,Try.ntmps33,Try.results33,by kernel_rfl,by kernel_rfl⟩
theorem zh7:qah Try.prog 33:=⟨_,Try.func33,by kernel_rfl,by kernel_rfl⟩
noncomputable def fb34:Code:=fbO Try.f34
noncomputable def fi34:FI:=⟨8,[ResultVar.tmp 2],fb34⟩
theorem fo34:FIok Try.prog 34 fi34:=⟨_,Try.func34,by kernel_rfl,Try.ntmps34,Try.results34,by kernel_rfl,by kernel_rfl⟩
theorem qvq:qah Try.prog 34:=⟨_,Try.func34,by kernel_rfl,by kernel_rfl⟩
noncomputable def fb35:Code:=fbO Try.f35
noncomputable def fi35:FI:=⟨8,[ResultVar.tmp 2],fb35⟩
theorem fo35:FIok Try.prog 35 fi35:=⟨_,Try.func35,by kernel_rfl,Try.ntmps35,Try.results35,by kernel_rfl,by kernel_rfl⟩
theorem qwo:qah Try.prog 35:=⟨_,Try.func35,by kernel_rfl,by kernel_rfl⟩
noncomputable def fb36:Code:=fbO Try.f36
noncomputable def fi36:FI:=⟨6,[ResultVar.tmp 2],fb36⟩
theorem fo36:FIok Try.prog 36 fi36:=⟨_,Try.func36,by kernel_rfl,Try.ntmps36,Try.results36,by kernel_rfl,by kernel_rfl⟩
theorem zew:qah Try.prog 36:=⟨_,Try.func36,by kernel_rfl,by kernel_rfl⟩
noncomputable def fb37:Code:=fbO Try.f37
noncomputable def fi37:FI:=⟨24,[ResultVar.tmp 4],fb37⟩
theorem fo37:FIok Try.prog 37 fi37:=⟨_,Try.func37,by kernel_rfl,Try.ntmps37,Try.results37,by kernel_rfl,by kernel_rfl⟩
theorem zda:qah Try.prog 37:=⟨_,Try.func37,by kernel_rfl,by kernel_rfl⟩
noncomputable def fb38:Code:=fbO Try.f38
noncomputable def fi38:FI:=⟨9,[ResultVar.tmp 4],fb38⟩
theorem fo38:FIok Try.prog 38 fi38:=⟨_,Try.func38,by kernel_rfl,Try.ntmps38,Try.results38,by kernel_rfl,by kernel_rfl⟩
noncomputable def fb39:Code:=fbO Try.f39
noncomputable def fi39:FI:=⟨6,[ResultVar.tmp 2],fb39⟩
theorem fo39:FIok Try.prog 39 fi39:=⟨_,Try.func39,by kernel_rfl,Try.ntmps39,Try.results39,by kernel_rfl,by kernel_rfl⟩
noncomputable def fb40:Code:=fbO Try.f40
noncomputable def fi40:FI:=⟨26,[ResultVar.tmp 4],fb40⟩
theorem fo40:FIok Try.prog 40 fi40:=⟨_,Try.func40,by kernel_rfl,Try.ntmps40,Try.results40,by kernel_rfl,by kernel_rfl⟩
theorem q6v:qah Try.prog 40:=⟨_,Try.func40,by kernel_rfl,by kernel_rfl⟩
noncomputable def fb41:Code:=fbO Try.f41
noncomputable def fi41:FI:=⟨15,[ResultVar.cell 4 89],fb41⟩
theorem fo41:FIok Try.prog 41 fi41:=⟨_,Try.func41,by kernel_rfl,Try.ntmps41,Try.results41,by kernel_rfl,by kernel_rfl⟩
theorem zj2:qah Try.prog 41:=⟨_,Try.func41,by kernel_rfl,by kernel_rfl⟩
noncomputable def fb42:Code:=fbO Try.f42
noncomputable def fi42:FI:=⟨31,[],fb42⟩
theorem fo42:FIok Try.prog 42 fi42:=⟨_,Try.func42,by kernel_rfl,Try.ntmps42,Try.results42,by kernel_rfl,by kernel_rfl⟩
theorem zbw:qah Try.prog 42:=⟨_,Try.func42,by kernel_rfl,by kernel_rfl⟩
noncomputable def fb43:Code:=fbO Try.f43
noncomputable def fi43:FI:=⟨48,[ResultVar.tmp 4],fb43⟩
theorem fo43:FIok Try.prog 43 fi43:=⟨_,Try.func43,by kernel_rfl,Try.ntmps43,Try.results43,by kernel_rfl,by kernel_rfl⟩
theorem zbi:qah Try.prog 43:=⟨_,Try.func43,by kernel_rfl,by kernel_rfl⟩
noncomputable def fb44:Code:=fbO Try.f44
noncomputable def fi44:FI:=⟨2,[ResultVar.tmp 0],fb44⟩
theorem fo44:FIok Try.prog 44 fi44:=⟨_,Try.func44,by kernel_rfl,Try.ntmps44,Try.results44,by kernel_rfl,by kernel_rfl⟩
theorem zmd:qah Try.prog 44:=⟨_,Try.func44,by kernel_rfl,by kernel_rfl⟩
noncomputable def fb45:Code:=fbO Try.f45
noncomputable def fi45:FI:=⟨12,[],fb45⟩
theorem fo45:FIok Try.prog 45 fi45:=⟨_,Try.func45,by kernel_rfl,Try.ntmps45,Try.results45,by kernel_rfl,by kernel_rfl⟩
theorem q8d:qah Try.prog 45:=⟨_,Try.func45,by kernel_rfl,by kernel_rfl⟩
noncomputable def fb46:Code:=fbO Try.f46
noncomputable def fi46:FI:=⟨6,[ResultVar.tmp 2],fb46⟩
theorem fo46:FIok Try.prog 46 fi46:=⟨_,Try.func46,by kernel_rfl,Try.ntmps46,Try.results46,by kernel_rfl,by kernel_rfl⟩
theorem znq:qah Try.prog 46:=⟨_,Try.func46,by kernel_rfl,by kernel_rfl⟩
noncomputable def fb47:Code:=fbO Try.f47
noncomputable def fi47:FI:=⟨9,[ResultVar.tmp 4],fb47⟩
theorem fo47:FIok Try.prog 47 fi47:=⟨_,Try.func47,by kernel_rfl,Try.ntmps47,Try.results47,by kernel_rfl,by kernel_rfl⟩
noncomputable def fb48:Code:=fbO Try.f48
noncomputable def fi48:FI:=⟨15,[ResultVar.tmp 3],fb48⟩
theorem fo48:FIok Try.prog 48 fi48:=⟨_,Try.func48,by kernel_rfl,Try.ntmps48,Try.results48,by kernel_rfl,by kernel_rfl⟩
noncomputable def fb49:Code:=fbO Try.f49
noncomputable def fi49:FI:=⟨9,[ResultVar.tmp 4],fb49⟩
theorem fo49:FIok Try.prog 49 fi49:=⟨_,Try.func49,by kernel_rfl,Try.ntmps49,Try.results49,by kernel_rfl,by kernel_rfl⟩
noncomputable def fb50:Code:=fbO Try.f50
noncomputable def fi50:FI:=⟨4,[ResultVar.tmp 2],fb50⟩
theorem fo50:FIok Try.prog 50 fi50:=⟨_,Try.func50,by kernel_rfl,Try.ntmps50,Try.results50,by kernel_rfl,by kernel_rfl⟩
noncomputable def fb51:Code:=fbO Try.f51
noncomputable def fi51:FI:=⟨9,[ResultVar.tmp 4],fb51⟩
theorem fo51:FIok Try.prog 51 fi51:=⟨_,Try.func51,by kernel_rfl,Try.ntmps51,Try.results51,by kernel_rfl,by kernel_rfl⟩
noncomputable def fb52:Code:=fbO Try.f52
noncomputable def fi52:FI:=⟨5,[ResultVar.tmp 2],fb52⟩
theorem fo52:FIok Try.prog 52 fi52:=⟨_,Try.func52,by kernel_rfl,Try.ntmps52,Try.results52,by kernel_rfl,by kernel_rfl⟩
noncomputable def fb53:Code:=fbO Try.f53
noncomputable def fi53:FI:=⟨23,[],fb53⟩
theorem fo53:FIok Try.prog 53 fi53:=⟨_,Try.func53,by kernel_rfl,Try.ntmps53,Try.results53,by kernel_rfl,by kernel_rfl⟩
theorem zeg:qah Try.prog 53:=⟨_,Try.func53,by kernel_rfl,by kernel_rfl⟩
noncomputable def fb54:Code:=fbO Try.f54
noncomputable def fi54:FI:=⟨21,[ResultVar.tmp 2],fb54⟩
theorem fo54:FIok Try.prog 54 fi54:=⟨_,Try.func54,by kernel_rfl,Try.ntmps54,Try.results54,by kernel_rfl,by kernel_rfl⟩
theorem zbr:qah Try.prog 54:=⟨_,Try.func54,by kernel_rfl,by kernel_rfl⟩
noncomputable def fb55:Code:=fbO Try.f55
noncomputable def fi55:FI:=⟨36,[ResultVar.tmp 2],fb55⟩
theorem fo55:FIok Try.prog 55 fi55:=⟨_,Try.func55,by kernel_rfl,Try.ntmps55,Try.results55,by kernel_rfl,by kernel_rfl⟩
theorem zgp:qah Try.prog 55:=⟨_,Try.func55,by kernel_rfl,by kernel_rfl⟩
noncomputable def fb56:Code:=fbO Try.f56
noncomputable def fi56:FI:=⟨10,[ResultVar.tmp 2],fb56⟩
theorem fo56:FIok Try.prog 56 fi56:=⟨_,Try.func56,by kernel_rfl,Try.ntmps56,Try.results56,by kernel_rfl,by kernel_rfl⟩
theorem zlj:qah Try.prog 56:=⟨_,Try.func56,by kernel_rfl,by kernel_rfl⟩
noncomputable def fb57:Code:=fbO Try.f57
noncomputable def fi57:FI:=⟨19,[ResultVar.tmp 4],fb57⟩
theorem fo57:FIok Try.prog 57 fi57:=⟨_,Try.func57,by kernel_rfl,Try.ntmps57,Try.results57,by kernel_rfl,by kernel_rfl⟩
noncomputable def fb60:Code:=fbO Try.f60
noncomputable def fi60:FI:=⟨19,[ResultVar.tmp 4],fb60⟩
theorem fo60:FIok Try.prog 60 fi60:=⟨_,Try.func60,by kernel_rfl,Try.ntmps60,Try.results60,by kernel_rfl,by kernel_rfl⟩
noncomputable def fb61:Code:=fbO Try.f61
noncomputable def fi61:FI:=⟨19,[ResultVar.tmp 4],fb61⟩
theorem fo61:FIok Try.prog 61 fi61:=⟨_,Try.func61,by kernel_rfl,Try.ntmps61,Try.results61,by kernel_rfl,by kernel_rfl⟩
noncomputable def fb62:Code:=fbO Try.f62
noncomputable def fi62:FI:=⟨28,[],fb62⟩
theorem fo62:FIok Try.prog 62 fi62:=⟨_,Try.func62,by kernel_rfl,Try.ntmps62,Try.results62,by kernel_rfl,by kernel_rfl⟩
theorem q9s:qah Try.prog 62:=⟨_,Try.func62,by kernel_rfl,by kernel_rfl⟩
noncomputable def fb63:Code:=fbO Try.f63
noncomputable def fi63:FI:=⟨84,[ResultVar.cell 2 106],fb63⟩
theorem fo63:FIok Try.prog 63 fi63:=⟨_,Try.func63,by kernel_rfl,Try.ntmps63,Try.results63,by kernel_rfl,by kernel_rfl⟩
theorem q5y:qah Try.prog 63:=⟨_,Try.func63,by kernel_rfl,by kernel_rfl⟩
noncomputable def fb64:Code:=fbO Try.f64
noncomputable def fi64:FI:=⟨19,[ResultVar.tmp 4],fb64⟩
theorem fo64:FIok Try.prog 64 fi64:=⟨_,Try.func64,by kernel_rfl,Try.ntmps64,Try.results64,by kernel_rfl,by kernel_rfl⟩
noncomputable def fb65:Code:=fbO Try.f65
noncomputable def fi65:FI:=⟨12,[ResultVar.tmp 4],fb65⟩
theorem fo65:FIok Try.prog 65 fi65:=⟨_,Try.func65,by kernel_rfl,Try.ntmps65,Try.results65,by kernel_rfl,by kernel_rfl⟩
theorem zms:qah Try.prog 65:=⟨_,Try.func65,by kernel_rfl,by kernel_rfl⟩
noncomputable def fb66:Code:=fbO Try.f66
noncomputable def fi66:FI:=⟨5,[ResultVar.tmp 2],fb66⟩
theorem fo66:FIok Try.prog 66 fi66:=⟨_,Try.func66,by kernel_rfl,Try.ntmps66,Try.results66,by kernel_rfl,by kernel_rfl⟩
theorem q6c:qah Try.prog 66:=⟨_,Try.func66,by kernel_rfl,by kernel_rfl⟩
noncomputable def fb74:Code:=fbO Try.f74
noncomputable def fi74:FI:=⟨75,[ResultVar.tmp 2,ResultVar.tmp 3],fb74⟩
theorem fo74:FIok Try.prog 74 fi74:=⟨_,Try.func74,by kernel_rfl,Try.ntmps74,Try.results74,by kernel_rfl,by kernel_rfl⟩
theorem q71:qah Try.prog 74:=⟨_,Try.func74,by kernel_rfl,by kernel_rfl⟩
noncomputable def fb75:Code:=fbO Try.f75
noncomputable def fi75:FI:=⟨8,[ResultVar.tmp 2],fb75⟩
theorem fo75:FIok Try.prog 75 fi75:=⟨_,Try.func75,by kernel_rfl,Try.ntmps75,Try.results75,by kernel_rfl,by kernel_rfl⟩
theorem q75:qah Try.prog 75:=⟨_,Try.func75,by kernel_rfl,by kernel_rfl⟩
noncomputable def fb76:Code:=fbO Try.f76
noncomputable def fi76:FI:=⟨14,[],fb76⟩
theorem fo76:FIok Try.prog 76 fi76:=⟨_,Try.func76,by kernel_rfl,Try.ntmps76,Try.results76,by kernel_rfl,by kernel_rfl⟩
theorem ze0:qah Try.prog 76:=⟨_,Try.func76,by kernel_rfl,by kernel_rfl⟩
noncomputable def fb77:Code:=fbO Try.f77
noncomputable def fi77:FI:=⟨13,[ResultVar.tmp 5],fb77⟩
theorem fo77:FIok Try.prog 77 fi77:=⟨_,Try.func77,by kernel_rfl,Try.ntmps77,Try.results77,by kernel_rfl,by kernel_rfl⟩
noncomputable def fb78:Code:=fbO Try.f78
noncomputable def fi78:FI:=⟨20,[ResultVar.tmp 4],fb78⟩
theorem fo78:FIok Try.prog 78 fi78:=⟨_,Try.func78,by kernel_rfl,Try.ntmps78,Try.results78,by kernel_rfl,by kernel_rfl⟩
theorem zia:qah Try.prog 78:=⟨_,Try.func78,by kernel_rfl,by kernel_rfl⟩
noncomputable def ftT:PT FI:=(.node none (.node none (.node (some fi3) (.node (some fi7) (.node (some fi15) (.node (some fi31) (.node (some fi63) .leaf .leaf) .leaf) (.node (some fi47) .leaf .leaf)) (.node (some fi23) (.node (some fi39) .leaf .leaf) (.node (some fi55) .leaf .leaf))) (.node (some fi11) (.node (some fi19) (.node (some fi35) .leaf .leaf) (.node (some fi51) .leaf .leaf)) (.node (some fi27) (.node (some fi43) (.node (some fi75) .leaf .leaf) .leaf) .leaf))) (.node (some fi5) (.node (some fi9) (.node (some fi17) (.node (some fi33) (.node (some fi65) .leaf .leaf) .leaf) (.node (some fi49) .leaf .leaf)) (.node (some fi25) (.node (some fi41) .leaf .leaf) (.node (some fi57) .leaf .leaf))) (.node (some fi13) (.node (some fi21) (.node (some fi37) .leaf .leaf) (.node (some fi53) .leaf .leaf)) (.node (some fi29) (.node (some fi45) (.node (some fi77) .leaf .leaf) .leaf) (.node (some fi61) .leaf .leaf))))) (.node none (.node (some fi4) (.node (some fi8) (.node (some fi16) (.node (some fi32) (.node (some fi64) .leaf .leaf) .leaf) (.node (some fi48) .leaf .leaf)) (.node (some fi24) (.node (some fi40) .leaf .leaf) (.node (some fi56) .leaf .leaf))) (.node (some fi12) (.node (some fi20) (.node (some fi36) .leaf .leaf) (.node (some fi52) .leaf .leaf)) (.node (some fi28) (.node (some fi44) (.node (some fi76) .leaf .leaf) .leaf) (.node (some fi60) .leaf .leaf)))) (.node (some fi6) (.node (some fi10) (.node (some fi18) (.node (some fi34) (.node (some fi66) .leaf .leaf) .leaf) (.node (some fi50) .leaf .leaf)) (.node (some fi26) (.node (some fi42) (.node (some fi74) .leaf .leaf) .leaf) .leaf)) (.node (some fi14) (.node (some fi22) (.node (some fi38) .leaf .leaf) (.node (some fi54) .leaf .leaf)) (.node (some fi30) (.node (some fi46) (.node (some fi78) .leaf .leaf) .leaf) (.node (some fi62) .leaf .leaf))))))
theorem ftFa:ftT.Fa (fun f fi=>FIok Try.prog f fi):=⟨trivial,⟨trivial,⟨fo3,⟨fo7,⟨fo15,⟨fo31,⟨fo63,trivial,trivial⟩,trivial⟩,⟨fo47,trivial,trivial⟩⟩,⟨fo23,⟨fo39,trivial,trivial⟩,⟨fo55,trivial,trivial⟩⟩⟩,⟨fo11,⟨fo19,⟨fo35,trivial,trivial⟩,⟨fo51,trivial,trivial⟩⟩,⟨fo27,⟨fo43,⟨fo75,trivial,trivial⟩,trivial⟩,trivial⟩⟩⟩,⟨fo5,⟨fo9,⟨fo17,⟨fo33,⟨fo65,trivial,trivial⟩,trivial⟩,⟨fo49,trivial,trivial⟩⟩,⟨fo25,⟨fo41,trivial,trivial⟩,⟨fo57,trivial,trivial⟩⟩⟩,⟨fo13,⟨fo21,⟨fo37,trivial,trivial⟩,⟨fo53,trivial,trivial⟩⟩,⟨fo29,⟨fo45,⟨fo77,trivial,trivial⟩,trivial⟩,⟨fo61,trivial,trivial⟩⟩⟩⟩⟩,⟨trivial,⟨fo4,⟨fo8,⟨fo16,⟨fo32,⟨fo64,trivial,trivial⟩,trivial⟩,⟨fo48,trivial,trivial⟩⟩,⟨fo24,⟨fo40,trivial,trivial⟩,⟨fo56,trivial,trivial⟩⟩⟩,⟨fo12,⟨fo20,⟨fo36,trivial,trivial⟩,⟨fo52,trivial,trivial⟩⟩,⟨fo28,⟨fo44,⟨fo76,trivial,trivial⟩,trivial⟩,⟨fo60,trivial,trivial⟩⟩⟩⟩,⟨fo6,⟨fo10,⟨fo18,⟨fo34,⟨fo66,trivial,trivial⟩,trivial⟩,⟨fo50,trivial,trivial⟩⟩,⟨fo26,⟨fo42,⟨fo74,trivial,trivial⟩,trivial⟩,trivial⟩⟩,⟨fo14,⟨fo22,⟨fo38,trivial,trivial⟩,⟨fo54,trivial,trivial⟩⟩,⟨fo30,⟨fo46,⟨fo78,trivial,trivial⟩,trivial⟩,⟨fo62,trivial,trivial⟩⟩⟩⟩⟩⟩
theorem ftOK:FT Try.prog ftT.get:=fun f fi h=>PT.fa ftFa f fi h
theorem mixed:Try.prog.follows .mixedOrders=true:=by kernel_rfl
theorem cm3:Try.prog.follows .mixedOrders=true/\TT Try.prog ttT.get/\FT Try.prog ftT.get:=⟨mixed,ttOK,ftOK⟩
theorem rd5:RdT Try.prog (.int .u8) 5:=q7g Try.underlying5 (by kernel_rfl) (by kernel_rfl)
theorem rd4:RdT Try.prog .bool 4:=q9o Try.underlying4 (by kernel_rfl) (by kernel_rfl)
theorem rd74:RdT Try.prog cCosignerlaw23Change 74:=zje Try.underlying74 rd5 rd5 rd5 rd4 rfl rfl rfl rfl (by kernel_rfl) (by kernel_rfl)
theorem rd47:RdT Try.prog (.list cCosignerlaw23Change) 47:=q5q Try.underlying47 rd74 (by decide) (by kernel_rfl) (by kernel_rfl)
theorem rd22:RdT Try.prog (.list (.list cCosignerlaw23Change)) 22:=q5q Try.underlying22 rd47 (by decide) (by kernel_rfl) (by kernel_rfl)
end Go.Proofs.Ytnhmanoiolfapaa
end

section
namespace Go.Jx
open Go Go.Sx Go.RowKit
universe u

def regs:Code->List Nat
 | .region id _ _=>[id]
 | .seq a b=>regs a++regs b
 | .cond _ a b=>regs a++regs b
 | .block _ c=>regs c
 | .scope c=>regs c
 | .loop c=>regs c
 | _=>[]
def hasR(k:Nat)(c:Code):Bool:=(regs c).any fun i=>Nat.beq i k
section
variable {R : Type} (P : Program) (tt : Nat -> Option TI) (nm : Nat -> Option Nm) (B : Nat) (nt : Nat) (cl : ClK R) (lf : Nat)
def qdi(ops:List Oper)(draw:Bool)(x:NRes)(kk:CRes->Option R):Option R :=
 cond draw (qpk P tt nt cl ops x.fr x.S fun q=>kk (mbR (mB nm B) ⟨.normal,q.fr,q.S,x.ds,q.rd,x.wr ||| q.wr⟩))
  (qhi P tt nt cl ops ops x.fr x.S fun q=>kk (mbR (mB nm B) ⟨.normal,q.fr,q.S,x.ds,q.rd,x.wr ||| q.wr⟩))
def qa4(k:Nat):Code->List Nat->NRes->(CRes->Option R)->Option R
 | .region id ops draw,ns,x,kk=>cond (Nat.beq id k) (qdi P tt nm B nt cl ops.toList draw x kk) none
 | .seq a b,ns,x,kk=>cond (hasR k a) (qa4 k a ns x fun r=>match r.e with
  | .normal=>qax P tt nm B nt cl lf none b r.fr r.S r.ds fun q=>kk (q.or r.rd r.wr)
  | _=>kk r) (qa4 k b ns x kk)
 | .cond c a b,ns,x,kk=>cond (hasR k a) (qa4 k a ns x kk) (qa4 k b ns x kk)
 | .block id c,ns,x,kk=>qa4 k c ns x fun r=>match r.e with
  | .exit id'=>cond (Nat.beq id' id) (kk ⟨.normal,r.fr,r.S,r.ds,r.rd,r.wr⟩) (kk r)
  | _=>kk r
 | .scope c,ns,x,kk=>qa4 k c ns x fun r=>match r.e with
  | .goto _=>none
  | _=>kk r
 | .loop c,ns,x,kk=>match ns with
  | []=>none
  | n::ns=>match qdq nm c with
   | none=>none
   | some m=>qa4 k c ns x fun r=>cond (subm r.rd m.1&&subm r.wr m.2) (match r.e with
    | .normal=>qen (qax P tt nm B nt cl lf none c) m.1 m.2 n r.fr r.S r.ds fun r=>kk (mbR (mB nm B) r)
    | e=>kk (mbR (mB nm B) ⟨e,r.fr,r.S,r.ds,m.1,m.2⟩)) none
 | _,_,_,_=>none
end
theorem qlf{k:Nat}{c:Code}:hasR k c=true↔k∈regs c:=by
 unfold hasR;rw[jd1];constructor
 ·rintro⟨i,hi,h⟩;rw[<- jaj h];exact hi
 ·intro h;exact⟨k,h,jc5 k⟩
theorem zce{q:CRes}{a b:Nat}(ha:a=0)(hb:b=0):q.or a b=q:=by
 subst ha;subst hb;show (⟨q.e,q.fr,q.S,q.ds,0 ||| q.rd,0 ||| q.wr⟩:CRes)=q;rw[jep,jep]
def qa2(tt:Nat->Option TI)(fi:FI)(s:Sm)(r:CRes):Option (ElR s.rts):=cond r.e.leaves (bd (qd6 tt fi.nt fi.res S0 r) (runR s)) none
end Go.Jx
end

section
namespace Go.Jx
open Go Go.Sx Go.RowKit
universe u

def nz(x:NRes):NRes:=⟨x.fr,x.S,x.ds,0⟩
section
variable {R : Type} (P : Program) (tt : Nat -> Option TI) (nm : Nat -> Option Nm) (B : Nat) (nt : Nat) (cl : ClK R) (lf : Nat) (st hd : Nat -> Bool) (J : Nat -> List Nat -> NRes -> Option R)
def qpb(c:Code)(ns:List Nat)(fr:PT IV)(S:IS)(ds:List Nat):Option R:=match fk c with
 | none=>none
 | some h=>bd (qcc nt (nm h) B fr S ds) fun x=>J h ns (nz x)
def qb1:Code->List Nat->CdK R
 | .region id ops draw,ps,fr,S,ds,kk=>bd (qcc nt (nm id) B fr S ds) fun x=>cond (st id) (J id ps (nz x)) (qdi P tt nm B nt cl ops.toList draw x kk)
 | .seq a b,ps,fr,S,ds,kk=>qb1 a ps fr S ds fun r=>match r.e with
  | .normal=>qb1 b ps r.fr r.S r.ds kk
  | _=>kk r
 | .cond c a b,ps,fr,S,ds,kk=>match evo nt fr c with
  | some (.bool b')=>cond b' (qb1 a ps fr S ds kk) (qb1 b ps fr S ds kk)
  | _=>none
 | .block id c,ps,fr,S,ds,kk=>qb1 c ps fr S ds fun r=>match r.e with
  | .exit id'=>cond (Nat.beq id' id) (kk ⟨.normal,r.fr,r.S,r.ds,r.rd,r.wr⟩) (kk r)
  | _=>kk r
 | .scope c,ps,fr,S,ds,kk=>qb1 c ps fr S ds fun r=>match r.e with
  | .goto _=>none
  | _=>kk r
 | .loop c,ps,fr,S,ds,kk=>qpb nm B nt J c (ps++[lf]) fr S ds
 | c,ps,fr,S,ds,kk=>qax P tt nm B nt cl lf none c fr S ds kk
def qb4(k:Nat):Code->List Nat->List Nat->NRes->(CRes->Option R)->Option R
 | .region id ops draw,ps,ns,x,kk=>cond (Nat.beq id k) (qdi P tt nm B nt cl ops.toList draw x kk) none
 | .seq a b,ps,ns,x,kk=>cond (hasR k a) (qb4 k a ps ns x fun r=>match r.e with
  | .normal=>qb1 P tt nm B nt cl lf st J b ps r.fr r.S r.ds kk
  | _=>kk r) (qb4 k b ps ns x kk)
 | .cond c a b,ps,ns,x,kk=>cond (hasR k a) (qb4 k a ps ns x kk) (qb4 k b ps ns x kk)
 | .block id c,ps,ns,x,kk=>qb4 k c ps ns x fun r=>match r.e with
  | .exit id'=>cond (Nat.beq id' id) (kk ⟨.normal,r.fr,r.S,r.ds,r.rd,r.wr⟩) (kk r)
  | _=>kk r
 | .scope c,ps,ns,x,kk=>qb4 k c ps ns x fun r=>match r.e with
  | .goto _=>none
  | _=>kk r
 | .loop c,ps,ns,x,kk=>match ns with
  | []=>none
  | n::ns=>match qdq nm c with
   | none=>none
   | some m=>qb4 k c (ps++[n]) ns x fun r=>cond (subm r.rd m.1&&subm r.wr m.2) (match r.e with
    | .normal=>qpb nm B nt J c (ps++[n]) r.fr r.S r.ds
    | e=>kk (mbR (mB nm B) ⟨e,r.fr,r.S,r.ds,m.1,m.2⟩)) none
 | _,_,_,_,_=>none
end
def okC(nm:Nat->Option Nm)(st hd:Nat->Bool):Code->Option Nat->Bool
 | .region id _ _,o=>match o with|none=>!hd id|some h=>Nat.beq id h&&(st id&&hd id)
 | .seq a b,o=>okC nm st hd a o&&okC nm st hd b none
 | .cond _ a b,o=>o.isNone&&(okC nm st hd a none&&okC nm st hd b none)
 | .block _ c,o=>okC nm st hd c o
 | .scope c,o=>okC nm st hd c o
 | .loop c,o=>o.isNone&&((qdq nm c).isSome&&(match fk c with|some h=>okC nm st hd c (some h)|none=>false))
 | _,o=>o.isNone
def dnL:List Nat->Option (List Nat)
 | []=>none
 | [n]=>match n with|0=>none|m+1=>some [m]
 | n::m::l=>match dnL (m::l) with|none=>none|some l'=>some (n::l')
def dn(b:Bool)(ns:List Nat):Option (List Nat):=cond b (dnL ns) (some ns)
theorem q96{b:Bool}{n:Nat}{ns:List Nat}(h:b=true->ns≠[]):dn b (n::ns)=match dn b ns with|none=>none|some l=>some (n::l):=by
 cases b with
 | false=>rfl
 | true=>cases ns with
  | nil=>exact absurd rfl (h rfl)
  | cons m l=>rfl
section
variable {R : Type} {P : Program} {tt : Nat -> Option TI} {nm : Nat -> Option Nm} {B : Nat} {nt : Nat} {cl : Cl} {clK : ClK R} {lf : Nat} {st hd : Nat -> Bool} {J : Nat -> List Nat -> NRes -> Option R}
def Keq(k k':CRes->Option R):Prop:=∀r,r.rd=0->r.wr=0->k r=k' r
theorem mz(hB0:mB nm B=0)(a:Nat):mb (mB nm B) a=0:=by rw[hB0];rfl
theorem q3j(hB0:mB nm B=0)(h:ClEq cl clK){ops:List Oper}{draw:Bool}{x:NRes}{k k':CRes->Option R}(hk:Keq k k'):qdi P tt nm B nt clK ops draw x k=qdi P tt nm B nt clK ops draw x k':=by
 unfold qdi;cases draw with
 | true =>
  simp only[jab,q0y h];cases iany P tt nt cl ops x.fr x.S with
  | none=>rfl
  | some q=>exact hk _ (mz hB0 _) (mz hB0 _)
 | false =>
  simp only[jah,qp9 h];cases iseq P tt nt cl ops ops x.fr x.S with
  | none=>rfl
  | some q=>exact hk _ (mz hB0 _) (mz hB0 _)
theorem qj1{h:Nat}:∀{c:Code},okC nm st hd c (some h)=true->fk c=some h/\st h=true/\hd h=true/\h∈regs c
 | .region id _ _,hc=>by
  simp only[okC,jae] at hc;obtain rfl:=jaj hc.1;exact⟨rfl,hc.2.1,hc.2.2,by simp[regs]⟩
 | .seq a b,hc=>by
  simp only[okC,jae] at hc;obtain⟨h1,h2,h3,h4⟩:=qj1 hc.1;exact⟨by simp only[fk,h1],h2,h3,by simp[regs,h4]⟩
 | .cond _ a b,hc=>by simp[okC] at hc
 | .block _ c,hc=>qj1 (c:=c) hc
 | .scope c,hc=>qj1 (c:=c) hc
 | .loop c,hc=>by simp[okC] at hc
 | .skip,hc=>by simp[okC] at hc
 | .label _,hc=>by simp[okC] at hc
 | .exit _,hc=>by simp[okC] at hc
 | .goto _,hc=>by simp[okC] at hc
 | .ret,hc=>by simp[okC] at hc
 | .refuse _,hc=>by simp[okC] at hc
 | .rangeFunc ..,hc=>by simp[okC] at hc
theorem qmt{h:Nat}:∀{c:Code} {fr:PT IV} {S:IS} {ds:List Nat} {kk:CRes->Option R},okC nm st hd c (some h)=true ->
  qax P tt nm B nt clK lf none c fr S ds kk=bd (qcc nt (nm h) B fr S ds) fun x=>qa4 P tt nm B nt clK lf h c [] x kk
 | .region id ops draw,fr,S,ds,kk,hc=>by
  simp only[okC,jae] at hc;obtain rfl:=jaj hc.1;show bd (qcc nt (nm id) B fr S ds) (fun x=>qdi P tt nm B nt clK ops.toList draw x kk)=_;simp only[qa4,jc5,jab]
 | .seq a b,fr,S,ds,kk,hc=>by
  simp only[okC,jae] at hc;simp only[qax,qa4,qlf.2 (qj1 hc.1).2.2.2,jab];exact qmt (c:=a) hc.1
 | .cond _ a b,fr,S,ds,kk,hc=>by simp[okC] at hc
 | .block _ c,fr,S,ds,kk,hc=>qmt (c:=c) hc
 | .scope c,fr,S,ds,kk,hc=>qmt (c:=c) hc
 | .loop c,fr,S,ds,kk,hc=>by simp[okC] at hc
 | .skip,fr,S,ds,kk,hc=>by simp[okC] at hc
 | .label _,fr,S,ds,kk,hc=>by simp[okC] at hc
 | .exit _,fr,S,ds,kk,hc=>by simp[okC] at hc
 | .goto _,fr,S,ds,kk,hc=>by simp[okC] at hc
 | .ret,fr,S,ds,kk,hc=>by simp[okC] at hc
 | .refuse _,fr,S,ds,kk,hc=>by simp[okC] at hc
 | .rangeFunc ..,fr,S,ds,kk,hc=>by simp[okC] at hc
def qda(P:Program)(tt:Nat->Option TI)(nm:Nat->Option Nm)(B:Nat)(nt:Nat)(clK:ClK R)(lf:Nat)(hd:Nat->Bool)(k:Nat)(c:Code)(ns:List Nat)(x:NRes)(kk:CRes->Option R):Option R:=match dn (hd k) ns with
 | none=>none
 | some ns'=>qa4 P tt nm B nt clK lf k c ns' x kk
def JeqB(P:Program)(tt:Nat->Option TI)(nm:Nat->Option Nm)(B:Nat)(nt:Nat)(clK:ClK R)(lf:Nat)(st hd:Nat->Bool)(J:Nat->List Nat->NRes->Option R)(c:Code)(ps:List Nat)(k':CRes->Option R):Prop :=
 ∀k ns x,k∈regs c->st k=true->(hd k=true->ns≠[])->J k (ps++ns) x=qda P tt nm B nt clK lf hd k c ns x k'
theorem qxf{k:Nat}{a b:Code}(n3:∀x∈regs a,∀y∈regs b,x≠y)(hi:k∈regs b):hasR k a=false:=by
 cases hb:hasR k a with
 | false=>rfl
 | true=>exact absurd rfl (n3 k (qlf.1 hb) k hi)
theorem JeqB.fst{a b:Code}{ps:List Nat}{k':CRes->Option R}(hJ:JeqB P tt nm B nt clK lf st hd J (.seq a b) ps k'):JeqB P tt nm B nt clK lf st hd J a ps (fun r=>match r.e with
  | .normal=>qax P tt nm B nt clK lf none b r.fr r.S r.ds fun q=>k' (q.or r.rd r.wr)
  | _=>k' r):=fun i ns x hi hs hn=>by
 rw[hJ i ns x (by simp[regs,hi]) hs hn];simp only[qda,qa4,qlf.2 hi,jab];all_goals rfl
theorem JeqB.snd{a b:Code}{ps:List Nat}{k':CRes->Option R}(n3:∀x∈regs a,∀y∈regs b,x≠y)(hJ:JeqB P tt nm B nt clK lf st hd J (.seq a b) ps k'):JeqB P tt nm B nt clK lf st hd J b ps k':=fun i ns x hi hs hn=>by
 rw[hJ i ns x (by simp[regs,hi]) hs hn];simp only[qda,qa4,qxf n3 hi,jah]
theorem JeqB.cond1{c:Operand}{a b:Code}{ps:List Nat}{k':CRes->Option R}(hJ:JeqB P tt nm B nt clK lf st hd J (.cond c a b) ps k'):JeqB P tt nm B nt clK lf st hd J a ps k':=fun i ns x hi hs hn=>by
 rw[hJ i ns x (by simp[regs,hi]) hs hn];simp only[qda,qa4,qlf.2 hi,jab]
theorem JeqB.cond2{c:Operand}{a b:Code}{ps:List Nat}{k':CRes->Option R}(n3:∀x∈regs a,∀y∈regs b,x≠y)(hJ:JeqB P tt nm B nt clK lf st hd J (.cond c a b) ps k'):JeqB P tt nm B nt clK lf st hd J b ps k':=fun i ns x hi hs hn=>by
 rw[hJ i ns x (by simp[regs,hi]) hs hn];simp only[qda,qa4,qxf n3 hi,jah]
theorem JeqB.body{c:Code}{ps:List Nat}{k':CRes->Option R}{m:Nat × Nat}(hm:qdq nm c=some m)(hJ:JeqB P tt nm B nt clK lf st hd J (.loop c) ps k')(n:Nat):JeqB P tt nm B nt clK lf st hd J c (ps++[n]) (fun r=>cond (subm r.rd m.1&&subm r.wr m.2) (match r.e with
    | .normal=>qen (qax P tt nm B nt clK lf none c) m.1 m.2 n r.fr r.S r.ds fun r=>k' (mbR (mB nm B) r)
    | e=>k' (mbR (mB nm B) ⟨e,r.fr,r.S,r.ds,m.1,m.2⟩)) none):=fun i ns x hi hs hn=>by
 have:=hJ i (n::ns) x hi hs (fun _=>by simp);rw[show ps++(n::ns)=(ps++[n])++ns by simp] at this;rw[this];simp only[qda,q96 hn];cases dn (hd i) ns with
 | none=>rfl
 | some ns'=>simp only[qa4,hm];all_goals rfl
theorem q0c(hB0:mB nm B=0)(ops:List Oper)(draw:Bool)(x:NRes)(kk:CRes->Option R):qdi P tt nm B nt clK ops draw (nz x) kk=qdi P tt nm B nt clK ops draw x kk:=by
 unfold qdi nz mbR;rw[hB0];rfl
theorem qfk(hB0:mB nm B=0){k:Nat}:∀(c:Code) (ns:List Nat) (x:NRes) (kk:CRes->Option R),qa4 P tt nm B nt clK lf k c ns (nz x) kk=qa4 P tt nm B nt clK lf k c ns x kk
 | .region id ops draw,ns,x,kk=>by simp only[qa4,q0c hB0]
 | .seq a b,ns,x,kk=>by
  simp only[qa4];rw[qfk hB0 a,qfk hB0 b]
 | .cond c a b,ns,x,kk=>by
  simp only[qa4];rw[qfk hB0 a,qfk hB0 b]
 | .block id c,ns,x,kk=>by simp only[qa4];rw[qfk hB0 c]
 | .scope c,ns,x,kk=>by simp only[qa4];rw[qfk hB0 c]
 | .loop c,ns,x,kk=>by
  cases ns with
  | nil=>rfl
  | cons n ns =>
   simp only[qa4];cases qdq nm c with
   | none=>rfl
   | some m=>simp only;rw[qfk hB0 c]
 | .skip,ns,x,kk=>rfl
 | .label _,ns,x,kk=>rfl
 | .exit _,ns,x,kk=>rfl
 | .goto _,ns,x,kk=>rfl
 | .ret,ns,x,kk=>rfl
 | .refuse _,ns,x,kk=>rfl
 | .rangeFunc ..,ns,x,kk=>rfl
theorem q2z(hB0:mB nm B=0){c:Code}{h:Nat}{ps:List Nat}{k':CRes->Option R}{m:Nat × Nat}(hc:okC nm st hd c (some h)=true)(hm:qdq nm c=some m)(hJ:JeqB P tt nm B nt clK lf st hd J (.loop c) ps k')(n:Nat)(fr:PT IV)(S:IS)(ds:List Nat) :
  qpb nm B nt J c (ps++[n]) fr S ds=qen (qax P tt nm B nt clK lf none c) m.1 m.2 n fr S ds fun r=>k' (mbR (mB nm B) r):=by
 obtain⟨h1,h2,h3,h4⟩:=qj1 hc;have e:∀x,J h (ps++[n]) (nz x)=qda P tt nm B nt clK lf hd h (.loop c) [n] x k':=fun x=>by
  rw[hJ h [n] (nz x) h4 h2 (fun _=>by simp)];unfold qda;cases dn (hd h) [n] with
  | none=>rfl
  | some ns'=>exact qfk hB0 _ _ _ _
 simp only[qpb,h1,e,qda,h3,dn,jab];cases n with
 | zero =>
  simp only[dnL,qen];cases qcc nt (nm h) B fr S ds<;>rfl
 | succ n =>
  simp only[dnL,qa4,hm,qen];rw[qmt hc];all_goals rfl
theorem qxz{b:Code}{ps:List Nat}{k k':CRes->Option R}(ihb:∀fr S ds,qb1 P tt nm B nt clK lf st J b ps fr S ds k=qax P tt nm B nt clK lf none b fr S ds k')(hk:Keq k k'):Keq (fun r=>match r.e with
  | .normal=>qb1 P tt nm B nt clK lf st J b ps r.fr r.S r.ds k
  | _=>k r) (fun r=>match r.e with
  | .normal=>qax P tt nm B nt clK lf none b r.fr r.S r.ds fun q=>k' (q.or r.rd r.wr)
  | _=>k' r):=fun r h1 h2=>by
 have e:(fun q:CRes=>k' (q.or r.rd r.wr))=k':=by funext q;rw[zce h1 h2]
 cases he:r.e<;>simp only[he]<;>first|exact hk r h1 h2|(rw[e];exact ihb _ _ _)
theorem q2u{id:Nat}{k k':CRes->Option R}(hk:Keq k k'):Keq (fun r=>match r.e with
  | .exit id'=>cond (Nat.beq id' id) (k ⟨.normal,r.fr,r.S,r.ds,r.rd,r.wr⟩) (k r)
  | _=>k r) (fun r=>match r.e with
  | .exit id'=>cond (Nat.beq id' id) (k' ⟨.normal,r.fr,r.S,r.ds,r.rd,r.wr⟩) (k' r)
  | _=>k' r):=fun r h1 h2=>by
 cases he:r.e<;>simp only[he]<;>first|exact hk r h1 h2|skip
 rename_i id';cases Nat.beq id' id
 ·exact hk r h1 h2
 ·exact hk _ h1 h2
theorem qvo{k k':CRes->Option R}(hk:Keq k k'):Keq (fun r=>match r.e with
  | .goto _=>none
  | _=>k r) (fun r=>match r.e with
  | .goto _=>none
  | _=>k' r):=fun r h1 h2=>by
 cases he:r.e<;>simp only[he]<;>exact hk r h1 h2
theorem qwd(hB0:mB nm B=0)(h:ClEq cl clK):∀(c:Code) (ps:List Nat) (fr:PT IV) (S:IS) (ds:List Nat) (k k':CRes->Option R),(regs c).Nodup->okC nm st hd c none=true->JeqB P tt nm B nt clK lf st hd J c ps k'->Keq k k' ->
  qb1 P tt nm B nt clK lf st J c ps fr S ds k=qax P tt nm B nt clK lf none c fr S ds k':=by
 intro c;induction c with
 | skip=>intro ps fr S ds k k' hn hl hJ hk;exact hk _ rfl rfl
 | label l=>intro ps fr S ds k k' hn hl hJ hk;exact hk _ rfl rfl
 | exit id=>intro ps fr S ds k k' hn hl hJ hk;exact hk _ rfl rfl
 | goto l=>intro ps fr S ds k k' hn hl hJ hk;exact hk _ rfl rfl
 | ret=>intro ps fr S ds k k' hn hl hJ hk;exact hk _ rfl rfl
 | refuse _=>intro ps fr S ds k k' hn hl hJ hk;rfl
 | region id ops draw =>
  intro ps fr S ds k k' hn hl hJ hk;simp only[okC,jch] at hl;show bd (qcc nt (nm id) B fr S ds) (fun x=>cond (st id) (J id ps (nz x)) (qdi P tt nm B nt clK ops.toList draw x k))=bd (qcc nt (nm id) B fr S ds) (fun x=>qdi P tt nm B nt clK ops.toList draw x k');cases qcc nt (nm id) B fr S ds with
  | none=>rfl
  | some x =>
   simp only[bd];cases hs:st id with
   | true =>
    have:=hJ id [] (nz x) (by simp[regs]) hs (fun h=>by rw[hl] at h;cases h);rw[jbo] at this;rw[jab,this];simp only[qda,hl,dn,jah,qa4,jc5,jab];exact q0c hB0 _ _ _ _
   | false=>rw[jah];exact q3j hB0 h hk
 | seq a b iha ihb =>
  intro ps fr S ds k k' hn hl hJ hk;simp only[regs,jcv] at hn;obtain⟨n1,n2,n3⟩:=hn;simp only[okC,jae] at hl;exact iha ps fr S ds _ _ n1 hl.1 hJ.fst (qxz (fun fr S ds=>ihb ps fr S ds k k' n2 hl.2 (hJ.snd n3) hk) hk)
 | cond c a b iha ihb =>
  intro ps fr S ds k k' hn hl hJ hk;simp only[regs,jcv] at hn;obtain⟨n1,n2,n3⟩:=hn;simp only[okC,jae] at hl;simp only[qb1,qax];cases evo nt fr c with
  | none=>rfl
  | some v =>
   cases v<;>try rfl
   simp only;rw[iha ps fr S ds k k' n1 hl.2.1 hJ.cond1 hk,ihb ps fr S ds k k' n2 hl.2.2 (hJ.cond2 n3) hk]
 | block id c ih =>
  intro ps fr S ds k k' hn hl hJ hk;exact ih ps fr S ds _ _ hn hl (fun i ns x hi hs hne=>hJ i ns x hi hs hne) (q2u hk)
 | scope c ih =>
  intro ps fr S ds k k' hn hl hJ hk;exact ih ps fr S ds _ _ hn hl (fun i ns x hi hs hne=>hJ i ns x hi hs hne) (qvo hk)
 | loop c ih =>
  intro ps fr S ds k k' hn hl hJ hk;simp only[okC,jae,Option.isSome_iff_exists] at hl;obtain⟨_,⟨m,hm⟩,hl⟩:=hl;split at hl
  ·rename_i i hi;simp only[qb1,qax,hm];exact q2z hB0 hl hm hJ _ _ _ _
  ·cases hl
 | rangeFunc g ps' assign body ih1 ih2 =>
  intro ps fr S ds k k' hn hl hJ hk;show qax P tt nm B nt clK lf none (.rangeFunc g ps' assign body) fr S ds k=_;rw[qeu h,qeu h];cases hq:qaj P tt nm B nt cl lf none (.rangeFunc g ps' assign body) fr S ds with
  | none=>rfl
  | some r =>
   simp only[qaj] at hq;obtain⟨r0,_,rfl⟩:=qgd hq;exact hk _ (mz hB0 _) (mz hB0 _)
theorem zi4(hB0:mB nm B=0)(h:ClEq cl clK){i0:Nat}:∀(c:Code) (o:Option Nat) (ps ns:List Nat) (x:NRes) (k k':CRes->Option R),(regs c).Nodup->okC nm st hd c o=true->JeqB P tt nm B nt clK lf st hd J c ps k'->Keq k k' ->
  qb4 P tt nm B nt clK lf st J i0 c ps ns x k=qa4 P tt nm B nt clK lf i0 c ns x k':=by
 intro c;induction c with
 | skip=>intros;rfl
 | label l=>intros;rfl
 | exit id=>intros;rfl
 | goto l=>intros;rfl
 | ret=>intros;rfl
 | refuse _=>intros;rfl
 | region id ops draw =>
  intro o ps ns x k k' hn hl hJ hk;simp only[qb4,qa4];rw[q3j hB0 h hk]
 | seq a b iha ihb =>
  intro o ps ns x k k' hn hl hJ hk;simp only[regs,jcv] at hn;obtain⟨n1,n2,n3⟩:=hn;simp only[okC,jae] at hl;simp only[qb4,qa4];rw[ihb none ps ns x k k' n2 hl.2 (hJ.snd n3) hk];rw[iha o ps ns x _ _ n1 hl.1 hJ.fst (qxz (fun fr S ds=>qwd hB0 h b ps fr S ds k k' n2 hl.2 (hJ.snd n3) hk) hk)];all_goals rfl
 | cond c a b iha ihb =>
  intro o ps ns x k k' hn hl hJ hk;simp only[regs,jcv] at hn;obtain⟨n1,n2,n3⟩:=hn;simp only[okC,jae] at hl;simp only[qb4,qa4];rw[iha none ps ns x k k' n1 hl.2.1 hJ.cond1 hk,ihb none ps ns x k k' n2 hl.2.2 (hJ.cond2 n3) hk]
 | block id c ih =>
  intro o ps ns x k k' hn hl hJ hk;exact ih o ps ns x _ _ hn hl (fun i ns x hi hs hne=>hJ i ns x hi hs hne) (q2u hk)
 | scope c ih =>
  intro o ps ns x k k' hn hl hJ hk;exact ih o ps ns x _ _ hn hl (fun i ns x hi hs hne=>hJ i ns x hi hs hne) (qvo hk)
 | loop c ih =>
  intro o ps ns x k k' hn hl hJ hk;cases ns with
  | nil=>rfl
  | cons n ns =>
  simp only[okC,jae,Option.isSome_iff_exists] at hl;obtain⟨_,⟨m,hm⟩,hl⟩:=hl;split at hl
  ·rename_i i hi;simp only[qb4,qa4,hm];refine ih (some i) (ps++[n]) ns x _ _ hn hl (hJ.body hm n) (fun r h1 h2=>?_);cases (subm r.rd m.1&&subm r.wr m.2) with
   | false=>rfl
   | true =>
    simp only[jab];cases r.e<;>simp only<;>first|exact q2z hB0 hl hm hJ _ _ _ _|exact hk _ (mz hB0 _) (mz hB0 _)
  ·cases hl
 | rangeFunc g ps' assign body ih1 ih2=>intros;rfl

def atNB(P:Program)(tt:Nat->Option TI)(nm:Nat->Option Nm)(B:Nat)(nt:Nat)(body:Code)(clK:ClK R)(lf:Nat)(hd:Nat->Bool)(kk:CRes->Option R)(k:Nat)(ns:List Nat)(x:NRes):Option R :=
 qda P tt nm B nt clK lf hd k body ns x kk
theorem qwz(hB0:mB nm B=0){body:Code}{kk:CRes->Option R}(h:ClEq cl clK)(hn:(regs body).Nodup)(hl:okC nm st hd body none=true)(k:Nat)(ns ns':List Nat)(hd':dn (hd k) ns=some ns')(x:NRes) :
  atNB P tt nm B nt body clK lf hd kk k ns x=qb4 P tt nm B nt clK lf st (atNB P tt nm B nt body clK lf hd kk) k body [] ns' x kk:=by
 unfold atNB;simp only[qda,hd'];exact(zi4 hB0 h body none [] ns' x _ _ hn hl (fun i ns x _ _ _=>rfl) (fun _ _ _=>rfl)).symm
theorem qyc{body:Code}{kk:CRes->Option R}(k:Nat)(ns:List Nat)(hd':dn (hd k) ns=none)(x:NRes):atNB P tt nm B nt body clK lf hd kk k ns x=none:=by
 unfold atNB;simp only[qda,hd']
theorem qzj(hB0:mB nm B=0){body:Code}{kk:CRes->Option R}(h:ClEq cl clK)(hn:(regs body).Nodup)(hl:okC nm st hd body none=true)(fr:PT IV)(S:IS) :
  qax P tt nm B nt clK lf none body fr S [] kk=qb1 P tt nm B nt clK lf st (atNB P tt nm B nt body clK lf hd kk) body [] fr S [] kk :=
 (qwd hB0 h body [] fr S [] _ _ hn hl (fun i ns x _ _ _=>rfl) (fun _ _ _=>rfl)).symm
end
theorem mB_z(nm:Nat->Option Nm):mB nm 0=0:=by unfold mB;cases frzF nm<;>rfl
def qb6{R:Type}(P:Program)(tt:Nat->Option TI)(nm:Nat->Option Nm)(nt:Nat)(cl:ClK R)(lf:Nat)(st:Nat->Bool)(J:Nat->List Nat->NRes->Option R)(c:Code)(ps:List Nat):CdK R:=qb1 P tt nm 0 nt cl lf st J c ps
def qct{R:Type}(P:Program)(tt:Nat->Option TI)(nm:Nat->Option Nm)(nt:Nat)(cl:ClK R)(lf:Nat)(st:Nat->Bool)(J:Nat->List Nat->NRes->Option R)(k:Nat)(c:Code)(ps ns:List Nat)(x:NRes)(kk:CRes->Option R):Option R:=qb4 P tt nm 0 nt cl lf st J k c ps ns x kk
section
variable {P : Program} {tt : Nat -> Option TI} {nm : Nat -> Option Nm} {lf : Nat} {st hd : Nat -> Bool} {cl : Cl}
def atN(P:Program)(tt:Nat->Option TI)(nm:Nat->Option Nm)(fi:FI)(s:Sm)(clK:ClK (ElR s.rts))(lf:Nat)(hd:Nat->Bool)(k:Nat)(ns:List Nat)(x:NRes):Option (ElR s.rts) :=
 atNB P tt nm 0 fi.nt fi.body clK lf hd (qa2 tt fi s) k ns x
theorem qb3{fi:FI}{s:Sm}{clK:ClK (ElR s.rts)}(h:ClEq cl clK)(hn:(regs fi.body).Nodup)(hl:okC nm st hd fi.body none=true)(k:Nat)(ns ns':List Nat)(hd':dn (hd k) ns=some ns')(x:NRes) :
  atN P tt nm fi s clK lf hd k ns x=qct P tt nm fi.nt clK lf st (atN P tt nm fi s clK lf hd) k fi.body [] ns' x (qa2 tt fi s):=qwz (mB_z nm) h hn hl k ns ns' hd' x
theorem qb5{fi:FI}{s:Sm}{clK:ClK (ElR s.rts)}(k:Nat)(ns:List Nat)(hd':dn (hd k) ns=none)(x:NRes):atN P tt nm fi s clK lf hd k ns x=none:=qyc k ns hd' x
theorem zjz{fi:FI}{s:Sm}{clK:ClK (ElR s.rts)}(h:ClEq cl clK)(hn:(regs fi.body).Nodup)(hl:okC nm st hd fi.body none=true)(fr:PT IV) :
  qax P tt nm 0 fi.nt clK lf none fi.body fr S0 [] (qa2 tt fi s)=qb6 P tt nm fi.nt clK lf st (atN P tt nm fi s clK lf hd) fi.body [] fr S0 [] (qa2 tt fi s):=qzj (mB_z nm) h hn hl fr S0
end

def qa9{α R:Type}(T:(α->Option R)->α->Option R):Nat->α->Option R
 | 0,_=>none
 | n+1,a=>T (qa9 T n) a
end Go.Jx
end

section
namespace Go.Jx
open Go Go.Sx Go.RowKit
universe u

def idxO{α:Type}(p:α->Option Bool):List α->Nat->Option Int
 | [],_=>some (-1)
 | x::l,i=>match p x with
  | none=>none
  | some b=>cond b (some (Int.ofNat i)) (idxO p l (i+1))
theorem q4g{α:Type}{p:α->Option Bool}{q:α->Bool}:∀{l:List α} {i:Nat},(∀x∈l,p x=some (q x))->idxO p l i=some (match l.findIdx? q with|some j=>Int.ofNat (i+j)|none=>-1)
 | [],i,h=>rfl
 | x::l,i,h=>by
  unfold idxO;rw[h x jby,List.findIdx?_cons];cases hq:q x with
  | true=>rfl
  | false =>
   simp only[jah];rw[q4g fun y hy=>h y (ja7 _ hy)];cases l.findIdx? q with
   | none=>rfl
   | some j=>exact jaw (fun n=>some (Int.ofNat n)) (show i+1+j=i+(j+1) by omega)
def below(N:Nat):Nat:=2 ^ N-1
def ansB(m:Nat)(r:Res):Option Bool:=match r.v with
 | .bool b=>cond (Nat.beq r.wr 0&&subm r.rd m) (some b) none
 | _=>none
def idxF(c:TC)(cl:Cl)(vs:List IV)(S:IS):Option Res:=match vs with
 | [.lst c' l,.fn g caps]=>match qbj c' c l with
  | none=>none
  | some l=>match idxO (fun x=>ob (cl (.fn g) (asIV c x::caps) S) (ansB (below S.next))) l 0 with
   | none=>none
   | some i=>some ⟨.int .i64 i,S,below S.next,0⟩
 | _=>none
def idxK(c:TC)(clP:ClP)(R:Type)(vs:List IV)(S:IS)(kk:Res->Option R):Option R:=match vs with
 | [.lst c' l,.fn g caps]=>match qbj c' c l with
  | none=>none
  | some l=>match idxO (fun x=>clP Bool (.fn g) (asIV c x::caps) S (ansB (below S.next))) l 0 with
   | none=>none
   | some i=>kk ⟨.int .i64 i,S,below S.next,0⟩
 | _=>none
theorem q82(c:TC)(cl:Cl)(clP:ClP)(h:∀R,ClEq cl (clP R))(R:Type)(vs:List IV)(S:IS)(kk:Res->Option R):idxK c clP R vs S kk=ob (idxF c cl vs S) kk:=by
 unfold idxK idxF;split
 ·rename_i c' l g caps;cases qbj c' c l with
  | none=>rfl
  | some l =>
   simp only[h Bool _ _ _ _];cases idxO (fun x=>ob (cl (.fn g) (asIV c x::caps) S) (ansB (below S.next))) l 0<;>rfl
 ·rfl
def qm9(c:TC):Hx:=⟨idxF c,idxK c,q82 c⟩
theorem qqd{c:TC}{cl:Cl}{vs:List IV}{S:IS}{r:Res}(h:idxF c cl vs S=some r):∃c' l0 g caps l i,vs=[.lst c' l0,.fn g caps]/\qbj c' c l0=some l/\idxO (fun x=>ob (cl (.fn g) (asIV c x::caps) S) (ansB (below S.next))) l 0=some i/\r=⟨.int .i64 i,S,below S.next,0⟩:=by
 unfold idxF at h;split at h
 ·rename_i c' l g caps;cases hr:qbj c' c l with
  | none=>rw[hr] at h;cases h
  | some l2 =>
   rw[hr] at h;simp only at h;split at h<;>cases h;rename_i i hi;exact⟨_,_,_,_,_,_,rfl,hr,hi,rfl⟩
 ·cases h

def tup(ss:List Nat)(r:CRes):IEx × List IV × IS × List Nat × Nat × Nat:=(r.e,ss.map (slot r.fr),r.S,r.ds,r.rd,r.wr)
theorem qls(B:Nat):mb B 0=0:=by unfold mb;cases Nat.beq B 0<;>rfl
theorem qr0(a:Nat):Nat.lor a 0=a:=jfo a
theorem zf3(a:Nat):Nat.lor 0 a=a:=jep a
theorem qsh{P:Program}{tt:Nat->Option TI}{nm:Nat->Option Nm}{B nt lf:Nat}{cl:Cl}{c:Code}{fr:PT IV}{S:IS}{ds:List Nat}{ss:List Nat}{y:IEx × List IV × IS × List Nat × Nat × Nat}
  (h:qax P tt nm B nt (fun t vs S kk=>ob (cl t vs S) kk) lf none c fr S ds (fun r=>some (tup ss r))=some y):∃r,qaj P tt nm B nt cl lf none c fr S ds=some r/\tup ss r=y:=by
 rw[qeu (cl:=cl) (fun _ _ _ _=>rfl)] at h;cases hr:qaj P tt nm B nt cl lf none c fr S ds with
 | none=>rw[hr] at h;cases h
 | some r=>rw[hr] at h;cases h;exact⟨r,rfl,rfl⟩
theorem q49{fr fr':PT IV}:∀{l:List Nat} {r:PT IV},(∀t∈l,slot fr t=slot fr' t)->qij fr l r=qij fr' l r
 | [],r,h=>rfl
 | t::l,r,h=>by
  unfold qij;rw[h t jby];exact q49 fun k hk=>h k (ja7 _ hk)
theorem qjj{P:Program}{tt:Nat->Option TI}{nm:Nat->Option Nm}{B nt lf:Nat}{cl:Cl}{m:Nm}{h:Nat}(hm:nm h=some m)(hf:m.fo=true){fr fr':PT IV}(hs:∀t∈m.keep,slot fr t=slot fr' t) :
  ∀{c:Code} {S:IS} {ds:List Nat},okC nm (fun k=>Nat.beq k h) (fun k=>Nat.beq k h) c (some h)=true->qaj P tt nm B nt cl lf none c fr S ds=qaj P tt nm B nt cl lf none c fr' S ds
 | .region id ops draw,S,ds,hc=>by
  simp only[okC,jae] at hc;obtain rfl:=jaj hc.1;simp only[qaj,hm,qcc,hf,jab,q49 hs]
 | .seq a b,S,ds,hc=>by
  simp only[okC,jae] at hc;simp only[qaj];rw[qjj hm hf hs (c:=a) hc.1]
 | .cond _ a b,S,ds,hc=>by simp[okC] at hc
 | .block _ c,S,ds,hc=>by
  simp only[qaj];rw[qjj hm hf hs (c:=c) hc]
 | .scope c,S,ds,hc=>by
  simp only[qaj];rw[qjj hm hf hs (c:=c) hc]
 | .loop c,S,ds,hc=>by simp[okC] at hc
 | .skip,S,ds,hc=>by simp[okC] at hc
 | .label _,S,ds,hc=>by simp[okC] at hc
 | .exit _,S,ds,hc=>by simp[okC] at hc
 | .goto _,S,ds,hc=>by simp[okC] at hc
 | .ret,S,ds,hc=>by simp[okC] at hc
 | .refuse _,S,ds,hc=>by simp[okC] at hc
 | .rangeFunc ..,S,ds,hc=>by simp[okC] at hc
def nmI(k:Nat)(keep:List Nat)(mr:Nat):Nat->Option Nm:=fun j=>cond (Nat.beq j k) (some ⟨keep,[],[],[],[],mr,0,true⟩) none
theorem mB_I(keep:List Nat)(mr B:Nat):mB (nmI 2 keep mr) B=B:=rfl
def frI(c:TC)(l:List (El c))(g:Nat)(caps:List IV)(i:Int):PT IV:=(((PT.leaf.set (.lst c l) 0).set (.fn g caps) 1).set (.int .i64 (Int.ofNat l.length)) 7).set (.int .i64 i) 8
def frA(c:TC)(l:List (El c))(g:Nat)(caps:List IV):PT IV:=(qaz [.lst c l,.fn g caps] 0 .leaf).set (.int .i64 0) 4
def frB(c:TC)(l:List (El c))(g:Nat)(caps:List IV):PT IV:=(((frA c l g caps).set (.lst c l) 6).set (.int .i64 (Int.ofNat l.length)) 7).set (.int .i64 0) 8
structure IdxFacts (P:Program) (tt:Nat->Option TI) (c:TC) (fi:FI) (A B L C:Code):Prop where
 body:fi.body=.seq A (.seq (.seq B (.block 0 (.loop L))) C)
 two:Nat.ble 2 fi.nt=true
 head:∀mr,okC (nmI 2 [0,1,7,8] mr) (fun k=>Nat.beq k 2) (fun k=>Nat.beq k 2) L (some 2)=true
 a:∀(R:Type) (clK:ClK R) (B0 mr lf:Nat) (l:List (El c)) (g:Nat) (caps:List IV) (S:IS) (kk:CRes->Option R),qax P tt (nmI 2 [0,1,7,8] mr) B0 fi.nt clK lf none A (qaz [.lst c l,.fn g caps] 0 .leaf) S [] kk=kk ⟨.normal,frA c l g caps,S,[],mb B0 0,mb B0 0⟩
 b:∀(R:Type) (clK:ClK R) (B0 mr lf:Nat) (l:List (El c)) (g:Nat) (caps:List IV) (S:IS) (kk:CRes->Option R),qax P tt (nmI 2 [0,1,7,8] mr) B0 fi.nt clK lf none B (frA c l g caps) S [] kk=kk ⟨.normal,frB c l g caps,S,[],mb B0 0,mb B0 0⟩
 l:∀(R:Type) (clK:ClK R) (B0 mr lf:Nat) (l:List (El c)) (g:Nat) (caps:List IV) (S:IS) (i:Int) (kk:_->Option R),qax P tt (nmI 2 [0,1,7,8] mr) B0 fi.nt clK lf none L (frI c l g caps i) S [] (fun r=>kk (tup [0,1,4,7,8] r)) =
  cond (iltI i (Int.ofNat l.length)) (match jget l i with
   | none=>none
   | some x=>clK (.fn g) (asIV c x::caps) S fun r=>match r.v with
    | .bool b=>cond b
     (kk (.ret,[.lst c l,.fn g caps,.int .i64 i,.int .i64 (Int.ofNat l.length),.int .i64 i],r.S,[],(mb B0 0).lor (Nat.lor 0 ((mb B0 0).lor ((mb B0 (Nat.lor 0 (Nat.lor 0 (Nat.lor 0 (Nat.lor 0 (Nat.lor 0 (r.rd.lor 0))))))).lor ((mb B0 0).lor 0)))),
      (mb B0 0).lor (Nat.lor 0 ((mb B0 0).lor ((mb B0 (Nat.lor 0 (Nat.lor 0 (Nat.lor 0 (Nat.lor 0 (Nat.lor 0 (Nat.lor 0 (r.wr.lor 0)))))))).lor ((mb B0 0).lor 0))))))
     (kk (.normal,[.lst c l,.fn g caps,.unk,.int .i64 (Int.ofNat l.length),.int .i64 (IntKind.i64.wrap (i+1))],r.S,[],(mb B0 0).lor (Nat.lor 0 (((mb B0 0).lor ((mb B0 (Nat.lor 0 (Nat.lor 0 (Nat.lor 0 (Nat.lor 0 (Nat.lor 0 (r.rd.lor 0))))))).lor 0)).lor (mb B0 0))),
      (mb B0 0).lor (Nat.lor 0 (((mb B0 0).lor ((mb B0 (Nat.lor 0 (Nat.lor 0 (Nat.lor 0 (Nat.lor 0 (Nat.lor 0 (Nat.lor 0 (r.wr.lor 0)))))))).lor 0)).lor (mb B0 0)))))
    | _=>none)
   (kk (.exit 0,[.lst c l,.fn g caps,.unk,.int .i64 (Int.ofNat l.length),.int .i64 i],S,[],(mb B0 0).lor 0,(mb B0 0).lor 0))
 e:∀(R:Type) (clK:ClK R) (B0 mr lf:Nat) (fr:PT IV) (S:IS) (kk:CRes->Option R),qax P tt (nmI 2 [0,1,7,8] mr) B0 fi.nt clK lf none C fr S [] kk=kk ⟨.ret,fr.set (.int .i64 (-1)) 4,S,[],(mb B0 0).lor 0,(mb B0 0).lor 0⟩
 res:fi.res=[.tmp 4]
 nt4:Nat.blt 4 fi.nt=true
 lm:∀mr,qdq (nmI 2 [0,1,7,8] mr) L=some (mr,0)
variable {P : Program} {tt : Nat -> Option TI} {c : TC} {fi : FI} {A B L C : Code}
theorem qld(a:Nat):subm 0 a=true:=by unfold subm;rw[jep];exact jc5 a
theorem zem{B0 a m:Nat}(h:subm a m=true):subm (mb B0 a) m=true:=by
 unfold mb;cases Nat.beq B0 0
 ·exact h
 ·exact qld m
theorem q6t(F:IdxFacts P tt c fi A B L C){cl:Cl}(hcalm:Calm cl){l:List (El c)}(hl:l.length*bsz c<=140737488355328){g:Nat}{caps:List IV}{S:IS}{i:Int}{lf:Nat}:∀(rest pre:List (El c)) (fuel:Nat) (fr:PT IV),
  l=pre++rest->rest.length<fuel->(slot fr 0=.lst c l/\slot fr 1=.fn g caps/\slot fr 7=.int .i64 (Int.ofNat l.length)/\slot fr 8=.int .i64 (Int.ofNat pre.length)) ->
  idxO (fun x=>ob (cl (.fn g) (asIV c x::caps) S) (ansB (below S.next))) rest pre.length=some i ->
  ∃r,qcq (qaj P tt (nmI 2 [0,1,7,8] (below S.next)) S.next fi.nt cl lf none L) (below S.next) 0 fuel fr S []=some r/\r.S=S/\r.ds=[]/\r.wr=0/\((r.e=.ret/\slot r.fr 4=.int .i64 i)\/(r.e=.exit 0/\i=-1)):=by
 intro rest;induction rest with
 | nil =>
  intro pre fuel fr hp hf hs hi;cases fuel with
  | zero=>exact absurd hf (by simp)
  | succ n =>
  cases hi;have e1:=qjj (P:=P) (tt:=tt) (B:=S.next) (nt:=fi.nt) (lf:=lf) (cl:=cl) (h:=2) (m:=⟨[0,1,7,8],[],[],[],[],below S.next,0,true⟩) rfl rfl (fr:=fr) (fr':=frI c l g caps (Int.ofNat pre.length)) (by
   intro t ht;simp only[jav,jfp,or_false] at ht;rcases ht with rfl|rfl|rfl|rfl
   ·exact hs.1
   ·exact hs.2.1
   ·exact hs.2.2.1
   ·exact hs.2.2.2) (c:=L) (S:=S) (ds:=[]) (F.head _)
  have e2:=F.l (IEx × List IV × IS × List Nat × Nat × Nat) (fun t vs S kk=>ob (cl t vs S) kk) S.next (below S.next) lf l g caps S (Int.ofNat pre.length) some
  rw[show iltI (Int.ofNat pre.length) (Int.ofNat l.length)=false by rw[qa5,hp];simp,jah] at e2;obtain⟨r,hr,ht⟩:=qsh e2;simp only[tup,jdo,qls,qr0] at ht;obtain⟨t1,t2,t3,t4,t5,t6⟩:=ht;refine⟨⟨.exit 0,r.fr,S,[],below S.next,0⟩,?_,rfl,rfl,rfl,.inr ⟨rfl,rfl⟩⟩;unfold qcq;rw[e1];have hr':qaj P tt (nmI 2 [0,1,7,8] (below S.next)) S.next fi.nt cl lf none L (frI c l g caps (Int.ofNat pre.length)) S []=some r:=hr
  simp only[hr',t5,t6,qld,je5,jab,t1,t3,t4]
 | cons x rest ih =>
  intro pre fuel fr hp hf hs hi;cases fuel with
  | zero=>exact absurd hf (by simp)
  | succ n =>
  have e1:=qjj (P:=P) (tt:=tt) (B:=S.next) (nt:=fi.nt) (lf:=lf) (cl:=cl) (h:=2) (m:=⟨[0,1,7,8],[],[],[],[],below S.next,0,true⟩) rfl rfl (fr:=fr) (fr':=frI c l g caps (Int.ofNat pre.length)) (by
   intro t ht;simp only[jav,jfp,or_false] at ht;rcases ht with rfl|rfl|rfl|rfl
   ·exact hs.1
   ·exact hs.2.1
   ·exact hs.2.2.1
   ·exact hs.2.2.2) (c:=L) (S:=S) (ds:=[]) (F.head _)
  have e2:=F.l (IEx × List IV × IS × List Nat × Nat × Nat) (fun t vs S kk=>ob (cl t vs S) kk) S.next (below S.next) lf l g caps S (Int.ofNat pre.length) some
  have hlen:l.length=pre.length+(rest.length+1):=by rw[hp];simp
  rw[show iltI (Int.ofNat pre.length) (Int.ofNat l.length)=true by rw[qa5];simp;omega,jab,
   show jget l (Int.ofNat pre.length)=some x by unfold jget;rw[jam (by simp)];rw[hp];simp] at e2
  simp only at e2;unfold idxO at hi;cases hc:cl (.fn g) (asIV c x::caps) S with
  | none=>rw[hc] at hi;cases hi
  | some r0 =>
  rw[hc] at hi e2;simp only[ob] at hi e2;cases hv:r0.v<;>simp only[ansB,hv] at hi<;>try (cases hi;done)
  rename_i b;cases hmk:(Nat.beq r0.wr 0&&subm r0.rd (below S.next)) with
  | false=>rw[hmk] at hi;cases hi
  | true =>
  rw[hmk] at hi;simp only[jae] at hmk;have hw0:r0.wr=0:=jaj hmk.1;have hS:r0.S=S:=hcalm _ _ _ _ hc hw0 (by rw[hv];rfl);simp only[hv,hS,hw0,qls,qr0,zf3] at e2;simp only[jab] at hi;have hsm:subm (mb S.next r0.rd) (below S.next)=true:=zem hmk.2;cases b with
  | true =>
   cases hi;rw[jab] at e2;obtain⟨r,hr,ht⟩:=qsh e2;simp only[tup,jdo,jdc,jdv] at ht;obtain⟨t1,t2,t3,t4,t5,t6⟩:=ht;refine⟨⟨.ret,r.fr,S,[],below S.next,0⟩,?_,rfl,rfl,rfl,.inl ⟨rfl,t2.2.2.1⟩⟩;unfold qcq;rw[e1];have hr':qaj P tt (nmI 2 [0,1,7,8] (below S.next)) S.next fi.nt cl lf none L (frI c l g caps (Int.ofNat pre.length)) S []=some r:=hr
   simp only[hr',t5,t6,hsm,qld,je5,jab,t1,t3,t4]
  | false =>
   rw[jah] at e2 hi;obtain⟨r,hr,ht⟩:=qsh e2;simp only[tup,jdo,jdc,jdv] at ht;obtain⟨t1,t2,t3,t4,t5,t6⟩:=ht;have hw:IntKind.i64.wrap (Int.ofNat pre.length+1)=Int.ofNat (pre++[x]).length:=by
    rw[show Int.ofNat (pre++[x]).length=Int.ofNat pre.length+1 by simp];refine qez ?_;have hb:1<=bsz c:=qiz c;have:l.length*1<=l.length*bsz c:=jc2 _ hb;simp;omega
   obtain⟨q,q1,q2⟩:=ih (pre++[x]) n r.fr (by rw[hp];simp) (by simp at hf;omega) ⟨t2.1,t2.2.1,t2.2.2.2.1,by rw[<- hw];exact t2.2.2.2.2.1⟩ (by rw[show (pre++[x]).length=pre.length+1 by simp];exact hi);refine⟨q,?_,q2⟩;unfold qcq;rw[e1];have hr':qaj P tt (nmI 2 [0,1,7,8] (below S.next)) S.next fi.nt cl lf none L (frI c l g caps (Int.ofNat pre.length)) S []=some r:=hr
   simp only[hr',t5,t6,hsm,qld,je5,jab,t1,t3,t4];exact q1
where qiz:∀c:TC,1<=bsz c
 | .int k=>by cases k<;>simp [bsz]
 | .bool=>by simp[bsz]
 | .str=>by simp[bsz]
 | .list _=>by simp[bsz]
 | .two a b=>by have:=qiz a;simp only[bsz];omega

theorem runK{nm:Nat->Option Nm}{B nt lf:Nat}{cl:Cl}{c:Code}{fr:PT IV}{S:IS}{ds:List Nat}{y:CRes}
  (h:qax P tt nm B nt (fun t vs S kk=>ob (cl t vs S) kk) lf none c fr S ds some=some y):qaj P tt nm B nt cl lf none c fr S ds=some y:=by
 rw[qeu (cl:=cl) (fun _ _ _ _=>rfl)] at h;cases hr:qaj P tt nm B nt cl lf none c fr S ds with
 | none=>rw[hr] at h;cases h
 | some r=>rw[hr] at h;cases h;rfl
theorem znl{T:Nat->Prop}{n a:Nat}(h:tin T (below n)):tin T (a % 2 ^ n):=fun j hj=>h j (by
 rw[jdx] at hj;simp only[jae,jb9] at hj;unfold below;rw[Nat.testBit_two_pow_sub_one];simpa using hj.1)
theorem zlg{E:Env}{c:TC}{l:List (El c)}{u:Value}(h:VR E (.lst c l) u):l.length*bsz c<=140737488355328:=by
 cases h with
 | lst0 hc=>simp
 | lst us h1 h2 h3 hb hh hc hu=>exact h3
theorem q5s{f:Nat}{nm:Nat->Option Nm}{lf:Nat}{cl:Cl}{vs:List IV}{S:IS}{fr:PT IV}{e:IEx}{rd:Nat}{k:IntKind}{i:Int}{t:Nat}(hz:frzF nm=false)(hm:P.follows .mixedOrders=true)(htt:TT P tt)(hfi:FIok P f fi)(hcl:ClOK P cl)(hfr:ClFr cl)
  (hb:Nat.ble vs.length fi.nt=true) (hr:qaj P tt nm S.next fi.nt cl lf none fi.body (qaz vs 0 .leaf) S []=some ⟨e,fr,S,[],rd,0⟩) (he:e.leaves=true) (hres:fi.res=[.tmp t]) (hnt:Nat.blt t fi.nt=true) (hs:slot fr t=.int k i)
  {T:TW} {E:Env} {us:List Value} (p:Pre T E S) (hrd:tin T.r (below S.next)) (hv:VRs E vs us):qah P f/\CallsIn Fence.wide 0 P f us.toArray E.w (RetE T E S ⟨.int k i,S,below S.next,0⟩):=by
 refine qxl (fi:=fi) (r:=⟨.int k i,S,(rd ||| 0) % 2 ^ S.next,0⟩) hz hm htt hfi hcl hfr hb hr he ?_ p (znl hrd) (fun j hj=>by simp at hj) hv;have e1:qfi ([]:List Nat) S=some (S,0):=rfl;simp only[qd6,e1,hres,ires,hnt,jab,hs];simp only[tupI,Nat.or_self,igc,Nat.zero_mod,low2,low0,jc5,je5,jab]
theorem qno{f:Nat}(F:IdxFacts P tt c fi A B L C)(hm:P.follows .mixedOrders=true)(htt:TT P tt)(hfi:FIok P f fi):HxOK P f (idxF c):=by
 refine⟨fun cl hcl hfr hcalm vs S r h T E us p hrd hwr hv=>?_,fun cl hfr vs S r h=>?_,fun cl hcalm vs S r h _ _=>?_⟩
 ·obtain⟨c',l1,g,caps,l0,i,rfl,hrc,hi,rfl⟩:=qqd h;obtain⟨rfl,rfl⟩:=qcj hrc;have hlen:l0.length*bsz c'<=140737488355328:=by
   obtain⟨u,us,_,a1,_⟩:=hv.inv;exact zlg a1
  have ha:=runK (F.a CRes (fun t vs S kk=>ob (cl t vs S) kk) S.next (below S.next) (l0.length+1) l0 g caps S some);have hb:=runK (F.b CRes (fun t vs S kk=>ob (cl t vs S) kk) S.next (below S.next) (l0.length+1) l0 g caps S some);obtain⟨r,hr,hS,hds,hw,hcase⟩:=q6t F hcalm hlen (lf:=l0.length+1) l0 [] (l0.length+1) (frB c' l0 g caps) rfl (Nat.lt_succ_self _) ⟨rfl,rfl,rfl,rfl⟩ hi;obtain⟨re,rfr,rS,rds,rrd,rwr⟩:=r;simp only at hS hds hw hcase;subst hS;subst hds;subst hw;rcases hcase with ⟨he,hs⟩|⟨he,hi2⟩
  ·subst he;refine q5s (vs:=[.lst c' l0,.fn g caps]) (nm:=nmI 2 [0,1,7,8] (below rS.next)) (lf:=l0.length+1) (fr:=rfr) (e:=.ret) (k:=.i64) (i:=i) (t:=4) (rd:=mb rS.next rrd) rfl hm htt hfi hcl hfr F.two ?_ rfl F.res F.nt4 hs p hrd hv;rw[F.body];simp only[qaj,ha,hb,F.lm,hr,mbO,mbR,mB_I,qls,CRes.or,jep]
  ·subst he;subst hi2;have hc:=runK (F.e CRes (fun t vs S kk=>ob (cl t vs S) kk) rS.next (below rS.next) (l0.length+1) rfr rS some);refine q5s (vs:=[.lst c' l0,.fn g caps]) (nm:=nmI 2 [0,1,7,8] (below rS.next)) (lf:=l0.length+1) (fr:=rfr.set (.int .i64 (-1)) 4) (e:=.ret) (k:=.i64) (i:=-1) (t:=4) (rd:=mb rS.next rrd) rfl hm htt hfi hcl hfr F.two ?_ rfl F.res F.nt4 (by rw[qd0,jam rfl]) p hrd hv;rw[F.body];simp only[qaj,ha,hb,F.lm,hr,mbO,mbR,mB_I,qls,CRes.or,jep,jc5,jab,hc,qr0,jfo]
 ·obtain⟨_,_,_,_,_,_,_,_,_,rfl⟩:=qqd h;exact FrO.same _ rfl
 ·obtain⟨_,_,_,_,_,_,_,_,_,rfl⟩:=qqd h;rfl
def cL:Code->Code
 | .seq a _=>a
 | c=>c
def cR:Code->Code
 | .seq _ b=>b
 | c=>c
def cB:Code->Code
 | .block _ c=>c
 | .loop c=>c
 | .scope c=>c
 | c=>c
end Go.Jx
end

section
namespace Go.Jx
open Go Go.Sx Go.RowKit
universe u

def smL:List (Nat × Sm)->Nat->Option Sm
 | [],_=>none
 | e::l,f=>cond (Nat.beq f e.1) (some e.2) (smL l f)
def SmOK(P:Program):List (Nat × Sm)->Prop
 | []=>True
 | e::l=>Con P e.1 e.2/\SmOK P l
theorem qra{P:Program}:∀{l:List (Nat × Sm)},SmOK P l->∀f s,smL l f=some s->Con P f s
 | [],_,f,s,h=>by cases h
 | e::l,hl,f,s,h=>by
  unfold smL at h;cases hb:Nat.beq f e.1 with
  | true=>rw[hb,jab] at h;cases h;rw[jaj hb];exact hl.1
  | false=>rw[hb,jah] at h;exact qra hl.2 f s h
def hxL:List (Nat × Hx)->Nat->Option Hx
 | [],_=>none
 | e::l,f=>cond (Nat.beq f e.1) (some e.2) (hxL l f)
def qbg(P:Program):List (Nat × Hx)->Prop
 | []=>True
 | e::l=>HxOK P e.1 e.2.f/\qbg P l
theorem qtt{P:Program}:∀{l:List (Nat × Hx)},qbg P l->∀f s,hxL l f=some s->HxOK P f s.f
 | [],_,f,s,h=>by cases h
 | e::l,hl,f,s,h=>by
  unfold hxL at h;cases hb:Nat.beq f e.1 with
  | true=>rw[hb,jab] at h;cases h;rw[jaj hb];exact hl.1
  | false=>rw[hb,jah] at h;exact qtt hl.2 f s h
def nm1(f:Nat)(nmf:Nat->Option Nm):Nat->Nat->Option Nm:=fun g=>cond (Nat.beq g f) nmf fun _=>none
theorem q8k(f:Nat)(nmf:Nat->Option Nm):nm1 f nmf f=nmf:=by unfold nm1;rw[jc5,jab]
theorem conT{P:Program}{tt:Nat->Option TI}{ft:Nat->Option FI}{sml:List (Nat × Sm)}{hxl:List (Nat × Hx)}{f:Nat}{s:Sm}{fi:FI}{nmf:Nat->Option Nm}{st hd:Nat->Bool}(n:Nat)(hm:P.follows .mixedOrders=true)(htt:TT P tt)(hft:FT P ft)(hsm:SmOK P sml)
  (hhx:qbg P hxl) (hC:qah P f) (h1:smL sml f=none) (h2:hxL hxl f=none) (h3:ft f=some fi) (h4:∀x,Nat.ble (argV s.pts x).length fi.nt=true) (hn:(regs fi.body).Nodup) (hl:okC nmf st hd fi.body none=true)
  (hrun:∀(x:ElA s.pts) (y:ElR s.rts),WfA s.pts x->s.f x=some y->∃lf,
   qb6 P tt nmf fi.nt (qa8 P tt ft (nm1 f nmf) (smL sml) (hxL hxl) lf n (ElR s.rts)) lf st (atN P tt nmf fi s (qa8 P tt ft (nm1 f nmf) (smL sml) (hxL hxl) lf n (ElR s.rts)) lf hd) fi.body [] (qaz (argV s.pts x) 0 .leaf) S0 [] (qa2 tt fi s)=some y) (hz:frzF nmf=false:=by rfl):Con P f s:=by
 refine conK (nm:=nm1 f nmf) (sm:=smL sml) (hx:=hxL hxl) hm htt hft (qra hsm) (qtt hhx) hC fun x y hx2 hy=>?_;obtain⟨lf,hr⟩:=hrun x y hx2 hy;refine⟨n+1,lf,?_⟩;rw[<- zjz (qbh n _) hn hl] at hr;have e:=q8k f nmf;unfold qa8;simp only[h1,h2,h3,h4,jab,e,hz,jah];exact hr
theorem conU{P:Program}{tt:Nat->Option TI}{ft:Nat->Option FI}{sml:List (Nat × Sm)}{hxl:List (Nat × Hx)}{f:Nat}{pts:List TC}{rts:List (Bool × TC)}{g:ElA pts->Option (ElR rts)}{fi:FI}(F:Nat->ElA pts->Option (ElR rts))(hm:P.follows .mixedOrders=true/\TT P tt/\FT P ft)
  (hC:qah P f) (hhx:qbg P hxl) (hsm:SmOK P sml) (hg:∀x y,WfA pts x->g x=some y->∃lf,F lf x=some y) (h1:smL sml f=none:=by rfl) (h2:hxL hxl f=none:=by rfl) (h3:ft f=some fi:=by kernel_rfl) (h4:∀x,Nat.ble (argV pts x).length fi.nt=true:=by intro x;kernel_rfl) (hn:(regs fi.body).Nodup:=by decide +kernel)
  (hl:okC (fun _=>none) (fun _=>false) (fun _=>false) fi.body none=true:=by kernel_rfl)
  (hrun:∀lf J x,qb6 P tt (fun _=>none) fi.nt (qa8 P tt ft (nm1 f fun _=>none) (smL sml) (hxL hxl) lf 20 (ElR rts)) lf (fun _=>false) J fi.body [] (qaz (argV pts x) 0 .leaf) S0 [] (qa2 tt fi ⟨pts,rts,g⟩)=F lf x:=by intro lf J x;kernel_rfl):Con P f ⟨pts,rts,g⟩ :=
 conT 20 hm.1 hm.2.1 hm.2.2 hsm hhx hC h1 h2 h3 h4 hn hl fun x y hx hy=>by
  obtain⟨lf,h⟩:=hg x y hx hy;exact⟨lf,(hrun lf _ x).trans h⟩
theorem conV{P:Program}{tt:Nat->Option TI}{ft:Nat->Option FI}{sml:List (Nat × Sm)}{hxl:List (Nat × Hx)}{f:Nat}{pts:List TC}{rts:List (Bool × TC)}{g:ElA pts->Option (ElR rts)}{fi:FI}{nmf:Nat->Option Nm}{st hd:Nat->Bool}(F:Nat->ElA pts->Option (ElR rts))(hm:P.follows .mixedOrders=true/\TT P tt/\FT P ft)
  (hC:qah P f) (hhx:qbg P hxl) (hn:(regs fi.body).Nodup) (hl:okC nmf st hd fi.body none=true)
  (hrun:∀lf x,qb6 P tt nmf fi.nt (qa8 P tt ft (nm1 f nmf) (smL sml) (hxL hxl) lf 20 (ElR rts)) lf st (atN P tt nmf fi ⟨pts,rts,g⟩ (qa8 P tt ft (nm1 f nmf) (smL sml) (hxL hxl) lf 20 (ElR rts)) lf hd) fi.body [] (qaz (argV pts x) 0 .leaf) S0 [] (qa2 tt fi ⟨pts,rts,g⟩)=F lf x)
  (hsm:SmOK P sml) (hg:∀x y,WfA pts x->g x=some y->∃lf,F lf x=some y) (h1:smL sml f=none:=by rfl) (h2:hxL hxl f=none:=by rfl) (h3:ft f=some fi:=by kernel_rfl) (h4:∀x,Nat.ble (argV pts x).length fi.nt=true:=by intro x;kernel_rfl) (hz:frzF nmf=false:=by rfl):Con P f ⟨pts,rts,g⟩ :=
 conT 20 hm.1 hm.2.1 hm.2.2 hsm hhx hC h1 h2 h3 h4 hn hl (fun x y hx hy=>by
  obtain⟨lf,h⟩:=hg x y hx hy;exact⟨lf,(hrun lf x).trans h⟩) hz
def S.lit(l:List Nat):ByteArray:=⟨⟨l.map UInt8.ofNat⟩⟩
end Go.Jx
end

section
namespace Go.Jx
open Go Go.Sx Go.RowKit
universe u

section
variable {P : Program} {tt : Nat -> Option TI} {nm : Nat -> Option Nm} {B nt lf : Nat} {round : Option Nat} {cl cl' : Cl}
end

def nmS(mr mw:Nat):Nat->Option Nm:=fun j=>cond (Nat.beq j 2) (some ⟨[1,2,10],[],[],[],[],mr,mw,true⟩) none
def frS(g:Nat)(caps:List IV)(b:Bool)(id:Nat):PT IV:=((PT.leaf.set (.fn g caps) 1).set (.bool b) 2).set (.ptr id 0) 10
structure SixFacts (P:Program) (tt:Nat->Option TI) (fi:FI) (A B L C:Code):Prop where
 body:fi.body=.seq A (.seq (.seq B (.block 0 (.loop L))) C)
 three:Nat.ble 3 fi.nt=true
 head:∀mr mw,okC (nmS mr mw) (fun k=>Nat.beq k 2) (fun k=>Nat.beq k 2) L (some 2)=true
 ab:∀(R:Type) (clK:ClK R) (B0 mr mw lf:Nat) (s:ByteArray) (g:Nat) (caps:List IV) (b:Bool) (S:IS) (kk:_->Option R),qax P tt (nmS mr mw) B0 fi.nt clK lf none (.seq A B) (qaz [.str s,.fn g caps,.bool b] 0 .leaf) S [] (fun r=>kk (tup [1,2,10] r)) =
  kk (.normal,[.fn g caps,.bool b,.ptr S.next 0],S.new (.iter s 0),[],(mb B0 0).lor (mb B0 0),(mb B0 0).lor (mb B0 0))
 l:∀(R:Type) (B0 mr mw lf:Nat) (g:Nat) (caps:List IV) (b a:Bool) (id rd:Nat) (S S':IS) (test:Tgt->List IV->IS->Bool) (kk:_->Option R),qax P tt (nmS mr mw) B0 fi.nt (fun t vs S kk=>cond (test t vs S) (kk ⟨.bool a,S',rd,0⟩) none) lf none L (frS g caps b id) S [] (fun r=>kk (tup [1,2,6,10] r)) =
  match S.heap.get id with
  | some (.iter s p)=>cond (Nat.blt p s.size)
   (cond (test (.fn g) (.int .i32 (Int.ofNat (Utf8.decode s p).1)::caps) (S.set id (.iter s (p+(Utf8.decode s p).2))))
    (cond (decide (a=b))
     (kk (.ret,[.fn g caps,.bool b,.int .i64 (Int.ofNat p),.ptr id 0],S',[],(mb B0 0).lor (Nat.lor 0 ((mb B0 0).lor ((mb B0 (Nat.lor 0 (Nat.lor 0 (rd.lor 0)))).lor ((mb B0 0).lor 0)))),
      (mb B0 (Nat.lor 0 ((Nat.pow 2 id).lor 0))).lor (Nat.lor 0 ((mb B0 0).lor ((mb B0 0).lor ((mb B0 0).lor 0))))))
     (kk (.normal,[.fn g caps,.bool b,.unk,.ptr id 0],S',[],(mb B0 0).lor (Nat.lor 0 ((mb B0 0).lor ((mb B0 (Nat.lor 0 (Nat.lor 0 (rd.lor 0)))).lor 0))),
      (mb B0 (Nat.lor 0 ((Nat.pow 2 id).lor 0))).lor (Nat.lor 0 ((mb B0 0).lor ((mb B0 0).lor 0))))))
    none)
   (kk (.exit 0,[.fn g caps,.bool b,.unk,.ptr id 0],S,[],(mb B0 ((Nat.pow 2 id).lor 0)).lor 0,(mb B0 0).lor 0))
  | _=>none
 e:∀(R:Type) (clK:ClK R) (B0 mr mw lf:Nat) (fr:PT IV) (S:IS) (kk:CRes->Option R),qax P tt (nmS mr mw) B0 fi.nt clK lf none C fr S [] kk=kk ⟨.ret,fr.set (.int .i64 (-1)) 6,S,[],(mb B0 0).lor 0,(mb B0 0).lor 0⟩
 res:fi.res=[.tmp 6]
 nt6:Nat.blt 6 fi.nt=true
 lm:∀mr mw,qdq (nmS mr mw) L=some (mr,mw)
variable {P : Program} {tt : Nat -> Option TI} {fi : FI} {A B L C : Code}
end Go.Jx
end

section
namespace Go.Jx
open Go Go.Sx Go.RowKit
universe u

theorem qdk{α:Type}{l:List α}{i:Nat}:jget l (Int.ofNat i)=l[i]?:=by unfold jget;rw[jam (by simp)];simp
theorem quf{α:Type}{l:List α}{i:Int}(h0:0<=i)(h1:i<l.length):∃x,jget l i=some x/\l[i.toNat]?=some x/\x∈l:=by
 have h2:i.toNat<l.length:=by omega
 refine⟨l[i.toNat],?_,jac h2,jbh h2⟩;unfold jget;rw[jam h0,jac h2]
theorem qiz:∀c:TC,1<=bsz c
 | .int k=>by cases k<;>simp [bsz]
 | .bool=>by simp[bsz]
 | .str=>by simp[bsz]
 | .list _=>by simp[bsz]
 | .two a b=>by have:=qiz a;simp only[bsz];omega
def LF:Nat:=9223372036854775808
theorem qdw{c:TC}{l:El (.list c)}(h:WfE (.list c) l):List.length (α:=El c) l<LF:=by
 have h1:=h.1;have h2:=qiz c;have:List.length (α:=El c) l*1<=List.length (α:=El c) l*bsz c:=jc2 _ h2;unfold LF;omega
theorem qob{n:Nat}(h:n+1<LF):IntKind.i64.wrap (Int.add (Int.ofNat n) (Int.ofNat 1))=Int.ofNat (n+1):=by
 unfold LF at h;rw[show Int.add (Int.ofNat n) (Int.ofNat 1)=Int.ofNat (n+1) from rfl];exact qez (by simp;omega)
structure Rnd {α:Type} (l:List α) (i:Nat) (v:α) (rest:List α):Prop where
 drop:l.drop i=v::rest
 mem:v∈l
 lt:i<l.length
 ilt:iltI (Int.ofNat i) (Int.ofNat l.length)=true
 get:jget l (Int.ofNat i)=some v
 get?:l[i]?=some v
 next:IntKind.i64.wrap (Int.add (Int.ofNat i) (Int.ofNat 1))=Int.ofNat (i+1)
 tail:l.drop (i+1)=rest
 take:l.take (i+1)=l.take i++[v]
theorem qdn(n:Nat):iltI (Int.ofNat n) (Int.ofNat n)=false:=by rw[qa5];simp
theorem zbv{α:Type}{l:List α}{i:Nat}(h:i<l.length)(hl:l.length<LF):∃v rest,Rnd l i v rest:=by
 refine⟨l[i],l.drop (i+1),jdd h,jbh h,h,by rw[qa5];simp;omega,?_,jac h,qob (by omega),rfl,?_⟩
 ·rw[qdk];exact jac h
 ·rw[jdr h]
theorem qwg{α σ A R:Type}{T:(A->Option R)->A->Option R}(l:List α)(mk:Int->σ->A)(I:Nat->σ->Prop)(g:List α->Nat->σ->Option R)(hl:l.length<LF)
  (hnil:∀K s,I l.length s->T K (mk (Int.ofNat l.length) s)=g [] l.length s)
  (hcons:∀K i v rest s,I i s->Rnd l i v rest->(∀s',I (i+1) s'->K (mk (Int.ofNat (i+1)) s')=g rest (i+1) s')->T K (mk (Int.ofNat i) s)=g (v::rest) i s) :
  ∀n i s,i<=l.length->I i s->l.length-i<n->qa9 T n (mk (Int.ofNat i) s)=g (l.drop i) i s
 | 0,i,s,_,_,h=>by omega
 | n+1,i,s,hi,hI,h=>by
  show T (qa9 T n) (mk (Int.ofNat i) s)=_;by_cases e:i=l.length
  ·subst e;rw[hnil _ _ hI,List.drop_length]
  ·obtain⟨v,rest,r⟩:=zbv (l:=l) (i:=i) (by omega) hl;rw[hcons (qa9 T n) i v rest s hI r fun s' hI'=>?_,r.drop];rw[qwg l mk I g hl hnil hcons n (i+1) s' (by have:=r.lt;omega) hI' (by omega),r.tail]
theorem range0{α σ A R:Type}{T:(A->Option R)->A->Option R}(l:List α)(mk:Int->σ->A)(I:Nat->σ->Prop)(g:List α->Nat->σ->Option R)(hl:l.length<LF)
  (hnil:∀K s,I l.length s->T K (mk (Int.ofNat l.length) s)=g [] l.length s)
  (hcons:∀K i v rest s,I i s->Rnd l i v rest->(∀s',I (i+1) s'->K (mk (Int.ofNat (i+1)) s')=g rest (i+1) s')->T K (mk (Int.ofNat i) s)=g (v::rest) i s)
  (s:σ) (hI:I 0 s):qa9 T LF (mk (Int.ofNat 0) s)=g l 0 s:=by
 have:=qwg l mk I g hl hnil hcons LF 0 s (jb3 _) hI (by omega)
 rwa [jeg] at this
theorem q3t{α R:Type}{T:(Int->Option R)->Int->Option R}(l:List α)(g:List α->Nat->Option R)(hl:l.length<LF)
  (hnil:∀K,T K (Int.ofNat l.length)=g [] l.length)
  (hcons:∀K i v rest,Rnd l i v rest->K (Int.ofNat (i+1))=g rest (i+1)->T K (Int.ofNat i)=g (v::rest) i):qa9 T LF (Int.ofNat 0)=g l 0 :=
 range0 (σ:=Unit) l (fun i _=>i) (fun _ _=>True) (fun rest i _=>g rest i) hl (fun K _ _=>hnil K) (fun K i v rest _ _ r h=>hcons K i v rest r (h () trivial)) () trivial
namespace S
def idx{α:Type}(p:α->Bool)(l:List α):Int:=match l.findIdx? p with
 | some j=>Int.ofNat j
 | none=>-1
theorem idx_nonneg{α:Type}(p:α->Bool)(l:List α):0<=idx p l↔l.any p=true:=by
 unfold idx;cases h:l.findIdx? p with
 | none =>
  simp only;rw[List.findIdx?_eq_none_iff] at h;constructor
  ·intro h;omega
  ·intro h2;rw[jd1] at h2;obtain⟨x,hx,hp⟩:=h2;rw[h x hx] at hp;cases hp
 | some j =>
  simp only;obtain⟨h1,h2,h3⟩:=List.findIdx?_eq_some_iff_getElem.1 h;constructor
  ·intro _;rw[jd1];exact⟨_,jbh h1,h2⟩
  ·intro _;exact jbz _
end S
theorem qps{α:Type}{p:α->Option Bool}(q:α->Bool){l:List α}(h:∀x∈l,p x=some (q x)):idxO p l 0=some (S.idx q l):=by
 rw[q4g h];unfold S.idx;cases l.findIdx? q<;>simp
end Go.Jx
end

section
namespace Go.Jx
open Go Go.Sx Go.RowKit
theorem qcb(a b:Nat):iltI (Int.ofNat a) (Int.ofNat b)=decide (a<b):=by
 rw[qa5];simp
theorem q27(a b:Nat):ieqI (Int.ofNat a) (Int.ofNat b)=decide (a=b):=by
 rw[qdr];by_cases h:a=b
 ·rw[jao h,h];exact jao rfl
 ·rw[jar h];exact jar fun e=>h (jdw e)
theorem qei{x y:Int}(h:x<y):iltI x y=true:=by rw[qa5];exact jao h
theorem qfj{x y:Int}(h:¬x<y):iltI x y=false:=by rw[qa5];exact jar h
theorem qbm{x y:Int}(h:x=y):ieqI x y=true:=by rw[qdr];exact jao h
theorem qbn{x y:Int}(h:¬x=y):ieqI x y=false:=by rw[qdr];exact jar h
theorem qcv(s:ByteArray):(qab s).length=s.size:=by
 unfold qab;rw[jb2];exact jdm
theorem zmb{s:ByteArray}{i:Nat}(h:i<s.size):(qab s)[i]?=some ((s[i]'h).toNat:Int):=by
 unfold qab;rw[jcl,jac (by simpa using h)];rfl
theorem q7k{s:ByteArray}{b:Int}(h:b∈qab s):0<=b/\b<256:=by
 unfold qab at h;obtain⟨x,_,rfl⟩:=jb7.1 h;have:=x.toNat_lt;constructor<;>omega
theorem qhg(s:ByteArray):qae (qab s)=s:=by
 obtain⟨⟨l⟩⟩:=s;unfold qae qab;congr 2;simp only[jfb]
 conv=>rhs;rw[<- List.map_id l]
 refine jdl fun x _=>?_;simp
theorem qbz{l:List Int}(h:∀b∈l,0<=b/\b<256):qab (qae l)=l:=by
 unfold qae qab;simp only[jfb]
 conv=>rhs;rw[<- List.map_id l]
 refine jdl fun x hx=>?_;obtain⟨h1,h2⟩:=h x hx;simp only[Function.comp,UInt8.toNat_ofNat',id];omega
theorem qfn{s t:ByteArray}(h:qab s=qab t):s=t:=by rw[<- qhg s,<- qhg t,h]
theorem qrl(s:ByteArray)(a b:Nat):qab (s.extract a b)=(qab s).extract a b:=by
 unfold qab;rw[ByteArray.data_extract,Array.toList_extract];simp[jcz,List.map_take,List.map_drop]
theorem q4p(s:ByteArray)(a b:Nat)(h:s.size<=b):qab (s.extract a b)=(qab s).drop a:=by
 rw[qrl,jcz];refine jbv ?_;rw[ja6,qcv];omega
theorem qyq(s:ByteArray)(b:Nat):qab (s.extract 0 b)=(qab s).take b:=by
 rw[qrl,jcz];rfl
theorem zav(s t:ByteArray):qab (s++t)=qab s++qab t:=by
 unfold qab;rw[ByteArray.data_append,jeo,List.map_append]
theorem q9q(a b:ByteArray):keqS a b=decide (qab a=qab b):=by
 unfold keqS;by_cases h:a=b
 ·rw[jao h,jao (jaw qab h)]
 ·rw[jar h,jar fun e=>h (qfn e)]
end Go.Jx
end

noncomputable section
set_option maxRecDepth 100000
namespace Go.Proofs.Ytnhmanoiolfapaa
open Go Go.Sx Go.RowKit Go.Jx
abbrev DPut:Type:=Int × ByteArray
abbrev qak:Type:=List ByteArray × List DPut
abbrev qaa:Type:=Int × ByteArray × Bool
abbrev DAct:Type:=Bool × DPut
abbrev qac:Type:=qak × Int × Int × List qaa
abbrev q7q:Type:=List DAct
abbrev zif:Type:=Int × Int
abbrev qe0:Type:=List qaa × Int × Bool
abbrev qan:Type:=Int × Int × Int × Bool
namespace S
def lit(l:List UInt8):ByteArray:=⟨l.toArray⟩
def none_:ByteArray:=S.lit []
def blank:ByteArray:=qae (List.replicate 64 0)
def inI(n lo hi:Int):Bool:=decide (lo<=n)&&decide (n<=hi)
def newDisk(n:Int):qak × Int:=if inI n 8 1000=true/\n % 2=0 then ((List.replicate n.toNat blank,[]),0) else (([],[]),1)
def short(s:ByteArray):Bool:=!decide (s.size=64)
def badPut(n:Int)(p:DPut):Bool:=short p.2||!inI p.1 0 (n-1)
def checkDisk(d:qak):Int :=
 if 1000<d.1.length\/4000<d.2.length then 3
 else if d.1.length<8\/¬d.1.length % 2=0\/d.2.any (badPut d.1.length)=true\/d.1.any short=true then 1 else 0
def settled(l:List ByteArray)(q:List DPut):List ByteArray:=q.foldl (fun l p=>l.set p.1.toNat p.2) l
def doGo:List DAct->List ByteArray->List DPut->qak × Int
 | [],l,q=>((l,q),0)
 | a::r,l,q=>cond a.1 (if a.2.1=0/\a.2.2.size=0 then doGo r (settled l q) [] else (([],[]),1))
  (cond (badPut l.length a.2) (([],[]),1) (if q.length=4000 then (([],[]),3) else doGo r l (q++[a.2])))
def doD(d:qak)(l:List DAct):qak × Int:=if checkDisk d=0 then doGo l d.1 d.2 else (([],[]),checkDisk d)
def tear(s p:ByteArray)(n:Nat):ByteArray:=qae ((qab p).take n++(qab s).drop n)
def crashGo:List DPut->List Int->List ByteArray->List ByteArray
 | p::q,n::r,l=>crashGo q r (l.set p.1.toNat (tear (l.getD p.1.toNat none_) p.2 n.toNat))
 | _,_,l=>l
def crash(d:qak)(kept:List Int):qak × Int :=
 if checkDisk d=0 then (if d.2.length<kept.length\/kept.any (fun n=>!inI n 0 64)=true then (([],[]),1) else ((crashGo d.2 kept d.1,[]),0)) else (([],[]),checkDisk d)
def two(n:Nat):List Int:=[((n / 256 % 256:Nat):Int),((n % 256:Nat):Int)]
def cellB(c:qaa):List Int:=(c.1 % 256)::cond c.2.2 (two 0) (two (c.2.1.size+1)++qab c.2.1)
def body(l:List qaa):List Int:=l.flatMap cellB
def recB(l:List qaa)(mark:Int):List Int:=mark::(((body l).length / 65536 % 256:Nat):Int)::(two (body l).length++body l)
def chunks:Nat->List Int->List ByteArray
 | 0,_=>[]
 | f+1,b=>cond b.isEmpty [] (qae (b.take 64++List.replicate (64-b.length) 0)::chunks f (b.drop 64))
def packed(l:List qaa)(mark:Int):List ByteArray:=chunks (recB l mark).length (recB l mark)
def put(at_:Int)(s:ByteArray):DAct:=(false,at_,s)
def puts:Int->List ByteArray->List DAct
 | _,[]=>[]
 | at_,s::l=>put at_ s::puts (at_+1) l
def sync:DAct:=(true,0,none_)
def format(d:qak):List DAct × Int :=
 if checkDisk d=0 then (if d.2.length=0 then ([put 1 blank,put 2 blank,sync]++puts 1 (packed [] 1)++[sync,put 0 blank,sync],0) else ([],12)) else ([],checkDisk d)
def half(n:Nat)(h:Int):Int × Int:=if h=0 then (1,((n / 2:Nat):Int)) else (((n / 2:Nat):Int),(n:Int)-1)
def changes:Nat->List Int->Int->Option (List qaa)
 | 0,_,_=>none
 | f+1,[],_=>some []
 | f+1,k::r,last=>match r with
  | a::b::r=>if 199<k\/k<=last\/(r.length:Int)+1<a*256+b\/4001<a*256+b then none
   else if a*256+b=0 then (match changes f r k with
    | some l=>some ((k,none_,true)::l)
    | none=>none)
   else (match changes f (r.drop (a*256+b-1).toNat) k with
    | some l=>some ((k,qae (r.take (a*256+b-1).toNat),false)::l)
    | none=>none)
  | _=>none
def recN(s:List Int):Nat:=(s.getD 1 0*65536+s.getD 2 0*256+s.getD 3 0).toNat
def recM(s:List Int):Nat:=(recN s+4+63) / 64
def readR(l:List ByteArray):Option (List qaa × Nat) :=
 if ¬(qab (l.getD 0 none_)).getD 0 0=1\/l.length<recM (qab (l.getD 0 none_)) then none
 else match changes (recN (qab (l.getD 0 none_))+1) ((((l.take (recM (qab (l.getD 0 none_)))).flatMap qab).drop 4).take (recN (qab (l.getD 0 none_)))) (-1) with
  | some c=>cond ((((l.take (recM (qab (l.getD 0 none_)))).flatMap qab).drop (4+recN (qab (l.getD 0 none_)))).all fun b=>decide (b=0)) (some (c,recM (qab (l.getD 0 none_)))) none
  | none=>none
def ins1(c:qaa):List qaa->List qaa
 | []=>cond c.2.2 [] [c]
 | a::r=>if a.1<c.1 then a::ins1 c r else if a.1=c.1 then cond c.2.2 r (c::r) else cond c.2.2 (a::r) (c::a::r)
def changed(m l:List qaa):List qaa:=l.foldl (fun m c=>ins1 c m) m
def recs:Nat->List ByteArray->List qaa->Nat->Option (List qaa × Nat)
 | 0,_,_,_=>none
 | f+1,l,c,u=>match l with
  | []=>some (c,u)
  | s::r=>if (qab s).getD 0 0=0 then some (c,u) else match readR (s::r) with
   | none=>none
   | some x=>cond (decide (u=0)&&x.1.any (·.2.2)) none (recs f (l.drop x.2) (changed c x.1) (u+x.2))
def halfS(l:List ByteArray)(h:Int):List ByteArray:=(l.take (half l.length h).2.toNat).drop (half l.length h).1.toNat
def opened(l:List ByteArray):Option (Int × Nat × List qaa) :=
 if 1<(qab (l.getD 0 none_)).getD 0 0\/¬(qab (l.getD 0 none_)).drop 1=List.replicate 63 0 then none
 else match recs (l.length+1) (halfS l ((qab (l.getD 0 none_)).getD 0 0)) [] 0 with
  | some (c,u)=>if u=0 then none else some ((qab (l.getD 0 none_)).getD 0 0,u,c)
  | none=>none
def noJ:qac:=(([],[]),0,0,[])
def open_(d:qak):qac × Int :=
 if checkDisk d=0 then (if d.2.length=0 then (match opened d.1 with
  | some (h,u,c)=>(((d.1,[]),h,(u:Int),c),0)
  | none=>(noJ,15)) else (noJ,12)) else (noJ,checkDisk d)
def right(j:qac):Bool:=decide ((open_ j.1).2=0)&&decide ((open_ j.1).1=j)
def value(j:qac)(k:Int):ByteArray × Bool × Int :=
 if right j=true/\inI k 0 199=true then (match j.2.2.2.find? (fun c=>decide (c.1=k)) with
  | some c=>(c.2.1,true,0)
  | none=>(none_,false,0)) else (none_,false,1)
def roomOf(j:qac):Int:=(half j.1.1.length j.2.1).2-(half j.1.1.length j.2.1).1-j.2.2.1
def room(j:qac):Int × Int:=if right j=true then (roomOf j,0) else (0,1)
def okGo:List qaa->Int->Bool
 | [],_=>true
 | c::l,last=>inI c.1 0 199&&(decide (c.2.1.size<=4000)&&(!(c.2.2&&!decide (c.2.1.size=0))&&(decide (last<c.1)&&okGo l c.1)))
def okC(l:List qaa):Bool:=okGo l (-1)
def size(l:List qaa):Int × Int :=
 if 60<l.length then (0,3) else if l.length=0 then (0,1) else cond (okC l) (((packed l 1).length:Int),0) (0,1)
def commit(j:qac)(l:List qaa):Option (List DAct) :=
 if roomOf j<(packed l 1).length then none
 else some (puts ((half j.1.1.length j.2.1).1+j.2.2.1) (packed l 0)++(cond (decide ((half j.1.1.length j.2.1).1+j.2.2.1+(packed l 1).length<(half j.1.1.length j.2.1).2)) [put ((half j.1.1.length j.2.1).1+j.2.2.1+(packed l 1).length) blank] []) ++
  [sync,put ((half j.1.1.length j.2.1).1+j.2.2.1) ((packed l 1).getD 0 none_),sync])
def plan(j:qac)(l:List qaa):List DAct × Int :=
 if right j=true then (if (size l).2=0 then (match commit j l with
  | some a=>(a,0)
  | none=>([],14)) else ([],(size l).2)) else ([],1)
def behind(j:qac)(l:List DAct):qac × Int:=open_ (doD j.1 l).1
def commitJ(j:qac)(l:List qaa):qac × Int:=if (plan j l).2=0 then behind j (plan j l).1 else (noJ,(plan j l).2)
def turn(j:qac):Option (List DAct) :=
 if (half j.1.1.length (1-j.2.1)).2-(half j.1.1.length (1-j.2.1)).1<(packed j.2.2.2 1).length then none
 else some (puts (half j.1.1.length (1-j.2.1)).1 (List.replicate ((half j.1.1.length (1-j.2.1)).2-(half j.1.1.length (1-j.2.1)).1).toNat blank)++[sync]++puts (half j.1.1.length (1-j.2.1)).1 (packed j.2.2.2 0) ++
  [sync,put (half j.1.1.length (1-j.2.1)).1 ((packed j.2.2.2 1).getD 0 none_),sync,put 0 (qae ((1-j.2.1)::List.replicate 63 0)),sync])
def planTurn(j:qac):List DAct × Int:=if right j=true then (match turn j with
  | some a=>(a,0)
  | none=>([],14)) else ([],1)
def turnJ(j:qac):qac × Int:=if (planTurn j).2=0 then behind j (planTurn j).1 else (noJ,(planTurn j).2)
def save(j:qac)(l:List qaa):qac × Int :=
 if right j=true then (if (size l).2=0 then (match commit j l with
  | some a=>behind j a
  | none=>if (turnJ j).2=0 then (match commit (turnJ j).1 l with
   | some a=>behind (turnJ j).1 a
   | none=>(noJ,14)) else (noJ,14)) else (noJ,(size l).2)) else (noJ,1)
end S
end Go.Proofs.Ytnhmanoiolfapaa
end

section
namespace Go.Jx
open Go Go.Sx Go.RowKit
universe u

structure ObjTo (E:Env) (S:IS) (E':Env) (id k:Nat) (o:IObj):Prop where
 rel:OR E' k o
 live:o.live=true->∃o0,S.H id=some o0/\o0.live=true
 blk:o.blk=true->E'.hb k=true
theorem qyw{B:Nat}{q:List Nat}(hnd:q.Nodup)(hqB:∀id∈q,B<=id):∀i j,i<B+q.length->j<B+q.length->ol B q i=ol B q j->i=j:=fun i j hi hj h=>by
 have hol:∀id,B<=id->id<B+q.length->B<=ol B q id:=fun id h1 h2=>by
  have h3:id-B<q.length:=by omega
  unfold ol;rw[jan (by omega),jai,jac h3];exact hqB _ (jbh h3)
 rcases jbw i B with h1|h1
 ·have e1:ol B q i=i:=jam h1;rcases jbw j B with h2|h2
  ·rwa [e1,show ol B q j=j from jam h2] at h
  ·have:=hol j h2 hj;omega
 ·rcases jbw j B with h2|h2
  ·have e2:ol B q j=j:=jam h2;have:=hol i h1 hi;omega
  ·have h3:i-B<q.length:=by omega
   have h4:j-B<q.length:=by omega
   have e1:ol B q i=q[i-B]:=by unfold ol;rw[jan (by omega),jai,jac h3];rfl
   have e2:ol B q j=q[j-B]:=by unfold ol;rw[jan (by omega),jai,jac h4];rfl
   rw[e1,e2] at h;have:=(List.getElem_inj hnd).1 h;omega
theorem qbw{q:List Nat}{k:Nat}(h:k<q.length):ol 0 q k∈q/\q[k]?=some (ol 0 q k):=by
 have e:ol 0 q k=q[k]:=by unfold ol;rw[jan (by omega),jda,jai,jac h];rfl
 rw[e];exact⟨jbh h,jac h⟩
theorem qqu{q:List Nat}{id:Nat}(h:id∈q):∃k,k<q.length/\ol 0 q k=id:=by
 obtain⟨k,hk,rfl⟩:=jco.1 h;refine⟨k,hk,?_⟩;unfold ol;rw[jan (by omega),jda,jai,jac hk];rfl
theorem Pre.re{T:TW}{E:Env}{S S':IS}{q:List Nat}(p:Pre T E S)(hn:q.Nodup)(hT:∀id∈q,T.r id)(hN:S'.next=q.length)
  (ho:∀k o,k<q.length->E.A (ol 0 q k)->S'.H k=some o->ObjTo E S (renE 0 q E) (ol 0 q k) k o):Pre T0 (renE 0 q E) S':=by
 have hl:∀k,(renE 0 q E).A k->k<q.length:=fun k h=>by have:=h.1;omega
 have hTr:∀k,k<q.length->T.r (ol 0 q k):=fun k h=>hT _ (qbw h).1;have hlv:∀k,(renE 0 q E).A k->Live (renE 0 q E) S'.H k->Live E S.H (ol 0 q k):=fun k ha ⟨h0,o,h1,h2⟩=>⟨h0,(ho k o (hl k ha) ha.2 h1).live h2⟩
 refine⟨⟨fun k _ ha o h=>(ho k o (hl k ha) ha.2 h).rel,fun k _ ha o h hb=>(ho k o (hl k ha) ha.2 h).blk hb,fun k _ ha h=>p.st.own _ (hTr k (hl k ha)) ha.2 (hlv k ha h),
  fun i j _ _ c d e f h=>qyw hn (fun _ _=>jb3 _) i j (by have:=hl i c;omega) (by have:=hl j d;omega) (p.st.inj _ _ (hTr i (hl i c)) (hTr j (hl j d)) c.2 d.2 (hlv i c e) (hlv j d f) h),p.st.lo⟩,fun k ha=>by rw[hN];exact hl k ha,fun _ _=>trivial,p.gl⟩
theorem PostB.re{T:TW}{E:Env}{S S':IS}{B:Nat}{q:List Nat}(p:Pre T E S)(hT:∀id,B<=id->T.w id)(hn:q.Nodup)(hqB:∀id∈q,B<=id)(hN:S'.next=B+q.length)
  (ho:∀k o,k<B+q.length->E.A (ol B q k)->S'.H k=some o->ObjTo E S (renE B q E) (ol B q k) k o):PostB B T E S (renE B q E) S':=by
 have hol:∀id,B<=id->id<B+q.length->B<=ol B q id:=fun id h1 h2=>by
  have h3:id-B<q.length:=by omega
  unfold ol;rw[jan (by omega),jai,jac h3];exact hqB _ (jbh h3)
 have hTr:∀id,id<B+q.length->T.r id->T.r (ol B q id):=fun id h1 h2=>by
  rcases jbw id B with h3|h3
  ·rw[show ol B q id=id from jam h3];exact h2
  ·exact T.sub _ (hT _ (hol id h3 h1))
 have hlv:∀k,(renE B q E).A k->Live (renE B q E) S'.H k->Live E S.H (ol B q k):=fun k ha ⟨h0,o,h1,h2⟩=>⟨h0,(ho k o ha.1 ha.2 h1).live h2⟩
 refine⟨⟨fun k ht ha o h=>(ho k o ha.1 ha.2 h).rel,fun k ht ha o h hb=>(ho k o ha.1 ha.2 h).blk hb,fun k ht ha h=>p.st.own _ (hTr k ha.1 ht) ha.2 (hlv k ha h),
  fun i j a b c d e f h=>qyw hn hqB i j c.1 d.1 (p.st.inj _ _ (hTr i c.1 a) (hTr j d.1 b) c.2 d.2 (hlv i c e) (hlv j d f) h),p.st.lo⟩,
  rfl,rfl,rfl,jaq _,fun _ _ _=>rfl,fun id hb hA=>?_,fun id hb ha hl=>.inr ⟨ol B q id,hT _ (hol id hb ha.1),ha.2,hlv id ha hl,rfl⟩,fun id hb ht ha hl=>?_,fun b h=>.inl h,fun b h _=>.inl h,fun id ha=>by rw[hN];exact ha.1,by rw[hN];exact jdz _ _,fun id hb ha=>?_⟩
 ·have e:ol B q id=id:=jam hb;exact⟨⟨by omega,by rw[e];exact hA⟩,by simp only[renE,e],by simp only[renE,e],by simp only[renE,e],by simp only[renE,e]⟩
 ·have e:ol B q id=id:=jam hb;have:=hlv id ⟨by omega,by rw[e];exact ha⟩ hl
  rwa [e] at this
 ·have e:ol B q id=id:=jam hb;have:=ha.2
  rwa [e] at this
def mrgR(E Er:Env)(n m:Nat):Env :=
 ⟨fun id=>if id<n then E.ρ id else Er.ρ (id-n+m),fun id=>if id<n then E.κ id else Er.κ (id-n+m),fun id=>if id<n then E.hd id else Er.hd (id-n+m),fun id=>if id<n then E.hb id else Er.hb (id-n+m),
  fun id=>(id<n/\E.A id)\/(n<=id/\Er.A (id-n+m)),Er.m,Er.w⟩
section
variable {E Er : Env} {n m : Nat}
theorem qdg{id:Nat}(h:id<n):(mrgR E Er n m).ρ id=E.ρ id/\(mrgR E Er n m).κ id=E.κ id/\(mrgR E Er n m).hd id=E.hd id/\(mrgR E Er n m).hb id=E.hb id:=by
 refine⟨?_,?_,?_,?_⟩<;>simp only[mrgR,jam h]
theorem qh0{k:Nat}(h:m<=k):(mrgR E Er n m).ρ (n+(k-m))=Er.ρ k/\(mrgR E Er n m).κ (n+(k-m))=Er.κ k/\(mrgR E Er n m).hd (n+(k-m))=Er.hd k/\(mrgR E Er n m).hb (n+(k-m))=Er.hb k/\(Er.A k->(mrgR E Er n m).A (n+(k-m))):=by
 have h1:¬n+(k-m)<n:=by omega
 have h2:n+(k-m)-n+m=k:=by omega
 refine⟨?_,?_,?_,?_,fun hA=>.inr ⟨by omega,by rw[h2];exact hA⟩⟩<;>simp only[mrgR,jan h1,h2]
theorem q1y{T:TW}{S Sx Sr S':IS}{q:List Nat}(p:Pre T E S)(hnd:q.Nodup)(hT:∀id∈q,T.w id)(hA:∀id∈q,E.A id)(hm:m<=q.length)(hn:n=S.next)
   (hsx:∀k,k<q.length->Live (renE 0 q E) Sx.H k->Live E S.H (ol 0 q k)) (h:PostB m T0 (renE 0 q E) Sx Er Sr)
   (hN:S'.next=n+(Sr.next-m))
   (h1:∀id,id<n->id ∉ q->S'.H id=S.H id)
   (h2:∀k o,k<m->S'.H (ol 0 q k)=some o->ObjTo Er Sr (mrgR E Er n m) k (ol 0 q k) o)
   (h3:∀k o,m<=k->k<q.length->S'.H (ol 0 q k)=some o->o=.dead)
   (h4:∀k o,m<=k->Er.A k->S'.H (n+(k-m))=some o->ObjTo Er Sr (mrgR E Er n m) k (n+(k-m)) o) :
   Post T E S (mrgR E Er n m) S'/\Fresh E S (mrgR E Er n m):=by
 have hlt:∀id,E.A id->id<n:=fun id h=>by rw[hn];exact p.bnd id h
 have hqA:∀k,k<q.length->(renE 0 q E).A k:=fun k hk=>⟨by omega,hA _ (qbw hk).1⟩
 -- a live object of the caller's beside these is at no block of theirs
 have hapart:∀id,id ∉ q->T.r id->E.A id->Live E S.H id->∀k,(renE 0 q E).A k->Live (renE 0 q E) Sx.H k->(renE 0 q E).ρ k≠E.ρ id:=fun id hid ht ha hl k hk hkl e=>by
   have hk1:k<q.length:=by have:=hk.1;omega
   have h5:=(qbw hk1).1;have:=p.st.inj _ _ (T.sub _ (hT _ h5)) ht hk.2 ha (hsx k hk1 hkl) hl e;exact hid (this▸h5)
 have hsame:∀b,b<E.w.heap.size->(∀k,(renE 0 q E).A k->Live (renE 0 q E) Sx.H k->(renE 0 q E).ρ k≠b)->Er.w.heap[b]?=E.w.heap[b]?:=fun b hb hk=>h.same b hb fun k _=>hk k;have hown:∀k,(renE 0 q E).A k->Live (renE 0 q E) Sx.H k->(renE 0 q E).ρ k∈E.m:=fun k hk hkl=>by
   have hk1:k<q.length:=by have:=hk.1;omega
   exact p.st.own _ (T.sub _ (hT _ (qbw hk1).1)) hk.2 (hsx k hk1 hkl)
 have hle:E.Le (mrgR E Er n m):=⟨fun id ha=>by
   obtain⟨m1,m2,m3,m4⟩:=qdg (E:=E) (Er:=Er) (m:=m) (hlt id ha);exact⟨.inl ⟨hlt id ha,ha⟩,m1,m2,m3,m4⟩,⟨fun b hb hbm=>⟨fun h'=>by
     rcases h.memo b h' with h5|h5
     · exact hbm h5
     · have:(renE 0 q E).w.heap.size=E.w.heap.size:=rfl;omega,hsame b hb fun k hk hkl e=>hbm (e▸hown k hk hkl)⟩⟩⟩
 -- rows
 have hrow:∀k,k<m->(renE 0 q E).A k/\Er.A k/\Er.ρ k=E.ρ (ol 0 q k)/\Er.hb k=E.hb (ol 0 q k)/\ol 0 q k<n:=fun k hk=>by
   have ha:=hqA k (by omega);obtain⟨a1,a2,a3,a4,a5⟩:=h.alw k hk ha;exact⟨ha,a1,a2,a5,hlt _ ha.2⟩
 -- where a live object of the new state comes from
 have hcase:∀id,(mrgR E Er n m).A id->Live (mrgR E Er n m) S'.H id ->
     (id<n/\id ∉ q/\E.A id/\Live E S.H id)\/∃k,Er.A k/\Live Er Sr.H k/\(mrgR E Er n m).ρ id=Er.ρ k/\((k<m/\id=ol 0 q k)\/(m<=k/\id=n+(k-m))):=fun id ha ⟨g1,o,g2,g3⟩=>by
   rcases ha with ⟨hi,ha⟩|⟨hi,ha⟩
   · by_cases hq:id∈q
     · obtain⟨k,hk,rfl⟩:=qqu hq;by_cases hkm:k<m
       · obtain⟨r1,r2,r3,r4,r5⟩:=hrow k hkm;refine .inr ⟨k,r2,⟨?_,(h2 k o hkm g2).live g3⟩,(qdg hi).1.trans r3.symm,.inl ⟨hkm,rfl⟩⟩;rw[r4,<- (qdg (E:=E) (Er:=Er) (m:=m) hi).2.2.2];exact g1
       · have:=h3 k o (by omega) hk g2;subst this;cases g3
     · rw[h1 id hi hq] at g2;exact .inl ⟨hi,hq,ha,by rw[<- (qdg (E:=E) (Er:=Er) (m:=m) hi).2.2.2];exact g1,o,g2,g3⟩
   · obtain⟨k,hk,rfl⟩:∃k,m<=k/\id=n+(k-m):=⟨id-n+m,by omega,by omega⟩;have e:n+(k-m)-n+m=k:=by omega
     rw[e] at ha;obtain⟨m1,m2,m3,m4,m5⟩:=qh0 (E:=E) (Er:=Er) (n:=n) hk;exact .inr ⟨k,ha,⟨by rw[<- m4];exact g1,(h4 k o hk ha g2).live g3⟩,m1,.inr ⟨hk,rfl⟩⟩
 have hin:∀id,id<n->id ∉ q->T.r id->E.A id->Live E S.H id->(mrgR E Er n m).ρ id∈Er.m/\∀k,Er.A k->Live Er Sr.H k->Er.ρ k≠E.ρ id:=fun id hi hq ht ha hl=>by
   have hmem:=p.st.own id ht ha hl;refine⟨?_,fun k hk hkl e=>?_⟩
   · rw[(qdg hi).1];rcases h.mem _ hmem (p.st.lo _ hmem) with g|⟨k,_,g1,g2,g3⟩
     · exact g
     · exact absurd g3 (hapart id hq ht ha hl k g1 g2)
   · by_cases hkm:k<m
     · exact hapart id hq ht ha hl k (hrow k hkm).1 (h.old k hkm trivial (hrow k hkm).1 hkl) (by rw[<- e];exact(hrow k hkm).2.2.1.symm)
     · rcases h.new k (by omega) hk hkl with g|⟨j,_,g1,g2,g3⟩
       · have:=p.st.lo _ hmem;have e2:(renE 0 q E).w.heap.size=E.w.heap.size:=rfl;omega
       · exact hapart id hq ht ha hl j g1 g2 (by rw[<- g3];exact e)
 refine⟨⟨⟨?_,?_,?_,?_,h.st.lo⟩,⟨h.os,h.tape,h.output,h.size,fun b hb hk=>?_,hle.alw,?_,?_,fun b hb=>h.memo b hb,fun b hb hl=>?_⟩,?_,?_⟩,⟨?_⟩⟩
 · intro id ht ha o ho;rcases ha with ⟨hi,ha⟩|⟨hi,ha⟩
   · by_cases hq:id∈q
     · obtain⟨k,hk,rfl⟩:=qqu hq;by_cases hkm:k<m
       · exact(h2 k o hkm ho).rel
       · have:=h3 k o (by omega) hk ho;subst this;trivial
     · rw[h1 id hi hq] at ho;exact(p.st.objs id ht ha o ho).mono hle ha (p.st.blk id ht ha o ho) fun hl hb=>hsame _ ((p.st.objs id ht ha o ho).lt hl hb) (hapart id hq ht ha ⟨hb,o,ho,hl⟩)
   · obtain⟨k,hk,rfl⟩:∃k,m<=k/\id=n+(k-m):=⟨id-n+m,by omega,by omega⟩;have e:n+(k-m)-n+m=k:=by omega
     rw[e] at ha;exact(h4 k o hk ha ho).rel
 · intro id ht ha o ho hb;rcases ha with ⟨hi,ha⟩|⟨hi,ha⟩
   · by_cases hq:id∈q
     · obtain⟨k,hk,rfl⟩:=qqu hq;by_cases hkm:k<m
       · exact(h2 k o hkm ho).blk hb
       · have:=h3 k o (by omega) hk ho;subst this;cases hb
     · rw[h1 id hi hq] at ho;rw[(qdg hi).2.2.2];exact p.st.blk id ht ha o ho hb
   · obtain⟨k,hk,rfl⟩:∃k,m<=k/\id=n+(k-m):=⟨id-n+m,by omega,by omega⟩;have e:n+(k-m)-n+m=k:=by omega
     rw[e] at ha;exact(h4 k o hk ha ho).blk hb
 · intro id ht ha hl;rcases hcase id ha hl with ⟨g1,g2,g3,g4⟩|⟨k,g1,g2,g3,_⟩
   · exact(hin id g1 g2 ht g3 g4).1
   · rw[g3];exact h.st.own k trivial g1 g2
 · intro i j ti tj hi hj li lj he;rcases hcase i hi li with ⟨a1,a2,a3,a4⟩|⟨k,a1,a2,a3,a4⟩<;>rcases hcase j hj lj with ⟨b1,b2,b3,b4⟩|⟨k',b1,b2,b3,b4⟩
   · rw[(qdg a1).1,(qdg b1).1] at he;exact p.st.inj i j ti tj a3 b3 a4 b4 he
   · rw[(qdg a1).1,b3] at he;exact absurd he.symm ((hin i a1 a2 ti a3 a4).2 k' b1 b2)
   · rw[(qdg b1).1,a3] at he;exact absurd he ((hin j b1 b2 tj b3 b4).2 k a1 a2)
   · rw[a3,b3] at he;have:=h.st.inj k k' trivial trivial a1 b1 a2 b2 he;subst this;rcases a4 with ⟨a4,rfl⟩|⟨a4,rfl⟩<;>rcases b4 with ⟨b4,rfl⟩|⟨b4,rfl⟩<;>first|rfl|omega
 · refine hsame b hb fun k hk1 hkl e=>?_;have hk2:k<q.length:=by have:=hk1.1;omega
   exact hk _ (hT _ (qbw hk2).1) hk1.2 (hsx k hk2 hkl) e
 · intro id ha hna hl;rcases hcase id ha hl with ⟨g1,g2,g3,g4⟩|⟨k,g1,g2,g3,g4⟩
   · exact absurd g3 hna
   · rcases g4 with ⟨g4,rfl⟩|⟨g4,rfl⟩
     · exact absurd (hrow k g4).1.2 hna
     · rw[g3];rcases h.new k g4 g1 g2 with g|⟨j,_,j1,j2,j3⟩
       · exact .inl g
       · have hj:j<q.length:=by have:=j1.1;omega
         exact .inr ⟨_,hT _ (qbw hj).1,j1.2,hsx j hj j2,j3⟩
 · intro id ht ha hl;rcases hcase id (.inl ⟨hlt id ha,ha⟩) hl with ⟨g1,g2,g3,g4⟩|⟨k,g1,g2,g3,g4⟩
   · exact g4
   · rcases g4 with ⟨g4,rfl⟩|⟨g4,rfl⟩
     · exact hsx k (by omega) (h.old k g4 trivial (hrow k g4).1 g2)
     · have:=hlt _ ha;omega
 · rcases h.mem b hb hl with g|⟨k,_,g1,g2,g3⟩
   · exact .inl g
   · have hk:k<q.length:=by have:=g1.1;omega
     exact .inr ⟨_,hT _ (qbw hk).1,g1.2,hsx k hk g2,g3⟩
 · intro id ha;rw[hN];rcases ha with ⟨hi,_⟩|⟨hi,ha⟩
   · omega
   · have:=h.bnd _ ha;omega
 · rw[hN];omega
 · intro id ha hna;rcases ha with ⟨_,ha⟩|⟨hi,_⟩
   · exact absurd ha hna
   · omega
end
end Go.Jx
end

section
namespace Go.Jx
open Go Go.Sx Go.RowKit
universe u

inductive CT:Type
 | dat (c:TC)
 | arr (c:TC)
 | map (k v:TC)
 | fn (f:Nat)
def ElC:CT->Type
 | .dat c=>El c
 | .arr c=>List (El c)
 | .map k v=>List (El k × El v)
 | .fn _=>Unit
def qb9:List CT->Type
 | []=>Unit
 | c::cs=>ElC c × qb9 cs
inductive RK:Type
 | box (r:List CT)
 | sl (c:TC)
 | mp (k v:TC)
def ElK:RK->Type
 | .box r=>qb9 r
 | .sl c=>Option (List (El c))
 | .mp k v=>Option (List (El k × El v))
inductive PK:Type
 | dat (c:TC)
 | ref (r:RK)
 | fn (f:Nat)
def ElP:List PK->Type
 | []=>Unit
 | .dat c::l=>El c × ElP l
 | .fn _::l=>ElP l
 | .ref r::l=>ElK r × ElP l
def refs:List PK->List PK
 | []=>[]
 | .dat _::l=>refs l
 | .fn _::l=>refs l
 | .ref r::l=>.ref r::refs l
def nC:CT->Nat
 | .dat _=>0
 | .fn _=>0
 | _=>1
def nR:List CT->Nat
 | []=>0
 | c::cs=>nC c+nR cs
def nK:RK->Nat
 | .box r=>nR r
 | .sl _=>0
 | .mp _ _=>0
def nP:List PK->Nat
 | []=>0
 | .dat _::l=>nP l
 | .fn _::l=>nP l
 | .ref r::l=>nK r+nP l
def mP:List PK->Nat
 | []=>0
 | .dat _::l=>mP l
 | .fn _::l=>mP l
 | .ref _::l=>mP l+1
def qc4:(c:CT)->(Nat->Nat)->Nat->ElC c->List IV
 | .dat c,_,_,x=>cel c x
 | .arr _,ι,n,_=>[.arr (ι n)]
 | .map _ _,ι,n,_=>[.map (ι n)]
 | .fn f,_,_,_=>[.fn f []]
def qbu:(r:List CT)->(Nat->Nat)->Nat->qb9 r->List IV
 | [],_,_,_=>[]
 | c::cs,ι,n,x=>qc4 c ι n x.1++qbu cs ι (n+nC c) x.2
def subC:(c:CT)->ElC c->List IObj
 | .dat _,_=>[]
 | .arr c,l=>[.arr c l]
 | .map k v,es=>[.tmap k v es]
 | .fn _,_=>[]
def subR:(r:List CT)->qb9 r->List IObj
 | [],_=>[]
 | c::cs,x=>subC c x.1++subR cs x.2
def objK:(k:RK)->(Nat->Nat)->Nat->ElK k->IObj
 | .box r,ι,n,x=>.row (qbu r ι n x)
 | .sl c,_,_,x=>match x with
  | some l=>.arr c l
  | none=>.dead
 | .mp k v,_,_,x=>match x with
  | some l=>.tmap k v l
  | none=>.dead
def subK:(k:RK)->ElK k->List IObj
 | .box r,x=>subR r x
 | .sl _,_=>[]
 | .mp _ _,_=>[]
def argK:RK->Nat->IV
 | .box _,id=>.ptr id 0
 | .sl _,id=>.arr id
 | .mp _ _,id=>.map id
def qar:(l:List PK)->(Nat->Nat)->Nat->ElP l->List IObj
 | [],_,_,_=>[]
 | .dat _::l,ι,n,x=>qar l ι n x.2
 | .fn _::l,ι,n,x=>qar l ι n x
 | .ref r::l,ι,n,x=>objK r ι n x.1::qar l ι (n+nK r) x.2
def qbv:(l:List PK)->ElP l->List IObj
 | [],_=>[]
 | .dat _::l,x=>qbv l x.2
 | .fn _::l,x=>qbv l x
 | .ref r::l,x=>subK r x.1++qbv l x.2
def qaq:(l:List PK)->(Nat->Nat)->Nat->ElP l->List IV
 | [],_,_,_=>[]
 | .dat c::l,ρ,k,x=>asIV c x.1::qaq l ρ k x.2
 | .fn f::l,ρ,k,x=>.fn f []::qaq l ρ k x
 | .ref r::l,ρ,k,x=>argK r (ρ k)::qaq l ρ (k+1) x.2
def idN(k:Nat):Nat:=k
def Sc(l:List PK)(x:ElP l):IS:=addO (qar l idN (mP l) x++qbv l x) S0
theorem qkr:∀(c:CT) (x:ElC c),(subC c x).length=nC c
 | .dat _,_=>rfl
 | .arr _,_=>rfl
 | .map _ _,_=>rfl
 | .fn _,_=>rfl
theorem qnj:∀(r:List CT) (x:qb9 r),(subR r x).length=nR r
 | [],_=>rfl
 | c::cs,x=>by simp only[subR,nR,jag,qkr,qnj cs]
theorem qqn:∀(k:RK) (x:ElK k),(subK k x).length=nK k
 | .box r,x=>qnj r x
 | .sl _,_=>rfl
 | .mp _ _,_=>rfl
theorem qie:∀(l:List PK) (x:ElP l),(qbv l x).length=nP l
 | [],_=>rfl
 | .dat _::l,x=>qie l x.2
 | .fn _::l,x=>qie l x
 | .ref r::l,x=>by simp only[qbv,nP,jag,qqn,qie l]
theorem qa0:∀(l:List PK) (ι:Nat->Nat) (n:Nat) (x:ElP l),(qar l ι n x).length=mP l
 | [],_,_,_=>rfl
 | .dat _::l,ι,n,x=>qa0 l ι n x.2
 | .fn _::l,ι,n,x=>qa0 l ι n x
 | .ref r::l,ι,n,x=>by simp only[qar,mP,jat,qa0 l]
theorem qff:∀(l:List PK) (ι:Nat->Nat) (n:Nat) (x:ElP l) (j:Nat) (o:IObj),(qar l ι n x)[j]?=some o ->
  ∃r nj xj,o=objK r ι nj xj/\n<=nj/\nj+nK r<=n+nP l/\∀ι',(qar l ι' n x)[j]?=some (objK r ι' nj xj)
 | [],ι,n,x,j,o,h=>by simp[qar] at h
 | .dat _::l,ι,n,x,j,o,h=>qff l ι n x.2 j o h
 | .fn _::l,ι,n,x,j,o,h=>qff l ι n x j o h
 | .ref r::l,ι,n,x,j,o,h=>by
  cases j with
  | zero =>
   simp only[qar,jap,jbd] at h;exact⟨r,n,x.1,h.symm,jaq _,by simp only[nP];omega,fun ι'=>rfl⟩
  | succ j =>
   simp only[qar,jau] at h;obtain⟨r',nj,xj,h1,h2,h3,h4⟩:=qff l ι _ x.2 j o h;exact⟨r',nj,xj,h1,by omega,by simp only[nP];omega,fun ι'=>by simpa only [qar,jau] using h4 ι'⟩
theorem qhp(l:List PK)(x:ElP l):(Sc l x).next=mP l+nP l:=by
 unfold Sc;rw[qcm,jag,qa0,qie];show 0+_=_;omega
theorem qgg(l:List IObj)(k:Nat):(addO l S0).H k=l[k]?:=by
 rw[qb8];have e:S0.next=0:=rfl
 rw[e,jan (by omega),jbk,jda];by_cases h:k<l.length
 ·rw[jam h]
 ·rw[jan h,jbt (by omega)];rfl

section
variable {E E' : Env}
def qcf(E E':Env)(i j:Nat):Prop:=E.A i->E'.A j/\E'.ρ j=E.ρ i/\E'.κ j=E.κ i/\E'.hd j=E.hd i/\E'.hb j=E.hb i
theorem zml(hm:∀b,b∈E'.m->b∈E.m)(hw:E'.w=E.w){ι ι':Nat->Nat}:∀(c:CT) {n:Nat} {x:ElC c} {us:List Value},(∀j,n<=j->j<n+nC c->qcf E E' (ι j) (ι' j)) ->
  VRs E (qc4 c ι n x) us->VRs E' (qc4 c ι' n x) us
 | .dat c,n,x,us,hn,h=>⟨h.1,fun i a b=>(VR.noid hm hw (h.2 i a b)).2.2 _ _ (jbh a)⟩
 | .arr c,n,x,us,hn,h=>by
  obtain⟨u,us,rfl,a1,a2⟩:=VRs.inv (v:=.arr (ι n)) (cs:=[]) h;have e:us=[]:=by have:=a2.1;simpa using this.symm
  subst e;cases a1 with
  | arr hA hh =>
   obtain⟨b1,b2,b3,b4,b5⟩:=hn n (jaq _) (by simp[nC]) hA;exact VRs.cons (.arr b1 (b4.trans hh)) VRs.nil
 | .map k v,n,x,us,hn,h=>by
  obtain⟨u,us,rfl,a1,a2⟩:=VRs.inv (v:=.map (ι n)) (cs:=[]) h;have e:us=[]:=by have:=a2.1;simpa using this.symm
  subst e;cases a1 with
  | map hA =>
   obtain⟨b1,b2,b3,b4,b5⟩:=hn n (jaq _) (by simp[nC]) hA;rw[<- b2];exact VRs.cons (.map b1) VRs.nil
 | .fn f,n,x,us,hn,h=>by
  obtain⟨u,us,rfl,a1,a2⟩:=VRs.inv (v:=.fn f []) (cs:=[]) h;have e:us=[]:=by have:=a2.1;simpa using this.symm
  subst e;cases a1 with
  | fn hl hh =>
   rename_i us1;have e:us1=[]:=by simpa using hl.symm
   subst e;exact VRs.cons (.fn rfl (fun i h=>by simp at h)) VRs.nil
theorem VRs.split{E:Env}{cs ds:List IV}{us:List Value}(h:VRs E (cs++ds) us):∃us1 us2,us=us1++us2/\VRs E cs us1/\VRs E ds us2:=by
 have h1:=h.take cs.length;have h2:=h.drop cs.length;rw[jfh] at h1;rw[jfi] at h2;exact⟨_,_,(jc4 _ _).symm,h1,h2⟩
theorem q25(hm:∀b,b∈E'.m->b∈E.m)(hw:E'.w=E.w){ι ι':Nat->Nat}:∀(r:List CT) {n:Nat} {x:qb9 r} {us:List Value},(∀j,n<=j->j<n+nR r->qcf E E' (ι j) (ι' j)) ->
  VRs E (qbu r ι n x) us->VRs E' (qbu r ι' n x) us
 | [],n,x,us,hn,h=>by have:=h.1;cases us with|nil=>exact VRs.nil|cons _ _=>simp [qbu] at this
 | c::cs,n,x,us,hn,h=>by
  obtain⟨us1,us2,rfl,h1,h2⟩:=VRs.split (cs:=qc4 c ι n x.1) (ds:=qbu cs ι (n+nC c) x.2) h;exact VRs.append (zml hm hw c (fun j a b=>hn j a (by simp only[nR];omega)) h1) (q25 hm hw cs (fun j a b=>hn j (by omega) (by simp only[nR];omega)) h2)
theorem q8a(c:CT)(ι ι':Nat->Nat)(n:Nat)(x:ElC c):(qc4 c ι n x).length=(qc4 c ι' n x).length:=by cases c<;>rfl
theorem qs8:∀(r:List CT) (ι ι':Nat->Nat) (n:Nat) (x:qb9 r),(qbu r ι n x).length=(qbu r ι' n x).length
 | [],_,_,_,_=>rfl
 | c::cs,ι,ι',n,x=>by simp only[qbu,jag,q8a c ι ι',qs8 cs ι ι']
theorem OR.row_to(hm:∀b,b∈E'.m->b∈E.m)(hw:E'.w=E.w){ι ι':Nat->Nat}{r:List CT}{n i j:Nat}{x:qb9 r}(hA:E.A i)(hi:qcf E E' i j)(hn:∀j,n<=j->j<n+nR r->qcf E E' (ι j) (ι' j))
  (h:OR E i (.row (qbu r ι n x))):OR E' j (.row (qbu r ι' n x)):=by
 obtain⟨cells,t,h1,h2,h3,h4⟩:=h;obtain⟨b1,b2,b3,b4,b5⟩:=hi hA;refine⟨cells,t,by rw[hw,b2];exact h1,by rw[b3];exact h2,by rw[qs8 r ι' ι];exact h3,?_⟩;rw[qs8 r ι' ι];exact q25 hm hw r hn h4
def datO:IObj->Bool
 | .arr _ _=>true
 | .tmap _ _ _=>true
 | _=>false
theorem OR.dat_to(hm:∀b,b∈E'.m->b∈E.m)(hw:E'.w=E.w){i j:Nat}{o:IObj}(hA:E.A i)(hi:qcf E E' i j)(ho:datO o=true)(h:OR E i o):OR E' j o:=by
 obtain⟨b1,b2,b3,b4,b5⟩:=hi hA;have hno:∀{v:IV} {u:Value},VR E v u->_:=fun h=>VR.noid (E:=E) (E':=E') hm hw h;cases o<;>try (cases ho;done)
 ·obtain⟨a,cap,h1,h2,h3,h4,h5⟩:=h;exact⟨a,cap,by rw[b4];exact h1,h2,h3,h4,h5.imp (fun⟨x,y⟩=>⟨by rw[b5];exact x,y⟩) fun⟨c1,c2,cells,t,c3,c4,us,c5,c6⟩=>⟨by rw[b5];exact c1,by rw[b2];exact c2,cells,t,by rw[hw,b2];exact c3,c4,us,c5,fun i hi j hj=>(hno (c6 i hi j hj)).2.2 _ _ (jbh hj)⟩⟩
 ·obtain⟨ents,c,h1,h2,h3,h4⟩:=h;refine⟨ents,c,by rw[hw,b2];exact h1,⟨h2.1,fun i a b=>?_⟩,⟨h3.1,fun i a b=>?_⟩,h4⟩
  ·have:=h2.2 i a b;simp only[tmEs,jca] at this ⊢;exact qe9 hm hw this
  ·have:=h3.2 i a b;simp only[tmEs,jca] at this ⊢;exact qe9 hm hw this
theorem OR.objK_to(hm:∀b,b∈E'.m->b∈E.m)(hw:E'.w=E.w){ι ι':Nat->Nat}:∀{r:RK} {n i j:Nat} {x:ElK r} (hA:E.A i) (hi:qcf E E' i j) (hn:∀j,n<=j->j<n+nK r->qcf E E' (ι j) (ι' j))
  (h:OR E i (objK r ι n x)),OR E' j (objK r ι' n x)
 | .box r,n,i,j,x,hA,hi,hn,h=>OR.row_to hm hw hA hi hn h
 | .sl c,n,i,j,some l,hA,hi,hn,h=>OR.dat_to hm hw hA hi (o:=.arr c l) rfl h
 | .sl c,n,i,j,none,hA,hi,hn,h=>trivial
 | .mp k v,n,i,j,some l,hA,hi,hn,h=>OR.dat_to hm hw hA hi (o:=.tmap k v l) rfl h
 | .mp k v,n,i,j,none,hA,hi,hn,h=>trivial
theorem qn4:∀{r:RK} {ι ι':Nat->Nat} {n:Nat} {x:ElK r},(objK r ι n x).live=(objK r ι' n x).live
 | .box r,ι,ι',n,x=>rfl
 | .sl c,ι,ι',n,some l=>rfl
 | .sl c,ι,ι',n,none=>rfl
 | .mp k v,ι,ι',n,some l=>rfl
 | .mp k v,ι,ι',n,none=>rfl
theorem qit:∀{r:RK} {ι ι':Nat->Nat} {n:Nat} {x:ElK r},(objK r ι n x).blk=(objK r ι' n x).blk
 | .box r,ι,ι',n,x=>rfl
 | .sl c,ι,ι',n,some l=>rfl
 | .sl c,ι,ι',n,none=>rfl
 | .mp k v,ι,ι',n,some l=>rfl
 | .mp k v,ι,ι',n,none=>rfl
theorem qx9{r:RK}{id:Nat}{u:Value}(h:VR E (argK r id) u):E.A id:=by
 cases r with
 | box r=>cases h;assumption
 | sl c=>cases h;assumption
 | mp k v=>cases h;assumption
theorem q5g{r:RK}{i j:Nat}{u:Value}(hi:qcf E E' i j)(h:VR E (argK r i) u):VR E' (argK r j) u:=by
 cases r with
 | box r =>
  cases h with
  | ptr hA =>
   obtain⟨b1,b2,b3,b4,b5⟩:=hi hA;show VR E' (.ptr j 0) _;rw[<- b2];exact .ptr b1
 | sl c =>
  cases h with
  | arr hA hh =>
   obtain⟨b1,b2,b3,b4,b5⟩:=hi hA;exact .arr b1 (b4.trans hh)
 | mp k v =>
  cases h with
  | map hA =>
   obtain⟨b1,b2,b3,b4,b5⟩:=hi hA;show VR E' (.map j) _;rw[<- b2];exact .map b1
theorem argsP_env(hm:∀b,b∈E'.m->b∈E.m)(hw:E'.w=E.w){ρ ρ':Nat->Nat}:∀(l:List PK) {k:Nat} {x:ElP l} {us:List Value},(∀j,k<=j->j<k+mP l->qcf E E' (ρ j) (ρ' j)) ->
  VRs E (qaq l ρ k x) us->VRs E' (qaq l ρ' k x) us
 | [],k,x,us,hn,h=>by have:=h.1;cases us with|nil=>exact VRs.nil|cons _ _=>simp [qaq] at this
 | .dat c::l,k,x,us,hn,h=>by
  obtain⟨u,us,rfl,a1,a2⟩:=VRs.inv (v:=asIV c x.1) (cs:=qaq l ρ k x.2) h;exact VRs.cons (qe9 hm hw a1) (argsP_env hm hw l hn a2)
 | .fn f::l,k,x,us,hn,h=>by
  obtain⟨u,us,rfl,a1,a2⟩:=VRs.inv (v:=.fn f []) (cs:=qaq l ρ k x) h;refine VRs.cons ?_ (argsP_env hm hw l hn a2);cases a1 with
  | fn hl hh =>
   rename_i us0;have:us0=[]:=jay.1 hl.symm;subst this;exact .fn (cs:=[]) rfl (fun i h=>by simp at h)
 | .ref r::l,k,x,us,hn,h=>by
  obtain⟨u,us,rfl,a1,a2⟩:=VRs.inv (v:=argK r (ρ k)) (cs:=qaq l ρ (k+1) x.2) h;exact VRs.cons (q5g (hn k (jaq _) (by simp only[mP];omega)) a1) (argsP_env hm hw l (fun j a b=>hn j (by omega) (by simp only[mP];omega)) a2)
theorem qpw{ρ:Nat->Nat}:∀(l:List PK) {k:Nat} {x:ElP l} {us:List Value} (z:ElP (refs l)),VRs E (qaq l ρ k x) us->∃us',VRs E (qaq (refs l) ρ k z) us'
 | [],k,x,us,z,h=>⟨[],VRs.nil⟩
 | .dat c::l,k,x,us,z,h=>by
  obtain⟨u,us,rfl,a1,a2⟩:=VRs.inv (v:=asIV c x.1) (cs:=qaq l ρ k x.2) h;exact qpw l z a2
 | .fn f::l,k,x,us,z,h=>by
  obtain⟨u,us,rfl,a1,a2⟩:=VRs.inv (v:=.fn f []) (cs:=qaq l ρ k x) h;exact qpw l z a2
 | .ref r::l,k,x,us,z,h=>by
  obtain⟨u,us,rfl,a1,a2⟩:=VRs.inv (v:=argK r (ρ k)) (cs:=qaq l ρ (k+1) x.2) h;obtain⟨us',h'⟩:=qpw l z.2 a2;exact⟨u::us',VRs.cons a1 h'⟩
end

def rdC:(c:CT)->IS->List IV->Option (ElC c × List Nat × List IV × IS × Nat)
 | .dat c,S,cs=>match icl c S cs with
  | some (x,r,S1,w)=>some (x,[],r,S1,w)
  | none=>none
 | .arr c,S,cs=>match cs with
  | v::r=>match coeV S c v with
   | some (.arr id,S1,w)=>some ([],[id],r,S1,w)
   | _=>none
  | []=>none
 | .map k v,S,cs=>match cs with
  | .map id::r=>match qfa S k v (.map id) with
   | some (S1,w)=>some ([],[id],r,S1,w)
   | none=>none
  | _=>none
 | .fn f,S,cs=>match cs with
  | .fn g []::r=>cond (Nat.beq g f) (some ((),[],r,S,0)) none
  | _=>none
def rdR:(r:List CT)->IS->List IV->Option (qb9 r × List Nat × List IV × IS × Nat)
 | [],S,cs=>some ((),[],cs,S,0)
 | c::l,S,cs=>match rdC c S cs with
  | none=>none
  | some (x,i1,r1,S1,w1)=>match rdR l S1 r1 with
   | none=>none
   | some (y,i2,r2,S2,w2)=>some ((x,y),i1++i2,r2,S2,w1 ||| w2)
def rdS(c:TC)(S:IS)(v:IV):Option (Nat × IS × Nat) :=
 match v with
 | .arr id=>some (id,S,2 ^ id)
 | _=>match coeV S c v with
  | some (.arr id,S1,w)=>some (id,S1,w)
  | _=>none
def rdM(k v:TC)(S:IS)(x:IV):Option (Nat × IS × Nat) :=
 match x with
 | .map id=>match qfa S k v (.map id) with
  | some (S1,w)=>some (id,S1,w)
  | none=>none
 | _=>none
def rdP:(l:List PK)->IS->List IV->Option (ElP l × List Nat × List Nat × IS × Nat)
 | [],S,vs=>match vs with
  | []=>some ((),[],[],S,0)
  | _=>none
 | .dat c::l,S,vs=>match vs with
  | v::vs=>cond (fitV c v) (match icl c S (cellsOf v) with
   | some (x,[],S1,w1)=>match rdP l S1 vs with
    | some (y,q1,q2,S2,w2)=>some ((x,y),q1,q2,S2,w1 ||| w2)
    | none=>none
   | _=>none) none
  | []=>none
 | .fn f::l,S,vs=>match vs with
  | .fn g []::vs=>cond (Nat.beq g f) (rdP l S vs) none
  | _=>none
 | .ref (.sl c)::l,S,vs=>match vs with
  | v::vs=>match rdS c S v with
   | some (id,S1,w1)=>match rdP l S1 vs with
    | some (y,q1,q2,S2,w2)=>some ((none,y),id::q1,q2,S2,w1 ||| w2)
    | none=>none
   | none=>none
  | []=>none
 | .ref (.mp kc vc)::l,S,vs=>match vs with
  | v::vs=>match rdM kc vc S v with
   | some (id,S1,w1)=>match rdP l S1 vs with
    | some (y,q1,q2,S2,w2)=>some ((none,y),id::q1,q2,S2,w1 ||| w2)
    | none=>none
   | none=>none
  | []=>none
 | .ref (.box r)::l,S,vs=>match vs with
  | .ptr id 0::vs=>match S.heap.get id with
   | some (.row cs)=>match rdR r S cs with
    | some (x,i1,[],S1,w1)=>match rdP l S1 vs with
     | some (y,q1,q2,S2,w2)=>some ((x,y),id::q1,i1++q2,S2,2 ^ id ||| (w1 ||| w2))
     | none=>none
    | _=>none
   | _=>none
  | _=>none
section
variable {T : TW} {E : Env} {S : IS}
def Nums(ι:Nat->Nat)(n:Nat)(q:List Nat):Prop:=∀(j id:Nat),q[j]?=some id->ι (n+j)=id
theorem Nums.fst{ι:Nat->Nat}{n:Nat}{a b:List Nat}(h:Nums ι n (a++b)):Nums ι n a:=fun j id hj=>h j id (by rw[jas (ja9.1 hj).1];exact hj)
theorem Nums.snd{ι:Nat->Nat}{n:Nat}{a b:List Nat}(h:Nums ι n (a++b)):Nums ι (n+a.length) b:=fun j id hj=>by
 have:=h (a.length+j) id (by rw[jax (by omega),ja1];exact hj)
 rwa [<- jct] at this
theorem q9w:∀(c:CT) {E:Env} {S:IS} {cs:List IV} {x:ElC c} {ids:List Nat} {r:List IV} {S':IS} {w:Nat} {us:List Value},rdC c S cs=some (x,ids,r,S',w)->Pre T E S->tin T.w w->VRs E cs us ->
  ∃E',E'.w=E.w/\Post T E S E' S'/\Fresh E S E'/\ids.length=nC c/\(∀id∈ids,E'.A id)/\∃us1 us2,us=us1++us2/\(∀ι n,Nums ι n ids->VRs E' (qc4 c ι n x) us1)/\VRs E' r us2
 | .dat c,E,S,cs,x,ids,r,S',w,us,h,p,hw,hv=>by
  simp only[rdC] at h;split at h<;>cases h;rename_i h1;obtain⟨E1,e1,q1,f1,us1,us2,e2,v1,v2⟩:=qex c h1 p hw hv;exact⟨E1,e1,q1,f1,rfl,fun id h=>(by cases h),us1,us2,e2,fun ι n _=>v1,v2⟩
 | .arr c,E,S,cs,x,ids,r,S',w,us,h,p,hw,hv=>by
  simp only[rdC] at h;cases cs with
  | nil=>cases h
  | cons v cs =>
  simp only at h;split at h<;>cases h;rename_i id h1;obtain⟨u,us,rfl,a1,a2⟩:=hv.inv;obtain⟨E1,e1,q1,f1,v1⟩:=qkm p h1 hw a1;have hA:E1.A id:=by cases v1;assumption
  refine⟨E1,e1,q1,f1,rfl,fun id' h=>by rw[jcb.1 h];exact hA,[u],us,rfl,fun ι n hn=>?_,a2.mono (q1.env p)⟩;have:=hn 0 id rfl;simp only[qc4];rw[jb5] at this;rw[this];exact VRs.cons v1 VRs.nil
 | .map kc vc,E,S,cs,x,ids,r,S',w,us,h,p,hw,hv=>by
  cases cs with
  | nil=>cases h
  | cons v cs =>
  cases v<;>try (cases h;done)
  rename_i id;simp only[rdC] at h;split at h<;>cases h;rename_i h1;obtain⟨u,us,rfl,a1,a2⟩:=hv.inv;obtain⟨E1,e1,q1,f1⟩:=qn3 p h1 hw a1;have v1:=a1.mono (q1.env p);have hA:E1.A id:=by cases v1;assumption
  refine⟨E1,e1,q1,f1,rfl,fun id' h=>by rw[jcb.1 h];exact hA,[u],us,rfl,fun ι n hn=>?_,a2.mono (q1.env p)⟩;have:=hn 0 id rfl;simp only[qc4];rw[jb5] at this;rw[this];exact VRs.cons v1 VRs.nil
 | .fn f,E,S,cs,x,ids,r,S',w,us,h,p,hw,hv=>by
  simp only[rdC] at h;split at h<;>try cases h
  rename_i g cs;cases hb:Nat.beq g f with
  | false=>rw[hb] at h;cases h
  | true =>
  rw[hb] at h;cases h;obtain rfl:=jaj hb;obtain⟨u,us,rfl,a1,a2⟩:=hv.inv;exact⟨E,rfl,Post.refl p,Fresh.refl E S,rfl,fun id h=>(by cases h),[u],us,rfl,fun ι n _=>VRs.cons a1 VRs.nil,a2⟩
theorem q08:∀(c:List CT) {E:Env} {S:IS} {cs:List IV} {x:qb9 c} {ids:List Nat} {r:List IV} {S':IS} {w:Nat} {us:List Value},rdR c S cs=some (x,ids,r,S',w)->Pre T E S->tin T.w w->VRs E cs us ->
  ∃E',E'.w=E.w/\Post T E S E' S'/\Fresh E S E'/\ids.length=nR c/\(∀id∈ids,E'.A id)/\∃us1 us2,us=us1++us2/\(∀ι n,Nums ι n ids->VRs E' (qbu c ι n x) us1)/\VRs E' r us2
 | [],E,S,cs,x,ids,r,S',w,us,h,p,hw,hv=>by
  cases h;exact⟨E,rfl,Post.refl p,Fresh.refl E S,rfl,fun id h=>(by cases h),[],us,rfl,fun _ _ _=>VRs.nil,hv⟩
 | c::l,E,S,cs,x,ids,r,S',w,us,h,p,hw,hv=>by
  simp only[rdR] at h;split at h
  ·cases h
  rename_i x1 i1 r1 S1 w1 h1;split at h<;>cases h;rename_i y i2 w2 h2;obtain⟨g1,g2⟩:=qao hw;obtain⟨E1,e1,q1,f1,l1,A1,us1,us2,rfl,v1,v2⟩:=q9w c h1 p g1 hv;obtain⟨E2,e2,q2,f2,l2,A2,us3,us4,rfl,v3,v4⟩:=q08 l h2 (q1.pre p) g2 v2;have hle:=q2.env (q1.pre p);refine⟨E2,e2.trans e1,Post.trans p q1 f1 q2,f1.trans f2 q1.le,by simp[l1,l2,nR],fun id h=>?_,us1++us3,us4,(ja2 _ _ _).symm,fun ι n hn=>?_,v4⟩
  ·rcases jbq.1 h with h|h
   ·exact(hle.alw _ (A1 id h)).1
   ·exact A2 id h
  ·refine VRs.append ((v1 ι n hn.fst).mono hle) (v3 ι _ ?_);rw[<- l1];exact hn.snd
def qoh(E:Env)(rows:List Nat)(os:List IObj):Prop:=∀(j:Nat) (o:IObj),os[j]?=some o->∃id,rows[j]?=some id/\E.A id/\(o.blk=true->E.hb id=true)/\OR E id o
theorem zdr{c:TC}{v:IV}{id:Nat}{S':IS}{w:Nat}{u:Value}(h:rdS c S v=some (id,S',w))(p:Pre T E S)(hw:tin T.w w)(hv:VR E v u) :
  ∃E',E'.w=E.w/\Post T E S E' S'/\Fresh E S E'/\E'.A id/\VR E' (.arr id) u:=by
 unfold rdS at h;split at h
 ·cases h;have hA:E.A id:=by cases hv;assumption
  exact⟨E,rfl,Post.refl p,Fresh.refl E S,hA,hv⟩
 ·split at h<;>cases h;rename_i h1;obtain⟨E1,e1,q1,f1,v1⟩:=qkm p h1 hw hv;have hA:E1.A id:=by cases v1;assumption
  exact⟨E1,e1,q1,f1,hA,v1⟩
theorem zcf{kc vc:TC}{v:IV}{id:Nat}{S':IS}{w:Nat}{u:Value}(h:rdM kc vc S v=some (id,S',w))(p:Pre T E S)(hw:tin T.w w)(hv:VR E v u) :
  ∃E',E'.w=E.w/\Post T E S E' S'/\Fresh E S E'/\E'.A id/\VR E' (.map id) u:=by
 unfold rdM at h;split at h<;>try cases h
 split at h<;>cases h;rename_i h1;obtain⟨E1,e1,q1,f1⟩:=qn3 p h1 hw hv;have v1:=hv.mono (q1.env p);have hA:E1.A id:=by cases v1;assumption
 exact⟨E1,e1,q1,f1,hA,v1⟩
theorem qem:∀(l:List PK) {E:Env} {S:IS} {vs:List IV} {x:ElP l} {rows subs:List Nat} {S':IS} {w:Nat} {us:List Value},rdP l S vs=some (x,rows,subs,S',w)->Pre T E S->tin T.w w->VRs E vs us ->
  ∃E',E'.w=E.w/\Post T E S E' S'/\Fresh E S E'/\rows.length=mP l/\subs.length=nP l/\(∀id∈subs,E'.A id)/\(∀ρ k,Nums ρ k rows->VRs E' (qaq l ρ k x) us)/\(∀ι n,Nums ι n subs->qoh E' rows (qar l ι n x))
 | [],E,S,vs,x,rows,subs,S',w,us,h,p,hw,hv=>by
  cases vs with
  | cons v vs=>cases h
  | nil=>cases h;exact⟨E,rfl,Post.refl p,Fresh.refl E S,rfl,rfl,fun id h=>(by cases h),fun _ _ _=>hv,fun _ _ _ j o h=>(by simp[qar] at h)⟩
 | .dat c::l,E,S,vs,x,rows,subs,S',w,us,h,p,hw,hv=>by
  cases vs with
  | nil=>cases h
  | cons v vs =>
  simp only[rdP] at h;cases hb:fitV c v with
  | false=>rw[hb] at h;cases h
  | true =>
  rw[hb,jab] at h;split at h<;>try cases h
  rename_i x1 S1 w1 h1;split at h<;>cases h;rename_i y w2 h2;obtain⟨g1,g2⟩:=qao hw;obtain⟨u,us,rfl,a1,a2⟩:=hv.inv;obtain⟨E1,e1,q1,f1,us1,us2,e2,v1,v2⟩:=qex c h1 p g1 (a1.cells (qud hb));have:us2=[]:=by have:=v2.1;simpa using this.symm
  subst this;rw[jbo] at e2;rw[<- e2] at v1;have b1:=qre hb a1 v1;obtain⟨E2,e3,q2,f2,l1,l2,A2,b2,b3⟩:=qem l h2 (q1.pre p) g2 (a2.mono (q1.env p));exact⟨E2,e3.trans e1,Post.trans p q1 f1 q2,f1.trans f2 q1.le,l1,l2,A2,fun ρ k hk=>VRs.cons (b1.mono (q2.env (q1.pre p))) (b2 ρ k hk),b3⟩
 | .fn f::l,E,S,vs,x,rows,subs,S',w,us,h,p,hw,hv=>by
  simp only[rdP] at h;split at h<;>try cases h
  rename_i g vs;cases hb:Nat.beq g f with
  | false=>rw[hb] at h;cases h
  | true =>
  rw[hb] at h;have h:rdP l S vs=some (x,rows,subs,S',w):=h;obtain rfl:=jaj hb;obtain⟨u,us,rfl,a1,a2⟩:=hv.inv;obtain⟨E2,e3,q2,f2,l1,l2,A2,b2,b3⟩:=qem l h p hw a2;exact⟨E2,e3,q2,f2,l1,l2,A2,fun ρ k hk=>VRs.cons (a1.mono (q2.env p)) (b2 ρ k hk),b3⟩
 | .ref (.sl c)::l,E,S,vs,x,rows,subs,S',w,us,h,p,hw,hv=>by
  cases vs with
  | nil=>cases h
  | cons v vs =>
  simp only[rdP] at h;split at h<;>try cases h
  rename_i id S1 w1 h1;split at h<;>cases h;rename_i y q1 w2 h2;obtain⟨g1,g2⟩:=qao hw;obtain⟨u,us,rfl,a1,a2⟩:=hv.inv;obtain⟨E1,e1,p1,f1,A1,v1⟩:=zdr h1 p g1 a1;have hle1:=p1.env p;obtain⟨E2,e3,p2,f2,l2,l3,A2,b2,b3⟩:=qem l h2 (p1.pre p) g2 (a2.mono hle1);have hle2:=p2.env (p1.pre p);have v2:=v1.mono hle2;have hA2:E2.A id:=by cases v2;assumption
  refine⟨E2,e3.trans e1,Post.trans p p1 f1 p2,f1.trans f2 p1.le,by simp[l2,mP],by simp[l3,nP,nK],A2,fun ρ k hk=>?_,fun ι n hn j o hj=>?_⟩
  ·refine VRs.cons ?_ (b2 ρ (k+1) fun j id' hj=>?_)
   ·have:=hk 0 id rfl;rw[jb5] at this;rw[this];exact v2
   ·have:=hk (j+1) id' (by simpa using hj)
    rwa [show k+(j+1)=k+1+j by omega] at this
  ·cases j with
   | zero =>
    simp only[qar,jap,jbd] at hj;subst hj;exact⟨id,rfl,hA2,fun h=>(by cases h),trivial⟩
   | succ j =>
    simp only[qar,jau] at hj;obtain⟨id',d1,d2,d3,d4⟩:=b3 ι _ hn j o hj;exact⟨id',(by rw[jau];exact d1),d2,d3,d4⟩
 | .ref (.mp kc vc)::l,E,S,vs,x,rows,subs,S',w,us,h,p,hw,hv=>by
  cases vs with
  | nil=>cases h
  | cons v vs =>
  simp only[rdP] at h;split at h<;>try cases h
  rename_i id S1 w1 h1;split at h<;>cases h;rename_i y q1 w2 h2;obtain⟨g1,g2⟩:=qao hw;obtain⟨u,us,rfl,a1,a2⟩:=hv.inv;obtain⟨E1,e1,p1,f1,A1,v1⟩:=zcf h1 p g1 a1;have hle1:=p1.env p;obtain⟨E2,e3,p2,f2,l2,l3,A2,b2,b3⟩:=qem l h2 (p1.pre p) g2 (a2.mono hle1);have hle2:=p2.env (p1.pre p);have v2:=v1.mono hle2;have hA2:E2.A id:=by cases v2;assumption
  refine⟨E2,e3.trans e1,Post.trans p p1 f1 p2,f1.trans f2 p1.le,by simp[l2,mP],by simp[l3,nP,nK],A2,fun ρ k hk=>?_,fun ι n hn j o hj=>?_⟩
  ·refine VRs.cons ?_ (b2 ρ (k+1) fun j id' hj=>?_)
   ·have:=hk 0 id rfl;rw[jb5] at this;rw[this];exact v2
   ·have:=hk (j+1) id' (by simpa using hj)
    rwa [show k+(j+1)=k+1+j by omega] at this
  ·cases j with
   | zero =>
    simp only[qar,jap,jbd] at hj;subst hj;exact⟨id,rfl,hA2,fun h=>(by cases h),trivial⟩
   | succ j =>
    simp only[qar,jau] at hj;obtain⟨id',d1,d2,d3,d4⟩:=b3 ι _ hn j o hj;exact⟨id',(by rw[jau];exact d1),d2,d3,d4⟩
 | .ref (.box r)::l,E,S,vs,x,rows,subs,S',w,us,h,p,hw,hv=>by
  cases vs with
  | nil=>cases h
  | cons v vs =>
  cases v<;>try (cases h;done)
  rename_i id off;cases off with
  | succ _=>cases h
  | zero =>
  simp only[rdP] at h;split at h<;>try cases h
  rename_i cs ho;split at h<;>try cases h
  rename_i x1 i1 S1 w1 h1;split at h<;>cases h;rename_i y q1 q2 w2 h2;obtain⟨g0,g3⟩:=qao hw;obtain⟨g1,g2⟩:=qao g3;have hT:=qaf g0;obtain⟨u,us,rfl,a1,a2⟩:=hv.inv;have hA:E.A id:=by cases a1;assumption
  obtain⟨cells,t,k1,k2,k3,k4⟩:=p.st.objs id (T.sub _ hT) hA _ ho;have hblk:=p.st.blk id (T.sub _ hT) hA _ ho rfl;obtain⟨E1,e1,p1,f1,l1,A1,us1,us2,e2,v1,v2⟩:=q08 r h1 p g1 k4;have:us2=[]:=by have:=v2.1;simpa using this.symm
  subst this;rw[jbo] at e2;have hle1:=p1.env p;obtain⟨E2,e3,p2,f2,l2,l3,A2,b2,b3⟩:=qem l h2 (p1.pre p) g2 (a2.mono hle1);have hle2:=p2.env (p1.pre p);obtain⟨c1,c2,c3,c4,c5⟩:=(hle1.trans hle2).alw id hA;refine⟨E2,e3.trans e1,Post.trans p p1 f1 p2,f1.trans f2 p1.le,by simp[l2,mP],by simp[l1,l3,nP,nK],fun id' h=>?_,fun ρ k hk=>?_,fun ι n hn j o hj=>?_⟩
  ·rcases jbq.1 h with h|h
   ·exact(hle2.alw _ (A1 id' h)).1
   ·exact A2 id' h
  ·refine VRs.cons ?_ (b2 ρ (k+1) fun j id' hj=>?_)
   ·have:=hk 0 id rfl;rw[jb5] at this;rw[this];exact a1.mono (hle1.trans hle2)
   ·have:=hk (j+1) id' (by simpa using hj)
    rwa [show k+(j+1)=k+1+j by omega] at this
  ·cases j with
   | zero =>
    simp only[qar,jap,jbd] at hj;subst hj;refine⟨id,rfl,c1,fun _=>c5.trans hblk,?_⟩;have hv1:=(v1 ι n hn.fst).mono hle2;have hl:(qbu r ι n x1).length=cs.length:=by rw[hv1.1,<- e2,<- k4.1]
    refine⟨cells,t,by rw[c2,e3,e1];exact k1,by rw[c3];exact k2,by rw[hl];exact k3,?_⟩;rw[hl,e2];exact hv1
   | succ j =>
    simp only[qar,jau] at hj;have hn2:Nums ι (n+nK (.box r)) q2:=by show Nums ι (n+nR r) q2;rw[<- l1];exact hn.snd
    obtain⟨id',d1,d2,d3,d4⟩:=b3 ι _ hn2 j o hj;exact⟨id',(by rw[jau];exact d1),d2,d3,d4⟩
end

def ql9(k v k' v':TC)(l:List (El k × El v)):Option (List (El k' × El v')) :=
 if h:TC.beq k k'=true/\TC.beq v v'=true then some (TC.beq_eq h.1▸TC.beq_eq h.2▸l) else none
theorem qzi{k v k' v':TC}{l:List (El k × El v)}{l':List (El k' × El v')}(h:ql9 k v k' v' l=some l'):IObj.tmap k v l=.tmap k' v' l':=by
 unfold ql9 at h;split at h
 ·rename_i e;have e1:=TC.beq_eq e.1;have e2:=TC.beq_eq e.2;subst e1;subst e2;cases h;rfl
 ·cases h
theorem qvp{c d:TC}{l:List (El c)}{l':List (El d)}(h:qbj c d l=some l'):IObj.arr c l=.arr d l':=by
 obtain⟨rfl,rfl⟩:=qcj h;rfl
def fiC:(c:CT)->List Nat->IS->ElC c->Option (ElC c × List Nat)
 | .dat _,q,_,x=>some (x,q)
 | .arr c,q,S,_=>match q with
  | id::q=>match S.heap.get id with
   | some (.arr c' l)=>match qbj c' c l with
    | some l'=>some (l',q)
    | none=>none
   | _=>none
  | []=>none
 | .map k v,q,S,_=>match q with
  | id::q=>match S.heap.get id with
   | some (.tmap k' v' es)=>match ql9 k' v' k v es with
    | some l'=>some (l',q)
    | none=>none
   | _=>none
  | []=>none
 | .fn _,q,_,x=>some (x,q)
def fiR:(r:List CT)->List Nat->IS->qb9 r->Option (qb9 r × List Nat)
 | [],q,_,_=>some ((),q)
 | c::cs,q,S,x=>match fiC c q S x.1 with
  | none=>none
  | some (x1,q1)=>match fiR cs q1 S x.2 with
   | none=>none
   | some (x2,q2)=>some ((x1,x2),q2)
def rowB(S:IS)(id:Nat):Bool:=match S.heap.get id with
 | some (.row _)=>true
 | _=>false
theorem qtk{S:IS}{id:Nat}(h:rowB S id=true):∃cs,S.H id=some (.row cs):=by
 unfold rowB at h;split at h
 ·rename_i cs ho;exact⟨cs,ho⟩
 ·cases h
def fiS(c:TC)(id:Nat)(S:IS):Option (Option (List (El c))):=match S.heap.get id with
 | some (.arr c' l)=>match qbj c' c l with
  | some l'=>some (some l')
  | none=>none
 | some .dead=>some none
 | _=>none
def fiM(k v:TC)(id:Nat)(S:IS):Option (Option (List (El k × El v))):=match S.heap.get id with
 | some (.tmap k' v' l)=>match ql9 k' v' k v l with
  | some l'=>some (some l')
  | none=>none
 | some .dead=>some none
 | _=>none
def fiP:(l:List PK)->List Nat->List Nat->IS->ElP l->Option (ElP l)
 | [],_,_,_,_=>some ()
 | .dat _::l,r,q,S,x=>match fiP l r q S x.2 with
  | some y=>some (x.1,y)
  | none=>none
 | .fn _::l,r,q,S,x=>fiP l r q S x
 | .ref (.box k)::l,r,q,S,x=>match r with
  | id::r=>cond (rowB S id) (match fiR k q S x.1 with
   | none=>none
   | some (x1,q1)=>match fiP l r q1 S x.2 with
    | some y=>some (x1,y)
    | none=>none) none
  | []=>none
 | .ref (.sl c)::l,r,q,S,x=>match r with
  | id::r=>match fiS c id S with
   | none=>none
   | some x1=>match fiP l r q S x.2 with
    | some y=>some (x1,y)
    | none=>none
  | []=>none
 | .ref (.mp kc vc)::l,r,q,S,x=>match r with
  | id::r=>match fiM kc vc id S with
   | none=>none
   | some x1=>match fiP l r q S x.2 with
    | some y=>some (x1,y)
    | none=>none
  | []=>none
theorem ze2{S:IS}:∀(c:CT) {q q':List Nat} {x x':ElC c},fiC c q S x=some (x',q')->(∀ι n,qc4 c ι n x'=qc4 c ι n x)/\∃q1,q=q1++q'/\q1.length=nC c/\∀j:Nat,(subC c x')[j]?=(q1[j]?).bind fun id=>S.heap.get id
 | .dat c,q,q',x,x',h=>by cases h;exact⟨fun _ _=>rfl,[],rfl,rfl,fun j=>by simp[subC]⟩
 | .arr c,q,q',x,x',h=>by
  cases q with
  | nil=>cases h
  | cons id q =>
  simp only[fiC] at h;split at h<;>try cases h
  rename_i c' l ho;split at h<;>cases h;rename_i hl;refine⟨fun _ _=>rfl,[id],rfl,rfl,fun j=>?_⟩;cases j with
  | zero=>simp only[subC,jap,jek,ho,qvp hl]
  | succ j=>simp [subC]
 | .map k v,q,q',x,x',h=>by
  cases q with
  | nil=>cases h
  | cons id q =>
  simp only[fiC] at h;split at h<;>try cases h
  rename_i k' v' es ho;split at h<;>cases h;rename_i hl;refine⟨fun _ _=>rfl,[id],rfl,rfl,fun j=>?_⟩;cases j with
  | zero=>simp only[subC,jap,jek,ho,qzi hl]
  | succ j=>simp [subC]
 | .fn _,q,q',x,x',h=>by cases h;exact⟨fun _ _=>rfl,[],rfl,rfl,fun j=>by simp[subC]⟩
theorem qqm{α β:Type}{f:α->Option β}{a1 a2:List β}{q1 q2:List α}(hl:a1.length=q1.length)(h1:∀j:Nat,a1[j]?=(q1[j]?).bind f)(h2:∀j:Nat,a2[j]?=(q2[j]?).bind f)(j:Nat) :
  (a1++a2)[j]?=((q1++q2)[j]?).bind f:=by
 by_cases h:j<a1.length
 ·rw[jas h,jas (by omega),h1]
 ·rw[jax (by omega),jax (by omega),h2,hl]
theorem q0m{S:IS}:∀(c:List CT) {q q':List Nat} {x x':qb9 c},fiR c q S x=some (x',q')->(∀ι n,qbu c ι n x'=qbu c ι n x)/\∃q1,q=q1++q'/\q1.length=nR c/\∀j:Nat,(subR c x')[j]?=(q1[j]?).bind fun id=>S.heap.get id
 | [],q,q',x,x',h=>by cases h;exact⟨fun _ _=>rfl,[],rfl,rfl,fun j=>by simp[subR]⟩
 | c::cs,q,q',x,x',h=>by
  simp only[fiR] at h;split at h
  ·cases h
  rename_i x1 q1 h1;split at h<;>cases h;rename_i x2 h2;obtain⟨a1,p1,rfl,a2,a3⟩:=ze2 c h1;obtain⟨b1,p2,rfl,b2,b3⟩:=q0m cs h2;refine⟨fun ι n=>by simp only[qbu,a1,b1],p1++p2,(ja2 _ _ _).symm,by simp[a2,b2,nR],fun j=>?_⟩;exact qqm (by rw[qkr,a2]) a3 b3 j
theorem zja{c:TC}{id:Nat}{S:IS}{x:Option (List (El c))}(h:fiS c id S=some x)(ι:Nat->Nat)(n:Nat):S.heap.get id=some (objK (.sl c) ι n x):=by
 unfold fiS at h;split at h<;>try cases h
 ·rename_i c' l ho;split at h<;>cases h;rename_i l' hl;rw[ho];exact jaw some (qvp hl)
 ·rename_i ho;exact ho
theorem q7z{k v:TC}{id:Nat}{S:IS}{x:Option (List (El k × El v))}(h:fiM k v id S=some x)(ι:Nat->Nat)(n:Nat):S.heap.get id=some (objK (.mp k v) ι n x):=by
 unfold fiM at h;split at h<;>try cases h
 ·rename_i k' v' l ho;split at h<;>cases h;rename_i l' hl;rw[ho];exact jaw some (qzi hl)
 ·rename_i ho;exact ho
theorem qeq{S:IS}:∀(l:List PK) {r q:List Nat} {x x':ElP l},fiP l r q S x=some x'->q.length=nP l ->
  (∀(ι:Nat->Nat) (n j:Nat) (o:IObj),(qar l ι n x')[j]?=some o->∃id,r[j]?=some id/\(((qar l ι n x)[j]?=some o/\rowB S id=true)\/S.heap.get id=some o))/\(∀ρ k,qaq l ρ k x'=qaq l ρ k x)/\∀j:Nat,(qbv l x')[j]?=(q[j]?).bind fun id=>S.heap.get id
 | [],r,q,x,x',h,hl=>by
  cases h;have:q=[]:=by simpa [nP] using hl
  subst this;exact⟨fun _ _ j o hj=>by simp[qar] at hj,fun _ _=>rfl,fun j=>by simp[qbv]⟩
 | .dat _::l,r,q,x,x',h,hl=>by
  simp only[fiP] at h;split at h<;>cases h;rename_i y h1;obtain⟨a1,a2,a3⟩:=qeq l h1 hl;exact⟨fun ι n=>a1 ι n,fun ρ k=>by simp only[qaq,a2],a3⟩
 | .fn f::l,r,q,x,x',h,hl=>by
  obtain⟨a1,a2,a3⟩:=qeq l h hl;exact⟨fun ι n=>a1 ι n,fun ρ k=>jaw (fun q=>IV.fn f []::q) (a2 ρ k),a3⟩
 | .ref (.box k)::l,r,q,x,x',h,hl=>by
  cases r with
  | nil=>cases h
  | cons id r =>
  simp only[fiP] at h;cases hb:rowB S id with
  | false=>rw[hb] at h;cases h
  | true =>
  rw[hb,jab] at h;split at h
  ·cases h
  rename_i x1 q1 h1;split at h<;>cases h;rename_i y h2;obtain⟨a1,p1,rfl,a2,a3⟩:=q0m k h1;obtain⟨b1,b2,b3⟩:=qeq l h2 (by simp only[jag,nP,nK] at hl;omega);refine⟨fun ι n j o hj=>?_,fun ρ k=>by simp only[qaq,b2],fun j=>?_⟩
  ·cases j with
   | zero =>
    simp only[qar,jap,jbd] at hj;refine⟨id,rfl,.inl ⟨?_,hb⟩⟩;rw[<- hj];simp only[qar,jap,objK,a1]
   | succ j=>exact b1 ι _ j o hj
  ·exact qqm ((qnj k x1).trans a2.symm) a3 b3 j
 | .ref (.sl c)::l,r,q,x,x',h,hl=>by
  cases r with
  | nil=>cases h
  | cons id r =>
  simp only[fiP] at h;split at h
  ·cases h
  rename_i x1 h1;split at h<;>cases h;rename_i y h2;obtain⟨b1,b2,b3⟩:=qeq l h2 (by simpa only [nP,nK,jbk] using hl);refine⟨fun ι n j o hj=>?_,fun ρ k=>by simp only[qaq,b2],b3⟩;cases j with
  | zero =>
   simp only[qar,jap,jbd] at hj;exact⟨id,rfl,.inr (by rw[<- hj];exact zja h1 ι n)⟩
  | succ j=>exact b1 ι _ j o hj
 | .ref (.mp kc vc)::l,r,q,x,x',h,hl=>by
  cases r with
  | nil=>cases h
  | cons id r =>
  simp only[fiP] at h;split at h
  ·cases h
  rename_i x1 h1;split at h<;>cases h;rename_i y h2;obtain⟨b1,b2,b3⟩:=qeq l h2 (by simpa only [nP,nK,jbk] using hl);refine⟨fun ι n j o hj=>?_,fun ρ k=>by simp only[qaq,b2],b3⟩;cases j with
  | zero =>
   simp only[qar,jap,jbd] at hj;exact⟨id,rfl,.inr (by rw[<- hj];exact q7z h1 ι n)⟩
  | succ j=>exact b1 ι _ j o hj
def za9(E:Env)(S:IS)(rows:List Nat)(os:List IObj):Prop:=∀(j:Nat) (o:IObj),os[j]?=some o->∃id,rows[j]?=some id/\E.A id/\(o.blk=true->E.hb id=true)/\OR E id o/\(o.live=true->∃o0,S.H id=some o0/\o0.live=true)
theorem qst{T:TW}{E:Env}{S:IS}{l:List PK}{rows q:List Nat}{x x':ElP l}(h:fiP l rows q S x=some x')(hl:q.length=nP l)(p:Pre T E S)(hT:∀id∈rows,T.r id){ι:Nat->Nat}{n:Nat}
  (hr:qoh E rows (qar l ι n x)):za9 E S rows (qar l ι n x'):=fun j o hj=>by
 obtain⟨id,d1,d2⟩:=(qeq l h hl).1 ι n j o hj;rcases d2 with ⟨d2,d3⟩|d2
 ·obtain⟨id',g1,g2,g3,g4⟩:=hr j o d2;rw[d1] at g1;cases g1;obtain⟨cs,hcs⟩:=qtk d3;exact⟨id,d1,g2,g3,g4,fun _=>⟨_,hcs,rfl⟩⟩
 ·have hj2:j<(qar l ι n x).length:=by
   have:=(ja9.1 hj).1;rw[qa0] at this ⊢;exact this
  obtain⟨id',g1,g2,g3,g4⟩:=hr j _ (jac hj2);rw[d1] at g1;cases g1;have hTr:=hT id (jbu d1);exact⟨id,d1,g2,fun hb=>p.st.blk id hTr g2 o d2 hb,p.st.objs id hTr g2 o d2,fun hl=>⟨o,d2,hl⟩⟩
end Go.Jx
end

section
namespace Go.Jx
open Go Go.Sx Go.RowKit
universe u

structure SmR where
 ps:List PK
 rts:List (Bool × TC)
 f:ElP ps->Option (ElR rts × ElP (refs ps))
def RetB(B:Nat)(T:TW)(E:Env)(S:IS)(r:Res):Ending->World->Prop:=fun e w'=>∃u E',e=.returned u/\E'.w=w'/\VR E' r.v u/\PostB B T E S E' r.S
def newO(s:SmR)(y:ElR s.rts)(z:ElP (refs s.ps)):List IObj:=qbv (refs s.ps) z++resO s.rts y
def ScB(s:SmR)(y:ElR s.rts)(z:ElP (refs s.ps)):IS:=addO (qar (refs s.ps) idN (mP s.ps) z++newO s y z) S0
def vB(s:SmR)(base:Nat)(y:ElR s.rts):IV:=tupI (resV s.rts (base+nP (refs s.ps)) y)
structure ConR (P:Program) (f:Nat) (s:SmR):Prop where
 callable:qah P f
 calls:∀(E:Env) (x:ElP s.ps) (us:List Value) (y:ElR s.rts) (z:ElP (refs s.ps)),s.f x=some (y,z)->Pre T0 E (Sc s.ps x)->VRs E (qaq s.ps idN 0 x) us ->
  CallsIn Fence.wide 0 P f us.toArray E.w (RetB (mP s.ps) T0 E (Sc s.ps x) ⟨vB s (mP s.ps) y,ScB s y z,0,0⟩)
theorem qbp:∀l:List PK,mP (refs l)=mP l
 | []=>rfl
 | .dat _::l=>qbp l
 | .fn _::l=>qbp l
 | .ref _::l=>by simp only[refs,mP,qbp l]
def qbt:List Nat->Nat
 | []=>0
 | id::l=>2 ^ id ||| qbt l
theorem qqg{T:Nat->Prop}:∀{l:List Nat},tin T (qbt l)->∀id∈l,T id
 | [],_,id,h=>by cases h
 | i::l,ht,id,h=>by
  obtain⟨h1,h2⟩:=qao ht;rcases jav.1 h with h|h
  ·rw[h];exact qaf h1
  ·exact qqg h2 id h
theorem q0b:∀{l:List Nat} {id:Nat},id∈l->(qbt l).testBit id=true
 | [],id,h=>by cases h
 | i::l,id,h=>by
  simp only[qbt,jcc,jd9];rcases jav.1 h with h|h
  ·rw[h];exact .inl (jdu)
  ·exact .inr (q0b h)
def qd2:List Nat->IS->IS
 | [],S=>S
 | id::l,S=>qd2 l (S.set id .dead)
def setL:List Nat->List IObj->IS->IS
 | id::l,o::os,S=>setL l os (S.set id o)
 | _,_,S=>S
theorem qo4:∀(l:List Nat) (S:IS),(qd2 l S).next=S.next
 | [],S=>rfl
 | id::l,S=>qo4 l _
theorem qlm:∀(l:List Nat) (os:List IObj) (S:IS),(setL l os S).next=S.next
 | [],os,S=>rfl
 | _::_,[],S=>rfl
 | id::l,o::os,S=>qlm l os _
theorem qke:∀{l:List Nat} {S:IS} {k:Nat},k ∉ l->(qd2 l S).H k=S.H k
 | [],S,k,h=>rfl
 | id::l,S,k,h=>by
  simp only[jav,not_or] at h;unfold qd2;rw[qke h.2,IS.H_set,up_ne _ _ h.1]
theorem qtl:∀{l:List Nat} {S:IS} {k:Nat},k∈l->(qd2 l S).H k=some .dead
 | [],S,k,h=>by cases h
 | id::l,S,k,h=>by
  unfold qd2;by_cases hk:k∈l
  ·exact qtl hk
  ·rw[qke hk,IS.H_set];rcases jav.1 h with h|h
   ·rw[h,qai]
   ·exact absurd h hk
theorem qf8:∀{l:List Nat} {os:List IObj} {S:IS} {k:Nat},k ∉ l->(setL l os S).H k=S.H k
 | [],os,S,k,h=>rfl
 | _::_,[],S,k,h=>rfl
 | id::l,o::os,S,k,h=>by
  simp only[jav,not_or] at h;unfold setL;rw[qf8 h.2,IS.H_set,up_ne _ _ h.1]
theorem quq:∀{l:List Nat} {os:List IObj} {S:IS} {j k:Nat},l.Nodup->os.length=l.length->l[j]?=some k->(setL l os S).H k=os[j]?
 | [],os,S,j,k,hn,hl,h=>by simp at h
 | _::_,[],S,j,k,hn,hl,h=>by simp at hl
 | id::l,o::os,S,j,k,hn,hl,h=>by
  obtain⟨h1,h2⟩:=jci.1 hn;unfold setL;cases j with
  | zero =>
   simp only[jap,jbd] at h;subst h;rw[qf8 h1,IS.H_set,qai];rfl
  | succ j =>
   rw[jau] at h ⊢;exact quq h2 (by simpa using hl) h
def qbs(s:SmR)(n:Nat)(rows subs:List Nat)(y:ElR s.rts)(z:ElP (refs s.ps))(S:IS):IS :=
 addO (newO s y z) (setL rows (qar (refs s.ps) (fun k=>n+(k-mP s.ps)) (mP s.ps) z) (qd2 subs S))
def exR(s:SmR)(vs:List IV)(S:IS):Option Res :=
 match rdP s.ps S vs with
 | none=>none
 | some (x0,rows,subs,S1,w)=>cond (ndB (rows++subs)) (match fiP s.ps rows subs S1 x0 with
  | none=>none
  | some x=>match s.f x with
   | none=>none
   | some (y,z)=>some ⟨vB s S1.next y,qbs s S1.next rows subs y z S1,0,(w ||| qbt (rows++subs)) ||| cond (Nat.blt 0 rows.length) 0 (2 ^ S1.next)⟩) none
theorem qrf:∀(l:List PK) (x:ElP l) (o:IObj),o∈qbv l x->datO o=true:=by
 have hr:∀(r:List CT) (x:qb9 r) (o:IObj),o∈subR r x->datO o=true:=by
  intro r;induction r with
  | nil=>intro x o h;cases h
  | cons c cs ih =>
   intro x o h;rcases jbq.1 h with h|h
   ·cases c with
    | dat c=>cases h
    | arr c=>rw[jcb.1 h];rfl
    | map k v=>rw[jcb.1 h];rfl
    | fn f=>cases h
   ·exact ih x.2 o h
 intro l;induction l with
 | nil=>intro x o h;cases h
 | cons p l ih =>
  intro x o h;cases p with
  | dat c=>exact ih x.2 o h
  | fn f=>exact ih x o h
  | ref r =>
   rcases jbq.1 h with h|h
   ·cases r with
    | box r=>exact hr r x.1 o h
    | sl c=>cases h
    | mp k v=>cases h
   ·exact ih x.2 o h
theorem qrr{s:SmR}{y:ElR s.rts}{z:ElP (refs s.ps)}{o:IObj}(h:o∈newO s y z):datO o=true:=by
 rcases jbq.1 h with h|h
 ·exact qrf _ _ o h
 ·obtain⟨c,l,rfl⟩:=qi5 _ _ _ h;rfl
theorem qt7{E E':Env}(hm:∀b,b∈E'.m->b∈E.m)(hw:E'.w=E.w):∀(cs:List (Bool × TC)) {k k':Nat} {y:ElR cs} {us:List Value},(∀j,qcf E E' (k+j) (k'+j))->VRs E (resV cs k y) us->VRs E' (resV cs k' y) us
 | [],k,k',y,us,hn,h=>by have:=h.1;cases us with|nil=>exact VRs.nil|cons _ _=>simp [resV] at this
 | (true,c)::cs,k,k',y,us,hn,h=>by
  obtain⟨u,us,rfl,a1,a2⟩:=VRs.inv (v:=.arr k) (cs:=resV cs (k+1) y.2) h;refine VRs.cons ?_ (qt7 hm hw cs (fun j=>?_) a2)
  ·cases a1 with
   | arr hA hh =>
    obtain⟨b1,b2,b3,b4,b5⟩:=hn 0 hA;exact .arr b1 (b4.trans hh)
  ·have:=hn (j+1)
   rwa [show k+(j+1)=k+1+j by omega,show k'+(j+1)=k'+1+j by omega] at this
 | (false,c)::cs,k,k',y,us,hn,h=>by
  obtain⟨u,us,rfl,a1,a2⟩:=VRs.inv (v:=asIV c y.1) (cs:=resV cs k y.2) h;exact VRs.cons (qe9 hm hw a1) (qt7 hm hw cs hn a2)
theorem qjp:∀(cs:List (Bool × TC)) (i:Nat) (y:ElR cs),(resV cs i y).length=cs.length
 | [],_,_=>rfl
 | (true,_)::cs,i,y=>by simp only[resV,jat,qjp cs]
 | (false,_)::cs,i,y=>by simp only[resV,jat,qjp cs]
theorem zku{E E':Env}{vs ws:List IV}{u:Value}(h:∀us,VRs E vs us->VRs E' ws us)(hl:vs.length=ws.length)(hu:VR E (tupI vs) u):VR E' (tupI ws) u:=by
 match vs,ws,hl with
 | [],[],_ =>
  cases hu with
  | tup hl hh=>have:=h _ ⟨hl,hh⟩;exact .tup this.1 this.2
 | [v],[w],_ =>
  have:=h [u] (VRs.cons hu VRs.nil);exact this.2 0 (by simp) (by simp)
 | v1::v2::vs,w1::w2::ws,_ =>
  cases hu with
  | tup hl hh=>have:=h _ ⟨hl,hh⟩;exact .tup this.1 this.2
section
variable {P : Program} {T : TW} {E : Env} {S : IS}
theorem q7i{f:Nat}{s:SmR}(hc:ConR P f s){vs:List IV}{r:Res}(h:exR s vs S=some r){us:List Value}(p:Pre T E S)(hwr:tin T.w r.wr)(hv:VRs E vs us) :
  qah P f/\CallsIn Fence.wide 0 P f us.toArray E.w (RetE T E S r):=by
 refine⟨hc.callable,?_⟩;unfold exR at h;split at h
 ·cases h
 rename_i x0 rows subs S1 w hrd;cases hb1:ndB (rows++subs) with
 | false=>rw[hb1] at h;cases h
 | true =>
 rw[hb1,jab] at h;split at h
 ·cases h
 rename_i x hfi;split at h
 ·cases h
 rename_i y z hf;cases h;obtain⟨g1,g2⟩:=qao (qao hwr).1;obtain⟨E1,e1,q1,f1,l1,l2,A2,b2,b3⟩:=qem s.ps hrd p g1 hv;have p1:=q1.pre p;obtain⟨_,c2,c3⟩:=qeq s.ps hfi l2;have hnd:=qkk hb1;have hT:=qqg g2;generalize hq:rows++subs=q at hnd hT;have hql:q.length=mP s.ps+nP s.ps:=by rw[<- hq,jag,l1,l2]
 have hnq:Nums (ol 0 q) 0 q:=fun j id hj=>by
  rw[jbk];unfold ol;rw[jan (by omega),jda,jai,hj];rfl
 have hnr:Nums (ol 0 q) 0 rows:=by rw[<- hq] at hnq ⊢;exact hnq.fst
 have hns:Nums (ol 0 q) (mP s.ps) subs:=by
  have:=hnq;rw[<- hq] at this;have:=this.snd
  rwa [jbk,l1,hq] at this
 have hTr:∀id∈rows,T.r id:=fun id hid=>T.sub _ (hT id (by rw[<- hq];exact jb0 _ hid));have hrows:=qst hfi l2 p1 hTr (b3 _ _ hns);have hrk:∀k,k<mP s.ps->rows[k]?=some (ol 0 q k):=fun k hk=>by
  have h1:k<rows.length:=by omega
  rw[jac h1,<- hnr k _ (jac h1),jbk]
 have hsk:∀k,mP s.ps<=k->k<q.length->subs[k-mP s.ps]?=some (ol 0 q k):=fun k h1 h2=>by
  have h3:k-mP s.ps<subs.length:=by omega
  rw[jac h3,<- hns _ _ (jac h3),Nat.add_sub_cancel' h1]
 have hrowA:∀k,k<mP s.ps->∃r nj xj,(∀ι,(qar s.ps ι (mP s.ps) x)[k]?=some (objK r ι nj xj))/\mP s.ps<=nj/\nj+nK r<=q.length/\E1.A (ol 0 q k)/\((objK r (ol 0 q) nj xj).blk=true->E1.hb (ol 0 q k)=true)/\OR E1 (ol 0 q k) (objK r (ol 0 q) nj xj)/\((objK r (ol 0 q) nj xj).live=true->∃o0,S1.H (ol 0 q k)=some o0/\o0.live=true):=fun k hk=>by
  have h1:k<(qar s.ps (ol 0 q) (mP s.ps) x).length:=by rw[qa0];exact hk
  obtain⟨r,nj,xj,d1,d2,d3,d4⟩:=qff s.ps (ol 0 q) (mP s.ps) x k _ (jac h1);obtain⟨id,i1,i2,i3,i4,i5⟩:=hrows k _ (d4 (ol 0 q));rw[hrk k hk] at i1;cases i1;exact⟨r,nj,xj,d4,d2,by omega,i2,i3,i4,i5⟩
 have hA:∀id∈q,E1.A id:=fun id hid=>by
  rw[<- hq] at hid;rcases jbq.1 hid with hid|hid
  ·obtain⟨k,hk,rfl⟩:=jco.1 hid;obtain⟨_,_,_,_,_,_,i2,_,_⟩:=hrowA k (by omega);have:=hrk k (by omega);rw[jac hk,jbd] at this;rw[this];exact i2
  ·exact A2 id hid
 have hnum:∀k,k<q.length->qcf E1 (renE 0 q E1) (ol 0 q k) k:=fun k hk hA=>⟨⟨by omega,hA⟩,rfl,rfl,rfl,rfl⟩;have hobj:∀k o,k<q.length->E1.A (ol 0 q k)->(Sc s.ps x).H k=some o->ObjTo E1 S1 (renE 0 q E1) (ol 0 q k) k o:=fun k o hk hAk ho=>by
  unfold Sc at ho;rw[qgg] at ho;by_cases hkm:k<mP s.ps
  ·rw[jas (by rw[qa0];exact hkm)] at ho;obtain⟨r,nj,xj,d1,d2,d3,d4,d5,d6,d7⟩:=hrowA k hkm;rw[d1 idN] at ho;cases ho;exact⟨OR.objK_to (E:=E1) (E':=renE 0 q E1) (fun _ h=>h) rfl hAk (hnum k hk) (fun j a b=>hnum j (by omega)) d6,fun hl=>d7 (qn4.trans hl),fun hb=>d5 (qit.trans hb)⟩
  ·rw[jax (by rw[qa0];omega),qa0] at ho;have hd:=qrf _ _ _ (jbu ho);rw[c3,hsk k (by omega) hk] at ho;have hid:=(qbw hk).1;exact⟨OR.dat_to (E:=E1) (E':=renE 0 q E1) (fun _ h=>h) rfl hAk (hnum k hk) hd (p1.st.objs _ (T.sub _ (hT _ hid)) hAk _ ho),fun hl=>⟨_,ho,hl⟩,fun hbk=>p1.st.blk _ (T.sub _ (hT _ hid)) hAk _ ho hbk⟩
 have hpre:Pre T0 (renE 0 q E1) (Sc s.ps x):=Pre.re p1 hnd (fun id h=>T.sub _ (hT id h)) (by rw[qhp,hql]) hobj;have hargs:VRs (renE 0 q E1) (qaq s.ps idN 0 x) us:=argsP_env (E:=E1) (E':=renE 0 q E1) (ρ:=ol 0 q) (fun _ h=>h) rfl s.ps (fun j a b=>hnum j (by omega)) (by rw[c2];exact b2 _ _ hnr);have hcall:=hc.calls _ x us y z hf hpre hargs;rw[show (renE 0 q E1).w=E.w from e1] at hcall;refine hcall.mono fun e w' hR=>?_;obtain⟨u,Er,rfl,rfl,k1,k2⟩:=hR;have hlt:∀id,id∈q->id<S1.next:=fun id h=>p1.bnd id (hA id h)
 have hsb:∀k,k<q.length->Live (renE 0 q E1) (Sc s.ps x).H k->Live E1 S1.H (ol 0 q k):=fun k hk ⟨h0,o,h1,h2⟩=>⟨h0,(hobj k o hk (hA _ (qbw hk).1) h1).live h2⟩;have hbn:(setL rows (qar (refs s.ps) (fun k=>S1.next+(k-mP s.ps)) (mP s.ps) z) (qd2 subs S1)).next=S1.next:=by rw[qlm,qo4]
 have hndr:rows.Nodup:=by rw[<- hq] at hnd;exact(jcv.1 hnd).1
 have hrs:∀id,id∈rows->id ∉ subs:=fun id h1 h2=>by
  rw[<- hq] at hnd;exact(jcv.1 hnd).2.2 id h1 id h2 rfl
 have hScB:∀k,(ScB s y z).H k=(qar (refs s.ps) idN (mP s.ps) z++newO s y z)[k]?:=fun k=>qgg _ k;have hEA:∀k,k<mP s.ps->Er.A k/\Er.ρ k=E1.ρ (ol 0 q k)/\Er.κ k=E1.κ (ol 0 q k)/\Er.hd k=E1.hd (ol 0 q k)/\Er.hb k=E1.hb (ol 0 q k):=fun k hk=>by
  obtain⟨a1,a2,a3,a4,a5⟩:=k2.alw k hk ⟨by omega,hA _ (qbw (by omega)).1⟩;exact⟨a1,a2,a3,a4,a5⟩
 obtain⟨m1,m2⟩:=q1y (n:=S1.next) (m:=mP s.ps) (S':=qbs s S1.next rows subs y z S1) p1 hnd hT hA (by omega) rfl hsb k2 (by
   unfold qbs ScB;rw[qcm,qcm,hbn,jag,qa0,qbp];have:S0.next=0:=rfl
   omega) (fun id hid hnq=>by
   unfold qbs;rw[qb8,hbn,jam hid,qf8 (fun h=>hnq (by rw[<- hq];exact jb0 _ h)),qke (fun h=>hnq (by rw[<- hq];exact jb8 _ h))]) (fun k o hk ho=>by
   unfold qbs at ho;have hin:=(qbw (q:=q) (k:=k) (by omega)).1;rw[qb8,hbn,jam (hlt _ hin),quq hndr (by rw[qa0,qbp,l1]) (hrk k hk)] at ho;obtain⟨r,nj,xj,rfl,d2,d3,d4⟩:=qff _ _ _ _ _ _ ho;have hsr:(ScB s y z).H k=some (objK r idN nj xj):=by
    rw[hScB,jas (by rw[qa0,qbp];exact hk)];exact d4 idN
   obtain⟨a1,a2,a3,a4,a5⟩:=hEA k hk;obtain⟨o1,o2,o3,o4⟩:=qdg (E:=E1) (Er:=Er) (n:=S1.next) (m:=mP s.ps) (hlt _ hin);obtain⟨_,_,_,_,_,_,i2,_⟩:=hrowA k hk;exact⟨OR.objK_to (E:=Er) (E':=mrgR E1 Er S1.next (mP s.ps)) (fun _ h=>h) rfl a1 (fun _=>⟨.inl ⟨hlt _ hin,i2⟩,o1.trans a2.symm,o2.trans a3.symm,o3.trans a4.symm,o4.trans a5.symm⟩) (fun j a b hAj=>by
    obtain⟨r1,r2,r3,r4,r5⟩:=qh0 (E:=E1) (Er:=Er) (n:=S1.next) (m:=mP s.ps) (k:=j) (by omega);exact⟨r5 hAj,r1,r2,r3,r4⟩) (k2.st.objs k trivial a1 _ hsr),fun hl=>⟨_,hsr,qn4.trans hl⟩,fun hb=>(o4.trans a5.symm).trans (k2.st.blk k trivial a1 _ hsr (qit.trans hb))⟩) (fun k o h1 h2 ho=>by
   unfold qbs at ho;have hin:=(qbw (q:=q) (k:=k) h2).1;have hin2:=jbu (hsk k h1 h2);rw[qb8,hbn,jam (hlt _ hin),qf8 (fun h=>hrs _ h hin2),qtl hin2] at ho;cases ho;rfl) (fun k o h1 hAk ho=>by
   unfold qbs at ho;have hkb:=k2.bnd k hAk;unfold ScB at hkb;rw[qcm,jag,qa0,qbp] at hkb;have e0:S0.next=0:=rfl
   rw[qb8,hbn,jan (by omega),jam (by omega),ja1] at ho;have hd:=qrr (jbu ho);have hsr:(ScB s y z).H k=some o:=by
    rw[hScB,jax (by rw[qa0,qbp];exact h1),qa0,qbp];exact ho
   obtain⟨r1,r2,r3,r4,r5⟩:=qh0 (E:=E1) (Er:=Er) (n:=S1.next) (m:=mP s.ps) (k:=k) h1;exact⟨OR.dat_to (E:=Er) (E':=mrgR E1 Er S1.next (mP s.ps)) (fun _ h=>h) rfl hAk (fun hA=>⟨r5 hA,r1,r2,r3,r4⟩) hd (k2.st.objs k trivial hAk _ hsr),fun hl=>⟨_,hsr,hl⟩,fun hbk=>r4.trans (k2.st.blk k trivial hAk _ hsr hbk)⟩)
 refine⟨u,mrgR E1 Er S1.next (mP s.ps),rfl,rfl,?_,Post.trans p q1 f1 m1,f1.trans m2 q1.le⟩;refine zku (E:=Er) (E':=mrgR E1 Er S1.next (mP s.ps)) (fun us h=>qt7 (E:=Er) (E':=mrgR E1 Er S1.next (mP s.ps)) (fun _ h=>h) rfl s.rts (fun j hAj=>?_) h) (by rw[qjp,qjp]) k1;obtain⟨r1,r2,r3,r4,r5⟩:=qh0 (E:=E1) (Er:=Er) (n:=S1.next) (m:=mP s.ps) (k:=mP s.ps+nP (refs s.ps)+j) (by omega);have e:S1.next+(mP s.ps+nP (refs s.ps)+j-mP s.ps)=S1.next+nP (refs s.ps)+j:=by omega
 rw[e] at r1 r2 r3 r4 r5;exact⟨r5 hAj,r1,r2,r3,r4⟩
end
end Go.Jx
end

section
namespace Go.Jx
open Go Go.Sx Go.RowKit
universe u

def exRK{R:Type}(s:SmR)(vs:List IV)(S:IS)(kk:Res->Option R):Option R :=
 match rdP s.ps S vs with
 | none=>none
 | some (x0,rows,subs,S1,w)=>cond (ndB (rows++subs)) (match fiP s.ps rows subs S1 x0 with
  | none=>none
  | some x=>match s.f x with
   | none=>none
   | some (y,z)=>kk ⟨vB s S1.next y,qbs s S1.next rows subs y z S1,0,(w ||| qbt (rows++subs)) ||| cond (Nat.blt 0 rows.length) 0 (2 ^ S1.next)⟩) none
theorem znk{R:Type}(s:SmR)(vs:List IV)(S:IS)(kk:Res->Option R):exRK s vs S kk=ob (exR s vs S) kk:=by
 simp only[exRK,exR];cases rdP s.ps S vs with
 | none=>rfl
 | some q =>
  obtain⟨x0,rows,subs,S1,w⟩:=q;simp only[qbd];cases fiP s.ps rows subs S1 x0 with
  | none=>rfl
  | some x =>
   simp only;cases s.f x with
   | none=>rfl
   | some q=>rfl
def hxR(s:SmR):Hx:=⟨fun _ vs S=>exR s vs S,fun _ _ vs S kk=>exRK s vs S kk,fun _ _ _ _ vs S kk=>znk s vs S kk⟩
theorem zj8{S S':IS}:∀(c:CT) {cs:List IV} {x:ElC c} {ids:List Nat} {r:List IV} {w:Nat},rdC c S cs=some (x,ids,r,S',w)->FrX S S' w
 | .dat c,cs,x,ids,r,w,h=>by
  simp only[rdC] at h;split at h<;>cases h;rename_i h1;obtain⟨a1,a2⟩:=qes c _ _ _ _ _ _ h1;exact⟨jdj a1.symm,fun id _ hb=>a2 id hb⟩
 | .arr c,cs,x,ids,r,w,h=>by
  cases cs with
  | nil=>cases h
  | cons v cs =>
  simp only[rdC] at h;split at h<;>cases h;rename_i h1;exact qnp h1
 | .map k v,cs,x,ids,r,w,h=>by
  cases cs with
  | nil=>cases h
  | cons u cs =>
  cases u<;>try (cases h;done)
  simp only[rdC] at h;split at h<;>cases h;rename_i h1;exact qmg h1
 | .fn f,cs,x,ids,r,w,h=>by
  simp only[rdC] at h;split at h<;>try cases h
  rename_i g cs;cases hb:Nat.beq g f with
  | false=>rw[hb] at h;cases h
  | true =>
  rw[hb] at h;cases h;exact FrX.refl _ _
theorem q4c:∀(c:List CT) {S S':IS} {cs:List IV} {x:qb9 c} {ids:List Nat} {r:List IV} {w:Nat},rdR c S cs=some (x,ids,r,S',w)->FrX S S' w
 | [],S,S',cs,x,ids,r,w,h=>by cases h;exact FrX.refl _ _
 | c::l,S,S',cs,x,ids,r,w,h=>by
  simp only[rdR] at h;split at h
  ·cases h
  rename_i h1;split at h<;>cases h;rename_i h2;exact(zj8 c h1).trans (q4c l h2)
theorem zfr{S S':IS}{c:TC}{v:IV}{id w:Nat}(h:rdS c S v=some (id,S',w)):FrX S S' w:=by
 unfold rdS at h;split at h
 ·cases h;exact FrX.refl _ _
 ·split at h<;>cases h;rename_i h1;exact qnp h1
theorem q86{kc vc:TC}{S S':IS}{v:IV}{id w:Nat}(h:rdM kc vc S v=some (id,S',w)):FrX S S' w:=by
 unfold rdM at h;split at h<;>try cases h
 split at h<;>cases h;rename_i h1;exact qmg h1
theorem qeo:∀(l:List PK) {S S':IS} {vs:List IV} {x:ElP l} {q1 q2:List Nat} {w:Nat},rdP l S vs=some (x,q1,q2,S',w)->FrX S S' w
 | [],S,S',vs,x,q1,q2,w,h=>by
  cases vs with
  | cons v vs=>cases h
  | nil=>cases h;exact FrX.refl _ _
 | .dat c::l,S,S',vs,x,q1,q2,w,h=>by
  cases vs with
  | nil=>cases h
  | cons v vs =>
  simp only[rdP] at h;cases hb:fitV c v with
  | false=>rw[hb] at h;cases h
  | true =>
  rw[hb,jab] at h;split at h<;>try cases h
  rename_i h1;split at h<;>cases h;rename_i h2;obtain⟨a1,a2⟩:=qes c _ _ _ _ _ _ h1;exact FrX.trans ⟨jdj a1.symm,fun id _ hb=>a2 id hb⟩ (qeo l h2)
 | .fn f::l,S,S',vs,x,q1,q2,w,h=>by
  simp only[rdP] at h;split at h<;>try cases h
  rename_i g vs;cases hb:Nat.beq g f with
  | false=>rw[hb] at h;cases h
  | true =>
  rw[hb] at h;have h:rdP l S vs=some (x,q1,q2,S',w):=h;exact qeo l h
 | .ref (.sl c)::l,S,S',vs,x,q1,q2,w,h=>by
  cases vs with
  | nil=>cases h
  | cons v vs =>
  simp only[rdP] at h;split at h<;>try cases h
  rename_i h1;split at h<;>cases h;rename_i h2;exact(zfr h1).trans (qeo l h2)
 | .ref (.mp kc vc)::l,S,S',vs,x,q1,q2,w,h=>by
  cases vs with
  | nil=>cases h
  | cons v vs =>
  simp only[rdP] at h;split at h<;>try cases h
  rename_i h1;split at h<;>cases h;rename_i h2;exact(q86 h1).trans (qeo l h2)
 | .ref (.box r)::l,S,S',vs,x,q1,q2,w,h=>by
  cases vs with
  | nil=>cases h
  | cons v vs =>
  cases v<;>try (cases h;done)
  rename_i id off;cases off with
  | succ _=>cases h
  | zero =>
  simp only[rdP] at h;split at h<;>try cases h
  split at h<;>try cases h
  rename_i h1;split at h<;>cases h;rename_i h2;have:=(FrX.refl S (2 ^ id)).trans ((q4c r h1).trans (qeo l h2));exact this
theorem qr9:∀(l:List Nat) (S:IS),FrX S (qd2 l S) (qbt l)
 | [],S=>FrX.refl _ _
 | id::l,S=>(FrX.set S id .dead).trans (qr9 l _)
theorem qrm:∀(l:List Nat) (os:List IObj) (S:IS),FrX S (setL l os S) (qbt l)
 | [],os,S=>FrX.refl _ _
 | _::_,[],S=>FrX.refl _ _
 | id::l,o::os,S=>(FrX.set S id o).trans (qrm l os _)
theorem qve:∀(a b:List Nat),qbt (a++b)=qbt a ||| qbt b
 | [],b=>by simp[qbt]
 | x::a,b=>by simp only[jc0,qbt,qve a,Nat.or_assoc]
theorem q8g{s:SmR}{vs:List IV}{S:IS}:FrO S (exR s vs S):=fun r h=>by
 unfold exR at h;split at h
 ·cases h
 rename_i x0 rows subs S1 w hrd;cases hb:ndB (rows++subs) with
 | false=>rw[hb] at h;cases h
 | true =>
 rw[hb,jab] at h;split at h
 ·cases h
 split at h
 ·cases h
 rename_i y z hf;cases h;have h1:=qeo _ hrd;have h2:=(qr9 subs S1).trans ((qrm rows (qar (refs s.ps) (fun k=>S1.next+(k-mP s.ps)) (mP s.ps) z) _).trans (qo8 (newO s y z) _ 0));have h3:=h1.trans h2;rw[jfo,Nat.or_comm (qbt subs),<- qve] at h3;have h4:=h3.trans (FrX.refl _ (cond (Nat.blt 0 rows.length) 0 (2 ^ S1.next)));exact h4
theorem zcl{s:SmR}{vs:List IV}{S:IS}{r:Res}(h:exR s vs S=some r)(hw:r.wr=0):False:=by
 unfold exR at h;split at h
 ·cases h
 rename_i x0 rows subs S1 w hrd;cases hb:ndB (rows++subs) with
 | false=>rw[hb] at h;cases h
 | true =>
 rw[hb,jab] at h;split at h
 ·cases h
 split at h
 ·cases h
 cases h;have h2:qbt (rows++subs)=0:=(or_zero (or_zero hw).1).2;cases rows with
 | nil =>
  have h3:2 ^ S1.next=0:=(or_zero hw).2
  have:=jfc (n:=S1.next);omega
 | cons id rows =>
  have:=q0b (l:=id::rows++subs) (id:=id) (by simp);rw[h2] at this;simp at this
theorem qfg{P:Program}{f:Nat}{s:SmR}(hc:ConR P f s):HxOK P f (hxR s).f :=
 ⟨fun cl _ _ _ vs S r h T E us p _ hw hv=>q7i hc h p hw hv,fun cl _ vs S=>q8g,fun cl _ vs S r h hw _=>(zcl h hw).elim⟩

def ptrP:List PK->Nat->List IV
 | [],_=>[]
 | .dat _::l,k=>ptrP l k
 | .fn _::l,k=>ptrP l k
 | .ref r::l,k=>argK r k::ptrP l (k+1)
theorem qpj:∀(l:List PK) (k:Nat) (z:ElP (refs l)),qaq (refs l) idN k z=ptrP l k
 | [],_,_=>rfl
 | .dat _::l,k,z=>qpj l k z
 | .fn _::l,k,z=>qpj l k z
 | .ref r::l,k,z=>by
  show argK r (idN k)::qaq (refs l) idN (k+1) z.2=_;rw[qpj l];rfl
theorem qos{E E':Env}:∀(l:List PK) {k:Nat} {us:List Value},(∀j,j<mP l->qcf E E' (k+j) (k+j))->VRs E (ptrP l k) us->VRs E' (ptrP l k) us
 | [],k,us,hn,h=>by have:=h.1;cases us with|nil=>exact VRs.nil|cons _ _=>simp [ptrP] at this
 | .dat _::l,k,us,hn,h=>qos l hn h
 | .fn _::l,k,us,hn,h=>qos l hn h
 | .ref r::l,k,us,hn,h=>by
  obtain⟨u,us,rfl,a1,a2⟩:=VRs.inv (v:=argK r k) (cs:=ptrP l (k+1)) h;refine VRs.cons (q5g (hn 0 (by simp only[mP];omega)) a1) (qos l (fun j hj=>?_) a2);have:=hn (j+1) (by simp only[mP];omega)
  rwa [show k+(j+1)=k+1+j by omega] at this
theorem qft:∀(l:List PK) {k:Nat} {S S':IS} {x:ElP (refs l)} {q1 q2:List Nat} {w:Nat},rdP (refs l) S (ptrP l k)=some (x,q1,q2,S',w)->∀j,j<mP l->q1[j]?=some (k+j)
 | [],k,S,S',x,q1,q2,w,h,j,hj=>by simp[mP] at hj
 | .dat _::l,k,S,S',x,q1,q2,w,h,j,hj=>qft l h j hj
 | .fn _::l,k,S,S',x,q1,q2,w,h,j,hj=>qft l h j hj
 | .ref (.sl c)::l,k,S,S',x,q1,q2,w,h,j,hj=>by
  simp only[refs,ptrP,argK,rdP,rdS] at h;split at h<;>cases h;rename_i h2;cases j with
  | zero=>rfl
  | succ j =>
   have:=qft l h2 j (by simp only[mP] at hj;omega);rw[jau,this];congr 1;omega
 | .ref (.mp kc vc)::l,k,S,S',x,q1,q2,w,h,j,hj=>by
  simp only[refs,ptrP,argK,rdP,rdM] at h;split at h<;>try cases h
  rename_i h1;split at h1<;>cases h1;split at h<;>cases h;rename_i h2;cases j with
  | zero=>rfl
  | succ j =>
   have:=qft l h2 j (by simp only[mP] at hj;omega);rw[jau,this];congr 1;omega
 | .ref (.box r)::l,k,S,S',x,q1,q2,w,h,j,hj=>by
  simp only[refs,ptrP,argK,rdP] at h;split at h<;>try cases h
  split at h<;>try cases h
  split at h<;>cases h;rename_i h2;cases j with
  | zero=>rfl
  | succ j =>
   have:=qft l h2 j (by simp only[mP] at hj;omega);rw[jau,this];congr 1;omega
def lowN:Nat->Nat->List Nat
 | 0,_=>[]
 | m+1,k=>k::lowN m (k+1)
theorem q2g:∀(m k:Nat),(lowN m k).length=m
 | 0,_=>rfl
 | m+1,k=>jaw (·+1) (q2g m (k+1))
theorem qw9:∀(m k j:Nat),j<m->(lowN m k)[j]?=some (k+j)
 | 0,k,j,h=>absurd h (Nat.not_lt_zero j)
 | m+1,k,0,h=>rfl
 | m+1,k,j+1,h=>by
  have:=qw9 m (k+1) j (by omega);unfold lowN;rw[jau,this];congr 1;omega
def runQ(s:SmR)(r:Res):Option (ElR s.rts × ElP (refs s.ps)) :=
 match qin s.rts.length r.v with
 | none=>none
 | some vs=>match clR s.rts r.S vs with
  | none=>none
  | some (a,S2,_)=>match rdP (refs s.ps) S2 (ptrP s.ps 0) with
   | none=>none
   | some (b,_,subs,S3,_)=>cond (ndB (subs++idsQ s.rts a)&&(subs++idsQ s.rts a).all (Nat.ble (mP s.ps))) (match qcz s.rts a S3 with
    | none=>none
    | some y=>match fiP (refs s.ps) (lowN (mP s.ps) 0) subs S3 b with
     | none=>none
     | some z=>some (y,z)) none
theorem quj{E E':Env}(hm:∀b,b∈E'.m->b∈E.m)(hw:E'.w=E.w):∀(cs:List (Bool × TC)) {a:ElQ cs} {S:IS} {y:ElR cs} {k:Nat} {us:List Value},qcz cs a S=some y->(∀(j id:Nat),(idsQ cs a)[j]?=some id->qcf E E' id (k+j))->VRs E (valQ cs a) us->VRs E' (resV cs k y) us
 | [],a,S,y,k,us,h,hn,hv=>by have:=hv.1;cases us with|nil=>exact VRs.nil|cons _ _=>simp [valQ] at this
 | (true,c)::cs,a,S,y,k,us,h,hn,hv=>by
  obtain⟨u,us,rfl,a1,a2⟩:=VRs.inv (v:=.arr a.1) (cs:=valQ cs a.2) hv;simp only[qcz] at h;split at h<;>try cases h
  split at h<;>try cases h
  split at h<;>cases h;rename_i y' hy;refine VRs.cons ?_ (quj hm hw cs hy (fun j id hj=>?_) a2)
  ·cases a1 with
   | arr hA hh =>
    obtain⟨b1,b2,b3,b4,b5⟩:=hn 0 a.1 rfl hA;exact .arr b1 (b4.trans hh)
  ·have:=hn (j+1) id (by simp only[idsQ,jau];exact hj)
   rwa [show k+(j+1)=k+1+j by omega] at this
 | (false,c)::cs,a,S,y,k,us,h,hn,hv=>by
  obtain⟨u,us,rfl,a1,a2⟩:=VRs.inv (v:=asIV c a.1) (cs:=valQ cs a.2) hv;simp only[qcz] at h;split at h<;>cases h;rename_i y' hy;exact VRs.cons (qe9 hm hw a1) (quj hm hw cs hy hn a2)
theorem zij{n:Nat}{v:IV}{vs:List IV}{E:Env}{u:Value}(h:qin n v=some vs)(hv:VR E v u):∃us:List Value,VRs E vs us/\∀(E':Env) (ws:List IV),ws.length=n->VRs E' ws us->VR E' (tupI ws) u:=by
 unfold qin at h;cases hone:Nat.beq n 1 with
 | true =>
  rw[hone,jab] at h;cases h;have hlen:=jaj hone;exact⟨[u],VRs.cons hv VRs.nil,fun E' ws hl hw=>by
   rw[hlen] at hl;match ws,hl with
   | [a],_=>exact hw.2 0 (by simp) (by simp)⟩
 | false =>
  rw[hone,jah] at h;split at h<;>try cases h
  rename_i ws0;cases hb:Nat.beq ws0.length n with
  | false=>rw[hb] at h;cases h
  | true =>
  rw[hb,jab] at h;cases h;cases hv with
  | tup hl hh =>
  refine⟨_,⟨hl,hh⟩,fun E' ws hl' hw=>?_⟩;match ws,hl' with
  | [],_=>exact .tup hw.1 hw.2
  | [a],hl'=>rw[<- hl'] at hone;cases hone
  | a::b::ws,_=>exact .tup hw.1 hw.2
theorem q2o{s:SmR}{r:Res}{x:ElP s.ps}{y:ElR s.rts}{z:ElP (refs s.ps)}{E E1:Env}{us:List Value}{u:Value}(h:runQ s r=some (y,z))(p0:Pre T0 E (Sc s.ps x))(hargs:VRs E (qaq s.ps idN 0 x) us)
   (hpb:PostB (mP s.ps) T0 E (Sc s.ps x) E1 r.S) (hv:VR E1 r.v u):∃E',E'.w=E1.w/\VR E' (vB s (mP s.ps) y) u/\PostB (mP s.ps) T0 E (Sc s.ps x) E' (ScB s y z):=by
 have hT:∀id,mP s.ps<=id->T0.w id:=fun _ _=>trivial;have p1:=hpb.pre hT p0;unfold runQ at h;split at h
 · cases h
 rename_i vs hvs;split at h
 · cases h
 rename_i a S2 w2 ha;split at h
 · cases h
 rename_i b rows subs S3 w3 hb;cases hc:(ndB (subs++idsQ s.rts a)&&(subs++idsQ s.rts a).all (Nat.ble (mP s.ps))) with
 | false=>rw[hc] at h;cases h
 | true =>
 rw[hc,jab] at h;simp only[jae] at hc;obtain⟨hc1,hc2⟩:=hc;split at h
 · cases h
 rename_i y' hy;split at h<;>cases h;rename_i hz;obtain⟨us1,hus,hfin⟩:=zij hvs hv;obtain⟨E2,e2,q2,f2,hv2⟩:=qmo s.rts ha p1 (fun _ _=>trivial) hus;have p2:=q2.pre p1
 -- the pointers
 have hA0:∀k,k<mP s.ps->E.A k:=by
   have key:∀(l:List PK) (k:Nat) (x:ElP l) (us:List Value),VRs E (qaq l idN k x) us->∀j,j<mP l->E.A (k+j):=by
     intro l;induction l with
     | nil=>intro k x us _ j hj;simp [mP] at hj
     | cons pk l ih =>
       intro k x us hv j hj;cases pk with
       | dat c =>
         obtain⟨u,us,rfl,a1,a2⟩:=VRs.inv (v:=asIV c x.1) (cs:=qaq l idN k x.2) hv;exact ih k x.2 us a2 j hj
       | fn f =>
         obtain⟨u,us,rfl,a1,a2⟩:=VRs.inv (v:=.fn f []) (cs:=qaq l idN k x) hv;exact ih k x us a2 j hj
       | ref r =>
         obtain⟨u,us,rfl,a1,a2⟩:=VRs.inv (v:=argK r (idN k)) (cs:=qaq l idN (k+1) x.2) hv;cases j with
         | zero=>exact qx9 a1
         | succ j =>
           have:=ih (k+1) x.2 us a2 j (by simp only[mP] at hj;omega)
           rwa [show k+(j+1)=k+1+j by omega]
   intro k hk;have:=key s.ps 0 x us hargs k hk
   rwa [jbk] at this
 have hptr:∃us',VRs E2 (ptrP s.ps 0) us':=by
   obtain⟨us',h'⟩:=qpw s.ps b hargs;rw[qpj] at h';refine⟨us',qos s.ps (fun j hj hA=>?_) h'⟩;rw[jbk] at hA ⊢;obtain⟨a1,a2,a3,a4,a5⟩:=hpb.alw j hj hA;obtain⟨b1,b2,b3,b4,b5⟩:=(q2.env p1).alw _ a1;exact⟨b1,b2.trans a2,b3.trans a3,b4.trans a4,b5.trans a5⟩
 obtain⟨us',hptr⟩:=hptr;obtain⟨E3,e3,q3,f3,l1,l2,A3,b2,b3⟩:=qem (refs s.ps) hb p2 (fun _ _=>trivial) hptr;have p3:=q3.pre p2;obtain⟨_,c2,c3⟩:=qeq (refs s.ps) hz l2;obtain⟨g1,g2⟩:=qni s.rts hy;have hnd:=qkk hc1;have hqB:∀id∈subs++idsQ s.rts a,mP s.ps<=id:=fun id hi=>jak ((jbg.1 hc2) id hi);have hnew:∀j:Nat,(newO s y z)[j]?=((subs++idsQ s.rts a)[j]?).bind fun id=>S3.heap.get id:=qqm (by rw[qie,l2]) c3 g2;have hlen:(newO s y z).length=(subs++idsQ s.rts a).length:=by
   unfold newO;rw[jag,jag,qie,l2,g1]
 generalize hq:subs++idsQ s.rts a=q at hnd hqB hnew hlen;have hlow:∀k,k<mP s.ps->ol (mP s.ps) q k=k:=fun k hk=>jam hk;have hhigh:∀k,mP s.ps<=k->k<mP s.ps+q.length->q[k-mP s.ps]?=some (ol (mP s.ps) q k):=fun k h1 h2=>by
   have h3:k-mP s.ps<q.length:=by omega
   unfold ol;rw[jan (by omega),jai,jac h3];rfl
 have hnum:∀k,k<mP s.ps+q.length->qcf E3 (renE (mP s.ps) q E3) (ol (mP s.ps) q k) k:=fun k hk hA=>⟨⟨hk,hA⟩,rfl,rfl,rfl,rfl⟩;have hns:Nums (ol (mP s.ps) q) (mP s.ps) subs:=fun j id hj=>by
   have h1:j<subs.length:=(ja9.1 hj).1;have h2:=hhigh (mP s.ps+j) (by omega) (by rw[<- hq,jag];omega);rw[ja1,<- hq,jas h1,hj,hq] at h2;exact(jb1 h2).symm
 have hlr:rows=lowN (mP s.ps) 0:=jc6 fun j=>by
   by_cases hj:j<mP s.ps
   · rw[qft s.ps hb j hj,qw9 _ _ _ hj]
   · rw[jbt (by rw[l1,qbp];omega),jbt (by rw[q2g];omega)]
 rw[<- hlr] at hz;have hrows:=qst hz l2 p3 (fun _ _=>trivial) (b3 _ _ hns);have hScB:∀k,(ScB s y z).H k=(qar (refs s.ps) idN (mP s.ps) z++newO s y z)[k]?:=fun k=>qgg _ k;have hsl:nP (refs s.ps)<=q.length:=by rw[<- hq,jag,l2];omega
 have hre:=PostB.re (T:=T0) (B:=mP s.ps) (q:=q) (S':=ScB s y z) p3 hT hnd hqB (by
     unfold ScB;rw[qcm,jag,qa0,qbp,hlen];have:S0.next=0:=rfl
     omega) (fun k o hk hAk ho=>by
     rw[hScB] at ho;by_cases hkm:k<mP s.ps
     · rw[jas (by rw[qa0,qbp];exact hkm)] at ho;obtain⟨r',nj,xj,rfl,d2,d3,d4⟩:=qff _ _ _ _ _ _ ho;obtain⟨id,i1,i2,i3,i4,i5⟩:=hrows k _ (d4 _);have:=qft s.ps hb k hkm;rw[jbk,i1] at this;cases this;have e:=hlow k hkm;rw[e];refine⟨OR.objK_to (E:=E3) (E':=renE (mP s.ps) q E3) (fun _ h=>h) rfl i2 (by have:=hnum k hk;rwa [e] at this) (fun j a b=>hnum j (by omega)) i4,fun hl=>i5 (qn4.trans hl),fun hb=>?_⟩;show E3.hb (ol (mP s.ps) q k)=true;rw[e];exact i3 (qit.trans hb)
     · rw[jax (by rw[qa0,qbp];omega),qa0,qbp] at ho;have hd:=qrr (jbu ho);rw[hnew,hhigh k (by omega) hk] at ho;exact⟨OR.dat_to (E:=E3) (E':=renE (mP s.ps) q E3) (fun _ h=>h) rfl hAk (hnum k hk) hd (p3.st.objs _ trivial hAk _ ho),fun hl=>⟨_,ho,hl⟩,fun hbk=>p3.st.blk _ trivial hAk _ ho hbk⟩)
 have hpost:=Post.trans p1 q2 f2 q3;have hfr:=f2.trans f3 q2.le;refine⟨renE (mP s.ps) q E3,e3.trans e2,?_,(hpb.trans (PostB.of hpb.le hT hpost hfr)).trans hre⟩;refine hfin _ _ (qjp _ _ _) (quj (E:=E3) (E':=renE (mP s.ps) q E3) (fun _ h=>h) rfl s.rts hy (fun j id hj=>?_) (hv2.mono (q3.env p2)));have h1:j<(idsQ s.rts a).length:=(ja9.1 hj).1;have h2:mP s.ps+nP (refs s.ps)+j<mP s.ps+q.length:=by rw[<- hq,jag,l2];omega
 have h3:=hhigh _ (by omega) h2;rw[show mP s.ps+nP (refs s.ps)+j-mP s.ps=subs.length+j by omega,<- hq,jax (by omega),ja1,hj,hq] at h3;have h4:=jb1 h3;have:=hnum _ h2
 rwa [<- h4] at this
end Go.Jx
end
