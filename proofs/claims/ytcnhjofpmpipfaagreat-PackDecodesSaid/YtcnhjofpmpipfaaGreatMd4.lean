/- Texts: Jvs, Jhx, Jra, Qsp, Qg1, Qp1, Qg2, Jca, Jcb, Jcc, Jcd, Jce, Jcf, Jcl, Qcl, Qp2, Qp3, Qnm, Rsp, Rg1, Rp1, Rp2, Rg2. -/
import Derived.Test.YtcnhjofpmpipfaaGreatMd3
import Derived.Test.YtcnhjofpmpipfaaGreatMd1
import Derived.Laws.RangeAny
set_option linter.unusedVariables false
section
namespace Go.Jx
open Go Go.Sx Go.RowKit
universe u

section
variable {P : Program} {tt : Nat -> Option TI} {nm : Nat -> Option Nm} {B nt lf : Nat} {round : Option Nat} {cl cl' : Cl}
def ClLe(cl cl':Cl):Prop:=∀t vs S r,cl t vs S=some r->cl' t vs S=some r
theorem zbe(h:ClLe cl cl'){fr:PT IV}{S:IS}{o:Oper}{r:Res}(hr:qbs P tt nt cl fr S o=some r):qbs P tt nt cl' fr S o=some r:=by
 obtain⟨dst,op,ty,pos,aft,g⟩:=o;cases op<;>try exact hr
 rename_i c;obtain⟨callee,args,ts⟩:=c;cases callee<;>try exact hr
 rename_i x;simp only[qbs,oget] at hr ⊢;generalize evo nt fr x=e1 at hr ⊢;cases e1 with
 | none=>cases hr
 | some v =>
  simp only at hr ⊢;generalize evL nt fr args.toList=e2 at hr ⊢;cases e2 with
  | none=>cases hr
  | some vs =>
   cases v<;>simp only at hr ⊢<;>first|(cases hr;done)|exact h _ _ _ _ hr
theorem qv3(h:ClLe cl cl'){ops:List Oper}:∀{l:List Oper} {fr:PT IV} {S:IS} {q:FRes},iseq P tt nt cl ops l fr S=some q->iseq P tt nt cl' ops l fr S=some q
 | [],fr,S,q,hq=>hq
 | o::l,fr,S,q,hq=>by
  unfold iseq at hq ⊢;cases hgk:gOK ops fr o.guard with
  | false=>rw[hgk] at hq;cases hq
  | true =>
  rw[hgk,jaa] at hq;rw[jaa];cases hw:qce ops nt fr o.guard with
  | true =>
   rw[hw,jaa] at hq;rw[jaa];cases hs:qbs P tt nt cl fr S o with
   | none=>rw[hs] at hq;cases hq
   | some r =>
    rw[hs] at hq;rw[zbe h hs];simp only at hq ⊢;cases hpn:qbr r.v with
    | some p=>rw[hpn] at hq;exact hq
    | none =>
    rw[hpn] at hq;simp only at hq ⊢;cases hn:iseq P tt nt cl ops l (putD o.dst r.v fr) r.S with
    | none=>rw[hn] at hq;cases hq
    | some q2=>rw[hn] at hq;rw[qv3 h hn];exact hq
  | false =>
   rw[hw,jad] at hq;rw[jad];exact qv3 h hq
theorem ql2(h:ClLe cl cl'){ops:List Oper}{bs:List Nat}:∀{l:List Oper} {k:Nat} {pn:Option (Nat × IV)} {fr:PT IV} {S:IS} {q:Recs},qbf P tt nt cl ops bs l k pn fr S=some q->qbf P tt nt cl' ops bs l k pn fr S=some q
 | [],k,pn,fr,S,q,hq=>hq
 | o::l,k,pn,fr,S,q,hq=>by
  unfold qbf at hq ⊢;cases hsk:qep bs k pn with
  | true =>
   rw[hsk,jaa] at hq;rw[jaa];cases hn:qbf P tt nt cl ops bs l (k+1) pn (putD o.dst .unk fr) S with
   | none=>rw[hn] at hq;cases hq
   | some q2=>rw[hn] at hq;rw[ql2 h hn];exact hq
  | false =>
  rw[hsk,jad] at hq;rw[jad];cases hgk:gOK ops fr o.guard with
  | false=>rw[hgk] at hq;cases hq
  | true =>
  rw[hgk,jaa] at hq;rw[jaa];cases hw:qce ops nt fr o.guard with
  | true =>
   rw[hw,jaa] at hq;rw[jaa];cases hs:qbs P tt nt cl fr S o with
   | none=>rw[hs] at hq;cases hq
   | some r =>
    rw[hs] at hq;rw[zbe h hs];simp only at hq ⊢;cases hpn:qbr r.v with
    | some p =>
     rw[hpn] at hq;cases pn with
     | some x=>cases hq
     | none =>
     simp only at hq ⊢;cases hf:qby p with
     | false=>rw[hf] at hq;cases hq
     | true =>
     rw[hf,jaa] at hq;rw[jaa];cases hn:qbf P tt nt cl ops bs l (k+1) (some (k,p)) (putD o.dst .unk fr) r.S with
     | none=>rw[hn] at hq;cases hq
     | some q2=>rw[hn] at hq;rw[ql2 h hn];exact hq
    | none =>
    rw[hpn] at hq;simp only at hq ⊢;cases hn:qbf P tt nt cl ops bs l (k+1) pn (putD o.dst r.v fr) r.S with
    | none=>rw[hn] at hq;cases hq
    | some q2=>rw[hn] at hq;rw[ql2 h hn];exact hq
  | false =>
   rw[hw,jad] at hq;rw[jad];cases hn:qbf P tt nt cl ops bs l (k+1) pn (putD o.dst (.tup []) fr) S with
   | none=>rw[hn] at hq;cases hq
   | some q2=>rw[hn] at hq;rw[ql2 h hn];exact hq
theorem z02(h:ClLe cl cl'){ops:List Oper}{fr:PT IV}{S:IS}{q:FRes}(hq:iany P tt nt cl ops fr S=some q):iany P tt nt cl' ops fr S=some q:=by
 unfold iany at hq ⊢;cases hn:qbf P tt nt cl ops (befs ops []) ops 0 none fr S with
 | none=>rw[hn] at hq;cases hq
 | some q2=>rw[hn] at hq;rw[ql2 h hn];exact hq
theorem zdo(h:ClLe cl cl'){f:Nat}{caps:List IV}{S:IS}{id:Nat}{fr:PT IV}{ds:List Nat}{rd:Nat}{q:CRes}(hq:ifin cl f caps S id fr ds rd=some q):ifin cl' f caps S id fr ds rd=some q:=by
 unfold ifin at hq ⊢;cases hn:cl (.fn f) (.yield id::caps) S with
 | none=>rw[hn] at hq;cases hq
 | some r=>rw[hn] at hq;rw[h _ _ _ _ hn];exact hq
theorem qvl(h:ClLe cl cl'):∀(c:Code) {fr:PT IV} {S:IS} {ds:List Nat} {q:CRes},qad P tt nm B nt cl lf round c fr S ds=some q->qad P tt nm B nt cl' lf round c fr S ds=some q:=by
 intro c;induction c with
 | skip=>intro fr S ds q hq;exact hq
 | label l=>intro fr S ds q hq;exact hq
 | exit id=>intro fr S ds q hq;exact hq
 | goto l=>intro fr S ds q hq;exact hq
 | ret=>intro fr S ds q hq;exact hq
 | refuse _=>intro fr S ds q hq;exact hq
 | region id ops draw =>
  intro fr S ds q hq;simp only[qad] at hq ⊢;cases hx:qcm nt (nm id) B fr S ds with
  | none=>rw[hx] at hq;cases hq
  | some x =>
   rw[hx] at hq;simp only at hq ⊢;cases draw with
   | true =>
    simp only[jaa] at hq ⊢;cases hn:iany P tt nt cl ops.toList x.fr x.S with
    | none=>rw[hn] at hq;cases hq
    | some r=>rw[hn] at hq;rw[z02 h hn];exact hq
   | false =>
    simp only[jad] at hq ⊢;cases hn:iseq P tt nt cl ops.toList ops.toList x.fr x.S with
    | none=>rw[hn] at hq;cases hq
    | some r=>rw[hn] at hq;rw[qv3 h hn];exact hq
 | seq x y ihx ihy =>
  intro fr S ds q hq;simp only[qad] at hq ⊢;cases hn:qad P tt nm B nt cl lf round x fr S ds with
  | none=>rw[hn] at hq;cases hq
  | some r =>
   rw[hn] at hq;rw[ihx hn];simp only at hq ⊢;cases he:r.e<;>rw[he] at hq<;>simp only at hq ⊢<;>try exact hq
   cases hn2:qad P tt nm B nt cl lf round y r.fr r.S r.ds with
   | none=>rw[hn2] at hq;cases hq
   | some r2=>rw[hn2] at hq;rw[ihy hn2];exact hq
 | cond c x y ihx ihy =>
  intro fr S ds q hq;simp only[qad] at hq ⊢;cases hv:evo nt fr c with
  | none=>rw[hv] at hq;cases hq
  | some v =>
   rw[hv] at hq;cases v<;>simp only at hq ⊢<;>try (cases hq;done)
   rename_i b;cases b with
   | true=>exact ihx hq
   | false=>exact ihy hq
 | block id c ih =>
  intro fr S ds q hq;simp only[qad] at hq ⊢;cases hn:qad P tt nm B nt cl lf round c fr S ds with
  | none=>rw[hn] at hq;cases hq
  | some r=>rw[hn] at hq;rw[ih hn];exact hq
 | scope c ih =>
  intro fr S ds q hq;simp only[qad] at hq ⊢;cases hn:qad P tt nm B nt cl lf round c fr S ds with
  | none=>rw[hn] at hq;cases hq
  | some r=>rw[hn] at hq;rw[ih hn];exact hq
 | loop c ih =>
  intro fr S ds q hq;simp only[qad] at hq ⊢;cases hm:qdq nm c with
  | some m =>
   rw[hm] at hq;simp only at hq ⊢;obtain⟨q0,hq0,rfl⟩:=qfq hq;have key:∀n fr S ds q,qb5 (qad P tt nm B nt cl lf round c) m.1 m.2 n fr S ds=some q->qb5 (qad P tt nm B nt cl' lf round c) m.1 m.2 n fr S ds=some q:=by
    intro n;induction n with
    | zero=>intro fr S ds q hq;exact hq
    | succ n ihn =>
     intro fr S ds q hq;unfold qb5 at hq ⊢;cases hn:qad P tt nm B nt cl lf round c fr S ds with
     | none=>rw[hn] at hq;cases hq
     | some r =>
      rw[hn] at hq;rw[ih hn];simp only at hq ⊢;cases hb:(subm r.rd m.1&&subm r.wr m.2) with
      | false=>rw[hb] at hq;cases hq
      | true =>
       rw[hb,jaa] at hq;rw[jaa];cases he:r.e<;>rw[he] at hq<;>simp only at hq ⊢<;>first|exact ihn _ _ _ _ hq|exact hq
   rw[key _ _ _ _ _ hq0];rfl
  | none =>
   rw[hm] at hq;simp only at hq ⊢;have key:∀n fr S ds q,qdk (qad P tt nm B nt cl lf round c) n fr S ds=some q->qdk (qad P tt nm B nt cl' lf round c) n fr S ds=some q:=by
    intro n;induction n with
    | zero=>intro fr S ds q hq;exact hq
    | succ n ihn =>
     intro fr S ds q hq;unfold qdk at hq ⊢;cases hn:qad P tt nm B nt cl lf round c fr S ds with
     | none=>rw[hn] at hq;cases hq
     | some r =>
      rw[hn] at hq;rw[ih hn];simp only at hq ⊢;cases he:r.e<;>rw[he] at hq<;>simp only at hq ⊢<;>try exact hq
      cases hn2:qdk (qad P tt nm B nt cl lf round c) n r.fr r.S r.ds with
      | none=>rw[hn2] at hq;cases hq
      | some r2=>rw[hn2] at hq;rw[ihn _ _ _ _ hn2];exact hq
   exact key _ _ _ _ _ hq
 | rangeFunc g ps assign body ih1 ih2 =>
  intro fr S ds q hq;simp only[qad] at hq ⊢;obtain⟨q0,hq0,rfl⟩:=qfq hq;cases hv:evo nt fr g with
  | none=>rw[hv] at hq0;cases hq0
  | some v =>
   rw[hv] at hq0;cases v<;>simp only at hq0 ⊢<;>try (cases hq0;done)
   cases round with
   | none=>simp only at hq0 ⊢;rw[zdo h hq0];rfl
   | some l =>
    simp only at hq0 ⊢;cases ho:S.heap.get l with
    | none=>rw[ho] at hq0;cases hq0
    | some o =>
     rw[ho] at hq0;cases o<;>simp only at hq0 ⊢<;>try (cases hq0;done)
     rw[zdo h hq0];rfl
end

def sixO(p:Nat->Int->Option Bool)(s:ByteArray)(b:Bool):Nat->Nat->Option Int
 | 0,_=>none
 | n+1,i=>cond (Nat.blt i s.size) (match p (i+(Utf8.decode s i).2) (Int.ofNat (Utf8.decode s i).1) with
  | none=>none
  | some a=>cond (decide (a=b)) (some (Int.ofNat i)) (sixO p s b n (i+(Utf8.decode s i).2))) (some (-1))
def sixF(cl:Cl)(vs:List IV)(S:IS):Option Res:=match vs with
 | [.str s,.fn g caps,.bool b]=>match sixO (fun q x=>ob (cl (.fn g) (.int .i32 x::caps) (S.new (.iter s q))) (ansB (below S.next))) s b (s.size+1) 0 with
  | none=>none
  | some i=>some ⟨.int .i64 i,S,below S.next,0⟩
 | _=>none
def sixK(clP:ClP)(R:Type)(vs:List IV)(S:IS)(kk:Res->Option R):Option R:=match vs with
 | [.str s,.fn g caps,.bool b]=>match sixO (fun q x=>clP Bool (.fn g) (.int .i32 x::caps) (S.new (.iter s q)) (ansB (below S.next))) s b (s.size+1) 0 with
  | none=>none
  | some i=>kk ⟨.int .i64 i,S,below S.next,0⟩
 | _=>none
theorem zox(cl:Cl)(clP:ClP)(h:∀R,ClEq cl (clP R))(R:Type)(vs:List IV)(S:IS)(kk:Res->Option R):sixK clP R vs S kk=ob (sixF cl vs S) kk:=by
 unfold sixK sixF;split
 ·rename_i s g caps b;simp only[h Bool _ _ _ _];cases sixO (fun q x=>ob (cl (.fn g) (.int .i32 x::caps) (S.new (.iter s q))) (ansB (below S.next))) s b (s.size+1) 0<;>rfl
 ·rfl
def zga:Hx:=⟨sixF,sixK,zox⟩
theorem q01{cl:Cl}{vs:List IV}{S:IS}{r:Res}(h:sixF cl vs S=some r):∃s g caps b i,vs=[.str s,.fn g caps,.bool b]/\sixO (fun q x=>ob (cl (.fn g) (.int .i32 x::caps) (S.new (.iter s q))) (ansB (below S.next))) s b (s.size+1) 0=some i/\r=⟨.int .i64 i,S,below S.next,0⟩:=by
 unfold sixF at h;split at h
 ·rename_i s g caps b;split at h<;>cases h;rename_i i hi;exact⟨_,_,_,_,_,rfl,hi,rfl⟩
 ·cases h
def nmS(mr mw:Nat):Nat->Option Nm:=fun j=>cond (Nat.beq j 2) (some ⟨[1,2,10],[],[],[],[],mr,mw,true⟩) none
theorem mB_S(mr mw B:Nat):mB (nmS mr mw) B=B:=rfl
def frS(g:Nat)(caps:List IV)(b:Bool)(id:Nat):PT IV:=((PT.leaf.set (.fn g caps) 1).set (.bool b) 2).set (.ptr id 0) 10
def clT(test:Tgt->List IV->IS->Bool)(c:Res):Cl:=fun t vs S=>cond (test t vs S) (some c) none
structure SixFacts (P:Program) (tt:Nat->Option TI) (fi:FI) (A B L C:Code):Prop where
 body:fi.body=.seq A (.seq (.seq B (.block 0 (.loop L))) C)
 three:Nat.ble 3 fi.nt=true
 head:∀mr mw,okC (nmS mr mw) (fun k=>Nat.beq k 2) (fun k=>Nat.beq k 2) L (some 2)=true
 ab:∀(R:Type) (clK:ClK R) (B0 mr mw lf:Nat) (s:ByteArray) (g:Nat) (caps:List IV) (b:Bool) (S:IS) (kk:_->Option R),qa0 P tt (nmS mr mw) B0 fi.nt clK lf none (.seq A B) (qau [.str s,.fn g caps,.bool b] 0 .leaf) S [] (fun r=>kk (tup [1,2,10] r)) =
  kk (.normal,[.fn g caps,.bool b,.ptr S.next 0],S.new (.iter s 0),[],(mb B0 0).lor (mb B0 0),(mb B0 0).lor (mb B0 0))
 l:∀(R:Type) (B0 mr mw lf:Nat) (g:Nat) (caps:List IV) (b a:Bool) (id rd:Nat) (S S':IS) (test:Tgt->List IV->IS->Bool) (kk:_->Option R),qa0 P tt (nmS mr mw) B0 fi.nt (fun t vs S kk=>cond (test t vs S) (kk ⟨.bool a,S',rd,0⟩) none) lf none L (frS g caps b id) S [] (fun r=>kk (tup [1,2,6,10] r)) =
  match S.heap.get id with
  | some (.iter s p)=>cond (Nat.blt p s.size)
   (cond (test (.fn g) (.int .i32 (Int.ofNat (Utf8.decode s p).1)::caps) (S.set id (.iter s (p+(Utf8.decode s p).2))))
    (cond (decide (a=b))
     (kk (.ret,[.fn g caps,.bool b,.int .i64 (Int.ofNat p),.ptr id 0],S',[],(mb B0 0).lor (Nat.lor 0 ((mb B0 0).lor ((mb B0 (Nat.lor 0 (Nat.lor 0 (rd.lor 0)))).lor ((mb B0 0).lor 0)))),
      (mb B0 (Nat.lor 0 ((Nat.pow 2 id).lor 0))).lor (Nat.lor 0 ((mb B0 0).lor ((mb B0 0).lor ((mb B0 0).lor 0))))))
     (kk (.normal,[.fn g caps,.bool b,.unk,.ptr id 0],S',[],(mb B0 0).lor (Nat.lor 0 ((mb B0 0).lor ((mb B0 (Nat.lor 0 (Nat.lor 0 (rd.lor 0)))).lor 0))),
      (mb B0 (Nat.lor 0 ((Nat.pow 2 id).lor 0))).lor (Nat.lor 0 ((mb B0 0).lor ((mb B0 0).lor 0))))))
    none)
   (kk (.exit 0,[.fn g caps,.bool b,.unk,.ptr id 0],S,[],(mb B0 ((Nat.pow 2 id).lor 0)).lor 0,(mb B0 0).lor 0))
  | _=>none
 e:∀(R:Type) (clK:ClK R) (B0 mr mw lf:Nat) (fr:PT IV) (S:IS) (kk:CRes->Option R),qa0 P tt (nmS mr mw) B0 fi.nt clK lf none C fr S [] kk=kk ⟨.ret,fr.set (.int .i64 (-1)) 6,S,[],(mb B0 0).lor 0,(mb B0 0).lor 0⟩
 res:fi.res=[.tmp 6]
 nt6:Nat.blt 6 fi.nt=true
 lm:∀mr mw,qdq (nmS mr mw) L=some (mr,mw)
theorem PT.one_set{α:Type u}(x y:α):∀(f n:Nat),n<=f->(PT.one x f n).set y n=PT.one y f n
 | 0,n,h=>by
  obtain rfl:n=0:=by omega
  rfl
 | f+1,n,h=>by
  by_cases hn:n=0
  ·subst hn;rfl
  ·by_cases h2:n % 2=1
   ·simp only[PT.one,qa9 hn,jad,qdd h2,jaa,PT.set];rw[PT.one_set x y f _ (by omega)]
   ·simp only[PT.one,qa9 hn,jad,qa9 h2,PT.set];rw[PT.one_set x y f _ (by omega)]
theorem PT.set_set{α:Type u}(x y:α):∀(t:PT α) (n:Nat),(t.set x n).set y n=t.set y n
 | .leaf,n=>PT.one_set x y n n (jaq _)
 | .node v l r,n=>by
  by_cases hn:n=0
  ·subst hn;rfl
  ·by_cases h2:n % 2=1
   ·simp only[PT.set,qa9 hn,jad,qdd h2,jaa];rw[PT.set_set x y l]
   ·simp only[PT.set,qa9 hn,jad,qa9 h2];rw[PT.set_set x y r]
theorem IS.new_set(S:IS)(o o':IObj):(S.new o).set S.next o'=S.new o':=by
 unfold IS.new IS.set;simp only[PT.set_set]
theorem IS.new_get(S:IS)(o:IObj):(S.new o).heap.get S.next=some o:=by
 unfold IS.new;simp only[PT.get_set,jcl]
theorem q5m{a m:Nat}:subm a m=true↔∀j,a.testBit j=true->m.testBit j=true:=by
 constructor
 ·intro h j hj;exact qvo (T:=fun j=>m.testBit j=true) h (fun j hj=>hj) j hj
 ·intro h;unfold subm;have:a ||| m=m:=jd4 fun j=>by
   rw[jbv];cases ha:a.testBit j with
   | false=>rfl
   | true=>rw[h j ha];rfl
  rw[this];exact jcb m
theorem q68(n j:Nat):(below n).testBit j=decide (j<n):=by unfold below;exact jdc ..
theorem zdc{P:Program}{tt:Nat->Option TI}{fi:FI}{f:Nat}{nm:Nat->Option Nm}{lf:Nat}{cl:Cl}{vs:List IV}{S S1:IS}{fr:PT IV}{e:IEx}{rd wr:Nat}{k:IntKind}{i:Int}{t:Nat}(hz:frzF nm=false)(hm:P.follows .mixedOrders=true)(htt:TT P tt)(hfi:FIok P f fi)(hcl:ClOK P cl)(hfr:ClFr cl)
  (hb:Nat.ble vs.length fi.nt=true) (hr:qad P tt nm S.next fi.nt cl lf none fi.body (qau vs 0 .leaf) S []=some ⟨e,fr,S1,[],rd,wr⟩) (hw:wr % 2 ^ S.next=0) (he:e.leaves=true) (hres:fi.res=[.tmp t]) (hnt:Nat.blt t fi.nt=true) (hs:slot fr t=.int k i)
  {T:TW} {E:Env} {us:List Value} (p:Pre T E S) (hrd:tin T.r (below S.next)) (hv:VRs E vs us) (hnp:e.isPan=false:=by rfl):qam P f/\CallsIn Fence.wide 0 P f us.toArray E.w (RetE T E S ⟨.int k i,S,below S.next,0⟩):=by
 refine(fun x=>⟨x.1,x.2.mono fun _ _ h=>RetX.val h rfl⟩) <| qxe (fi:=fi) (r:=⟨.int k i,S,(rd ||| 0) % 2 ^ S.next,0⟩) hz hm htt hfi hcl hfr hb hr he ?_ p (q69 hrd) (fun j hj=>by simp at hj) hv;have e1:qez ([]:List Nat) S1=some (S1,0):=rfl;simp only[qef,e1,hres,ires,hnt,jaa,hs];cases e<;>first|(cases hnp;done)|skip
 all_goals simp only[tupI,igc,low2,low0,jec,hw,jcb,jcw,jaa]
variable {P : Program} {tt : Nat -> Option TI} {fi : FI} {A B L C : Code}
theorem ztv(F:SixFacts P tt fi A B L C){cl:Cl}(hcalm:Calm cl){s:ByteArray}{b:Bool}{g:Nat}{caps:List IV}{S:IS}{i:Int}{lf:Nat}:∀(fuel p:Nat) (fr:PT IV),(slot fr 1=.fn g caps/\slot fr 2=.bool b/\slot fr 10=.ptr S.next 0) ->
  sixO (fun q x=>ob (cl (.fn g) (.int .i32 x::caps) (S.new (.iter s q))) (ansB (below S.next))) s b fuel p=some i ->
  ∃r,qb5 (qad P tt (nmS (below (S.next+1)) (2 ^ S.next)) S.next fi.nt cl lf none L) (below (S.next+1)) (2 ^ S.next) fuel fr (S.new (.iter s p)) []=some r/\r.ds=[]/\r.rd=below (S.next+1)/\r.wr=2 ^ S.next/\((r.e=.ret/\slot r.fr 6=.int .i64 i)\/(r.e=.exit 0/\i=-1)):=by
 intro fuel;induction fuel with
 | zero=>intro p fr hs hi;cases hi
 | succ n ih =>
  intro p fr hs hi;have e1:=fun cl=>qik (P:=P) (tt:=tt) (B:=S.next) (nt:=fi.nt) (lf:=lf) (cl:=cl) (h:=2) (m:=⟨[1,2,10],[],[],[],[],below (S.next+1),2 ^ S.next,true⟩) rfl rfl (fr:=fr) (fr':=frS g caps b S.next) (by
   intro t ht;simp only[ja4,jdw,or_false] at ht;rcases ht with rfl|rfl|rfl
   ·exact hs.1
   ·exact hs.2.1
   ·exact hs.2.2) (c:=L) (S:=S.new (.iter s p)) (ds:=[]) (F.head _ _)
  have hb1:∀x,subm x (below S.next)=true->subm (mb S.next x) (below (S.next+1))=true:=fun x hx=>qr2 (by
   rw[q5m] at hx ⊢;intro j hj;have:=hx j hj;rw[q68] at this ⊢;simp only[ja6] at this ⊢;omega)
  have hb2:subm (mb S.next (2 ^ S.next)) (2 ^ S.next)=true:=qr2 (zo9 _);have hb3:subm (mb S.next (2 ^ S.next)) (below (S.next+1))=true:=qr2 (by
   rw[q5m];intro j hj;rw[Nat.testBit_two_pow] at hj;rw[q68];simp only[ja6] at hj ⊢;omega)
  have hpw:Nat.pow 2 S.next=2 ^ S.next:=rfl
  unfold sixO at hi;cases hlt:Nat.blt p s.size with
  | false =>
   rw[hlt,jad] at hi;cases hi;have e2:=F.l (IEx × List IV × IS × List Nat × Nat × Nat) S.next (below (S.next+1)) (2 ^ S.next) lf g caps b false S.next 0 (S.new (.iter s p)) S (fun _ _ _=>false) some
   rw[IS.new_get] at e2;simp only[hlt,jad,qgx,qib,qyv] at e2;have ec:(fun(t:Tgt) (vs:List IV) (S:IS) (kk:Res->Option (IEx × List IV × IS × List Nat × Nat × Nat))=>(none:Option (IEx × List IV × IS × List Nat × Nat × Nat)))=fun t vs S kk=>ob ((fun _ _ _=>none:Cl) t vs S) kk:=rfl;rw[ec] at e2;obtain⟨r,hr,ht⟩:=qhm e2;have hr:=qvl (cl':=cl) (fun t vs S r h=>by cases h) _ hr;simp only[tup,jcr] at ht;obtain⟨t1,t2,t3,t4,t5,t6⟩:=ht;refine⟨⟨.exit 0,r.fr,S.new (.iter s p),[],below (S.next+1),2 ^ S.next⟩,?_,rfl,rfl,rfl,.inr ⟨rfl,rfl⟩⟩;unfold qb5;rw[e1 cl];have hr':qad P tt (nmS (below (S.next+1)) (2 ^ S.next)) S.next fi.nt cl lf none L (frS g caps b S.next) (S.new (.iter s p)) []=some r:=hr
   simp only[hr',t5,t6,hpw,hb3,qlv,jcw,jaa,t1,t3,t4]
  | true =>
   rw[hlt,jaa] at hi;cases hc:cl (.fn g) (.int .i32 (Int.ofNat (Utf8.decode s p).1)::caps) (S.new (.iter s (p+(Utf8.decode s p).2))) with
   | none=>rw[hc] at hi;cases hi
   | some r0 =>
   rw[hc] at hi;simp only[ob] at hi;obtain⟨v0,S0',rd0,wr0⟩:=r0;cases v0<;>simp only[ansB] at hi<;>try (cases hi;done)
   rename_i a;cases hmk:(Nat.beq wr0 0&&subm rd0 (below S.next)) with
   | false=>rw[hmk] at hi;cases hi
   | true =>
   rw[hmk] at hi;simp only[jah] at hmk;have hw0:wr0=0:=jaj hmk.1;subst hw0;have hS:S0'=S.new (.iter s (p+(Utf8.decode s p).2)):=hcalm _ _ _ _ hc rfl rfl;subst hS;simp only[jaa] at hi;have hsm:=hb1 _ hmk.2
   let c0:Res:=⟨.bool a,S.new (.iter s (p+(Utf8.decode s p).2)),rd0,0⟩
   let test:Tgt->List IV->IS->Bool:=fun t vs S=>@decide (cl t vs S=some c0) (Classical.propDecidable _)
   have hle:ClLe (clT test c0) cl:=fun t vs S r h=>by
    unfold clT at h;cases ht:test t vs S with
    | false=>rw[ht] at h;cases h
    | true =>
     rw[ht] at h;cases h;exact @of_decide_eq_true _ (Classical.propDecidable _) ht
   have e2:=F.l (IEx × List IV × IS × List Nat × Nat × Nat) S.next (below (S.next+1)) (2 ^ S.next) lf g caps b a S.next rd0 (S.new (.iter s p)) (S.new (.iter s (p+(Utf8.decode s p).2))) test some
   rw[IS.new_get] at e2;have htest:test (.fn g) (.int .i32 (Int.ofNat (Utf8.decode s p).1)::caps) ((S.new (.iter s p)).set S.next (.iter s (p+(Utf8.decode s p).2)))=true:=by
    rw[IS.new_set];exact @decide_eq_true _ (Classical.propDecidable _) hc
   simp only[hlt,htest,jaa,qgx,qib,qyv] at e2;cases hab:decide (a=b) with
   | true =>
    rw[hab,jaa] at e2 hi;cases hi;have ec:(fun(t:Tgt) (vs:List IV) (S:IS) (kk:Res->Option (IEx × List IV × IS × List Nat × Nat × Nat))=>cond (test t vs S) (kk c0) none)=fun t vs S kk=>ob (clT test c0 t vs S) kk:=by
     funext t vs S kk;unfold clT;cases test t vs S<;>rfl
    rw[ec] at e2;obtain⟨r,hr,ht⟩:=qhm e2;have hr:=qvl hle _ hr;simp only[tup,jcr,jb5,jc5] at ht;obtain⟨t1,t2,t3,t4,t5,t6⟩:=ht;refine⟨⟨.ret,r.fr,S.new (.iter s (p+(Utf8.decode s p).2)),[],below (S.next+1),2 ^ S.next⟩,?_,rfl,rfl,rfl,.inl ⟨rfl,t2.2.2.1⟩⟩;unfold qb5;rw[e1 cl];have hr':qad P tt (nmS (below (S.next+1)) (2 ^ S.next)) S.next fi.nt cl lf none L (frS g caps b S.next) (S.new (.iter s p)) []=some r:=hr
    simp only[hr',t5,t6,hpw,hsm,hb2,jcw,jaa,t1,t3,t4]
   | false =>
    rw[hab,jad] at e2 hi;have ec:(fun(t:Tgt) (vs:List IV) (S:IS) (kk:Res->Option (IEx × List IV × IS × List Nat × Nat × Nat))=>cond (test t vs S) (kk c0) none)=fun t vs S kk=>ob (clT test c0 t vs S) kk:=by
     funext t vs S kk;unfold clT;cases test t vs S<;>rfl
    rw[ec] at e2;obtain⟨r,hr,ht⟩:=qhm e2;have hr:=qvl hle _ hr;simp only[tup,jcr,jb5,jc5] at ht;obtain⟨t1,t2,t3,t4,t5,t6⟩:=ht;obtain⟨q,q1,q2⟩:=ih (p+(Utf8.decode s p).2) r.fr ⟨t2.1,t2.2.1,t2.2.2.2.1⟩ hi;refine⟨q,?_,q2⟩;unfold qb5;rw[e1 cl];have hr':qad P tt (nmS (below (S.next+1)) (2 ^ S.next)) S.next fi.nt cl lf none L (frS g caps b S.next) (S.new (.iter s p)) []=some r:=hr
    simp only[hr',t5,t6,hpw,hsm,hb2,jcw,jaa,t1,t3,t4];exact q1
theorem zdu(n:Nat):mb n (2 ^ n) % 2 ^ n=0:=by
 unfold mb;cases Nat.beq n 0
 ·exact Nat.mod_self _
 ·exact Nat.zero_mod _
theorem zj6{f:Nat}(F:SixFacts P tt fi A B L C)(hm:P.follows .mixedOrders=true)(htt:TT P tt)(hfi:FIok P f fi):HxOK P f sixF:=by
 refine HxOK.of (fun cl hcl hfr hcalm vs S r h T E us p hrd hwr hv=>?_) (fun cl hfr vs S r h=>?_) (fun cl hcalm vs S r h _ _=>?_)
 ·obtain⟨s,g,caps,b,i,rfl,hi,rfl⟩:=q01 h;obtain⟨ra,hra,hta⟩:=qhm (cl:=cl) (F.ab (IEx × List IV × IS × List Nat × Nat × Nat) (fun t vs S kk=>ob (cl t vs S) kk) S.next (below (S.next+1)) (2 ^ S.next) (s.size+1) s g caps b S some);obtain⟨rae,rafr,raS,rads,rard,rawr⟩:=ra;simp only[tup,jcr,jb5,List.map_nil,jc5,qgx,qib] at hta;obtain⟨rfl,⟨s1,s2,s3,_⟩,rfl,rfl,rfl,rfl⟩:=hta;obtain⟨r,hr,hds,hrd2,hwr2,hcase⟩:=ztv F hcalm (lf:=s.size+1) (s.size+1) 0 rafr ⟨s1,s2,s3⟩ hi;obtain⟨re,rfr,rS,rds,rrd,rwr⟩:=r;simp only at hds hrd2 hwr2 hcase;subst hds;subst hrd2;subst hwr2;simp only[qad] at hra;cases hA:qad P tt (nmS (below (S.next+1)) (2 ^ S.next)) S.next fi.nt cl (s.size+1) none A (qau [.str s,.fn g caps,.bool b] 0 .leaf) S [] with
  | none=>rw[hA] at hra;cases hra
  | some qa =>
  rw[hA] at hra;simp only at hra;obtain⟨qe,qfr,qS,qds,qrd,qwr⟩:=qa;cases qe<;>simp only at hra<;>try (cases hra;done)
  cases hB:qad P tt (nmS (below (S.next+1)) (2 ^ S.next)) S.next fi.nt cl (s.size+1) none B qfr qS qds with
  | none=>rw[hB] at hra;cases hra
  | some qb =>
  rw[hB] at hra;obtain⟨be,bfr,bS,bds,brd,bwr⟩:=qb;simp only[CRes.or,jay,CRes.mk.injEq] at hra;obtain⟨rfl,rfl,rfl,rfl,h5,h6⟩:=hra;obtain⟨z1,z2⟩:qwr=0/\bwr=0:=by
   constructor
   ·exact jd4 fun j=>by have:=jb2 (fun x=>x.testBit j) h6;simp [jbv] at this;simp [this.1]
   ·exact jd4 fun j=>by have:=jb2 (fun x=>x.testBit j) h6;simp [jbv] at this;simp [this.2]
  subst z1;subst z2;rcases hcase with ⟨he,hs⟩|⟨he,hi2⟩
  ·subst he;refine zdc (vs:=[.str s,.fn g caps,.bool b]) (nm:=nmS (below (S.next+1)) (2 ^ S.next)) (lf:=s.size+1) (fr:=rfr) (e:=.ret) (k:=.i64) (i:=i) (t:=6) (S1:=rS) (rd:=qrd ||| (brd ||| mb S.next (below (S.next+1)))) (wr:=mb S.next (2 ^ S.next)) rfl hm htt hfi hcl hfr F.three ?_ (zdu _) rfl F.res F.nt6 hs p hrd hv;rw[F.body];simp only[qad,hA,hB,F.lm,hr,mbO,mbR,mB_S,CRes.or,jds]
  ·subst he;subst hi2;have hc:=runK (F.e CRes (fun t vs S kk=>ob (cl t vs S) kk) S.next (below (S.next+1)) (2 ^ S.next) (s.size+1) rfr rS some);refine zdc (vs:=[.str s,.fn g caps,.bool b]) (nm:=nmS (below (S.next+1)) (2 ^ S.next)) (lf:=s.size+1) (fr:=rfr.set (.int .i64 (-1)) 6) (e:=.ret) (k:=.i64) (i:=-1) (t:=6) (S1:=rS) (rd:=qrd ||| ((brd ||| mb S.next (below (S.next+1))) ||| 0)) (wr:=mb S.next (2 ^ S.next)) rfl hm htt hfi hcl hfr F.three ?_ (zdu _) rfl F.res F.nt6 (by rw[qdv,jal rfl]) p hrd hv;rw[F.body];simp only[qad,hA,hB,F.lm,hr,mbO,mbR,mB_S,qgx,CRes.or,jds,jcb,jaa,hc,qib,jec]
 ·obtain⟨_,_,_,_,_,_,_,rfl⟩:=q01 h;exact FrO.same _ rfl
 ·obtain⟨_,_,_,_,_,_,_,rfl⟩:=q01 h;rfl
end Go.Jx
end

noncomputable section
set_option maxRecDepth 100000
namespace Go.Proofs.YtcnhjofpmpipfaaGreat
open Go Go.Sx Go.RowKit Go.Jx
theorem zsq:IdxFacts Tryz.prog ttT.get cForm qzk (cL qkq) (cL (cL (cR qkq))) (cB (cB (cR (cL (cR qkq))))) (cR (cR qkq)) :=
 ⟨by kernel_rfl,by kernel_rfl,fun mr=>by kernel_rfl,fun R clK B0 mr lf l g caps S kk=>by kernel_rfl,fun R clK B0 mr lf l g caps S kk=>by kernel_rfl,fun R clK B0 mr lf l g caps S i kk=>by kernel_rfl,fun R clK B0 mr lf fr S kk=>by kernel_rfl,by kernel_rfl,by kernel_rfl,fun mr=>by kernel_rfl⟩
theorem zvg:HxOK Tryz.prog 117 (idxF cForm):=q9a zsq qd5 ttOK q2u
theorem zz9:IdxFacts Tryz.prog ttT.get cCol qv6 (cL qlu) (cL (cL (cR qlu))) (cB (cB (cR (cL (cR qlu))))) (cR (cR qlu)) :=
 ⟨by kernel_rfl,by kernel_rfl,fun mr=>by kernel_rfl,fun R clK B0 mr lf l g caps S kk=>by kernel_rfl,fun R clK B0 mr lf l g caps S kk=>by kernel_rfl,fun R clK B0 mr lf l g caps S i kk=>by kernel_rfl,fun R clK B0 mr lf fr S kk=>by kernel_rfl,by kernel_rfl,by kernel_rfl,fun mr=>by kernel_rfl⟩
theorem zzq:HxOK Tryz.prog 132 (idxF cCol):=q9a zz9 qd5 ttOK q5j
theorem zhx:SixFacts Tryz.prog ttT.get qvh (cL qo5) (cL (cL (cR qo5))) (cB (cB (cR (cL (cR qo5))))) (cR (cR qo5)) :=
 ⟨by kernel_rfl,by kernel_rfl,fun mr mw=>by kernel_rfl,fun R clK B0 mr mw lf s g caps b S kk=>by kernel_rfl,fun R B0 mr mw lf g caps b a id rd S S' test kk=>by kernel_rfl,fun R clK B0 mr mw lf fr S kk=>by kernel_rfl,by kernel_rfl,by kernel_rfl,fun mr mw=>by kernel_rfl⟩
theorem zzo:HxOK Tryz.prog 144 sixF:=zj6 zhx qd5 ttOK q55
end Go.Proofs.YtcnhjofpmpipfaaGreat
end

section
namespace Go.Jx
open Go Go.Sx Go.RowKit
universe u

theorem qf6{α:Type}(b:Bool)(x y:α):cond b x y=if b=true then x else y:=by cases b<;>rfl
theorem oL:Int.ofNat 0=0/\Int.ofNat 1=1/\Int.ofNat 2=2/\Int.ofNat 3=3/\Int.ofNat 4=4/\Int.ofNat 5=5/\Int.ofNat 6=6/\Int.ofNat 7=7/\Int.ofNat 8=8/\Int.ofNat 9=9/\Int.ofNat 10=10/\Int.ofNat 12=12/\Int.ofNat 16=16/\Int.ofNat 20=20/\Int.ofNat 24=24/\Int.ofNat 30=30/\Int.ofNat 31=31/\Int.ofNat 40=40/\Int.ofNat 45=45/\Int.ofNat 48=48/\Int.ofNat 57=57/\Int.ofNat 60=60/\Int.ofNat 64=64/\Int.ofNat 65=65/\Int.ofNat 70=70/\Int.ofNat 90=90/\Int.ofNat 95=95/\Int.ofNat 97=97/\Int.ofNat 100=100/\Int.ofNat 122=122/\Int.ofNat 127=127/\Int.ofNat 128=128/\Int.ofNat 200=200/\Int.ofNat 256=256/\Int.ofNat 400=400/\Int.ofNat 410=410/\Int.ofNat 1500=1500/\Int.ofNat 60000=60000/\Int.ofNat 60010=60010/\Int.ofNat 65536=65536/\Int.ofNat 16777216=16777216/\Int.ofNat 2147483647=2147483647/\Int.ofNat 1099511627776=1099511627776 :=
 ⟨rfl,rfl,rfl,rfl,rfl,rfl,rfl,rfl,rfl,rfl,rfl,rfl,rfl,rfl,rfl,rfl,rfl,rfl,rfl,rfl,rfl,rfl,rfl,rfl,rfl,rfl,rfl,rfl,rfl,rfl,rfl,rfl,rfl,rfl,rfl,rfl,rfl,rfl,rfl,rfl,rfl,rfl,rfl⟩
theorem oLn:Int.negSucc 0=-1/\Int.negSucc 1099511627775=-1099511627776:=⟨rfl,rfl⟩
theorem qbz{α:Type}{l:List α}{i:Nat}:jget l (Int.ofNat i)=l[i]?:=by unfold jget;rw[jal (by simp)];simp
theorem qf9{α:Type}{l:List α}{i:Int}(h0:0<=i)(h1:i<l.length):∃x,jget l i=some x/\l[i.toNat]?=some x/\x∈l:=by
 have h2:i.toNat<l.length:=by omega
 refine⟨l[i.toNat],?_,jab h2,ja3 h2⟩;unfold jget;rw[jal h0,jab h2]
theorem qm9:∀c:TC,1<=bsz c
 | .int k=>by cases k<;>simp [bsz]
 | .bool=>by simp[bsz]
 | .str=>by simp[bsz]
 | .list _=>by simp[bsz]
 | .two a b=>by have:=qm9 a;simp only[bsz];omega
def LF:Nat:=9223372036854775808
theorem qbj{c:TC}{l:El (.list c)}(h:WfE (.list c) l):List.length (α:=El c) l<LF:=by
 have h1:=h.1;have h2:=qm9 c;have:List.length (α:=El c) l*1<=List.length (α:=El c) l*bsz c:=jct _ h2;unfold LF;omega
theorem zmn{c:TC}{l:El (.list c)}(h:WfE (.list c) l){x:El c}(hx:List.Mem (α:=El c) x l):WfE c x:=h.2 x hx
theorem qxp{n:Nat}(h:n+1<LF):IntKind.i64.wrap (Int.add (Int.ofNat n) (Int.ofNat 1))=Int.ofNat (n+1):=by
 unfold LF at h;rw[show Int.add (Int.ofNat n) (Int.ofNat 1)=Int.ofNat (n+1) from rfl];exact qhx (by simp;omega)
structure Rnd {α:Type} (l:List α) (i:Nat) (v:α) (rest:List α):Prop where
 drop:l.drop i=v::rest
 mem:v∈l
 lt:i<l.length
 ilt:iltI (Int.ofNat i) (Int.ofNat l.length)=true
 get:jget l (Int.ofNat i)=some v
 get?:l[i]?=some v
 next:IntKind.i64.wrap (Int.add (Int.ofNat i) (Int.ofNat 1))=Int.ofNat (i+1)
 tail:l.drop (i+1)=rest
 take:l.take (i+1)=l.take i++[v]
theorem qaz(n:Nat):iltI (Int.ofNat n) (Int.ofNat n)=false:=by rw[qal];simp
theorem z0i{α:Type}{l:List α}{i:Nat}(h:i<l.length)(hl:l.length<LF):∃v rest,Rnd l i v rest:=by
 refine⟨l[i],l.drop (i+1),jbd h,ja3 h,h,by rw[qal];simp;omega,?_,jab h,qxp (by omega),rfl,?_⟩
 ·rw[qbz];exact jab h
 ·rw[List.take_succ_eq_append_getElem h]
theorem q6v{α σ A R:Type}{T:(A->Option R)->A->Option R}(l:List α)(mk:Int->σ->A)(I:Nat->σ->Prop)(g:List α->Nat->σ->Option R)(hl:l.length<LF)
  (hnil:∀K s,I l.length s->T K (mk (Int.ofNat l.length) s)=g [] l.length s)
  (hcons:∀K i v rest s,I i s->Rnd l i v rest->(∀s',I (i+1) s'->K (mk (Int.ofNat (i+1)) s')=g rest (i+1) s')->T K (mk (Int.ofNat i) s)=g (v::rest) i s) :
  ∀n i s,i<=l.length->I i s->l.length-i<n->rounds T n (mk (Int.ofNat i) s)=g (l.drop i) i s
 | 0,i,s,_,_,h=>by omega
 | n+1,i,s,hi,hI,h=>by
  show T (rounds T n) (mk (Int.ofNat i) s)=_;by_cases e:i=l.length
  ·subst e;rw[hnil _ _ hI,jea]
  ·obtain⟨v,rest,r⟩:=z0i (l:=l) (i:=i) (by omega) hl;rw[hcons (rounds T n) i v rest s hI r fun s' hI'=>?_,r.drop];rw[q6v l mk I g hl hnil hcons n (i+1) s' (by have:=r.lt;omega) hI' (by omega),r.tail]
theorem range0{α σ A R:Type}{T:(A->Option R)->A->Option R}(l:List α)(mk:Int->σ->A)(I:Nat->σ->Prop)(g:List α->Nat->σ->Option R)(hl:l.length<LF)
  (hnil:∀K s,I l.length s->T K (mk (Int.ofNat l.length) s)=g [] l.length s)
  (hcons:∀K i v rest s,I i s->Rnd l i v rest->(∀s',I (i+1) s'->K (mk (Int.ofNat (i+1)) s')=g rest (i+1) s')->T K (mk (Int.ofNat i) s)=g (v::rest) i s)
  (s:σ) (hI:I 0 s):rounds T LF (mk (Int.ofNat 0) s)=g l 0 s:=by
 have:=q6v l mk I g hl hnil hcons LF 0 s (jbm _) hI (by omega)
 rwa [jck] at this
theorem qbv{α R:Type}{T:(Int->Option R)->Int->Option R}(l:List α)(g:List α->Nat->Option R)(hl:l.length<LF)
  (hnil:∀K,T K (Int.ofNat l.length)=g [] l.length)
  (hcons:∀K i v rest,Rnd l i v rest->K (Int.ofNat (i+1))=g rest (i+1)->T K (Int.ofNat i)=g (v::rest) i):rounds T LF (Int.ofNat 0)=g l 0 :=
 range0 (σ:=Unit) l (fun i _=>i) (fun _ _=>True) (fun rest i _=>g rest i) hl (fun K _ _=>hnil K) (fun K i v rest _ _ r h=>hcons K i v rest r (h () trivial)) () trivial
theorem qy8{p:Nat->Int->Option Bool}{q:Int->Bool}(hp:∀i r,p i r=some (q r))(s:ByteArray)(b:Bool):∀(n i:Nat),s.size-i<n->∃k,sixO p s b n i=some k
 | 0,i,h=>by omega
 | n+1,i,h=>by
  unfold sixO;cases hlt:Nat.blt i s.size with
  | false=>exact⟨_,rfl⟩
  | true =>
   have h1:i<s.size:=by simpa using hlt
   simp only[jaa,hp];cases decide (q (Int.ofNat (Utf8.decode s i).1)=b) with
   | true=>exact⟨_,rfl⟩
   | false =>
    rw[jad];have:=zop s i;exact qy8 hp s b n _ (by omega)
namespace S
def idx{α:Type}(p:α->Bool)(l:List α):Int:=match l.findIdx? p with
 | some j=>Int.ofNat j
 | none=>-1
theorem idx_nonneg{α:Type}(p:α->Bool)(l:List α):0<=idx p l↔l.any p=true:=by
 unfold idx;cases h:l.findIdx? p with
 | none =>
  simp only;rw[List.findIdx?_eq_none_iff] at h;constructor
  ·intro h;omega
  ·intro h2;rw[jby] at h2;obtain⟨x,hx,hp⟩:=h2;rw[h x hx] at hp;cases hp
 | some j =>
  simp only;obtain⟨h1,h2,h3⟩:=jdh.1 h;constructor
  ·intro _;rw[jby];exact⟨_,ja3 h1,h2⟩
  ·intro _;exact jb1 _
theorem idx_get{α:Type}{p:α->Bool}{l:List α}(h:0<=idx p l):∃x,jget l (idx p l)=some x/\l[(idx p l).toNat]?=some x/\p x=true/\x∈l/\idx p l<l.length/\l.find? p=some x:=by
 unfold idx at h ⊢;cases hf:l.findIdx? p with
 | none=>rw[hf] at h;simp at h
 | some j =>
  simp only;obtain⟨h1,h2,h3⟩:=jdh.1 hf;refine⟨l[j],?_,by simp[h1],h2,ja3 h1,by simpa using h1,?_⟩
  ·rw[qbz];exact jab h1
  ·rw[List.find?_eq_some_iff_getElem];exact⟨h2,j,h1,rfl,fun k hk=>by simpa using h3 k hk⟩
end S
theorem q10{α:Type}{p:α->Option Bool}(q:α->Bool){l:List α}(h:∀x∈l,p x=some (q x)):idxO p l 0=some (S.idx q l):=by
 rw[q9s h];unfold S.idx;cases l.findIdx? q<;>simp
end Go.Jx
end

section
noncomputable section
namespace Go.Proofs.YtcnhjofpmpipfaaGreat
open Go Go.Sx Go.RowKit Go.Jx
abbrev DVal:Type:=Int × Int
abbrev qaa:Type:=ByteArray × List DVal
abbrev qac:Type:=List qaa × List DVal
abbrev DCol:Type:=ByteArray × Int × ByteArray
abbrev qab:Type:=ByteArray × List DCol
abbrev qb7:Type:=ByteArray × Int × Int
abbrev qa7:Type:=ByteArray × ByteArray × List qb7
abbrev q1h:Type:=Int × ByteArray
namespace S
open Go.Jx.S
def within(n lo hi:Int):Bool:=decide (lo<=n)&&decide (n<=hi)
def unlessE(b:Bool)(e:Int):Int:=cond b 0 e
def first:List Int->Int
 | []=>0
 | e::l=>if e=0 then first l else e
def ANY:ByteArray:=S.lit [65,78,89]
def form(l:List qab)(n:ByteArray):Int:=idx (fun f=>keqS f.1 n) l
def col(l:List DCol)(n:ByteArray):Int:=idx (fun c=>keqS c.1 n) l
def qnq:qa7:=(S.lit [],S.lit [],[])
def zCol:DCol:=(S.lit [],0,S.lit [])
def ql1:qb7:=(S.lit [],0,0)
def z0h:qab:=(S.lit [],[])
def zVal:DVal:=(0,0)
def zNode:qaa:=(S.lit [],[])
def q0a:qac:=([],[])
def qy5:q1h:=(0,S.lit [])
def at_{α:Type}(d:α)(l:List α)(i:Int):α:=(l[i.toNat]?).getD d
def ruleOf(l:List qa7)(c:ByteArray):qa7 × Bool:=match l.find? (fun r=>keqS r.1 c) with
 | some r=>(r,true)
 | none=>(qnq,false)
def badR(r lo hi:Int):Bool:=!((decide (lo<=r)&&decide (r<=hi))||(decide (48<=r)&&decide (r<=57))||decide (r=95))
def named(s:ByteArray)(lo hi:Int):Bool :=
 if s=S.lit [] then false
 else if 20<s.size then false
 else match (qag s)[0]? with
  | none=>false
  | some b=>if b<lo then false else if hi<b then false else match sixO (fun _ r=>some (badR r lo hi)) s true (s.size+1) 0 with
   | none=>false
   | some i=>decide (i<0)
def classWords:List ByteArray:=[S.lit [73,78,84,69,71,69,82],S.lit [66,79,79,76,69,65,78],ANY,S.lit [78,79,78,69]]
def smallWords:List ByteArray:=[S.lit [116,114,117,101],S.lit [102,97,108,115,101],S.lit [118,111,105,100],S.lit [99,117,114,114,101,110,116],S.lit [114,101,115,117,108,116]]
def index(l:List ByteArray)(v:ByteArray):Int:=idx (fun x=>keqS v x) l
def class_(s:ByteArray):Bool:=named s 65 90&&decide (index classWords s<0)
def small(s:ByteArray):Bool:=named s 97 122&&decide (index smallWords s<0)
def ccGo(l:List DCol):Nat->List DCol->Int
 | _,[]=>0
 | k,c::r =>
  if small c.1=false then 4
  else if ¬col (l.take k) c.1<0 then 6
  else if within c.2.1 1 3=false then 1
  else if ¬c.2.1=3/\¬c.2.2=S.lit [] then 1
  else ccGo l (k+1) r
def checkCols(l:List DCol):Int:=if 30<l.length then 3 else ccGo l 0 l
def cfIn(l:List qab):List DCol->Bool
 | []=>true
 | c::r=>if c.2.1=3/\¬c.2.2=ANY/\form l c.2.2<0 then false else cfIn l r
def cfGo2(l:List qab):List qab->Int
 | []=>0
 | f::r=>if cfIn l f.2=true then cfGo2 l r else 5
def cfGo(l:List qab):Nat->List qab->Int
 | _,[]=>cfGo2 l l
 | k,f::r =>
  let e:=first [unlessE (class_ f.1) 4,unlessE (decide (form (l.take k) f.1<0)) 6,checkCols f.2]
  if e=0 then cfGo l (k+1) r else e
def checkForms(l:List qab):Int:=if 24<l.length then 3 else cfGo l 0 l
def value(v:DVal)(many:Int):Bool :=
 if v.1=1 then within v.2 (-1099511627776) 1099511627776
 else if v.1=2 then within v.2 0 1
 else if v.1=3 then decide (v.2=0)
 else if v.1=4 then within v.2 0 (IntKind.i64.wrap (Int.sub many (Int.ofNat 1)))
 else false
def refers(v:DVal):Bool:=decide (v.1=3)||decide (v.1=4)
def formed(g:qac):Int :=
 if 400<g.1.length\/60<g.2.length then 3
 else if g.1.any (fun n=>decide (30<n.2.length)) then 3
 else if g.1.any (fun n=>n.2.any fun v=>!value v (Int.ofNat g.1.length)) then 2
 else if g.2.any (fun v=>!value v (Int.ofNat g.1.length)||!refers v) then 2
 else 0
def refOK(g:qac)(v:DVal):Bool:=decide (v.1=4->0<=v.2/\v.2<g.1.length)
def suits(g:qac)(c:DCol)(v:DVal):Bool :=
 if c.2.1=1 then decide (v.1=1)
 else if c.2.1=2 then decide (v.1=2)
 else decide (v.1=3)||(decide (v.1=4)&&(decide (c.2.2=ANY)||decide ((at_ zNode g.1 v.2).1=c.2.2)))
def colsOf(l:List qab)(c:ByteArray):List DCol:=(at_ z0h l (form l c)).2
def suitsAll(g:qac):List DCol->List DVal->Bool
 | c::cs,v::vs=>if suits g c v=true then suitsAll g cs vs else false
 | _,_=>true
def typed(l:List qab)(g:qac):List qaa->Bool
 | []=>true
 | n::ns=>if n.2.length=(colsOf l n.1).length then (if suitsAll g (colsOf l n.1) n.2=true then typed l g ns else false) else false
def typedPre(l:List qab)(g:qac):Bool:=g.1.all fun n=>decide (0<=form l n.1)&&n.2.all (refOK g)
def check(l:List qab)(g:qac):Int :=
 if ¬formed g=0 then formed g
 else if g.1.any (fun n=>decide (form l n.1<0)) then 4
 else unlessE (typed l g g.1) 8
def checkG(l:List qab)(g:qac):Int:=if ¬checkForms l=0 then checkForms l else check l g
def qwz(l:List qa7)(a b:ByteArray):Bool:=decide (b=ANY)||((ruleOf l a).2&&decide ((ruleOf l a).1.2.1=b))
def fits(l:List qa7)(g:qb7)(a b:DCol):Bool :=
 if g.2.1=1 then decide (a.2.1=b.2.1)&&(decide (¬a.2.1=3)||qwz l a.2.2 b.2.2)
 else if g.2.1=2 then decide (a.2.1=2)&&decide (b.2.1=1)
 else if g.2.1=3 then decide (a.2.1=1)&&decide (b.2.1=2)
 else if g.2.1=4 then decide (a.2.1=1)&&decide (b.2.1=1)
 else if g.2.1=5 then decide (a.2.1=3)&&(decide (b.2.1=3)&&qwz l a.2.2 b.2.2)
 else if g.2.1=6 then decide (b.2.1=1)||(decide (b.2.1=2)&&within g.2.2 0 1)
 else decide (b.2.1=3)
def most(g:qb7):Int:=if g.2.1=4\/g.2.1=6 then 1099511627776 else 0
def give(l:List qa7)(g:qb7)(cols:List DCol)(b:DCol):Int :=
 if within g.2.1 1 5=true/\col cols g.1<0 then 4
 else if within g.2.1 1 7=false\/(within g.2.1 1 5=false/\¬g.1=S.lit [])\/within g.2.2 (-most g) (most g)=false\/(g.2.1=6/\b.2.1=2/\within g.2.2 0 1=false) then 1
 else unlessE (fits l g (if within g.2.1 1 5=true then at_ zCol cols (col cols g.1) else zCol) b) 8
def qzg(l:List qa7)(was:List DCol):List DCol->List qb7->Int
 | c::now,g::r=>if give l g was c=0 then qzg l was now r else give l g was c
 | _,_=>0
def ze0(a b:List qab)(l:List qa7):List qa7->Int
 | []=>0
 | r::rs =>
  if r.2.2.length=(colsOf b r.2.1).length then
   (if qzg l (colsOf a r.1) (colsOf b r.2.1) r.2.2=0 then ze0 a b l rs else qzg l (colsOf a r.1) (colsOf b r.2.1) r.2.2)
  else 2
def q5n(a b:List qab)(l:List qa7):List qab->Int
 | []=>ze0 a b l l
 | f::fs=>if (ruleOf l f.1).2=true then q5n a b l fs else 5
def crGo(a b:List qab)(l:List qa7):Nat->List qa7->Int
 | _,[]=>q5n a b l a
 | k,r::rs=>if form a r.1<0 then 4 else if form b r.2.1<0 then 4 else if (ruleOf (l.take k) r.1).2=true then 6 else crGo a b l (k+1) rs
def qon(a b:List qab)(l:List qa7):Int:=if 24<l.length then 3 else crGo a b l 0 l
def q57(a b:List qab)(l:List qa7):Int:=if first [checkForms a,checkForms b]=0 then qon a b l else first [checkForms a,checkForms b]
def src(g:qb7)(cols:List DCol)(l:List DVal):DVal:=at_ zVal l (col cols g.1)
def made(g:qb7)(cols:List DCol)(l:List DVal)(b:DCol):DVal × Bool :=
 if g.2.1=6 then (if b.2.1=2 then ((2,g.2.2),true) else ((1,g.2.2),true))
 else if g.2.1=7 then ((3,0),true)
 else if g.2.1=2 then ((1,(src g cols l).2),true)
 else if g.2.1=3 then ((2,(src g cols l).2),within (src g cols l).2 0 1)
 else if g.2.1=4 then (src g cols l,decide ((src g cols l).2<g.2.2))
 else if g.2.1=5 then (src g cols l,decide ((src g cols l).1=4))
 else (src g cols l,true)
def cvIn(cols:List DCol)(vs:List DVal):List qb7->List DCol->List DVal->Option (List DVal) × ByteArray
 | g::gs,c::cs,acc=>if (made g cols vs c).2=true then cvIn cols vs gs cs (acc++[(made g cols vs c).1]) else (none,c.1)
 | _,_,acc=>(some acc,S.lit [])
def cvGo(a b:List qab)(l:List qa7)(roots:List DVal):Nat->List qaa->List qaa->qac × q1h × Int
 | _,[],acc=>((acc,roots),qy5,0)
 | i,n::ns,acc =>
  let r:=(ruleOf l n.1).1
  match cvIn (colsOf a n.1) n.2 r.2.2 (colsOf b r.2.1) [] with
  | (some vs,_)=>cvGo a b l roots (i+1) ns (acc++[(r.2.1,vs)])
  | (none,c)=>(q0a,(Int.ofNat i,c),10)
def convert(a b:List qab)(l:List qa7)(g:qac):qac × q1h × Int :=
 if ¬q57 a b l=0 then (q0a,qy5,q57 a b l)
 else if ¬check a g=0 then (q0a,qy5,check a g)
 else cvGo a b l g.2 0 g.1 []
def keeps(l:List qa7)(a b:DCol):Bool :=
 if ¬a.2.1=3 then true
 else if a.2.2=ANY\/b.2.2=ANY then decide (a.2.2=b.2.2)
 else qwz l a.2.2 b.2.2
end S
def q8f:Sm:=⟨[.int .i64,.int .i64,.int .i64],[(false,.bool)],fun x=>some (S.within x.1 x.2.1 x.2.2.1,())⟩
def spz1:Sm:=⟨[.list (.int .i64)],[(false,.int .i64)],fun x=>some (S.first x.1,())⟩
def qxw:Sm:=⟨[.list cForm,.str],[(false,.int .i64)],fun x=>some (S.form x.1 x.2.1,())⟩
def za3:Sm:=⟨[.list cCol,.str],[(false,.int .i64)],fun x=>some (S.col x.1 x.2.1,())⟩
def q1g:Sm:=⟨[.str,.int .u8,.int .u8],[(false,.bool)],fun x=>some (S.named x.1 x.2.1 x.2.2.1,())⟩
def spz2:Sm:=⟨[.list .str,.str],[(false,.int .i64)],fun x=>some (S.index x.1 x.2.1,())⟩
def zax:Sm:=⟨[.str],[(false,.bool)],fun x=>some (S.class_ x.1,())⟩
def q3z:Sm:=⟨[.str],[(false,.bool)],fun x=>some (S.small x.1,())⟩
def spz3:Sm:=⟨[.list cCol],[(false,.int .i64)],fun x=>some (S.checkCols x.1,())⟩
def spz4:Sm:=⟨[.list cForm],[(false,.int .i64)],fun x=>some (S.checkForms x.1,())⟩
def q9l:Sm:=⟨[qai,cCol,cVal],[(false,.bool)],fun x=>cond (S.refOK x.1 x.2.2.1) (some (S.suits x.1 x.2.1 x.2.2.1,())) none⟩
def spz5:Sm:=⟨[.list cForm,qai],[(false,.bool)],fun x=>cond (S.typedPre x.1 x.2.1) (some (S.typed x.1 x.2.1 x.2.1.1,())) none⟩
end Go.Proofs.YtcnhjofpmpipfaaGreat

end
end

noncomputable section
set_option maxRecDepth 100000
namespace Go.Proofs.YtcnhjofpmpipfaaGreat
open Go Go.Sx Go.RowKit Go.Jx
abbrev qq5:Type:=Bool × Unit
abbrev zu3:Nat:=86
def q7q(lf:Nat)(x1:Int)(x2:Int)(x3:Int):Option qq5:=(cond (Bool.not (iltI x1 x2)) (some ((Bool.not (iltI x3 x1)),())) (some (false,())))
def qt5(lf:Nat)(x1:Int)(x2:Int)(x3:Int):Option qq5:=q7q lf x1 x2 x3
theorem zf6{g:ElA [(.int .i64),(.int .i64),(.int .i64)]->Option qq5}(hsm:SmOK Tryz.prog [])(hg:∀(x:ElA [(.int .i64),(.int .i64),(.int .i64)]) (y:qq5),WfA [(.int .i64),(.int .i64),(.int .i64)] x->g x=some y->∃lf,qt5 lf x.1 x.2.1 x.2.2.1=some y):Con Tryz.prog 86 ⟨[(.int .i64),(.int .i64),(.int .i64)],[(false,.bool)],g⟩ :=
 conU (fi:=fi86) (hxl:=[]) (fun lf x=>qt5 lf x.1 x.2.1 x.2.2.1) cm3 zsu trivial hsm hg
def nmz1:Nat->Option Nm:=fun k=>cond (Nat.beq k 2) (some ⟨[5,6,7],[],[],[],[],0,0,false⟩) (none)
def stz1:Nat->Bool:=fun k=>cond (Nat.beq k 2) true (false)
def hdz1:=stz1
abbrev Rtz1:Type:=Int × Unit
def q4p:List (Nat × Sm):=[]
def q7e:List (Nat × Hx):=[]
def clz1(R:Type)(lf:Nat):ClK R:=qay Tryz.prog ttT.get ftT.get (nm1 33 nmz1) (smL q4p) (hxL q7e) lf 20 R
abbrev idz1:Nat:=33
def qio(x1:(List Int))(p:Int):NRes:=(NRes.mk (.node none (.node none (.node none (.node (some (IV.int .i64 p)) .leaf .leaf) .leaf) (.node (some (IV.lst (TC.int .i64) x1)) .leaf .leaf)) (.node none .leaf (.node (some (IV.int .i64 (Int.ofNat x1.length))) .leaf .leaf))) (IS.mk .leaf 0) [] 0)
def q86(lf:Nat)(x1:(List Int))(L2:Int->Option Rtz1):Option Rtz1:=(L2 (Int.ofNat 0))
def qts(lf:Nat)(x1:(List Int))(L2:Int->Option Rtz1)(p:Int):Option Rtz1:=(cond (iltI p (Int.ofNat x1.length)) (match (jget x1 p) with|none=>none|some v0=>(cond (Bool.not (ieqI v0 (Int.ofNat 0))) (some (v0,())) (L2 (IntKind.i64.wrap (Int.add p (Int.ofNat 1)))))) (some ((Int.ofNat 0),())))
abbrev gz1:Type:=ElA [(.list (.int .i64))]->Option Rtz1
abbrev sz1(g:gz1):Sm:=⟨[(.list (.int .i64))],[(false,(.int .i64))],g⟩
abbrev Ez1(g:gz1)(J:JT Rtz1)(lf:Nat)(x1:(List Int)):=qbc Tryz.prog ttT.get nmz1 fi33.nt (clz1 _ lf) lf stz1 J fi33.body [] (qau (argV [(.list (.int .i64))] (x1,())) 0 .leaf) S0 [] (qar ttT.get fi33 (sz1 g))
abbrev Bz1(g:gz1)(J:JT Rtz1)(lf k:Nat)(ms:List Nat)(q:NRes):=qbi Tryz.prog ttT.get nmz1 fi33.nt (clz1 _ lf) lf stz1 J k fi33.body [] ms q (qar ttT.get fi33 (sz1 g))
theorem inz1(g:gz1)(J:JT Rtz1)(lf:Nat)(x1:(List Int)):Ez1 g J lf x1=q86 lf x1 (fun q=>J 2 [lf] (qio x1 q)):=by kernel_rfl
theorem ztr(g:gz1)(J:JT Rtz1)(lf:Nat)(x1:(List Int))(m1:Nat)(p:Int):Bz1 g J lf 2 [m1] (qio x1 p)=qts lf x1 (fun q=>J 2 [m1] (qio x1 q)) p:=by kernel_rfl
theorem ndz1:(regs fi33.body).Nodup:=by decide +kernel
theorem okz1:okC nmz1 stz1 hdz1 fi33.body none=true:=by kernel_rfl
def Az1(g:gz1)(lf:Nat):JT Rtz1:=atN Tryz.prog ttT.get nmz1 fi33 (sz1 g) (clz1 _ lf) lf hdz1
def qqr(lf:Nat)(x1:(List Int)):Nat->(Int)->Option Rtz1:=rounds fun K p=>qts lf x1 K p
theorem q6u(g:gz1)(lf:Nat)(x1:(List Int)):∀(n:Nat) (p:Int),Az1 g lf 2 [n] (qio x1 p)=qqr lf x1 n p
 | 0,p=>qax 2 [0] rfl _
 | n+1,p=>by
  have ih:=q6u g lf x1 n;refine(qao (qaj 20 _) ndz1 okz1 2 [n+1] [n] rfl _).trans ((ztr g (Az1 g lf) lf x1 n p).trans ?_);rw[(show (fun q=>Az1 g lf 2 [n] (qio x1 q))=(fun q=>qqr lf x1 n q) from funext ih)];rfl
def Fz1(lf:Nat)(x1:(List Int)):Option Rtz1:=q86 lf x1 (fun q=>qqr lf x1 lf q)
theorem zyr(g:gz1)(lf:Nat)(x1:(List Int)):Ez1 g (Az1 g lf) lf x1=Fz1 lf x1:=by
  refine(inz1 g (Az1 g lf) lf x1).trans ?_;rw[(show (fun q=>Az1 g lf 2 [lf] (qio x1 q))=(fun q=>qqr lf x1 lf q) from funext fun q=>q6u g lf x1 lf q)];rfl
theorem z1g:qa1 Tryz.prog q7e:=trivial
theorem mkz1{g:gz1}(hsm:SmOK Tryz.prog q4p)(hg:∀(x:ElA [(.list (.int .i64))]) (y:Rtz1),WfA [(.list (.int .i64))] x->g x=some y->∃lf,Fz1 lf x.1=some y):Con Tryz.prog 33 ⟨[(.list (.int .i64))],[(false,(.int .i64))],g⟩ :=
 conV (st:=stz1) (fun lf x=>Fz1 lf x.1) cm3 zp3 z1g ndz1 okz1 (fun lf x=>zyr g lf x.1) hsm hg
abbrev qva:Type:=Int × Unit
abbrev zya:Nat:=37
def q5f(lf:Nat)(x1:(List qab))(x2:ByteArray):Option qva:=(match (idxO (fun v0=>(some (keqS v0.1 x2))) x1 0) with|none=>none|some v1=>(some (v1,())))
def qqc(lf:Nat)(x1:(List qab))(x2:ByteArray):Option qva:=q5f lf x1 x2
theorem z05{g:ElA [(.list cForm),.str]->Option qva}(hsm:SmOK Tryz.prog [])(hg:∀(x:ElA [(.list cForm),.str]) (y:qva),WfA [(.list cForm),.str] x->g x=some y->∃lf,qqc lf x.1 x.2.1=some y):Con Tryz.prog 37 ⟨[(.list cForm),.str],[(false,(.int .i64))],g⟩ :=
 conU (fi:=fi37) (hxl:=[(117,q4g cForm)]) (fun lf x=>qqc lf x.1 x.2.1) cm3 zld ⟨zvg,trivial⟩ hsm hg
abbrev qqx:Type:=Int × Unit
abbrev z2m:Nat:=85
def zdx(lf:Nat)(x1:(List DCol))(x2:ByteArray):Option qqx:=(match (idxO (fun v0=>(some (keqS v0.1 x2))) x1 0) with|none=>none|some v1=>(some (v1,())))
def qqk(lf:Nat)(x1:(List DCol))(x2:ByteArray):Option qqx:=zdx lf x1 x2
theorem zou{g:ElA [(.list cCol),.str]->Option qqx}(hsm:SmOK Tryz.prog [])(hg:∀(x:ElA [(.list cCol),.str]) (y:qqx),WfA [(.list cCol),.str] x->g x=some y->∃lf,qqk lf x.1 x.2.1=some y):Con Tryz.prog 85 ⟨[(.list cCol),.str],[(false,(.int .i64))],g⟩ :=
 conU (fi:=fi85) (hxl:=[(132,q4g cCol)]) (fun lf x=>qqk lf x.1 x.2.1) cm3 zuu ⟨zzq,trivial⟩ hsm hg
abbrev qtt:Type:=Bool × Unit
abbrev z0c:Nat:=121
def q6n(lf:Nat)(x1:ByteArray)(x2:Int)(x3:Int):Option qtt:=(cond (keqS x1 (S.lit [])) (some (false,())) (cond (iltI (Int.ofNat 20) (Int.ofNat x1.size)) (some (false,())) (match (jget (qag x1) (Int.ofNat 0)) with|none=>none|some v0=>(cond (iltI v0 x2) (some (false,())) (match (jget (qag x1) (Int.ofNat 0)) with|none=>none|some v1=>(cond (iltI x3 v1) (some (false,())) (match (sixO (fun v2 v3=>(cond (Bool.not (iltI v3 (IntKind.wrap IntKind.i32 x2))) (cond (Bool.not (iltI (IntKind.wrap IntKind.i32 x3) v3)) (some false) (cond (Bool.not (iltI v3 (Int.ofNat 48))) (cond (Bool.not (iltI (Int.ofNat 57) v3)) (some false) (some (Bool.not (ieqI v3 (Int.ofNat 95))))) (some (Bool.not (ieqI v3 (Int.ofNat 95)))))) (cond (Bool.not (iltI v3 (Int.ofNat 48))) (cond (Bool.not (iltI (Int.ofNat 57) v3)) (some false) (some (Bool.not (ieqI v3 (Int.ofNat 95))))) (some (Bool.not (ieqI v3 (Int.ofNat 95))))))) x1 true (Nat.add x1.size 1) 0) with|none=>none|some v4=>(some ((iltI v4 (Int.ofNat 0)),())))))))))
def qti(lf:Nat)(x1:ByteArray)(x2:Int)(x3:Int):Option qtt:=q6n lf x1 x2 x3
theorem zsl{g:ElA [.str,(.int .u8),(.int .u8)]->Option qtt}(hsm:SmOK Tryz.prog [])(hg:∀(x:ElA [.str,(.int .u8),(.int .u8)]) (y:qtt),WfA [.str,(.int .u8),(.int .u8)] x->g x=some y->∃lf,qti lf x.1 x.2.1 x.2.2.1=some y):Con Tryz.prog 121 ⟨[.str,(.int .u8),(.int .u8)],[(false,.bool)],g⟩ :=
 conU (fi:=qwv) (hxl:=[(144,zga)]) (fun lf x=>qti lf x.1 x.2.1 x.2.2.1) cm3 zf7 ⟨zzo,trivial⟩ hsm hg
def nmz2:Nat->Option Nm:=fun k=>cond (Nat.beq k 2) (some ⟨[0,1,7,8],[],[],[],[],0,0,false⟩) (none)
def stz2:Nat->Bool:=fun k=>cond (Nat.beq k 2) true (false)
def hdz2:=stz2
abbrev Rtz2:Type:=Int × Unit
def q1q:List (Nat × Sm):=[]
def q9o:List (Nat × Hx):=[]
def clz2(R:Type)(lf:Nat):ClK R:=qay Tryz.prog ttT.get ftT.get (nm1 136 nmz2) (smL q1q) (hxL q9o) lf 20 R
abbrev idz2:Nat:=136
def qit(x1:(List ByteArray))(x2:ByteArray)(p:Int):NRes:=(NRes.mk (.node (some (IV.lst TC.str x1)) (.node (some (IV.str x2)) (.node none (.node (some (IV.int .i64 (Int.ofNat x1.length))) .leaf .leaf) .leaf) .leaf) (.node none (.node none (.node (some (IV.int .i64 p)) .leaf .leaf) .leaf) .leaf)) (IS.mk .leaf 0) [] 0)
def zc6(lf:Nat)(x1:(List ByteArray))(x2:ByteArray)(L2:Int->Option Rtz2):Option Rtz2:=(L2 (Int.ofNat 0))
def qso(lf:Nat)(x1:(List ByteArray))(x2:ByteArray)(L2:Int->Option Rtz2)(p:Int):Option Rtz2:=(cond (iltI p (Int.ofNat x1.length)) (match (jget x1 p) with|none=>none|some v0=>(cond (keqS x2 v0) (some (p,())) (L2 (IntKind.i64.wrap (Int.add p (Int.ofNat 1)))))) (some ((Int.negSucc 0),())))
abbrev gz2:Type:=ElA [(.list .str),.str]->Option Rtz2
abbrev sz2(g:gz2):Sm:=⟨[(.list .str),.str],[(false,(.int .i64))],g⟩
abbrev Ez2(g:gz2)(J:JT Rtz2)(lf:Nat)(x1:(List ByteArray))(x2:ByteArray):=qbc Tryz.prog ttT.get nmz2 qei.nt (clz2 _ lf) lf stz2 J qei.body [] (qau (argV [(.list .str),.str] (x1,x2,())) 0 .leaf) S0 [] (qar ttT.get qei (sz2 g))
abbrev Bz2(g:gz2)(J:JT Rtz2)(lf k:Nat)(ms:List Nat)(q:NRes):=qbi Tryz.prog ttT.get nmz2 qei.nt (clz2 _ lf) lf stz2 J k qei.body [] ms q (qar ttT.get qei (sz2 g))
theorem inz2(g:gz2)(J:JT Rtz2)(lf:Nat)(x1:(List ByteArray))(x2:ByteArray):Ez2 g J lf x1 x2=zc6 lf x1 x2 (fun q=>J 2 [lf] (qit x1 x2 q)):=by kernel_rfl
theorem zzk(g:gz2)(J:JT Rtz2)(lf:Nat)(x1:(List ByteArray))(x2:ByteArray)(m1:Nat)(p:Int):Bz2 g J lf 2 [m1] (qit x1 x2 p)=qso lf x1 x2 (fun q=>J 2 [m1] (qit x1 x2 q)) p:=by kernel_rfl
theorem ndz2:(regs qei.body).Nodup:=by decide +kernel
theorem okz2:okC nmz2 stz2 hdz2 qei.body none=true:=by kernel_rfl
def Az2(g:gz2)(lf:Nat):JT Rtz2:=atN Tryz.prog ttT.get nmz2 qei (sz2 g) (clz2 _ lf) lf hdz2
def qtu(lf:Nat)(x1:(List ByteArray))(x2:ByteArray):Nat->(Int)->Option Rtz2:=rounds fun K p=>qso lf x1 x2 K p
theorem zbk(g:gz2)(lf:Nat)(x1:(List ByteArray))(x2:ByteArray):∀(n:Nat) (p:Int),Az2 g lf 2 [n] (qit x1 x2 p)=qtu lf x1 x2 n p
 | 0,p=>qax 2 [0] rfl _
 | n+1,p=>by
  have ih:=zbk g lf x1 x2 n;refine(qao (qaj 20 _) ndz2 okz2 2 [n+1] [n] rfl _).trans ((zzk g (Az2 g lf) lf x1 x2 n p).trans ?_);rw[(show (fun q=>Az2 g lf 2 [n] (qit x1 x2 q))=(fun q=>qtu lf x1 x2 n q) from funext ih)];rfl
def Fz2(lf:Nat)(x1:(List ByteArray))(x2:ByteArray):Option Rtz2:=zc6 lf x1 x2 (fun q=>qtu lf x1 x2 lf q)
theorem zn3(g:gz2)(lf:Nat)(x1:(List ByteArray))(x2:ByteArray):Ez2 g (Az2 g lf) lf x1 x2=Fz2 lf x1 x2:=by
  refine(inz2 g (Az2 g lf) lf x1 x2).trans ?_;rw[(show (fun q=>Az2 g lf 2 [lf] (qit x1 x2 q))=(fun q=>qtu lf x1 x2 lf q) from funext fun q=>zbk g lf x1 x2 lf q)];rfl
theorem zpp:qa1 Tryz.prog q9o:=trivial
theorem mkz2{g:gz2}(hsm:SmOK Tryz.prog q1q)(hg:∀(x:ElA [(.list .str),.str]) (y:Rtz2),WfA [(.list .str),.str] x->g x=some y->∃lf,Fz2 lf x.1 x.2.1=some y):Con Tryz.prog 136 ⟨[(.list .str),.str],[(false,(.int .i64))],g⟩ :=
 conV (st:=stz2) (fun lf x=>Fz2 lf x.1 x.2.1) cm3 zuy zpp ndz2 okz2 (fun lf x=>zn3 g lf x.1 x.2.1) hsm hg
abbrev qqb:Type:=Bool × Unit
abbrev zis:Nat:=89
def zdr(lf:Nat)(x1:ByteArray):Option qqb:=(cond (S.named x1 (Int.ofNat 65) (Int.ofNat 90)) (some ((Bool.not (Bool.not (iltI (S.index (List.cons (S.lit [73,78,84,69,71,69,82]) (List.cons (S.lit [66,79,79,76,69,65,78]) (List.cons (S.lit [65,78,89]) [(S.lit [78,79,78,69])]))) x1) (Int.ofNat 0)))),())) (some (false,())))
def qs5(lf:Nat)(x1:ByteArray):Option qqb:=zdr lf x1
theorem zvz{g:ElA [.str]->Option qqb}(hsm:SmOK Tryz.prog [(121,q1g),(136,spz2)])(hg:∀(x:ElA [.str]) (y:qqb),WfA [.str] x->g x=some y->∃lf,qs5 lf x.1=some y):Con Tryz.prog 89 ⟨[.str],[(false,.bool)],g⟩ :=
 conU (fi:=fi89) (hxl:=[]) (fun lf x=>qs5 lf x.1) cm3 zhq trivial hsm hg
abbrev qud:Type:=Bool × Unit
abbrev zhf:Nat:=123
def q9n(lf:Nat)(x1:ByteArray):Option qud:=(cond (S.named x1 (Int.ofNat 97) (Int.ofNat 122)) (some ((Bool.not (Bool.not (iltI (S.index (List.cons (S.lit [116,114,117,101]) (List.cons (S.lit [102,97,108,115,101]) (List.cons (S.lit [118,111,105,100]) (List.cons (S.lit [99,117,114,114,101,110,116]) [(S.lit [114,101,115,117,108,116])])))) x1) (Int.ofNat 0)))),())) (some (false,())))
def qul(lf:Nat)(x1:ByteArray):Option qud:=q9n lf x1
theorem zt4{g:ElA [.str]->Option qud}(hsm:SmOK Tryz.prog [(121,q1g),(136,spz2)])(hg:∀(x:ElA [.str]) (y:qud),WfA [.str] x->g x=some y->∃lf,qul lf x.1=some y):Con Tryz.prog 123 ⟨[.str],[(false,.bool)],g⟩ :=
 conU (fi:=qv8) (hxl:=[]) (fun lf x=>qul lf x.1) cm3 zta trivial hsm hg
def nmz3:Nat->Option Nm:=fun k=>cond (Nat.beq k 4) (some ⟨[0,8,9,10],[],[],[],[],0,0,false⟩) (none)
def stz3:Nat->Bool:=fun k=>cond (Nat.beq k 4) true (false)
def hdz3:=stz3
abbrev Rtz3:Type:=Int × Unit
def zb6:List (Nat × Sm):=[(123,q3z),(85,za3),(86,q8f)]
def q1w:List (Nat × Hx):=[]
def clz3(R:Type)(lf:Nat):ClK R:=qay Tryz.prog ttT.get ftT.get (nm1 90 nmz3) (smL zb6) (hxL q1w) lf 20 R
abbrev idz3:Nat:=90
def qiv(x1:(List DCol))(p:Int):NRes:=(NRes.mk (.node (some (IV.lst cCol x1)) (.node none .leaf (.node none (.node (some (IV.int .i64 (Int.ofNat x1.length))) .leaf .leaf) .leaf)) (.node none (.node none (.node (some (IV.lst cCol x1)) .leaf .leaf) .leaf) (.node none (.node (some (IV.int .i64 p)) .leaf .leaf) .leaf))) (IS.mk .leaf 0) [] 0)
def qzj(lf:Nat)(x1:(List DCol))(L4:Int->Option Rtz3):Option Rtz3:=(cond (iltI (Int.ofNat 30) (Int.ofNat x1.length)) (some ((Int.ofNat 3),())) (L4 (Int.ofNat 0)))
def qrp(lf:Nat)(x1:(List DCol))(L4:Int->Option Rtz3)(p:Int):Option Rtz3:=(cond (iltI p (Int.ofNat x1.length)) (match (jget x1 p) with|none=>none|some v0=>(cond (Bool.not (S.small v0.1)) (some ((Int.ofNat 4),())) (cond (lchk (Int.ofNat 0) p (Int.ofNat x1.length) (Int.ofNat x1.length)) (cond (Bool.not (iltI (S.col (lsub x1 (Int.ofNat 0) p) v0.1) (Int.ofNat 0))) (some ((Int.ofNat 6),())) (cond (Bool.not (S.within v0.2.1 (Int.ofNat 1) (Int.ofNat 3))) (some ((Int.ofNat 1),())) (cond (Bool.not (ieqI v0.2.1 (Int.ofNat 3))) (cond (Bool.not (keqS v0.2.2 (S.lit []))) (some ((Int.ofNat 1),())) (L4 (IntKind.i64.wrap (Int.add p (Int.ofNat 1))))) (L4 (IntKind.i64.wrap (Int.add p (Int.ofNat 1))))))) none))) (some ((Int.ofNat 0),())))
abbrev gz3:Type:=ElA [(.list cCol)]->Option Rtz3
abbrev sz3(g:gz3):Sm:=⟨[(.list cCol)],[(false,(.int .i64))],g⟩
abbrev Ez3(g:gz3)(J:JT Rtz3)(lf:Nat)(x1:(List DCol)):=qbc Tryz.prog ttT.get nmz3 fi90.nt (clz3 _ lf) lf stz3 J fi90.body [] (qau (argV [(.list cCol)] (x1,())) 0 .leaf) S0 [] (qar ttT.get fi90 (sz3 g))
abbrev Bz3(g:gz3)(J:JT Rtz3)(lf k:Nat)(ms:List Nat)(q:NRes):=qbi Tryz.prog ttT.get nmz3 fi90.nt (clz3 _ lf) lf stz3 J k fi90.body [] ms q (qar ttT.get fi90 (sz3 g))
theorem inz3(g:gz3)(J:JT Rtz3)(lf:Nat)(x1:(List DCol)):Ez3 g J lf x1=qzj lf x1 (fun q=>J 4 [lf] (qiv x1 q)):=by kernel_rfl
theorem zol(g:gz3)(J:JT Rtz3)(lf:Nat)(x1:(List DCol))(m1:Nat)(p:Int):Bz3 g J lf 4 [m1] (qiv x1 p)=qrp lf x1 (fun q=>J 4 [m1] (qiv x1 q)) p:=by kernel_rfl
theorem ndz3:(regs fi90.body).Nodup:=by decide +kernel
theorem okz3:okC nmz3 stz3 hdz3 fi90.body none=true:=by kernel_rfl
def Az3(g:gz3)(lf:Nat):JT Rtz3:=atN Tryz.prog ttT.get nmz3 fi90 (sz3 g) (clz3 _ lf) lf hdz3
def qqw(lf:Nat)(x1:(List DCol)):Nat->(Int)->Option Rtz3:=rounds fun K p=>qrp lf x1 K p
theorem q7k(g:gz3)(lf:Nat)(x1:(List DCol)):∀(n:Nat) (p:Int),Az3 g lf 4 [n] (qiv x1 p)=qqw lf x1 n p
 | 0,p=>qax 4 [0] rfl _
 | n+1,p=>by
  have ih:=q7k g lf x1 n;refine(qao (qaj 20 _) ndz3 okz3 4 [n+1] [n] rfl _).trans ((zol g (Az3 g lf) lf x1 n p).trans ?_);rw[(show (fun q=>Az3 g lf 4 [n] (qiv x1 q))=(fun q=>qqw lf x1 n q) from funext ih)];rfl
def Fz3(lf:Nat)(x1:(List DCol)):Option Rtz3:=qzj lf x1 (fun q=>qqw lf x1 lf q)
theorem zjr(g:gz3)(lf:Nat)(x1:(List DCol)):Ez3 g (Az3 g lf) lf x1=Fz3 lf x1:=by
  refine(inz3 g (Az3 g lf) lf x1).trans ?_;rw[(show (fun q=>Az3 g lf 4 [lf] (qiv x1 q))=(fun q=>qqw lf x1 lf q) from funext fun q=>q7k g lf x1 lf q)];rfl
theorem zpi:qa1 Tryz.prog q1w:=trivial
theorem mkz3{g:gz3}(hsm:SmOK Tryz.prog zb6)(hg:∀(x:ElA [(.list cCol)]) (y:Rtz3),WfA [(.list cCol)] x->g x=some y->∃lf,Fz3 lf x.1=some y):Con Tryz.prog 90 ⟨[(.list cCol)],[(false,(.int .i64))],g⟩ :=
 conV (st:=stz3) (fun lf x=>Fz3 lf x.1) cm3 zjf zpi ndz3 okz3 (fun lf x=>zjr g lf x.1) hsm hg
def nmz4:Nat->Option Nm:=fun k=>cond (Nat.beq k 4) (some ⟨[0,13,14,15],[],[],[],[],0,0,false⟩) (cond (Nat.beq k 11) (some ⟨[0,41,42,43],[],[],[],[],0,0,false⟩) (cond (Nat.beq k 14) (some ⟨[0,41,42,43,48,49,50],[],[],[],[],0,0,false⟩) (none)))
def stz4:Nat->Bool:=fun k=>cond (Nat.beq k 4) true (cond (Nat.beq k 11) true (cond (Nat.beq k 14) true (false)))
def hdz4:=stz4
abbrev Rtz4:Type:=Int × Unit
def zfc:List (Nat × Sm):=[(89,zax),(37,qxw),(90,spz3),(33,spz1)]
def q6m:List (Nat × Hx):=[]
def clz4(R:Type)(lf:Nat):ClK R:=qay Tryz.prog ttT.get ftT.get (nm1 44 nmz4) (smL zfc) (hxL q6m) lf 20 R
abbrev idz4:Nat:=44
def qjl(x1:(List qab))(p:Int):NRes:=(NRes.mk (.node (some (IV.lst cForm x1)) (.node none (.node none (.node none (.node (some (IV.int .i64 p)) .leaf .leaf) .leaf) .leaf) (.node none .leaf (.node (some (IV.lst cForm x1)) .leaf .leaf))) (.node none .leaf (.node none .leaf (.node (some (IV.int .i64 (Int.ofNat x1.length))) .leaf .leaf)))) (IS.mk .leaf 0) [] 0)
def qfg(x1:(List qab))(p:Int):NRes:=(NRes.mk (.node (some (IV.lst cForm x1)) (.node none (.node none .leaf (.node none .leaf (.node none (.node (some (IV.int .i64 p)) .leaf .leaf) .leaf))) (.node none (.node none .leaf (.node none (.node (some (IV.lst cForm x1)) .leaf .leaf) .leaf)) .leaf)) (.node none .leaf (.node none (.node none .leaf (.node none (.node (some (IV.int .i64 (Int.ofNat x1.length))) .leaf .leaf) .leaf)) .leaf))) (IS.mk .leaf 0) [] 0)
def qjw(x1:(List qab))(p:(List DCol) × Int × Int):NRes:=(NRes.mk (.node (some (IV.lst cForm x1)) (.node none (.node none .leaf (.node none .leaf (.node none (.node (some (IV.int .i64 p.2.2)) .leaf .leaf) .leaf))) (.node none (.node none (.node none .leaf (.node (some (IV.int .i64 (Int.ofNat p.1.length))) .leaf .leaf)) (.node none (.node (some (IV.lst cForm x1)) .leaf .leaf) .leaf)) .leaf)) (.node none (.node none (.node none (.node none .leaf (.node (some (IV.lst cCol p.1)) .leaf .leaf)) .leaf) .leaf) (.node none (.node none (.node none .leaf (.node (some (IV.int .i64 p.2.1)) .leaf .leaf)) (.node none (.node (some (IV.int .i64 (Int.ofNat x1.length))) .leaf .leaf) .leaf)) .leaf))) (IS.mk .leaf 0) [] 0)
def qw2(lf:Nat)(x1:(List qab))(L4:Int->Option Rtz4):Option Rtz4:=(cond (iltI (Int.ofNat 24) (Int.ofNat x1.length)) (some ((Int.ofNat 3),())) (L4 (Int.ofNat 0)))
def qrf(lf:Nat)(x1:(List qab))(L4:Int->Option Rtz4)(L11:Int->Option Rtz4)(p:Int):Option Rtz4:=(cond (iltI p (Int.ofNat x1.length)) (match (jget x1 p) with|none=>none|some v0=>(cond (S.class_ v0.1) (cond (lchk (Int.ofNat 0) p (Int.ofNat x1.length) (Int.ofNat x1.length)) (cond (iltI (S.form (lsub x1 (Int.ofNat 0) p) v0.1) (Int.ofNat 0)) (cond (Bool.not (ieqI (S.first (List.cons (Int.ofNat 0) (List.cons (Int.ofNat 0) [(S.checkCols v0.2)]))) (Int.ofNat 0))) (some ((S.first (List.cons (Int.ofNat 0) (List.cons (Int.ofNat 0) [(S.checkCols v0.2)]))),())) (L4 (IntKind.i64.wrap (Int.add p (Int.ofNat 1))))) (cond (Bool.not (ieqI (S.first (List.cons (Int.ofNat 0) (List.cons (Int.ofNat 6) [(S.checkCols v0.2)]))) (Int.ofNat 0))) (some ((S.first (List.cons (Int.ofNat 0) (List.cons (Int.ofNat 6) [(S.checkCols v0.2)]))),())) (L4 (IntKind.i64.wrap (Int.add p (Int.ofNat 1)))))) none) (cond (lchk (Int.ofNat 0) p (Int.ofNat x1.length) (Int.ofNat x1.length)) (cond (iltI (S.form (lsub x1 (Int.ofNat 0) p) v0.1) (Int.ofNat 0)) (cond (Bool.not (ieqI (S.first (List.cons (Int.ofNat 4) (List.cons (Int.ofNat 0) [(S.checkCols v0.2)]))) (Int.ofNat 0))) (some ((S.first (List.cons (Int.ofNat 4) (List.cons (Int.ofNat 0) [(S.checkCols v0.2)]))),())) (L4 (IntKind.i64.wrap (Int.add p (Int.ofNat 1))))) (cond (Bool.not (ieqI (S.first (List.cons (Int.ofNat 4) (List.cons (Int.ofNat 6) [(S.checkCols v0.2)]))) (Int.ofNat 0))) (some ((S.first (List.cons (Int.ofNat 4) (List.cons (Int.ofNat 6) [(S.checkCols v0.2)]))),())) (L4 (IntKind.i64.wrap (Int.add p (Int.ofNat 1)))))) none))) (L11 (Int.ofNat 0)))
def qs4(lf:Nat)(x1:(List qab))(L14:((List DCol) × Int × Int)->Option Rtz4)(p:Int):Option Rtz4:=(cond (iltI p (Int.ofNat x1.length)) (match (jget x1 p) with|none=>none|some v0=>(L14 (v0.2,(Int.ofNat 0),p))) (some ((Int.ofNat 0),())))
def qtd(lf:Nat)(x1:(List qab))(L14:((List DCol) × Int × Int)->Option Rtz4)(L11:Int->Option Rtz4)(p:(List DCol) × Int × Int):Option Rtz4:=(cond (iltI p.2.1 (Int.ofNat p.1.length)) (match (jget p.1 p.2.1) with|none=>none|some v0=>(cond (ieqI v0.2.1 (Int.ofNat 3)) (cond (Bool.not (keqS v0.2.2 (S.lit [65,78,89]))) (cond (iltI (S.form x1 v0.2.2) (Int.ofNat 0)) (some ((Int.ofNat 5),())) (L14 (p.1,(IntKind.i64.wrap (Int.add p.2.1 (Int.ofNat 1))),p.2.2))) (L14 (p.1,(IntKind.i64.wrap (Int.add p.2.1 (Int.ofNat 1))),p.2.2))) (L14 (p.1,(IntKind.i64.wrap (Int.add p.2.1 (Int.ofNat 1))),p.2.2)))) (L11 (IntKind.i64.wrap (Int.add p.2.2 (Int.ofNat 1)))))
abbrev gz4:Type:=ElA [(.list cForm)]->Option Rtz4
abbrev sz4(g:gz4):Sm:=⟨[(.list cForm)],[(false,(.int .i64))],g⟩
abbrev Ez4(g:gz4)(J:JT Rtz4)(lf:Nat)(x1:(List qab)):=qbc Tryz.prog ttT.get nmz4 fi44.nt (clz4 _ lf) lf stz4 J fi44.body [] (qau (argV [(.list cForm)] (x1,())) 0 .leaf) S0 [] (qar ttT.get fi44 (sz4 g))
abbrev Bz4(g:gz4)(J:JT Rtz4)(lf k:Nat)(ms:List Nat)(q:NRes):=qbi Tryz.prog ttT.get nmz4 fi44.nt (clz4 _ lf) lf stz4 J k fi44.body [] ms q (qar ttT.get fi44 (sz4 g))
theorem inz4(g:gz4)(J:JT Rtz4)(lf:Nat)(x1:(List qab)):Ez4 g J lf x1=qw2 lf x1 (fun q=>J 4 [lf] (qjl x1 q)):=by kernel_rfl
theorem zxh(g:gz4)(J:JT Rtz4)(lf:Nat)(x1:(List qab))(m1:Nat)(p:Int):Bz4 g J lf 4 [m1] (qjl x1 p)=qrf lf x1 (fun q=>J 4 [m1] (qjl x1 q)) (fun q=>J 11 [lf] (qfg x1 q)) p:=by kernel_rfl
theorem zwj(g:gz4)(J:JT Rtz4)(lf:Nat)(x1:(List qab))(m1:Nat)(p:Int):Bz4 g J lf 11 [m1] (qfg x1 p)=qs4 lf x1 (fun q=>J 14 [m1,lf] (qjw x1 q)) p:=by kernel_rfl
theorem zrx(g:gz4)(J:JT Rtz4)(lf:Nat)(x1:(List qab))(m1:Nat)(m2:Nat)(p:(List DCol) × Int × Int):Bz4 g J lf 14 [m1,m2] (qjw x1 p)=qtd lf x1 (fun q=>J 14 [m1,m2] (qjw x1 q)) (fun q=>J 11 [m1] (qfg x1 q)) p:=by kernel_rfl
theorem ndz4:(regs fi44.body).Nodup:=by decide +kernel
theorem okz4:okC nmz4 stz4 hdz4 fi44.body none=true:=by kernel_rfl
def Az4(g:gz4)(lf:Nat):JT Rtz4:=atN Tryz.prog ttT.get nmz4 fi44 (sz4 g) (clz4 _ lf) lf hdz4
def qnh(lf:Nat)(x1:(List qab))(K11:Int->Option Rtz4):Nat->((List DCol) × Int × Int)->Option Rtz4:=rounds fun K p=>qtd lf x1 K K11 p
theorem zdw(g:gz4)(lf:Nat)(x1:(List qab))(m1:Nat):∀(n:Nat) (p:(List DCol) × Int × Int),Az4 g lf 14 [m1,n] (qjw x1 p)=qnh lf x1 (fun q=>Az4 g lf 11 [m1] (qfg x1 q)) n p
 | 0,p=>qax 14 [m1,0] rfl _
 | n+1,p=>by
  have ih:=zdw g lf x1 m1 n;refine(qao (qaj 20 _) ndz4 okz4 14 [m1,n+1] [m1,n] rfl _).trans ((zrx g (Az4 g lf) lf x1 m1 n p).trans ?_);rw[(show (fun q=>Az4 g lf 14 [m1,n] (qjw x1 q))=(fun q=>qnh lf x1 (fun q=>Az4 g lf 11 [m1] (qfg x1 q)) n q) from funext ih)];rfl
def qmg(lf:Nat)(x1:(List qab)):Nat->(Int)->Option Rtz4:=rounds fun K p=>qs4 lf x1 (fun q=>qnh lf x1 K lf q) p
theorem zeb(g:gz4)(lf:Nat)(x1:(List qab)):∀(n:Nat) (p:Int),Az4 g lf 11 [n] (qfg x1 p)=qmg lf x1 n p
 | 0,p=>qax 11 [0] rfl _
 | n+1,p=>by
  have ih:=zeb g lf x1 n;refine(qao (qaj 20 _) ndz4 okz4 11 [n+1] [n] rfl _).trans ((zwj g (Az4 g lf) lf x1 n p).trans ?_);rw[(show (fun q=>Az4 g lf 14 [n,lf] (qjw x1 q))=(fun q=>qnh lf x1 (fun q=>Az4 g lf 11 [n] (qfg x1 q)) lf q) from funext fun q=>zdw g lf x1 n lf q),(show (fun q=>Az4 g lf 11 [n] (qfg x1 q))=(fun q=>qmg lf x1 n q) from funext ih)];rfl
def qqz(lf:Nat)(x1:(List qab)):Nat->(Int)->Option Rtz4:=rounds fun K p=>qrf lf x1 K (fun q=>qmg lf x1 lf q) p
theorem q9w(g:gz4)(lf:Nat)(x1:(List qab)):∀(n:Nat) (p:Int),Az4 g lf 4 [n] (qjl x1 p)=qqz lf x1 n p
 | 0,p=>qax 4 [0] rfl _
 | n+1,p=>by
  have ih:=q9w g lf x1 n;refine(qao (qaj 20 _) ndz4 okz4 4 [n+1] [n] rfl _).trans ((zxh g (Az4 g lf) lf x1 n p).trans ?_);rw[(show (fun q=>Az4 g lf 11 [lf] (qfg x1 q))=(fun q=>qmg lf x1 lf q) from funext fun q=>zeb g lf x1 lf q),(show (fun q=>Az4 g lf 4 [n] (qjl x1 q))=(fun q=>qqz lf x1 n q) from funext ih)];rfl
def Fz4(lf:Nat)(x1:(List qab)):Option Rtz4:=qw2 lf x1 (fun q=>qqz lf x1 lf q)
theorem zm4(g:gz4)(lf:Nat)(x1:(List qab)):Ez4 g (Az4 g lf) lf x1=Fz4 lf x1:=by
  refine(inz4 g (Az4 g lf) lf x1).trans ?_;rw[(show (fun q=>Az4 g lf 4 [lf] (qjl x1 q))=(fun q=>qqz lf x1 lf q) from funext fun q=>q9w g lf x1 lf q)];rfl
theorem zwe:qa1 Tryz.prog q6m:=trivial
theorem mkz4{g:gz4}(hsm:SmOK Tryz.prog zfc)(hg:∀(x:ElA [(.list cForm)]) (y:Rtz4),WfA [(.list cForm)] x->g x=some y->∃lf,Fz4 lf x.1=some y):Con Tryz.prog 44 ⟨[(.list cForm)],[(false,(.int .i64))],g⟩ :=
 conV (st:=stz4) (fun lf x=>Fz4 lf x.1) cm3 zor zwe ndz4 okz4 (fun lf x=>zm4 g lf x.1) hsm hg
abbrev quk:Type:=Bool × Unit
abbrev zlq:Nat:=102
def q14(lf:Nat)(x1:qac)(x2:DCol)(x3:DVal):Option quk:=(cond (ieqI x2.2.1 (Int.ofNat 1)) (some ((ieqI x3.1 (Int.ofNat 1)),())) (cond (ieqI x2.2.1 (Int.ofNat 2)) (some ((ieqI x3.1 (Int.ofNat 2)),())) (cond (ieqI x3.1 (Int.ofNat 3)) (some (true,())) (cond (ieqI x3.1 (Int.ofNat 4)) (cond (keqS x2.2.2 (S.lit [65,78,89])) (some (true,())) (match (jget x1.1 x3.2) with|none=>none|some v0=>(some ((keqS v0.1 x2.2.2),())))) (some (false,()))))))
def qtf(lf:Nat)(x1:qac)(x2:DCol)(x3:DVal):Option quk:=q14 lf x1 x2 x3
theorem zur{g:ElA [qai,cCol,cVal]->Option quk}(hsm:SmOK Tryz.prog [])(hg:∀(x:ElA [qai,cCol,cVal]) (y:quk),WfA [qai,cCol,cVal] x->g x=some y->∃lf,qtf lf x.1 x.2.1 x.2.2.1=some y):Con Tryz.prog 102 ⟨[qai,cCol,cVal],[(false,.bool)],g⟩ :=
 conU (fi:=qxs) (hxl:=[]) (fun lf x=>qtf lf x.1 x.2.1 x.2.2.1) cm3 zna trivial hsm hg
def nmz5:Nat->Option Nm:=fun k=>cond (Nat.beq k 2) (some ⟨[0,3,11,12,13],[],[],[],[],0,0,false⟩) (cond (Nat.beq k 8) (some ⟨[0,3,6,11,12,13,31,32,33],[],[],[],[],0,0,false⟩) (none))
def stz5:Nat->Bool:=fun k=>cond (Nat.beq k 2) true (cond (Nat.beq k 8) true (false))
def hdz5:=stz5
abbrev Rtz5:Type:=Bool × Unit
def zdd:List (Nat × Sm):=[(37,qxw),(102,q9l)]
def za6:List (Nat × Hx):=[]
def clz5(R:Type)(lf:Nat):ClK R:=qay Tryz.prog ttT.get ftT.get (nm1 64 nmz5) (smL zdd) (hxL za6) lf 20 R
abbrev idz5:Nat:=64
def qfk(x1:(List qab))(x2:qac)(p:Int):NRes:=(NRes.mk (.node (some (IV.lst cForm x1)) (.node none (.node (some (IV.ptr 0 0)) .leaf (.node (some (IV.lst qaf x2.1)) .leaf .leaf)) (.node none .leaf (.node (some (IV.int .i64 p)) .leaf .leaf))) (.node none (.node none .leaf (.node (some (IV.int .i64 (Int.ofNat x2.1.length))) .leaf .leaf)) .leaf)) (IS.mk (.node (some (IObj.row (List.cons (IV.lst qaf x2.1) [(IV.lst cVal x2.2)]))) .leaf .leaf) 1) [] 0)
def qi8(x1:(List qab))(x2:qac)(p:(List DVal) × (List DCol) × ByteArray × Int × Int):NRes:=(NRes.mk (.node (some (IV.lst cForm x1)) (.node none (.node (some (IV.ptr 0 0)) (.node none (.node none (.node (some (IV.lst cCol p.2.1)) .leaf .leaf) .leaf) .leaf) (.node (some (IV.lst qaf x2.1)) .leaf .leaf)) (.node none (.node none (.node none (.node (some (IV.int .i64 p.2.2.2.1)) .leaf .leaf) .leaf) .leaf) (.node (some (IV.int .i64 p.2.2.2.2)) .leaf .leaf))) (.node none (.node none (.node none (.node none (.node (some (IV.int .i64 (Int.ofNat p.2.1.length))) .leaf .leaf) .leaf) .leaf) (.node (some (IV.int .i64 (Int.ofNat x2.1.length))) .leaf .leaf)) (.node (some (IV.ptr 1 0)) .leaf .leaf))) (IS.mk (.node (some (IObj.row (List.cons (IV.lst qaf x2.1) [(IV.lst cVal x2.2)]))) (.node (some (IObj.row (List.cons (IV.str p.2.2.1) [(IV.lst cVal p.1)]))) .leaf .leaf) .leaf) 2) [] 0)
def q6x(lf:Nat)(x1:(List qab))(x2:qac)(L2:Int->Option Rtz5):Option Rtz5:=(L2 (Int.ofNat 0))
def qto(lf:Nat)(x1:(List qab))(x2:qac)(L8:((List DVal) × (List DCol) × ByteArray × Int × Int)->Option Rtz5)(p:Int):Option Rtz5:=(cond (iltI p (Int.ofNat x2.1.length)) (match (jget x2.1 p) with|none=>none|some v0=>(match (jget x1 (S.form x1 v0.1)) with|none=>none|some v1=>(cond (Bool.not (ieqI (Int.ofNat v0.2.length) (Int.ofNat v1.2.length))) (some (false,())) (L8 (v0.2,v1.2,v0.1,(Int.ofNat 0),p))))) (some (true,())))
def qri(lf:Nat)(x1:(List qab))(x2:qac)(L8:((List DVal) × (List DCol) × ByteArray × Int × Int)->Option Rtz5)(L2:Int->Option Rtz5)(p:(List DVal) × (List DCol) × ByteArray × Int × Int):Option Rtz5:=(cond (iltI p.2.2.2.1 (Int.ofNat p.2.1.length)) (match (jget p.2.1 p.2.2.2.1) with|none=>none|some v0=>(match (jget p.1 p.2.2.2.1) with|none=>none|some v1=>(match (cond (S.refOK (x2.1,x2.2) (v1.1,v1.2)) (some ((S.suits (x2.1,x2.2) (v0.1,(v0.2.1,v0.2.2)) (v1.1,v1.2)),())) none) with|none=>none|some v2=>(cond (Bool.not v2.1) (some (false,())) (L8 (p.1,p.2.1,p.2.2.1,(IntKind.i64.wrap (Int.add p.2.2.2.1 (Int.ofNat 1))),p.2.2.2.2)))))) (L2 (IntKind.i64.wrap (Int.add p.2.2.2.2 (Int.ofNat 1)))))
abbrev gz5:Type:=ElA [(.list cForm),qai]->Option Rtz5
abbrev sz5(g:gz5):Sm:=⟨[(.list cForm),qai],[(false,.bool)],g⟩
abbrev Ez5(g:gz5)(J:JT Rtz5)(lf:Nat)(x1:(List qab))(x2:qac):=qbc Tryz.prog ttT.get nmz5 fi64.nt (clz5 _ lf) lf stz5 J fi64.body [] (qau (argV [(.list cForm),qai] (x1,x2,())) 0 .leaf) S0 [] (qar ttT.get fi64 (sz5 g))
abbrev Bz5(g:gz5)(J:JT Rtz5)(lf k:Nat)(ms:List Nat)(q:NRes):=qbi Tryz.prog ttT.get nmz5 fi64.nt (clz5 _ lf) lf stz5 J k fi64.body [] ms q (qar ttT.get fi64 (sz5 g))
theorem inz5(g:gz5)(J:JT Rtz5)(lf:Nat)(x1:(List qab))(x2:qac):Ez5 g J lf x1 x2=q6x lf x1 x2 (fun q=>J 2 [lf] (qfk x1 x2 q)):=by kernel_rfl
theorem zo4(g:gz5)(J:JT Rtz5)(lf:Nat)(x1:(List qab))(x2:qac)(m1:Nat)(p:Int):Bz5 g J lf 2 [m1] (qfk x1 x2 p)=qto lf x1 x2 (fun q=>J 8 [m1,lf] (qi8 x1 x2 q)) p:=by kernel_rfl
theorem z09(g:gz5)(J:JT Rtz5)(lf:Nat)(x1:(List qab))(x2:qac)(m1:Nat)(m2:Nat)(p:(List DVal) × (List DCol) × ByteArray × Int × Int):Bz5 g J lf 8 [m1,m2] (qi8 x1 x2 p)=qri lf x1 x2 (fun q=>J 8 [m1,m2] (qi8 x1 x2 q)) (fun q=>J 2 [m1] (qfk x1 x2 q)) p:=by kernel_rfl
theorem ndz5:(regs fi64.body).Nodup:=by decide +kernel
theorem okz5:okC nmz5 stz5 hdz5 fi64.body none=true:=by kernel_rfl
def Az5(g:gz5)(lf:Nat):JT Rtz5:=atN Tryz.prog ttT.get nmz5 fi64 (sz5 g) (clz5 _ lf) lf hdz5
def qll(lf:Nat)(x1:(List qab))(x2:qac)(K2:Int->Option Rtz5):Nat->((List DVal) × (List DCol) × ByteArray × Int × Int)->Option Rtz5:=rounds fun K p=>qri lf x1 x2 K K2 p
theorem q4v(g:gz5)(lf:Nat)(x1:(List qab))(x2:qac)(m1:Nat):∀(n:Nat) (p:(List DVal) × (List DCol) × ByteArray × Int × Int),Az5 g lf 8 [m1,n] (qi8 x1 x2 p)=qll lf x1 x2 (fun q=>Az5 g lf 2 [m1] (qfk x1 x2 q)) n p
 | 0,p=>qax 8 [m1,0] rfl _
 | n+1,p=>by
  have ih:=q4v g lf x1 x2 m1 n;refine(qao (qaj 20 _) ndz5 okz5 8 [m1,n+1] [m1,n] rfl _).trans ((z09 g (Az5 g lf) lf x1 x2 m1 n p).trans ?_);rw[(show (fun q=>Az5 g lf 8 [m1,n] (qi8 x1 x2 q))=(fun q=>qll lf x1 x2 (fun q=>Az5 g lf 2 [m1] (qfk x1 x2 q)) n q) from funext ih)];rfl
def qpf(lf:Nat)(x1:(List qab))(x2:qac):Nat->(Int)->Option Rtz5:=rounds fun K p=>qto lf x1 x2 (fun q=>qll lf x1 x2 K lf q) p
theorem q3x(g:gz5)(lf:Nat)(x1:(List qab))(x2:qac):∀(n:Nat) (p:Int),Az5 g lf 2 [n] (qfk x1 x2 p)=qpf lf x1 x2 n p
 | 0,p=>qax 2 [0] rfl _
 | n+1,p=>by
  have ih:=q3x g lf x1 x2 n;refine(qao (qaj 20 _) ndz5 okz5 2 [n+1] [n] rfl _).trans ((zo4 g (Az5 g lf) lf x1 x2 n p).trans ?_);rw[(show (fun q=>Az5 g lf 8 [n,lf] (qi8 x1 x2 q))=(fun q=>qll lf x1 x2 (fun q=>Az5 g lf 2 [n] (qfk x1 x2 q)) lf q) from funext fun q=>q4v g lf x1 x2 n lf q),(show (fun q=>Az5 g lf 2 [n] (qfk x1 x2 q))=(fun q=>qpf lf x1 x2 n q) from funext ih)];rfl
def Fz5(lf:Nat)(x1:(List qab))(x2:qac):Option Rtz5:=q6x lf x1 x2 (fun q=>qpf lf x1 x2 lf q)
theorem zhz(g:gz5)(lf:Nat)(x1:(List qab))(x2:qac):Ez5 g (Az5 g lf) lf x1 x2=Fz5 lf x1 x2:=by
  refine(inz5 g (Az5 g lf) lf x1 x2).trans ?_;rw[(show (fun q=>Az5 g lf 2 [lf] (qfk x1 x2 q))=(fun q=>qpf lf x1 x2 lf q) from funext fun q=>q3x g lf x1 x2 lf q)];rfl
theorem zwd:qa1 Tryz.prog za6:=trivial
theorem mkz5{g:gz5}(hsm:SmOK Tryz.prog zdd)(hg:∀(x:ElA [(.list cForm),qai]) (y:Rtz5),WfA [(.list cForm),qai] x->g x=some y->∃lf,Fz5 lf x.1 x.2.1=some y):Con Tryz.prog 64 ⟨[(.list cForm),qai],[(false,.bool)],g⟩ :=
 conV (st:=stz5) (fun lf x=>Fz5 lf x.1 x.2.1) cm3 zkp zwd ndz5 okz5 (fun lf x=>zhz g lf x.1 x.2.1) hsm hg
theorem q3g(lf:Nat)(n lo hi:Int):qt5 lf n lo hi=some (S.within n lo hi,()):=by
 simp only[qt5,q7q,S.within,qal,qf6];by_cases h1:n<lo
 ·simp[h1];omega
 ·by_cases h2:hi<n<;>simp [h1,h2]<;>omega
theorem zm3:Con Tryz.prog zu3 q8f:=zf6 trivial fun x y _ h=>⟨0,(q3g _ _ _ _).trans h⟩
theorem zp5(l:List Int)(hl:l.length<LF):Fz1 LF l=some (S.first l,()):=by
 refine qbv (R:=Rtz1) l (fun rest _=>some (S.first rest,())) hl (fun K=>?_) (fun K i v rest r h=>?_)
 ·simp only[qts,qaz,jad];rfl
 ·simp only[qts,r.ilt,r.get,r.next,h,jaa,S.first,qat,qf6];by_cases hv:v=0
  ·simp[hv]
  ·simp[hv]
theorem z2g:Con Tryz.prog idz1 spz1:=mkz1 trivial fun x y hx h=>⟨LF,(zp5 _ (qbj hx.1)).trans h⟩
theorem zqx(lf:Nat)(l:List qab)(n:ByteArray):qqc lf l n=some (S.form l n,()):=by
 simp only[qqc,q5f];rw[q10 (l:=l) (fun f:qab=>keqS f.1 n) fun x _=>rfl];rfl
theorem ze4:Con Tryz.prog zya qxw:=z05 trivial fun x y _ h=>⟨0,(zqx _ _ _).trans h⟩
theorem zn1(lf:Nat)(l:List DCol)(n:ByteArray):qqk lf l n=some (S.col l n,()):=by
 simp only[qqk,zdx];rw[q10 (l:=l) (fun f:DCol=>keqS f.1 n) fun x _=>rfl];rfl
theorem zg7:Con Tryz.prog z2m za3:=zou trivial fun x y _ h=>⟨0,(zn1 _ _ _).trans h⟩
theorem q7n{s:ByteArray}(h:0<s.size):∃b,(qag s)[0]?=some b:=by
 unfold qag;have:0<s.data.toList.length:=by simpa using h
 exact⟨_,by rw[jb9,jab this];rfl⟩
theorem q5q{s:ByteArray}(h:¬s=S.lit []):0<s.size:=by
 rcases jel s.size with h0|h0
 ·exfalso;apply h;obtain⟨a⟩:=s;have:a=#[]:=by simpa [ByteArray.size] using h0
  rw[this];rfl
 ·exact h0
theorem zih(lf:Nat)(s:ByteArray)(lo hi:Int)(h1:IntKind.u8.wrap lo=lo)(h2:IntKind.u8.wrap hi=hi):qti lf s lo hi=some (S.named s lo hi,()):=by
 have w1:IntKind.i32.wrap lo=lo:=by rw[qe0] at *;simp [IntKind.min,IntKind.max,IntKind.bits,IntKind.signed] at *;omega
 have w2:IntKind.i32.wrap hi=hi:=by rw[qe0] at *;simp [IntKind.min,IntKind.max,IntKind.bits,IntKind.signed] at *;omega
 simp only[qti,q6n,S.named,w1,w2];by_cases hs:s=S.lit []
 ·subst hs;simp [keqS]
 have hp:=q5q hs;rw[jak hs,show keqS s (S.lit [])=false by simp[keqS,hs],jad];by_cases h20:20<s.size
 ·rw[jal h20,show iltI (Int.ofNat 20) (Int.ofNat s.size)=true by rw[qal];exact jaf (jei.2 h20),jaa]
 rw[jak h20,show iltI (Int.ofNat 20) (Int.ofNat s.size)=false by rw[qal];simp;omega,jad];obtain⟨b,hb⟩:=q7n hp;have hj:jget (qag s) (Int.ofNat 0)=some b:=by rw[qbz,hb]
 simp only[hj,hb,qal,qf6,ja6];by_cases hlo:b<lo
 ·rw[jal hlo,jal hlo]
 rw[jak hlo,jak hlo];by_cases hhi:hi<b
 ·rw[jal hhi,jal hhi]
 rw[jak hhi,jak hhi];have e:(fun(v2:Nat) (v3:Int)=>(if (!decide (v3<lo))=true then if (!decide (hi<v3))=true then some false else if (!decide (v3<Int.ofNat 48))=true then if (!decide (Int.ofNat 57<v3))=true then some false else some (!ieqI v3 (Int.ofNat 95)) else some (!ieqI v3 (Int.ofNat 95)) else if (!decide (v3<Int.ofNat 48))=true then if (!decide (Int.ofNat 57<v3))=true then some false else some (!ieqI v3 (Int.ofNat 95)) else some (!ieqI v3 (Int.ofNat 95)):Option Bool))=fun _ r=>some (S.badR r lo hi):=by
  funext _ r;have e48:Int.ofNat 48=48:=rfl;have e57:Int.ofNat 57=57:=rfl;have e95:Int.ofNat 95=95:=rfl;simp only[S.badR,qat,e48,e57,e95];by_cases a:r<lo<;>by_cases b:hi<r<;>by_cases c:r<48<;>by_cases d:57<r<;>by_cases e:r=95<;>simp [a,b,c,d,e]<;>omega
 rw[e];have e0:Int.ofNat 0=0:=rfl;obtain⟨k,hk⟩:=qy8 (p:=fun _ r=>some (S.badR r lo hi)) (q:=fun r=>S.badR r lo hi) (fun _ _=>rfl) s true (s.size+1) 0 (by omega);have hk2:sixO (fun _ r=>some (S.badR r lo hi)) s true (Nat.add s.size 1) 0=some k:=hk;simp only[hk,hk2,e0]
theorem q17:Con Tryz.prog z0c q1g:=zsl trivial fun x y hx h=>⟨0,(zih _ _ _ _ hx.2.1 hx.2.2.1).trans h⟩
theorem zqo(l:List ByteArray)(v:ByteArray)(hl:l.length<LF):Fz2 LF l v=some (S.index l v,()):=by
 refine(qbv (R:=Rtz2) l (fun rest i=>some ((match rest.findIdx? (fun x=>keqS v x) with|some j=>Int.ofNat (i+j)|none=>-1),())) hl (fun K=>?_) (fun K i w rest r h=>?_)).trans ?_
 ·simp only[qso,qaz,jad];rfl
 ·simp only[qso,r.ilt,r.get,r.next,h,jaa,je7];cases keqS v w with
  | true=>rfl
  | false =>
   simp only[jad];cases List.findIdx? (fun x=>keqS v x) rest with
   | none=>rfl
   | some j=>simp;omega
 ·simp only[S.index,S.idx,ja5];all_goals rfl
theorem q9k:Con Tryz.prog idz2 spz2:=mkz2 trivial fun x y hx h=>⟨LF,(zqo _ _ (qbj hx.1)).trans h⟩
theorem zsj(lf:Nat)(s:ByteArray):qs5 lf s=some (S.class_ s,()):=by
 simp only[qs5,zdr,S.class_,qal];have e1:Int.ofNat 65=65:=rfl;have e2:Int.ofNat 90=90:=rfl;rw[e1,e2];cases S.named s 65 90
 ·rfl
 ·simp;rfl
theorem zm0:Con Tryz.prog zis zax:=zvz ⟨q17,q9k,trivial⟩ fun x y hx h=>⟨LF,(zsj _ _).trans h⟩
theorem zzt(lf:Nat)(s:ByteArray):qul lf s=some (S.small s,()):=by
 simp only[qul,q9n,S.small,qal];have e1:Int.ofNat 97=97:=rfl;have e2:Int.ofNat 122=122:=rfl;rw[e1,e2];cases S.named s 97 122
 ·rfl
 ·simp;rfl
theorem zms:Con Tryz.prog zhf q3z:=zt4 ⟨q17,q9k,trivial⟩ fun x y hx h=>⟨LF,(zzt _ _).trans h⟩

theorem q7z{α:Type}(l:List α){i:Nat}(h:i<=l.length):lchk (Int.ofNat 0) (Int.ofNat i) (Int.ofNat l.length) (Int.ofNat l.length)=true:=by
 simp[lchk,qal];omega
theorem q45{α:Type}(l:List α)(i:Nat):lsub l (Int.ofNat 0) (Int.ofNat i)=l.take i:=by
 simp[lsub]
theorem zh7(l:List DCol)(hl:l.length<LF):Fz3 LF l=some (S.checkCols l,()):=by
 simp only[Fz3,qzj,S.checkCols];by_cases h30:30<l.length
 ·rw[jal h30,show iltI (Int.ofNat 30) (Int.ofNat l.length)=true by rw[qal];exact jaf (jei.2 h30)];rfl
 rw[jak h30,show iltI (Int.ofNat 30) (Int.ofNat l.length)=false by rw[qal];exact jae (fun h=>h30 (jei.1 h)),jad];refine qbv (R:=Rtz3) l (fun rest i=>some (S.ccGo l i rest,())) hl (fun K=>?_) (fun K i v rest r h=>?_)
 ·simp only[qrp,qaz,jad];rfl
 ·simp only[qrp,r.ilt,r.get,r.next,h,jaa,q7z l (jc0 r.lt),q45,S.ccGo,qal,qat,keqS,qf6];simp only[oL];generalize S.small v.1=b1;generalize S.within v.2.1 1 3=b2;by_cases hc:S.col (l.take i) v.1<0<;>by_cases h3:v.2.1=3<;>by_cases hn:v.2.2=S.lit []<;>cases b1<;>cases b2<;>simp [hc,h3,hn]
theorem zit:Con Tryz.prog idz3 spz3:=mkz3 ⟨zms,zg7,zm3,trivial⟩ fun x y hx h=>⟨LF,(zh7 _ (qbj hx.1)).trans h⟩
theorem zv5(x1:List qab)(K11:Int->Option Rtz4)(f:qab)(hf:f.2.length<LF)(i:Nat) :
  qnh LF x1 K11 LF (f.2,Int.ofNat 0,Int.ofNat i)=if S.cfIn x1 f.2=true then K11 (IntKind.i64.wrap (Int.add (Int.ofNat i) (Int.ofNat 1))) else some (5,()):=by
 refine range0 (σ:=Unit) (R:=Rtz4) f.2 (fun k _=>(f.2,k,Int.ofNat i)) (fun _ _=>True) (fun rest _ _=>if S.cfIn x1 rest=true then K11 (IntKind.i64.wrap (Int.add (Int.ofNat i) (Int.ofNat 1))) else some (5,())) hf (fun K s _=>?_) (fun K k c rest s _ r h=>?_) () trivial
 ·simp only[qtd,qaz,jad];rfl
 ·have h:=h () trivial;have e3:Int.ofNat 3=3:=rfl;have e0:Int.ofNat 0=0:=rfl;simp only[qtd,r.ilt,r.get,r.next,h,jaa,qal,qat,keqS,qf6,S.cfIn];simp only[e3,e0];have ea:S.lit [65,78,89]=S.ANY:=rfl;simp only[ea,ja6,jcn,jc9];by_cases h3:c.2.1=3<;>by_cases hn:c.2.2=S.ANY<;>by_cases hf:S.form x1 c.2.2<0<;>simp [h3,hn,hf]
theorem ztc(x1:List qab)(hl:x1.length<LF)(hw:∀f∈x1,f.2.length<LF):qmg LF x1 LF (Int.ofNat 0)=some (S.cfGo2 x1 x1,()):=by
 refine qbv (R:=Rtz4) x1 (fun rest i=>some (S.cfGo2 x1 rest,())) hl (fun K=>?_) (fun K i v rest r h=>?_)
 ·simp only[qs4,qaz,jad];rfl
 ·simp only[qs4,r.ilt,r.get,jaa];refine(zv5 x1 K v (hw v r.mem) i).trans ?_;rw[r.next,h];simp only[S.cfGo2];split<;>rfl
theorem q61(a b c:Int):S.first [a,b,c]=if a=0 then (if b=0 then c else b) else a:=by
 simp only[S.first];split
 ·split
  ·split<;>simp_all
  ·rfl
 ·rfl
theorem zx5(l:List qab)(hl:l.length<LF)(hw:∀f∈l,f.2.length<LF):Fz4 LF l=some (S.checkForms l,()):=by
 simp only[Fz4,qw2,S.checkForms];by_cases h24:24<l.length
 ·rw[jal h24,show iltI (Int.ofNat 24) (Int.ofNat l.length)=true by rw[qal];exact jaf (jei.2 h24)];rfl
 rw[jak h24,show iltI (Int.ofNat 24) (Int.ofNat l.length)=false by rw[qal];exact jae (fun h=>h24 (jei.1 h)),jad];refine qbv (R:=Rtz4) l (fun rest i=>some (S.cfGo l i rest,())) hl (fun K=>?_) (fun K i v rest r h=>?_)
 ·simp only[qrf,qaz,jad,S.cfGo];exact ztc l hl hw
 ·have e0:Int.ofNat 0=0:=rfl;simp only[qrf,r.ilt,r.get,r.next,h,jaa,q7z l (jc0 r.lt),q45,S.cfGo,qal,qat,qf6,S.unlessE,q61];simp only[e0];have e4:Int.ofNat 4=4:=rfl;have e6:Int.ofNat 6=6:=rfl;simp only[e4,e6];cases S.class_ v.1<;>by_cases hf:S.form (l.take i) v.1<0<;>by_cases hc:S.checkCols v.2=0<;>simp [hf,hc]
theorem zpa:Con Tryz.prog idz4 spz4:=mkz4 ⟨zm0,ze4,zit,z2g,trivial⟩ fun x y hx h=>⟨LF,(zx5 _ (qbj hx.1) fun f hf=>qbj (hx.1.2 f hf).2).trans h⟩

theorem qeo(a b:Nat):iltI (Int.ofNat a) (Int.ofNat b)=decide (a<b):=by
 rw[qal,jb7];simp only[ja6];exact jei
theorem zo2(lf:Nat)(g:qac)(c:DCol)(v:DVal)(h:S.refOK g v=true):qtf lf g c v=some (S.suits g c v,()):=by
 simp only[qtf,q14,S.suits,qat,keqS,qf6];have ea:S.lit [65,78,89]=S.ANY:=rfl;simp only[ea,oL,ja6];by_cases h1:c.2.1=1
 ·simp[h1]
 by_cases h2:c.2.1=2
 ·simp[h2]
 by_cases h3:v.1=3
 ·simp[h1,h2,h3]
 by_cases h4:v.1=4
 ·unfold S.refOK at h;obtain⟨a,b⟩:=ja9 h h4;obtain⟨x,e1,e2,e3⟩:=qf9 a b;have e4:S.at_ S.zNode g.1 v.2=x:=by unfold S.at_;rw[e2];rfl
  rw[e1,e4];by_cases hA:c.2.2=S.ANY<;>simp [h1,h2,h3,h4,hA]
 ·simp[h1,h2,h3,h4]
theorem zh2:Con Tryz.prog zlq q9l:=zur trivial fun x y hx h=>⟨0,by
 have h:cond (S.refOK x.1 x.2.2.1) (some (S.suits x.1 x.2.1 x.2.2.1,())) none=some y:=h;cases hr:S.refOK x.1 x.2.2.1 with
 | false=>rw[hr] at h;cases h
 | true=>rw[hr] at h;exact(zo2 _ _ _ _ hr).trans h⟩
theorem qo1(a b:Nat):ieqI (Int.ofNat a) (Int.ofNat b)=decide (a=b):=by
 rw[qat,jb7];simp only[ja6];exact Int.ofNat_inj
theorem zo0(l:List qab)(g:qac)(K2:Int->Option Rtz5)(nm:ByteArray)(vs:List DVal)(hv:∀v∈vs,S.refOK g v=true)(cs:List DCol)(hc:cs.length<LF)(hlen:vs.length=cs.length)(i:Nat) :
  qll LF l g K2 LF (vs,cs,nm,Int.ofNat 0,Int.ofNat i)=if S.suitsAll g cs vs=true then K2 (IntKind.i64.wrap (Int.add (Int.ofNat i) (Int.ofNat 1))) else some (false,()):=by
 refine range0 (σ:=Unit) (R:=Rtz5) cs (fun k _=>(vs,cs,nm,k,Int.ofNat i)) (fun _ _=>True) (fun rest k _=>if S.suitsAll g rest (vs.drop k)=true then K2 (IntKind.i64.wrap (Int.add (Int.ofNat i) (Int.ofNat 1))) else some (false,())) hc (fun K s _=>?_) (fun K k c rest s _ r h=>?_) () trivial
 ·simp only[qri,qaz,jad,S.suitsAll];rfl
 ·have h:=h () trivial;have hk:k<vs.length:=by rw[hlen];exact r.lt
  have hj:jget vs (Int.ofNat k)=some vs[k]:=by rw[qbz];exact jab hk
  have hr:=hv _ (ja3 hk);rw[jbd hk,S.suitsAll];simp only[qri,r.ilt,r.get,r.next,h,jaa,hj,Prod.eta,hr];cases S.suits g c vs[k]<;>simp
theorem zod(l:List qab)(g:qac)(hl:g.1.length<LF)(hw:∀f∈l,f.2.length<LF)(hp:S.typedPre l g=true):Fz5 LF l g=some (S.typed l g g.1,()):=by
 show qpf LF l g LF (Int.ofNat 0)=_;refine qbv (R:=Rtz5) g.1 (fun rest i=>some (S.typed l g rest,())) hl (fun K=>?_) (fun K i n rest r h=>?_)
 ·simp only[qto,qaz,jad,S.typed]
 ·unfold S.typedPre at hp;have hn:=ja0.1 hp n r.mem;simp only[jah,ja6] at hn;obtain⟨f,f1,f2,f3,f4,f5,f6⟩:=S.idx_get (p:=fun f:qab=>keqS f.1 n.1) (l:=l) hn.1;have f1':jget l (S.form l n.1)=some f:=f1;have hc:S.colsOf l n.1=f.2:=by
   unfold S.colsOf S.at_ S.form;rw[f2];rfl
  simp only[qto,r.ilt,r.get,f1',jaa,qo1];rw[S.typed,hc];by_cases hlen:n.2.length=f.2.length
  ·rw[jal hlen,jaf hlen,ja1,jad];refine(zo0 l g K n.1 n.2 (ja0.1 hn.2) f.2 (hw f f4) hlen i).trans ?_;rw[r.next,h];split<;>rfl
  ·rw[jak hlen,jae hlen,jax,jaa]
theorem zss:Con Tryz.prog idz5 spz5:=mkz5 ⟨ze4,zh2,trivial⟩ fun x y hx h=>⟨LF,by
 have h:cond (S.typedPre x.1 x.2.1) (some (S.typed x.1 x.2.1 x.2.1.1,())) none=some y:=h;cases hr:S.typedPre x.1 x.2.1 with
 | false=>rw[hr] at h;cases h
 | true=>rw[hr] at h;exact(zod _ _ (qbj hx.2.1.1) (fun f hf=>qbj (hx.1.2 f hf).2) hr).trans h⟩
theorem zsp{g:qac}{v:DVal}(hl:g.1.length<LF)(h:S.value v (Int.ofNat g.1.length)=true):S.refOK g v=true:=by
 unfold S.refOK;refine jaf fun h4=>?_;unfold S.value at h;have hw:IntKind.i64.wrap (Int.sub (Int.ofNat g.1.length) (Int.ofNat 1))=(g.1.length:Int)-1:=qhx (by
  unfold LF at hl;show -9223372036854775808<=(g.1.length:Int)-1/\(g.1.length:Int)-1<9223372036854775808;omega)
 rw[hw] at h;simp[h4,S.within] at h;omega
theorem ze1{g:qac}(h:S.formed g=0):g.1.length<=400/\g.2.length<=60/\(∀n∈g.1,n.2.length<=30)/\(∀n∈g.1,∀v∈n.2,S.value v (Int.ofNat g.1.length)=true)/\∀v∈g.2,S.value v (Int.ofNat g.1.length)=true/\S.refers v=true:=by
 unfold S.formed at h;split at h
 ·cases h
 split at h
 ·cases h
 split at h
 ·cases h
 split at h
 ·cases h
 rename_i h1 h2 h3 h4;simp only[jby,not_exists,not_and,ja6,jcn,jfc,jdb,not_or] at h2 h3 h4;exact⟨by omega,by omega,fun n hn=>by have:=h2 n hn;omega,fun n hn v hv=>h3 n hn v hv,fun v hv=>h4 v hv⟩
theorem z1d(a:Int):(!ieqI a (Int.ofNat 0))=decide (¬a=0):=by
 rw[qat,jb7];simp [oL]
theorem zsi{l:List qab}{g:qac}(hl:g.1.length<LF)(h0:S.formed g=0)(hb:g.1.any (fun n=>decide (S.form l n.1<0))=false):S.typedPre l g=true:=by
 obtain⟨_,_,_,hv,_⟩:=ze1 h0;unfold S.typedPre;rw[ja0];intro n hn;simp only[jah,ja6,ja0];rw[List.any_eq_false] at hb;have:=hb n hn;simp only[ja6] at this;exact⟨by omega,fun v hv2=>zsp hl (hv n hn v hv2)⟩

end Go.Proofs.YtcnhjofpmpipfaaGreat
end

section
namespace Go.Jx
open Go Go.Sx Go.RowKit
universe u

structure ObjTo (E:Env) (S:IS) (E':Env) (id k:Nat) (o:IObj):Prop where
 rel:OR E' k o
 live:o.live=true->∃o0,S.H id=some o0/\o0.live=true
 blk:o.blk=true->E'.hb k=true
theorem q9e{B:Nat}{q:List Nat}(hnd:q.Nodup)(hqB:∀id∈q,B<=id):∀i j,i<B+q.length->j<B+q.length->ol B q i=ol B q j->i=j:=fun i j hi hj h=>by
 have hol:∀id,B<=id->id<B+q.length->B<=ol B q id:=fun id h1 h2=>by
  have h3:id-B<q.length:=by omega
  unfold ol;rw[jak (by omega),jam,jab h3];exact hqB _ (ja3 h3)
 rcases jbr i B with h1|h1
 ·have e1:ol B q i=i:=jal h1;rcases jbr j B with h2|h2
  ·rwa [e1,show ol B q j=j from jal h2] at h
  ·have:=hol j h2 hj;omega
 ·rcases jbr j B with h2|h2
  ·have e2:ol B q j=j:=jal h2;have:=hol i h1 hi;omega
  ·have h3:i-B<q.length:=by omega
   have h4:j-B<q.length:=by omega
   have e1:ol B q i=q[i-B]:=by unfold ol;rw[jak (by omega),jam,jab h3];rfl
   have e2:ol B q j=q[j-B]:=by unfold ol;rw[jak (by omega),jam,jab h4];rfl
   rw[e1,e2] at h;have:=(List.getElem_inj hnd).1 h;omega
theorem qbw{q:List Nat}{k:Nat}(h:k<q.length):ol 0 q k∈q/\q[k]?=some (ol 0 q k):=by
 have e:ol 0 q k=q[k]:=by unfold ol;rw[jak (by omega),jc6,jam,jab h];rfl
 rw[e];exact⟨ja3 h,jab h⟩
theorem qxc{q:List Nat}{id:Nat}(h:id∈q):∃k,k<q.length/\ol 0 q k=id:=by
 obtain⟨k,hk,rfl⟩:=jbu.1 h;refine⟨k,hk,?_⟩;unfold ol;rw[jak (by omega),jc6,jam,jab hk];rfl
theorem Pre.re{T:TW}{E:Env}{S S':IS}{q:List Nat}(p:Pre T E S)(hn:q.Nodup)(hT:∀id∈q,T.r id)(hN:S'.next=q.length)
  (ho:∀k o,k<q.length->E.A (ol 0 q k)->S'.H k=some o->ObjTo E S (renE 0 q E) (ol 0 q k) k o):Pre T0 (renE 0 q E) S':=by
 have hl:∀k,(renE 0 q E).A k->k<q.length:=fun k h=>by have:=h.1;omega
 have hTr:∀k,k<q.length->T.r (ol 0 q k):=fun k h=>hT _ (qbw h).1;have hlv:∀k,(renE 0 q E).A k->Live (renE 0 q E) S'.H k->Live E S.H (ol 0 q k):=fun k ha ⟨h0,o,h1,h2⟩=>⟨h0,(ho k o (hl k ha) ha.2 h1).live h2⟩
 refine⟨⟨fun k _ ha o h=>(ho k o (hl k ha) ha.2 h).rel,fun k _ ha o h hb=>(ho k o (hl k ha) ha.2 h).blk hb,fun k _ ha h=>p.st.own _ (hTr k (hl k ha)) ha.2 (hlv k ha h),
  fun i j _ _ c d e f h=>q9e hn (fun _ _=>jbm _) i j (by have:=hl i c;omega) (by have:=hl j d;omega) (p.st.inj _ _ (hTr i (hl i c)) (hTr j (hl j d)) c.2 d.2 (hlv i c e) (hlv j d f) h),p.st.lo⟩,fun k ha=>by rw[hN];exact hl k ha,fun _ _=>trivial,p.gl⟩
theorem PostB.re{T:TW}{E:Env}{S S':IS}{B:Nat}{q:List Nat}(p:Pre T E S)(hT:∀id,B<=id->T.w id)(hn:q.Nodup)(hqB:∀id∈q,B<=id)(hN:S'.next=B+q.length)
  (ho:∀k o,k<B+q.length->E.A (ol B q k)->S'.H k=some o->ObjTo E S (renE B q E) (ol B q k) k o):PostB B T E S (renE B q E) S':=by
 have hol:∀id,B<=id->id<B+q.length->B<=ol B q id:=fun id h1 h2=>by
  have h3:id-B<q.length:=by omega
  unfold ol;rw[jak (by omega),jam,jab h3];exact hqB _ (ja3 h3)
 have hTr:∀id,id<B+q.length->T.r id->T.r (ol B q id):=fun id h1 h2=>by
  rcases jbr id B with h3|h3
  ·rw[show ol B q id=id from jal h3];exact h2
  ·exact T.sub _ (hT _ (hol id h3 h1))
 have hlv:∀k,(renE B q E).A k->Live (renE B q E) S'.H k->Live E S.H (ol B q k):=fun k ha ⟨h0,o,h1,h2⟩=>⟨h0,(ho k o ha.1 ha.2 h1).live h2⟩
 refine⟨⟨fun k ht ha o h=>(ho k o ha.1 ha.2 h).rel,fun k ht ha o h hb=>(ho k o ha.1 ha.2 h).blk hb,fun k ht ha h=>p.st.own _ (hTr k ha.1 ht) ha.2 (hlv k ha h),
  fun i j a b c d e f h=>q9e hn hqB i j c.1 d.1 (p.st.inj _ _ (hTr i c.1 a) (hTr j d.1 b) c.2 d.2 (hlv i c e) (hlv j d f) h),p.st.lo⟩,
  rfl,rfl,rfl,jaq _,fun _ _ _=>rfl,fun id hb hA=>?_,fun id hb ha hl=>.inr ⟨ol B q id,hT _ (hol id hb ha.1),ha.2,hlv id ha hl,rfl⟩,fun id hb ht ha hl=>?_,fun b h=>.inl h,fun b h _=>.inl h,fun id ha=>by rw[hN];exact ha.1,by rw[hN];exact jdt _ _,fun id hb ha=>?_⟩
 ·have e:ol B q id=id:=jal hb;exact⟨⟨by omega,by rw[e];exact hA⟩,by simp only[renE,e],by simp only[renE,e],by simp only[renE,e],by simp only[renE,e]⟩
 ·have e:ol B q id=id:=jal hb;have:=hlv id ⟨by omega,by rw[e];exact ha⟩ hl
  rwa [e] at this
 ·have e:ol B q id=id:=jal hb;have:=ha.2
  rwa [e] at this
def mrgR(E Er:Env)(n m:Nat):Env :=
 ⟨fun id=>if id<n then E.ρ id else Er.ρ (id-n+m),fun id=>if id<n then E.κ id else Er.κ (id-n+m),fun id=>if id<n then E.hd id else Er.hd (id-n+m),fun id=>if id<n then E.hb id else Er.hb (id-n+m),
  fun id=>(id<n/\E.A id)\/(n<=id/\Er.A (id-n+m)),Er.m,Er.w⟩
section
variable {E Er : Env} {n m : Nat}
theorem qc1{id:Nat}(h:id<n):(mrgR E Er n m).ρ id=E.ρ id/\(mrgR E Er n m).κ id=E.κ id/\(mrgR E Er n m).hd id=E.hd id/\(mrgR E Er n m).hb id=E.hb id:=by
 refine⟨?_,?_,?_,?_⟩<;>simp only[mrgR,jal h]
theorem qjm{k:Nat}(h:m<=k):(mrgR E Er n m).ρ (n+(k-m))=Er.ρ k/\(mrgR E Er n m).κ (n+(k-m))=Er.κ k/\(mrgR E Er n m).hd (n+(k-m))=Er.hd k/\(mrgR E Er n m).hb (n+(k-m))=Er.hb k/\(Er.A k->(mrgR E Er n m).A (n+(k-m))):=by
 have h1:¬n+(k-m)<n:=by omega
 have h2:n+(k-m)-n+m=k:=by omega
 refine⟨?_,?_,?_,?_,fun hA=>.inr ⟨by omega,by rw[h2];exact hA⟩⟩<;>simp only[mrgR,jak h1,h2]
theorem zeh{T:TW}{S Sx Sr S':IS}{q:List Nat}(p:Pre T E S)(hnd:q.Nodup)(hT:∀id∈q,T.w id)(hA:∀id∈q,E.A id)(hm:m<=q.length)(hn:n=S.next)
   (hsx:∀k,k<q.length->Live (renE 0 q E) Sx.H k->Live E S.H (ol 0 q k)) (h:PostB m T0 (renE 0 q E) Sx Er Sr)
   (hN:S'.next=n+(Sr.next-m))
   (h1:∀id,id<n->id ∉ q->S'.H id=S.H id)
   (h2:∀k o,k<m->S'.H (ol 0 q k)=some o->ObjTo Er Sr (mrgR E Er n m) k (ol 0 q k) o)
   (h3:∀k o,m<=k->k<q.length->S'.H (ol 0 q k)=some o->o=.dead)
   (h4:∀k o,m<=k->Er.A k->S'.H (n+(k-m))=some o->ObjTo Er Sr (mrgR E Er n m) k (n+(k-m)) o) :
   Post T E S (mrgR E Er n m) S'/\Fresh E S (mrgR E Er n m):=by
 have hlt:∀id,E.A id->id<n:=fun id h=>by rw[hn];exact p.bnd id h
 have hqA:∀k,k<q.length->(renE 0 q E).A k:=fun k hk=>⟨by omega,hA _ (qbw hk).1⟩
 -- a live object of the caller's beside these is at no block of theirs
 have hapart:∀id,id ∉ q->T.r id->E.A id->Live E S.H id->∀k,(renE 0 q E).A k->Live (renE 0 q E) Sx.H k->(renE 0 q E).ρ k≠E.ρ id:=fun id hid ht ha hl k hk hkl e=>by
   have hk1:k<q.length:=by have:=hk.1;omega
   have h5:=(qbw hk1).1;have:=p.st.inj _ _ (T.sub _ (hT _ h5)) ht hk.2 ha (hsx k hk1 hkl) hl e;exact hid (this▸h5)
 have hsame:∀b,b<E.w.heap.size->(∀k,(renE 0 q E).A k->Live (renE 0 q E) Sx.H k->(renE 0 q E).ρ k≠b)->Er.w.heap[b]?=E.w.heap[b]?:=fun b hb hk=>h.same b hb fun k _=>hk k;have hown:∀k,(renE 0 q E).A k->Live (renE 0 q E) Sx.H k->(renE 0 q E).ρ k∈E.m:=fun k hk hkl=>by
   have hk1:k<q.length:=by have:=hk.1;omega
   exact p.st.own _ (T.sub _ (hT _ (qbw hk1).1)) hk.2 (hsx k hk1 hkl)
 have hle:E.Le (mrgR E Er n m):=⟨fun id ha=>by
   obtain⟨m1,m2,m3,m4⟩:=qc1 (E:=E) (Er:=Er) (m:=m) (hlt id ha);exact⟨.inl ⟨hlt id ha,ha⟩,m1,m2,m3,m4⟩,⟨fun b hb hbm=>⟨fun h'=>by
     rcases h.memo b h' with h5|h5
     · exact hbm h5
     · have:(renE 0 q E).w.heap.size=E.w.heap.size:=rfl;omega,hsame b hb fun k hk hkl e=>hbm (e▸hown k hk hkl)⟩⟩⟩
 -- rows
 have hrow:∀k,k<m->(renE 0 q E).A k/\Er.A k/\Er.ρ k=E.ρ (ol 0 q k)/\Er.hb k=E.hb (ol 0 q k)/\ol 0 q k<n:=fun k hk=>by
   have ha:=hqA k (by omega);obtain⟨a1,a2,a3,a4,a5⟩:=h.alw k hk ha;exact⟨ha,a1,a2,a5,hlt _ ha.2⟩
 -- where a live object of the new state comes from
 have hcase:∀id,(mrgR E Er n m).A id->Live (mrgR E Er n m) S'.H id ->
     (id<n/\id ∉ q/\E.A id/\Live E S.H id)\/∃k,Er.A k/\Live Er Sr.H k/\(mrgR E Er n m).ρ id=Er.ρ k/\((k<m/\id=ol 0 q k)\/(m<=k/\id=n+(k-m))):=fun id ha ⟨g1,o,g2,g3⟩=>by
   rcases ha with ⟨hi,ha⟩|⟨hi,ha⟩
   · by_cases hq:id∈q
     · obtain⟨k,hk,rfl⟩:=qxc hq;by_cases hkm:k<m
       · obtain⟨r1,r2,r3,r4,r5⟩:=hrow k hkm;refine .inr ⟨k,r2,⟨?_,(h2 k o hkm g2).live g3⟩,(qc1 hi).1.trans r3.symm,.inl ⟨hkm,rfl⟩⟩;rw[r4,<- (qc1 (E:=E) (Er:=Er) (m:=m) hi).2.2.2];exact g1
       · have:=h3 k o (by omega) hk g2;subst this;cases g3
     · rw[h1 id hi hq] at g2;exact .inl ⟨hi,hq,ha,by rw[<- (qc1 (E:=E) (Er:=Er) (m:=m) hi).2.2.2];exact g1,o,g2,g3⟩
   · obtain⟨k,hk,rfl⟩:∃k,m<=k/\id=n+(k-m):=⟨id-n+m,by omega,by omega⟩;have e:n+(k-m)-n+m=k:=by omega
     rw[e] at ha;obtain⟨m1,m2,m3,m4,m5⟩:=qjm (E:=E) (Er:=Er) (n:=n) hk;exact .inr ⟨k,ha,⟨by rw[<- m4];exact g1,(h4 k o hk ha g2).live g3⟩,m1,.inr ⟨hk,rfl⟩⟩
 have hin:∀id,id<n->id ∉ q->T.r id->E.A id->Live E S.H id->(mrgR E Er n m).ρ id∈Er.m/\∀k,Er.A k->Live Er Sr.H k->Er.ρ k≠E.ρ id:=fun id hi hq ht ha hl=>by
   have hmem:=p.st.own id ht ha hl;refine⟨?_,fun k hk hkl e=>?_⟩
   · rw[(qc1 hi).1];rcases h.mem _ hmem (p.st.lo _ hmem) with g|⟨k,_,g1,g2,g3⟩
     · exact g
     · exact absurd g3 (hapart id hq ht ha hl k g1 g2)
   · by_cases hkm:k<m
     · exact hapart id hq ht ha hl k (hrow k hkm).1 (h.old k hkm trivial (hrow k hkm).1 hkl) (by rw[<- e];exact(hrow k hkm).2.2.1.symm)
     · rcases h.new k (by omega) hk hkl with g|⟨j,_,g1,g2,g3⟩
       · have:=p.st.lo _ hmem;have e2:(renE 0 q E).w.heap.size=E.w.heap.size:=rfl;omega
       · exact hapart id hq ht ha hl j g1 g2 (by rw[<- g3];exact e)
 refine⟨⟨⟨?_,?_,?_,?_,h.st.lo⟩,⟨h.os,h.tape,h.output,h.size,fun b hb hk=>?_,hle.alw,?_,?_,fun b hb=>h.memo b hb,fun b hb hl=>?_⟩,?_,?_⟩,⟨?_⟩⟩
 · intro id ht ha o ho;rcases ha with ⟨hi,ha⟩|⟨hi,ha⟩
   · by_cases hq:id∈q
     · obtain⟨k,hk,rfl⟩:=qxc hq;by_cases hkm:k<m
       · exact(h2 k o hkm ho).rel
       · have:=h3 k o (by omega) hk ho;subst this;trivial
     · rw[h1 id hi hq] at ho;exact(p.st.objs id ht ha o ho).mono hle ha (p.st.blk id ht ha o ho) fun hl hb=>hsame _ ((p.st.objs id ht ha o ho).lt hl hb) (hapart id hq ht ha ⟨hb,o,ho,hl⟩)
   · obtain⟨k,hk,rfl⟩:∃k,m<=k/\id=n+(k-m):=⟨id-n+m,by omega,by omega⟩;have e:n+(k-m)-n+m=k:=by omega
     rw[e] at ha;exact(h4 k o hk ha ho).rel
 · intro id ht ha o ho hb;rcases ha with ⟨hi,ha⟩|⟨hi,ha⟩
   · by_cases hq:id∈q
     · obtain⟨k,hk,rfl⟩:=qxc hq;by_cases hkm:k<m
       · exact(h2 k o hkm ho).blk hb
       · have:=h3 k o (by omega) hk ho;subst this;cases hb
     · rw[h1 id hi hq] at ho;rw[(qc1 hi).2.2.2];exact p.st.blk id ht ha o ho hb
   · obtain⟨k,hk,rfl⟩:∃k,m<=k/\id=n+(k-m):=⟨id-n+m,by omega,by omega⟩;have e:n+(k-m)-n+m=k:=by omega
     rw[e] at ha;exact(h4 k o hk ha ho).blk hb
 · intro id ht ha hl;rcases hcase id ha hl with ⟨g1,g2,g3,g4⟩|⟨k,g1,g2,g3,_⟩
   · exact(hin id g1 g2 ht g3 g4).1
   · rw[g3];exact h.st.own k trivial g1 g2
 · intro i j ti tj hi hj li lj he;rcases hcase i hi li with ⟨a1,a2,a3,a4⟩|⟨k,a1,a2,a3,a4⟩<;>rcases hcase j hj lj with ⟨b1,b2,b3,b4⟩|⟨k',b1,b2,b3,b4⟩
   · rw[(qc1 a1).1,(qc1 b1).1] at he;exact p.st.inj i j ti tj a3 b3 a4 b4 he
   · rw[(qc1 a1).1,b3] at he;exact absurd he.symm ((hin i a1 a2 ti a3 a4).2 k' b1 b2)
   · rw[(qc1 b1).1,a3] at he;exact absurd he ((hin j b1 b2 tj b3 b4).2 k a1 a2)
   · rw[a3,b3] at he;have:=h.st.inj k k' trivial trivial a1 b1 a2 b2 he;subst this;rcases a4 with ⟨a4,rfl⟩|⟨a4,rfl⟩<;>rcases b4 with ⟨b4,rfl⟩|⟨b4,rfl⟩<;>first|rfl|omega
 · refine hsame b hb fun k hk1 hkl e=>?_;have hk2:k<q.length:=by have:=hk1.1;omega
   exact hk _ (hT _ (qbw hk2).1) hk1.2 (hsx k hk2 hkl) e
 · intro id ha hna hl;rcases hcase id ha hl with ⟨g1,g2,g3,g4⟩|⟨k,g1,g2,g3,g4⟩
   · exact absurd g3 hna
   · rcases g4 with ⟨g4,rfl⟩|⟨g4,rfl⟩
     · exact absurd (hrow k g4).1.2 hna
     · rw[g3];rcases h.new k g4 g1 g2 with g|⟨j,_,j1,j2,j3⟩
       · exact .inl g
       · have hj:j<q.length:=by have:=j1.1;omega
         exact .inr ⟨_,hT _ (qbw hj).1,j1.2,hsx j hj j2,j3⟩
 · intro id ht ha hl;rcases hcase id (.inl ⟨hlt id ha,ha⟩) hl with ⟨g1,g2,g3,g4⟩|⟨k,g1,g2,g3,g4⟩
   · exact g4
   · rcases g4 with ⟨g4,rfl⟩|⟨g4,rfl⟩
     · exact hsx k (by omega) (h.old k g4 trivial (hrow k g4).1 g2)
     · have:=hlt _ ha;omega
 · rcases h.mem b hb hl with g|⟨k,_,g1,g2,g3⟩
   · exact .inl g
   · have hk:k<q.length:=by have:=g1.1;omega
     exact .inr ⟨_,hT _ (qbw hk).1,g1.2,hsx k hk g2,g3⟩
 · intro id ha;rw[hN];rcases ha with ⟨hi,_⟩|⟨hi,ha⟩
   · omega
   · have:=h.bnd _ ha;omega
 · rw[hN];omega
 · intro id ha hna;rcases ha with ⟨_,ha⟩|⟨hi,_⟩
   · exact absurd ha hna
   · omega
end
end Go.Jx
end

section
namespace Go.Jx
open Go Go.Sx Go.RowKit
universe u

inductive CT:Type
 | dat (c:TC)
 | arr (c:TC)
 | map (k v:TC)
 | fn (f:Nat)
def ElC:CT->Type
 | .dat c=>El c
 | .arr c=>List (El c)
 | .map k v=>List (El k × El v)
 | .fn _=>Unit
def qcn:List CT->Type
 | []=>Unit
 | c::cs=>ElC c × qcn cs
inductive RK:Type
 | box (r:List CT)
 | sl (c:TC)
 | mp (k v:TC)
 | clo (f:Nat) (is:List Nat)
def ElK:RK->Type
 | .box r=>qcn r
 | .sl c=>Option (List (El c))
 | .mp k v=>Option (List (El k × El v))
 | .clo _ _=>Unit
inductive PK:Type
 | dat (c:TC)
 | ref (r:RK)
 | fn (f:Nat)
def ElP:List PK->Type
 | []=>Unit
 | .dat c::l=>El c × ElP l
 | .fn _::l=>ElP l
 | .ref r::l=>ElK r × ElP l
def refs:List PK->List PK
 | []=>[]
 | .dat _::l=>refs l
 | .fn _::l=>refs l
 | .ref r::l=>.ref r::refs l
def nC:CT->Nat
 | .dat _=>0
 | .fn _=>0
 | _=>1
def nR:List CT->Nat
 | []=>0
 | c::cs=>nC c+nR cs
def nK:RK->Nat
 | .box r=>nR r
 | .sl _=>0
 | .mp _ _=>0
 | .clo _ _=>0
def nP:List PK->Nat
 | []=>0
 | .dat _::l=>nP l
 | .fn _::l=>nP l
 | .ref r::l=>nK r+nP l
def mP:List PK->Nat
 | []=>0
 | .dat _::l=>mP l
 | .fn _::l=>mP l
 | .ref _::l=>mP l+1
def qdp:(c:CT)->(Nat->Nat)->Nat->ElC c->List IV
 | .dat c,_,_,x=>cel c x
 | .arr _,ι,n,_=>[.arr (ι n)]
 | .map _ _,ι,n,_=>[.map (ι n)]
 | .fn f,_,_,_=>[.fn f []]
def qca:(r:List CT)->(Nat->Nat)->Nat->qcn r->List IV
 | [],_,_,_=>[]
 | c::cs,ι,n,x=>qdp c ι n x.1++qca cs ι (n+nC c) x.2
def subC:(c:CT)->ElC c->List IObj
 | .dat _,_=>[]
 | .arr c,l=>[.arr c l]
 | .map k v,es=>[.tmap k v es]
 | .fn _,_=>[]
def subR:(r:List CT)->qcn r->List IObj
 | [],_=>[]
 | c::cs,x=>subC c x.1++subR cs x.2
def objK:(k:RK)->(Nat->Nat)->Nat->ElK k->IObj
 | .box r,ι,n,x=>.row (qca r ι n x)
 | .sl c,_,_,x=>match x with
  | some l=>.arr c l
  | none=>.dead
 | .mp k v,_,_,x=>match x with
  | some l=>.tmap k v l
  | none=>.dead
 | .clo f is,ι,_,_=>.row [.fn f (is.map fun k=>.ptr (ι k) 0)]
def isK:RK->List Nat
 | .clo _ is=>is
 | _=>[]
def okPs(N:Nat):List PK->Bool
 | []=>true
 | .ref r::l=>(isK r).all (fun k=>Nat.blt k N)&&okPs N l
 | .dat _::l=>okPs N l
 | .fn _::l=>okPs N l
def qer:List PK->Bool
 | []=>true
 | .ref r::l=>(match r with
  | .clo _ _=>false
  | _=>true)&&qer l
 | .dat _::l=>qer l
 | .fn _::l=>qer l
def subK:(k:RK)->ElK k->List IObj
 | .box r,x=>subR r x
 | .sl _,_=>[]
 | .mp _ _,_=>[]
 | .clo _ _,_=>[]
def argK:RK->Nat->IV
 | .box _,id=>.ptr id 0
 | .sl _,id=>.arr id
 | .mp _ _,id=>.map id
 | .clo _ _,id=>.ptr id 0
def qas:(l:List PK)->(Nat->Nat)->Nat->ElP l->List IObj
 | [],_,_,_=>[]
 | .dat _::l,ι,n,x=>qas l ι n x.2
 | .fn _::l,ι,n,x=>qas l ι n x
 | .ref r::l,ι,n,x=>objK r ι n x.1::qas l ι (n+nK r) x.2
def qch:(l:List PK)->ElP l->List IObj
 | [],_=>[]
 | .dat _::l,x=>qch l x.2
 | .fn _::l,x=>qch l x
 | .ref r::l,x=>subK r x.1++qch l x.2
def qan:(l:List PK)->(Nat->Nat)->Nat->ElP l->List IV
 | [],_,_,_=>[]
 | .dat c::l,ρ,k,x=>asIV c x.1::qan l ρ k x.2
 | .fn f::l,ρ,k,x=>.fn f []::qan l ρ k x
 | .ref r::l,ρ,k,x=>argK r (ρ k)::qan l ρ (k+1) x.2
def idN(k:Nat):Nat:=k
def Sc(l:List PK)(x:ElP l):IS:=addO (qas l idN (mP l) x++qch l x) S0
theorem qkw:∀(c:CT) (x:ElC c),(subC c x).length=nC c
 | .dat _,_=>rfl
 | .arr _,_=>rfl
 | .map _ _,_=>rfl
 | .fn _,_=>rfl
theorem qq3:∀(r:List CT) (x:qcn r),(subR r x).length=nR r
 | [],_=>rfl
 | c::cs,x=>by simp only[subR,nR,jav,qkw,qq3 cs]
theorem qwf:∀(k:RK) (x:ElK k),(subK k x).length=nK k
 | .box r,x=>qq3 r x
 | .sl _,_=>rfl
 | .mp _ _,_=>rfl
 | .clo _ _,_=>rfl
theorem qjf:∀(l:List PK) (x:ElP l),(qch l x).length=nP l
 | [],_=>rfl
 | .dat _::l,x=>qjf l x.2
 | .fn _::l,x=>qjf l x
 | .ref r::l,x=>by simp only[qch,nP,jav,qwf,qjf l]
theorem qa3:∀(l:List PK) (ι:Nat->Nat) (n:Nat) (x:ElP l),(qas l ι n x).length=mP l
 | [],_,_,_=>rfl
 | .dat _::l,ι,n,x=>qa3 l ι n x.2
 | .fn _::l,ι,n,x=>qa3 l ι n x
 | .ref r::l,ι,n,x=>by simp only[qas,mP,jbn,qa3 l]
theorem qfl:∀(l:List PK) (ι:Nat->Nat) (n:Nat) (x:ElP l) (j:Nat) (o:IObj),(qas l ι n x)[j]?=some o ->
  ∃r nj xj,o=objK r ι nj xj/\n<=nj/\nj+nK r<=n+nP l/\(∀ι',(qas l ι' n x)[j]?=some (objK r ι' nj xj))/\∀N,okPs N l=true->∀k∈isK r,k<N
 | [],ι,n,x,j,o,h=>by simp[qas] at h
 | .dat _::l,ι,n,x,j,o,h=>qfl l ι n x.2 j o h
 | .fn _::l,ι,n,x,j,o,h=>qfl l ι n x j o h
 | .ref r::l,ι,n,x,j,o,h=>by
  cases j with
  | zero =>
   simp only[qas,jap,jay] at h;refine⟨r,n,x.1,h.symm,jaq _,by simp only[nP];omega,fun ι'=>rfl,fun N hN k hk=>?_⟩;simp only[okPs,jah] at hN;simpa using ja0.1 hN.1 k hk
  | succ j =>
   simp only[qas,jar] at h;obtain⟨r',nj,xj,h1,h2,h3,h4,h5⟩:=qfl l ι _ x.2 j o h;refine⟨r',nj,xj,h1,by omega,by simp only[nP];omega,fun ι'=>by simpa only [qas,jar] using h4 ι',fun N hN k hk=>?_⟩;simp only[okPs,jah] at hN;exact h5 N hN.2 k hk
theorem qic(l:List PK)(x:ElP l):(Sc l x).next=mP l+nP l:=by
 unfold Sc;rw[qc9,jav,qa3,qjf];show 0+_=_;omega
theorem qgw(l:List IObj)(k:Nat):(addO l S0).H k=l[k]?:=by
 rw[qcl];have e:S0.next=0:=rfl
 rw[e,jak (by omega),ja5,jc6];by_cases h:k<l.length
 ·rw[jal h]
 ·rw[jak h,jbc (by omega)];rfl

section
variable {E E' : Env}
def qcj(E E':Env)(i j:Nat):Prop:=E.A i->E'.A j/\E'.ρ j=E.ρ i/\E'.κ j=E.κ i/\E'.hd j=E.hd i/\E'.hb j=E.hb i
theorem zst(hm:∀b,b∈E'.m->b∈E.m)(hw:E'.w=E.w){ι ι':Nat->Nat}:∀(c:CT) {n:Nat} {x:ElC c} {us:List Value},(∀j,n<=j->j<n+nC c->qcj E E' (ι j) (ι' j)) ->
  VRs E (qdp c ι n x) us->VRs E' (qdp c ι' n x) us
 | .dat c,n,x,us,hn,h=>⟨h.1,fun i a b=>(VR.noid hm hw (h.2 i a b)).2.2 _ _ (ja3 a)⟩
 | .arr c,n,x,us,hn,h=>by
  obtain⟨u,us,rfl,a1,a2⟩:=VRs.inv (v:=.arr (ι n)) (cs:=[]) h;have e:us=[]:=by have:=a2.1;simpa using this.symm
  subst e;cases a1 with
  | arr hA hh =>
   obtain⟨b1,b2,b3,b4,b5⟩:=hn n (jaq _) (by simp[nC]) hA;exact VRs.cons (.arr b1 (b4.trans hh)) VRs.nil
 | .map k v,n,x,us,hn,h=>by
  obtain⟨u,us,rfl,a1,a2⟩:=VRs.inv (v:=.map (ι n)) (cs:=[]) h;have e:us=[]:=by have:=a2.1;simpa using this.symm
  subst e;cases a1 with
  | map hA =>
   obtain⟨b1,b2,b3,b4,b5⟩:=hn n (jaq _) (by simp[nC]) hA;rw[<- b2];exact VRs.cons (.map b1) VRs.nil
 | .fn f,n,x,us,hn,h=>by
  obtain⟨u,us,rfl,a1,a2⟩:=VRs.inv (v:=.fn f []) (cs:=[]) h;have e:us=[]:=by have:=a2.1;simpa using this.symm
  subst e;cases a1 with
  | fn hl hh =>
   rename_i us1;have e:us1=[]:=by simpa using hl.symm
   subst e;exact VRs.cons (.fn rfl (fun i h=>by simp at h)) VRs.nil
theorem VRs.split{E:Env}{cs ds:List IV}{us:List Value}(h:VRs E (cs++ds) us):∃us1 us2,us=us1++us2/\VRs E cs us1/\VRs E ds us2:=by
 have h1:=h.take cs.length;have h2:=h.drop cs.length;rw[List.take_left] at h1;rw[List.drop_left] at h2;exact⟨_,_,(jc3 _ _).symm,h1,h2⟩
theorem q41(hm:∀b,b∈E'.m->b∈E.m)(hw:E'.w=E.w){ι ι':Nat->Nat}:∀(r:List CT) {n:Nat} {x:qcn r} {us:List Value},(∀j,n<=j->j<n+nR r->qcj E E' (ι j) (ι' j)) ->
  VRs E (qca r ι n x) us->VRs E' (qca r ι' n x) us
 | [],n,x,us,hn,h=>by have:=h.1;cases us with|nil=>exact VRs.nil|cons _ _=>simp [qca] at this
 | c::cs,n,x,us,hn,h=>by
  obtain⟨us1,us2,rfl,h1,h2⟩:=VRs.split (cs:=qdp c ι n x.1) (ds:=qca cs ι (n+nC c) x.2) h;exact VRs.append (zst hm hw c (fun j a b=>hn j a (by simp only[nR];omega)) h1) (q41 hm hw cs (fun j a b=>hn j (by omega) (by simp only[nR];omega)) h2)
theorem zzp(c:CT)(ι ι':Nat->Nat)(n:Nat)(x:ElC c):(qdp c ι n x).length=(qdp c ι' n x).length:=by cases c<;>rfl
theorem qwo:∀(r:List CT) (ι ι':Nat->Nat) (n:Nat) (x:qcn r),(qca r ι n x).length=(qca r ι' n x).length
 | [],_,_,_,_=>rfl
 | c::cs,ι,ι',n,x=>by simp only[qca,jav,zzp c ι ι',qwo cs ι ι']
theorem OR.row_to(hm:∀b,b∈E'.m->b∈E.m)(hw:E'.w=E.w){ι ι':Nat->Nat}{r:List CT}{n i j:Nat}{x:qcn r}(hA:E.A i)(hi:qcj E E' i j)(hn:∀j,n<=j->j<n+nR r->qcj E E' (ι j) (ι' j))
  (h:OR E i (.row (qca r ι n x))):OR E' j (.row (qca r ι' n x)):=by
 obtain⟨cells,t,h1,h2,h3,h4⟩:=h;obtain⟨b1,b2,b3,b4,b5⟩:=hi hA;refine⟨cells,t,by rw[hw,b2];exact h1,by rw[b3];exact h2,by rw[qwo r ι' ι];exact h3,?_⟩;rw[qwo r ι' ι];exact q41 hm hw r hn h4
def datO:IObj->Bool
 | .arr _ _=>true
 | .tmap _ _ _=>true
 | _=>false
theorem OR.dat_to(hm:∀b,b∈E'.m->b∈E.m)(hw:E'.w=E.w){i j:Nat}{o:IObj}(hA:E.A i)(hi:qcj E E' i j)(ho:datO o=true)(h:OR E i o):OR E' j o:=by
 obtain⟨b1,b2,b3,b4,b5⟩:=hi hA;have hno:∀{v:IV} {u:Value},VR E v u->_:=fun h=>VR.noid (E:=E) (E':=E') hm hw h;cases o<;>try (cases ho;done)
 ·obtain⟨a,cap,h1,h2,h3,h4,h5⟩:=h;exact⟨a,cap,by rw[b4];exact h1,h2,h3,h4,h5.imp (fun⟨x,y⟩=>⟨by rw[b5];exact x,y⟩) fun⟨c1,c2,cells,t,c3,c4,us,c5,c6⟩=>⟨by rw[b5];exact c1,by rw[b2];exact c2,cells,t,by rw[hw,b2];exact c3,c4,us,c5,fun i hi j hj=>(hno (c6 i hi j hj)).2.2 _ _ (ja3 hj)⟩⟩
 ·obtain⟨ents,c,h1,h2,h3,h4⟩:=h;refine⟨ents,c,by rw[hw,b2];exact h1,⟨h2.1,fun i a b=>?_⟩,⟨h3.1,fun i a b=>?_⟩,h4⟩
  ·have:=h2.2 i a b;simp only[tmEs,jb6] at this ⊢;exact qfd hm hw this
  ·have:=h3.2 i a b;simp only[tmEs,jb6] at this ⊢;exact qfd hm hw this
theorem OR.objK_to(hm:∀b,b∈E'.m->b∈E.m)(hw:E'.w=E.w){ι ι':Nat->Nat}:∀{r:RK} {n i j:Nat} {x:ElK r} (hA:E.A i) (hi:qcj E E' i j) (hn:∀j,n<=j->j<n+nK r->qcj E E' (ι j) (ι' j)) (hs:∀k∈isK r,qcj E E' (ι k) (ι' k))
  (h:OR E i (objK r ι n x)),OR E' j (objK r ι' n x)
 | .box r,n,i,j,x,hA,hi,hn,hs,h=>OR.row_to hm hw hA hi hn h
 | .sl c,n,i,j,some l,hA,hi,hn,hs,h=>OR.dat_to hm hw hA hi (o:=.arr c l) rfl h
 | .sl c,n,i,j,none,hA,hi,hn,hs,h=>trivial
 | .mp k v,n,i,j,some l,hA,hi,hn,hs,h=>OR.dat_to hm hw hA hi (o:=.tmap k v l) rfl h
 | .mp k v,n,i,j,none,hA,hi,hn,hs,h=>trivial
 | .clo f is,n,i,j,x,hA,hi,hn,hs,h=>by
  obtain⟨cells,t,h1,h2,h3,h4⟩:=h;obtain⟨b1,b2,b3,b4,b5⟩:=hi hA;refine⟨cells,t,by rw[hw,b2];exact h1,by rw[b3];exact h2,h3,?_⟩;obtain⟨u,us,e,a1,a2⟩:=h4.inv;have a2:VRs E [] us:=a2;have e0:us=[]:=jbq.1 a2.1.symm;subst e0;show VRs E' [.fn f (is.map fun k=>.ptr (ι' k) 0)] (cells.toList.take 1);rw[show cells.toList.take 1=[u] from e];refine VRs.cons ?_ VRs.nil;cases a1 with
  | fn hl hh =>
   rename_i us1;refine .fn (by simpa using hl) fun i h1 h2=>?_;have hi1:i<is.length:=by simpa using h1
   have:=hh i (by simpa using hi1) h2;simp only[jb6] at this ⊢;generalize us1[i]=u0 at this ⊢;cases this with
   | ptr hA =>
    obtain⟨c1,c2,_⟩:=hs is[i] (ja3 hi1) hA;rw[<- c2];exact .ptr c1
theorem qla:∀{r:RK} {ι ι':Nat->Nat} {n:Nat} {x:ElK r},(objK r ι n x).live=(objK r ι' n x).live
 | .box r,ι,ι',n,x=>rfl
 | .sl c,ι,ι',n,some l=>rfl
 | .sl c,ι,ι',n,none=>rfl
 | .mp k v,ι,ι',n,some l=>rfl
 | .mp k v,ι,ι',n,none=>rfl
 | .clo f is,ι,ι',n,x=>rfl
theorem qj2:∀{r:RK} {ι ι':Nat->Nat} {n:Nat} {x:ElK r},(objK r ι n x).blk=(objK r ι' n x).blk
 | .box r,ι,ι',n,x=>rfl
 | .sl c,ι,ι',n,some l=>rfl
 | .sl c,ι,ι',n,none=>rfl
 | .mp k v,ι,ι',n,some l=>rfl
 | .mp k v,ι,ι',n,none=>rfl
 | .clo f is,ι,ι',n,x=>rfl
theorem q8t{r:RK}{id:Nat}{u:Value}(h:VR E (argK r id) u):E.A id:=by
 cases r with
 | box r=>cases h;assumption
 | sl c=>cases h;assumption
 | mp k v=>cases h;assumption
 | clo f is=>cases h;assumption
theorem q5a{r:RK}{i j:Nat}{u:Value}(hi:qcj E E' i j)(h:VR E (argK r i) u):VR E' (argK r j) u:=by
 cases r with
 | box r =>
  cases h with
  | ptr hA =>
   obtain⟨b1,b2,b3,b4,b5⟩:=hi hA;show VR E' (.ptr j 0) _;rw[<- b2];exact .ptr b1
 | sl c =>
  cases h with
  | arr hA hh =>
   obtain⟨b1,b2,b3,b4,b5⟩:=hi hA;exact .arr b1 (b4.trans hh)
 | mp k v =>
  cases h with
  | map hA =>
   obtain⟨b1,b2,b3,b4,b5⟩:=hi hA;show VR E' (.map j) _;rw[<- b2];exact .map b1
 | clo f is =>
  cases h with
  | ptr hA =>
   obtain⟨b1,b2,b3,b4,b5⟩:=hi hA;show VR E' (.ptr j 0) _;rw[<- b2];exact .ptr b1
theorem argsP_env(hm:∀b,b∈E'.m->b∈E.m)(hw:E'.w=E.w){ρ ρ':Nat->Nat}:∀(l:List PK) {k:Nat} {x:ElP l} {us:List Value},(∀j,k<=j->j<k+mP l->qcj E E' (ρ j) (ρ' j)) ->
  VRs E (qan l ρ k x) us->VRs E' (qan l ρ' k x) us
 | [],k,x,us,hn,h=>by have:=h.1;cases us with|nil=>exact VRs.nil|cons _ _=>simp [qan] at this
 | .dat c::l,k,x,us,hn,h=>by
  obtain⟨u,us,rfl,a1,a2⟩:=VRs.inv (v:=asIV c x.1) (cs:=qan l ρ k x.2) h;exact VRs.cons (qfd hm hw a1) (argsP_env hm hw l hn a2)
 | .fn f::l,k,x,us,hn,h=>by
  obtain⟨u,us,rfl,a1,a2⟩:=VRs.inv (v:=.fn f []) (cs:=qan l ρ k x) h;refine VRs.cons ?_ (argsP_env hm hw l hn a2);cases a1 with
  | fn hl hh =>
   rename_i us0;have:us0=[]:=jbq.1 hl.symm;subst this;exact .fn (cs:=[]) rfl (fun i h=>by simp at h)
 | .ref r::l,k,x,us,hn,h=>by
  obtain⟨u,us,rfl,a1,a2⟩:=VRs.inv (v:=argK r (ρ k)) (cs:=qan l ρ (k+1) x.2) h;exact VRs.cons (q5a (hn k (jaq _) (by simp only[mP];omega)) a1) (argsP_env hm hw l (fun j a b=>hn j (by omega) (by simp only[mP];omega)) a2)
theorem qq8{ρ:Nat->Nat}:∀(l:List PK) {k:Nat} {x:ElP l} {us:List Value} (z:ElP (refs l)),VRs E (qan l ρ k x) us->∃us',VRs E (qan (refs l) ρ k z) us'
 | [],k,x,us,z,h=>⟨[],VRs.nil⟩
 | .dat c::l,k,x,us,z,h=>by
  obtain⟨u,us,rfl,a1,a2⟩:=VRs.inv (v:=asIV c x.1) (cs:=qan l ρ k x.2) h;exact qq8 l z a2
 | .fn f::l,k,x,us,z,h=>by
  obtain⟨u,us,rfl,a1,a2⟩:=VRs.inv (v:=.fn f []) (cs:=qan l ρ k x) h;exact qq8 l z a2
 | .ref r::l,k,x,us,z,h=>by
  obtain⟨u,us,rfl,a1,a2⟩:=VRs.inv (v:=argK r (ρ k)) (cs:=qan l ρ (k+1) x.2) h;obtain⟨us',h'⟩:=qq8 l z.2 a2;exact⟨u::us',VRs.cons a1 h'⟩
end

def rdC:(c:CT)->IS->List IV->Option (ElC c × List Nat × List IV × IS × Nat)
 | .dat c,S,cs=>match icl c S cs with
  | some (x,r,S1,w)=>some (x,[],r,S1,w)
  | none=>none
 | .arr c,S,cs=>match cs with
  | v::r=>match coeV S c v with
   | some (.arr id,S1,w)=>some ([],[id],r,S1,w)
   | _=>none
  | []=>none
 | .map k v,S,cs=>match cs with
  | .map id::r=>match qf3 S k v (.map id) with
   | some (S1,w)=>some ([],[id],r,S1,w)
   | none=>none
  | _=>none
 | .fn f,S,cs=>match cs with
  | .fn g []::r=>cond (Nat.beq g f) (some ((),[],r,S,0)) none
  | _=>none
def rdR:(r:List CT)->IS->List IV->Option (qcn r × List Nat × List IV × IS × Nat)
 | [],S,cs=>some ((),[],cs,S,0)
 | c::l,S,cs=>match rdC c S cs with
  | none=>none
  | some (x,i1,r1,S1,w1)=>match rdR l S1 r1 with
   | none=>none
   | some (y,i2,r2,S2,w2)=>some ((x,y),i1++i2,r2,S2,w1 ||| w2)
def rdS(c:TC)(S:IS)(v:IV):Option (Nat × IS × Nat) :=
 match v with
 | .arr id=>some (id,S,2 ^ id)
 | _=>match coeV S c v with
  | some (.arr id,S1,w)=>some (id,S1,w)
  | _=>none
def rdM(k v:TC)(S:IS)(x:IV):Option (Nat × IS × Nat) :=
 match x with
 | .map id=>match qf3 S k v (.map id) with
  | some (S1,w)=>some (id,S1,w)
  | none=>none
 | _=>none
def rdP0:(l:List PK)->IS->List IV->Option (ElP l × List Nat × List Nat × IS × Nat)
 | [],S,vs=>match vs with
  | []=>some ((),[],[],S,0)
  | _=>none
 | .dat c::l,S,vs=>match vs with
  | v::vs=>cond (fitV c v) (match icl c S (cellsOf v) with
   | some (x,[],S1,w1)=>match rdP0 l S1 vs with
    | some (y,q1,q2,S2,w2)=>some ((x,y),q1,q2,S2,w1 ||| w2)
    | none=>none
   | _=>none) none
  | []=>none
 | .fn f::l,S,vs=>match vs with
  | .fn g []::vs=>cond (Nat.beq g f) (rdP0 l S vs) none
  | _=>none
 | .ref (.sl c)::l,S,vs=>match vs with
  | v::vs=>match rdS c S v with
   | some (id,S1,w1)=>match rdP0 l S1 vs with
    | some (y,q1,q2,S2,w2)=>some ((none,y),id::q1,q2,S2,w1 ||| w2)
    | none=>none
   | none=>none
  | []=>none
 | .ref (.mp kc vc)::l,S,vs=>match vs with
  | v::vs=>match rdM kc vc S v with
   | some (id,S1,w1)=>match rdP0 l S1 vs with
    | some (y,q1,q2,S2,w2)=>some ((none,y),id::q1,q2,S2,w1 ||| w2)
    | none=>none
   | none=>none
  | []=>none
 | .ref (.box r)::l,S,vs=>match vs with
  | .ptr id 0::vs=>match S.heap.get id with
   | some (.row cs)=>match rdR r S cs with
    | some (x,i1,[],S1,w1)=>match rdP0 l S1 vs with
     | some (y,q1,q2,S2,w2)=>some ((x,y),id::q1,i1++q2,S2,2 ^ id ||| (w1 ||| w2))
     | none=>none
    | _=>none
   | _=>none
  | _=>none
 | .ref (.clo f is)::l,S,vs=>match vs with
  | .ptr id 0::vs=>match S.heap.get id with
   | some (.row [.fn _ _])=>match rdP0 l S vs with
    | some (y,q1,q2,S2,w2)=>some (((),y),id::q1,q2,S2,2 ^ id ||| w2)
    | none=>none
   | _=>none
  | _=>none
def qg0(rows:List Nat):List IV->List Nat->Bool
 | [],[]=>true
 | .ptr a 0::cs,k::is=>(match rows[k]? with
  | some b=>Nat.beq a b
  | none=>false)&&qg0 rows cs is
 | _,_=>false
def cloL(S:IS)(all:List Nat):List PK->List Nat->Bool
 | [],_=>true
 | .dat _::l,q=>cloL S all l q
 | .fn _::l,q=>cloL S all l q
 | .ref r::l,q=>match q with
  | id::q=>(match r with
   | .clo f is=>match S.heap.get id with
    | some (.row [.fn g cs])=>Nat.beq g f&&qg0 all cs is
    | _=>false
   | _=>true)&&cloL S all l q
  | []=>false
def rdP(l:List PK)(S:IS)(vs:List IV):Option (ElP l × List Nat × List Nat × IS × Nat):=match rdP0 l S vs with
 | some (x,q1,q2,S',w)=>cond (okPs (mP l) l&&cloL S' q1 l q1) (some (x,q1,q2,S',w)) none
 | none=>none
theorem qxn{l:List PK}{S S':IS}{vs:List IV}{x:ElP l}{q1 q2:List Nat}{w:Nat}(h:rdP l S vs=some (x,q1,q2,S',w)):rdP0 l S vs=some (x,q1,q2,S',w)/\okPs (mP l) l=true/\cloL S' q1 l q1=true:=by
 unfold rdP at h;split at h
 ·rename_i x1 a1 a2 S1 w1 h1;cases hb:(okPs (mP l) l&&cloL S1 a1 l a1) with
  | false=>rw[hb] at h;cases h
  | true =>
   rw[hb,jaa] at h;cases h;simp only[jah] at hb;exact⟨h1,hb.1,hb.2⟩
 ·cases h
section
variable {T : TW} {E : Env} {S : IS}
def Nums(ι:Nat->Nat)(n:Nat)(q:List Nat):Prop:=∀(j id:Nat),q[j]?=some id->ι (n+j)=id
theorem Nums.fst{ι:Nat->Nat}{n:Nat}{a b:List Nat}(h:Nums ι n (a++b)):Nums ι n a:=fun j id hj=>h j id (by rw[jas (jau.1 hj).1];exact hj)
theorem Nums.snd{ι:Nat->Nat}{n:Nat}{a b:List Nat}(h:Nums ι n (a++b)):Nums ι (n+a.length) b:=fun j id hj=>by
 have:=h (a.length+j) id (by rw[jat (by omega),ja2];exact hj)
 rwa [<- jci] at this
theorem zlj:∀(c:CT) {E:Env} {S:IS} {cs:List IV} {x:ElC c} {ids:List Nat} {r:List IV} {S':IS} {w:Nat} {us:List Value},rdC c S cs=some (x,ids,r,S',w)->Pre T E S->tin T.w w->VRs E cs us ->
  ∃E',E'.w=E.w/\Post T E S E' S'/\Fresh E S E'/\ids.length=nC c/\(∀id∈ids,E'.A id)/\∃us1 us2,us=us1++us2/\(∀ι n,Nums ι n ids->VRs E' (qdp c ι n x) us1)/\VRs E' r us2
 | .dat c,E,S,cs,x,ids,r,S',w,us,h,p,hw,hv=>by
  simp only[rdC] at h;split at h<;>cases h;rename_i h1;obtain⟨E1,e1,q1,f1,us1,us2,e2,v1,v2⟩:=qfx c h1 p hw hv;exact⟨E1,e1,q1,f1,rfl,fun id h=>(by cases h),us1,us2,e2,fun ι n _=>v1,v2⟩
 | .arr c,E,S,cs,x,ids,r,S',w,us,h,p,hw,hv=>by
  simp only[rdC] at h;cases cs with
  | nil=>cases h
  | cons v cs =>
  simp only at h;split at h<;>cases h;rename_i id h1;obtain⟨u,us,rfl,a1,a2⟩:=hv.inv;obtain⟨E1,e1,q1,f1,v1⟩:=qln p h1 hw a1;have hA:E1.A id:=by cases v1;assumption
  refine⟨E1,e1,q1,f1,rfl,fun id' h=>by rw[jb0.1 h];exact hA,[u],us,rfl,fun ι n hn=>?_,a2.mono (q1.env p)⟩;have:=hn 0 id rfl;simp only[qdp];rw[jbt] at this;rw[this];exact VRs.cons v1 VRs.nil
 | .map kc vc,E,S,cs,x,ids,r,S',w,us,h,p,hw,hv=>by
  cases cs with
  | nil=>cases h
  | cons v cs =>
  cases v<;>try (cases h;done)
  rename_i id;simp only[rdC] at h;split at h<;>cases h;rename_i h1;obtain⟨u,us,rfl,a1,a2⟩:=hv.inv;obtain⟨E1,e1,q1,f1⟩:=qtw p h1 hw a1;have v1:=a1.mono (q1.env p);have hA:E1.A id:=by cases v1;assumption
  refine⟨E1,e1,q1,f1,rfl,fun id' h=>by rw[jb0.1 h];exact hA,[u],us,rfl,fun ι n hn=>?_,a2.mono (q1.env p)⟩;have:=hn 0 id rfl;simp only[qdp];rw[jbt] at this;rw[this];exact VRs.cons v1 VRs.nil
 | .fn f,E,S,cs,x,ids,r,S',w,us,h,p,hw,hv=>by
  simp only[rdC] at h;split at h<;>try cases h
  rename_i g cs;cases hb:Nat.beq g f with
  | false=>rw[hb] at h;cases h
  | true =>
  rw[hb] at h;cases h;obtain rfl:=jaj hb;obtain⟨u,us,rfl,a1,a2⟩:=hv.inv;exact⟨E,rfl,Post.refl p,Fresh.refl E S,rfl,fun id h=>(by cases h),[u],us,rfl,fun ι n _=>VRs.cons a1 VRs.nil,a2⟩
theorem q8h:∀(c:List CT) {E:Env} {S:IS} {cs:List IV} {x:qcn c} {ids:List Nat} {r:List IV} {S':IS} {w:Nat} {us:List Value},rdR c S cs=some (x,ids,r,S',w)->Pre T E S->tin T.w w->VRs E cs us ->
  ∃E',E'.w=E.w/\Post T E S E' S'/\Fresh E S E'/\ids.length=nR c/\(∀id∈ids,E'.A id)/\∃us1 us2,us=us1++us2/\(∀ι n,Nums ι n ids->VRs E' (qca c ι n x) us1)/\VRs E' r us2
 | [],E,S,cs,x,ids,r,S',w,us,h,p,hw,hv=>by
  cases h;exact⟨E,rfl,Post.refl p,Fresh.refl E S,rfl,fun id h=>(by cases h),[],us,rfl,fun _ _ _=>VRs.nil,hv⟩
 | c::l,E,S,cs,x,ids,r,S',w,us,h,p,hw,hv=>by
  simp only[rdR] at h;split at h
  ·cases h
  rename_i x1 i1 r1 S1 w1 h1;split at h<;>cases h;rename_i y i2 w2 h2;obtain⟨g1,g2⟩:=qaq hw;obtain⟨E1,e1,q1,f1,l1,A1,us1,us2,rfl,v1,v2⟩:=zlj c h1 p g1 hv;obtain⟨E2,e2,q2,f2,l2,A2,us3,us4,rfl,v3,v4⟩:=q8h l h2 (q1.pre p) g2 v2;have hle:=q2.env (q1.pre p);refine⟨E2,e2.trans e1,Post.trans p q1 f1 q2,f1.trans f2 q1.le,by simp[l1,l2,nR],fun id h=>?_,us1++us3,us4,(jbj _ _ _).symm,fun ι n hn=>?_,v4⟩
  ·rcases jbe.1 h with h|h
   ·exact(hle.alw _ (A1 id h)).1
   ·exact A2 id h
  ·refine VRs.append ((v1 ι n hn.fst).mono hle) (v3 ι _ ?_);rw[<- l1];exact hn.snd
def qk1(E:Env)(rows:List Nat)(os:List IObj):Prop:=∀(j:Nat) (o:IObj),os[j]?=some o->∃id,rows[j]?=some id/\E.A id/\(o.blk=true->E.hb id=true)/\OR E id o
theorem znp{c:TC}{v:IV}{id:Nat}{S':IS}{w:Nat}{u:Value}(h:rdS c S v=some (id,S',w))(p:Pre T E S)(hw:tin T.w w)(hv:VR E v u) :
  ∃E',E'.w=E.w/\Post T E S E' S'/\Fresh E S E'/\E'.A id/\VR E' (.arr id) u:=by
 unfold rdS at h;split at h
 ·cases h;have hA:E.A id:=by cases hv;assumption
  exact⟨E,rfl,Post.refl p,Fresh.refl E S,hA,hv⟩
 ·split at h<;>cases h;rename_i h1;obtain⟨E1,e1,q1,f1,v1⟩:=qln p h1 hw hv;have hA:E1.A id:=by cases v1;assumption
  exact⟨E1,e1,q1,f1,hA,v1⟩
theorem zw4{kc vc:TC}{v:IV}{id:Nat}{S':IS}{w:Nat}{u:Value}(h:rdM kc vc S v=some (id,S',w))(p:Pre T E S)(hw:tin T.w w)(hv:VR E v u) :
  ∃E',E'.w=E.w/\Post T E S E' S'/\Fresh E S E'/\E'.A id/\VR E' (.map id) u:=by
 unfold rdM at h;split at h<;>try cases h
 split at h<;>cases h;rename_i h1;obtain⟨E1,e1,q1,f1⟩:=qtw p h1 hw hv;have v1:=hv.mono (q1.env p);have hA:E1.A id:=by cases v1;assumption
 exact⟨E1,e1,q1,f1,hA,v1⟩
theorem zb5{ι:Nat->Nat}{all:List Nat}(hn:Nums ι 0 all):∀{cs:List IV} {is:List Nat},qg0 all cs is=true->cs=is.map fun k=>.ptr (ι k) 0
 | [],[],_=>rfl
 | [],k::is,h=>by simp[qg0] at h
 | v::cs,[],h=>by cases v<;>simp [qg0] at h
 | v::cs,k::is,h=>by
  cases v<;>try (simp [qg0] at h;done)
  rename_i a off;cases off with
  | succ _=>simp [qg0] at h
  | zero =>
  simp only[qg0,jah] at h;obtain⟨h1,h2⟩:=h;cases hk:all[k]? with
  | none=>rw[hk] at h1;cases h1
  | some b =>
   rw[hk] at h1;have e1:a=b:=jaj h1;have e2:=hn k b hk;rw[ja5] at e2;rw[jb5,<- zb5 hn h2,e2,e1]
def CloP(S:IS)(ι:Nat->Nat)(l:List PK)(rows:List Nat):Prop:=qer l=true\/∃all,Nums ι 0 all/\cloL S all l rows=true
theorem CloP.tail{S:IS}{ι:Nat->Nat}{r:RK}{l:List PK}{id:Nat}{q:List Nat}(h:CloP S ι (.ref r::l) (id::q)):CloP S ι l q:=by
 rcases h with h|⟨all,h1,h2⟩
 ·simp only[qer,jah] at h;exact .inl h.2
 ·simp only[cloL,jah] at h2;exact .inr ⟨all,h1,h2.2⟩
theorem CloP.head{S:IS}{ι:Nat->Nat}{f:Nat}{is:List Nat}{l:List PK}{id:Nat}{q:List Nat}(h:CloP S ι (.ref (.clo f is)::l) (id::q)):True/\S.heap.get id=some (.row [.fn f (is.map fun k=>.ptr (ι k) 0)]):=by
 rcases h with h|⟨all,h1,h2⟩
 ·simp[qer] at h
 ·simp only[cloL,jah] at h2;have h3:=h2.1;split at h3
  ·rename_i g cs ho;simp only[jah] at h3;rw[ho,jaj h3.1,zb5 h1 h3.2];exact⟨trivial,rfl⟩
  ·cases h3
theorem qh4:∀(l:List PK) {E:Env} {S:IS} {vs:List IV} {x:ElP l} {rows subs:List Nat} {S':IS} {w:Nat} {us:List Value},rdP0 l S vs=some (x,rows,subs,S',w)->Pre T E S->tin T.w w->VRs E vs us ->
  ∃E',E'.w=E.w/\Post T E S E' S'/\Fresh E S E'/\rows.length=mP l/\subs.length=nP l/\(∀id∈subs,E'.A id)/\(∀ρ k,Nums ρ k rows->VRs E' (qan l ρ k x) us)/\(∀ι n,Nums ι n subs->CloP S' ι l rows->qk1 E' rows (qas l ι n x))
 | [],E,S,vs,x,rows,subs,S',w,us,h,p,hw,hv=>by
  cases vs with
  | cons v vs=>cases h
  | nil=>cases h;exact⟨E,rfl,Post.refl p,Fresh.refl E S,rfl,rfl,fun id h=>(by cases h),fun _ _ _=>hv,fun _ _ _ _ j o h=>(by simp[qas] at h)⟩
 | .dat c::l,E,S,vs,x,rows,subs,S',w,us,h,p,hw,hv=>by
  cases vs with
  | nil=>cases h
  | cons v vs =>
  simp only[rdP0] at h;cases hb:fitV c v with
  | false=>rw[hb] at h;cases h
  | true =>
  rw[hb,jaa] at h;split at h<;>try cases h
  rename_i x1 S1 w1 h1;split at h<;>cases h;rename_i y w2 h2;obtain⟨g1,g2⟩:=qaq hw;obtain⟨u,us,rfl,a1,a2⟩:=hv.inv;obtain⟨E1,e1,q1,f1,us1,us2,e2,v1,v2⟩:=qfx c h1 p g1 (a1.cells (qz9 hb));have:us2=[]:=by have:=v2.1;simpa using this.symm
  subst this;rw[jbl] at e2;rw[<- e2] at v1;have b1:=qvu hb a1 v1;obtain⟨E2,e3,q2,f2,l1,l2,A2,b2,b3⟩:=qh4 l h2 (q1.pre p) g2 (a2.mono (q1.env p));exact⟨E2,e3.trans e1,Post.trans p q1 f1 q2,f1.trans f2 q1.le,l1,l2,A2,fun ρ k hk=>VRs.cons (b1.mono (q2.env (q1.pre p))) (b2 ρ k hk),b3⟩
 | .fn f::l,E,S,vs,x,rows,subs,S',w,us,h,p,hw,hv=>by
  simp only[rdP0] at h;split at h<;>try cases h
  rename_i g vs;cases hb:Nat.beq g f with
  | false=>rw[hb] at h;cases h
  | true =>
  rw[hb] at h;have h:rdP0 l S vs=some (x,rows,subs,S',w):=h;obtain rfl:=jaj hb;obtain⟨u,us,rfl,a1,a2⟩:=hv.inv;obtain⟨E2,e3,q2,f2,l1,l2,A2,b2,b3⟩:=qh4 l h p hw a2;exact⟨E2,e3,q2,f2,l1,l2,A2,fun ρ k hk=>VRs.cons (a1.mono (q2.env p)) (b2 ρ k hk),b3⟩
 | .ref (.sl c)::l,E,S,vs,x,rows,subs,S',w,us,h,p,hw,hv=>by
  cases vs with
  | nil=>cases h
  | cons v vs =>
  simp only[rdP0] at h;split at h<;>try cases h
  rename_i id S1 w1 h1;split at h<;>cases h;rename_i y q1 w2 h2;obtain⟨g1,g2⟩:=qaq hw;obtain⟨u,us,rfl,a1,a2⟩:=hv.inv;obtain⟨E1,e1,p1,f1,A1,v1⟩:=znp h1 p g1 a1;have hle1:=p1.env p;obtain⟨E2,e3,p2,f2,l2,l3,A2,b2,b3⟩:=qh4 l h2 (p1.pre p) g2 (a2.mono hle1);have hle2:=p2.env (p1.pre p);have v2:=v1.mono hle2;have hA2:E2.A id:=by cases v2;assumption
  refine⟨E2,e3.trans e1,Post.trans p p1 f1 p2,f1.trans f2 p1.le,by simp[l2,mP],by simp[l3,nP,nK],A2,fun ρ k hk=>?_,fun ι n hn hc j o hj=>?_⟩
  ·refine VRs.cons ?_ (b2 ρ (k+1) fun j id' hj=>?_)
   ·have:=hk 0 id rfl;rw[jbt] at this;rw[this];exact v2
   ·have:=hk (j+1) id' (by simpa using hj)
    rwa [show k+(j+1)=k+1+j by omega] at this
  ·cases j with
   | zero =>
    simp only[qas,jap,jay] at hj;subst hj;exact⟨id,rfl,hA2,fun h=>(by cases h),trivial⟩
   | succ j =>
    simp only[qas,jar] at hj;obtain⟨id',d1,d2,d3,d4⟩:=b3 ι _ hn hc.tail j o hj;exact⟨id',(by rw[jar];exact d1),d2,d3,d4⟩
 | .ref (.mp kc vc)::l,E,S,vs,x,rows,subs,S',w,us,h,p,hw,hv=>by
  cases vs with
  | nil=>cases h
  | cons v vs =>
  simp only[rdP0] at h;split at h<;>try cases h
  rename_i id S1 w1 h1;split at h<;>cases h;rename_i y q1 w2 h2;obtain⟨g1,g2⟩:=qaq hw;obtain⟨u,us,rfl,a1,a2⟩:=hv.inv;obtain⟨E1,e1,p1,f1,A1,v1⟩:=zw4 h1 p g1 a1;have hle1:=p1.env p;obtain⟨E2,e3,p2,f2,l2,l3,A2,b2,b3⟩:=qh4 l h2 (p1.pre p) g2 (a2.mono hle1);have hle2:=p2.env (p1.pre p);have v2:=v1.mono hle2;have hA2:E2.A id:=by cases v2;assumption
  refine⟨E2,e3.trans e1,Post.trans p p1 f1 p2,f1.trans f2 p1.le,by simp[l2,mP],by simp[l3,nP,nK],A2,fun ρ k hk=>?_,fun ι n hn hc j o hj=>?_⟩
  ·refine VRs.cons ?_ (b2 ρ (k+1) fun j id' hj=>?_)
   ·have:=hk 0 id rfl;rw[jbt] at this;rw[this];exact v2
   ·have:=hk (j+1) id' (by simpa using hj)
    rwa [show k+(j+1)=k+1+j by omega] at this
  ·cases j with
   | zero =>
    simp only[qas,jap,jay] at hj;subst hj;exact⟨id,rfl,hA2,fun h=>(by cases h),trivial⟩
   | succ j =>
    simp only[qas,jar] at hj;obtain⟨id',d1,d2,d3,d4⟩:=b3 ι _ hn hc.tail j o hj;exact⟨id',(by rw[jar];exact d1),d2,d3,d4⟩
 | .ref (.box r)::l,E,S,vs,x,rows,subs,S',w,us,h,p,hw,hv=>by
  cases vs with
  | nil=>cases h
  | cons v vs =>
  cases v<;>try (cases h;done)
  rename_i id off;cases off with
  | succ _=>cases h
  | zero =>
  simp only[rdP0] at h;split at h<;>try cases h
  rename_i cs ho;split at h<;>try cases h
  rename_i x1 i1 S1 w1 h1;split at h<;>cases h;rename_i y q1 q2 w2 h2;obtain⟨g0,g3⟩:=qaq hw;obtain⟨g1,g2⟩:=qaq g3;have hT:=qah g0;obtain⟨u,us,rfl,a1,a2⟩:=hv.inv;have hA:E.A id:=by cases a1;assumption
  obtain⟨cells,t,k1,k2,k3,k4⟩:=p.st.objs id (T.sub _ hT) hA _ ho;have hblk:=p.st.blk id (T.sub _ hT) hA _ ho rfl;obtain⟨E1,e1,p1,f1,l1,A1,us1,us2,e2,v1,v2⟩:=q8h r h1 p g1 k4;have:us2=[]:=by have:=v2.1;simpa using this.symm
  subst this;rw[jbl] at e2;have hle1:=p1.env p;obtain⟨E2,e3,p2,f2,l2,l3,A2,b2,b3⟩:=qh4 l h2 (p1.pre p) g2 (a2.mono hle1);have hle2:=p2.env (p1.pre p);obtain⟨c1,c2,c3,c4,c5⟩:=(hle1.trans hle2).alw id hA;refine⟨E2,e3.trans e1,Post.trans p p1 f1 p2,f1.trans f2 p1.le,by simp[l2,mP],by simp[l1,l3,nP,nK],fun id' h=>?_,fun ρ k hk=>?_,fun ι n hn hc j o hj=>?_⟩
  ·rcases jbe.1 h with h|h
   ·exact(hle2.alw _ (A1 id' h)).1
   ·exact A2 id' h
  ·refine VRs.cons ?_ (b2 ρ (k+1) fun j id' hj=>?_)
   ·have:=hk 0 id rfl;rw[jbt] at this;rw[this];exact a1.mono (hle1.trans hle2)
   ·have:=hk (j+1) id' (by simpa using hj)
    rwa [show k+(j+1)=k+1+j by omega] at this
  ·cases j with
   | zero =>
    simp only[qas,jap,jay] at hj;subst hj;refine⟨id,rfl,c1,fun _=>c5.trans hblk,?_⟩;have hv1:=(v1 ι n hn.fst).mono hle2;have hl:(qca r ι n x1).length=cs.length:=by rw[hv1.1,<- e2,<- k4.1]
    refine⟨cells,t,by rw[c2,e3,e1];exact k1,by rw[c3];exact k2,by rw[hl];exact k3,?_⟩;rw[hl,e2];exact hv1
   | succ j =>
    simp only[qas,jar] at hj;have hn2:Nums ι (n+nK (.box r)) q2:=by show Nums ι (n+nR r) q2;rw[<- l1];exact hn.snd
    obtain⟨id',d1,d2,d3,d4⟩:=b3 ι _ hn2 hc.tail j o hj;exact⟨id',(by rw[jar];exact d1),d2,d3,d4⟩
 | .ref (.clo f is)::l,E,S,vs,x,rows,subs,S',w,us,h,p,hw,hv=>by
  cases vs with
  | nil=>cases h
  | cons v vs =>
  cases v<;>try (cases h;done)
  rename_i id off;cases off with
  | succ _=>cases h
  | zero =>
  simp only[rdP0] at h;split at h<;>try cases h
  rename_i g cs ho;split at h<;>cases h;rename_i y q1 w2 h2;obtain⟨g0,g2⟩:=qaq hw;have hT:=qah g0;obtain⟨u,us,rfl,a1,a2⟩:=hv.inv;have hA:E.A id:=by cases a1;assumption
  have hblk:=p.st.blk id (T.sub _ hT) hA _ ho rfl;obtain⟨E2,e3,p2,f2,l2,l3,A2,b2,b3⟩:=qh4 l h2 p g2 a2;have hle2:=p2.env p;obtain⟨c1,c2,c3,c4,c5⟩:=hle2.alw id hA;refine⟨E2,e3,p2,f2,by simp[l2,mP],by simp[l3,nP,nK],A2,fun ρ k hk=>?_,fun ι n hn hc j o hj=>?_⟩
  ·refine VRs.cons ?_ (b2 ρ (k+1) fun j id' hj=>?_)
   ·have:=hk 0 id rfl;rw[jbt] at this;rw[this];exact a1.mono hle2
   ·have:=hk (j+1) id' (by simpa using hj)
    rwa [show k+(j+1)=k+1+j by omega] at this
  ·cases j with
   | zero =>
    simp only[qas,jap,jay] at hj;subst hj;obtain⟨k1,k2⟩:=hc.head;exact⟨id,rfl,c1,fun _=>c5.trans hblk,(p2.pre p).st.objs id (T.sub _ hT) c1 _ k2⟩
   | succ j =>
    simp only[qas,jar] at hj;obtain⟨id',d1,d2,d3,d4⟩:=b3 ι _ hn hc.tail j o hj;exact⟨id',(by rw[jar];exact d1),d2,d3,d4⟩
theorem qpm(l:List PK){E:Env}{S:IS}{vs:List IV}{x:ElP l}{rows subs:List Nat}{S':IS}{w:Nat}{us:List Value}(h:rdP l S vs=some (x,rows,subs,S',w))(p:Pre T E S)(hw:tin T.w w)(hv:VRs E vs us) :
  ∃E',E'.w=E.w/\Post T E S E' S'/\Fresh E S E'/\rows.length=mP l/\subs.length=nP l/\(∀id∈subs,E'.A id)/\(∀ρ k,Nums ρ k rows->VRs E' (qan l ρ k x) us)/\(∀ι n,Nums ι n subs->qer l=true\/Nums ι 0 rows->qk1 E' rows (qas l ι n x))/\okPs (mP l) l=true:=by
 obtain⟨h1,h2,h3⟩:=qxn h;obtain⟨E',a1,a2,a3,a4,a5,a6,a7,a8⟩:=qh4 l h1 p hw hv;exact⟨E',a1,a2,a3,a4,a5,a6,a7,fun ι n hn hc=>a8 ι n hn (hc.imp (fun h=>h) fun h=>⟨rows,h,h3⟩),h2⟩
end

def qrm(k v k' v':TC)(l:List (El k × El v)):Option (List (El k' × El v')) :=
 if h:TC.beq k k'=true/\TC.beq v v'=true then some (TC.beq_eq h.1▸TC.beq_eq h.2▸l) else none
theorem q6p{k v k' v':TC}{l:List (El k × El v)}{l':List (El k' × El v')}(h:qrm k v k' v' l=some l'):IObj.tmap k v l=.tmap k' v' l':=by
 unfold qrm at h;split at h
 ·rename_i e;have e1:=TC.beq_eq e.1;have e2:=TC.beq_eq e.2;subst e1;subst e2;cases h;rfl
 ·cases h
theorem zac{c d:TC}{l:List (El c)}{l':List (El d)}(h:qbu c d l=some l'):IObj.arr c l=.arr d l':=by
 obtain⟨rfl,rfl⟩:=qct h;rfl
def fiC:(c:CT)->List Nat->IS->ElC c->Option (ElC c × List Nat)
 | .dat _,q,_,x=>some (x,q)
 | .arr c,q,S,_=>match q with
  | id::q=>match S.heap.get id with
   | some (.arr c' l)=>match qbu c' c l with
    | some l'=>some (l',q)
    | none=>none
   | _=>none
  | []=>none
 | .map k v,q,S,_=>match q with
  | id::q=>match S.heap.get id with
   | some (.tmap k' v' es)=>match qrm k' v' k v es with
    | some l'=>some (l',q)
    | none=>none
   | _=>none
  | []=>none
 | .fn _,q,_,x=>some (x,q)
def fiR:(r:List CT)->List Nat->IS->qcn r->Option (qcn r × List Nat)
 | [],q,_,_=>some ((),q)
 | c::cs,q,S,x=>match fiC c q S x.1 with
  | none=>none
  | some (x1,q1)=>match fiR cs q1 S x.2 with
   | none=>none
   | some (x2,q2)=>some ((x1,x2),q2)
def rowB(S:IS)(id:Nat):Bool:=match S.heap.get id with
 | some (.row _)=>true
 | _=>false
theorem qyh{S:IS}{id:Nat}(h:rowB S id=true):∃cs,S.H id=some (.row cs):=by
 unfold rowB at h;split at h
 ·rename_i cs ho;exact⟨cs,ho⟩
 ·cases h
def fiS(c:TC)(id:Nat)(S:IS):Option (Option (List (El c))):=match S.heap.get id with
 | some (.arr c' l)=>match qbu c' c l with
  | some l'=>some (some l')
  | none=>none
 | some .dead=>some none
 | _=>none
def fiM(k v:TC)(id:Nat)(S:IS):Option (Option (List (El k × El v))):=match S.heap.get id with
 | some (.tmap k' v' l)=>match qrm k' v' k v l with
  | some l'=>some (some l')
  | none=>none
 | some .dead=>some none
 | _=>none
def fiP:(l:List PK)->List Nat->List Nat->IS->ElP l->Option (ElP l)
 | [],_,_,_,_=>some ()
 | .dat _::l,r,q,S,x=>match fiP l r q S x.2 with
  | some y=>some (x.1,y)
  | none=>none
 | .fn _::l,r,q,S,x=>fiP l r q S x
 | .ref (.box k)::l,r,q,S,x=>match r with
  | id::r=>cond (rowB S id) (match fiR k q S x.1 with
   | none=>none
   | some (x1,q1)=>match fiP l r q1 S x.2 with
    | some y=>some (x1,y)
    | none=>none) none
  | []=>none
 | .ref (.sl c)::l,r,q,S,x=>match r with
  | id::r=>match fiS c id S with
   | none=>none
   | some x1=>match fiP l r q S x.2 with
    | some y=>some (x1,y)
    | none=>none
  | []=>none
 | .ref (.mp kc vc)::l,r,q,S,x=>match r with
  | id::r=>match fiM kc vc id S with
   | none=>none
   | some x1=>match fiP l r q S x.2 with
    | some y=>some (x1,y)
    | none=>none
  | []=>none
 | .ref (.clo _ _)::l,r,q,S,x=>match r with
  | id::r=>cond (rowB S id) (match fiP l r q S x.2 with
   | some y=>some ((),y)
   | none=>none) none
  | []=>none
theorem zj3{S:IS}:∀(c:CT) {q q':List Nat} {x x':ElC c},fiC c q S x=some (x',q')->(∀ι n,qdp c ι n x'=qdp c ι n x)/\∃q1,q=q1++q'/\q1.length=nC c/\∀j:Nat,(subC c x')[j]?=(q1[j]?).bind fun id=>S.heap.get id
 | .dat c,q,q',x,x',h=>by cases h;exact⟨fun _ _=>rfl,[],rfl,rfl,fun j=>by simp[subC]⟩
 | .arr c,q,q',x,x',h=>by
  cases q with
  | nil=>cases h
  | cons id q =>
  simp only[fiC] at h;split at h<;>try cases h
  rename_i c' l ho;split at h<;>cases h;rename_i hl;refine⟨fun _ _=>rfl,[id],rfl,rfl,fun j=>?_⟩;cases j with
  | zero=>simp only[subC,jap,jd9,ho,zac hl]
  | succ j=>simp [subC]
 | .map k v,q,q',x,x',h=>by
  cases q with
  | nil=>cases h
  | cons id q =>
  simp only[fiC] at h;split at h<;>try cases h
  rename_i k' v' es ho;split at h<;>cases h;rename_i hl;refine⟨fun _ _=>rfl,[id],rfl,rfl,fun j=>?_⟩;cases j with
  | zero=>simp only[subC,jap,jd9,ho,q6p hl]
  | succ j=>simp [subC]
 | .fn _,q,q',x,x',h=>by cases h;exact⟨fun _ _=>rfl,[],rfl,rfl,fun j=>by simp[subC]⟩
theorem qyy{α β:Type}{f:α->Option β}{a1 a2:List β}{q1 q2:List α}(hl:a1.length=q1.length)(h1:∀j:Nat,a1[j]?=(q1[j]?).bind f)(h2:∀j:Nat,a2[j]?=(q2[j]?).bind f)(j:Nat) :
  (a1++a2)[j]?=((q1++q2)[j]?).bind f:=by
 by_cases h:j<a1.length
 ·rw[jas h,jas (by omega),h1]
 ·rw[jat (by omega),jat (by omega),h2,hl]
theorem q94{S:IS}:∀(c:List CT) {q q':List Nat} {x x':qcn c},fiR c q S x=some (x',q')->(∀ι n,qca c ι n x'=qca c ι n x)/\∃q1,q=q1++q'/\q1.length=nR c/\∀j:Nat,(subR c x')[j]?=(q1[j]?).bind fun id=>S.heap.get id
 | [],q,q',x,x',h=>by cases h;exact⟨fun _ _=>rfl,[],rfl,rfl,fun j=>by simp[subR]⟩
 | c::cs,q,q',x,x',h=>by
  simp only[fiR] at h;split at h
  ·cases h
  rename_i x1 q1 h1;split at h<;>cases h;rename_i x2 h2;obtain⟨a1,p1,rfl,a2,a3⟩:=zj3 c h1;obtain⟨b1,p2,rfl,b2,b3⟩:=q94 cs h2;refine⟨fun ι n=>by simp only[qca,a1,b1],p1++p2,(jbj _ _ _).symm,by simp[a2,b2,nR],fun j=>?_⟩;exact qyy (by rw[qkw,a2]) a3 b3 j
theorem zkx{c:TC}{id:Nat}{S:IS}{x:Option (List (El c))}(h:fiS c id S=some x)(ι:Nat->Nat)(n:Nat):S.heap.get id=some (objK (.sl c) ι n x):=by
 unfold fiS at h;split at h<;>try cases h
 ·rename_i c' l ho;split at h<;>cases h;rename_i l' hl;rw[ho];exact jb2 some (zac hl)
 ·rename_i ho;exact ho
theorem zqm{k v:TC}{id:Nat}{S:IS}{x:Option (List (El k × El v))}(h:fiM k v id S=some x)(ι:Nat->Nat)(n:Nat):S.heap.get id=some (objK (.mp k v) ι n x):=by
 unfold fiM at h;split at h<;>try cases h
 ·rename_i k' v' l ho;split at h<;>cases h;rename_i l' hl;rw[ho];exact jb2 some (q6p hl)
 ·rename_i ho;exact ho
theorem qej{S:IS}:∀(l:List PK) {r q:List Nat} {x x':ElP l},fiP l r q S x=some x'->q.length=nP l ->
  (∀(ι:Nat->Nat) (n j:Nat) (o:IObj),(qas l ι n x')[j]?=some o->∃id,r[j]?=some id/\(((qas l ι n x)[j]?=some o/\rowB S id=true)\/S.heap.get id=some o))/\(∀ρ k,qan l ρ k x'=qan l ρ k x)/\∀j:Nat,(qch l x')[j]?=(q[j]?).bind fun id=>S.heap.get id
 | [],r,q,x,x',h,hl=>by
  cases h;have:q=[]:=by simpa [nP] using hl
  subst this;exact⟨fun _ _ j o hj=>by simp[qas] at hj,fun _ _=>rfl,fun j=>by simp[qch]⟩
 | .dat _::l,r,q,x,x',h,hl=>by
  simp only[fiP] at h;split at h<;>cases h;rename_i y h1;obtain⟨a1,a2,a3⟩:=qej l h1 hl;exact⟨fun ι n=>a1 ι n,fun ρ k=>by simp only[qan,a2],a3⟩
 | .fn f::l,r,q,x,x',h,hl=>by
  obtain⟨a1,a2,a3⟩:=qej l h hl;exact⟨fun ι n=>a1 ι n,fun ρ k=>jb2 (fun q=>IV.fn f []::q) (a2 ρ k),a3⟩
 | .ref (.box k)::l,r,q,x,x',h,hl=>by
  cases r with
  | nil=>cases h
  | cons id r =>
  simp only[fiP] at h;cases hb:rowB S id with
  | false=>rw[hb] at h;cases h
  | true =>
  rw[hb,jaa] at h;split at h
  ·cases h
  rename_i x1 q1 h1;split at h<;>cases h;rename_i y h2;obtain⟨a1,p1,rfl,a2,a3⟩:=q94 k h1;obtain⟨b1,b2,b3⟩:=qej l h2 (by simp only[jav,nP,nK] at hl;omega);refine⟨fun ι n j o hj=>?_,fun ρ k=>by simp only[qan,b2],fun j=>?_⟩
  ·cases j with
   | zero =>
    simp only[qas,jap,jay] at hj;refine⟨id,rfl,.inl ⟨?_,hb⟩⟩;rw[<- hj];simp only[qas,jap,objK,a1]
   | succ j=>exact b1 ι _ j o hj
  ·exact qyy ((qq3 k x1).trans a2.symm) a3 b3 j
 | .ref (.sl c)::l,r,q,x,x',h,hl=>by
  cases r with
  | nil=>cases h
  | cons id r =>
  simp only[fiP] at h;split at h
  ·cases h
  rename_i x1 h1;split at h<;>cases h;rename_i y h2;obtain⟨b1,b2,b3⟩:=qej l h2 (by simpa only [nP,nK,ja5] using hl);refine⟨fun ι n j o hj=>?_,fun ρ k=>by simp only[qan,b2],b3⟩;cases j with
  | zero =>
   simp only[qas,jap,jay] at hj;exact⟨id,rfl,.inr (by rw[<- hj];exact zkx h1 ι n)⟩
  | succ j=>exact b1 ι _ j o hj
 | .ref (.mp kc vc)::l,r,q,x,x',h,hl=>by
  cases r with
  | nil=>cases h
  | cons id r =>
  simp only[fiP] at h;split at h
  ·cases h
  rename_i x1 h1;split at h<;>cases h;rename_i y h2;obtain⟨b1,b2,b3⟩:=qej l h2 (by simpa only [nP,nK,ja5] using hl);refine⟨fun ι n j o hj=>?_,fun ρ k=>by simp only[qan,b2],b3⟩;cases j with
  | zero =>
   simp only[qas,jap,jay] at hj;exact⟨id,rfl,.inr (by rw[<- hj];exact zqm h1 ι n)⟩
  | succ j=>exact b1 ι _ j o hj
 | .ref (.clo f is)::l,r,q,x,x',h,hl=>by
  cases r with
  | nil=>cases h
  | cons id r =>
  simp only[fiP] at h;cases hb:rowB S id with
  | false=>rw[hb] at h;cases h
  | true =>
  rw[hb,jaa] at h;split at h<;>cases h;rename_i y h2;obtain⟨b1,b2,b3⟩:=qej l h2 (by simpa only [nP,nK,ja5] using hl);refine⟨fun ι n j o hj=>?_,fun ρ k=>by simp only[qan,b2],b3⟩;cases j with
  | zero =>
   simp only[qas,jap,jay] at hj;exact⟨id,rfl,.inl ⟨by rw[<- hj];rfl,hb⟩⟩
  | succ j=>exact b1 ι _ j o hj
def zs5(E:Env)(S:IS)(rows:List Nat)(os:List IObj):Prop:=∀(j:Nat) (o:IObj),os[j]?=some o->∃id,rows[j]?=some id/\E.A id/\(o.blk=true->E.hb id=true)/\OR E id o/\(o.live=true->∃o0,S.H id=some o0/\o0.live=true)
theorem quu{T:TW}{E:Env}{S:IS}{l:List PK}{rows q:List Nat}{x x':ElP l}(h:fiP l rows q S x=some x')(hl:q.length=nP l)(p:Pre T E S)(hT:∀id∈rows,T.r id){ι:Nat->Nat}{n:Nat}
  (hr:qk1 E rows (qas l ι n x)):zs5 E S rows (qas l ι n x'):=fun j o hj=>by
 obtain⟨id,d1,d2⟩:=(qej l h hl).1 ι n j o hj;rcases d2 with ⟨d2,d3⟩|d2
 ·obtain⟨id',g1,g2,g3,g4⟩:=hr j o d2;rw[d1] at g1;cases g1;obtain⟨cs,hcs⟩:=qyh d3;exact⟨id,d1,g2,g3,g4,fun _=>⟨_,hcs,rfl⟩⟩
 ·have hj2:j<(qas l ι n x).length:=by
   have:=(jau.1 hj).1;rw[qa3] at this ⊢;exact this
  obtain⟨id',g1,g2,g3,g4⟩:=hr j _ (jab hj2);rw[d1] at g1;cases g1;have hTr:=hT id (ja8 d1);exact⟨id,d1,g2,fun hb=>p.st.blk id hTr g2 o d2 hb,p.st.objs id hTr g2 o d2,fun hl=>⟨o,d2,hl⟩⟩
end Go.Jx
end

section
namespace Go.Jx
open Go Go.Sx Go.RowKit
universe u

structure SmR where
 ps:List PK
 rts:List (Bool × TC)
 f:ElP ps->Option (ElR rts × ElP (refs ps))
def RetB(B:Nat)(T:TW)(E:Env)(S:IS)(r:Res):Ending->World->Prop:=fun e w'=>∃u E',e=.returned u/\E'.w=w'/\VR E' r.v u/\PostB B T E S E' r.S
def newO(s:SmR)(y:ElR s.rts)(z:ElP (refs s.ps)):List IObj:=qch (refs s.ps) z++resO s.rts y
def ScB(s:SmR)(y:ElR s.rts)(z:ElP (refs s.ps)):IS:=addO (qas (refs s.ps) idN (mP s.ps) z++newO s y z) S0
def vB(s:SmR)(base:Nat)(y:ElR s.rts):IV:=tupI (resV s.rts (base+nP (refs s.ps)) y)
structure ConR (P:Program) (f:Nat) (s:SmR):Prop where
 callable:qam P f
 calls:∀(E:Env) (x:ElP s.ps) (us:List Value) (y:ElR s.rts) (z:ElP (refs s.ps)),s.f x=some (y,z)->Pre T0 E (Sc s.ps x)->VRs E (qan s.ps idN 0 x) us ->
  CallsIn Fence.wide 0 P f us.toArray E.w (RetB (mP s.ps) T0 E (Sc s.ps x) ⟨vB s (mP s.ps) y,ScB s y z,0,0⟩)
theorem qml{N:Nat}:∀l:List PK,okPs N (refs l)=okPs N l
 | []=>rfl
 | .dat _::l=>qml l
 | .fn _::l=>qml l
 | .ref _::l=>by simp only[refs,okPs,qml l]
def nuB(rows:List Nat)(m n k:Nat):Nat:=if k<m then rows.getD k 0 else n+(k-m)
theorem zbc{rows:List Nat}{m n k:Nat}(h:m<=k):nuB rows m n k=n+(k-m):=jak (by omega)
theorem za1{rows:List Nat}{m n k id:Nat}(h:k<m)(hr:rows[k]?=some id):nuB rows m n k=id:=by
 unfold nuB;rw[jal h,jam,hr];rfl
theorem qb2:∀l:List PK,mP (refs l)=mP l
 | []=>rfl
 | .dat _::l=>qb2 l
 | .fn _::l=>qb2 l
 | .ref _::l=>by simp only[refs,mP,qb2 l]
def qba:List Nat->Nat
 | []=>0
 | id::l=>2 ^ id ||| qba l
theorem qus{T:Nat->Prop}:∀{l:List Nat},tin T (qba l)->∀id∈l,T id
 | [],_,id,h=>by cases h
 | i::l,ht,id,h=>by
  obtain⟨h1,h2⟩:=qaq ht;rcases ja4.1 h with h|h
  ·rw[h];exact qah h1
  ·exact qus h2 id h
theorem qrr:∀{l:List Nat} {id:Nat},id∈l->(qba l).testBit id=true
 | [],id,h=>by cases h
 | i::l,id,h=>by
  simp only[qba,jbv,jdb];rcases ja4.1 h with h|h
  ·rw[h];exact .inl (jdn)
  ·exact .inr (qrr h)
def qe4:List Nat->IS->IS
 | [],S=>S
 | id::l,S=>qe4 l (S.set id .dead)
def setL:List Nat->List IObj->IS->IS
 | id::l,o::os,S=>setL l os (S.set id o)
 | _,_,S=>S
theorem qun:∀(l:List Nat) (S:IS),(qe4 l S).next=S.next
 | [],S=>rfl
 | id::l,S=>qun l _
theorem qui:∀(l:List Nat) (os:List IObj) (S:IS),(setL l os S).next=S.next
 | [],os,S=>rfl
 | _::_,[],S=>rfl
 | id::l,o::os,S=>qui l os _
theorem qo8:∀{l:List Nat} {S:IS} {k:Nat},k ∉ l->(qe4 l S).H k=S.H k
 | [],S,k,h=>rfl
 | id::l,S,k,h=>by
  simp only[ja4,not_or] at h;unfold qe4;rw[qo8 h.2,IS.H_set,up_ne _ _ h.1]
theorem q06:∀{l:List Nat} {S:IS} {k:Nat},k∈l->(qe4 l S).H k=some .dead
 | [],S,k,h=>by cases h
 | id::l,S,k,h=>by
  unfold qe4;by_cases hk:k∈l
  ·exact q06 hk
  ·rw[qo8 hk,IS.H_set];rcases ja4.1 h with h|h
   ·rw[h,qak]
   ·exact absurd h hk
theorem qhb:∀{l:List Nat} {os:List IObj} {S:IS} {k:Nat},k ∉ l->(setL l os S).H k=S.H k
 | [],os,S,k,h=>rfl
 | _::_,[],S,k,h=>rfl
 | id::l,o::os,S,k,h=>by
  simp only[ja4,not_or] at h;unfold setL;rw[qhb h.2,IS.H_set,up_ne _ _ h.1]
theorem qz0:∀{l:List Nat} {os:List IObj} {S:IS} {j k:Nat},l.Nodup->os.length=l.length->l[j]?=some k->(setL l os S).H k=os[j]?
 | [],os,S,j,k,hn,hl,h=>by simp at h
 | _::_,[],S,j,k,hn,hl,h=>by simp at hl
 | id::l,o::os,S,j,k,hn,hl,h=>by
  obtain⟨h1,h2⟩:=jd2.1 hn;unfold setL;cases j with
  | zero =>
   simp only[jap,jay] at h;subst h;rw[qhb h1,IS.H_set,qak];rfl
  | succ j =>
   rw[jar] at h ⊢;exact qz0 h2 (by simpa using hl) h
def qb6(s:SmR)(n:Nat)(rows subs:List Nat)(y:ElR s.rts)(z:ElP (refs s.ps))(S:IS):IS :=
 addO (newO s y z) (setL rows (qas (refs s.ps) (nuB rows (mP s.ps) n) (mP s.ps) z) (qe4 subs S))
def exR(s:SmR)(vs:List IV)(S:IS):Option Res :=
 match rdP s.ps S vs with
 | none=>none
 | some (x0,rows,subs,S1,w)=>cond (ndB (rows++subs)) (match fiP s.ps rows subs S1 x0 with
  | none=>none
  | some x=>match s.f x with
   | none=>none
   | some (y,z)=>some ⟨vB s S1.next y,qb6 s S1.next rows subs y z S1,0,(w ||| qba (rows++subs)) ||| cond (Nat.blt 0 rows.length) 0 (2 ^ S1.next)⟩) none
theorem qpw:∀(l:List PK) (x:ElP l) (o:IObj),o∈qch l x->datO o=true:=by
 have hr:∀(r:List CT) (x:qcn r) (o:IObj),o∈subR r x->datO o=true:=by
  intro r;induction r with
  | nil=>intro x o h;cases h
  | cons c cs ih =>
   intro x o h;rcases jbe.1 h with h|h
   ·cases c with
    | dat c=>cases h
    | arr c=>rw[jb0.1 h];rfl
    | map k v=>rw[jb0.1 h];rfl
    | fn f=>cases h
   ·exact ih x.2 o h
 intro l;induction l with
 | nil=>intro x o h;cases h
 | cons p l ih =>
  intro x o h;cases p with
  | dat c=>exact ih x.2 o h
  | fn f=>exact ih x o h
  | ref r =>
   rcases jbe.1 h with h|h
   ·cases r with
    | box r=>exact hr r x.1 o h
    | sl c=>cases h
    | mp k v=>cases h
    | clo f is=>cases h
   ·exact ih x.2 o h
theorem q0k{s:SmR}{y:ElR s.rts}{z:ElP (refs s.ps)}{o:IObj}(h:o∈newO s y z):datO o=true:=by
 rcases jbe.1 h with h|h
 ·exact qpw _ _ o h
 ·obtain⟨c,l,rfl⟩:=qk7 _ _ _ h;rfl
theorem qy4{E E':Env}(hm:∀b,b∈E'.m->b∈E.m)(hw:E'.w=E.w):∀(cs:List (Bool × TC)) {k k':Nat} {y:ElR cs} {us:List Value},(∀j,qcj E E' (k+j) (k'+j))->VRs E (resV cs k y) us->VRs E' (resV cs k' y) us
 | [],k,k',y,us,hn,h=>by have:=h.1;cases us with|nil=>exact VRs.nil|cons _ _=>simp [resV] at this
 | (true,c)::cs,k,k',y,us,hn,h=>by
  obtain⟨u,us,rfl,a1,a2⟩:=VRs.inv (v:=.arr k) (cs:=resV cs (k+1) y.2) h;refine VRs.cons ?_ (qy4 hm hw cs (fun j=>?_) a2)
  ·cases a1 with
   | arr hA hh =>
    obtain⟨b1,b2,b3,b4,b5⟩:=hn 0 hA;exact .arr b1 (b4.trans hh)
  ·have:=hn (j+1)
   rwa [show k+(j+1)=k+1+j by omega,show k'+(j+1)=k'+1+j by omega] at this
 | (false,c)::cs,k,k',y,us,hn,h=>by
  obtain⟨u,us,rfl,a1,a2⟩:=VRs.inv (v:=asIV c y.1) (cs:=resV cs k y.2) h;exact VRs.cons (qfd hm hw a1) (qy4 hm hw cs hn a2)
theorem qnl:∀(cs:List (Bool × TC)) (i:Nat) (y:ElR cs),(resV cs i y).length=cs.length
 | [],_,_=>rfl
 | (true,_)::cs,i,y=>by simp only[resV,jbn,qnl cs]
 | (false,_)::cs,i,y=>by simp only[resV,jbn,qnl cs]
theorem zg0{E E':Env}{vs ws:List IV}{u:Value}(h:∀us,VRs E vs us->VRs E' ws us)(hl:vs.length=ws.length)(hu:VR E (tupI vs) u):VR E' (tupI ws) u:=by
 match vs,ws,hl with
 | [],[],_ =>
  cases hu with
  | tup hl hh=>have:=h _ ⟨hl,hh⟩;exact .tup this.1 this.2
 | [v],[w],_ =>
  have:=h [u] (VRs.cons hu VRs.nil);exact this.2 0 (by simp) (by simp)
 | v1::v2::vs,w1::w2::ws,_ =>
  cases hu with
  | tup hl hh=>have:=h _ ⟨hl,hh⟩;exact .tup this.1 this.2
section
variable {P : Program} {T : TW} {E : Env} {S : IS}
theorem q8z{f:Nat}{s:SmR}(hc:ConR P f s){vs:List IV}{r:Res}(h:exR s vs S=some r){us:List Value}(p:Pre T E S)(hwr:tin T.w r.wr)(hv:VRs E vs us) :
  qam P f/\CallsIn Fence.wide 0 P f us.toArray E.w (RetE T E S r):=by
 refine⟨hc.callable,?_⟩;unfold exR at h;split at h
 ·cases h
 rename_i x0 rows subs S1 w hrd;cases hb1:ndB (rows++subs) with
 | false=>rw[hb1] at h;cases h
 | true =>
 rw[hb1,jaa] at h;split at h
 ·cases h
 rename_i x hfi;split at h
 ·cases h
 rename_i y z hf;cases h;obtain⟨g1,g2⟩:=qaq (qaq hwr).1;obtain⟨E1,e1,q1,f1,l1,l2,A2,b2,b3,hok⟩:=qpm s.ps hrd p g1 hv;have p1:=q1.pre p;obtain⟨_,c2,c3⟩:=qej s.ps hfi l2;have hnd:=qii hb1;have hT:=qus g2;generalize hq:rows++subs=q at hnd hT;have hql:q.length=mP s.ps+nP s.ps:=by rw[<- hq,jav,l1,l2]
 have hnq:Nums (ol 0 q) 0 q:=fun j id hj=>by
  rw[ja5];unfold ol;rw[jak (by omega),jc6,jam,hj];rfl
 have hnr:Nums (ol 0 q) 0 rows:=by rw[<- hq] at hnq ⊢;exact hnq.fst
 have hns:Nums (ol 0 q) (mP s.ps) subs:=by
  have:=hnq;rw[<- hq] at this;have:=this.snd
  rwa [ja5,l1,hq] at this
 have hTr:∀id∈rows,T.r id:=fun id hid=>T.sub _ (hT id (by rw[<- hq];exact jbz _ hid));have hrows:=quu hfi l2 p1 hTr (b3 _ _ hns (.inr hnr));have hrk:∀k,k<mP s.ps->rows[k]?=some (ol 0 q k):=fun k hk=>by
  have h1:k<rows.length:=by omega
  rw[jab h1,<- hnr k _ (jab h1),ja5]
 have hsk:∀k,mP s.ps<=k->k<q.length->subs[k-mP s.ps]?=some (ol 0 q k):=fun k h1 h2=>by
  have h3:k-mP s.ps<subs.length:=by omega
  rw[jab h3,<- hns _ _ (jab h3),je2 h1]
 have hrowA:∀k,k<mP s.ps->∃r nj xj,(∀ι,(qas s.ps ι (mP s.ps) x)[k]?=some (objK r ι nj xj))/\mP s.ps<=nj/\nj+nK r<=q.length/\E1.A (ol 0 q k)/\((objK r (ol 0 q) nj xj).blk=true->E1.hb (ol 0 q k)=true)/\OR E1 (ol 0 q k) (objK r (ol 0 q) nj xj)/\((objK r (ol 0 q) nj xj).live=true->∃o0,S1.H (ol 0 q k)=some o0/\o0.live=true)/\∀k'∈isK r,k'<mP s.ps:=fun k hk=>by
  have h1:k<(qas s.ps (ol 0 q) (mP s.ps) x).length:=by rw[qa3];exact hk
  obtain⟨r,nj,xj,d1,d2,d3,d4,d5⟩:=qfl s.ps (ol 0 q) (mP s.ps) x k _ (jab h1);obtain⟨id,i1,i2,i3,i4,i5⟩:=hrows k _ (d4 (ol 0 q));rw[hrk k hk] at i1;cases i1;exact⟨r,nj,xj,d4,d2,by omega,i2,i3,i4,i5,d5 _ hok⟩
 have hA:∀id∈q,E1.A id:=fun id hid=>by
  rw[<- hq] at hid;rcases jbe.1 hid with hid|hid
  ·obtain⟨k,hk,rfl⟩:=jbu.1 hid;obtain⟨_,_,_,_,_,_,i2,_,_⟩:=hrowA k (by omega);have:=hrk k (by omega);rw[jab hk,jay] at this;rw[this];exact i2
  ·exact A2 id hid
 have hnum:∀k,k<q.length->qcj E1 (renE 0 q E1) (ol 0 q k) k:=fun k hk hA=>⟨⟨by omega,hA⟩,rfl,rfl,rfl,rfl⟩;have hobj:∀k o,k<q.length->E1.A (ol 0 q k)->(Sc s.ps x).H k=some o->ObjTo E1 S1 (renE 0 q E1) (ol 0 q k) k o:=fun k o hk hAk ho=>by
  unfold Sc at ho;rw[qgw] at ho;by_cases hkm:k<mP s.ps
  ·rw[jas (by rw[qa3];exact hkm)] at ho;obtain⟨r,nj,xj,d1,d2,d3,d4,d5,d6,d7,d8⟩:=hrowA k hkm;rw[d1 idN] at ho;cases ho;exact⟨OR.objK_to (E:=E1) (E':=renE 0 q E1) (fun _ h=>h) rfl hAk (hnum k hk) (fun j a b=>hnum j (by omega)) (fun j hj=>hnum j (by have:=d8 j hj;omega)) d6,fun hl=>d7 (qla.trans hl),fun hb=>d5 (qj2.trans hb)⟩
  ·rw[jat (by rw[qa3];omega),qa3] at ho;have hd:=qpw _ _ _ (ja8 ho);rw[c3,hsk k (by omega) hk] at ho;have hid:=(qbw hk).1;exact⟨OR.dat_to (E:=E1) (E':=renE 0 q E1) (fun _ h=>h) rfl hAk (hnum k hk) hd (p1.st.objs _ (T.sub _ (hT _ hid)) hAk _ ho),fun hl=>⟨_,ho,hl⟩,fun hbk=>p1.st.blk _ (T.sub _ (hT _ hid)) hAk _ ho hbk⟩
 have hpre:Pre T0 (renE 0 q E1) (Sc s.ps x):=Pre.re p1 hnd (fun id h=>T.sub _ (hT id h)) (by rw[qic,hql]) hobj;have hargs:VRs (renE 0 q E1) (qan s.ps idN 0 x) us:=argsP_env (E:=E1) (E':=renE 0 q E1) (ρ:=ol 0 q) (fun _ h=>h) rfl s.ps (fun j a b=>hnum j (by omega)) (by rw[c2];exact b2 _ _ hnr);have hcall:=hc.calls _ x us y z hf hpre hargs;rw[show (renE 0 q E1).w=E.w from e1] at hcall;refine hcall.mono fun e w' hR=>?_;obtain⟨u,Er,rfl,rfl,k1,k2⟩:=hR;have hlt:∀id,id∈q->id<S1.next:=fun id h=>p1.bnd id (hA id h)
 have hsb:∀k,k<q.length->Live (renE 0 q E1) (Sc s.ps x).H k->Live E1 S1.H (ol 0 q k):=fun k hk ⟨h0,o,h1,h2⟩=>⟨h0,(hobj k o hk (hA _ (qbw hk).1) h1).live h2⟩;have hbn:(setL rows (qas (refs s.ps) (nuB rows (mP s.ps) S1.next) (mP s.ps) z) (qe4 subs S1)).next=S1.next:=by rw[qui,qun]
 have hndr:rows.Nodup:=by rw[<- hq] at hnd;exact(jcf.1 hnd).1
 have hrs:∀id,id∈rows->id ∉ subs:=fun id h1 h2=>by
  rw[<- hq] at hnd;exact(jcf.1 hnd).2.2 id h1 id h2 rfl
 have hScB:∀k,(ScB s y z).H k=(qas (refs s.ps) idN (mP s.ps) z++newO s y z)[k]?:=fun k=>qgw _ k;have hEA:∀k,k<mP s.ps->Er.A k/\Er.ρ k=E1.ρ (ol 0 q k)/\Er.κ k=E1.κ (ol 0 q k)/\Er.hd k=E1.hd (ol 0 q k)/\Er.hb k=E1.hb (ol 0 q k):=fun k hk=>by
  obtain⟨a1,a2,a3,a4,a5⟩:=k2.alw k hk ⟨by omega,hA _ (qbw (by omega)).1⟩;exact⟨a1,a2,a3,a4,a5⟩
 obtain⟨m1,m2⟩:=zeh (n:=S1.next) (m:=mP s.ps) (S':=qb6 s S1.next rows subs y z S1) p1 hnd hT hA (by omega) rfl hsb k2 (by
   unfold qb6 ScB;rw[qc9,qc9,hbn,jav,qa3,qb2];have:S0.next=0:=rfl
   omega) (fun id hid hnq=>by
   unfold qb6;rw[qcl,hbn,jal hid,qhb (fun h=>hnq (by rw[<- hq];exact jbz _ h)),qo8 (fun h=>hnq (by rw[<- hq];exact jb3 _ h))]) (fun k o hk ho=>by
   unfold qb6 at ho;have hin:=(qbw (q:=q) (k:=k) (by omega)).1;rw[qcl,hbn,jal (hlt _ hin),qz0 hndr (by rw[qa3,qb2,l1]) (hrk k hk)] at ho;obtain⟨r,nj,xj,rfl,d2,d3,d4,d5⟩:=qfl _ _ _ _ _ _ ho;have d5:=d5 (mP s.ps) (by rw[qml];exact hok);have hsr:(ScB s y z).H k=some (objK r idN nj xj):=by
    rw[hScB,jas (by rw[qa3,qb2];exact hk)];exact d4 idN
   obtain⟨a1,a2,a3,a4,a5⟩:=hEA k hk;obtain⟨o1,o2,o3,o4⟩:=qc1 (E:=E1) (Er:=Er) (n:=S1.next) (m:=mP s.ps) (hlt _ hin);obtain⟨_,_,_,_,_,_,i2,_⟩:=hrowA k hk;exact⟨OR.objK_to (E:=Er) (E':=mrgR E1 Er S1.next (mP s.ps)) (fun _ h=>h) rfl a1 (fun _=>⟨.inl ⟨hlt _ hin,i2⟩,o1.trans a2.symm,o2.trans a3.symm,o3.trans a4.symm,o4.trans a5.symm⟩) (fun j a b hAj=>by
    obtain⟨r1,r2,r3,r4,r5⟩:=qjm (E:=E1) (Er:=Er) (n:=S1.next) (m:=mP s.ps) (k:=j) (by omega);rw[zbc (by omega)];exact⟨r5 hAj,r1,r2,r3,r4⟩) (fun j hj hAj=>by
    have hjm:=d5 j hj;obtain⟨a1',a2',a3',a4',a5'⟩:=hEA j hjm;have hinj:=(qbw (q:=q) (k:=j) (by omega)).1;obtain⟨o1',o2',o3',o4'⟩:=qc1 (E:=E1) (Er:=Er) (n:=S1.next) (m:=mP s.ps) (hlt _ hinj);rw[za1 hjm (hrk j hjm)];exact⟨.inl ⟨hlt _ hinj,hA _ hinj⟩,o1'.trans a2'.symm,o2'.trans a3'.symm,o3'.trans a4'.symm,o4'.trans a5'.symm⟩) (k2.st.objs k trivial a1 _ hsr),fun hl=>⟨_,hsr,qla.trans hl⟩,fun hb=>(o4.trans a5.symm).trans (k2.st.blk k trivial a1 _ hsr (qj2.trans hb))⟩) (fun k o h1 h2 ho=>by
   unfold qb6 at ho;have hin:=(qbw (q:=q) (k:=k) h2).1;have hin2:=ja8 (hsk k h1 h2);rw[qcl,hbn,jal (hlt _ hin),qhb (fun h=>hrs _ h hin2),q06 hin2] at ho;cases ho;rfl) (fun k o h1 hAk ho=>by
   unfold qb6 at ho;have hkb:=k2.bnd k hAk;unfold ScB at hkb;rw[qc9,jav,qa3,qb2] at hkb;have e0:S0.next=0:=rfl
   rw[qcl,hbn,jak (by omega),jal (by omega),ja2] at ho;have hd:=q0k (ja8 ho);have hsr:(ScB s y z).H k=some o:=by
    rw[hScB,jat (by rw[qa3,qb2];exact h1),qa3,qb2];exact ho
   obtain⟨r1,r2,r3,r4,r5⟩:=qjm (E:=E1) (Er:=Er) (n:=S1.next) (m:=mP s.ps) (k:=k) h1;exact⟨OR.dat_to (E:=Er) (E':=mrgR E1 Er S1.next (mP s.ps)) (fun _ h=>h) rfl hAk (fun hA=>⟨r5 hA,r1,r2,r3,r4⟩) hd (k2.st.objs k trivial hAk _ hsr),fun hl=>⟨_,hsr,hl⟩,fun hbk=>r4.trans (k2.st.blk k trivial hAk _ hsr hbk)⟩)
 refine⟨u,mrgR E1 Er S1.next (mP s.ps),rfl,rfl,?_,Post.trans p q1 f1 m1,f1.trans m2 q1.le⟩;refine zg0 (E:=Er) (E':=mrgR E1 Er S1.next (mP s.ps)) (fun us h=>qy4 (E:=Er) (E':=mrgR E1 Er S1.next (mP s.ps)) (fun _ h=>h) rfl s.rts (fun j hAj=>?_) h) (by rw[qnl,qnl]) k1;obtain⟨r1,r2,r3,r4,r5⟩:=qjm (E:=E1) (Er:=Er) (n:=S1.next) (m:=mP s.ps) (k:=mP s.ps+nP (refs s.ps)+j) (by omega);have e:S1.next+(mP s.ps+nP (refs s.ps)+j-mP s.ps)=S1.next+nP (refs s.ps)+j:=by omega
 rw[e] at r1 r2 r3 r4 r5;exact⟨r5 hAj,r1,r2,r3,r4⟩
end
end Go.Jx
end

section
namespace Go.Jx
open Go Go.Sx Go.RowKit
universe u

def exRK{R:Type}(s:SmR)(vs:List IV)(S:IS)(kk:Res->Option R):Option R :=
 match rdP s.ps S vs with
 | none=>none
 | some (x0,rows,subs,S1,w)=>cond (ndB (rows++subs)) (match fiP s.ps rows subs S1 x0 with
  | none=>none
  | some x=>match s.f x with
   | none=>none
   | some (y,z)=>kk ⟨vB s S1.next y,qb6 s S1.next rows subs y z S1,0,(w ||| qba (rows++subs)) ||| cond (Nat.blt 0 rows.length) 0 (2 ^ S1.next)⟩) none
theorem ztd{R:Type}(s:SmR)(vs:List IV)(S:IS)(kk:Res->Option R):exRK s vs S kk=ob (exR s vs S) kk:=by
 simp only[exRK,exR];cases rdP s.ps S vs with
 | none=>rfl
 | some q =>
  obtain⟨x0,rows,subs,S1,w⟩:=q;simp only[qbd];cases fiP s.ps rows subs S1 x0 with
  | none=>rfl
  | some x =>
   simp only;cases s.f x with
   | none=>rfl
   | some q=>rfl
def hxR(s:SmR):Hx:=⟨fun _ vs S=>exR s vs S,fun _ _ vs S kk=>exRK s vs S kk,fun _ _ _ _ vs S kk=>ztd s vs S kk⟩
theorem zja{S S':IS}:∀(c:CT) {cs:List IV} {x:ElC c} {ids:List Nat} {r:List IV} {w:Nat},rdC c S cs=some (x,ids,r,S',w)->FrX S S' w
 | .dat c,cs,x,ids,r,w,h=>by
  simp only[rdC] at h;split at h<;>cases h;rename_i h1;obtain⟨a1,a2⟩:=qe9 c _ _ _ _ _ _ h1;exact⟨jdq a1.symm,fun id _ hb=>a2 id hb⟩
 | .arr c,cs,x,ids,r,w,h=>by
  cases cs with
  | nil=>cases h
  | cons v cs =>
  simp only[rdC] at h;split at h<;>cases h;rename_i h1;exact qrk h1
 | .map k v,cs,x,ids,r,w,h=>by
  cases cs with
  | nil=>cases h
  | cons u cs =>
  cases u<;>try (cases h;done)
  simp only[rdC] at h;split at h<;>cases h;rename_i h1;exact qst h1
 | .fn f,cs,x,ids,r,w,h=>by
  simp only[rdC] at h;split at h<;>try cases h
  rename_i g cs;cases hb:Nat.beq g f with
  | false=>rw[hb] at h;cases h
  | true =>
  rw[hb] at h;cases h;exact FrX.refl _ _
theorem q7v:∀(c:List CT) {S S':IS} {cs:List IV} {x:qcn c} {ids:List Nat} {r:List IV} {w:Nat},rdR c S cs=some (x,ids,r,S',w)->FrX S S' w
 | [],S,S',cs,x,ids,r,w,h=>by cases h;exact FrX.refl _ _
 | c::l,S,S',cs,x,ids,r,w,h=>by
  simp only[rdR] at h;split at h
  ·cases h
  rename_i h1;split at h<;>cases h;rename_i h2;exact(zja c h1).trans (q7v l h2)
theorem zvh{S S':IS}{c:TC}{v:IV}{id w:Nat}(h:rdS c S v=some (id,S',w)):FrX S S' w:=by
 unfold rdS at h;split at h
 ·cases h;exact FrX.refl _ _
 ·split at h<;>cases h;rename_i h1;exact qrk h1
theorem zmi{kc vc:TC}{S S':IS}{v:IV}{id w:Nat}(h:rdM kc vc S v=some (id,S',w)):FrX S S' w:=by
 unfold rdM at h;split at h<;>try cases h
 split at h<;>cases h;rename_i h1;exact qst h1
theorem qha:∀(l:List PK) {S S':IS} {vs:List IV} {x:ElP l} {q1 q2:List Nat} {w:Nat},rdP0 l S vs=some (x,q1,q2,S',w)->FrX S S' w
 | [],S,S',vs,x,q1,q2,w,h=>by
  cases vs with
  | cons v vs=>cases h
  | nil=>cases h;exact FrX.refl _ _
 | .dat c::l,S,S',vs,x,q1,q2,w,h=>by
  cases vs with
  | nil=>cases h
  | cons v vs =>
  simp only[rdP0] at h;cases hb:fitV c v with
  | false=>rw[hb] at h;cases h
  | true =>
  rw[hb,jaa] at h;split at h<;>try cases h
  rename_i h1;split at h<;>cases h;rename_i h2;obtain⟨a1,a2⟩:=qe9 c _ _ _ _ _ _ h1;exact FrX.trans ⟨jdq a1.symm,fun id _ hb=>a2 id hb⟩ (qha l h2)
 | .fn f::l,S,S',vs,x,q1,q2,w,h=>by
  simp only[rdP0] at h;split at h<;>try cases h
  rename_i g vs;cases hb:Nat.beq g f with
  | false=>rw[hb] at h;cases h
  | true =>
  rw[hb] at h;have h:rdP0 l S vs=some (x,q1,q2,S',w):=h;exact qha l h
 | .ref (.sl c)::l,S,S',vs,x,q1,q2,w,h=>by
  cases vs with
  | nil=>cases h
  | cons v vs =>
  simp only[rdP0] at h;split at h<;>try cases h
  rename_i h1;split at h<;>cases h;rename_i h2;exact(zvh h1).trans (qha l h2)
 | .ref (.mp kc vc)::l,S,S',vs,x,q1,q2,w,h=>by
  cases vs with
  | nil=>cases h
  | cons v vs =>
  simp only[rdP0] at h;split at h<;>try cases h
  rename_i h1;split at h<;>cases h;rename_i h2;exact(zmi h1).trans (qha l h2)
 | .ref (.box r)::l,S,S',vs,x,q1,q2,w,h=>by
  cases vs with
  | nil=>cases h
  | cons v vs =>
  cases v<;>try (cases h;done)
  rename_i id off;cases off with
  | succ _=>cases h
  | zero =>
  simp only[rdP0] at h;split at h<;>try cases h
  split at h<;>try cases h
  rename_i h1;split at h<;>cases h;rename_i h2;have:=(FrX.refl S (2 ^ id)).trans ((q7v r h1).trans (qha l h2));exact this
 | .ref (.clo f is)::l,S,S',vs,x,q1,q2,w,h=>by
  cases vs with
  | nil=>cases h
  | cons v vs =>
  cases v<;>try (cases h;done)
  rename_i id off;cases off with
  | succ _=>cases h
  | zero =>
  simp only[rdP0] at h;split at h<;>try cases h
  split at h<;>cases h;rename_i h2;exact(FrX.refl S (2 ^ id)).trans (qha l h2)
theorem qn9(l:List PK){S S':IS}{vs:List IV}{x:ElP l}{q1 q2:List Nat}{w:Nat}(h:rdP l S vs=some (x,q1,q2,S',w)):FrX S S' w:=qha l (qxn h).1
theorem qsa:∀(l:List Nat) (S:IS),FrX S (qe4 l S) (qba l)
 | [],S=>FrX.refl _ _
 | id::l,S=>(FrX.set S id .dead).trans (qsa l _)
theorem qth:∀(l:List Nat) (os:List IObj) (S:IS),FrX S (setL l os S) (qba l)
 | [],os,S=>FrX.refl _ _
 | _::_,[],S=>FrX.refl _ _
 | id::l,o::os,S=>(FrX.set S id o).trans (qth l os _)
theorem quz:∀(a b:List Nat),qba (a++b)=qba a ||| qba b
 | [],b=>by simp[qba]
 | x::a,b=>by simp only[jdu,qba,quz a,Nat.or_assoc]
theorem zk8{s:SmR}{vs:List IV}{S:IS}:FrO S (exR s vs S):=fun r h=>by
 unfold exR at h;split at h
 ·cases h
 rename_i x0 rows subs S1 w hrd;cases hb:ndB (rows++subs) with
 | false=>rw[hb] at h;cases h
 | true =>
 rw[hb,jaa] at h;split at h
 ·cases h
 split at h
 ·cases h
 rename_i y z hf;cases h;have h1:=qn9 _ hrd;have h2:=(qsa subs S1).trans ((qth rows (qas (refs s.ps) (nuB rows (mP s.ps) S1.next) (mP s.ps) z) _).trans (qku (newO s y z) _ 0));have h3:=h1.trans h2;rw[jec,Nat.or_comm (qba subs),<- quz] at h3;have h4:=h3.trans (FrX.refl _ (cond (Nat.blt 0 rows.length) 0 (2 ^ S1.next)));exact h4
theorem zjl{s:SmR}{vs:List IV}{S:IS}{r:Res}(h:exR s vs S=some r)(hw:r.wr=0):False:=by
 unfold exR at h;split at h
 ·cases h
 rename_i x0 rows subs S1 w hrd;cases hb:ndB (rows++subs) with
 | false=>rw[hb] at h;cases h
 | true =>
 rw[hb,jaa] at h;split at h
 ·cases h
 split at h
 ·cases h
 cases h;have h2:qba (rows++subs)=0:=(or_zero (or_zero hw).1).2;cases rows with
 | nil =>
  have h3:2 ^ S1.next=0:=(or_zero hw).2
  have:=jen (n:=S1.next);omega
 | cons id rows =>
  have:=qrr (l:=id::rows++subs) (id:=id) (by simp);rw[h2] at this;simp at this
theorem qz2{P:Program}{f:Nat}{s:SmR}(hc:ConR P f s):HxOK P f (hxR s).f :=
 .of (fun cl _ _ _ vs S r h T E us p _ hw hv=>q8z hc h p hw hv) (fun cl _ vs S=>zk8) (fun cl _ vs S r h hw _=>(zjl h hw).elim)

def ptrP:List PK->Nat->List IV
 | [],_=>[]
 | .dat _::l,k=>ptrP l k
 | .fn _::l,k=>ptrP l k
 | .ref r::l,k=>argK r k::ptrP l (k+1)
theorem qtz:∀(l:List PK) (k:Nat) (z:ElP (refs l)),qan (refs l) idN k z=ptrP l k
 | [],_,_=>rfl
 | .dat _::l,k,z=>qtz l k z
 | .fn _::l,k,z=>qtz l k z
 | .ref r::l,k,z=>by
  show argK r (idN k)::qan (refs l) idN (k+1) z.2=_;rw[qtz l];rfl
theorem qsm{E E':Env}:∀(l:List PK) {k:Nat} {us:List Value},(∀j,j<mP l->qcj E E' (k+j) (k+j))->VRs E (ptrP l k) us->VRs E' (ptrP l k) us
 | [],k,us,hn,h=>by have:=h.1;cases us with|nil=>exact VRs.nil|cons _ _=>simp [ptrP] at this
 | .dat _::l,k,us,hn,h=>qsm l hn h
 | .fn _::l,k,us,hn,h=>qsm l hn h
 | .ref r::l,k,us,hn,h=>by
  obtain⟨u,us,rfl,a1,a2⟩:=VRs.inv (v:=argK r k) (cs:=ptrP l (k+1)) h;refine VRs.cons (q5a (hn 0 (by simp only[mP];omega)) a1) (qsm l (fun j hj=>?_) a2);have:=hn (j+1) (by simp only[mP];omega)
  rwa [show k+(j+1)=k+1+j by omega] at this
theorem qhp:∀(l:List PK) {k:Nat} {S S':IS} {x:ElP (refs l)} {q1 q2:List Nat} {w:Nat},rdP0 (refs l) S (ptrP l k)=some (x,q1,q2,S',w)->∀j,j<mP l->q1[j]?=some (k+j)
 | [],k,S,S',x,q1,q2,w,h,j,hj=>by simp[mP] at hj
 | .dat _::l,k,S,S',x,q1,q2,w,h,j,hj=>qhp l h j hj
 | .fn _::l,k,S,S',x,q1,q2,w,h,j,hj=>qhp l h j hj
 | .ref (.sl c)::l,k,S,S',x,q1,q2,w,h,j,hj=>by
  simp only[refs,ptrP,argK,rdP0,rdS] at h;split at h<;>cases h;rename_i h2;cases j with
  | zero=>rfl
  | succ j =>
   have:=qhp l h2 j (by simp only[mP] at hj;omega);rw[jar,this];congr 1;omega
 | .ref (.mp kc vc)::l,k,S,S',x,q1,q2,w,h,j,hj=>by
  simp only[refs,ptrP,argK,rdP0,rdM] at h;split at h<;>try cases h
  rename_i h1;split at h1<;>cases h1;split at h<;>cases h;rename_i h2;cases j with
  | zero=>rfl
  | succ j =>
   have:=qhp l h2 j (by simp only[mP] at hj;omega);rw[jar,this];congr 1;omega
 | .ref (.box r)::l,k,S,S',x,q1,q2,w,h,j,hj=>by
  simp only[refs,ptrP,argK,rdP0] at h;split at h<;>try cases h
  split at h<;>try cases h
  split at h<;>cases h;rename_i h2;cases j with
  | zero=>rfl
  | succ j =>
   have:=qhp l h2 j (by simp only[mP] at hj;omega);rw[jar,this];congr 1;omega
 | .ref (.clo f is)::l,k,S,S',x,q1,q2,w,h,j,hj=>by
  simp only[refs,ptrP,argK,rdP0] at h;split at h<;>try cases h
  split at h<;>cases h;rename_i h2;cases j with
  | zero=>rfl
  | succ j =>
   have:=qhp l h2 j (by simp only[mP] at hj;omega);rw[jar,this];congr 1;omega
theorem qxx(l:List PK){k:Nat}{S S':IS}{x:ElP (refs l)}{q1 q2:List Nat}{w:Nat}(h:rdP (refs l) S (ptrP l k)=some (x,q1,q2,S',w)):∀j,j<mP l->q1[j]?=some (k+j):=qhp l (qxn h).1
def lowN:Nat->Nat->List Nat
 | 0,_=>[]
 | m+1,k=>k::lowN m (k+1)
theorem q77:∀(m k:Nat),(lowN m k).length=m
 | 0,_=>rfl
 | m+1,k=>jb2 (·+1) (q77 m (k+1))
theorem q5x:∀(m k j:Nat),j<m->(lowN m k)[j]?=some (k+j)
 | 0,k,j,h=>absurd h (Nat.not_lt_zero j)
 | m+1,k,0,h=>rfl
 | m+1,k,j+1,h=>by
  have:=q5x m (k+1) j (by omega);unfold lowN;rw[jar,this];congr 1;omega
def runQ(s:SmR)(r:Res):Option (ElR s.rts × ElP (refs s.ps)) :=
 match qlq s.rts.length r.v with
 | none=>none
 | some vs=>match clR s.rts r.S vs with
  | none=>none
  | some (a,S2,_)=>match rdP (refs s.ps) S2 (ptrP s.ps 0) with
   | none=>none
   | some (b,_,subs,S3,_)=>cond (ndB (subs++idsQ s.rts a)&&(subs++idsQ s.rts a).all (Nat.ble (mP s.ps))) (match qdn s.rts a S3 with
    | none=>none
    | some y=>match fiP (refs s.ps) (lowN (mP s.ps) 0) subs S3 b with
     | none=>none
     | some z=>some (y,z)) none
theorem q08{E E':Env}(hm:∀b,b∈E'.m->b∈E.m)(hw:E'.w=E.w):∀(cs:List (Bool × TC)) {a:ElQ cs} {S:IS} {y:ElR cs} {k:Nat} {us:List Value},qdn cs a S=some y->(∀(j id:Nat),(idsQ cs a)[j]?=some id->qcj E E' id (k+j))->VRs E (valQ cs a) us->VRs E' (resV cs k y) us
 | [],a,S,y,k,us,h,hn,hv=>by have:=hv.1;cases us with|nil=>exact VRs.nil|cons _ _=>simp [valQ] at this
 | (true,c)::cs,a,S,y,k,us,h,hn,hv=>by
  obtain⟨u,us,rfl,a1,a2⟩:=VRs.inv (v:=.arr a.1) (cs:=valQ cs a.2) hv;simp only[qdn] at h;split at h<;>try cases h
  split at h<;>try cases h
  split at h<;>cases h;rename_i y' hy;refine VRs.cons ?_ (q08 hm hw cs hy (fun j id hj=>?_) a2)
  ·cases a1 with
   | arr hA hh =>
    obtain⟨b1,b2,b3,b4,b5⟩:=hn 0 a.1 rfl hA;exact .arr b1 (b4.trans hh)
  ·have:=hn (j+1) id (by simp only[idsQ,jar];exact hj)
   rwa [show k+(j+1)=k+1+j by omega] at this
 | (false,c)::cs,a,S,y,k,us,h,hn,hv=>by
  obtain⟨u,us,rfl,a1,a2⟩:=VRs.inv (v:=asIV c a.1) (cs:=valQ cs a.2) hv;simp only[qdn] at h;split at h<;>cases h;rename_i y' hy;exact VRs.cons (qfd hm hw a1) (q08 hm hw cs hy hn a2)
theorem zv7{n:Nat}{v:IV}{vs:List IV}{E:Env}{u:Value}(h:qlq n v=some vs)(hv:VR E v u):∃us:List Value,VRs E vs us/\∀(E':Env) (ws:List IV),ws.length=n->VRs E' ws us->VR E' (tupI ws) u:=by
 replace h:=(q00 h).2
 unfold qrx at h;cases hone:Nat.beq n 1 with
 | true =>
  rw[hone,jaa] at h;cases h;have hlen:=jaj hone;exact⟨[u],VRs.cons hv VRs.nil,fun E' ws hl hw=>by
   rw[hlen] at hl;match ws,hl with
   | [a],_=>exact hw.2 0 (by simp) (by simp)⟩
 | false =>
  rw[hone,jad] at h;split at h<;>try cases h
  rename_i ws0;cases hb:Nat.beq ws0.length n with
  | false=>rw[hb] at h;cases h
  | true =>
  rw[hb,jaa] at h;cases h;cases hv with
  | tup hl hh =>
  refine⟨_,⟨hl,hh⟩,fun E' ws hl' hw=>?_⟩;match ws,hl' with
  | [],_=>exact .tup hw.1 hw.2
  | [a],hl'=>rw[<- hl'] at hone;cases hone
  | a::b::ws,_=>exact .tup hw.1 hw.2
theorem q1r{s:SmR}{r:Res}{x:ElP s.ps}{y:ElR s.rts}{z:ElP (refs s.ps)}{E E1:Env}{us:List Value}{u:Value}(h:runQ s r=some (y,z))(p0:Pre T0 E (Sc s.ps x))(hargs:VRs E (qan s.ps idN 0 x) us)
   (hpb:PostB (mP s.ps) T0 E (Sc s.ps x) E1 r.S) (hv:VR E1 r.v u):∃E',E'.w=E1.w/\VR E' (vB s (mP s.ps) y) u/\PostB (mP s.ps) T0 E (Sc s.ps x) E' (ScB s y z):=by
 have hT:∀id,mP s.ps<=id->T0.w id:=fun _ _=>trivial;have p1:=hpb.pre hT p0;unfold runQ at h;split at h
 · cases h
 rename_i vs hvs;split at h
 · cases h
 rename_i a S2 w2 ha;split at h
 · cases h
 rename_i b rows subs S3 w3 hb;cases hc:(ndB (subs++idsQ s.rts a)&&(subs++idsQ s.rts a).all (Nat.ble (mP s.ps))) with
 | false=>rw[hc] at h;cases h
 | true =>
 rw[hc,jaa] at h;simp only[jah] at hc;obtain⟨hc1,hc2⟩:=hc;split at h
 · cases h
 rename_i y' hy;split at h<;>cases h;rename_i hz;obtain⟨us1,hus,hfin⟩:=zv7 hvs hv;obtain⟨E2,e2,q2,f2,hv2⟩:=qqq s.rts ha p1 (fun _ _=>trivial) hus;have p2:=q2.pre p1
 -- the pointers
 have hA0:∀k,k<mP s.ps->E.A k:=by
   have key:∀(l:List PK) (k:Nat) (x:ElP l) (us:List Value),VRs E (qan l idN k x) us->∀j,j<mP l->E.A (k+j):=by
     intro l;induction l with
     | nil=>intro k x us _ j hj;simp [mP] at hj
     | cons pk l ih =>
       intro k x us hv j hj;cases pk with
       | dat c =>
         obtain⟨u,us,rfl,a1,a2⟩:=VRs.inv (v:=asIV c x.1) (cs:=qan l idN k x.2) hv;exact ih k x.2 us a2 j hj
       | fn f =>
         obtain⟨u,us,rfl,a1,a2⟩:=VRs.inv (v:=.fn f []) (cs:=qan l idN k x) hv;exact ih k x us a2 j hj
       | ref r =>
         obtain⟨u,us,rfl,a1,a2⟩:=VRs.inv (v:=argK r (idN k)) (cs:=qan l idN (k+1) x.2) hv;cases j with
         | zero=>exact q8t a1
         | succ j =>
           have:=ih (k+1) x.2 us a2 j (by simp only[mP] at hj;omega)
           rwa [show k+(j+1)=k+1+j by omega]
   intro k hk;have:=key s.ps 0 x us hargs k hk
   rwa [ja5] at this
 have hptr:∃us',VRs E2 (ptrP s.ps 0) us':=by
   obtain⟨us',h'⟩:=qq8 s.ps b hargs;rw[qtz] at h';refine⟨us',qsm s.ps (fun j hj hA=>?_) h'⟩;rw[ja5] at hA ⊢;obtain⟨a1,a2,a3,a4,a5⟩:=hpb.alw j hj hA;obtain⟨b1,b2,b3,b4,b5⟩:=(q2.env p1).alw _ a1;exact⟨b1,b2.trans a2,b3.trans a3,b4.trans a4,b5.trans a5⟩
 obtain⟨us',hptr⟩:=hptr;obtain⟨E3,e3,q3,f3,l1,l2,A3,b2,b3,hok⟩:=qpm (refs s.ps) hb p2 (fun _ _=>trivial) hptr;have p3:=q3.pre p2;obtain⟨_,c2,c3⟩:=qej (refs s.ps) hz l2;obtain⟨g1,g2⟩:=qpu s.rts hy;have hnd:=qii hc1;have hqB:∀id∈subs++idsQ s.rts a,mP s.ps<=id:=fun id hi=>jan ((ja0.1 hc2) id hi);have hnew:∀j:Nat,(newO s y z)[j]?=((subs++idsQ s.rts a)[j]?).bind fun id=>S3.heap.get id:=qyy (by rw[qjf,l2]) c3 g2;have hlen:(newO s y z).length=(subs++idsQ s.rts a).length:=by
   unfold newO;rw[jav,jav,qjf,l2,g1]
 generalize hq:subs++idsQ s.rts a=q at hnd hqB hnew hlen;have hlow:∀k,k<mP s.ps->ol (mP s.ps) q k=k:=fun k hk=>jal hk;have hhigh:∀k,mP s.ps<=k->k<mP s.ps+q.length->q[k-mP s.ps]?=some (ol (mP s.ps) q k):=fun k h1 h2=>by
   have h3:k-mP s.ps<q.length:=by omega
   unfold ol;rw[jak (by omega),jam,jab h3];rfl
 have hnum:∀k,k<mP s.ps+q.length->qcj E3 (renE (mP s.ps) q E3) (ol (mP s.ps) q k) k:=fun k hk hA=>⟨⟨hk,hA⟩,rfl,rfl,rfl,rfl⟩;have hns:Nums (ol (mP s.ps) q) (mP s.ps) subs:=fun j id hj=>by
   have h1:j<subs.length:=(jau.1 hj).1;have h2:=hhigh (mP s.ps+j) (by omega) (by rw[<- hq,jav];omega);rw[ja2,<- hq,jas h1,hj,hq] at h2;exact(jbs h2).symm
 have hlr:rows=lowN (mP s.ps) 0:=jcg fun j=>by
   by_cases hj:j<mP s.ps
   · rw[qxx s.ps hb j hj,q5x _ _ _ hj]
   · rw[jbc (by rw[l1,qb2];omega),jbc (by rw[q77];omega)]
 rw[<- hlr] at hz;have hnr:Nums (ol (mP s.ps) q) 0 rows:=fun j id hj=>by
   have h1:j<mP s.ps:=by have:=(jau.1 hj).1;rwa [l1,qb2] at this
   rw[qxx s.ps hb j h1,ja5] at hj;rw[ja5,hlow j h1];exact jbs hj
 have hrows:=quu hz l2 p3 (fun _ _=>trivial) (b3 _ _ hns (.inr hnr));have hScB:∀k,(ScB s y z).H k=(qas (refs s.ps) idN (mP s.ps) z++newO s y z)[k]?:=fun k=>qgw _ k;have hsl:nP (refs s.ps)<=q.length:=by rw[<- hq,jav,l2];omega
 have hre:=PostB.re (T:=T0) (B:=mP s.ps) (q:=q) (S':=ScB s y z) p3 hT hnd hqB (by
     unfold ScB;rw[qc9,jav,qa3,qb2,hlen];have:S0.next=0:=rfl
     omega) (fun k o hk hAk ho=>by
     rw[hScB] at ho;by_cases hkm:k<mP s.ps
     · rw[jas (by rw[qa3,qb2];exact hkm)] at ho;obtain⟨r',nj,xj,rfl,d2,d3,d4,d5⟩:=qfl _ _ _ _ _ _ ho;have d5:=d5 (mP s.ps) (by rw[qb2] at hok;exact hok);obtain⟨id,i1,i2,i3,i4,i5⟩:=hrows k _ (d4 _);have:=qxx s.ps hb k hkm;rw[ja5,i1] at this;cases this;have e:=hlow k hkm;rw[e];refine⟨OR.objK_to (E:=E3) (E':=renE (mP s.ps) q E3) (fun _ h=>h) rfl i2 (by have:=hnum k hk;rwa [e] at this) (fun j a b=>hnum j (by omega)) (fun j hj=>hnum j (by have:=d5 j hj;omega)) i4,fun hl=>i5 (qla.trans hl),fun hb=>?_⟩;show E3.hb (ol (mP s.ps) q k)=true;rw[e];exact i3 (qj2.trans hb)
     · rw[jat (by rw[qa3,qb2];omega),qa3,qb2] at ho;have hd:=q0k (ja8 ho);rw[hnew,hhigh k (by omega) hk] at ho;exact⟨OR.dat_to (E:=E3) (E':=renE (mP s.ps) q E3) (fun _ h=>h) rfl hAk (hnum k hk) hd (p3.st.objs _ trivial hAk _ ho),fun hl=>⟨_,ho,hl⟩,fun hbk=>p3.st.blk _ trivial hAk _ ho hbk⟩)
 have hpost:=Post.trans p1 q2 f2 q3;have hfr:=f2.trans f3 q2.le;refine⟨renE (mP s.ps) q E3,e3.trans e2,?_,(hpb.trans (PostB.of hpb.le hT hpost hfr)).trans hre⟩;refine hfin _ _ (qnl _ _ _) (q08 (E:=E3) (E':=renE (mP s.ps) q E3) (fun _ h=>h) rfl s.rts hy (fun j id hj=>?_) (hv2.mono (q3.env p2)));have h1:j<(idsQ s.rts a).length:=(jau.1 hj).1;have h2:mP s.ps+nP (refs s.ps)+j<mP s.ps+q.length:=by rw[<- hq,jav,l2];omega
 have h3:=hhigh _ (by omega) h2;rw[show mP s.ps+nP (refs s.ps)+j-mP s.ps=subs.length+j by omega,<- hq,jat (by omega),ja2,hj,hq] at h3;have h4:=jbs h3;have:=hnum _ h2
 rwa [<- h4] at this
end Go.Jx
end

section
namespace Go.Jx
open Go Go.Sx Go.RowKit
universe u

def WfC:(c:CT)->ElC c->Prop
 | .dat c=>fun x=>WfE c x
 | .arr c=>fun(l:List (El c))=>l.length*bsz c<=140737488355328/\∀x∈l,WfE c x
 | .map k v=>fun(es:List (El k × El v))=>∀e∈es,WfE k e.1/\WfE v e.2
 | .fn _=>fun _=>True
def WfR:(r:List CT)->qcn r->Prop
 | [],_=>True
 | c::cs,x=>WfC c x.1/\WfR cs x.2
def WfK:(r:RK)->ElK r->Prop
 | .box r,x=>WfR r x
 | .sl c,x=>match x with
  | some l=>l.length*bsz c<=140737488355328/\∀y∈l,WfE c y
  | none=>True
 | .mp k v,x=>match x with
  | some (es:List (El k × El v))=>∀e∈es,WfE k e.1/\WfE v e.2
  | none=>True
 | .clo _ _,_=>True
def WfP:(l:List PK)->ElP l->Prop
 | [],_=>True
 | .dat c::l,x=>WfE c x.1/\WfP l x.2
 | .fn _::l,x=>WfP l x
 | .ref r::l,x=>WfK r x.1/\WfP l x.2
section
variable {E : Env}
theorem zg9{c:TC}{x:El c}{us:List Value}(h:VRs E (cel c x) us):WfE c x :=
 wf_cells (E:=E) c x (fun j=>us.getD j .nilFunc) fun j hj=>by
  have hj2:j<us.length:=by rw[<- h.1];exact hj
  show VR E _ (us.getD j .nilFunc);rw[jam,jab hj2];exact h.2 j hj hj2
theorem zdl{k v:TC}{id:Nat}{x:List (El k × El v)}(h:OR E id (.tmap k v x)):∀e∈x,WfE k e.1/\WfE v e.2:=by
 obtain⟨ents,cl,h1,h2,h3,_⟩:=h;intro e he;obtain⟨i,hi,rfl⟩:=jbu.1 he;have hl:(tmEs k v x).length=List.length x:=jcq _;have hi1:i<((tmEs k v x).map (·.1)).length:=by rw[jcq,hl];exact hi
 have hi2:i<((tmEs k v x).map (·.2)).length:=by rw[jcq,hl];exact hi
 have q1:=h2.2 i hi1 (by rw[<- h2.1];exact hi1);have q2:=h3.2 i hi2 (by rw[<- h3.1];exact hi2);have e:(tmEs k v x)[i]'(by rw[hl];exact hi)=(asIV k (List.get x ⟨i,hi⟩).1,asIV v (List.get x ⟨i,hi⟩).2):=jb6 _;rw[jb6,e] at q1;rw[jb6,e] at q2;exact⟨qn6 q1,qn6 q2⟩
theorem wfC{H:Nat->Option IObj}{ι:Nat->Nat}(hH:∀id o,E.A id->H id=some o->OR E id o):∀(c:CT) {n:Nat} {x:ElC c} {us:List Value},VRs E (qdp c ι n x) us->(∀j:Nat,j<nC c->H (ι (n+j))=(subC c x)[j]?)->WfC c x
 | .dat c,n,x,us,h,_=>zg9 h
 | .arr c,n,x,us,h,hs=>by
  obtain⟨u,us,rfl,a1,a2⟩:=VRs.inv (v:=.arr (ι n)) (cs:=[]) h;have hA:E.A (ι n):=by cases a1;assumption
  have h0:=hs 0 (Nat.one_pos);rw[jbt] at h0;obtain⟨a,cap,h1,h2,h3,h4,h5⟩:=hH _ (.arr c x) hA h0;refine⟨h4,fun y hy=>?_⟩;obtain⟨i,hi,rfl⟩:=jbu.1 hy;rcases h5 with ⟨_,h5,_⟩|⟨_,_,cells,t,_,_,us,_,h6⟩
  ·omega
  ·exact wf_cells c _ (us i) (h6 i hi)
 | .map k v,n,x,us,h,hs=>by
  obtain⟨u,us,rfl,a1,a2⟩:=VRs.inv (v:=.map (ι n)) (cs:=[]) h;have hA:E.A (ι n):=by cases a1;assumption
  have h0:=hs 0 (Nat.one_pos);rw[jbt] at h0;exact zdl (hH _ (.tmap k v x) hA h0)
 | .fn _,n,x,us,h,hs=>trivial
theorem znr{c:TC}{id:Nat}{l:List (El c)}(h:OR E id (.arr c l)):l.length*bsz c<=140737488355328/\∀y∈l,WfE c y:=by
 obtain⟨a,cap,h1,h2,h3,h4,h5⟩:=h;refine⟨h4,fun y hy=>?_⟩;obtain⟨i,hi,rfl⟩:=jbu.1 hy;rcases h5 with ⟨_,h5,_⟩|⟨_,_,cells,t,_,_,us,_,h6⟩
 ·omega
 ·exact wf_cells c _ (us i) (h6 i hi)
theorem wfR{H:Nat->Option IObj}{ι:Nat->Nat}(hH:∀id o,E.A id->H id=some o->OR E id o):∀(r:List CT) {n:Nat} {x:qcn r} {us:List Value},VRs E (qca r ι n x) us->(∀j:Nat,j<nR r->H (ι (n+j))=(subR r x)[j]?)->WfR r x
 | [],n,x,us,h,hs=>trivial
 | c::cs,n,x,us,h,hs=>by
  obtain⟨us1,us2,rfl,h1,h2⟩:=VRs.split (cs:=qdp c ι n x.1) (ds:=qca cs ι (n+nC c) x.2) h;refine⟨wfC hH c h1 fun j hj=>?_,wfR hH cs h2 fun j hj=>?_⟩
  ·rw[hs j (by simp only[nR];omega)];simp only[subR];rw[jas (by rw[qkw];exact hj)]
  ·have:=hs (nC c+j) (by simp only[nR];omega);rw[<- jci] at this;rw[this];simp only[subR];rw[jat (by rw[qkw];omega),qkw,ja2]
theorem wfP{H:Nat->Option IObj}(hH:∀id o,E.A id->H id=some o->OR E id o):∀(l:List PK) {k n:Nat} {x:ElP l} {us:List Value},VRs E (qan l idN k x) us ->
  (∀j:Nat,j<mP l->H (k+j)=(qas l idN n x)[j]?)->(∀j:Nat,j<nP l->H (n+j)=(qch l x)[j]?)->WfP l x
 | [],k,n,x,us,h,_,_=>trivial
 | .dat c::l,k,n,x,us,h,h1,h2=>by
  obtain⟨u,us,rfl,a1,a2⟩:=VRs.inv (v:=asIV c x.1) (cs:=qan l idN k x.2) h;exact⟨qn6 a1,wfP hH l a2 h1 h2⟩
 | .fn f::l,k,n,x,us,h,h1,h2=>by
  obtain⟨u,us,rfl,a1,a2⟩:=VRs.inv (v:=.fn f []) (cs:=qan l idN k x) h;exact wfP (x:=x) hH l a2 h1 h2
 | .ref r::l,k,n,x,us,h,h1,h2=>by
  obtain⟨u,us,rfl,a1,a2⟩:=VRs.inv (v:=argK r (idN k)) (cs:=qan l idN (k+1) x.2) h;have hA:E.A k:=q8t a1;have h0:=h1 0 (by simp only[mP];omega);rw[jbt] at h0;have h0:H k=some (objK r idN n x.1):=h0;refine⟨?_,wfP hH l (n:=n+nK r) a2 (fun j hj=>?_) fun j hj=>?_⟩
  ·match r,x,h0,h2 with
   | .box r,x,h0,h2 =>
    obtain⟨cells,t,k1,k2,k3,k4⟩:=hH k _ hA (h0.trans (show _=some (.row (qca r idN n x.1)) from rfl));refine wfR (ι:=idN) hH r k4 fun j hj=>?_;have:=h2 j (by simp only[nP,nK];omega);show H (n+j)=_;rw[this];exact jas (l₂:=qch l x.2) (je5 hj (qq3 r x.1).symm)
   | .sl c,(some l,x),h0,h2=>exact znr (c:=c) (l:=l) (hH k _ hA (h0.trans rfl))
   | .sl c,(none,x),h0,h2=>trivial
   | .mp kc vc,(some l,x),h0,h2=>exact zdl (k:=kc) (v:=vc) (x:=l) (hH k _ hA (h0.trans rfl))
   | .mp kc vc,(none,x),h0,h2=>trivial
   | .clo f is,(_,x),h0,h2=>trivial
  ·have:=h1 (j+1) (by simp only[mP];omega);rw[show k+1+j=k+(j+1) by omega,this];simp only[qas,jar]
  ·have:=h2 (nK r+j) (by simp only[nP];omega);rw[<- jci] at this;rw[this];simp only[qch];rw[jat (by rw[qwf];omega),qwf,ja2]
end
theorem za4{l:List PK}{x:ElP l}{E:Env}{us:List Value}(p:Pre T0 E (Sc l x))(h:VRs E (qan l idN 0 x) us):WfP l x:=by
 refine wfP (H:=(Sc l x).H) (n:=mP l) (fun id o hA ho=>p.st.objs id trivial hA o ho) l h (fun j hj=>?_) fun j hj=>?_
 ·unfold Sc;rw[ja5,qgw,jas (by rw[qa3];exact hj)]
 ·unfold Sc;rw[qgw,jat (by rw[qa3];omega),qa3,ja2]

def qdl(tt:Nat->Option TI)(fi:FI)(s:SmR)(r:CRes):Option (ElR s.rts × ElP (refs s.ps)) :=
 cond r.e.rets (match qez r.ds r.S with
  | none=>none
  | some (S',_)=>match ires tt fi.nt r.fr S' fi.res with
   | none=>none
   | some (vs,_)=>runQ s ⟨tupI vs,S',0,0⟩) none
section
variable {P : Program} {tt : Nat -> Option TI} {ft : Nat -> Option FI}
theorem zb4{fi:FI}{f:Nat}{nm:Nat->Option Nm}{cl:Cl}{lf:Nat}{s:SmR}{x:ElP s.ps}{y:ElR s.rts}{z:ElP (refs s.ps)}{r1:CRes}(hm:P.follows .mixedOrders=true)(htt:TT P tt)
  (hfi:∃fn,P.funcs[f]?=some fn/\fn.body=some fi.body/\fn.ntmps=fi.nt/\fn.results=fi.res.toArray/\(fn.name == "runtime.NumGoroutine") = false/\qa8 fi.body=true) (hcl:ClOK P cl) (hfr:ClFr cl)
  (hb:Nat.ble (qan s.ps idN 0 x).length fi.nt=true) (hr1:qad P tt nm (mP s.ps) fi.nt cl lf none fi.body (qau (qan s.ps idN 0 x) 0 .leaf) (Sc s.ps x) []=some r1) (h:qdl tt fi s r1=some (y,z))
  {E:Env} {us:List Value} (p:Pre T0 E (Sc s.ps x)) (hv:VRs E (qan s.ps idN 0 x) us) :
  CallsIn Fence.wide 0 P f us.toArray E.w (RetB (mP s.ps) T0 E (Sc s.ps x) ⟨vB s (mP s.ps) y,ScB s y z,0,0⟩):=by
 unfold qdl at h;cases hl:r1.e.rets with
 | false=>rw[hl] at h;cases h
 | true =>
 rw[hl,jaa] at h;split at h
 ·cases h
 rename_i S' wr hmk;split at h
 ·cases h
 rename_i vs' rd' hres;obtain⟨fn,f1,f2,f3,f4,f5,f6⟩:=hfi;refine jed f1 f2 trivial ?_;refine qgz (T:=T0) (E:=E) (S:=Sc s.ps x) (ds:=[]) (round:=none) (B:=mP s.ps) (fun _ _=>trivial) hm rfl hcl hfr htt fi.body f6 p (by rw[qic];omega) (fun _ _=>trivial) ?_ (DS.nil (N:=E.w.heap.size) (jaq _)) (fun _=>rfl) hr1 (fun _ _=>trivial) (fun _ _=>trivial) ?_
 ·have:=FR.enter (nt:=fi.nt) hv (jan hb);rw[f3];exact this
 intro E1 a1 x1 k0 k1 k2 kB;have p1:=kB.pre (fun _ _=>trivial) p;have hlv:LeavesInM Fence.wide 0 P fn a1.tmps (RetB (mP s.ps) T0 E (Sc s.ps x) ⟨vB s (mP s.ps) y,ScB s y z,0,0⟩) a1.defers .returning E1.w:=by
  refine qne (E0:=E) (S0':=Sc s.ps x) (B:=mP s.ps) (by simp) (jaq _) (fun _ _=>trivial) p1 k2 kB hmk (fun _ _=>trivial) fun E2 hq0 p2 hv2=>?_;obtain⟨us',h1,h2⟩:=qr0 htt p2 ⟨k1.size,fun t ht=>hv2 _ _ (k1.get t ht)⟩ hres (fun _ _=>trivial);have h3:=q54 (P:=P) (w:=E2.w) f4 h1;refine⟨qi7 us',h3,?_⟩;have hq:=hq0;obtain⟨E3,e3,v3,q3⟩:=q1r (r:=⟨tupI vs',S',0,0⟩) h p hv hq (q6b h2);exact⟨_,E3,rfl,e3,v3,q3⟩
 cases he:r1.e with
 | normal=>rw[he] at k0;cases k0;exact hlv
 | ret=>rw[he] at k0;cases k0;exact hlv
 | exit i=>rw[he] at hl;cases hl
 | goto l=>rw[he] at hl;cases hl
 | pan q=>rw[he] at hl;cases hl
theorem conTR{sml:List (Nat × Sm)}{hxl:List (Nat × Hx)}{f:Nat}{s:SmR}{fi:FI}{nmf:Nat->Option Nm}{st hd:Nat->Bool}(n:Nat)(hm:P.follows .mixedOrders=true)(htt:TT P tt)(hft:FT P ft)(hsm:SmOK P sml)
  (hhx:qa1 P hxl) (hC:qam P f) (h3:ft f=some fi) (h4:∀x,Nat.ble (qan s.ps idN 0 x).length fi.nt=true) (hn:(regs fi.body).Nodup) (hl:okC nmf st hd fi.body none=true)
  (hrun:∀(x:ElP s.ps) (y:ElR s.rts) (z:ElP (refs s.ps)),WfP s.ps x->s.f x=some (y,z)->∃lf,
   qbx P tt nmf (mP s.ps) fi.nt (qay P tt ft (fun _ _=>none) (smL sml) (hxL hxl) lf n (ElR s.rts × ElP (refs s.ps))) lf st
    (atNB P tt nmf (mP s.ps) fi.nt fi.body (qay P tt ft (fun _ _=>none) (smL sml) (hxL hxl) lf n (ElR s.rts × ElP (refs s.ps))) lf hd (qdl tt fi s)) fi.body [] (qau (qan s.ps idN 0 x) 0 .leaf) (Sc s.ps x) [] (qdl tt fi s)=some (y,z))
  (hz:frzF nmf=true:=by rfl):ConR P f s:=by
 have hB0:mB nmf (mP s.ps)=0:=by unfold mB;rw[hz];rfl
 have hex:ExOK P (exH (smL sml) (hxL hxl)):=q0e (qru hsm) (qsg hhx);refine⟨hC,fun E x us y z hy p hv=>?_⟩;obtain⟨lf,hr⟩:=hrun x y z (za4 p hv) hy;rw[<- qv7 hB0 (qaj n _) hn hl,qes (qaj n _)] at hr;cases hr1:qad P tt nmf (mP s.ps) fi.nt (qcb P tt ft (fun _ _=>none) (exH (smL sml) (hxL hxl)) lf n) lf none fi.body (qau (qan s.ps idN 0 x) 0 .leaf) (Sc s.ps x) [] with
 | none=>rw[hr1] at hr;cases hr
 | some r1 =>
  rw[hr1] at hr;exact zb4 hm htt (hft f fi h3) (qh8 hm htt hft hex n) (qgm hex n) (h4 x) hr1 hr p hv
end
end Go.Jx
end

section
namespace Go.Jx
open Go Go.Sx Go.RowKit
universe u

section
variable {P : Program} {tt : Nat -> Option TI} {nm : Nat -> Option Nm} {lf : Nat} {st hd : Nat -> Bool} {cl : Cl}
def atQ(P:Program)(tt:Nat->Option TI)(nm:Nat->Option Nm)(fi:FI)(s:SmR)(clK:ClK (ElR s.rts × ElP (refs s.ps)))(lf:Nat)(hd:Nat->Bool)(k:Nat)(ns:List Nat)(x:NRes):Option (ElR s.rts × ElP (refs s.ps)) :=
 atNB P tt nm (mP s.ps) fi.nt fi.body clK lf hd (qdl tt fi s) k ns x
theorem q58{B:Nat}(hz:frzF nm=true):mB nm B=0:=by unfold mB;rw[hz];rfl
theorem zbo(hz:frzF nm=true){fi:FI}{s:SmR}{clK:ClK (ElR s.rts × ElP (refs s.ps))}(h:ClEq cl clK)(hn:(regs fi.body).Nodup)(hl:okC nm st hd fi.body none=true)(k:Nat)(ns ns':List Nat)(hd':dn (hd k) ns=some ns')(x:NRes) :
  atQ P tt nm fi s clK lf hd k ns x=qbo P tt nm (mP s.ps) fi.nt clK lf st (atQ P tt nm fi s clK lf hd) k fi.body [] ns' x (qdl tt fi s):=qvy (q58 hz) h hn hl k ns ns' hd' x
theorem q19{fi:FI}{s:SmR}{clK:ClK (ElR s.rts × ElP (refs s.ps))}(k:Nat)(ns:List Nat)(hd':dn (hd k) ns=none)(x:NRes):atQ P tt nm fi s clK lf hd k ns x=none:=qx8 k ns hd' x
end
end Go.Jx
end

section
namespace Go.Jx
open Go Go.Sx Go.RowKit
universe u
inductive NoD (n:Nat):Type
instance (n:Nat):Dat (NoD n) where
 sz:=n
 enc _ _ _ x:=nomatch x
 len {_ _ _ x} _:=nomatch x
 mono {_ _ _ _ _ x} _ _:=nomatch x
 ones {_ _ _ x} _:=nomatch x
theorem zm8{E:Env}{c:TC}{u:Value}(h:VR E (.lst c []) u):∃a cap,u=.slice a 0 cap/\cap<9223372036854775808:=by
 cases h with
 | lst0 hc=>exact⟨_,_,rfl,hc⟩
 | lst us h1 h2 h3 hb hh hc hu=>exact⟨_,_,rfl,h2⟩
theorem zkv{M:List Nat}{w w':World}{c:TC}{n:Nat}{e:Ending}(hn:n=csz c)(hu:¬c=.int .u8)(hM:∀b∈M,b<w.heap.size)(h:Ret (fun v w'=>∃a' c' m',v=.slice a' 0 c'/\Go.Sx.Own m' M w' a' c' ([]:List (NoD n))/\Evo [] w m' w') e w') :
  RetE T0 (EM M w) S0 ⟨.arr 0,addO [.arr c []] S0,0,0⟩ e w':=by
 cases e with
 | returned v =>
  obtain⟨a,k,m,rfl,ho,ev⟩:=h;have hH:∀id o,(addO [IObj.arr c []] S0).H id=some o->id=0/\o=.arr c []:=fun id o ho=>by
   rw[qcl] at ho;have e0:S0.next=0:=rfl
   rw[e0,jak (by omega)] at ho;split at ho
   ·rename_i h1;have h1:id<1:=by simpa using h1
    obtain rfl:id=0:=by omega
    exact⟨rfl,by simpa using ho.symm⟩
   ·cases ho
  have key:∃(E':Env),E'.w=w'/\E'.A=(fun id=>id=0)/\E'.hd 0=.slice a 0 k/\(∀b∈E'.m,b∈M\/w.heap.size<=b)/\(∀b∈M,b∈E'.m)/\(∀b∈E'.m,b<w'.heap.size)/\OR E' 0 (.arr c [])/\(E'.hb 0=true->E'.ρ 0∈E'.m/\w.heap.size<=E'.ρ 0):=by
   rcases ho with ⟨rfl,rfl,_⟩|⟨g,cells,rfl,g1,g2,g3,g4,g5,g6⟩
   ·exact⟨⟨fun _=>0,fun _=>0,fun _=>.slice none 0 0,fun _=>false,fun id=>id=0,M,w'⟩,rfl,rfl,rfl,fun b hb=>.inl hb,fun b hb=>hb,fun b hb=>jba (hM b hb) ev.size,⟨none,0,rfl,jaq _,by omega,by simp,.inl ⟨rfl,rfl,fun _=>rfl⟩⟩,fun h=>by cases h⟩
   ·have hg:w.heap.size<=g:=by
     rcases ev.own g g1 with h|h
     ·cases h
     ·exact h
    obtain⟨t,g3⟩:=g3;refine⟨⟨fun _=>g,fun _=>0,fun _=>.slice (some ⟨g,0,none⟩) 0 k,fun _=>true,fun id=>id=0,g::M,w'⟩,rfl,rfl,rfl,fun b hb=>?_,fun b hb=>jbi _ hb,fun b hb=>?_,⟨some ⟨g,0,none⟩,k,rfl,jbm _,g5.2,by simp,.inr ⟨rfl,rfl,cells.toArray,t,g3,⟨?_,fun e=>absurd e hu⟩,fun _ _=>.nilFunc,fun i hi=>absurd hi (by simp),fun i hi=>absurd hi (by simp)⟩⟩,fun _=>⟨jbx,hg⟩⟩
    ·rcases ja4.1 hb with h|h
     ·exact .inr (h▸hg)
     ·exact .inl h
    ·rcases ja4.1 hb with h|h
     ·rw[h];exact qa4 g3
     ·exact jba (hM b h) ev.size
    ·have e2:Dat.sz (NoD n)=csz c:=hn;rw[e2] at g4;simp[g4]
  obtain⟨E',rfl,hA,hd,k1,k2,k3,k4,k5⟩:=key;have hL:∀id,E'.A id->Live E' (addO [IObj.arr c []] S0).H id->id=0/\E'.ρ 0∈E'.m/\w.heap.size<=E'.ρ 0:=fun id hid ⟨h1,_⟩=>by
   rw[hA] at hid;have hid:id=0:=hid;subst hid;exact⟨rfl,k5 h1⟩
  refine⟨_,E',rfl,rfl,.arr (by rw[hA]) hd,⟨⟨fun id _ hid o ho=>?_,fun id _ hid o ho hb=>?_,fun id _ hid hl=>?_,fun i j _ _ hi hj _ _ _=>?_,k3⟩,⟨ev.os,ev.tape,ev.output,ev.size,fun b hb _=>ev.same b hb (by simp),fun id h=>h.elim,fun id h _ hl=>?_,fun id _ h=>h.elim,k1,fun b hb _=>.inl (k2 b hb)⟩,fun id hid=>?_,jbm _⟩,⟨fun id _ _=>jbm _⟩⟩
  ·obtain⟨rfl,rfl⟩:=hH id o ho;exact k4
  ·obtain⟨rfl,rfl⟩:=hH id o ho;cases hb
  ·obtain⟨rfl,h1,_⟩:=hL id hid hl;exact h1
  ·rw[hA] at hi hj;have hi:i=0:=hi;have hj:j=0:=hj;rw[hi,hj]
  ·obtain⟨rfl,_,h2⟩:=hL id h hl;exact .inl h2
  ·rw[hA] at hid;have hid:id=0:=hid;subst hid;exact Nat.one_pos
 | panicked c=>exact h.elim
 | outgrown=>exact h.elim
end Go.Jx
end

noncomputable section
set_option maxRecDepth 100000
namespace Go.Proofs.YtcnhjofpmpipfaaGreat
open Go Go.Sx Go.RowKit Go.Jx

theorem znq{l:List qab}{n:ByteArray}(h:0<=S.form l n):∃f,jget l (S.form l n)=some f/\S.colsOf l n=f.2/\f∈l/\f.1=n:=by
 obtain⟨f,f1,f2,f3,f4,f5,f6⟩:=S.idx_get (p:=fun f:qab=>keqS f.1 n) (l:=l) h;refine⟨f,f1,?_,f4,ja9 f3⟩;unfold S.colsOf S.at_ S.form;rw[f2];rfl
structure RulesOK (a b:List qab) (l:List qa7):Prop where
 len:l.length<=24
 has:∀r∈l,0<=S.form a r.1/\0<=S.form b r.2.1
 one:∀k (h:k<l.length),(S.ruleOf (l.take k) l[k].1).2=false
 all:∀f∈a,(S.ruleOf l f.1).2=true
 glen:∀r∈l,r.2.2.length=(S.colsOf b r.2.1).length
 gok:∀r∈l,∀k (h:k<r.2.2.length) (h':k<(S.colsOf b r.2.1).length),S.give l r.2.2[k] (S.colsOf a r.1) (S.colsOf b r.2.1)[k]=0
theorem qci(s:ByteArray):(qag s).length=s.size:=by
 unfold qag;rw[jcq];exact jey
theorem qqt{s:ByteArray}{i:Nat}(h:i<s.size):(qag s)[i]?=some ((s[i]'h).toNat:Int):=by
 unfold qag;rw[jb9,jab (by simpa using h)];rfl
theorem zok{s:ByteArray}{b:Int}(h:b∈qag s):0<=b/\b<256:=by
 unfold qag at h;obtain⟨x,_,rfl⟩:=jc4.1 h;have:=x.toNat_lt;constructor<;>omega
theorem q8s{s:ByteArray}{q:Int->Bool}(hq:∀r,128<=r->q r=true):∀(n i:Nat) (k:Int),s.size-i<n->sixO (fun _ r=>some (q r)) s true n i=some k->(k<0↔∀j b,i<=j->(qag s)[j]?=some b->q b=false)
 | 0,i,k,h,_=>by omega
 | n+1,i,k,h,hk=>by
  unfold sixO at hk;by_cases hlt:i<s.size
  ·have hb:Nat.blt i s.size=true:=by simpa using hlt
   rw[hb,jaa] at hk;simp only at hk;have hg:=qqt hlt;by_cases ha:(s[i]'hlt).toNat<128
   ·have hd:=decode_ascii s i hlt ha;rw[hd] at hk;simp only at hk;cases hb2:q (((s[i]'hlt).toNat:Nat):Int) with
    | true =>
     have e:q (Int.ofNat (s[i]'hlt).toNat)=true:=hb2;rw[e] at hk;cases hk;constructor
     ·intro h;have:(0:Int)<=Int.ofNat i:=jb1 _;omega
     ·intro h;have:=h i _ (jaq _) hg;rw[hb2] at this;cases this
    | false =>
     have e:q (Int.ofNat (s[i]'hlt).toNat)=false:=hb2;rw[e] at hk;simp only[jbb,decide_false,jad] at hk;rw[q8s hq n (i+1) k (by omega) hk];constructor
     ·intro h j b hj hjb;by_cases e:j=i
      ·subst e;rw[hg] at hjb;cases hjb;exact hb2
      ·exact h j b (by omega) hjb
     ·intro h j b hj hjb;exact h j b (by omega) hjb
   ·have hd:=decode_high s i hlt (by omega);have e:q (Int.ofNat (Utf8.decode s i).1)=true:=hq _ (by have:=hd.1;show (128:Int)<=((Utf8.decode s i).1:Int);omega);rw[e] at hk;cases hk;constructor
    ·intro h;have:(0:Int)<=Int.ofNat i:=jb1 _;omega
    ·intro h;have:=h i _ (jaq _) hg;rw[hq _ (by omega)] at this;cases this
  ·have hb:Nat.blt i s.size=false:=by
    cases hbb:Nat.blt i s.size with
    | false=>rfl
    | true=>exact absurd (by simpa using hbb) hlt
   rw[hb,jad] at hk;cases hk;constructor
   ·intro _ j b hj hjb;have:=(jau.1 hjb).1;rw[qci] at this;omega
   ·intro _;omega
theorem zct{s:ByteArray}{lo hi:Int}(hh:hi<128):S.named s lo hi=true↔s.size<=20/\(∃b,(qag s)[0]?=some b/\lo<=b/\b<=hi)/\∀b∈qag s,S.badR b lo hi=false:=by
 unfold S.named;by_cases h0:s=S.lit []
 ·rw[jal h0];constructor
  ·intro h;cases h
  ·rintro⟨_,⟨b,hb,_⟩,_⟩;subst h0;cases hb
 rw[jak h0];by_cases h1:20<s.size
 ·rw[jal h1];exact⟨fun h=>(by cases h),fun h=>by omega⟩
 rw[jak h1];obtain⟨b,hb⟩:=q7n (q5q h0);rw[hb];simp only;by_cases h2:b<lo
 ·rw[jal h2];exact⟨fun h=>(by cases h),fun ⟨_,⟨b',e,h3,_⟩,_⟩=>by cases e;omega⟩
 rw[jak h2];by_cases h3:hi<b
 ·rw[jal h3];exact⟨fun h=>(by cases h),fun ⟨_,⟨b',e,_,h4⟩,_⟩=>by cases e;omega⟩
 rw[jak h3];obtain⟨k,hk⟩:=qy8 (p:=fun _ r=>some (S.badR r lo hi)) (q:=fun r=>S.badR r lo hi) (fun _ _=>rfl) s true (s.size+1) 0 (by omega);rw[hk];simp only[ja6];rw[q8s (q:=fun r=>S.badR r lo hi) (fun r hr=>by simp[S.badR];omega) _ 0 k (by omega) hk];constructor
 ·intro h;refine⟨by omega,⟨b,rfl,by omega,by omega⟩,fun c hc=>?_⟩;obtain⟨j,hj⟩:=jes.1 hc;exact h j c (jbm _) hj
 ·rintro⟨_,_,h⟩ j c _ hj;exact h c (ja8 hj)
theorem q6s(l:List ByteArray)(v:ByteArray):decide (S.index l v<0)=true↔¬v∈l:=by
 have h:=S.idx_nonneg (fun x=>keqS v x) l;simp only[ja6];have e:l.any (fun x=>keqS v x)=true↔v∈l:=by
  rw[jby];constructor
  ·rintro⟨x,hx,h⟩;rw[ja9 h];exact hx
  ·intro h;exact⟨v,h,jaf rfl⟩
 rw[e] at h;rw[<- h];unfold S.index;omega
namespace S
def isSmall(b:Int):Bool:=decide (97<=b)&&decide (b<=122)
def isCap(b:Int):Bool:=decide (65<=b)&&decide (b<=90)
def isDig(b:Int):Bool:=decide (48<=b)&&decide (b<=57)
def isPart(b:Int):Bool:=isSmall b||isCap b||isDig b||decide (b=95)
end S
theorem ql3(s:ByteArray):S.small s=true↔s.size<=20/\(∃b,(qag s)[0]?=some b/\97<=b/\b<=122)/\(∀b∈qag s,S.badR b 97 122=false)/\¬s∈S.smallWords:=by
 unfold S.small;rw[jah,zct (by decide),q6s];simp only[and_assoc]
theorem z10(s:ByteArray):S.class_ s=true↔s.size<=20/\(∃b,(qag s)[0]?=some b/\65<=b/\b<=90)/\(∀b∈qag s,S.isPart b=true/\S.isSmall b=false)/\¬s∈S.classWords:=by
 unfold S.class_;rw[jah,zct (by decide),q6s];have hbad:∀b,S.badR b 65 90=false↔(S.isPart b=true/\S.isSmall b=false):=fun b=>by
  simp only[S.badR,S.isPart,S.isSmall,S.isCap,S.isDig,Bool.not_eq_false',jdb,jah,ja6,Bool.and_eq_false_iff,jc9];omega
 simp only[hbad,and_assoc]
abbrev q5v:Type:=Int × Int
abbrev zmp:Type:=Int × Int
namespace S
def has(l:List ByteArray)(s:ByteArray):Bool:=l.any fun x=>keqS x s
def run0(s:ByteArray):Int:=Int.ofNat ((qag s).takeWhile isPart).length
def numGo:List Int->Int->Int × Int
 | [],n=>(n,0)
 | b::r,n =>
  let m:=IntKind.i64.wrap (Int.sub (IntKind.i64.wrap (Int.add (IntKind.i64.wrap (Int.mul (Int.ofNat 10) n)) b)) (Int.ofNat 48))
  if 1099511627776<m then (0,3) else numGo r m
def number(s:ByteArray):Int × Int :=
 if (qag s).all isDig=false then (0,2)
 else if (qag s)[0]?=some 48/\1<s.size then (0,2)
 else numGo (qag s) 0
def wordsT:List ByteArray:=[S.lit [84,114,117,101],S.lit [70,97,108,115,101],S.lit [86,111,105,100],S.lit [67,117,114,114,101,110,116],S.lit [82,101,115,117,108,116]]
def keywords:List ByteArray:=[S.lit [97,110,100],S.lit [97,115],S.lit [97,116,116,97,99,104,101,100],S.lit [99,104,101,99,107],S.lit [99,108,97,115,115],S.lit [99,114,101,97,116,101],S.lit [100,101,102,101,114,114,101,100],S.lit [100,101,116,97,99,104,97,98,108,101],S.lit [100,111],S.lit [101,108,115,101],S.lit [101,110,100],S.lit [101,110,115,117,114,101],S.lit [102,101,97,116,117,114,101],S.lit [102,114,111,109],S.lit [105,102],S.lit [105,109,112,108,105,101,115],S.lit [105,110,104,101,114,105,116],S.lit [105,110,118,97,114,105,97,110,116],S.lit [108,111,99,97,108],S.lit [108,111,111,112],S.lit [110,111,116],S.lit [111,108,100],S.lit [111,114],S.lit [112,117,116],S.lit [114,97,105,115,101],S.lit [114,101,100,101,102,105,110,101],S.lit [114,101,110,97,109,101],S.lit [114,101,113,117,105,114,101],S.lit [114,101,115,99,117,101],S.lit [114,101,116,114,121],S.lit [115,101,108,101,99,116],S.lit [115,101,112,97,114,97,116,101],S.lit [116,104,101,110],S.lit [117,110,100,101,102,105,110,101],S.lit [117,110,116,105,108],S.lit [118,97,114,105,97,110,116],S.lit [119,104,101,110]]
def signs:List ByteArray:=[S.lit [58,61],S.lit [47,61],S.lit [60,61],S.lit [62,61],S.lit [47,47],S.lit [61],S.lit [60],S.lit [62],S.lit [43],S.lit [45],S.lit [42],S.lit [37],S.lit [40],S.lit [41],S.lit [91],S.lit [93],S.lit [123],S.lit [125],S.lit [44],S.lit [59],S.lit [58],S.lit [46]]
def word(s:ByteArray):Int × Int :=
 if has keywords s||has wordsT s then (3,0)
 else if has smallWords s then (0,4)
 else if (qag s).any isSmall&&(qag s).any isCap then (0,2)
 else if 20<s.size then (0,3)
 else if (qag s).any isSmall then (1,0)
 else (2,0)
def shape(s:ByteArray):Int × Int :=
 if has signs s then (5,0)
 else match (qag s)[0]? with
  | none=>(0,2)
  | some b=>if run0 s<Int.ofNat s.size then (0,2)
   else if b=95 then (0,2)
   else if isDig b then (if (number s).2=0 then (4,0) else (0,(number s).2))
   else word s
end S
def spz6:Sm:=⟨[.list .str,.str],[(false,.bool)],fun x=>some (S.has x.1 x.2.1,())⟩
def za8:Sm:=⟨[.str,.int .i64],[(false,.int .i64)],fun x=>cond (ieqI x.2.1 (Int.ofNat 0)) (some (S.run0 x.1,())) none⟩
def q3n:Sm:=⟨[.str],[(false,q0r)],fun x=>cond (Nat.blt 0 x.1.size) (some (S.number x.1,())) none⟩
def q6t:Sm:=⟨[.str],[(false,qos)],fun x=>some (S.word x.1,())⟩
def q4f:Sm:=⟨[.str],[(false,qos)],fun x=>some (S.shape x.1,())⟩
def spz8:Sm:=⟨[.list cForm,.str],[(false,.int .i64)],fun x=>some (S.form x.1 x.2.1,())⟩
def spz9:Sm:=⟨[cForm,.str],[(false,.int .i64)],fun x=>some (S.col x.1.2 x.2.1,())⟩
def qyl:Sm:=⟨[cVal,.int .i64],[(false,.bool)],fun x=>some (S.value x.1 x.2.1,())⟩
def q5w:Sm:=⟨[qai],[(false,.int .i64)],fun x=>some (S.formed x.1,())⟩
def zah:Sm:=⟨[cCol,cVal,qai],[(false,.bool)],fun x=>cond (S.refOK x.2.2.1 x.2.1) (some (S.suits x.2.2.1 x.1 x.2.1,())) none⟩
def qzw:Sm:=⟨[.str],[(false,.bool)],fun x=>some (S.class_ x.1,())⟩
def spz7:Sm:=⟨[.str],[(false,.bool)],fun x=>some (S.small x.1,())⟩
def qpc:Sm:=⟨[.list cForm],[(false,.int .i64)],fun x=>some (S.checkForms x.1,())⟩
def qza:Sm:=⟨[.list cForm,qai],[(false,.int .i64)],fun x=>some (S.checkG x.1 x.2.1,())⟩
namespace S
end S
namespace S
end S
def nmz6:Nat->Option Nm:=fun k=>cond (Nat.beq k 2) (some ⟨[0,1,5],[],[],[],[],0,0,false⟩) (none)
def stz6:Nat->Bool:=fun k=>cond (Nat.beq k 2) true (false)
def hdz6:=stz6
abbrev Rtz6:Type:=Bool × Unit
def zd9:List (Nat × Sm):=[]
def zde:List (Nat × Hx):=[]
def clz6(R:Type)(lf:Nat):ClK R:=qay Tryz.prog ttT.get ftT.get (nm1 137 nmz6) (smL zd9) (hxL zde) lf 20 R
abbrev idz6:Nat:=137
def qj0(x1:(List ByteArray))(x2:ByteArray)(p:Int):NRes:=(NRes.mk (.node (some (IV.lst TC.str x1)) (.node (some (IV.str x2)) .leaf (.node (some (IV.int .i64 p)) .leaf .leaf)) .leaf) (IS.mk .leaf 0) [] 0)
def q13(lf:Nat)(x1:(List ByteArray))(x2:ByteArray)(L2:Int->Option Rtz6):Option Rtz6:=(L2 (Int.ofNat 0))
def qtv(lf:Nat)(x1:(List ByteArray))(x2:ByteArray)(L2:Int->Option Rtz6)(p:Int):Option Rtz6:=(cond (iltI p (Int.ofNat x1.length)) (match (jget x1 p) with|none=>none|some v0=>(cond (keqS v0 x2) (some (true,())) (L2 (IntKind.i64.wrap (Int.add p (Int.ofNat 1)))))) (some (false,())))
abbrev gz6:Type:=ElA [(.list .str),.str]->Option Rtz6
abbrev sz6(g:gz6):Sm:=⟨[(.list .str),.str],[(false,.bool)],g⟩
abbrev Ez6(g:gz6)(J:JT Rtz6)(lf:Nat)(x1:(List ByteArray))(x2:ByteArray):=qbc Tryz.prog ttT.get nmz6 qed.nt (clz6 _ lf) lf stz6 J qed.body [] (qau (argV [(.list .str),.str] (x1,x2,())) 0 .leaf) S0 [] (qar ttT.get qed (sz6 g))
abbrev Bz6(g:gz6)(J:JT Rtz6)(lf k:Nat)(ms:List Nat)(q:NRes):=qbi Tryz.prog ttT.get nmz6 qed.nt (clz6 _ lf) lf stz6 J k qed.body [] ms q (qar ttT.get qed (sz6 g))
theorem inz6(g:gz6)(J:JT Rtz6)(lf:Nat)(x1:(List ByteArray))(x2:ByteArray):Ez6 g J lf x1 x2=q13 lf x1 x2 (fun q=>J 2 [lf] (qj0 x1 x2 q)):=by kernel_rfl
theorem z1u(g:gz6)(J:JT Rtz6)(lf:Nat)(x1:(List ByteArray))(x2:ByteArray)(m1:Nat)(p:Int):Bz6 g J lf 2 [m1] (qj0 x1 x2 p)=qtv lf x1 x2 (fun q=>J 2 [m1] (qj0 x1 x2 q)) p:=by kernel_rfl
theorem ndz6:(regs qed.body).Nodup:=by decide +kernel
theorem okz6:okC nmz6 stz6 hdz6 qed.body none=true:=by kernel_rfl
def Az6(g:gz6)(lf:Nat):JT Rtz6:=atN Tryz.prog ttT.get nmz6 qed (sz6 g) (clz6 _ lf) lf hdz6
def qp4(lf:Nat)(x1:(List ByteArray))(x2:ByteArray):Nat->(Int)->Option Rtz6:=rounds fun K p=>qtv lf x1 x2 K p
theorem q8u(g:gz6)(lf:Nat)(x1:(List ByteArray))(x2:ByteArray):∀(n:Nat) (p:Int),Az6 g lf 2 [n] (qj0 x1 x2 p)=qp4 lf x1 x2 n p
 | 0,p=>qax 2 [0] rfl _
 | n+1,p=>by
  have ih:=q8u g lf x1 x2 n;refine(qao (qaj 20 _) ndz6 okz6 2 [n+1] [n] rfl _).trans ((z1u g (Az6 g lf) lf x1 x2 n p).trans ?_);rw[(show (fun q=>Az6 g lf 2 [n] (qj0 x1 x2 q))=(fun q=>qp4 lf x1 x2 n q) from funext ih)];rfl
def Fz6(lf:Nat)(x1:(List ByteArray))(x2:ByteArray):Option Rtz6:=q13 lf x1 x2 (fun q=>qp4 lf x1 x2 lf q)
theorem zk3(g:gz6)(lf:Nat)(x1:(List ByteArray))(x2:ByteArray):Ez6 g (Az6 g lf) lf x1 x2=Fz6 lf x1 x2:=by
  refine(inz6 g (Az6 g lf) lf x1 x2).trans ?_;rw[(show (fun q=>Az6 g lf 2 [lf] (qj0 x1 x2 q))=(fun q=>qp4 lf x1 x2 lf q) from funext fun q=>q8u g lf x1 x2 lf q)];rfl
theorem zux:qa1 Tryz.prog zde:=trivial
theorem mkz6{g:gz6}(hsm:SmOK Tryz.prog zd9)(hg:∀(x:ElA [(.list .str),.str]) (y:Rtz6),WfA [(.list .str),.str] x->g x=some y->∃lf,Fz6 lf x.1 x.2.1=some y):Con Tryz.prog 137 ⟨[(.list .str),.str],[(false,.bool)],g⟩ :=
 conV (st:=stz6) (fun lf x=>Fz6 lf x.1 x.2.1) cm3 zrz zux ndz6 okz6 (fun lf x=>zk3 g lf x.1 x.2.1) hsm hg
def nmz7:Nat->Option Nm:=fun k=>cond (Nat.beq k 4) (some ⟨[0,3],[],[],[],[],0,0,false⟩) (none)
def stz7:Nat->Bool:=fun k=>cond (Nat.beq k 4) true (false)
def hdz7:=stz7
abbrev Rtz7:Type:=Bool × Unit
def zei:List (Nat × Sm):=[]
def q1o:List (Nat × Hx):=[]
def clz7(R:Type)(lf:Nat):ClK R:=qay Tryz.prog ttT.get ftT.get (nm1 93 nmz7) (smL zei) (hxL q1o) lf 20 R
abbrev idz7:Nat:=93
def qj9(x1:ByteArray)(p:Int):NRes:=(NRes.mk (.node (some (IV.str x1)) (.node none (.node (some (IV.int .i64 p)) .leaf .leaf) .leaf) .leaf) (IS.mk .leaf 0) [] 0)
def q1c(lf:Nat)(x1:ByteArray)(L4:Int->Option Rtz7):Option Rtz7:=(cond (iltI (Int.ofNat x1.size) (Int.ofNat 1)) (some (false,())) (cond (iltI (Int.ofNat 20) (Int.ofNat x1.size)) (some (false,())) (match (jget (qag x1) (Int.ofNat 0)) with|none=>none|some v0=>(cond (iltI v0 (Int.ofNat 97)) (some (false,())) (match (jget (qag x1) (Int.ofNat 0)) with|none=>none|some v1=>(cond (iltI (Int.ofNat 122) v1) (some (false,())) (L4 (Int.ofNat 0))))))))
def qt0(lf:Nat)(x1:ByteArray)(L4:Int->Option Rtz7)(p:Int):Option Rtz7:=(cond (iltI p (Int.ofNat x1.size)) (match (jget (qag x1) p) with|none=>none|some v0=>(cond (Bool.not (iltI v0 (Int.ofNat 97))) (match (jget (qag x1) p) with|none=>none|some v1=>(cond (Bool.not (iltI (Int.ofNat 122) v1)) (L4 (IntKind.i64.wrap (Int.add p (Int.ofNat 1)))) (match (jget (qag x1) p) with|none=>none|some v25=>(cond (Bool.not (iltI v25 (Int.ofNat 48))) (match (jget (qag x1) p) with|none=>none|some v26=>(cond (Bool.not (iltI (Int.ofNat 57) v26)) (L4 (IntKind.i64.wrap (Int.add p (Int.ofNat 1)))) (match (jget (qag x1) p) with|none=>none|some v27=>(cond (Bool.not (ieqI v27 (Int.ofNat 95))) (some (false,())) (L4 (IntKind.i64.wrap (Int.add p (Int.ofNat 1)))))))) (match (jget (qag x1) p) with|none=>none|some v28=>(cond (Bool.not (ieqI v28 (Int.ofNat 95))) (some (false,())) (L4 (IntKind.i64.wrap (Int.add p (Int.ofNat 1)))))))))) (match (jget (qag x1) p) with|none=>none|some v29=>(cond (Bool.not (iltI v29 (Int.ofNat 48))) (match (jget (qag x1) p) with|none=>none|some v30=>(cond (Bool.not (iltI (Int.ofNat 57) v30)) (L4 (IntKind.i64.wrap (Int.add p (Int.ofNat 1)))) (match (jget (qag x1) p) with|none=>none|some v31=>(cond (Bool.not (ieqI v31 (Int.ofNat 95))) (some (false,())) (L4 (IntKind.i64.wrap (Int.add p (Int.ofNat 1)))))))) (match (jget (qag x1) p) with|none=>none|some v32=>(cond (Bool.not (ieqI v32 (Int.ofNat 95))) (some (false,())) (L4 (IntKind.i64.wrap (Int.add p (Int.ofNat 1)))))))))) (cond (Bool.not (keqS x1 (S.lit [116,114,117,101]))) (cond (Bool.not (keqS x1 (S.lit [102,97,108,115,101]))) (cond (Bool.not (keqS x1 (S.lit [118,111,105,100]))) (cond (Bool.not (keqS x1 (S.lit [99,117,114,114,101,110,116]))) (some ((Bool.not (keqS x1 (S.lit [114,101,115,117,108,116]))),())) (some (false,()))) (some (false,()))) (some (false,()))) (some (false,()))))
abbrev gz7:Type:=ElA [.str]->Option Rtz7
abbrev sz7(g:gz7):Sm:=⟨[.str],[(false,.bool)],g⟩
abbrev Ez7(g:gz7)(J:JT Rtz7)(lf:Nat)(x1:ByteArray):=qbc Tryz.prog ttT.get nmz7 fi93.nt (clz7 _ lf) lf stz7 J fi93.body [] (qau (argV [.str] (x1,())) 0 .leaf) S0 [] (qar ttT.get fi93 (sz7 g))
abbrev Bz7(g:gz7)(J:JT Rtz7)(lf k:Nat)(ms:List Nat)(q:NRes):=qbi Tryz.prog ttT.get nmz7 fi93.nt (clz7 _ lf) lf stz7 J k fi93.body [] ms q (qar ttT.get fi93 (sz7 g))
theorem inz7(g:gz7)(J:JT Rtz7)(lf:Nat)(x1:ByteArray):Ez7 g J lf x1=q1c lf x1 (fun q=>J 4 [lf] (qj9 x1 q)):=by kernel_rfl
theorem z0o(g:gz7)(J:JT Rtz7)(lf:Nat)(x1:ByteArray)(m1:Nat)(p:Int):Bz7 g J lf 4 [m1] (qj9 x1 p)=qt0 lf x1 (fun q=>J 4 [m1] (qj9 x1 q)) p:=by kernel_rfl
theorem ndz7:(regs fi93.body).Nodup:=by decide +kernel
theorem okz7:okC nmz7 stz7 hdz7 fi93.body none=true:=by kernel_rfl
def Az7(g:gz7)(lf:Nat):JT Rtz7:=atN Tryz.prog ttT.get nmz7 fi93 (sz7 g) (clz7 _ lf) lf hdz7
def qou(lf:Nat)(x1:ByteArray):Nat->(Int)->Option Rtz7:=rounds fun K p=>qt0 lf x1 K p
theorem q3m(g:gz7)(lf:Nat)(x1:ByteArray):∀(n:Nat) (p:Int),Az7 g lf 4 [n] (qj9 x1 p)=qou lf x1 n p
 | 0,p=>qax 4 [0] rfl _
 | n+1,p=>by
  have ih:=q3m g lf x1 n;refine(qao (qaj 20 _) ndz7 okz7 4 [n+1] [n] rfl _).trans ((z0o g (Az7 g lf) lf x1 n p).trans ?_);rw[(show (fun q=>Az7 g lf 4 [n] (qj9 x1 q))=(fun q=>qou lf x1 n q) from funext ih)];rfl
def Fz7(lf:Nat)(x1:ByteArray):Option Rtz7:=q1c lf x1 (fun q=>qou lf x1 lf q)
theorem zrd(g:gz7)(lf:Nat)(x1:ByteArray):Ez7 g (Az7 g lf) lf x1=Fz7 lf x1:=by
  refine(inz7 g (Az7 g lf) lf x1).trans ?_;rw[(show (fun q=>Az7 g lf 4 [lf] (qj9 x1 q))=(fun q=>qou lf x1 lf q) from funext fun q=>q3m g lf x1 lf q)];rfl
theorem zh3:qa1 Tryz.prog q1o:=trivial
theorem mkz7{g:gz7}(hsm:SmOK Tryz.prog zei)(hg:∀(x:ElA [.str]) (y:Rtz7),WfA [.str] x->g x=some y->∃lf,Fz7 lf x.1=some y):Con Tryz.prog 93 ⟨[.str],[(false,.bool)],g⟩ :=
 conV (st:=stz7) (fun lf x=>Fz7 lf x.1) cm3 zgg zh3 ndz7 okz7 (fun lf x=>zrd g lf x.1) hsm hg
def nmz8:Nat->Option Nm:=fun k=>cond (Nat.beq k 2) (some ⟨[0,1,5],[],[],[],[],0,0,false⟩) (none)
def stz8:Nat->Bool:=fun k=>cond (Nat.beq k 2) true (false)
def hdz8:=stz8
abbrev Rtz8:Type:=Int × Unit
def zdi:List (Nat × Sm):=[]
def zb0:List (Nat × Hx):=[]
def clz8(R:Type)(lf:Nat):ClK R:=qay Tryz.prog ttT.get ftT.get (nm1 40 nmz8) (smL zdi) (hxL zb0) lf 20 R
abbrev idz8:Nat:=40
def qiq(x1:(List qab))(x2:ByteArray)(p:Int):NRes:=(NRes.mk (.node (some (IV.lst cForm x1)) (.node (some (IV.str x2)) .leaf (.node (some (IV.int .i64 p)) .leaf .leaf)) .leaf) (IS.mk .leaf 0) [] 0)
def zaj(lf:Nat)(x1:(List qab))(x2:ByteArray)(L2:Int->Option Rtz8):Option Rtz8:=(L2 (Int.ofNat 0))
def qr6(lf:Nat)(x1:(List qab))(x2:ByteArray)(L2:Int->Option Rtz8)(p:Int):Option Rtz8:=(cond (iltI p (Int.ofNat x1.length)) (match (jget x1 p) with|none=>none|some v0=>(cond (keqS v0.1 x2) (some (p,())) (L2 (IntKind.i64.wrap (Int.add p (Int.ofNat 1)))))) (some ((Int.negSucc 0),())))
abbrev gz8:Type:=ElA [(.list cForm),.str]->Option Rtz8
abbrev sz8(g:gz8):Sm:=⟨[(.list cForm),.str],[(false,(.int .i64))],g⟩
abbrev Ez8(g:gz8)(J:JT Rtz8)(lf:Nat)(x1:(List qab))(x2:ByteArray):=qbc Tryz.prog ttT.get nmz8 fi40.nt (clz8 _ lf) lf stz8 J fi40.body [] (qau (argV [(.list cForm),.str] (x1,x2,())) 0 .leaf) S0 [] (qar ttT.get fi40 (sz8 g))
abbrev Bz8(g:gz8)(J:JT Rtz8)(lf k:Nat)(ms:List Nat)(q:NRes):=qbi Tryz.prog ttT.get nmz8 fi40.nt (clz8 _ lf) lf stz8 J k fi40.body [] ms q (qar ttT.get fi40 (sz8 g))
theorem inz8(g:gz8)(J:JT Rtz8)(lf:Nat)(x1:(List qab))(x2:ByteArray):Ez8 g J lf x1 x2=zaj lf x1 x2 (fun q=>J 2 [lf] (qiq x1 x2 q)):=by kernel_rfl
theorem zmr(g:gz8)(J:JT Rtz8)(lf:Nat)(x1:(List qab))(x2:ByteArray)(m1:Nat)(p:Int):Bz8 g J lf 2 [m1] (qiq x1 x2 p)=qr6 lf x1 x2 (fun q=>J 2 [m1] (qiq x1 x2 q)) p:=by kernel_rfl
theorem ndz8:(regs fi40.body).Nodup:=by decide +kernel
theorem okz8:okC nmz8 stz8 hdz8 fi40.body none=true:=by kernel_rfl
def Az8(g:gz8)(lf:Nat):JT Rtz8:=atN Tryz.prog ttT.get nmz8 fi40 (sz8 g) (clz8 _ lf) lf hdz8
def qqm(lf:Nat)(x1:(List qab))(x2:ByteArray):Nat->(Int)->Option Rtz8:=rounds fun K p=>qr6 lf x1 x2 K p
theorem q8j(g:gz8)(lf:Nat)(x1:(List qab))(x2:ByteArray):∀(n:Nat) (p:Int),Az8 g lf 2 [n] (qiq x1 x2 p)=qqm lf x1 x2 n p
 | 0,p=>qax 2 [0] rfl _
 | n+1,p=>by
  have ih:=q8j g lf x1 x2 n;refine(qao (qaj 20 _) ndz8 okz8 2 [n+1] [n] rfl _).trans ((zmr g (Az8 g lf) lf x1 x2 n p).trans ?_);rw[(show (fun q=>Az8 g lf 2 [n] (qiq x1 x2 q))=(fun q=>qqm lf x1 x2 n q) from funext ih)];rfl
def Fz8(lf:Nat)(x1:(List qab))(x2:ByteArray):Option Rtz8:=zaj lf x1 x2 (fun q=>qqm lf x1 x2 lf q)
theorem z0w(g:gz8)(lf:Nat)(x1:(List qab))(x2:ByteArray):Ez8 g (Az8 g lf) lf x1 x2=Fz8 lf x1 x2:=by
  refine(inz8 g (Az8 g lf) lf x1 x2).trans ?_;rw[(show (fun q=>Az8 g lf 2 [lf] (qiq x1 x2 q))=(fun q=>qqm lf x1 x2 lf q) from funext fun q=>q8j g lf x1 x2 lf q)];rfl
theorem zv0:qa1 Tryz.prog zb0:=trivial
theorem mkz8{g:gz8}(hsm:SmOK Tryz.prog zdi)(hg:∀(x:ElA [(.list cForm),.str]) (y:Rtz8),WfA [(.list cForm),.str] x->g x=some y->∃lf,Fz8 lf x.1 x.2.1=some y):Con Tryz.prog 40 ⟨[(.list cForm),.str],[(false,(.int .i64))],g⟩ :=
 conV (st:=stz8) (fun lf x=>Fz8 lf x.1 x.2.1) cm3 zw8 zv0 ndz8 okz8 (fun lf x=>z0w g lf x.1 x.2.1) hsm hg
def nmz9:Nat->Option Nm:=fun k=>cond (Nat.beq k 2) (some ⟨[1,2,5],[],[],[],[],0,0,false⟩) (none)
def stz9:Nat->Bool:=fun k=>cond (Nat.beq k 2) true (false)
def hdz9:=stz9
abbrev Rtz9:Type:=Int × Unit
def q4z:List (Nat × Sm):=[]
def q6j:List (Nat × Hx):=[]
def clz9(R:Type)(lf:Nat):ClK R:=qay Tryz.prog ttT.get ftT.get (nm1 53 nmz9) (smL q4z) (hxL q6j) lf 20 R
abbrev idz9:Nat:=53
def qi1(x1:qab)(x2:ByteArray)(p:Int):NRes:=(NRes.mk (.node none (.node (some (IV.str x2)) .leaf (.node (some (IV.int .i64 p)) .leaf .leaf)) (.node (some (IV.ptr 0 0)) .leaf .leaf)) (IS.mk (.node (some (IObj.row (List.cons (IV.str x1.1) [(IV.lst cCol x1.2)]))) .leaf .leaf) 1) [] 0)
def q5i(lf:Nat)(x1:qab)(x2:ByteArray)(L2:Int->Option Rtz9):Option Rtz9:=(L2 (Int.ofNat 0))
def qt1(lf:Nat)(x1:qab)(x2:ByteArray)(L2:Int->Option Rtz9)(p:Int):Option Rtz9:=(cond (iltI p (Int.ofNat x1.2.length)) (match (jget x1.2 p) with|none=>none|some v0=>(cond (keqS v0.1 x2) (some (p,())) (L2 (IntKind.i64.wrap (Int.add p (Int.ofNat 1)))))) (some ((Int.negSucc 0),())))
abbrev gz9:Type:=ElA [cForm,.str]->Option Rtz9
abbrev sz9(g:gz9):Sm:=⟨[cForm,.str],[(false,(.int .i64))],g⟩
abbrev Ez9(g:gz9)(J:JT Rtz9)(lf:Nat)(x1:qab)(x2:ByteArray):=qbc Tryz.prog ttT.get nmz9 fi53.nt (clz9 _ lf) lf stz9 J fi53.body [] (qau (argV [cForm,.str] (x1,x2,())) 0 .leaf) S0 [] (qar ttT.get fi53 (sz9 g))
abbrev Bz9(g:gz9)(J:JT Rtz9)(lf k:Nat)(ms:List Nat)(q:NRes):=qbi Tryz.prog ttT.get nmz9 fi53.nt (clz9 _ lf) lf stz9 J k fi53.body [] ms q (qar ttT.get fi53 (sz9 g))
theorem inz9(g:gz9)(J:JT Rtz9)(lf:Nat)(x1:qab)(x2:ByteArray):Ez9 g J lf x1 x2=q5i lf x1 x2 (fun q=>J 2 [lf] (qi1 x1 x2 q)):=by kernel_rfl
theorem zsw(g:gz9)(J:JT Rtz9)(lf:Nat)(x1:qab)(x2:ByteArray)(m1:Nat)(p:Int):Bz9 g J lf 2 [m1] (qi1 x1 x2 p)=qt1 lf x1 x2 (fun q=>J 2 [m1] (qi1 x1 x2 q)) p:=by kernel_rfl
theorem ndz9:(regs fi53.body).Nodup:=by decide +kernel
theorem okz9:okC nmz9 stz9 hdz9 fi53.body none=true:=by kernel_rfl
def Az9(g:gz9)(lf:Nat):JT Rtz9:=atN Tryz.prog ttT.get nmz9 fi53 (sz9 g) (clz9 _ lf) lf hdz9
def qt3(lf:Nat)(x1:qab)(x2:ByteArray):Nat->(Int)->Option Rtz9:=rounds fun K p=>qt1 lf x1 x2 K p
theorem q2e(g:gz9)(lf:Nat)(x1:qab)(x2:ByteArray):∀(n:Nat) (p:Int),Az9 g lf 2 [n] (qi1 x1 x2 p)=qt3 lf x1 x2 n p
 | 0,p=>qax 2 [0] rfl _
 | n+1,p=>by
  have ih:=q2e g lf x1 x2 n;refine(qao (qaj 20 _) ndz9 okz9 2 [n+1] [n] rfl _).trans ((zsw g (Az9 g lf) lf x1 x2 n p).trans ?_);rw[(show (fun q=>Az9 g lf 2 [n] (qi1 x1 x2 q))=(fun q=>qt3 lf x1 x2 n q) from funext ih)];rfl
def Fz9(lf:Nat)(x1:qab)(x2:ByteArray):Option Rtz9:=q5i lf x1 x2 (fun q=>qt3 lf x1 x2 lf q)
theorem zxd(g:gz9)(lf:Nat)(x1:qab)(x2:ByteArray):Ez9 g (Az9 g lf) lf x1 x2=Fz9 lf x1 x2:=by
  refine(inz9 g (Az9 g lf) lf x1 x2).trans ?_;rw[(show (fun q=>Az9 g lf 2 [lf] (qi1 x1 x2 q))=(fun q=>qt3 lf x1 x2 lf q) from funext fun q=>q2e g lf x1 x2 lf q)];rfl
theorem zrw:qa1 Tryz.prog q6j:=trivial
theorem mkz9{g:gz9}(hsm:SmOK Tryz.prog q4z)(hg:∀(x:ElA [cForm,.str]) (y:Rtz9),WfA [cForm,.str] x->g x=some y->∃lf,Fz9 lf x.1 x.2.1=some y):Con Tryz.prog 53 ⟨[cForm,.str],[(false,(.int .i64))],g⟩ :=
 conV (st:=stz9) (fun lf x=>Fz9 lf x.1 x.2.1) cm3 zwx zrw ndz9 okz9 (fun lf x=>zxd g lf x.1 x.2.1) hsm hg
abbrev qpr:Type:=Bool × Unit
abbrev zgs:Nat:=71
def q9p(lf:Nat)(x1:DVal)(x2:Int):Option qpr:=(cond (ieqI x1.1 (Int.ofNat 1)) (cond (Bool.not (iltI x1.2 (Int.negSucc 1099511627775))) (some ((Bool.not (iltI (Int.ofNat 1099511627776) x1.2)),())) (some (false,()))) (cond (ieqI x1.1 (Int.ofNat 2)) (cond (Bool.not (iltI x1.2 (Int.ofNat 0))) (some ((Bool.not (iltI (Int.ofNat 1) x1.2)),())) (some (false,()))) (cond (ieqI x1.1 (Int.ofNat 3)) (some ((ieqI x1.2 (Int.ofNat 0)),())) (cond (ieqI x1.1 (Int.ofNat 4)) (cond (Bool.not (iltI x1.2 (Int.ofNat 0))) (some ((Bool.not (iltI (IntKind.i64.wrap (Int.sub x2 (Int.ofNat 1))) x1.2)),())) (some (false,()))) (some (false,()))))))
def qpv(lf:Nat)(x1:DVal)(x2:Int):Option qpr:=q9p lf x1 x2
theorem zty{g:ElA [cVal,(.int .i64)]->Option qpr}(hsm:SmOK Tryz.prog [])(hg:∀(x:ElA [cVal,(.int .i64)]) (y:qpr),WfA [cVal,(.int .i64)] x->g x=some y->∃lf,qpv lf x.1 x.2.1=some y):Con Tryz.prog 71 ⟨[cVal,(.int .i64)],[(false,.bool)],g⟩ :=
 conU (fi:=fi71) (hxl:=[]) (fun lf x=>qpv lf x.1 x.2.1) cm3 zjb trivial hsm hg
def ql4:Nat->Option Nm:=fun k=>cond (Nat.beq k 5) (some ⟨[1,3,4],[],[],[],[],0,0,false⟩) (cond (Nat.beq k 10) (some ⟨[1,3,5],[],[],[],[],0,0,false⟩) (cond (Nat.beq k 13) (some ⟨[1,3,5,6],[],[],[],[],0,0,false⟩) (cond (Nat.beq k 19) (some ⟨[1,3,8],[],[],[],[],0,0,false⟩) (none))))
def qk8:Nat->Bool:=fun k=>cond (Nat.beq k 5) true (cond (Nat.beq k 10) true (cond (Nat.beq k 13) true (cond (Nat.beq k 19) true (false))))
def q5c:=qk8
abbrev qa6:Type:=Int × Unit
def q9u:List (Nat × Sm):=[(71,qyl)]
def q8y:List (Nat × Hx):=[]
def qwd(R:Type)(lf:Nat):ClK R:=qay Tryz.prog ttT.get ftT.get (nm1 87 ql4) (smL q9u) (hxL q8y) lf 20 R
abbrev zw1:Nat:=87
def qiy(x1:qac)(p:Int):NRes:=(NRes.mk (.node none (.node (some (IV.ptr 0 0)) (.node (some (IV.int .i64 (Int.ofNat x1.1.length))) .leaf .leaf) .leaf) (.node none (.node (some (IV.int .i64 p)) .leaf .leaf) .leaf)) (IS.mk (.node (some (IObj.row (List.cons (IV.lst qaf x1.1) [(IV.lst cVal x1.2)]))) .leaf .leaf) 1) [] 0)
def qfv(x1:qac)(p:Int):NRes:=(NRes.mk (.node none (.node (some (IV.ptr 0 0)) (.node (some (IV.int .i64 (Int.ofNat x1.1.length))) .leaf .leaf) (.node (some (IV.int .i64 p)) .leaf .leaf)) .leaf) (IS.mk (.node (some (IObj.row (List.cons (IV.lst qaf x1.1) [(IV.lst cVal x1.2)]))) .leaf .leaf) 1) [] 0)
def qip(x1:qac)(p:Int × Int):NRes:=(NRes.mk (.node none (.node (some (IV.ptr 0 0)) (.node (some (IV.int .i64 (Int.ofNat x1.1.length))) .leaf .leaf) (.node (some (IV.int .i64 p.2)) .leaf .leaf)) (.node none .leaf (.node (some (IV.int .i64 p.1)) .leaf .leaf))) (IS.mk (.node (some (IObj.row (List.cons (IV.lst qaf x1.1) [(IV.lst cVal x1.2)]))) .leaf .leaf) 1) [] 0)
def qie(x1:qac)(p:Int):NRes:=(NRes.mk (.node none (.node (some (IV.ptr 0 0)) (.node (some (IV.int .i64 (Int.ofNat x1.1.length))) .leaf .leaf) .leaf) (.node none (.node none (.node (some (IV.int .i64 p)) .leaf .leaf) .leaf) .leaf)) (IS.mk (.node (some (IObj.row (List.cons (IV.lst qaf x1.1) [(IV.lst cVal x1.2)]))) .leaf .leaf) 1) [] 0)
def qya(lf:Nat)(x1:qac)(L5:Int->Option qa6):Option qa6:=(cond (iltI (Int.ofNat 400) (Int.ofNat x1.1.length)) (some ((Int.ofNat 3),())) (cond (iltI (Int.ofNat 60) (Int.ofNat x1.2.length)) (some ((Int.ofNat 3),())) (L5 (Int.ofNat 0))))
def qu3(lf:Nat)(x1:qac)(L5:Int->Option qa6)(L10:Int->Option qa6)(p:Int):Option qa6:=(cond (iltI p (Int.ofNat x1.1.length)) (match (jget x1.1 p) with|none=>none|some v0=>(cond (iltI (Int.ofNat 30) (Int.ofNat v0.2.length)) (some ((Int.ofNat 3),())) (L5 (IntKind.i64.wrap (Int.add p (Int.ofNat 1)))))) (L10 (Int.ofNat 0)))
def qr7(lf:Nat)(x1:qac)(L13:(Int × Int)->Option qa6)(L19:Int->Option qa6)(p:Int):Option qa6:=(cond (iltI p (Int.ofNat x1.1.length)) (L13 ((Int.ofNat 0),p)) (L19 (Int.ofNat 0)))
def qqe(lf:Nat)(x1:qac)(L13:(Int × Int)->Option qa6)(L10:Int->Option qa6)(p:Int × Int):Option qa6:=(match (jget x1.1 p.2) with|none=>none|some v0=>(cond (iltI p.1 (Int.ofNat v0.2.length)) (match (jget x1.1 p.2) with|none=>none|some v1=>(match (jget v1.2 p.1) with|none=>none|some v2=>(cond (Bool.not (S.value (v2.1,v2.2) (Int.ofNat x1.1.length))) (some ((Int.ofNat 2),())) (L13 ((IntKind.i64.wrap (Int.add p.1 (Int.ofNat 1))),p.2))))) (L10 (IntKind.i64.wrap (Int.add p.2 (Int.ofNat 1))))))
def qs7(lf:Nat)(x1:qac)(L19:Int->Option qa6)(p:Int):Option qa6:=(cond (iltI p (Int.ofNat x1.2.length)) (match (jget x1.2 p) with|none=>none|some v0=>(cond (Bool.not (S.value (v0.1,v0.2) (Int.ofNat x1.1.length))) (some ((Int.ofNat 2),())) (match (jget x1.2 p) with|none=>none|some v1=>(cond (Bool.not (ieqI v1.1 (Int.ofNat 3))) (match (jget x1.2 p) with|none=>none|some v2=>(cond (Bool.not (ieqI v2.1 (Int.ofNat 4))) (some ((Int.ofNat 2),())) (L19 (IntKind.i64.wrap (Int.add p (Int.ofNat 1)))))) (L19 (IntKind.i64.wrap (Int.add p (Int.ofNat 1)))))))) (some ((Int.ofNat 0),())))
abbrev gz10:Type:=ElA [qai]->Option qa6
abbrev sz10(g:gz10):Sm:=⟨[qai],[(false,(.int .i64))],g⟩
abbrev Ez10(g:gz10)(J:JT qa6)(lf:Nat)(x1:qac):=qbc Tryz.prog ttT.get ql4 fi87.nt (qwd _ lf) lf qk8 J fi87.body [] (qau (argV [qai] (x1,())) 0 .leaf) S0 [] (qar ttT.get fi87 (sz10 g))
abbrev Bz10(g:gz10)(J:JT qa6)(lf k:Nat)(ms:List Nat)(q:NRes):=qbi Tryz.prog ttT.get ql4 fi87.nt (qwd _ lf) lf qk8 J k fi87.body [] ms q (qar ttT.get fi87 (sz10 g))
theorem zu7(g:gz10)(J:JT qa6)(lf:Nat)(x1:qac):Ez10 g J lf x1=qya lf x1 (fun q=>J 5 [lf] (qiy x1 q)):=by kernel_rfl
theorem zq3(g:gz10)(J:JT qa6)(lf:Nat)(x1:qac)(m1:Nat)(p:Int):Bz10 g J lf 5 [m1] (qiy x1 p)=qu3 lf x1 (fun q=>J 5 [m1] (qiy x1 q)) (fun q=>J 10 [lf] (qfv x1 q)) p:=by kernel_rfl
theorem zio(g:gz10)(J:JT qa6)(lf:Nat)(x1:qac)(m1:Nat)(p:Int):Bz10 g J lf 10 [m1] (qfv x1 p)=qr7 lf x1 (fun q=>J 13 [m1,lf] (qip x1 q)) (fun q=>J 19 [lf] (qie x1 q)) p:=by kernel_rfl
theorem zl1(g:gz10)(J:JT qa6)(lf:Nat)(x1:qac)(m1:Nat)(m2:Nat)(p:Int × Int):Bz10 g J lf 13 [m1,m2] (qip x1 p)=qqe lf x1 (fun q=>J 13 [m1,m2] (qip x1 q)) (fun q=>J 10 [m1] (qfv x1 q)) p:=by kernel_rfl
theorem z1x(g:gz10)(J:JT qa6)(lf:Nat)(x1:qac)(m1:Nat)(p:Int):Bz10 g J lf 19 [m1] (qie x1 p)=qs7 lf x1 (fun q=>J 19 [m1] (qie x1 q)) p:=by kernel_rfl
theorem qob:(regs fi87.body).Nodup:=by decide +kernel
theorem qoz:okC ql4 qk8 q5c fi87.body none=true:=by kernel_rfl
def Az10(g:gz10)(lf:Nat):JT qa6:=atN Tryz.prog ttT.get ql4 fi87 (sz10 g) (qwd _ lf) lf q5c
def qnz(lf:Nat)(x1:qac)(K10:Int->Option qa6):Nat->(Int × Int)->Option qa6:=rounds fun K p=>qqe lf x1 K K10 p
theorem zdq(g:gz10)(lf:Nat)(x1:qac)(m1:Nat):∀(n:Nat) (p:Int × Int),Az10 g lf 13 [m1,n] (qip x1 p)=qnz lf x1 (fun q=>Az10 g lf 10 [m1] (qfv x1 q)) n p
 | 0,p=>qax 13 [m1,0] rfl _
 | n+1,p=>by
  have ih:=zdq g lf x1 m1 n;refine(qao (qaj 20 _) qob qoz 13 [m1,n+1] [m1,n] rfl _).trans ((zl1 g (Az10 g lf) lf x1 m1 n p).trans ?_);rw[(show (fun q=>Az10 g lf 13 [m1,n] (qip x1 q))=(fun q=>qnz lf x1 (fun q=>Az10 g lf 10 [m1] (qfv x1 q)) n q) from funext ih)];rfl
def qpe(lf:Nat)(x1:qac):Nat->(Int)->Option qa6:=rounds fun K p=>qs7 lf x1 K p
theorem q8q(g:gz10)(lf:Nat)(x1:qac):∀(n:Nat) (p:Int),Az10 g lf 19 [n] (qie x1 p)=qpe lf x1 n p
 | 0,p=>qax 19 [0] rfl _
 | n+1,p=>by
  have ih:=q8q g lf x1 n;refine(qao (qaj 20 _) qob qoz 19 [n+1] [n] rfl _).trans ((z1x g (Az10 g lf) lf x1 n p).trans ?_);rw[(show (fun q=>Az10 g lf 19 [n] (qie x1 q))=(fun q=>qpe lf x1 n q) from funext ih)];rfl
def qmp(lf:Nat)(x1:qac):Nat->(Int)->Option qa6:=rounds fun K p=>qr7 lf x1 (fun q=>qnz lf x1 K lf q) (fun q=>qpe lf x1 lf q) p
theorem za7(g:gz10)(lf:Nat)(x1:qac):∀(n:Nat) (p:Int),Az10 g lf 10 [n] (qfv x1 p)=qmp lf x1 n p
 | 0,p=>qax 10 [0] rfl _
 | n+1,p=>by
  have ih:=za7 g lf x1 n;refine(qao (qaj 20 _) qob qoz 10 [n+1] [n] rfl _).trans ((zio g (Az10 g lf) lf x1 n p).trans ?_);rw[(show (fun q=>Az10 g lf 13 [n,lf] (qip x1 q))=(fun q=>qnz lf x1 (fun q=>Az10 g lf 10 [n] (qfv x1 q)) lf q) from funext fun q=>zdq g lf x1 n lf q),(show (fun q=>Az10 g lf 19 [lf] (qie x1 q))=(fun q=>qpe lf x1 lf q) from funext fun q=>q8q g lf x1 lf q),(show (fun q=>Az10 g lf 10 [n] (qfv x1 q))=(fun q=>qmp lf x1 n q) from funext ih)];rfl
def qop(lf:Nat)(x1:qac):Nat->(Int)->Option qa6:=rounds fun K p=>qu3 lf x1 K (fun q=>qmp lf x1 lf q) p
theorem q8w(g:gz10)(lf:Nat)(x1:qac):∀(n:Nat) (p:Int),Az10 g lf 5 [n] (qiy x1 p)=qop lf x1 n p
 | 0,p=>qax 5 [0] rfl _
 | n+1,p=>by
  have ih:=q8w g lf x1 n;refine(qao (qaj 20 _) qob qoz 5 [n+1] [n] rfl _).trans ((zq3 g (Az10 g lf) lf x1 n p).trans ?_);rw[(show (fun q=>Az10 g lf 10 [lf] (qfv x1 q))=(fun q=>qmp lf x1 lf q) from funext fun q=>za7 g lf x1 lf q),(show (fun q=>Az10 g lf 5 [n] (qiy x1 q))=(fun q=>qop lf x1 n q) from funext ih)];rfl
def Fz10(lf:Nat)(x1:qac):Option qa6:=qya lf x1 (fun q=>qop lf x1 lf q)
theorem zpu(g:gz10)(lf:Nat)(x1:qac):Ez10 g (Az10 g lf) lf x1=Fz10 lf x1:=by
  refine(zu7 g (Az10 g lf) lf x1).trans ?_;rw[(show (fun q=>Az10 g lf 5 [lf] (qiy x1 q))=(fun q=>qop lf x1 lf q) from funext fun q=>q8w g lf x1 lf q)];rfl
theorem zy8:qa1 Tryz.prog q8y:=trivial
theorem zyj{g:gz10}(hsm:SmOK Tryz.prog q9u)(hg:∀(x:ElA [qai]) (y:qa6),WfA [qai] x->g x=some y->∃lf,Fz10 lf x.1=some y):Con Tryz.prog 87 ⟨[qai],[(false,(.int .i64))],g⟩ :=
 conV (st:=qk8) (fun lf x=>Fz10 lf x.1) cm3 zf4 zy8 qob qoz (fun lf x=>zpu g lf x.1) hsm hg
abbrev qrz:Type:=Bool × Unit
abbrev zyf:Nat:=88
def zej(lf:Nat)(x1:DCol)(x2:DVal)(x3:qac):Option qrz:=(cond (ieqI x1.2.1 (Int.ofNat 1)) (some ((ieqI x2.1 (Int.ofNat 1)),())) (cond (ieqI x1.2.1 (Int.ofNat 2)) (some ((ieqI x2.1 (Int.ofNat 2)),())) (cond (ieqI x2.1 (Int.ofNat 3)) (some (true,())) (cond (ieqI x2.1 (Int.ofNat 4)) (cond (keqS x1.2.2 (S.lit [65,78,89])) (some (true,())) (match (jget x3.1 (imax (Int.ofNat 0) x2.2)) with|none=>none|some v0=>(some ((keqS v0.1 x1.2.2),())))) (some (false,()))))))
def qsy(lf:Nat)(x1:DCol)(x2:DVal)(x3:qac):Option qrz:=zej lf x1 x2 x3
theorem zs2{g:ElA [cCol,cVal,qai]->Option qrz}(hsm:SmOK Tryz.prog [])(hg:∀(x:ElA [cCol,cVal,qai]) (y:qrz),WfA [cCol,cVal,qai] x->g x=some y->∃lf,qsy lf x.1 x.2.1 x.2.2.1=some y):Con Tryz.prog 88 ⟨[cCol,cVal,qai],[(false,.bool)],g⟩ :=
 conU (fi:=fi88) (hxl:=[]) (fun lf x=>qsy lf x.1 x.2.1 x.2.2.1) cm3 zin trivial hsm hg
def qmn:Nat->Option Nm:=fun k=>cond (Nat.beq k 4) (some ⟨[0,3],[],[],[],[],0,0,false⟩) (cond (Nat.beq k 14) (some ⟨[0,3,5],[],[],[],[],0,0,false⟩) (cond (Nat.beq k 25) (some ⟨[0,8],[],[],[],[],0,0,false⟩) (cond (Nat.beq k 28) (some ⟨[0,8,9],[],[],[],[],0,0,false⟩) (none))))
def qkt:Nat->Bool:=fun k=>cond (Nat.beq k 4) true (cond (Nat.beq k 14) true (cond (Nat.beq k 25) true (cond (Nat.beq k 28) true (false))))
def q99:=qkt
abbrev qa2:Type:=Int × Unit
def zbn:List (Nat × Sm):=[(92,qzw),(93,spz7),(40,spz8),(53,spz9)]
def zen:List (Nat × Hx):=[]
def q0w(R:Type)(lf:Nat):ClK R:=qay Tryz.prog ttT.get ftT.get (nm1 47 qmn) (smL zbn) (hxL zen) lf 20 R
abbrev qyq:Nat:=47
def qfi(x1:(List qab))(p:Int):NRes:=(NRes.mk (.node (some (IV.lst cForm x1)) (.node none (.node (some (IV.int .i64 p)) .leaf .leaf) .leaf) .leaf) (IS.mk .leaf 0) [] 0)
def qjv(x1:(List qab))(p:Int × Int):NRes:=(NRes.mk (.node (some (IV.lst cForm x1)) (.node none (.node (some (IV.int .i64 p.2)) .leaf .leaf) (.node (some (IV.int .i64 p.1)) .leaf .leaf)) .leaf) (IS.mk .leaf 0) [] 0)
def qff(x1:(List qab))(p:Int):NRes:=(NRes.mk (.node (some (IV.lst cForm x1)) .leaf (.node none (.node none (.node (some (IV.int .i64 p)) .leaf .leaf) .leaf) .leaf)) (IS.mk .leaf 0) [] 0)
def qin(x1:(List qab))(p:Int × Int):NRes:=(NRes.mk (.node (some (IV.lst cForm x1)) (.node none .leaf (.node none (.node (some (IV.int .i64 p.1)) .leaf .leaf) .leaf)) (.node none (.node none (.node (some (IV.int .i64 p.2)) .leaf .leaf) .leaf) .leaf)) (IS.mk .leaf 0) [] 0)
def qzf(lf:Nat)(x1:(List qab))(L4:Int->Option qa2):Option qa2:=(cond (iltI (Int.ofNat 24) (Int.ofNat x1.length)) (some ((Int.ofNat 3),())) (L4 (Int.ofNat 0)))
def quh(lf:Nat)(x1:(List qab))(L14:(Int × Int)->Option qa2)(L25:Int->Option qa2)(p:Int):Option qa2:=(cond (iltI p (Int.ofNat x1.length)) (match (jget x1 p) with|none=>none|some v0=>(cond (Bool.not (S.class_ v0.1)) (some ((Int.ofNat 4),())) (match (jget x1 p) with|none=>none|some v1=>(cond (iltI (S.form x1 v1.1) p) (some ((Int.ofNat 6),())) (match (jget x1 p) with|none=>none|some v2=>(cond (iltI (Int.ofNat 30) (Int.ofNat v2.2.length)) (some ((Int.ofNat 3),())) (L14 ((Int.ofNat 0),p)))))))) (L25 (Int.ofNat 0)))
def qse(lf:Nat)(x1:(List qab))(L14:(Int × Int)->Option qa2)(L4:Int->Option qa2)(p:Int × Int):Option qa2:=(match (jget x1 p.2) with|none=>none|some v0=>(cond (iltI p.1 (Int.ofNat v0.2.length)) (match (jget x1 p.2) with|none=>none|some v1=>(match (jget v1.2 p.1) with|none=>none|some v2=>(cond (Bool.not (S.small v2.1)) (some ((Int.ofNat 4),())) (match (jget x1 p.2) with|none=>none|some v3=>(cond (iltI (S.col v3.2 v2.1) p.1) (some ((Int.ofNat 6),())) (cond (Bool.not (iltI v2.2.1 (Int.ofNat 1))) (cond (Bool.not (Bool.not (iltI (Int.ofNat 3) v2.2.1))) (some ((Int.ofNat 1),())) (cond (Bool.not (ieqI v2.2.1 (Int.ofNat 3))) (cond (Bool.not (keqS v2.2.2 (S.lit []))) (some ((Int.ofNat 1),())) (L14 ((IntKind.i64.wrap (Int.add p.1 (Int.ofNat 1))),p.2))) (L14 ((IntKind.i64.wrap (Int.add p.1 (Int.ofNat 1))),p.2)))) (some ((Int.ofNat 1),())))))))) (L4 (IntKind.i64.wrap (Int.add p.2 (Int.ofNat 1))))))
def qps(lf:Nat)(x1:(List qab))(L28:(Int × Int)->Option qa2)(p:Int):Option qa2:=(cond (iltI p (Int.ofNat x1.length)) (L28 ((Int.ofNat 0),p)) (some ((Int.ofNat 0),())))
def qsc(lf:Nat)(x1:(List qab))(L28:(Int × Int)->Option qa2)(L25:Int->Option qa2)(p:Int × Int):Option qa2:=(match (jget x1 p.2) with|none=>none|some v0=>(cond (iltI p.1 (Int.ofNat v0.2.length)) (match (jget x1 p.2) with|none=>none|some v1=>(match (jget v1.2 p.1) with|none=>none|some v2=>(cond (ieqI v2.2.1 (Int.ofNat 3)) (cond (Bool.not (keqS v2.2.2 (S.lit [65,78,89]))) (cond (iltI (S.form x1 v2.2.2) (Int.ofNat 0)) (some ((Int.ofNat 5),())) (L28 ((IntKind.i64.wrap (Int.add p.1 (Int.ofNat 1))),p.2))) (L28 ((IntKind.i64.wrap (Int.add p.1 (Int.ofNat 1))),p.2))) (L28 ((IntKind.i64.wrap (Int.add p.1 (Int.ofNat 1))),p.2))))) (L25 (IntKind.i64.wrap (Int.add p.2 (Int.ofNat 1))))))
abbrev gz11:Type:=ElA [(.list cForm)]->Option qa2
abbrev sz11(g:gz11):Sm:=⟨[(.list cForm)],[(false,(.int .i64))],g⟩
abbrev Ez11(g:gz11)(J:JT qa2)(lf:Nat)(x1:(List qab)):=qbc Tryz.prog ttT.get qmn fi47.nt (q0w _ lf) lf qkt J fi47.body [] (qau (argV [(.list cForm)] (x1,())) 0 .leaf) S0 [] (qar ttT.get fi47 (sz11 g))
abbrev Bz11(g:gz11)(J:JT qa2)(lf k:Nat)(ms:List Nat)(q:NRes):=qbi Tryz.prog ttT.get qmn fi47.nt (q0w _ lf) lf qkt J k fi47.body [] ms q (qar ttT.get fi47 (sz11 g))
theorem zlk(g:gz11)(J:JT qa2)(lf:Nat)(x1:(List qab)):Ez11 g J lf x1=qzf lf x1 (fun q=>J 4 [lf] (qfi x1 q)):=by kernel_rfl
theorem zu6(g:gz11)(J:JT qa2)(lf:Nat)(x1:(List qab))(m1:Nat)(p:Int):Bz11 g J lf 4 [m1] (qfi x1 p)=quh lf x1 (fun q=>J 14 [m1,lf] (qjv x1 q)) (fun q=>J 25 [lf] (qff x1 q)) p:=by kernel_rfl
theorem z2p(g:gz11)(J:JT qa2)(lf:Nat)(x1:(List qab))(m1:Nat)(m2:Nat)(p:Int × Int):Bz11 g J lf 14 [m1,m2] (qjv x1 p)=qse lf x1 (fun q=>J 14 [m1,m2] (qjv x1 q)) (fun q=>J 4 [m1] (qfi x1 q)) p:=by kernel_rfl
theorem zgt(g:gz11)(J:JT qa2)(lf:Nat)(x1:(List qab))(m1:Nat)(p:Int):Bz11 g J lf 25 [m1] (qff x1 p)=qps lf x1 (fun q=>J 28 [m1,lf] (qin x1 q)) p:=by kernel_rfl
theorem zyk(g:gz11)(J:JT qa2)(lf:Nat)(x1:(List qab))(m1:Nat)(m2:Nat)(p:Int × Int):Bz11 g J lf 28 [m1,m2] (qin x1 p)=qsc lf x1 (fun q=>J 28 [m1,m2] (qin x1 q)) (fun q=>J 25 [m1] (qff x1 q)) p:=by kernel_rfl
theorem qoh:(regs fi47.body).Nodup:=by decide +kernel
theorem qpk:okC qmn qkt q99 fi47.body none=true:=by kernel_rfl
def Az11(g:gz11)(lf:Nat):JT qa2:=atN Tryz.prog ttT.get qmn fi47 (sz11 g) (q0w _ lf) lf q99
def qm7(lf:Nat)(x1:(List qab))(K4:Int->Option qa2):Nat->(Int × Int)->Option qa2:=rounds fun K p=>qse lf x1 K K4 p
theorem q93(g:gz11)(lf:Nat)(x1:(List qab))(m1:Nat):∀(n:Nat) (p:Int × Int),Az11 g lf 14 [m1,n] (qjv x1 p)=qm7 lf x1 (fun q=>Az11 g lf 4 [m1] (qfi x1 q)) n p
 | 0,p=>qax 14 [m1,0] rfl _
 | n+1,p=>by
  have ih:=q93 g lf x1 m1 n;refine(qao (qaj 20 _) qoh qpk 14 [m1,n+1] [m1,n] rfl _).trans ((z2p g (Az11 g lf) lf x1 m1 n p).trans ?_);rw[(show (fun q=>Az11 g lf 14 [m1,n] (qjv x1 q))=(fun q=>qm7 lf x1 (fun q=>Az11 g lf 4 [m1] (qfi x1 q)) n q) from funext ih)];rfl
def qpg(lf:Nat)(x1:(List qab))(K25:Int->Option qa2):Nat->(Int × Int)->Option qa2:=rounds fun K p=>qsc lf x1 K K25 p
theorem q8p(g:gz11)(lf:Nat)(x1:(List qab))(m1:Nat):∀(n:Nat) (p:Int × Int),Az11 g lf 28 [m1,n] (qin x1 p)=qpg lf x1 (fun q=>Az11 g lf 25 [m1] (qff x1 q)) n p
 | 0,p=>qax 28 [m1,0] rfl _
 | n+1,p=>by
  have ih:=q8p g lf x1 m1 n;refine(qao (qaj 20 _) qoh qpk 28 [m1,n+1] [m1,n] rfl _).trans ((zyk g (Az11 g lf) lf x1 m1 n p).trans ?_);rw[(show (fun q=>Az11 g lf 28 [m1,n] (qin x1 q))=(fun q=>qpg lf x1 (fun q=>Az11 g lf 25 [m1] (qff x1 q)) n q) from funext ih)];rfl
def qo2(lf:Nat)(x1:(List qab)):Nat->(Int)->Option qa2:=rounds fun K p=>qps lf x1 (fun q=>qpg lf x1 K lf q) p
theorem q3b(g:gz11)(lf:Nat)(x1:(List qab)):∀(n:Nat) (p:Int),Az11 g lf 25 [n] (qff x1 p)=qo2 lf x1 n p
 | 0,p=>qax 25 [0] rfl _
 | n+1,p=>by
  have ih:=q3b g lf x1 n;refine(qao (qaj 20 _) qoh qpk 25 [n+1] [n] rfl _).trans ((zgt g (Az11 g lf) lf x1 n p).trans ?_);rw[(show (fun q=>Az11 g lf 28 [n,lf] (qin x1 q))=(fun q=>qpg lf x1 (fun q=>Az11 g lf 25 [n] (qff x1 q)) lf q) from funext fun q=>q8p g lf x1 n lf q),(show (fun q=>Az11 g lf 25 [n] (qff x1 q))=(fun q=>qo2 lf x1 n q) from funext ih)];rfl
def quj(lf:Nat)(x1:(List qab)):Nat->(Int)->Option qa2:=rounds fun K p=>quh lf x1 (fun q=>qm7 lf x1 K lf q) (fun q=>qo2 lf x1 lf q) p
theorem zag(g:gz11)(lf:Nat)(x1:(List qab)):∀(n:Nat) (p:Int),Az11 g lf 4 [n] (qfi x1 p)=quj lf x1 n p
 | 0,p=>qax 4 [0] rfl _
 | n+1,p=>by
  have ih:=zag g lf x1 n;refine(qao (qaj 20 _) qoh qpk 4 [n+1] [n] rfl _).trans ((zu6 g (Az11 g lf) lf x1 n p).trans ?_);rw[(show (fun q=>Az11 g lf 14 [n,lf] (qjv x1 q))=(fun q=>qm7 lf x1 (fun q=>Az11 g lf 4 [n] (qfi x1 q)) lf q) from funext fun q=>q93 g lf x1 n lf q),(show (fun q=>Az11 g lf 25 [lf] (qff x1 q))=(fun q=>qo2 lf x1 lf q) from funext fun q=>q3b g lf x1 lf q),(show (fun q=>Az11 g lf 4 [n] (qfi x1 q))=(fun q=>quj lf x1 n q) from funext ih)];rfl
def Fz11(lf:Nat)(x1:(List qab)):Option qa2:=qzf lf x1 (fun q=>quj lf x1 lf q)
theorem zf0(g:gz11)(lf:Nat)(x1:(List qab)):Ez11 g (Az11 g lf) lf x1=Fz11 lf x1:=by
  refine(zlk g (Az11 g lf) lf x1).trans ?_;rw[(show (fun q=>Az11 g lf 4 [lf] (qfi x1 q))=(fun q=>quj lf x1 lf q) from funext fun q=>zag g lf x1 lf q)];rfl
theorem zhi:qa1 Tryz.prog zen:=trivial
theorem z0r{g:gz11}(hsm:SmOK Tryz.prog zbn)(hg:∀(x:ElA [(.list cForm)]) (y:qa2),WfA [(.list cForm)] x->g x=some y->∃lf,Fz11 lf x.1=some y):Con Tryz.prog 47 ⟨[(.list cForm)],[(false,(.int .i64))],g⟩ :=
 conV (st:=qkt) (fun lf x=>Fz11 lf x.1) cm3 zxk zhi qoh qpk (fun lf x=>zf0 g lf x.1) hsm hg
def qn4:Nat->Option Nm:=fun k=>cond (Nat.beq k 8) (some ⟨[0,3,6],[],[],[],[],0,0,false⟩) (cond (Nat.beq k 13) (some ⟨[0,3,7],[],[],[],[],0,0,false⟩) (cond (Nat.beq k 19) (some ⟨[0,3,7,8,9],[],[],[],[],0,0,false⟩) (none)))
def qlj:Nat->Bool:=fun k=>cond (Nat.beq k 8) true (cond (Nat.beq k 13) true (cond (Nat.beq k 19) true (false)))
def q5d:=qlj
abbrev qbk:Type:=Int × Unit
def q6f:List (Nat × Sm):=[(47,qpc),(87,q5w),(40,spz8),(88,zah)]
def zce:List (Nat × Hx):=[]
def q0x(R:Type)(lf:Nat):ClK R:=qay Tryz.prog ttT.get ftT.get (nm1 39 qn4) (smL q6f) (hxL zce) lf 20 R
abbrev q3r:Nat:=39
def qjb(x1:(List qab))(x2:qac)(p:Int):NRes:=(NRes.mk (.node (some (IV.lst cForm x1)) (.node none (.node (some (IV.ptr 0 0)) .leaf .leaf) .leaf) (.node none .leaf (.node (some (IV.int .i64 p)) .leaf .leaf))) (IS.mk (.node (some (IObj.row (List.cons (IV.lst qaf x2.1) [(IV.lst cVal x2.2)]))) .leaf .leaf) 1) [] 0)
def qe5(x1:(List qab))(x2:qac)(p:Int):NRes:=(NRes.mk (.node (some (IV.lst cForm x1)) (.node none (.node (some (IV.ptr 0 0)) (.node (some (IV.int .i64 p)) .leaf .leaf) .leaf) .leaf) .leaf) (IS.mk (.node (some (IObj.row (List.cons (IV.lst qaf x2.1) [(IV.lst cVal x2.2)]))) .leaf .leaf) 1) [] 0)
def qki(x1:(List qab))(x2:qac)(p:(List DCol) × ByteArray × Int × Int):NRes:=(NRes.mk (.node (some (IV.lst cForm x1)) (.node none (.node (some (IV.ptr 0 0)) (.node (some (IV.int .i64 p.2.2.2)) .leaf .leaf) .leaf) (.node none (.node (some (IV.int .i64 p.2.2.1)) .leaf .leaf) .leaf)) (.node none (.node none (.node (some (IV.ptr 1 0)) .leaf .leaf) .leaf) .leaf)) (IS.mk (.node (some (IObj.row (List.cons (IV.lst qaf x2.1) [(IV.lst cVal x2.2)]))) (.node (some (IObj.row (List.cons (IV.str p.2.1) [(IV.lst cCol p.1)]))) .leaf .leaf) .leaf) 2) [] 0)
def qvv(lf:Nat)(x1:(List qab))(x2:qac)(L8:Int->Option qbk):Option qbk:=(cond (Bool.not (ieqI (S.checkForms x1) (Int.ofNat 0))) (some ((S.checkForms x1),())) (cond (Bool.not (ieqI (S.formed (x2.1,x2.2)) (Int.ofNat 0))) (some ((S.formed (x2.1,x2.2)),())) (L8 (Int.ofNat 0))))
def qr4(lf:Nat)(x1:(List qab))(x2:qac)(L8:Int->Option qbk)(L13:Int->Option qbk)(p:Int):Option qbk:=(cond (iltI p (Int.ofNat x2.1.length)) (match (jget x2.1 p) with|none=>none|some v0=>(cond (iltI (S.form x1 v0.1) (Int.ofNat 0)) (some ((Int.ofNat 4),())) (L8 (IntKind.i64.wrap (Int.add p (Int.ofNat 1)))))) (L13 (Int.ofNat 0)))
def qqn(lf:Nat)(x1:(List qab))(x2:qac)(L19:((List DCol) × ByteArray × Int × Int)->Option qbk)(p:Int):Option qbk:=(cond (iltI p (Int.ofNat x2.1.length)) (match (jget x2.1 p) with|none=>none|some v0=>(match (jget x1 (S.form x1 v0.1)) with|none=>none|some v1=>(match (jget x2.1 p) with|none=>none|some v2=>(cond (Bool.not (ieqI (Int.ofNat v1.2.length) (Int.ofNat v2.2.length))) (some ((Int.ofNat 8),())) (L19 (v1.2,v1.1,(Int.ofNat 0),p)))))) (some ((Int.ofNat 0),())))
def qqg(lf:Nat)(x1:(List qab))(x2:qac)(L19:((List DCol) × ByteArray × Int × Int)->Option qbk)(L13:Int->Option qbk)(p:(List DCol) × ByteArray × Int × Int):Option qbk:=(cond (iltI p.2.2.1 (Int.ofNat p.1.length)) (match (jget p.1 p.2.2.1) with|none=>none|some v0=>(match (jget x2.1 p.2.2.2) with|none=>none|some v1=>(match (jget v1.2 p.2.2.1) with|none=>none|some v2=>(match (cond (S.refOK (x2.1,x2.2) (v2.1,v2.2)) (some ((S.suits (x2.1,x2.2) (v0.1,(v0.2.1,v0.2.2)) (v2.1,v2.2)),())) none) with|none=>none|some v3=>(cond (Bool.not v3.1) (some ((Int.ofNat 8),())) (L19 (p.1,p.2.1,(IntKind.i64.wrap (Int.add p.2.2.1 (Int.ofNat 1))),p.2.2.2))))))) (L13 (IntKind.i64.wrap (Int.add p.2.2.2 (Int.ofNat 1)))))
abbrev gz12:Type:=ElA [(.list cForm),qai]->Option qbk
abbrev sz12(g:gz12):Sm:=⟨[(.list cForm),qai],[(false,(.int .i64))],g⟩
abbrev Ez12(g:gz12)(J:JT qbk)(lf:Nat)(x1:(List qab))(x2:qac):=qbc Tryz.prog ttT.get qn4 fi39.nt (q0x _ lf) lf qlj J fi39.body [] (qau (argV [(.list cForm),qai] (x1,x2,())) 0 .leaf) S0 [] (qar ttT.get fi39 (sz12 g))
abbrev Bz12(g:gz12)(J:JT qbk)(lf k:Nat)(ms:List Nat)(q:NRes):=qbi Tryz.prog ttT.get qn4 fi39.nt (q0x _ lf) lf qlj J k fi39.body [] ms q (qar ttT.get fi39 (sz12 g))
theorem zri(g:gz12)(J:JT qbk)(lf:Nat)(x1:(List qab))(x2:qac):Ez12 g J lf x1 x2=qvv lf x1 x2 (fun q=>J 8 [lf] (qjb x1 x2 q)):=by kernel_rfl
theorem zz5(g:gz12)(J:JT qbk)(lf:Nat)(x1:(List qab))(x2:qac)(m1:Nat)(p:Int):Bz12 g J lf 8 [m1] (qjb x1 x2 p)=qr4 lf x1 x2 (fun q=>J 8 [m1] (qjb x1 x2 q)) (fun q=>J 13 [lf] (qe5 x1 x2 q)) p:=by kernel_rfl
theorem zhk(g:gz12)(J:JT qbk)(lf:Nat)(x1:(List qab))(x2:qac)(m1:Nat)(p:Int):Bz12 g J lf 13 [m1] (qe5 x1 x2 p)=qqn lf x1 x2 (fun q=>J 19 [m1,lf] (qki x1 x2 q)) p:=by kernel_rfl
theorem z1o(g:gz12)(J:JT qbk)(lf:Nat)(x1:(List qab))(x2:qac)(m1:Nat)(m2:Nat)(p:(List DCol) × ByteArray × Int × Int):Bz12 g J lf 19 [m1,m2] (qki x1 x2 p)=qqg lf x1 x2 (fun q=>J 19 [m1,m2] (qki x1 x2 q)) (fun q=>J 13 [m1] (qe5 x1 x2 q)) p:=by kernel_rfl
theorem qp3:(regs fi39.body).Nodup:=by decide +kernel
theorem qsr:okC qn4 qlj q5d fi39.body none=true:=by kernel_rfl
def Az12(g:gz12)(lf:Nat):JT qbk:=atN Tryz.prog ttT.get qn4 fi39 (sz12 g) (q0x _ lf) lf q5d
def qm0(lf:Nat)(x1:(List qab))(x2:qac)(K13:Int->Option qbk):Nat->((List DCol) × ByteArray × Int × Int)->Option qbk:=rounds fun K p=>qqg lf x1 x2 K K13 p
theorem zbz(g:gz12)(lf:Nat)(x1:(List qab))(x2:qac)(m1:Nat):∀(n:Nat) (p:(List DCol) × ByteArray × Int × Int),Az12 g lf 19 [m1,n] (qki x1 x2 p)=qm0 lf x1 x2 (fun q=>Az12 g lf 13 [m1] (qe5 x1 x2 q)) n p
 | 0,p=>qax 19 [m1,0] rfl _
 | n+1,p=>by
  have ih:=zbz g lf x1 x2 m1 n;refine(qao (qaj 20 _) qp3 qsr 19 [m1,n+1] [m1,n] rfl _).trans ((z1o g (Az12 g lf) lf x1 x2 m1 n p).trans ?_);rw[(show (fun q=>Az12 g lf 19 [m1,n] (qki x1 x2 q))=(fun q=>qm0 lf x1 x2 (fun q=>Az12 g lf 13 [m1] (qe5 x1 x2 q)) n q) from funext ih)];rfl
def qkx(lf:Nat)(x1:(List qab))(x2:qac):Nat->(Int)->Option qbk:=rounds fun K p=>qqn lf x1 x2 (fun q=>qm0 lf x1 x2 K lf q) p
theorem zdy(g:gz12)(lf:Nat)(x1:(List qab))(x2:qac):∀(n:Nat) (p:Int),Az12 g lf 13 [n] (qe5 x1 x2 p)=qkx lf x1 x2 n p
 | 0,p=>qax 13 [0] rfl _
 | n+1,p=>by
  have ih:=zdy g lf x1 x2 n;refine(qao (qaj 20 _) qp3 qsr 13 [n+1] [n] rfl _).trans ((zhk g (Az12 g lf) lf x1 x2 n p).trans ?_);rw[(show (fun q=>Az12 g lf 19 [n,lf] (qki x1 x2 q))=(fun q=>qm0 lf x1 x2 (fun q=>Az12 g lf 13 [n] (qe5 x1 x2 q)) lf q) from funext fun q=>zbz g lf x1 x2 n lf q),(show (fun q=>Az12 g lf 13 [n] (qe5 x1 x2 q))=(fun q=>qkx lf x1 x2 n q) from funext ih)];rfl
def qtp(lf:Nat)(x1:(List qab))(x2:qac):Nat->(Int)->Option qbk:=rounds fun K p=>qr4 lf x1 x2 K (fun q=>qkx lf x1 x2 lf q) p
theorem q59(g:gz12)(lf:Nat)(x1:(List qab))(x2:qac):∀(n:Nat) (p:Int),Az12 g lf 8 [n] (qjb x1 x2 p)=qtp lf x1 x2 n p
 | 0,p=>qax 8 [0] rfl _
 | n+1,p=>by
  have ih:=q59 g lf x1 x2 n;refine(qao (qaj 20 _) qp3 qsr 8 [n+1] [n] rfl _).trans ((zz5 g (Az12 g lf) lf x1 x2 n p).trans ?_);rw[(show (fun q=>Az12 g lf 13 [lf] (qe5 x1 x2 q))=(fun q=>qkx lf x1 x2 lf q) from funext fun q=>zdy g lf x1 x2 lf q),(show (fun q=>Az12 g lf 8 [n] (qjb x1 x2 q))=(fun q=>qtp lf x1 x2 n q) from funext ih)];rfl
def Fz12(lf:Nat)(x1:(List qab))(x2:qac):Option qbk:=qvv lf x1 x2 (fun q=>qtp lf x1 x2 lf q)
theorem zt1(g:gz12)(lf:Nat)(x1:(List qab))(x2:qac):Ez12 g (Az12 g lf) lf x1 x2=Fz12 lf x1 x2:=by
  refine(zri g (Az12 g lf) lf x1 x2).trans ?_;rw[(show (fun q=>Az12 g lf 8 [lf] (qjb x1 x2 q))=(fun q=>qtp lf x1 x2 lf q) from funext fun q=>q59 g lf x1 x2 lf q)];rfl
theorem zge:qa1 Tryz.prog zce:=trivial
theorem zv9{g:gz12}(hsm:SmOK Tryz.prog q6f)(hg:∀(x:ElA [(.list cForm),qai]) (y:qbk),WfA [(.list cForm),qai] x->g x=some y->∃lf,Fz12 lf x.1 x.2.1=some y):Con Tryz.prog 39 ⟨[(.list cForm),qai],[(false,(.int .i64))],g⟩ :=
 conV (st:=qlj) (fun lf x=>Fz12 lf x.1 x.2.1) cm3 zl6 zge qp3 qsr (fun lf x=>zt1 g lf x.1 x.2.1) hsm hg
theorem zbr{α:Type}(p:α->Bool)(rest:List α)(i:Nat)(v:α):(match (v::rest).findIdx? p with|some j=>Int.ofNat (i+j)|none=>-1)=cond (p v) (Int.ofNat i) (match rest.findIdx? p with|some j=>Int.ofNat (i+1+j)|none=>-1):=by
 rw[je7];cases p v with
 | true=>rfl
 | false =>
  simp only[jad];cases List.findIdx? p rest with
  | none=>rfl
  | some j=>exact jb2 Int.ofNat (show i+(j+1)=i+1+j by omega)
theorem q30{α:Type}(p:α->Bool)(l:List α):(match l.findIdx? p with|some j=>Int.ofNat (0+j)|none=>-1)=S.idx p l:=by
 unfold S.idx;cases l.findIdx? p<;>simp
theorem zvu(l:List ByteArray)(s:ByteArray)(hl:l.length<LF):Fz6 LF l s=some (S.has l s,()):=by
 refine qbv (R:=Rtz6) l (fun rest _=>some (S.has rest s,())) hl (fun K=>?_) (fun K i v rest r h=>?_)
 ·simp only[qtv,qaz,jad];rfl
 ·simp only[qtv,r.ilt,r.get,r.next,h,jaa];unfold S.has;rw[jff];cases keqS v s<;>rfl
theorem q7u:Con Tryz.prog idz6 spz6:=mkz6 trivial fun x y hx h=>⟨LF,(zvu _ _ (qbj hx.1)).trans h⟩
theorem zq8(l:List qab)(n:ByteArray)(hl:l.length<LF):Fz8 LF l n=some (S.form l n,()):=by
 refine(qbv (R:=Rtz8) l (fun rest i=>some ((match rest.findIdx? (fun f:qab=>keqS f.1 n) with|some j=>Int.ofNat (i+j)|none=>-1),())) hl (fun K=>?_) (fun K i v rest r h=>?_)).trans ?_
 ·simp only[qr6,qaz,jad];rfl
 ·rw[zbr];simp only[qr6,r.ilt,r.get,r.next,h,jaa];cases keqS v.1 n<;>rfl
 ·rw[q30];rfl
theorem zes:Con Tryz.prog idz8 spz8:=mkz8 trivial fun x y hx h=>⟨LF,(zq8 _ _ (qbj hx.1)).trans h⟩
theorem zn5(f:qab)(n:ByteArray)(hl:f.2.length<LF):Fz9 LF f n=some (S.col f.2 n,()):=by
 refine(qbv (R:=Rtz9) f.2 (fun rest i=>some ((match rest.findIdx? (fun f:DCol=>keqS f.1 n) with|some j=>Int.ofNat (i+j)|none=>-1),())) hl (fun K=>?_) (fun K i v rest r h=>?_)).trans ?_
 ·simp only[qt1,qaz,jad];rfl
 ·rw[zbr];simp only[qt1,r.ilt,r.get,r.next,h,jaa];cases keqS v.1 n<;>rfl
 ·rw[q30];rfl
theorem zi2:Con Tryz.prog idz9 spz9:=mkz9 trivial fun x y hx h=>⟨LF,(zn5 _ _ (qbj hx.1.2)).trans h⟩
theorem zi4(n lo hi:Int):(cond (Bool.not (iltI n lo)) (some ((Bool.not (iltI hi n)),())) (some (false,())):Option (Bool × Unit))=some (S.within n lo hi,()):=q3g 0 n lo hi
theorem zln(lf:Nat)(v:DVal)(many:Int):qpv lf v many=some (S.value v many,()):=by
 simp only[qpv,q9p,S.value,qat];simp only[zi4];simp only[oL,oLn];by_cases h1:v.1=1
 ·simp[h1]
 by_cases h2:v.1=2
 ·simp[h2]
 by_cases h3:v.1=3
 ·simp[h3]
 by_cases h4:v.1=4
 ·simp[h4]
 ·simp[h1,h2,h3,h4]
theorem q38:Con Tryz.prog zgs qyl:=zty trivial fun x y hx h=>⟨LF,(zln _ _ _).trans h⟩
theorem zs8(g:qac)(hl:g.2.length<LF):qpe LF g LF (Int.ofNat 0)=some ((if g.2.any (fun v=>!S.value v (Int.ofNat g.1.length)||!S.refers v) then 2 else 0),()):=by
 refine qbv (R:=qa6) g.2 (fun rest i=>some ((if rest.any (fun v=>!S.value v (Int.ofNat g.1.length)||!S.refers v) then 2 else 0),())) hl (fun K=>?_) (fun K i v rest r h=>?_)
 ·simp only[qs7,qaz,jad];rfl
 ·have e2:(v::rest).any (fun v=>!S.value v (Int.ofNat g.1.length)||!S.refers v)=((!S.value v (Int.ofNat g.1.length)||!S.refers v)||rest.any (fun v=>!S.value v (Int.ofNat g.1.length)||!S.refers v)):=rfl;rw[e2];simp only[qs7,r.ilt,r.get,r.next,h,jaa,Prod.eta,qat];simp only[oL];cases S.value v (Int.ofNat g.1.length) with
  | false=>rfl
  | true =>
   by_cases h3:v.1=3
   ·have hr:S.refers v=true:=by simp[S.refers,h3]
    rw[hr,jaf h3];rfl
   rw[jae h3];by_cases h4:v.1=4
   ·have hr:S.refers v=true:=by simp[S.refers,h4]
    rw[hr,jaf h4];rfl
   ·have hr:S.refers v=false:=by simp[S.refers,h3,h4]
    rw[hr,jae h4];rfl
theorem z2t(g:qac)(K10:Int->Option qa6)(i:Nat)(n:qaa)(hg:jget g.1 (Int.ofNat i)=some n)(hl:n.2.length<LF) :
  qnz LF g K10 LF (Int.ofNat 0,Int.ofNat i)=cond (n.2.any fun v=>!S.value v (Int.ofNat g.1.length)) (some (2,())) (K10 (IntKind.i64.wrap (Int.add (Int.ofNat i) (Int.ofNat 1)))):=by
 refine range0 (σ:=Unit) (R:=qa6) n.2 (fun k _=>(k,Int.ofNat i)) (fun _ _=>True) (fun rest k _=>cond (rest.any fun v=>!S.value v (Int.ofNat g.1.length)) (some (2,())) (K10 (IntKind.i64.wrap (Int.add (Int.ofNat i) (Int.ofNat 1))))) hl (fun K s _=>?_) (fun K k v rest s _ r h=>?_) () trivial
 ·simp only[qqe,hg,qaz,jad];rfl
 ·have h:=h () trivial;rw[jff];simp only[qqe,hg,r.ilt,r.get,r.next,h,jaa,Prod.eta];cases S.value v (Int.ofNat g.1.length)<;>rfl
theorem zq2(g:qac)(hl:g.1.length<LF)(hl2:g.2.length<LF)(hw:∀n∈g.1,n.2.length<LF):qmp LF g LF (Int.ofNat 0)=some ((if g.1.any (fun n=>n.2.any fun v=>!S.value v (Int.ofNat g.1.length)) then 2 else if g.2.any (fun v=>!S.value v (Int.ofNat g.1.length)||!S.refers v) then 2 else 0),()):=by
 refine qbv (R:=qa6) g.1 (fun rest i=>some ((if rest.any (fun n=>n.2.any fun v=>!S.value v (Int.ofNat g.1.length)) then 2 else if g.2.any (fun v=>!S.value v (Int.ofNat g.1.length)||!S.refers v) then 2 else 0),())) hl (fun K=>?_) (fun K i n rest r h=>?_)
 ·simp only[qr7,qaz,jad];exact zs8 g hl2
 ·have e2:(n::rest).any (fun n=>n.2.any fun v=>!S.value v (Int.ofNat g.1.length))=((n.2.any fun v=>!S.value v (Int.ofNat g.1.length))||rest.any (fun n=>n.2.any fun v=>!S.value v (Int.ofNat g.1.length))):=rfl;rw[e2];simp only[qr7,r.ilt,jaa];refine(z2t g K i n r.get (hw n r.mem)).trans ?_;rw[r.next,h];cases (n.2.any fun v=>!S.value v (Int.ofNat g.1.length))<;>rfl
theorem zle(g:qac)(hl:g.1.length<LF)(hl2:g.2.length<LF)(hw:∀n∈g.1,n.2.length<LF):qop LF g LF (Int.ofNat 0)=some ((if g.1.any (fun n=>decide (30<n.2.length)) then 3 else if g.1.any (fun n=>n.2.any fun v=>!S.value v (Int.ofNat g.1.length)) then 2 else if g.2.any (fun v=>!S.value v (Int.ofNat g.1.length)||!S.refers v) then 2 else 0),()):=by
 refine(qbv (R:=qa6) g.1 (fun rest i=>some ((if rest.any (fun n=>decide (30<n.2.length)) then 3 else if g.1.any (fun n=>n.2.any fun v=>!S.value v (Int.ofNat g.1.length)) then 2 else if g.2.any (fun v=>!S.value v (Int.ofNat g.1.length)||!S.refers v) then 2 else 0),())) hl (fun K=>?_) (fun K i n rest r h=>?_))
 ·simp only[qu3,qaz,jad];exact zq2 g hl hl2 hw
 ·simp only[qu3,r.ilt,r.get,r.next,h,jaa,qeo];have e2:(n::rest).any (fun n=>decide (30<n.2.length))=(decide (30<n.2.length)||rest.any (fun n=>decide (30<n.2.length))):=rfl;rw[e2];by_cases hb:30<n.2.length
  ·rw[jaf hb,jaa,Bool.true_or,jal rfl];rfl
  ·rw[jae hb,jad,jem]
theorem zw6(g:qac)(hl:g.1.length<LF)(hl2:g.2.length<LF)(hw:∀n∈g.1,n.2.length<LF):Fz10 LF g=some (S.formed g,()):=by
 simp only[Fz10,qya,S.formed,qeo];by_cases h1:400<g.1.length
 ·simp[h1,oL]
 by_cases h2:60<g.2.length
 ·simp[h1,h2,oL]
 rw[jae h1,jad,jae h2,jad,jak (by omega)];exact zle g hl hl2 hw
theorem zu2:Con Tryz.prog zw1 q5w:=zyj ⟨q38,trivial⟩ fun x y hx h=>⟨LF,(zw6 _ (qbj hx.1.1) (qbj hx.1.2) fun n hn=>qbj (hx.1.1.2 n hn).2).trans h⟩

theorem zwz(lf:Nat)(c:DCol)(v:DVal)(g:qac)(h:S.refOK g v=true):qsy lf c v g=some (S.suits g c v,()):=by
 simp only[qsy,zej,S.suits,qat,keqS,qf6];have ea:S.lit [65,78,89]=S.ANY:=rfl;simp only[ea,oL,ja6];by_cases h1:c.2.1=1
 ·simp[h1]
 by_cases h2:c.2.1=2
 ·simp[h2]
 by_cases h3:v.1=3
 ·simp[h1,h2,h3]
 by_cases h4:v.1=4
 ·unfold S.refOK at h;obtain⟨a,b⟩:=ja9 h h4;have em:imax 0 v.2=v.2:=by rw[qyx];split<;>omega
  rw[em];obtain⟨x,e1,e2,e3⟩:=qf9 a b;have e4:S.at_ S.zNode g.1 v.2=x:=by unfold S.at_;rw[e2];rfl
  rw[e1,e4];by_cases hA:c.2.2=S.ANY<;>simp [h1,h2,h3,h4,hA]
 ·simp[h1,h2,h3,h4]
theorem zi1:Con Tryz.prog zyf zah:=zs2 trivial fun x y hx h=>⟨0,by
 have h:cond (S.refOK x.2.2.1 x.2.1) (some (S.suits x.2.2.1 x.1 x.2.1,())) none=some y:=h;cases hr:S.refOK x.2.2.1 x.2.1 with
 | false=>rw[hr] at h;cases h
 | true=>rw[hr] at h;exact(zwz _ _ _ _ hr).trans h⟩
theorem q6l{α:Type}{p:α->Bool}{l:List α}{i:Nat}{v:α}(hv:l[i]?=some v)(hp:p v=true):S.idx p l<Int.ofNat i↔¬S.idx p (l.take i)<0:=by
 have hi:i<l.length:=(jau.1 hv).1;have h1:=S.idx_nonneg p (l.take i);constructor
 ·intro h;have h0:0<=S.idx p l:=(S.idx_nonneg p l).2 (jby.2 ⟨v,ja8 hv,hp⟩);obtain⟨x,g1,g2,g3,g4,g5,g6⟩:=S.idx_get h0;have:0<=S.idx p (l.take i):=h1.2 (jby.2 ⟨x,ja8 (i:=(S.idx p l).toNat) (by rw[jaw,jal (by have:Int.ofNat i=(i:Int):=rfl;omega)];exact g2),g3⟩);omega
 ·intro h;have h0:0<=S.idx p (l.take i):=by omega
  obtain⟨x,hx,hpx⟩:=jby.1 (h1.1 h0);obtain⟨j,hj⟩:=jes.1 hx;have hji:j<i:=by
   have:=(jau.1 hj).1;rw[jd7] at this;omega
  rw[jaw,jal hji] at hj;unfold S.idx;cases hf:l.findIdx? p with
  | none =>
   rw[List.findIdx?_eq_none_iff] at hf;have:=hf x (ja8 hj);rw[hpx] at this;cases this
  | some k =>
   simp only;obtain⟨k1,k2,k3⟩:=jdh.1 hf;have:k<=j:=by
    rcases jbr j k with h|h
    ·have h4:=k3 j h;have h5:l[j]'(by omega)=x:=by have:=(jau.1 hj).2;exact this
     rw[h5,hpx] at h4;simp at h4
    ·exact h
   have:Int.ofNat k=(k:Int):=rfl;have:Int.ofNat i=(i:Int):=rfl;omega
theorem zx3(l:List qab)(g:qac)(K13:Int->Option qbk)(cs:List DCol)(nm:ByteArray)(i:Nat)(n:qaa)(hg:jget g.1 (Int.ofNat i)=some n)(hc:cs.length<LF)(hlen:cs.length=n.2.length)(hv:∀v∈n.2,S.refOK g v=true) :
  qm0 LF l g K13 LF (cs,nm,Int.ofNat 0,Int.ofNat i)=if S.suitsAll g cs n.2=true then K13 (IntKind.i64.wrap (Int.add (Int.ofNat i) (Int.ofNat 1))) else some (8,()):=by
 refine range0 (σ:=Unit) (R:=qbk) cs (fun k _=>(cs,nm,k,Int.ofNat i)) (fun _ _=>True) (fun rest k _=>if S.suitsAll g rest (n.2.drop k)=true then K13 (IntKind.i64.wrap (Int.add (Int.ofNat i) (Int.ofNat 1))) else some (8,())) hc (fun K s _=>?_) (fun K k c rest s _ r h=>?_) () trivial
 ·simp only[qqg,qaz,jad,S.suitsAll];rfl
 ·have h:=h () trivial;have hk:k<n.2.length:=by rw[<- hlen];exact r.lt
  have hj:jget n.2 (Int.ofNat k)=some n.2[k]:=by rw[qbz];exact jab hk
  have hr:=hv _ (ja3 hk);rw[jbd hk,S.suitsAll];simp only[qqg,r.ilt,r.get,r.next,h,jaa,hg,hj,Prod.eta,hr];cases S.suits g c n.2[k]<;>simp [oL]
theorem zlr(l:List qab)(g:qac)(hl:g.1.length<LF)(hw:∀f∈l,f.2.length<LF)(hp:S.typedPre l g=true):qkx LF l g LF (Int.ofNat 0)=some (S.unlessE (S.typed l g g.1) 8,()):=by
 refine qbv (R:=qbk) g.1 (fun rest i=>some (S.unlessE (S.typed l g rest) 8,())) hl (fun K=>?_) (fun K i n rest r h=>?_)
 ·simp only[qqn,qaz,jad,S.typed];rfl
 ·unfold S.typedPre at hp;have hn:=ja0.1 hp n r.mem;simp only[jah,ja6] at hn;obtain⟨f,f1,f2,f3,f4⟩:=znq hn.1;simp only[qqn,r.ilt,r.get,f1,jaa,qo1];rw[S.typed,f2];by_cases hlen:f.2.length=n.2.length
  ·rw[jal hlen.symm,jaf hlen,ja1,jad];refine(zx3 l g K f.2 f.1 i n r.get (hw f f3) hlen (ja0.1 hn.2)).trans ?_;rw[r.next,h];split<;>rfl
  ·rw[jak (fun h=>hlen h.symm),jae hlen,jax,jaa];rfl
theorem zj5(l:List qab)(g:qac)(hl:g.1.length<LF)(hw:∀f∈l,f.2.length<LF):Fz12 LF l g=some (S.checkG l g,()):=by
 simp only[Fz12,qvv,S.checkG,Prod.eta,z1d];by_cases h0:¬S.checkForms l=0
 ·rw[jaf h0,jaa,jal h0]
 have h0:=jco.1 h0;rw[jae (by simpa using h0),jad,jak (by simpa using h0),S.check];by_cases h1:¬S.formed g=0
 ·rw[jaf h1,jaa,jal h1]
 have h1:=jco.1 h1;rw[jae (by simpa using h1),jad,jak (by simpa using h1)];refine range0 (σ:=Unit) (R:=qbk) g.1 (fun i _=>i) (fun i _=>(g.1.take i).any (fun n=>decide (S.form l n.1<0))=false) (fun rest i _=>some ((if rest.any (fun n=>decide (S.form l n.1<0)) then 4 else S.unlessE (S.typed l g g.1) 8),())) hl (fun K s hI=>?_) (fun K i n rest s hI r h=>?_) () (by simp)
 ·simp only[qr4,qaz,jad];rw[jfi] at hI;exact zlr l g hl hw (zsi hl h1 hI)
 ·simp only[qr4,r.ilt,r.get,r.next,jaa,qal];have e2:(n::rest).any (fun n=>decide (S.form l n.1<0))=(decide (S.form l n.1<0)||rest.any (fun n=>decide (S.form l n.1<0))):=rfl;rw[e2];cases hb:decide (S.form l n.1<Int.ofNat 0) with
  | true =>
   have hb2:decide (S.form l n.1<0)=true:=hb;rfl
  | false =>
   have hb2:decide (S.form l n.1<0)=false:=hb;rw[jad,jem];refine h () ?_;rw[r.take,List.any_append,hI];simp[hb2]

theorem z2c(hc:Con Tryz.prog qyq qpc):Con Tryz.prog q3r qza:=zv9 ⟨hc,zu2,zes,zi1,trivial⟩ fun x y hx h=>⟨LF,(zj5 _ _ (qbj hx.2.1.1) fun f hf=>qbj (hx.1.2 f hf).2).trans h⟩
theorem zuc(s:ByteArray)(hl:s.size<LF):qou LF s LF (Int.ofNat 0)=some (((qag s).all (fun b=>!S.badR b 97 122)&&!decide (S.smallWords.any (fun w=>keqS s w)=true)),()):=by
 have hbl:(qag s).length<LF:=by rw[qci];exact hl
 refine qbv (R:=Rtz7) (qag s) (fun rest _=>some ((rest.all (fun b=>!S.badR b 97 122)&&!decide (S.smallWords.any (fun w=>keqS s w)=true)),())) hbl (fun K=>?_) (fun K i b rest r h=>?_)
 ·rw[qci];simp only[qt0,qaz,jad,jfj,jdg,S.smallWords,jff,List.any_nil,Bool.or_false];cases keqS s (S.lit [116,114,117,101])<;>cases keqS s (S.lit [102,97,108,115,101])<;>cases keqS s (S.lit [118,111,105,100])<;>cases keqS s (S.lit [99,117,114,114,101,110,116])<;>cases keqS s (S.lit [114,101,115,117,108,116])<;>rfl
 ·have hlt:iltI (Int.ofNat i) (Int.ofNat s.size)=true:=by have:=r.ilt;rwa [qci] at this
  rw[jch,Bool.and_assoc];generalize (rest.all (fun b=>!S.badR b 97 122)&&!decide (S.smallWords.any (fun w=>keqS s w)=true))=z at h ⊢;simp only[qt0,hlt,r.get,r.next,h,jaa,qal,qat];simp only[oL,S.badR];by_cases h1:b<97<;>by_cases h2:122<b<;>by_cases h3:b<48<;>by_cases h4:57<b<;>by_cases h5:b=95<;>simp [h1,h2,h3,h4,h5]<;>omega
theorem zmu(s:ByteArray):Fz7 LF s=some (S.small s,()):=by
 have key:∀z:Bool,(z=true↔S.small s=true)->z=S.small s:=fun z h=>by rw[jb7];exact h
 simp only[Fz7,q1c,qeo];by_cases h1:s.size<1
 ·rw[jaf h1,jaa];refine jb2 some (je8 (key _ ⟨fun h=>(by cases h),fun h=>?_⟩) rfl);obtain⟨_,⟨b,hb,_⟩,_⟩:=(ql3 s).1 h;have:=(jau.1 hb).1;rw[qci] at this;omega
 rw[jae h1,jad];by_cases h2:20<s.size
 ·rw[jaf h2,jaa];refine jb2 some (je8 (key _ ⟨fun h=>(by cases h),fun h=>?_⟩) rfl);have:=((ql3 s).1 h).1;omega
 rw[jae h2,jad];have hb:=qqt (s:=s) (i:=0) (by omega);have hj:jget (qag s) (Int.ofNat 0)=some ((s[0]'(by omega)).toNat:Int):=by rw[qbz];exact hb
 generalize ((s[0]'(by omega)).toNat:Int)=b0 at hb hj;simp only[hj,qal];simp only[oL];by_cases h3:b0<97
 ·rw[jaf h3,jaa];refine jb2 some (je8 (key _ ⟨fun h=>(by cases h),fun h=>?_⟩) rfl);obtain⟨_,⟨b,hb2,_⟩,_⟩:=(ql3 s).1 h;rw[hb] at hb2;cases hb2;omega
 rw[jae h3,jad];by_cases h4:122<b0
 ·rw[jaf h4,jaa];refine jb2 some (je8 (key _ ⟨fun h=>(by cases h),fun h=>?_⟩) rfl);obtain⟨_,⟨b,hb2,_⟩,_⟩:=(ql3 s).1 h;rw[hb] at hb2;cases hb2;omega
 rw[jae h4,jad];refine(zuc s (by unfold LF;omega)).trans (jb2 some (je8 (key _ ?_) rfl));rw[ql3];simp only[jah,ja0,jcn,jc9];have hm:S.smallWords.any (fun w=>keqS s w)=true↔s∈S.smallWords:=by
  rw[jby];exact⟨fun ⟨x,hx,h⟩=>by rw[ja9 h];exact hx,fun h=>⟨s,h,jaf rfl⟩⟩
 rw[hm];exact⟨fun h=>⟨by omega,⟨b0,hb,by omega,by omega⟩,h.1,h.2⟩,fun h=>⟨h.2.2.1,h.2.2.2⟩⟩
theorem zu5:Con Tryz.prog idz7 spz7:=mkz7 trivial fun x y hx h=>⟨LF,(zmu _).trans h⟩
theorem z1j{l:List DCol}{i:Nat}{c:DCol}(h:l[i]?=some c):S.col l c.1<Int.ofNat i↔¬S.col (l.take i) c.1<0:=q6l (p:=fun x:DCol=>keqS x.1 c.1) h (by simp[keqS])
theorem zui{l:List qab}{i:Nat}{f:qab}(h:l[i]?=some f):S.form l f.1<Int.ofNat i↔¬S.form (l.take i) f.1<0:=q6l (p:=fun x:qab=>keqS x.1 f.1) h (by simp[keqS])
theorem zo1(l:List qab)(K4:Int->Option qa2)(i:Nat)(f:qab)(hf:jget l (Int.ofNat i)=some f)(hl:f.2.length<LF)(Z:Int->Option qa2)(hZ0:Z 0=K4 (IntKind.i64.wrap (Int.add (Int.ofNat i) (Int.ofNat 1))))(hZ:∀e,e≠0->Z e=some (e,())) :
  qm7 LF l K4 LF (Int.ofNat 0,Int.ofNat i)=Z (S.ccGo f.2 0 f.2):=by
 refine range0 (σ:=Unit) (R:=qa2) f.2 (fun k _=>(k,Int.ofNat i)) (fun _ _=>True) (fun rest k _=>Z (S.ccGo f.2 k rest)) hl (fun K s _=>?_) (fun K k c rest s _ r h=>?_) () trivial
 ·simp only[qse,hf,qaz,jad,S.ccGo,hZ0]
 ·have h:=h () trivial;rw[S.ccGo];simp only[qse,hf,r.ilt,r.get,r.next,h,jaa];have ht:=z1j r.get?;generalize S.ccGo f.2 (k+1) rest=z;have h4:=hZ 4 (by decide);have h6:=hZ 6 (by decide);have h1:=hZ 1 (by decide);cases S.small c.1 with
  | false=>rw[jal rfl,h4];rfl
  | true =>
   rw[ja1,jad,jak (show ¬true=false by decide)];by_cases hc:S.col (f.2.take k) c.1<0
   ·have hn:¬S.col f.2 c.1<Int.ofNat k:=fun h=>(ht.1 h) hc;rw[qal,jae hn,jad,jak (fun h=>h hc)];simp only[qal,qat,keqS,oL];have hw:S.within c.2.1 1 3=(!decide (c.2.1<1)&&!decide (3<c.2.1)):=by
     unfold S.within;rw[jb7];simp only[jah,ja6,jcn,jc9];omega
    rw[hw];by_cases a1:c.2.1<1
    ·rw[jaf a1,jal (show (!true&&!decide (3<c.2.1))=false from rfl),h1];rfl
    rw[jae a1];by_cases a3:3<c.2.1
    ·rw[jaf a3,jal (show (!false&&!true)=false from rfl),h1];rfl
    rw[jae a3,jak (show ¬(!false&&!false)=false by decide)];by_cases b3:c.2.1=3
    ·rw[jaf b3,jak (fun h=>h.1 b3)];rfl
    rw[jae b3];by_cases b4:c.2.2=S.lit []
    ·rw[jaf b4,jak (fun h=>h.2 b4)];rfl
    ·rw[jae b4,jal ⟨b3,b4⟩,h1];rfl
   ·have hy:S.col f.2 c.1<Int.ofNat k:=ht.2 hc;rw[qal,jaf hy,jaa,jal hc,h6];rfl
theorem z2d(x1:List qab)(K25:Int->Option qa2)(i:Nat)(f:qab)(hg:jget x1 (Int.ofNat i)=some f)(hf:f.2.length<LF)(Z:Bool->Option qa2)(hZ1:Z true=K25 (IntKind.i64.wrap (Int.add (Int.ofNat i) (Int.ofNat 1))))(hZ:Z false=some (5,())) :
  qpg LF x1 K25 LF (Int.ofNat 0,Int.ofNat i)=Z (S.cfIn x1 f.2):=by
 refine range0 (σ:=Unit) (R:=qa2) f.2 (fun k _=>(k,Int.ofNat i)) (fun _ _=>True) (fun rest _ _=>Z (S.cfIn x1 rest)) hf (fun K s _=>?_) (fun K k c rest s _ r h=>?_) () trivial
 ·simp only[qsc,hg,qaz,jad,S.cfIn,hZ1]
 ·have h:=h () trivial;rw[S.cfIn];simp only[qsc,hg,r.ilt,r.get,r.next,h,jaa,qal,qat,keqS];have ea:S.lit [65,78,89]=S.ANY:=rfl;generalize S.cfIn x1 rest=z;simp only[ea,oL];by_cases h3:c.2.1=3
  ·by_cases hn:c.2.2=S.ANY
   ·rw[jaf h3,jaf hn,jak (fun h=>h.2.1 hn)];rfl
   ·by_cases hf:S.form x1 c.2.2<0
    ·rw[jaf h3,jae hn,jaf hf,jal ⟨h3,hn,hf⟩,hZ];rfl
    ·rw[jaf h3,jae hn,jae hf,jak (fun h=>hf h.2.2)];rfl
  ·rw[jae h3,jak (fun h=>h3 h.1)];rfl
theorem zgo(x1:List qab)(hl:x1.length<LF)(hw:∀f∈x1,f.2.length<LF):qo2 LF x1 LF (Int.ofNat 0)=some (S.cfGo2 x1 x1,()):=by
 refine qbv (R:=qa2) x1 (fun rest i=>some (S.cfGo2 x1 rest,())) hl (fun K=>?_) (fun K i v rest r h=>?_)
 ·simp only[qps,qaz,jad];rfl
 ·simp only[qps,r.ilt,jaa];refine(z2d x1 K i v r.get (hw v r.mem) (fun b=>some ((if b=true then S.cfGo2 x1 rest else 5),())) ?_ rfl).trans ?_
  ·rw[r.next,h];rfl
  ·rw[S.cfGo2]
theorem zxy(l:List qab)(hl:l.length<LF)(hw:∀f∈l,f.2.length<LF):Fz11 LF l=some (S.checkForms l,()):=by
 simp only[Fz11,qzf,S.checkForms,qeo];by_cases h24:24<l.length
 ·rw[jaf h24,jaa,jal h24];rfl
 rw[jae h24,jad,jak h24];refine qbv (R:=qa2) l (fun rest i=>some (S.cfGo l i rest,())) hl (fun K=>?_) (fun K i v rest r h=>?_)
 ·simp only[quh,qaz,jad,S.cfGo];exact zgo l hl hw
 ·have ht:=zui r.get?;rw[S.cfGo];simp only[q61,S.unlessE];simp only[quh,r.ilt,r.get,jaa,qeo];cases hcl:S.class_ v.1 with
  | false=>rfl
  | true =>
   rw[ja1,jad,jaa,jal (rfl:(0:Int)=0)];by_cases hc:S.form (l.take i) v.1<0
   ·have hn:¬S.form l v.1<Int.ofNat i:=fun h=>(ht.1 h) hc;rw[qal,jae hn,jad,jaf hc,jaa,jal (rfl:(0:Int)=0)];unfold S.checkCols;by_cases h30:30<v.2.length
    ·rw[jaf h30,jaa,jal h30];rfl
    ·rw[jae h30,jad,jak h30];refine(zo1 l K i v r.get (hw v r.mem) (fun e=>some ((if e=0 then S.cfGo l (i+1) rest else e),())) ?_ (fun e he=>by simp only[jak he])).trans rfl;rw[r.next,h];rfl
   ·have hy:S.form l v.1<Int.ofNat i:=ht.2 hc;rw[qal,jaf hy,jaa,jae hc,jad];rfl
theorem zm7(hcl:Con Tryz.prog 92 qzw):Con Tryz.prog qyq qpc:=z0r ⟨hcl,zu5,zes,zi2,trivial⟩ fun x y hx h=>⟨LF,(zxy _ (qbj hx.1) fun f hf=>qbj (hx.1.2 f hf).2).trans h⟩
def qlg:Nat->Option Nm:=fun k=>cond (Nat.beq k 2) (some ⟨[0,1,5],[],[],[],[],0,0,false⟩) (none)
def qlt:Nat->Bool:=fun k=>cond (Nat.beq k 2) true (false)
def zfi:=qlt
abbrev qc0:Type:=Int × Unit
def q3t:List (Nat × Sm):=[]
def zdz:List (Nat × Hx):=[]
def q0l(R:Type)(lf:Nat):ClK R:=qay Tryz.prog ttT.get ftT.get (nm1 139 qlg) (smL q3t) (hxL zdz) lf 20 R
abbrev zix:Nat:=139
def qjx(x1:ByteArray)(x2:Int)(p:Int):NRes:=(NRes.mk (.node (some (IV.str x1)) (.node (some (IV.int .i64 x2)) .leaf (.node (some (IV.int .i64 p)) .leaf .leaf)) .leaf) (IS.mk .leaf 0) [] 0)
def q91(lf:Nat)(x1:ByteArray)(x2:Int)(L2:Int->Option qc0):Option qc0:=(L2 (Int.ofNat 0))
def qt2(lf:Nat)(x1:ByteArray)(x2:Int)(L2:Int->Option qc0)(p:Int):Option qc0:=(cond (iltI (IntKind.i64.wrap (Int.add x2 p)) (Int.ofNat x1.size)) (match (jget (qag x1) (IntKind.i64.wrap (Int.add x2 p))) with|none=>none|some v0=>(cond (Bool.not (iltI v0 (Int.ofNat 97))) (cond (Bool.not (iltI (Int.ofNat 122) v0)) (L2 (IntKind.i64.wrap (Int.add p (Int.ofNat 1)))) (cond (Bool.not (iltI v0 (Int.ofNat 65))) (cond (Bool.not (iltI (Int.ofNat 90) v0)) (L2 (IntKind.i64.wrap (Int.add p (Int.ofNat 1)))) (cond (Bool.not (iltI v0 (Int.ofNat 48))) (cond (Bool.not (iltI (Int.ofNat 57) v0)) (L2 (IntKind.i64.wrap (Int.add p (Int.ofNat 1)))) (cond (ieqI v0 (Int.ofNat 95)) (L2 (IntKind.i64.wrap (Int.add p (Int.ofNat 1)))) (some (p,())))) (cond (ieqI v0 (Int.ofNat 95)) (L2 (IntKind.i64.wrap (Int.add p (Int.ofNat 1)))) (some (p,()))))) (cond (Bool.not (iltI v0 (Int.ofNat 48))) (cond (Bool.not (iltI (Int.ofNat 57) v0)) (L2 (IntKind.i64.wrap (Int.add p (Int.ofNat 1)))) (cond (ieqI v0 (Int.ofNat 95)) (L2 (IntKind.i64.wrap (Int.add p (Int.ofNat 1)))) (some (p,())))) (cond (ieqI v0 (Int.ofNat 95)) (L2 (IntKind.i64.wrap (Int.add p (Int.ofNat 1)))) (some (p,())))))) (cond (Bool.not (iltI v0 (Int.ofNat 65))) (cond (Bool.not (iltI (Int.ofNat 90) v0)) (L2 (IntKind.i64.wrap (Int.add p (Int.ofNat 1)))) (cond (Bool.not (iltI v0 (Int.ofNat 48))) (cond (Bool.not (iltI (Int.ofNat 57) v0)) (L2 (IntKind.i64.wrap (Int.add p (Int.ofNat 1)))) (cond (ieqI v0 (Int.ofNat 95)) (L2 (IntKind.i64.wrap (Int.add p (Int.ofNat 1)))) (some (p,())))) (cond (ieqI v0 (Int.ofNat 95)) (L2 (IntKind.i64.wrap (Int.add p (Int.ofNat 1)))) (some (p,()))))) (cond (Bool.not (iltI v0 (Int.ofNat 48))) (cond (Bool.not (iltI (Int.ofNat 57) v0)) (L2 (IntKind.i64.wrap (Int.add p (Int.ofNat 1)))) (cond (ieqI v0 (Int.ofNat 95)) (L2 (IntKind.i64.wrap (Int.add p (Int.ofNat 1)))) (some (p,())))) (cond (ieqI v0 (Int.ofNat 95)) (L2 (IntKind.i64.wrap (Int.add p (Int.ofNat 1)))) (some (p,()))))))) (some (p,())))
abbrev gz13:Type:=ElA [.str,(.int .i64)]->Option qc0
abbrev sz13(g:gz13):Sm:=⟨[.str,(.int .i64)],[(false,(.int .i64))],g⟩
abbrev Ez13(g:gz13)(J:JT qc0)(lf:Nat)(x1:ByteArray)(x2:Int):=qbc Tryz.prog ttT.get qlg qeg.nt (q0l _ lf) lf qlt J qeg.body [] (qau (argV [.str,(.int .i64)] (x1,x2,())) 0 .leaf) S0 [] (qar ttT.get qeg (sz13 g))
abbrev Bz13(g:gz13)(J:JT qc0)(lf k:Nat)(ms:List Nat)(q:NRes):=qbi Tryz.prog ttT.get qlg qeg.nt (q0l _ lf) lf qlt J k qeg.body [] ms q (qar ttT.get qeg (sz13 g))
theorem ztb(g:gz13)(J:JT qc0)(lf:Nat)(x1:ByteArray)(x2:Int):Ez13 g J lf x1 x2=q91 lf x1 x2 (fun q=>J 2 [lf] (qjx x1 x2 q)):=by kernel_rfl
theorem zm9(g:gz13)(J:JT qc0)(lf:Nat)(x1:ByteArray)(x2:Int)(m1:Nat)(p:Int):Bz13 g J lf 2 [m1] (qjx x1 x2 p)=qt2 lf x1 x2 (fun q=>J 2 [m1] (qjx x1 x2 q)) p:=by kernel_rfl
theorem zat:(regs qeg.body).Nodup:=by decide +kernel
theorem zd8:okC qlg qlt zfi qeg.body none=true:=by kernel_rfl
def Az13(g:gz13)(lf:Nat):JT qc0:=atN Tryz.prog ttT.get qlg qeg (sz13 g) (q0l _ lf) lf zfi
def qre(lf:Nat)(x1:ByteArray)(x2:Int):Nat->(Int)->Option qc0:=rounds fun K p=>qt2 lf x1 x2 K p
theorem q5y(g:gz13)(lf:Nat)(x1:ByteArray)(x2:Int):∀(n:Nat) (p:Int),Az13 g lf 2 [n] (qjx x1 x2 p)=qre lf x1 x2 n p
 | 0,p=>qax 2 [0] rfl _
 | n+1,p=>by
  have ih:=q5y g lf x1 x2 n;refine(qao (qaj 20 _) zat zd8 2 [n+1] [n] rfl _).trans ((zm9 g (Az13 g lf) lf x1 x2 n p).trans ?_);rw[(show (fun q=>Az13 g lf 2 [n] (qjx x1 x2 q))=(fun q=>qre lf x1 x2 n q) from funext ih)];rfl
def Fz13(lf:Nat)(x1:ByteArray)(x2:Int):Option qc0:=q91 lf x1 x2 (fun q=>qre lf x1 x2 lf q)
theorem zf3(g:gz13)(lf:Nat)(x1:ByteArray)(x2:Int):Ez13 g (Az13 g lf) lf x1 x2=Fz13 lf x1 x2:=by
  refine(ztb g (Az13 g lf) lf x1 x2).trans ?_;rw[(show (fun q=>Az13 g lf 2 [lf] (qjx x1 x2 q))=(fun q=>qre lf x1 x2 lf q) from funext fun q=>q5y g lf x1 x2 lf q)];rfl
theorem zru:qa1 Tryz.prog zdz:=trivial
theorem zht{g:gz13}(hsm:SmOK Tryz.prog q3t)(hg:∀(x:ElA [.str,(.int .i64)]) (y:qc0),WfA [.str,(.int .i64)] x->g x=some y->∃lf,Fz13 lf x.1 x.2.1=some y):Con Tryz.prog 139 ⟨[.str,(.int .i64)],[(false,(.int .i64))],g⟩ :=
 conV (st:=qlt) (fun lf x=>Fz13 lf x.1 x.2.1) cm3 zl0 zru zat zd8 (fun lf x=>zf3 g lf x.1 x.2.1) hsm hg
def qma:Nat->Option Nm:=fun k=>cond (Nat.beq k 2) (some ⟨[0,2,3],[],[],[],[],0,0,false⟩) (cond (Nat.beq k 10) (some ⟨[0,2,4,5],[],[],[],[],0,0,false⟩) (none))
def qk6:Nat->Bool:=fun k=>cond (Nat.beq k 2) true (cond (Nat.beq k 10) true (false))
def zai:=qk6
abbrev qb8:Type:=zmp × Unit
def ze9:List (Nat × Sm):=[]
def q95:List (Nat × Hx):=[]
def q0t(R:Type)(lf:Nat):ClK R:=qay Tryz.prog ttT.get ftT.get (nm1 141 qma) (smL ze9) (hxL q95) lf 20 R
abbrev zn2:Nat:=141
def qjj(x1:ByteArray)(p:Int):NRes:=(NRes.mk (.node (some (IV.str x1)) (.node none (.node (some (IV.int .i64 p)) .leaf .leaf) .leaf) (.node (some (IV.ptr 0 0)) .leaf .leaf)) (IS.mk (.node (some (IObj.row (List.cons (IV.int .i64 (Int.ofNat 0)) [(IV.int .i64 (Int.ofNat 0))]))) .leaf .leaf) 1) [] 0)
def qjr(x1:ByteArray)(p:Int × Int):NRes:=(NRes.mk (.node (some (IV.str x1)) (.node none .leaf (.node (some (IV.int .i64 p.1)) .leaf .leaf)) (.node (some (IV.ptr 0 0)) (.node (some (IV.int .i64 p.2)) .leaf .leaf) .leaf)) (IS.mk (.node (some (IObj.row (List.cons (IV.int .i64 (Int.ofNat 0)) [(IV.int .i64 (Int.ofNat 0))]))) .leaf .leaf) 1) [] 0)
def q73(lf:Nat)(x1:ByteArray)(L2:Int->Option qb8):Option qb8:=(L2 (Int.ofNat 0))
def qs0(lf:Nat)(x1:ByteArray)(L2:Int->Option qb8)(L10:(Int × Int)->Option qb8)(p:Int):Option qb8:=(cond (iltI p (Int.ofNat x1.size)) (match (jget (qag x1) p) with|none=>none|some v0=>(cond (Bool.not (iltI v0 (Int.ofNat 48))) (cond (Bool.not (Bool.not (iltI (Int.ofNat 57) v0))) (some (((Int.ofNat 0),(Int.ofNat 2)),())) (L2 (IntKind.i64.wrap (Int.add p (Int.ofNat 1))))) (some (((Int.ofNat 0),(Int.ofNat 2)),())))) (match (jget (qag x1) (Int.ofNat 0)) with|none=>none|some v24=>(cond (ieqI v24 (Int.ofNat 48)) (cond (iltI (Int.ofNat 1) (Int.ofNat x1.size)) (some (((Int.ofNat 0),(Int.ofNat 2)),())) (L10 ((Int.ofNat 0),(Int.ofNat 0)))) (L10 ((Int.ofNat 0),(Int.ofNat 0))))))
def qvb(lf:Nat)(x1:ByteArray)(L10:(Int × Int)->Option qb8)(p:Int × Int):Option qb8:=(cond (iltI p.1 (Int.ofNat x1.size)) (match (jget (qag x1) p.1) with|none=>none|some v0=>(cond (iltI (Int.ofNat 1099511627776) (IntKind.i64.wrap (Int.sub (IntKind.i64.wrap (Int.add (IntKind.i64.wrap (Int.mul (Int.ofNat 10) p.2)) (IntKind.i64.wrap v0))) (Int.ofNat 48)))) (some (((Int.ofNat 0),(Int.ofNat 3)),())) (L10 ((IntKind.i64.wrap (Int.add p.1 (Int.ofNat 1))),(IntKind.i64.wrap (Int.sub (IntKind.i64.wrap (Int.add (IntKind.i64.wrap (Int.mul (Int.ofNat 10) p.2)) (IntKind.i64.wrap v0))) (Int.ofNat 48))))))) (some ((p.2,(Int.ofNat 0)),())))
abbrev gz14:Type:=ElA [.str]->Option qb8
abbrev sz14(g:gz14):Sm:=⟨[.str],[(false,q0r)],g⟩
abbrev Ez14(g:gz14)(J:JT qb8)(lf:Nat)(x1:ByteArray):=qbc Tryz.prog ttT.get qma qec.nt (q0t _ lf) lf qk6 J qec.body [] (qau (argV [.str] (x1,())) 0 .leaf) S0 [] (qar ttT.get qec (sz14 g))
abbrev Bz14(g:gz14)(J:JT qb8)(lf k:Nat)(ms:List Nat)(q:NRes):=qbi Tryz.prog ttT.get qma qec.nt (q0t _ lf) lf qk6 J k qec.body [] ms q (qar ttT.get qec (sz14 g))
theorem zt7(g:gz14)(J:JT qb8)(lf:Nat)(x1:ByteArray):Ez14 g J lf x1=q73 lf x1 (fun q=>J 2 [lf] (qjj x1 q)):=by kernel_rfl
theorem z07(g:gz14)(J:JT qb8)(lf:Nat)(x1:ByteArray)(m1:Nat)(p:Int):Bz14 g J lf 2 [m1] (qjj x1 p)=qs0 lf x1 (fun q=>J 2 [m1] (qjj x1 q)) (fun q=>J 10 [lf] (qjr x1 q)) p:=by kernel_rfl
theorem zq4(g:gz14)(J:JT qb8)(lf:Nat)(x1:ByteArray)(m1:Nat)(p:Int × Int):Bz14 g J lf 10 [m1] (qjr x1 p)=qvb lf x1 (fun q=>J 10 [m1] (qjr x1 q)) p:=by kernel_rfl
theorem q05:(regs qec.body).Nodup:=by decide +kernel
theorem qy7:okC qma qk6 zai qec.body none=true:=by kernel_rfl
def Az14(g:gz14)(lf:Nat):JT qb8:=atN Tryz.prog ttT.get qma qec (sz14 g) (q0t _ lf) lf zai
def qlw(lf:Nat)(x1:ByteArray):Nat->(Int × Int)->Option qb8:=rounds fun K p=>qvb lf x1 K p
theorem za2(g:gz14)(lf:Nat)(x1:ByteArray):∀(n:Nat) (p:Int × Int),Az14 g lf 10 [n] (qjr x1 p)=qlw lf x1 n p
 | 0,p=>qax 10 [0] rfl _
 | n+1,p=>by
  have ih:=za2 g lf x1 n;refine(qao (qaj 20 _) q05 qy7 10 [n+1] [n] rfl _).trans ((zq4 g (Az14 g lf) lf x1 n p).trans ?_);rw[(show (fun q=>Az14 g lf 10 [n] (qjr x1 q))=(fun q=>qlw lf x1 n q) from funext ih)];rfl
def qo0(lf:Nat)(x1:ByteArray):Nat->(Int)->Option qb8:=rounds fun K p=>qs0 lf x1 K (fun q=>qlw lf x1 lf q) p
theorem q4i(g:gz14)(lf:Nat)(x1:ByteArray):∀(n:Nat) (p:Int),Az14 g lf 2 [n] (qjj x1 p)=qo0 lf x1 n p
 | 0,p=>qax 2 [0] rfl _
 | n+1,p=>by
  have ih:=q4i g lf x1 n;refine(qao (qaj 20 _) q05 qy7 2 [n+1] [n] rfl _).trans ((z07 g (Az14 g lf) lf x1 n p).trans ?_);rw[(show (fun q=>Az14 g lf 10 [lf] (qjr x1 q))=(fun q=>qlw lf x1 lf q) from funext fun q=>za2 g lf x1 lf q),(show (fun q=>Az14 g lf 2 [n] (qjj x1 q))=(fun q=>qo0 lf x1 n q) from funext ih)];rfl
def Fz14(lf:Nat)(x1:ByteArray):Option qb8:=q73 lf x1 (fun q=>qo0 lf x1 lf q)
theorem zy2(g:gz14)(lf:Nat)(x1:ByteArray):Ez14 g (Az14 g lf) lf x1=Fz14 lf x1:=by
  refine(zt7 g (Az14 g lf) lf x1).trans ?_;rw[(show (fun q=>Az14 g lf 2 [lf] (qjj x1 q))=(fun q=>qo0 lf x1 lf q) from funext fun q=>q4i g lf x1 lf q)];rfl
theorem znm:qa1 Tryz.prog q95:=trivial
theorem zrm{g:gz14}(hsm:SmOK Tryz.prog ze9)(hg:∀(x:ElA [.str]) (y:qb8),WfA [.str] x->g x=some y->∃lf,Fz14 lf x.1=some y):Con Tryz.prog 141 ⟨[.str],[(false,q0r)],g⟩ :=
 conV (st:=qk6) (fun lf x=>Fz14 lf x.1) cm3 zhr znm q05 qy7 (fun lf x=>zy2 g lf x.1) hsm hg
def qn7:Nat->Option Nm:=fun k=>cond (Nat.beq k 8) (some ⟨[0,2,3,4,5],[],[],[],[],0,0,false⟩) (none)
def qoy:Nat->Bool:=fun k=>cond (Nat.beq k 8) true (false)
def zan:=qoy
abbrev qcy:Type:=q5v × Unit
def q81:List (Nat × Sm):=[(137,spz6)]
def q2t:List (Nat × Hx):=[]
def qyz(R:Type)(lf:Nat):ClK R:=qay Tryz.prog ttT.get ftT.get (nm1 142 qn7) (smL q81) (hxL q2t) lf 20 R
abbrev zmt:Nat:=142
def qjs(x1:ByteArray)(p:Int × Bool × Bool):NRes:=(NRes.mk (.node (some (IV.str x1)) (.node none (.node (some (IV.bool p.2.2)) .leaf .leaf) (.node (some (IV.int .i64 p.1)) .leaf .leaf)) (.node (some (IV.ptr 0 0)) (.node (some (IV.bool p.2.1)) .leaf .leaf) .leaf)) (IS.mk (.node (some (IObj.row (List.cons (IV.int .i64 (Int.ofNat 0)) [(IV.int .i64 (Int.ofNat 0))]))) .leaf .leaf) 1) [] 0)
def qwk(lf:Nat)(x1:ByteArray)(L8:(Int × Bool × Bool)->Option qcy):Option qcy:=(cond (S.has (List.cons (S.lit [97,110,100]) (List.cons (S.lit [97,115]) (List.cons (S.lit [97,116,116,97,99,104,101,100]) (List.cons (S.lit [99,104,101,99,107]) (List.cons (S.lit [99,108,97,115,115]) (List.cons (S.lit [99,114,101,97,116,101]) (List.cons (S.lit [100,101,102,101,114,114,101,100]) (List.cons (S.lit [100,101,116,97,99,104,97,98,108,101]) (List.cons (S.lit [100,111]) (List.cons (S.lit [101,108,115,101]) (List.cons (S.lit [101,110,100]) (List.cons (S.lit [101,110,115,117,114,101]) (List.cons (S.lit [102,101,97,116,117,114,101]) (List.cons (S.lit [102,114,111,109]) (List.cons (S.lit [105,102]) (List.cons (S.lit [105,109,112,108,105,101,115]) (List.cons (S.lit [105,110,104,101,114,105,116]) (List.cons (S.lit [105,110,118,97,114,105,97,110,116]) (List.cons (S.lit [108,111,99,97,108]) (List.cons (S.lit [108,111,111,112]) (List.cons (S.lit [110,111,116]) (List.cons (S.lit [111,108,100]) (List.cons (S.lit [111,114]) (List.cons (S.lit [112,117,116]) (List.cons (S.lit [114,97,105,115,101]) (List.cons (S.lit [114,101,100,101,102,105,110,101]) (List.cons (S.lit [114,101,110,97,109,101]) (List.cons (S.lit [114,101,113,117,105,114,101]) (List.cons (S.lit [114,101,115,99,117,101]) (List.cons (S.lit [114,101,116,114,121]) (List.cons (S.lit [115,101,108,101,99,116]) (List.cons (S.lit [115,101,112,97,114,97,116,101]) (List.cons (S.lit [116,104,101,110]) (List.cons (S.lit [117,110,100,101,102,105,110,101]) (List.cons (S.lit [117,110,116,105,108]) (List.cons (S.lit [118,97,114,105,97,110,116]) [(S.lit [119,104,101,110])])))))))))))))))))))))))))))))))))))) x1) (some (((Int.ofNat 3),(Int.ofNat 0)),())) (cond (S.has (List.cons (S.lit [84,114,117,101]) (List.cons (S.lit [70,97,108,115,101]) (List.cons (S.lit [86,111,105,100]) (List.cons (S.lit [67,117,114,114,101,110,116]) [(S.lit [82,101,115,117,108,116])])))) x1) (some (((Int.ofNat 3),(Int.ofNat 0)),())) (cond (S.has (List.cons (S.lit [116,114,117,101]) (List.cons (S.lit [102,97,108,115,101]) (List.cons (S.lit [118,111,105,100]) (List.cons (S.lit [99,117,114,114,101,110,116]) [(S.lit [114,101,115,117,108,116])])))) x1) (some (((Int.ofNat 0),(Int.ofNat 4)),())) (L8 ((Int.ofNat 0),false,false)))))
def qum(lf:Nat)(x1:ByteArray)(L8:(Int × Bool × Bool)->Option qcy)(p:Int × Bool × Bool):Option qcy:=(cond (iltI p.1 (Int.ofNat x1.size)) (cond p.2.2 (cond p.2.1 (L8 ((IntKind.i64.wrap (Int.add p.1 (Int.ofNat 1))),true,true)) (match (jget (qag x1) p.1) with|none=>none|some v23=>(cond (Bool.not (iltI v23 (Int.ofNat 65))) (L8 ((IntKind.i64.wrap (Int.add p.1 (Int.ofNat 1))),(Bool.not (iltI (Int.ofNat 90) v23)),true)) (L8 ((IntKind.i64.wrap (Int.add p.1 (Int.ofNat 1))),false,true))))) (match (jget (qag x1) p.1) with|none=>none|some v27=>(cond (Bool.not (iltI v27 (Int.ofNat 97))) (cond p.2.1 (L8 ((IntKind.i64.wrap (Int.add p.1 (Int.ofNat 1))),true,(Bool.not (iltI (Int.ofNat 122) v27)))) (match (jget (qag x1) p.1) with|none=>none|some v31=>(cond (Bool.not (iltI v31 (Int.ofNat 65))) (L8 ((IntKind.i64.wrap (Int.add p.1 (Int.ofNat 1))),(Bool.not (iltI (Int.ofNat 90) v31)),(Bool.not (iltI (Int.ofNat 122) v27)))) (L8 ((IntKind.i64.wrap (Int.add p.1 (Int.ofNat 1))),false,(Bool.not (iltI (Int.ofNat 122) v27))))))) (cond p.2.1 (L8 ((IntKind.i64.wrap (Int.add p.1 (Int.ofNat 1))),true,false)) (match (jget (qag x1) p.1) with|none=>none|some v35=>(cond (Bool.not (iltI v35 (Int.ofNat 65))) (L8 ((IntKind.i64.wrap (Int.add p.1 (Int.ofNat 1))),(Bool.not (iltI (Int.ofNat 90) v35)),false)) (L8 ((IntKind.i64.wrap (Int.add p.1 (Int.ofNat 1))),false,false)))))))) (cond p.2.2 (cond p.2.1 (some (((Int.ofNat 0),(Int.ofNat 2)),())) (cond (iltI (Int.ofNat 20) (Int.ofNat x1.size)) (some (((Int.ofNat 0),(Int.ofNat 3)),())) (cond p.2.2 (some (((Int.ofNat 1),(Int.ofNat 0)),())) (some (((Int.ofNat 2),(Int.ofNat 0)),()))))) (cond (iltI (Int.ofNat 20) (Int.ofNat x1.size)) (some (((Int.ofNat 0),(Int.ofNat 3)),())) (cond p.2.2 (some (((Int.ofNat 1),(Int.ofNat 0)),())) (some (((Int.ofNat 2),(Int.ofNat 0)),()))))))
abbrev gz15:Type:=ElA [.str]->Option qcy
abbrev sz15(g:gz15):Sm:=⟨[.str],[(false,qos)],g⟩
abbrev Ez15(g:gz15)(J:JT qcy)(lf:Nat)(x1:ByteArray):=qbc Tryz.prog ttT.get qn7 qd2.nt (qyz _ lf) lf qoy J qd2.body [] (qau (argV [.str] (x1,())) 0 .leaf) S0 [] (qar ttT.get qd2 (sz15 g))
abbrev Bz15(g:gz15)(J:JT qcy)(lf k:Nat)(ms:List Nat)(q:NRes):=qbi Tryz.prog ttT.get qn7 qd2.nt (qyz _ lf) lf qoy J k qd2.body [] ms q (qar ttT.get qd2 (sz15 g))
theorem zpy(g:gz15)(J:JT qcy)(lf:Nat)(x1:ByteArray):Ez15 g J lf x1=qwk lf x1 (fun q=>J 8 [lf] (qjs x1 q)):=by kernel_rfl
theorem zjh(g:gz15)(J:JT qcy)(lf:Nat)(x1:ByteArray)(m1:Nat)(p:Int × Bool × Bool):Bz15 g J lf 8 [m1] (qjs x1 p)=qum lf x1 (fun q=>J 8 [m1] (qjs x1 q)) p:=by kernel_rfl
theorem zc7:(regs qd2.body).Nodup:=by decide +kernel
theorem q4d:okC qn7 qoy zan qd2.body none=true:=by kernel_rfl
def Az15(g:gz15)(lf:Nat):JT qcy:=atN Tryz.prog ttT.get qn7 qd2 (sz15 g) (qyz _ lf) lf zan
def qi2(lf:Nat)(x1:ByteArray):Nat->(Int × Bool × Bool)->Option qcy:=rounds fun K p=>qum lf x1 K p
theorem q8x(g:gz15)(lf:Nat)(x1:ByteArray):∀(n:Nat) (p:Int × Bool × Bool),Az15 g lf 8 [n] (qjs x1 p)=qi2 lf x1 n p
 | 0,p=>qax 8 [0] rfl _
 | n+1,p=>by
  have ih:=q8x g lf x1 n;refine(qao (qaj 20 _) zc7 q4d 8 [n+1] [n] rfl _).trans ((zjh g (Az15 g lf) lf x1 n p).trans ?_);rw[(show (fun q=>Az15 g lf 8 [n] (qjs x1 q))=(fun q=>qi2 lf x1 n q) from funext ih)];rfl
def Fz15(lf:Nat)(x1:ByteArray):Option qcy:=qwk lf x1 (fun q=>qi2 lf x1 lf q)
theorem zh9(g:gz15)(lf:Nat)(x1:ByteArray):Ez15 g (Az15 g lf) lf x1=Fz15 lf x1:=by
  refine(zpy g (Az15 g lf) lf x1).trans ?_;rw[(show (fun q=>Az15 g lf 8 [lf] (qjs x1 q))=(fun q=>qi2 lf x1 lf q) from funext fun q=>q8x g lf x1 lf q)];rfl
theorem zjk:qa1 Tryz.prog q2t:=trivial
theorem zir{g:gz15}(hsm:SmOK Tryz.prog q81)(hg:∀(x:ElA [.str]) (y:qcy),WfA [.str] x->g x=some y->∃lf,Fz15 lf x.1=some y):Con Tryz.prog 142 ⟨[.str],[(false,qos)],g⟩ :=
 conV (st:=qoy) (fun lf x=>Fz15 lf x.1) cm3 zmw zjk zc7 q4d (fun lf x=>zh9 g lf x.1) hsm hg
abbrev qq0:Type:=q5v × Unit
abbrev zul:Nat:=124
def q5p(lf:Nat)(x1:ByteArray):Option qq0:=(cond (S.has (List.cons (S.lit [58,61]) (List.cons (S.lit [47,61]) (List.cons (S.lit [60,61]) (List.cons (S.lit [62,61]) (List.cons (S.lit [47,47]) (List.cons (S.lit [61]) (List.cons (S.lit [60]) (List.cons (S.lit [62]) (List.cons (S.lit [43]) (List.cons (S.lit [45]) (List.cons (S.lit [42]) (List.cons (S.lit [37]) (List.cons (S.lit [40]) (List.cons (S.lit [41]) (List.cons (S.lit [91]) (List.cons (S.lit [93]) (List.cons (S.lit [123]) (List.cons (S.lit [125]) (List.cons (S.lit [44]) (List.cons (S.lit [59]) (List.cons (S.lit [58]) [(S.lit [46])]))))))))))))))))))))) x1) (some (((Int.ofNat 5),(Int.ofNat 0)),())) (cond (ieqI (Int.ofNat x1.size) (Int.ofNat 0)) (some (((Int.ofNat 0),(Int.ofNat 2)),())) (cond (iltI (S.run0 x1) (Int.ofNat x1.size)) (some (((Int.ofNat 0),(Int.ofNat 2)),())) (match (jget (qag x1) (Int.ofNat 0)) with|none=>none|some v0=>(cond (ieqI v0 (Int.ofNat 95)) (some (((Int.ofNat 0),(Int.ofNat 2)),())) (match (jget (qag x1) (Int.ofNat 0)) with|none=>none|some v1=>(cond (Bool.not (iltI v1 (Int.ofNat 48))) (cond (Bool.not (iltI (Int.ofNat 57) v1)) (match (cond (Nat.ble 1 x1.size) (some ((S.number x1),())) none) with|none=>none|some v2=>(cond (Bool.not (ieqI v2.1.2 (Int.ofNat 0))) (some (((Int.ofNat 0),v2.1.2),())) (some (((Int.ofNat 4),(Int.ofNat 0)),())))) (some (((S.word x1).1,(S.word x1).2),()))) (some (((S.word x1).1,(S.word x1).2),())))))))))
def qr9(lf:Nat)(x1:ByteArray):Option qq0:=q5p lf x1
theorem z13{g:ElA [.str]->Option qq0}(hsm:SmOK Tryz.prog [(137,spz6),(139,za8),(141,q3n),(142,q6t)])(hg:∀(x:ElA [.str]) (y:qq0),WfA [.str] x->g x=some y->∃lf,qr9 lf x.1=some y):Con Tryz.prog 124 ⟨[.str],[(false,qos)],g⟩ :=
 conU (fi:=qv0) (hxl:=[]) (fun lf x=>qr9 lf x.1) cm3 zlm trivial hsm hg
abbrev qoo:Type:=Bool × Unit
abbrev zwi:Nat:=92
def zcz(lf:Nat)(x1:ByteArray):Option qoo:=(cond (ieqI (S.shape x1).2 (Int.ofNat 0)) (cond (ieqI (S.shape x1).1 (Int.ofNat 2)) (cond (Bool.not (keqS x1 (S.lit [73,78,84,69,71,69,82]))) (cond (Bool.not (keqS x1 (S.lit [66,79,79,76,69,65,78]))) (cond (Bool.not (keqS x1 (S.lit [65,78,89]))) (some ((Bool.not (keqS x1 (S.lit [78,79,78,69]))),())) (some (false,()))) (some (false,()))) (some (false,()))) (some (false,()))) (some (false,())))
def qp8(lf:Nat)(x1:ByteArray):Option qoo:=zcz lf x1
theorem ztw{g:ElA [.str]->Option qoo}(hsm:SmOK Tryz.prog [(124,q4f)])(hg:∀(x:ElA [.str]) (y:qoo),WfA [.str] x->g x=some y->∃lf,qp8 lf x.1=some y):Con Tryz.prog 92 ⟨[.str],[(false,.bool)],g⟩ :=
 conU (fi:=fi92) (hxl:=[]) (fun lf x=>qp8 lf x.1) cm3 zve trivial hsm hg
end Go.Proofs.YtcnhjofpmpipfaaGreat
end
