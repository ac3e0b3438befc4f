/- Texts: Jvs, Jhx, Jra, Qsp, Qg1, Qp1, Qg2, Jca, Jcb, Jcc, Jcd, Jce, Jcf, Jcl, Qcl, Qp2, Qp3, Qnm, Rsp, Rg1, Rp1, Rp2, Rg2, Rp3, Rp4, Jcg, Jch, Jci, Jcj, Jck, Qri, Jcp, Qc1, Qgo, Qco, Qc2, Qc2p, Qc1p. -/
import Derived.Test.YtcnhjofpmpipfaaMr3
import Derived.Test.YtcnhjofpmpipfaaMr1
import Derived.Laws.RangeAny
set_option linter.unusedVariables false
section
namespace Go.Jx
open Go Go.Sx Go.RowKit
universe u

section
variable {P : Program} {tt : Nat -> Option TI} {nm : Nat -> Option Nm} {B nt lf : Nat} {round : Option Nat} {cl cl' : Cl}
def ClLe(cl cl':Cl):Prop:=∀t vs S r,cl t vs S=some r->cl' t vs S=some r
theorem q69(h:ClLe cl cl'){fr:PT IV}{S:IS}{o:Oper}{r:Res}(hr:qbj P tt nt cl fr S o=some r):qbj P tt nt cl' fr S o=some r:=by
 obtain⟨dst,op,ty,pos,aft,g⟩:=o;cases op<;>try exact hr
 rename_i c;obtain⟨callee,args,ts⟩:=c;cases callee<;>try exact hr
 rename_i x;simp only[qbj,oget] at hr ⊢;generalize evo nt fr x=e1 at hr ⊢;cases e1 with
 | none=>cases hr
 | some v =>
  simp only at hr ⊢;generalize evL nt fr args.toList=e2 at hr ⊢;cases e2 with
  | none=>cases hr
  | some vs =>
   cases v<;>simp only at hr ⊢<;>first|(cases hr;done)|exact h _ _ _ _ hr
theorem qti(h:ClLe cl cl'){ops:List Oper}:∀{l:List Oper} {fr:PT IV} {S:IS} {q:FRes},iseq P tt nt cl ops l fr S=some q->iseq P tt nt cl' ops l fr S=some q
 | [],fr,S,q,hq=>hq
 | o::l,fr,S,q,hq=>by
  unfold iseq at hq ⊢;cases hgk:gOK ops fr o.guard with
  | false=>rw[hgk] at hq;cases hq
  | true =>
  rw[hgk,jaa] at hq;rw[jaa];cases hw:qby ops nt fr o.guard with
  | true =>
   rw[hw,jaa] at hq;rw[jaa];cases hs:qbj P tt nt cl fr S o with
   | none=>rw[hs] at hq;cases hq
   | some r =>
    rw[hs] at hq;rw[q69 h hs];simp only at hq ⊢;cases hpn:qbi r.v with
    | some p=>rw[hpn] at hq;exact hq
    | none =>
    rw[hpn] at hq;simp only at hq ⊢;cases hn:iseq P tt nt cl ops l (putD o.dst r.v fr) r.S with
    | none=>rw[hn] at hq;cases hq
    | some q2=>rw[hn] at hq;rw[qti h hn];exact hq
  | false =>
   rw[hw,jae] at hq;rw[jae];exact qti h hq
theorem qi5(h:ClLe cl cl'){ops:List Oper}{bs:List Nat}:∀{l:List Oper} {k:Nat} {pn:Option (Nat × IV)} {fr:PT IV} {S:IS} {q:Recs},qa7 P tt nt cl ops bs l k pn fr S=some q->qa7 P tt nt cl' ops bs l k pn fr S=some q
 | [],k,pn,fr,S,q,hq=>hq
 | o::l,k,pn,fr,S,q,hq=>by
  unfold qa7 at hq ⊢;cases hsk:qd6 bs k pn with
  | true =>
   rw[hsk,jaa] at hq;rw[jaa];cases hn:qa7 P tt nt cl ops bs l (k+1) pn (putD o.dst .unk fr) S with
   | none=>rw[hn] at hq;cases hq
   | some q2=>rw[hn] at hq;rw[qi5 h hn];exact hq
  | false =>
  rw[hsk,jae] at hq;rw[jae];cases hgk:gOK ops fr o.guard with
  | false=>rw[hgk] at hq;cases hq
  | true =>
  rw[hgk,jaa] at hq;rw[jaa];cases hw:qby ops nt fr o.guard with
  | true =>
   rw[hw,jaa] at hq;rw[jaa];cases hs:qbj P tt nt cl fr S o with
   | none=>rw[hs] at hq;cases hq
   | some r =>
    rw[hs] at hq;rw[q69 h hs];simp only at hq ⊢;cases hpn:qbi r.v with
    | some p =>
     rw[hpn] at hq;cases pn with
     | some x=>cases hq
     | none =>
     simp only at hq ⊢;cases hf:qbp p with
     | false=>rw[hf] at hq;cases hq
     | true =>
     rw[hf,jaa] at hq;rw[jaa];cases hn:qa7 P tt nt cl ops bs l (k+1) (some (k,p)) (putD o.dst .unk fr) r.S with
     | none=>rw[hn] at hq;cases hq
     | some q2=>rw[hn] at hq;rw[qi5 h hn];exact hq
    | none =>
    rw[hpn] at hq;simp only at hq ⊢;cases hn:qa7 P tt nt cl ops bs l (k+1) pn (putD o.dst r.v fr) r.S with
    | none=>rw[hn] at hq;cases hq
    | some q2=>rw[hn] at hq;rw[qi5 h hn];exact hq
  | false =>
   rw[hw,jae] at hq;rw[jae];cases hn:qa7 P tt nt cl ops bs l (k+1) pn (putD o.dst (.tup []) fr) S with
   | none=>rw[hn] at hq;cases hq
   | some q2=>rw[hn] at hq;rw[qi5 h hn];exact hq
theorem zds(h:ClLe cl cl'){ops:List Oper}{fr:PT IV}{S:IS}{q:FRes}(hq:iany P tt nt cl ops fr S=some q):iany P tt nt cl' ops fr S=some q:=by
 unfold iany at hq ⊢;cases hn:qa7 P tt nt cl ops (befs ops []) ops 0 none fr S with
 | none=>rw[hn] at hq;cases hq
 | some q2=>rw[hn] at hq;rw[qi5 h hn];exact hq
theorem q62(h:ClLe cl cl'){f:Nat}{caps:List IV}{S:IS}{id:Nat}{fr:PT IV}{ds:List Nat}{rd:Nat}{q:CRes}(hq:ifin cl f caps S id fr ds rd=some q):ifin cl' f caps S id fr ds rd=some q:=by
 unfold ifin at hq ⊢;cases hn:cl (.fn f) (.yield id::caps) S with
 | none=>rw[hn] at hq;cases hq
 | some r=>rw[hn] at hq;rw[h _ _ _ _ hn];exact hq
theorem qto(h:ClLe cl cl'):∀(c:Code) {fr:PT IV} {S:IS} {ds:List Nat} {q:CRes},qad P tt nm B nt cl lf round c fr S ds=some q->qad P tt nm B nt cl' lf round c fr S ds=some q:=by
 intro c;induction c with
 | skip=>intro fr S ds q hq;exact hq
 | label l=>intro fr S ds q hq;exact hq
 | exit id=>intro fr S ds q hq;exact hq
 | goto l=>intro fr S ds q hq;exact hq
 | ret=>intro fr S ds q hq;exact hq
 | refuse _=>intro fr S ds q hq;exact hq
 | region id ops draw =>
  intro fr S ds q hq;simp only[qad] at hq ⊢;cases hx:qb7 nt (nm id) B fr S ds with
  | none=>rw[hx] at hq;cases hq
  | some x =>
   rw[hx] at hq;simp only at hq ⊢;cases draw with
   | true =>
    simp only[jaa] at hq ⊢;cases hn:iany P tt nt cl ops.toList x.fr x.S with
    | none=>rw[hn] at hq;cases hq
    | some r=>rw[hn] at hq;rw[zds h hn];exact hq
   | false =>
    simp only[jae] at hq ⊢;cases hn:iseq P tt nt cl ops.toList ops.toList x.fr x.S with
    | none=>rw[hn] at hq;cases hq
    | some r=>rw[hn] at hq;rw[qti h hn];exact hq
 | seq x y ihx ihy =>
  intro fr S ds q hq;simp only[qad] at hq ⊢;cases hn:qad P tt nm B nt cl lf round x fr S ds with
  | none=>rw[hn] at hq;cases hq
  | some r =>
   rw[hn] at hq;rw[ihx hn];simp only at hq ⊢;cases he:r.e<;>rw[he] at hq<;>simp only at hq ⊢<;>try exact hq
   cases hn2:qad P tt nm B nt cl lf round y r.fr r.S r.ds with
   | none=>rw[hn2] at hq;cases hq
   | some r2=>rw[hn2] at hq;rw[ihy hn2];exact hq
 | cond c x y ihx ihy =>
  intro fr S ds q hq;simp only[qad] at hq ⊢;cases hv:evo nt fr c with
  | none=>rw[hv] at hq;cases hq
  | some v =>
   rw[hv] at hq;cases v<;>simp only at hq ⊢<;>try (cases hq;done)
   rename_i b;cases b with
   | true=>exact ihx hq
   | false=>exact ihy hq
 | block id c ih =>
  intro fr S ds q hq;simp only[qad] at hq ⊢;cases hn:qad P tt nm B nt cl lf round c fr S ds with
  | none=>rw[hn] at hq;cases hq
  | some r=>rw[hn] at hq;rw[ih hn];exact hq
 | scope c ih =>
  intro fr S ds q hq;simp only[qad] at hq ⊢;cases hn:qad P tt nm B nt cl lf round c fr S ds with
  | none=>rw[hn] at hq;cases hq
  | some r=>rw[hn] at hq;rw[ih hn];exact hq
 | loop c ih =>
  intro fr S ds q hq;simp only[qad] at hq ⊢;cases hm:qdh nm c with
  | some m =>
   rw[hm] at hq;simp only at hq ⊢;obtain⟨q0,hq0,rfl⟩:=qes hq;have key:∀n fr S ds q,qbt (qad P tt nm B nt cl lf round c) m.1 m.2 n fr S ds=some q->qbt (qad P tt nm B nt cl' lf round c) m.1 m.2 n fr S ds=some q:=by
    intro n;induction n with
    | zero=>intro fr S ds q hq;exact hq
    | succ n ihn =>
     intro fr S ds q hq;unfold qbt at hq ⊢;cases hn:qad P tt nm B nt cl lf round c fr S ds with
     | none=>rw[hn] at hq;cases hq
     | some r =>
      rw[hn] at hq;rw[ih hn];simp only at hq ⊢;cases hb:(subm r.rd m.1&&subm r.wr m.2) with
      | false=>rw[hb] at hq;cases hq
      | true =>
       rw[hb,jaa] at hq;rw[jaa];cases he:r.e<;>rw[he] at hq<;>simp only at hq ⊢<;>first|exact ihn _ _ _ _ hq|exact hq
   rw[key _ _ _ _ _ hq0];rfl
  | none =>
   rw[hm] at hq;simp only at hq ⊢;have key:∀n fr S ds q,qc8 (qad P tt nm B nt cl lf round c) n fr S ds=some q->qc8 (qad P tt nm B nt cl' lf round c) n fr S ds=some q:=by
    intro n;induction n with
    | zero=>intro fr S ds q hq;exact hq
    | succ n ihn =>
     intro fr S ds q hq;unfold qc8 at hq ⊢;cases hn:qad P tt nm B nt cl lf round c fr S ds with
     | none=>rw[hn] at hq;cases hq
     | some r =>
      rw[hn] at hq;rw[ih hn];simp only at hq ⊢;cases he:r.e<;>rw[he] at hq<;>simp only at hq ⊢<;>try exact hq
      cases hn2:qc8 (qad P tt nm B nt cl lf round c) n r.fr r.S r.ds with
      | none=>rw[hn2] at hq;cases hq
      | some r2=>rw[hn2] at hq;rw[ihn _ _ _ _ hn2];exact hq
   exact key _ _ _ _ _ hq
 | rangeFunc g ps assign body ih1 ih2 =>
  intro fr S ds q hq;simp only[qad] at hq ⊢;obtain⟨q0,hq0,rfl⟩:=qes hq;cases hv:evo nt fr g with
  | none=>rw[hv] at hq0;cases hq0
  | some v =>
   rw[hv] at hq0;cases v<;>simp only at hq0 ⊢<;>try (cases hq0;done)
   cases round with
   | none=>simp only at hq0 ⊢;rw[q62 h hq0];rfl
   | some l =>
    simp only at hq0 ⊢;cases ho:S.heap.get l with
    | none=>rw[ho] at hq0;cases hq0
    | some o =>
     rw[ho] at hq0;cases o<;>simp only at hq0 ⊢<;>try (cases hq0;done)
     rw[q62 h hq0];rfl
end

def sixO(p:Nat->Int->Option Bool)(s:ByteArray)(b:Bool):Nat->Nat->Option Int
 | 0,_=>none
 | n+1,i=>cond (Nat.blt i s.size) (match p (i+(Utf8.decode s i).2) (Int.ofNat (Utf8.decode s i).1) with
  | none=>none
  | some a=>cond (decide (a=b)) (some (Int.ofNat i)) (sixO p s b n (i+(Utf8.decode s i).2))) (some (-1))
def sixF(cl:Cl)(vs:List IV)(S:IS):Option Res:=match vs with
 | [.str s,.fn g caps,.bool b]=>match sixO (fun q x=>ob (cl (.fn g) (.int .i32 x::caps) (S.new (.iter s q))) (ansB (below S.next))) s b (s.size+1) 0 with
  | none=>none
  | some i=>some ⟨.int .i64 i,S,below S.next,0⟩
 | _=>none
def sixK(clP:ClP)(R:Type)(vs:List IV)(S:IS)(kk:Res->Option R):Option R:=match vs with
 | [.str s,.fn g caps,.bool b]=>match sixO (fun q x=>clP Bool (.fn g) (.int .i32 x::caps) (S.new (.iter s q)) (ansB (below S.next))) s b (s.size+1) 0 with
  | none=>none
  | some i=>kk ⟨.int .i64 i,S,below S.next,0⟩
 | _=>none
theorem zry(cl:Cl)(clP:ClP)(h:∀R,ClEq cl (clP R))(R:Type)(vs:List IV)(S:IS)(kk:Res->Option R):sixK clP R vs S kk=ob (sixF cl vs S) kk:=by
 unfold sixK sixF;split
 ·rename_i s g caps b;simp only[h Bool _ _ _ _];cases sixO (fun q x=>ob (cl (.fn g) (.int .i32 x::caps) (S.new (.iter s q))) (ansB (below S.next))) s b (s.size+1) 0<;>rfl
 ·rfl
def zl9:Hx:=⟨sixF,sixK,zry⟩
theorem qvn{cl:Cl}{vs:List IV}{S:IS}{r:Res}(h:sixF cl vs S=some r):∃s g caps b i,vs=[.str s,.fn g caps,.bool b]/\sixO (fun q x=>ob (cl (.fn g) (.int .i32 x::caps) (S.new (.iter s q))) (ansB (below S.next))) s b (s.size+1) 0=some i/\r=⟨.int .i64 i,S,below S.next,0⟩:=by
 unfold sixF at h;split at h
 ·rename_i s g caps b;split at h<;>cases h;rename_i i hi;exact⟨_,_,_,_,_,rfl,hi,rfl⟩
 ·cases h
def nmS(mr mw:Nat):Nat->Option Nm:=fun j=>cond (Nat.beq j 2) (some ⟨[1,2,10],[],[],[],[],mr,mw,true⟩) none
theorem mB_S(mr mw B:Nat):mB (nmS mr mw) B=B:=rfl
def frS(g:Nat)(caps:List IV)(b:Bool)(id:Nat):PT IV:=((PT.leaf.set (.fn g caps) 1).set (.bool b) 2).set (.ptr id 0) 10
def clT(test:Tgt->List IV->IS->Bool)(c:Res):Cl:=fun t vs S=>cond (test t vs S) (some c) none
structure SixFacts (P:Program) (tt:Nat->Option TI) (fi:FI) (A B L C:Code):Prop where
 body:fi.body=.seq A (.seq (.seq B (.block 0 (.loop L))) C)
 three:Nat.ble 3 fi.nt=true
 head:∀mr mw,okC (nmS mr mw) (fun k=>Nat.beq k 2) (fun k=>Nat.beq k 2) L (some 2)=true
 ab:∀(R:Type) (clK:ClK R) (B0 mr mw lf:Nat) (s:ByteArray) (g:Nat) (caps:List IV) (b:Bool) (S:IS) (kk:_->Option R),qar P tt (nmS mr mw) B0 fi.nt clK lf none (.seq A B) (qaq [.str s,.fn g caps,.bool b] 0 .leaf) S [] (fun r=>kk (tup [1,2,10] r)) =
  kk (.normal,[.fn g caps,.bool b,.ptr S.next 0],S.new (.iter s 0),[],(mb B0 0).lor (mb B0 0),(mb B0 0).lor (mb B0 0))
 l:∀(R:Type) (B0 mr mw lf:Nat) (g:Nat) (caps:List IV) (b a:Bool) (id rd:Nat) (S S':IS) (test:Tgt->List IV->IS->Bool) (kk:_->Option R),qar P tt (nmS mr mw) B0 fi.nt (fun t vs S kk=>cond (test t vs S) (kk ⟨.bool a,S',rd,0⟩) none) lf none L (frS g caps b id) S [] (fun r=>kk (tup [1,2,6,10] r)) =
  match S.heap.get id with
  | some (.iter s p)=>cond (Nat.blt p s.size)
   (cond (test (.fn g) (.int .i32 (Int.ofNat (Utf8.decode s p).1)::caps) (S.set id (.iter s (p+(Utf8.decode s p).2))))
    (cond (decide (a=b))
     (kk (.ret,[.fn g caps,.bool b,.int .i64 (Int.ofNat p),.ptr id 0],S',[],(mb B0 0).lor (Nat.lor 0 ((mb B0 0).lor ((mb B0 (Nat.lor 0 (Nat.lor 0 (rd.lor 0)))).lor ((mb B0 0).lor 0)))),
      (mb B0 (Nat.lor 0 ((Nat.pow 2 id).lor 0))).lor (Nat.lor 0 ((mb B0 0).lor ((mb B0 0).lor ((mb B0 0).lor 0))))))
     (kk (.normal,[.fn g caps,.bool b,.unk,.ptr id 0],S',[],(mb B0 0).lor (Nat.lor 0 ((mb B0 0).lor ((mb B0 (Nat.lor 0 (Nat.lor 0 (rd.lor 0)))).lor 0))),
      (mb B0 (Nat.lor 0 ((Nat.pow 2 id).lor 0))).lor (Nat.lor 0 ((mb B0 0).lor ((mb B0 0).lor 0))))))
    none)
   (kk (.exit 0,[.fn g caps,.bool b,.unk,.ptr id 0],S,[],(mb B0 ((Nat.pow 2 id).lor 0)).lor 0,(mb B0 0).lor 0))
  | _=>none
 e:∀(R:Type) (clK:ClK R) (B0 mr mw lf:Nat) (fr:PT IV) (S:IS) (kk:CRes->Option R),qar P tt (nmS mr mw) B0 fi.nt clK lf none C fr S [] kk=kk ⟨.ret,fr.set (.int .i64 (-1)) 6,S,[],(mb B0 0).lor 0,(mb B0 0).lor 0⟩
 res:fi.res=[.tmp 6]
 nt6:Nat.blt 6 fi.nt=true
 lm:∀mr mw,qdh (nmS mr mw) L=some (mr,mw)
theorem PT.one_set{α:Type u}(x y:α):∀(f n:Nat),n<=f->(PT.one x f n).set y n=PT.one y f n
 | 0,n,h=>by
  obtain rfl:n=0:=by omega
  rfl
 | f+1,n,h=>by
  by_cases hn:n=0
  ·subst hn;rfl
  ·by_cases h2:n % 2=1
   ·simp only[PT.one,qa4 hn,jae,qcx h2,jaa,PT.set];rw[PT.one_set x y f _ (by omega)]
   ·simp only[PT.one,qa4 hn,jae,qa4 h2,PT.set];rw[PT.one_set x y f _ (by omega)]
theorem PT.set_set{α:Type u}(x y:α):∀(t:PT α) (n:Nat),(t.set x n).set y n=t.set y n
 | .leaf,n=>PT.one_set x y n n (jar _)
 | .node v l r,n=>by
  by_cases hn:n=0
  ·subst hn;rfl
  ·by_cases h2:n % 2=1
   ·simp only[PT.set,qa4 hn,jae,qcx h2,jaa];rw[PT.set_set x y l]
   ·simp only[PT.set,qa4 hn,jae,qa4 h2];rw[PT.set_set x y r]
theorem IS.new_set(S:IS)(o o':IObj):(S.new o).set S.next o'=S.new o':=by
 unfold IS.new IS.set;simp only[PT.set_set]
theorem IS.new_get(S:IS)(o:IObj):(S.new o).heap.get S.next=some o:=by
 unfold IS.new;simp only[PT.get_set,jck]
theorem q5k{a m:Nat}:subm a m=true↔∀j,a.testBit j=true->m.testBit j=true:=by
 constructor
 ·intro h j hj;exact qvq (T:=fun j=>m.testBit j=true) h (fun j hj=>hj) j hj
 ·intro h;unfold subm;have:a ||| m=m:=jdy fun j=>by
   rw[jbt];cases ha:a.testBit j with
   | false=>rfl
   | true=>rw[h j ha];rfl
  rw[this];exact jb6 m
theorem q17(n j:Nat):(below n).testBit j=decide (j<n):=by unfold below;exact jc9 ..
theorem q8c{P:Program}{tt:Nat->Option TI}{fi:FI}{f:Nat}{nm:Nat->Option Nm}{lf:Nat}{cl:Cl}{vs:List IV}{S S1:IS}{fr:PT IV}{e:IEx}{rd wr:Nat}{k:IntKind}{i:Int}{t:Nat}(hz:frzF nm=false)(hm:P.follows .mixedOrders=true)(htt:TT P tt)(hfi:FIok P f fi)(hcl:ClOK P cl)(hfr:ClFr cl)
  (hb:Nat.ble vs.length fi.nt=true) (hr:qad P tt nm S.next fi.nt cl lf none fi.body (qaq vs 0 .leaf) S []=some ⟨e,fr,S1,[],rd,wr⟩) (hw:wr % 2 ^ S.next=0) (he:e.leaves=true) (hres:fi.res=[.tmp t]) (hnt:Nat.blt t fi.nt=true) (hs:slot fr t=.int k i)
  {T:TW} {E:Env} {us:List Value} (p:Pre T E S) (hrd:tin T.r (below S.next)) (hv:VRs E vs us) (hnp:e.isPan=false:=by rfl):qai P f/\CallsIn Fence.wide 0 P f us.toArray E.w (RetE T E S ⟨.int k i,S,below S.next,0⟩):=by
 refine(fun x=>⟨x.1,x.2.mono fun _ _ h=>RetX.val h rfl⟩) <| qtv (fi:=fi) (r:=⟨.int k i,S,(rd ||| 0) % 2 ^ S.next,0⟩) hz hm htt hfi hcl hfr hb hr he ?_ p (q40 hrd) (fun j hj=>by simp at hj) hv;have e1:qeg ([]:List Nat) S1=some (S1,0):=rfl;simp only[qdw,e1,hres,ires,hnt,jaa,hs];cases e<;>first|(cases hnp;done)|skip
 all_goals simp only[tupI,igc,low2,low0,jd5,hw,jb6,jcx,jaa]
variable {P : Program} {tt : Nat -> Option TI} {fi : FI} {A B L C : Code}
theorem ziz(F:SixFacts P tt fi A B L C){cl:Cl}(hcalm:Calm cl){s:ByteArray}{b:Bool}{g:Nat}{caps:List IV}{S:IS}{i:Int}{lf:Nat}:∀(fuel p:Nat) (fr:PT IV),(slot fr 1=.fn g caps/\slot fr 2=.bool b/\slot fr 10=.ptr S.next 0) ->
  sixO (fun q x=>ob (cl (.fn g) (.int .i32 x::caps) (S.new (.iter s q))) (ansB (below S.next))) s b fuel p=some i ->
  ∃r,qbt (qad P tt (nmS (below (S.next+1)) (2 ^ S.next)) S.next fi.nt cl lf none L) (below (S.next+1)) (2 ^ S.next) fuel fr (S.new (.iter s p)) []=some r/\r.ds=[]/\r.rd=below (S.next+1)/\r.wr=2 ^ S.next/\((r.e=.ret/\slot r.fr 6=.int .i64 i)\/(r.e=.exit 0/\i=-1)):=by
 intro fuel;induction fuel with
 | zero=>intro p fr hs hi;cases hi
 | succ n ih =>
  intro p fr hs hi;have e1:=fun cl=>qiy (P:=P) (tt:=tt) (B:=S.next) (nt:=fi.nt) (lf:=lf) (cl:=cl) (h:=2) (m:=⟨[1,2,10],[],[],[],[],below (S.next+1),2 ^ S.next,true⟩) rfl rfl (fr:=fr) (fr':=frS g caps b S.next) (by
   intro t ht;simp only[ja0,jdc,je9] at ht;rcases ht with rfl|rfl|rfl
   ·exact hs.1
   ·exact hs.2.1
   ·exact hs.2.2) (c:=L) (S:=S.new (.iter s p)) (ds:=[]) (F.head _ _)
  have hb1:∀x,subm x (below S.next)=true->subm (mb S.next x) (below (S.next+1))=true:=fun x hx=>qo6 (by
   rw[q5k] at hx ⊢;intro j hj;have:=hx j hj;rw[q17] at this ⊢;simp only[jbc] at this ⊢;omega)
  have hb2:subm (mb S.next (2 ^ S.next)) (2 ^ S.next)=true:=qo6 (zl5 _);have hb3:subm (mb S.next (2 ^ S.next)) (below (S.next+1))=true:=qo6 (by
   rw[q5k];intro j hj;rw[Nat.testBit_two_pow] at hj;rw[q17];simp only[jbc] at hj ⊢;omega)
  have hpw:Nat.pow 2 S.next=2 ^ S.next:=rfl
  unfold sixO at hi;cases hlt:Nat.blt p s.size with
  | false =>
   rw[hlt,jae] at hi;cases hi;have e2:=F.l (IEx × List IV × IS × List Nat × Nat × Nat) S.next (below (S.next+1)) (2 ^ S.next) lf g caps b false S.next 0 (S.new (.iter s p)) S (fun _ _ _=>false) some
   rw[IS.new_get] at e2;simp only[hlt,jae,qfy,qf5,qxq] at e2;have ec:(fun(t:Tgt) (vs:List IV) (S:IS) (kk:Res->Option (IEx × List IV × IS × List Nat × Nat × Nat))=>(none:Option (IEx × List IV × IS × List Nat × Nat × Nat)))=fun t vs S kk=>ob ((fun _ _ _=>none:Cl) t vs S) kk:=rfl;rw[ec] at e2;obtain⟨r,hr,ht⟩:=qgv e2;have hr:=qto (cl':=cl) (fun t vs S r h=>by cases h) _ hr;simp only[tup,jch] at ht;obtain⟨t1,t2,t3,t4,t5,t6⟩:=ht;refine⟨⟨.exit 0,r.fr,S.new (.iter s p),[],below (S.next+1),2 ^ S.next⟩,?_,rfl,rfl,rfl,.inr ⟨rfl,rfl⟩⟩;unfold qbt;rw[e1 cl];have hr':qad P tt (nmS (below (S.next+1)) (2 ^ S.next)) S.next fi.nt cl lf none L (frS g caps b S.next) (S.new (.iter s p)) []=some r:=hr
   simp only[hr',t5,t6,hpw,hb3,qjt,jcx,jaa,t1,t3,t4]
  | true =>
   rw[hlt,jaa] at hi;cases hc:cl (.fn g) (.int .i32 (Int.ofNat (Utf8.decode s p).1)::caps) (S.new (.iter s (p+(Utf8.decode s p).2))) with
   | none=>rw[hc] at hi;cases hi
   | some r0 =>
   rw[hc] at hi;simp only[ob] at hi;obtain⟨v0,S0',rd0,wr0⟩:=r0;cases v0<;>simp only[ansB] at hi<;>try (cases hi;done)
   rename_i a;cases hmk:(Nat.beq wr0 0&&subm rd0 (below S.next)) with
   | false=>rw[hmk] at hi;cases hi
   | true =>
   rw[hmk] at hi;simp only[jaf] at hmk;have hw0:wr0=0:=jah hmk.1;subst hw0;have hS:S0'=S.new (.iter s (p+(Utf8.decode s p).2)):=hcalm _ _ _ _ hc rfl rfl;subst hS;simp only[jaa] at hi;have hsm:=hb1 _ hmk.2
   let c0:Res:=⟨.bool a,S.new (.iter s (p+(Utf8.decode s p).2)),rd0,0⟩
   let test:Tgt->List IV->IS->Bool:=fun t vs S=>@decide (cl t vs S=some c0) (Classical.propDecidable _)
   have hle:ClLe (clT test c0) cl:=fun t vs S r h=>by
    unfold clT at h;cases ht:test t vs S with
    | false=>rw[ht] at h;cases h
    | true =>
     rw[ht] at h;cases h;exact @of_decide_eq_true _ (Classical.propDecidable _) ht
   have e2:=F.l (IEx × List IV × IS × List Nat × Nat × Nat) S.next (below (S.next+1)) (2 ^ S.next) lf g caps b a S.next rd0 (S.new (.iter s p)) (S.new (.iter s (p+(Utf8.decode s p).2))) test some
   rw[IS.new_get] at e2;have htest:test (.fn g) (.int .i32 (Int.ofNat (Utf8.decode s p).1)::caps) ((S.new (.iter s p)).set S.next (.iter s (p+(Utf8.decode s p).2)))=true:=by
    rw[IS.new_set];exact @decide_eq_true _ (Classical.propDecidable _) hc
   simp only[hlt,htest,jaa,qfy,qf5,qxq] at e2;cases hab:decide (a=b) with
   | true =>
    rw[hab,jaa] at e2 hi;cases hi;have ec:(fun(t:Tgt) (vs:List IV) (S:IS) (kk:Res->Option (IEx × List IV × IS × List Nat × Nat × Nat))=>cond (test t vs S) (kk c0) none)=fun t vs S kk=>ob (clT test c0 t vs S) kk:=by
     funext t vs S kk;unfold clT;cases test t vs S<;>rfl
    rw[ec] at e2;obtain⟨r,hr,ht⟩:=qgv e2;have hr:=qto hle _ hr;simp only[tup,jch,jbw,jc3] at ht;obtain⟨t1,t2,t3,t4,t5,t6⟩:=ht;refine⟨⟨.ret,r.fr,S.new (.iter s (p+(Utf8.decode s p).2)),[],below (S.next+1),2 ^ S.next⟩,?_,rfl,rfl,rfl,.inl ⟨rfl,t2.2.2.1⟩⟩;unfold qbt;rw[e1 cl];have hr':qad P tt (nmS (below (S.next+1)) (2 ^ S.next)) S.next fi.nt cl lf none L (frS g caps b S.next) (S.new (.iter s p)) []=some r:=hr
    simp only[hr',t5,t6,hpw,hsm,hb2,jcx,jaa,t1,t3,t4]
   | false =>
    rw[hab,jae] at e2 hi;have ec:(fun(t:Tgt) (vs:List IV) (S:IS) (kk:Res->Option (IEx × List IV × IS × List Nat × Nat × Nat))=>cond (test t vs S) (kk c0) none)=fun t vs S kk=>ob (clT test c0 t vs S) kk:=by
     funext t vs S kk;unfold clT;cases test t vs S<;>rfl
    rw[ec] at e2;obtain⟨r,hr,ht⟩:=qgv e2;have hr:=qto hle _ hr;simp only[tup,jch,jbw,jc3] at ht;obtain⟨t1,t2,t3,t4,t5,t6⟩:=ht;obtain⟨q,q1,q2⟩:=ih (p+(Utf8.decode s p).2) r.fr ⟨t2.1,t2.2.1,t2.2.2.2.1⟩ hi;refine⟨q,?_,q2⟩;unfold qbt;rw[e1 cl];have hr':qad P tt (nmS (below (S.next+1)) (2 ^ S.next)) S.next fi.nt cl lf none L (frS g caps b S.next) (S.new (.iter s p)) []=some r:=hr
    simp only[hr',t5,t6,hpw,hsm,hb2,jcx,jaa,t1,t3,t4];exact q1
theorem qy4(n:Nat):mb n (2 ^ n) % 2 ^ n=0:=by
 unfold mb;cases Nat.beq n 0
 ·exact Nat.mod_self _
 ·exact Nat.zero_mod _
theorem zgt{f:Nat}(F:SixFacts P tt fi A B L C)(hm:P.follows .mixedOrders=true)(htt:TT P tt)(hfi:FIok P f fi):HxOK P f sixF:=by
 refine HxOK.of (fun cl hcl hfr hcalm vs S r h T E us p hrd hwr hv=>?_) (fun cl hfr vs S r h=>?_) (fun cl hcalm vs S r h _ _=>?_)
 ·obtain⟨s,g,caps,b,i,rfl,hi,rfl⟩:=qvn h;obtain⟨ra,hra,hta⟩:=qgv (cl:=cl) (F.ab (IEx × List IV × IS × List Nat × Nat × Nat) (fun t vs S kk=>ob (cl t vs S) kk) S.next (below (S.next+1)) (2 ^ S.next) (s.size+1) s g caps b S some);obtain⟨rae,rafr,raS,rads,rard,rawr⟩:=ra;simp only[tup,jch,jbw,List.map_nil,jc3,qfy,qf5] at hta;obtain⟨rfl,⟨s1,s2,s3,_⟩,rfl,rfl,rfl,rfl⟩:=hta;obtain⟨r,hr,hds,hrd2,hwr2,hcase⟩:=ziz F hcalm (lf:=s.size+1) (s.size+1) 0 rafr ⟨s1,s2,s3⟩ hi;obtain⟨re,rfr,rS,rds,rrd,rwr⟩:=r;simp only at hds hrd2 hwr2 hcase;subst hds;subst hrd2;subst hwr2;simp only[qad] at hra;cases hA:qad P tt (nmS (below (S.next+1)) (2 ^ S.next)) S.next fi.nt cl (s.size+1) none A (qaq [.str s,.fn g caps,.bool b] 0 .leaf) S [] with
  | none=>rw[hA] at hra;cases hra
  | some qa =>
  rw[hA] at hra;simp only at hra;obtain⟨qe,qfr,qS,qds,qrd,qwr⟩:=qa;cases qe<;>simp only at hra<;>try (cases hra;done)
  cases hB:qad P tt (nmS (below (S.next+1)) (2 ^ S.next)) S.next fi.nt cl (s.size+1) none B qfr qS qds with
  | none=>rw[hB] at hra;cases hra
  | some qb =>
  rw[hB] at hra;obtain⟨be,bfr,bS,bds,brd,bwr⟩:=qb;simp only[CRes.or,jaw,CRes.mk.injEq] at hra;obtain⟨rfl,rfl,rfl,rfl,h5,h6⟩:=hra;obtain⟨z1,z2⟩:qwr=0/\bwr=0:=by
   constructor
   ·exact jdy fun j=>by have:=jca (fun x=>x.testBit j) h6;simp [jbt] at this;simp [this.1]
   ·exact jdy fun j=>by have:=jca (fun x=>x.testBit j) h6;simp [jbt] at this;simp [this.2]
  subst z1;subst z2;rcases hcase with ⟨he,hs⟩|⟨he,hi2⟩
  ·subst he;refine q8c (vs:=[.str s,.fn g caps,.bool b]) (nm:=nmS (below (S.next+1)) (2 ^ S.next)) (lf:=s.size+1) (fr:=rfr) (e:=.ret) (k:=.i64) (i:=i) (t:=6) (S1:=rS) (rd:=qrd ||| (brd ||| mb S.next (below (S.next+1)))) (wr:=mb S.next (2 ^ S.next)) rfl hm htt hfi hcl hfr F.three ?_ (qy4 _) rfl F.res F.nt6 hs p hrd hv;rw[F.body];simp only[qad,hA,hB,F.lm,hr,mbO,mbR,mB_S,CRes.or,jdo]
  ·subst he;subst hi2;have hc:=runK (F.e CRes (fun t vs S kk=>ob (cl t vs S) kk) S.next (below (S.next+1)) (2 ^ S.next) (s.size+1) rfr rS some);refine q8c (vs:=[.str s,.fn g caps,.bool b]) (nm:=nmS (below (S.next+1)) (2 ^ S.next)) (lf:=s.size+1) (fr:=rfr.set (.int .i64 (-1)) 6) (e:=.ret) (k:=.i64) (i:=-1) (t:=6) (S1:=rS) (rd:=qrd ||| ((brd ||| mb S.next (below (S.next+1))) ||| 0)) (wr:=mb S.next (2 ^ S.next)) rfl hm htt hfi hcl hfr F.three ?_ (qy4 _) rfl F.res F.nt6 (by rw[qdf,jam rfl]) p hrd hv;rw[F.body];simp only[qad,hA,hB,F.lm,hr,mbO,mbR,mB_S,qfy,CRes.or,jdo,jb6,jaa,hc,qf5,jd5]
 ·obtain⟨_,_,_,_,_,_,_,rfl⟩:=qvn h;exact FrO.same _ rfl
 ·obtain⟨_,_,_,_,_,_,_,rfl⟩:=qvn h;rfl
end Go.Jx
end

noncomputable section
set_option maxRecDepth 100000
namespace Go.Proofs.Ytcnhjofpmpipfaa
open Go Go.Sx Go.RowKit Go.Jx
theorem zei:IdxFacts Try.prog ttT.get cForm qs3 (cL qjm) (cL (cL (cR qjm))) (cB (cB (cR (cL (cR qjm))))) (cR (cR qjm)) :=
 ⟨by kernel_rfl,by kernel_rfl,fun mr=>by kernel_rfl,fun R clK B0 mr lf l g caps S kk=>by kernel_rfl,fun R clK B0 mr lf l g caps S kk=>by kernel_rfl,fun R clK B0 mr lf l g caps S i kk=>by kernel_rfl,fun R clK B0 mr lf fr S kk=>by kernel_rfl,by kernel_rfl,by kernel_rfl,fun mr=>by kernel_rfl⟩
theorem zt9:HxOK Try.prog 125 (idxF cForm):=qon zei qcq ttOK q6d
theorem zpn:IdxFacts Try.prog ttT.get qah qul (cL qk2) (cL (cL (cR qk2))) (cB (cB (cR (cL (cR qk2))))) (cR (cR qk2)) :=
 ⟨by kernel_rfl,by kernel_rfl,fun mr=>by kernel_rfl,fun R clK B0 mr lf l g caps S kk=>by kernel_rfl,fun R clK B0 mr lf l g caps S kk=>by kernel_rfl,fun R clK B0 mr lf l g caps S i kk=>by kernel_rfl,fun R clK B0 mr lf fr S kk=>by kernel_rfl,by kernel_rfl,by kernel_rfl,fun mr=>by kernel_rfl⟩
theorem zt4:HxOK Try.prog 135 (idxF qah):=qon zpn qcq ttOK q2x
theorem zl4:IdxFacts Try.prog ttT.get cVal qtr (cL qjl) (cL (cL (cR qjl))) (cB (cB (cR (cL (cR qjl))))) (cR (cR qjl)) :=
 ⟨by kernel_rfl,by kernel_rfl,fun mr=>by kernel_rfl,fun R clK B0 mr lf l g caps S kk=>by kernel_rfl,fun R clK B0 mr lf l g caps S kk=>by kernel_rfl,fun R clK B0 mr lf l g caps S i kk=>by kernel_rfl,fun R clK B0 mr lf fr S kk=>by kernel_rfl,by kernel_rfl,by kernel_rfl,fun mr=>by kernel_rfl⟩
theorem zpr:HxOK Try.prog 137 (idxF cVal):=qon zl4 qcq ttOK q4c
theorem zqf:SixFacts Try.prog ttT.get qum (cL qmb) (cL (cL (cR qmb))) (cB (cB (cR (cL (cR qmb))))) (cR (cR qmb)) :=
 ⟨by kernel_rfl,by kernel_rfl,fun mr mw=>by kernel_rfl,fun R clK B0 mr mw lf s g caps b S kk=>by kernel_rfl,fun R B0 mr mw lf g caps b a id rd S S' test kk=>by kernel_rfl,fun R clK B0 mr mw lf fr S kk=>by kernel_rfl,by kernel_rfl,by kernel_rfl,fun mr mw=>by kernel_rfl⟩
theorem zrp:HxOK Try.prog 143 sixF:=zgt zqf qcq ttOK q8l
theorem zj2:IdxFacts Try.prog ttT.get cCol qsx (cL qlu) (cL (cL (cR qlu))) (cB (cB (cR (cL (cR qlu))))) (cR (cR qlu)) :=
 ⟨by kernel_rfl,by kernel_rfl,fun mr=>by kernel_rfl,fun R clK B0 mr lf l g caps S kk=>by kernel_rfl,fun R clK B0 mr lf l g caps S kk=>by kernel_rfl,fun R clK B0 mr lf l g caps S i kk=>by kernel_rfl,fun R clK B0 mr lf fr S kk=>by kernel_rfl,by kernel_rfl,by kernel_rfl,fun mr=>by kernel_rfl⟩
theorem zni:HxOK Try.prog 144 (idxF cCol):=qon zj2 qcq ttOK q5n
end Go.Proofs.Ytcnhjofpmpipfaa
end

section
namespace Go.Jx
open Go Go.Sx Go.RowKit
universe u

theorem qdl{α:Type}(b:Bool)(x y:α):cond b x y=if b=true then x else y:=by cases b<;>rfl
theorem oL:Int.ofNat 0=0/\Int.ofNat 1=1/\Int.ofNat 2=2/\Int.ofNat 3=3/\Int.ofNat 4=4/\Int.ofNat 5=5/\Int.ofNat 6=6/\Int.ofNat 7=7/\Int.ofNat 8=8/\Int.ofNat 9=9/\Int.ofNat 10=10/\Int.ofNat 12=12/\Int.ofNat 16=16/\Int.ofNat 20=20/\Int.ofNat 24=24/\Int.ofNat 30=30/\Int.ofNat 31=31/\Int.ofNat 40=40/\Int.ofNat 45=45/\Int.ofNat 48=48/\Int.ofNat 57=57/\Int.ofNat 60=60/\Int.ofNat 64=64/\Int.ofNat 65=65/\Int.ofNat 70=70/\Int.ofNat 90=90/\Int.ofNat 95=95/\Int.ofNat 97=97/\Int.ofNat 100=100/\Int.ofNat 122=122/\Int.ofNat 127=127/\Int.ofNat 128=128/\Int.ofNat 200=200/\Int.ofNat 256=256/\Int.ofNat 400=400/\Int.ofNat 410=410/\Int.ofNat 1500=1500/\Int.ofNat 60000=60000/\Int.ofNat 60010=60010/\Int.ofNat 65536=65536/\Int.ofNat 16777216=16777216/\Int.ofNat 2147483647=2147483647/\Int.ofNat 1099511627776=1099511627776 :=
 ⟨rfl,rfl,rfl,rfl,rfl,rfl,rfl,rfl,rfl,rfl,rfl,rfl,rfl,rfl,rfl,rfl,rfl,rfl,rfl,rfl,rfl,rfl,rfl,rfl,rfl,rfl,rfl,rfl,rfl,rfl,rfl,rfl,rfl,rfl,rfl,rfl,rfl,rfl,rfl,rfl,rfl,rfl,rfl⟩
theorem oLn:Int.negSucc 0=-1/\Int.negSucc 1099511627775=-1099511627776:=⟨rfl,rfl⟩
theorem qcz{α:Type}{l:List α}{i:Nat}:jget l (Int.ofNat i)=l[i]?:=by unfold jget;rw[jam (by simp)];simp
theorem qd1{α:Type}{l:List α}{i:Int}(h0:0<=i)(h1:i<l.length):∃x,jget l i=some x/\l[i.toNat]?=some x/\x∈l:=by
 have h2:i.toNat<l.length:=by omega
 refine⟨l[i.toNat],?_,jab h2,jaz h2⟩;unfold jget;rw[jam h0,jab h2]
theorem qky:∀c:TC,1<=bsz c
 | .int k=>by cases k<;>simp [bsz]
 | .bool=>by simp[bsz]
 | .str=>by simp[bsz]
 | .list _=>by simp[bsz]
 | .two a b=>by have:=qky a;simp only[bsz];omega
def LF:Nat:=9223372036854775808
theorem qbu{c:TC}{l:El (.list c)}(h:WfE (.list c) l):List.length (α:=El c) l<LF:=by
 have h1:=h.1;have h2:=qky c;have:List.length (α:=El c) l*1<=List.length (α:=El c) l*bsz c:=jcp _ h2;unfold LF;omega
theorem zc4{c:TC}{l:El (.list c)}(h:WfE (.list c) l){x:El c}(hx:List.Mem (α:=El c) x l):WfE c x:=h.2 x hx
theorem q43{n:Nat}(h:n+1<LF):IntKind.i64.wrap (Int.add (Int.ofNat n) (Int.ofNat 1))=Int.ofNat (n+1):=by
 unfold LF at h;rw[show Int.add (Int.ofNat n) (Int.ofNat 1)=Int.ofNat (n+1) from rfl];exact qma (by simp;omega)
structure Rnd {α:Type} (l:List α) (i:Nat) (v:α) (rest:List α):Prop where
 drop:l.drop i=v::rest
 mem:v∈l
 lt:i<l.length
 ilt:iltI (Int.ofNat i) (Int.ofNat l.length)=true
 get:jget l (Int.ofNat i)=some v
 get?:l[i]?=some v
 next:IntKind.i64.wrap (Int.add (Int.ofNat i) (Int.ofNat 1))=Int.ofNat (i+1)
 tail:l.drop (i+1)=rest
 take:l.take (i+1)=l.take i++[v]
theorem qbd(n:Nat):iltI (Int.ofNat n) (Int.ofNat n)=false:=by rw[qan];simp
theorem zg6{α:Type}{l:List α}{i:Nat}(h:i<l.length)(hl:l.length<LF):∃v rest,Rnd l i v rest:=by
 refine⟨l[i],l.drop (i+1),jbs h,jaz h,h,by rw[qan];simp;omega,?_,jab h,q43 (by omega),rfl,?_⟩
 ·rw[qcz];exact jab h
 ·rw[List.take_succ_eq_append_getElem h]
theorem q00{α σ A R:Type}{T:(A->Option R)->A->Option R}(l:List α)(mk:Int->σ->A)(I:Nat->σ->Prop)(g:List α->Nat->σ->Option R)(hl:l.length<LF)
  (hnil:∀K s,I l.length s->T K (mk (Int.ofNat l.length) s)=g [] l.length s)
  (hcons:∀K i v rest s,I i s->Rnd l i v rest->(∀s',I (i+1) s'->K (mk (Int.ofNat (i+1)) s')=g rest (i+1) s')->T K (mk (Int.ofNat i) s)=g (v::rest) i s) :
  ∀n i s,i<=l.length->I i s->l.length-i<n->rounds T n (mk (Int.ofNat i) s)=g (l.drop i) i s
 | 0,i,s,_,_,h=>by omega
 | n+1,i,s,hi,hI,h=>by
  show T (rounds T n) (mk (Int.ofNat i) s)=_;by_cases e:i=l.length
  ·subst e;rw[hnil _ _ hI,jd3]
  ·obtain⟨v,rest,r⟩:=zg6 (l:=l) (i:=i) (by omega) hl;rw[hcons (rounds T n) i v rest s hI r fun s' hI'=>?_,r.drop];rw[q00 l mk I g hl hnil hcons n (i+1) s' (by have:=r.lt;omega) hI' (by omega),r.tail]
theorem range0{α σ A R:Type}{T:(A->Option R)->A->Option R}(l:List α)(mk:Int->σ->A)(I:Nat->σ->Prop)(g:List α->Nat->σ->Option R)(hl:l.length<LF)
  (hnil:∀K s,I l.length s->T K (mk (Int.ofNat l.length) s)=g [] l.length s)
  (hcons:∀K i v rest s,I i s->Rnd l i v rest->(∀s',I (i+1) s'->K (mk (Int.ofNat (i+1)) s')=g rest (i+1) s')->T K (mk (Int.ofNat i) s)=g (v::rest) i s)
  (s:σ) (hI:I 0 s):rounds T LF (mk (Int.ofNat 0) s)=g l 0 s:=by
 have:=q00 l mk I g hl hnil hcons LF 0 s (jbn _) hI (by omega)
 rwa [jcu] at this
theorem qcg{α R:Type}{T:(Int->Option R)->Int->Option R}(l:List α)(g:List α->Nat->Option R)(hl:l.length<LF)
  (hnil:∀K,T K (Int.ofNat l.length)=g [] l.length)
  (hcons:∀K i v rest,Rnd l i v rest->K (Int.ofNat (i+1))=g rest (i+1)->T K (Int.ofNat i)=g (v::rest) i):rounds T LF (Int.ofNat 0)=g l 0 :=
 range0 (σ:=Unit) l (fun i _=>i) (fun _ _=>True) (fun rest i _=>g rest i) hl (fun K _ _=>hnil K) (fun K i v rest _ _ r h=>hcons K i v rest r (h () trivial)) () trivial
theorem qzf{p:Nat->Int->Option Bool}{q:Int->Bool}(hp:∀i r,p i r=some (q r))(s:ByteArray)(b:Bool):∀(n i:Nat),s.size-i<n->∃k,sixO p s b n i=some k
 | 0,i,h=>by omega
 | n+1,i,h=>by
  unfold sixO;cases hlt:Nat.blt i s.size with
  | false=>exact⟨_,rfl⟩
  | true =>
   have h1:i<s.size:=by simpa using hlt
   simp only[jaa,hp];cases decide (q (Int.ofNat (Utf8.decode s i).1)=b) with
   | true=>exact⟨_,rfl⟩
   | false =>
    rw[jae];have:=zsc s i;exact qzf hp s b n _ (by omega)
namespace S
def idx{α:Type}(p:α->Bool)(l:List α):Int:=match l.findIdx? p with
 | some j=>Int.ofNat j
 | none=>-1
theorem idx_nonneg{α:Type}(p:α->Bool)(l:List α):0<=idx p l↔l.any p=true:=by
 unfold idx;cases h:l.findIdx? p with
 | none =>
  simp only;rw[List.findIdx?_eq_none_iff] at h;constructor
  ·intro h;omega
  ·intro h2;rw[jc1] at h2;obtain⟨x,hx,hp⟩:=h2;rw[h x hx] at hp;cases hp
 | some j =>
  simp only;obtain⟨h1,h2,h3⟩:=jcf.1 h;constructor
  ·intro _;rw[jc1];exact⟨_,jaz h1,h2⟩
  ·intro _;exact jce _
theorem idx_get{α:Type}{p:α->Bool}{l:List α}(h:0<=idx p l):∃x,jget l (idx p l)=some x/\l[(idx p l).toNat]?=some x/\p x=true/\x∈l/\idx p l<l.length/\l.find? p=some x:=by
 unfold idx at h ⊢;cases hf:l.findIdx? p with
 | none=>rw[hf] at h;simp at h
 | some j =>
  simp only;obtain⟨h1,h2,h3⟩:=jcf.1 hf;refine⟨l[j],?_,by simp[h1],h2,jaz h1,by simpa using h1,?_⟩
  ·rw[qcz];exact jab h1
  ·rw[List.find?_eq_some_iff_getElem];exact⟨h2,j,h1,rfl,fun k hk=>by simpa using h3 k hk⟩
theorem idx_neg{α:Type}{p:α->Bool}{l:List α}(h:idx p l<0):l.find? p=none:=by
 have h2:l.any p=false:=by
  cases ha:l.any p with
  | false=>rfl
  | true=>have:=(idx_nonneg p l).2 ha;omega
 rw[List.find?_eq_none];rw[je2] at h2;exact h2
end S
theorem qkc{α:Type}{p:α->Option Bool}(q:α->Bool){l:List α}(h:∀x∈l,p x=some (q x)):idxO p l 0=some (S.idx q l):=by
 rw[q3s h];unfold S.idx;cases l.findIdx? q<;>simp
end Go.Jx
end

section
noncomputable section
namespace Go.Proofs.Ytcnhjofpmpipfaa
open Go Go.Sx Go.RowKit Go.Jx
abbrev DVal:Type:=Int × Int
abbrev qab:Type:=ByteArray × List DVal
abbrev qaa:Type:=List qab × List DVal
abbrev DCol:Type:=ByteArray × Int × ByteArray
abbrev qac:Type:=ByteArray × List DCol
abbrev qbw:Type:=ByteArray × Int × Int
abbrev qa0:Type:=ByteArray × ByteArray × List qbw
abbrev qv0:Type:=Int × ByteArray
namespace S
open Go.Jx.S
def within(n lo hi:Int):Bool:=decide (lo<=n)&&decide (n<=hi)
def unlessE(b:Bool)(e:Int):Int:=cond b 0 e
def first:List Int->Int
 | []=>0
 | e::l=>if e=0 then first l else e
def ANY:ByteArray:=S.lit [65,78,89]
def form(l:List qac)(n:ByteArray):Int:=idx (fun f=>keqS f.1 n) l
def col(l:List DCol)(n:ByteArray):Int:=idx (fun c=>keqS c.1 n) l
def qlc:qa0:=(S.lit [],S.lit [],[])
def zCol:DCol:=(S.lit [],0,S.lit [])
def qjv:qbw:=(S.lit [],0,0)
def zhf:qac:=(S.lit [],[])
def zVal:DVal:=(0,0)
def zNode:qab:=(S.lit [],[])
def qxt:qaa:=([],[])
def qvh:qv0:=(0,S.lit [])
def at_{α:Type}(d:α)(l:List α)(i:Int):α:=(l[i.toNat]?).getD d
def ruleOf(l:List qa0)(c:ByteArray):qa0 × Bool:=match l.find? (fun r=>keqS r.1 c) with
 | some r=>(r,true)
 | none=>(qlc,false)
def badR(r lo hi:Int):Bool:=!((decide (lo<=r)&&decide (r<=hi))||(decide (48<=r)&&decide (r<=57))||decide (r=95))
def named(s:ByteArray)(lo hi:Int):Bool :=
 if s=S.lit [] then false
 else if 20<s.size then false
 else match (qa1 s)[0]? with
  | none=>false
  | some b=>if b<lo then false else if hi<b then false else match sixO (fun _ r=>some (badR r lo hi)) s true (s.size+1) 0 with
   | none=>false
   | some i=>decide (i<0)
def zde:List ByteArray:=[S.lit [73,78,84,69,71,69,82],S.lit [66,79,79,76,69,65,78],ANY,S.lit [78,79,78,69]]
def q2i:List ByteArray:=[S.lit [116,114,117,101],S.lit [102,97,108,115,101],S.lit [118,111,105,100],S.lit [99,117,114,114,101,110,116],S.lit [114,101,115,117,108,116]]
def index(l:List ByteArray)(v:ByteArray):Int:=idx (fun x=>keqS v x) l
def class_(s:ByteArray):Bool:=named s 65 90&&decide (index zde s<0)
def small(s:ByteArray):Bool:=named s 97 122&&decide (index q2i s<0)
def ccGo(l:List DCol):Nat->List DCol->Int
 | _,[]=>0
 | k,c::r =>
  if small c.1=false then 4
  else if ¬col (l.take k) c.1<0 then 6
  else if within c.2.1 1 3=false then 1
  else if ¬c.2.1=3/\¬c.2.2=S.lit [] then 1
  else ccGo l (k+1) r
def checkCols(l:List DCol):Int:=if 30<l.length then 3 else ccGo l 0 l
def cfIn(l:List qac):List DCol->Bool
 | []=>true
 | c::r=>if c.2.1=3/\¬c.2.2=ANY/\form l c.2.2<0 then false else cfIn l r
def cfGo2(l:List qac):List qac->Int
 | []=>0
 | f::r=>if cfIn l f.2=true then cfGo2 l r else 5
def cfGo(l:List qac):Nat->List qac->Int
 | _,[]=>cfGo2 l l
 | k,f::r =>
  let e:=first [unlessE (class_ f.1) 4,unlessE (decide (form (l.take k) f.1<0)) 6,checkCols f.2]
  if e=0 then cfGo l (k+1) r else e
def checkForms(l:List qac):Int:=if 24<l.length then 3 else cfGo l 0 l
def value(v:DVal)(many:Int):Bool :=
 if v.1=1 then within v.2 (-1099511627776) 1099511627776
 else if v.1=2 then within v.2 0 1
 else if v.1=3 then decide (v.2=0)
 else if v.1=4 then within v.2 0 (IntKind.i64.wrap (Int.sub many (Int.ofNat 1)))
 else false
def refers(v:DVal):Bool:=decide (v.1=3)||decide (v.1=4)
def formed(g:qaa):Int :=
 if 400<g.1.length\/60<g.2.length then 3
 else if g.1.any (fun n=>decide (30<n.2.length)) then 3
 else if g.1.any (fun n=>n.2.any fun v=>!value v (Int.ofNat g.1.length)) then 2
 else if g.2.any (fun v=>!value v (Int.ofNat g.1.length)||!refers v) then 2
 else 0
def refOK(g:qaa)(v:DVal):Bool:=decide (v.1=4->0<=v.2/\v.2<g.1.length)
def suits(g:qaa)(c:DCol)(v:DVal):Bool :=
 if c.2.1=1 then decide (v.1=1)
 else if c.2.1=2 then decide (v.1=2)
 else decide (v.1=3)||(decide (v.1=4)&&(decide (c.2.2=ANY)||decide ((at_ zNode g.1 v.2).1=c.2.2)))
def colsOf(l:List qac)(c:ByteArray):List DCol:=(at_ zhf l (form l c)).2
def suitsAll(g:qaa):List DCol->List DVal->Bool
 | c::cs,v::vs=>if suits g c v=true then suitsAll g cs vs else false
 | _,_=>true
def typed(l:List qac)(g:qaa):List qab->Bool
 | []=>true
 | n::ns=>if n.2.length=(colsOf l n.1).length then (if suitsAll g (colsOf l n.1) n.2=true then typed l g ns else false) else false
def typedPre(l:List qac)(g:qaa):Bool:=g.1.all fun n=>decide (0<=form l n.1)&&n.2.all (refOK g)
def check(l:List qac)(g:qaa):Int :=
 if ¬formed g=0 then formed g
 else if g.1.any (fun n=>decide (form l n.1<0)) then 4
 else unlessE (typed l g g.1) 8
def checkG(l:List qac)(g:qaa):Int:=if ¬checkForms l=0 then checkForms l else check l g
def qvy(l:List qa0)(a b:ByteArray):Bool:=decide (b=ANY)||((ruleOf l a).2&&decide ((ruleOf l a).1.2.1=b))
def fits(l:List qa0)(g:qbw)(a b:DCol):Bool :=
 if g.2.1=1 then decide (a.2.1=b.2.1)&&(decide (¬a.2.1=3)||qvy l a.2.2 b.2.2)
 else if g.2.1=2 then decide (a.2.1=2)&&decide (b.2.1=1)
 else if g.2.1=3 then decide (a.2.1=1)&&decide (b.2.1=2)
 else if g.2.1=4 then decide (a.2.1=1)&&decide (b.2.1=1)
 else if g.2.1=5 then decide (a.2.1=3)&&(decide (b.2.1=3)&&qvy l a.2.2 b.2.2)
 else if g.2.1=6 then decide (b.2.1=1)||(decide (b.2.1=2)&&within g.2.2 0 1)
 else decide (b.2.1=3)
def most(g:qbw):Int:=if g.2.1=4\/g.2.1=6 then 1099511627776 else 0
def give(l:List qa0)(g:qbw)(cols:List DCol)(b:DCol):Int :=
 if within g.2.1 1 5=true/\col cols g.1<0 then 4
 else if within g.2.1 1 7=false\/(within g.2.1 1 5=false/\¬g.1=S.lit [])\/within g.2.2 (-most g) (most g)=false\/(g.2.1=6/\b.2.1=2/\within g.2.2 0 1=false) then 1
 else unlessE (fits l g (if within g.2.1 1 5=true then at_ zCol cols (col cols g.1) else zCol) b) 8
def qu5(l:List qa0)(was:List DCol):List DCol->List qbw->Int
 | c::now,g::r=>if give l g was c=0 then qu5 l was now r else give l g was c
 | _,_=>0
def q47(a b:List qac)(l:List qa0):List qa0->Int
 | []=>0
 | r::rs =>
  if r.2.2.length=(colsOf b r.2.1).length then
   (if qu5 l (colsOf a r.1) (colsOf b r.2.1) r.2.2=0 then q47 a b l rs else qu5 l (colsOf a r.1) (colsOf b r.2.1) r.2.2)
  else 2
def q33(a b:List qac)(l:List qa0):List qac->Int
 | []=>q47 a b l l
 | f::fs=>if (ruleOf l f.1).2=true then q33 a b l fs else 5
def crGo(a b:List qac)(l:List qa0):Nat->List qa0->Int
 | _,[]=>q33 a b l a
 | k,r::rs=>if form a r.1<0 then 4 else if form b r.2.1<0 then 4 else if (ruleOf (l.take k) r.1).2=true then 6 else crGo a b l (k+1) rs
def qme(a b:List qac)(l:List qa0):Int:=if 24<l.length then 3 else crGo a b l 0 l
def q4h(a b:List qac)(l:List qa0):Int:=if first [checkForms a,checkForms b]=0 then qme a b l else first [checkForms a,checkForms b]
def src(g:qbw)(cols:List DCol)(l:List DVal):DVal:=at_ zVal l (col cols g.1)
def made(g:qbw)(cols:List DCol)(l:List DVal)(b:DCol):DVal × Bool :=
 if g.2.1=6 then (if b.2.1=2 then ((2,g.2.2),true) else ((1,g.2.2),true))
 else if g.2.1=7 then ((3,0),true)
 else if g.2.1=2 then ((1,(src g cols l).2),true)
 else if g.2.1=3 then ((2,(src g cols l).2),within (src g cols l).2 0 1)
 else if g.2.1=4 then (src g cols l,decide ((src g cols l).2<g.2.2))
 else if g.2.1=5 then (src g cols l,decide ((src g cols l).1=4))
 else (src g cols l,true)
def cvIn(cols:List DCol)(vs:List DVal):List qbw->List DCol->List DVal->Option (List DVal) × ByteArray
 | g::gs,c::cs,acc=>if (made g cols vs c).2=true then cvIn cols vs gs cs (acc++[(made g cols vs c).1]) else (none,c.1)
 | _,_,acc=>(some acc,S.lit [])
def cvGo(a b:List qac)(l:List qa0)(roots:List DVal):Nat->List qab->List qab->qaa × qv0 × Int
 | _,[],acc=>((acc,roots),qvh,0)
 | i,n::ns,acc =>
  let r:=(ruleOf l n.1).1
  match cvIn (colsOf a n.1) n.2 r.2.2 (colsOf b r.2.1) [] with
  | (some vs,_)=>cvGo a b l roots (i+1) ns (acc++[(r.2.1,vs)])
  | (none,c)=>(qxt,(Int.ofNat i,c),10)
def convert(a b:List qac)(l:List qa0)(g:qaa):qaa × qv0 × Int :=
 if ¬q4h a b l=0 then (qxt,qvh,q4h a b l)
 else if ¬check a g=0 then (qxt,qvh,check a g)
 else cvGo a b l g.2 0 g.1 []
def keeps(l:List qa0)(a b:DCol):Bool :=
 if ¬a.2.1=3 then true
 else if a.2.2=ANY\/b.2.2=ANY then decide (a.2.2=b.2.2)
 else qvy l a.2.2 b.2.2
end S
def qs5:Sm:=⟨[.int .i64,.int .i64,.int .i64],[(false,.bool)],fun x=>some (S.within x.1 x.2.1 x.2.2.1,())⟩
def spz1:Sm:=⟨[.list (.int .i64)],[(false,.int .i64)],fun x=>some (S.first x.1,())⟩
def qln:Sm:=⟨[.list cForm,.str],[(false,.int .i64)],fun x=>some (S.form x.1 x.2.1,())⟩
def q48:Sm:=⟨[.list cCol,.str],[(false,.int .i64)],fun x=>some (S.col x.1 x.2.1,())⟩
def qsw:Sm:=⟨[.str,.int .u8,.int .u8],[(false,.bool)],fun x=>some (S.named x.1 x.2.1 x.2.2.1,())⟩
def spz2:Sm:=⟨[.list .str,.str],[(false,.int .i64)],fun x=>some (S.index x.1 x.2.1,())⟩
def q61:Sm:=⟨[.str],[(false,.bool)],fun x=>some (S.class_ x.1,())⟩
def q7y:Sm:=⟨[.str],[(false,.bool)],fun x=>some (S.small x.1,())⟩
def spz3:Sm:=⟨[.list cCol],[(false,.int .i64)],fun x=>some (S.checkCols x.1,())⟩
def spz4:Sm:=⟨[.list cForm],[(false,.int .i64)],fun x=>some (S.checkForms x.1,())⟩
def qzd:Sm:=⟨[cVal,.int .i64],[(false,.bool)],fun x=>some (S.value x.1 x.2.1,())⟩
def spz5:Sm:=⟨[cGraph],[(false,.int .i64)],fun x=>some (S.formed x.1,())⟩
def qyd:Sm:=⟨[cGraph,cCol,cVal],[(false,.bool)],fun x=>cond (S.refOK x.1 x.2.2.1) (some (S.suits x.1 x.2.1 x.2.2.1,())) none⟩
def spz6:Sm:=⟨[.list cForm,cGraph],[(false,.bool)],fun x=>cond (S.typedPre x.1 x.2.1) (some (S.typed x.1 x.2.1 x.2.1.1,())) none⟩
def qx0:Sm:=⟨[.list cForm,cGraph],[(false,.int .i64)],fun x=>some (S.check x.1 x.2.1,())⟩
def qyc:Sm:=⟨[.list cForm,cGraph],[(false,.int .i64)],fun x=>some (S.checkG x.1 x.2.1,())⟩
end Go.Proofs.Ytcnhjofpmpipfaa

end
end

noncomputable section
set_option maxRecDepth 100000
namespace Go.Proofs.Ytcnhjofpmpipfaa
open Go Go.Sx Go.RowKit Go.Jx
abbrev qpx:Type:=Bool × Unit
abbrev zq2:Nat:=83
def q8b(lf:Nat)(x1:Int)(x2:Int)(x3:Int):Option qpx:=(cond (Bool.not (iltI x1 x2)) (some ((Bool.not (iltI x3 x1)),())) (some (false,())))
def qn4(lf:Nat)(x1:Int)(x2:Int)(x3:Int):Option qpx:=q8b lf x1 x2 x3
theorem zj9{g:ElA [(.int .i64),(.int .i64),(.int .i64)]->Option qpx}(hsm:SmOK Try.prog [])(hg:∀(x:ElA [(.int .i64),(.int .i64),(.int .i64)]) (y:qpx),WfA [(.int .i64),(.int .i64),(.int .i64)] x->g x=some y->∃lf,qn4 lf x.1 x.2.1 x.2.2.1=some y):Con Try.prog 83 ⟨[(.int .i64),(.int .i64),(.int .i64)],[(false,.bool)],g⟩ :=
 conU (fi:=fi83) (hxl:=[]) (fun lf x=>qn4 lf x.1 x.2.1 x.2.2.1) cm3 zji trivial hsm hg
def nmz1:Nat->Option Nm:=fun k=>cond (Nat.beq k 2) (some ⟨[5,6,7],[],[],[],[],0,0,false⟩) (none)
def stz1:Nat->Bool:=fun k=>cond (Nat.beq k 2) true (false)
def hdz1:=stz1
abbrev Rtz1:Type:=Int × Unit
def qzx:List (Nat × Sm):=[]
def q42:List (Nat × Hx):=[]
def clz1(R:Type)(lf:Nat):ClK R:=qau Try.prog ttT.get ftT.get (nm1 49 nmz1) (smL qzx) (hxL q42) lf 20 R
abbrev idz1:Nat:=49
def qif(x1:(List Int))(p:Int):NRes:=(NRes.mk (.node none (.node none (.node none (.node (some (IV.int .i64 p)) .leaf .leaf) .leaf) (.node (some (IV.lst (TC.int .i64) x1)) .leaf .leaf)) (.node none .leaf (.node (some (IV.int .i64 (Int.ofNat x1.length))) .leaf .leaf))) (IS.mk .leaf 0) [] 0)
def q11(lf:Nat)(x1:(List Int))(L2:Int->Option Rtz1):Option Rtz1:=(L2 (Int.ofNat 0))
def qq8(lf:Nat)(x1:(List Int))(L2:Int->Option Rtz1)(p:Int):Option Rtz1:=(cond (iltI p (Int.ofNat x1.length)) (match (jget x1 p) with|none=>none|some v0=>(cond (Bool.not (ieqI v0 (Int.ofNat 0))) (some (v0,())) (L2 (IntKind.i64.wrap (Int.add p (Int.ofNat 1)))))) (some ((Int.ofNat 0),())))
abbrev gz1:Type:=ElA [(.list (.int .i64))]->Option Rtz1
abbrev sz1(g:gz1):Sm:=⟨[(.list (.int .i64))],[(false,(.int .i64))],g⟩
abbrev Ez1(g:gz1)(J:JT Rtz1)(lf:Nat)(x1:(List Int)):=qbs Try.prog ttT.get nmz1 fi49.nt (clz1 _ lf) lf stz1 J fi49.body [] (qaq (argV [(.list (.int .i64))] (x1,())) 0 .leaf) S0 [] (qas ttT.get fi49 (sz1 g))
abbrev Bz1(g:gz1)(J:JT Rtz1)(lf k:Nat)(ms:List Nat)(q:NRes):=qb0 Try.prog ttT.get nmz1 fi49.nt (clz1 _ lf) lf stz1 J k fi49.body [] ms q (qas ttT.get fi49 (sz1 g))
theorem inz1(g:gz1)(J:JT Rtz1)(lf:Nat)(x1:(List Int)):Ez1 g J lf x1=q11 lf x1 (fun q=>J 2 [lf] (qif x1 q)):=by kernel_rfl
theorem zua(g:gz1)(J:JT Rtz1)(lf:Nat)(x1:(List Int))(m1:Nat)(p:Int):Bz1 g J lf 2 [m1] (qif x1 p)=qq8 lf x1 (fun q=>J 2 [m1] (qif x1 q)) p:=by kernel_rfl
theorem ndz1:(regs fi49.body).Nodup:=by decide +kernel
theorem okz1:okC nmz1 stz1 hdz1 fi49.body none=true:=by kernel_rfl
def Az1(g:gz1)(lf:Nat):JT Rtz1:=atN Try.prog ttT.get nmz1 fi49 (sz1 g) (clz1 _ lf) lf hdz1
def qqr(lf:Nat)(x1:(List Int)):Nat->(Int)->Option Rtz1:=rounds fun K p=>qq8 lf x1 K p
theorem q6f(g:gz1)(lf:Nat)(x1:(List Int)):∀(n:Nat) (p:Int),Az1 g lf 2 [n] (qif x1 p)=qqr lf x1 n p
 | 0,p=>qbf 2 [0] rfl _
 | n+1,p=>by
  have ih:=q6f g lf x1 n;refine(qay (qam 20 _) ndz1 okz1 2 [n+1] [n] rfl _).trans ((zua g (Az1 g lf) lf x1 n p).trans ?_);rw[(show (fun q=>Az1 g lf 2 [n] (qif x1 q))=(fun q=>qqr lf x1 n q) from funext ih)];rfl
def Fz1(lf:Nat)(x1:(List Int)):Option Rtz1:=q11 lf x1 (fun q=>qqr lf x1 lf q)
theorem zox(g:gz1)(lf:Nat)(x1:(List Int)):Ez1 g (Az1 g lf) lf x1=Fz1 lf x1:=by
  refine(inz1 g (Az1 g lf) lf x1).trans ?_;rw[(show (fun q=>Az1 g lf 2 [lf] (qif x1 q))=(fun q=>qqr lf x1 lf q) from funext fun q=>q6f g lf x1 lf q)];rfl
theorem zpp:qa2 Try.prog q42:=trivial
theorem mkz1{g:gz1}(hsm:SmOK Try.prog qzx)(hg:∀(x:ElA [(.list (.int .i64))]) (y:Rtz1),WfA [(.list (.int .i64))] x->g x=some y->∃lf,Fz1 lf x.1=some y):Con Try.prog 49 ⟨[(.list (.int .i64))],[(false,(.int .i64))],g⟩ :=
 conV (st:=stz1) (fun lf x=>Fz1 lf x.1) cm3 zn3 zpp ndz1 okz1 (fun lf x=>zox g lf x.1) hsm hg
abbrev qnl:Type:=Int × Unit
abbrev zib:Nat:=52
def q3j(lf:Nat)(x1:(List qac))(x2:ByteArray):Option qnl:=(match (idxO (fun v0=>(some (keqS v0.1 x2))) x1 0) with|none=>none|some v1=>(some (v1,())))
def qn7(lf:Nat)(x1:(List qac))(x2:ByteArray):Option qnl:=q3j lf x1 x2
theorem zsl{g:ElA [(.list cForm),.str]->Option qnl}(hsm:SmOK Try.prog [])(hg:∀(x:ElA [(.list cForm),.str]) (y:qnl),WfA [(.list cForm),.str] x->g x=some y->∃lf,qn7 lf x.1 x.2.1=some y):Con Try.prog 52 ⟨[(.list cForm),.str],[(false,(.int .i64))],g⟩ :=
 conU (fi:=fi52) (hxl:=[(125,qr2 cForm)]) (fun lf x=>qn7 lf x.1 x.2.1) cm3 zkf ⟨zt9,trivial⟩ hsm hg
abbrev qnd:Type:=Int × Unit
abbrev zgc:Nat:=95
def q9p(lf:Nat)(x1:(List DCol))(x2:ByteArray):Option qnd:=(match (idxO (fun v0=>(some (keqS v0.1 x2))) x1 0) with|none=>none|some v1=>(some (v1,())))
def qni(lf:Nat)(x1:(List DCol))(x2:ByteArray):Option qnd:=q9p lf x1 x2
theorem ze3{g:ElA [(.list cCol),.str]->Option qnd}(hsm:SmOK Try.prog [])(hg:∀(x:ElA [(.list cCol),.str]) (y:qnd),WfA [(.list cCol),.str] x->g x=some y->∃lf,qni lf x.1 x.2.1=some y):Con Try.prog 95 ⟨[(.list cCol),.str],[(false,(.int .i64))],g⟩ :=
 conU (fi:=fi95) (hxl:=[(144,qr2 cCol)]) (fun lf x=>qni lf x.1 x.2.1) cm3 zg2 ⟨zni,trivial⟩ hsm hg
abbrev qqz:Type:=Bool × Unit
abbrev zpv:Nat:=90
def q91(lf:Nat)(x1:ByteArray)(x2:Int)(x3:Int):Option qqz:=(cond (keqS x1 (S.lit [])) (some (false,())) (cond (iltI (Int.ofNat 20) (Int.ofNat x1.size)) (some (false,())) (match (jget (qa1 x1) (Int.ofNat 0)) with|none=>none|some v0=>(cond (iltI v0 x2) (some (false,())) (match (jget (qa1 x1) (Int.ofNat 0)) with|none=>none|some v1=>(cond (iltI x3 v1) (some (false,())) (match (sixO (fun v2 v3=>(cond (Bool.not (iltI v3 (IntKind.wrap IntKind.i32 x2))) (cond (Bool.not (iltI (IntKind.wrap IntKind.i32 x3) v3)) (some false) (cond (Bool.not (iltI v3 (Int.ofNat 48))) (cond (Bool.not (iltI (Int.ofNat 57) v3)) (some false) (some (Bool.not (ieqI v3 (Int.ofNat 95))))) (some (Bool.not (ieqI v3 (Int.ofNat 95)))))) (cond (Bool.not (iltI v3 (Int.ofNat 48))) (cond (Bool.not (iltI (Int.ofNat 57) v3)) (some false) (some (Bool.not (ieqI v3 (Int.ofNat 95))))) (some (Bool.not (ieqI v3 (Int.ofNat 95))))))) x1 true (Nat.add x1.size 1) 0) with|none=>none|some v4=>(some ((iltI v4 (Int.ofNat 0)),())))))))))
def qnr(lf:Nat)(x1:ByteArray)(x2:Int)(x3:Int):Option qqz:=q91 lf x1 x2 x3
theorem zms{g:ElA [.str,(.int .u8),(.int .u8)]->Option qqz}(hsm:SmOK Try.prog [])(hg:∀(x:ElA [.str,(.int .u8),(.int .u8)]) (y:qqz),WfA [.str,(.int .u8),(.int .u8)] x->g x=some y->∃lf,qnr lf x.1 x.2.1 x.2.2.1=some y):Con Try.prog 90 ⟨[.str,(.int .u8),(.int .u8)],[(false,.bool)],g⟩ :=
 conU (fi:=fi90) (hxl:=[(143,zl9)]) (fun lf x=>qnr lf x.1 x.2.1 x.2.2.1) cm3 zfl ⟨zrp,trivial⟩ hsm hg
def nmz2:Nat->Option Nm:=fun k=>cond (Nat.beq k 2) (some ⟨[0,1,7,8],[],[],[],[],0,0,false⟩) (none)
def stz2:Nat->Bool:=fun k=>cond (Nat.beq k 2) true (false)
def hdz2:=stz2
abbrev Rtz2:Type:=Int × Unit
def q2d:List (Nat × Sm):=[]
def qyn:List (Nat × Hx):=[]
def clz2(R:Type)(lf:Nat):ClK R:=qau Try.prog ttT.get ftT.get (nm1 124 nmz2) (smL q2d) (hxL qyn) lf 20 R
abbrev idz2:Nat:=124
def qhc(x1:(List ByteArray))(x2:ByteArray)(p:Int):NRes:=(NRes.mk (.node (some (IV.lst TC.str x1)) (.node (some (IV.str x2)) (.node none (.node (some (IV.int .i64 (Int.ofNat x1.length))) .leaf .leaf) .leaf) .leaf) (.node none (.node none (.node (some (IV.int .i64 p)) .leaf .leaf) .leaf) .leaf)) (IS.mk .leaf 0) [] 0)
def q45(lf:Nat)(x1:(List ByteArray))(x2:ByteArray)(L2:Int->Option Rtz2):Option Rtz2:=(L2 (Int.ofNat 0))
def qrg(lf:Nat)(x1:(List ByteArray))(x2:ByteArray)(L2:Int->Option Rtz2)(p:Int):Option Rtz2:=(cond (iltI p (Int.ofNat x1.length)) (match (jget x1 p) with|none=>none|some v0=>(cond (keqS x2 v0) (some (p,())) (L2 (IntKind.i64.wrap (Int.add p (Int.ofNat 1)))))) (some ((Int.negSucc 0),())))
abbrev gz2:Type:=ElA [(.list .str),.str]->Option Rtz2
abbrev sz2(g:gz2):Sm:=⟨[(.list .str),.str],[(false,(.int .i64))],g⟩
abbrev Ez2(g:gz2)(J:JT Rtz2)(lf:Nat)(x1:(List ByteArray))(x2:ByteArray):=qbs Try.prog ttT.get nmz2 qdy.nt (clz2 _ lf) lf stz2 J qdy.body [] (qaq (argV [(.list .str),.str] (x1,x2,())) 0 .leaf) S0 [] (qas ttT.get qdy (sz2 g))
abbrev Bz2(g:gz2)(J:JT Rtz2)(lf k:Nat)(ms:List Nat)(q:NRes):=qb0 Try.prog ttT.get nmz2 qdy.nt (clz2 _ lf) lf stz2 J k qdy.body [] ms q (qas ttT.get qdy (sz2 g))
theorem inz2(g:gz2)(J:JT Rtz2)(lf:Nat)(x1:(List ByteArray))(x2:ByteArray):Ez2 g J lf x1 x2=q45 lf x1 x2 (fun q=>J 2 [lf] (qhc x1 x2 q)):=by kernel_rfl
theorem zqw(g:gz2)(J:JT Rtz2)(lf:Nat)(x1:(List ByteArray))(x2:ByteArray)(m1:Nat)(p:Int):Bz2 g J lf 2 [m1] (qhc x1 x2 p)=qrg lf x1 x2 (fun q=>J 2 [m1] (qhc x1 x2 q)) p:=by kernel_rfl
theorem ndz2:(regs qdy.body).Nodup:=by decide +kernel
theorem okz2:okC nmz2 stz2 hdz2 qdy.body none=true:=by kernel_rfl
def Az2(g:gz2)(lf:Nat):JT Rtz2:=atN Try.prog ttT.get nmz2 qdy (sz2 g) (clz2 _ lf) lf hdz2
def qpc(lf:Nat)(x1:(List ByteArray))(x2:ByteArray):Nat->(Int)->Option Rtz2:=rounds fun K p=>qrg lf x1 x2 K p
theorem q20(g:gz2)(lf:Nat)(x1:(List ByteArray))(x2:ByteArray):∀(n:Nat) (p:Int),Az2 g lf 2 [n] (qhc x1 x2 p)=qpc lf x1 x2 n p
 | 0,p=>qbf 2 [0] rfl _
 | n+1,p=>by
  have ih:=q20 g lf x1 x2 n;refine(qay (qam 20 _) ndz2 okz2 2 [n+1] [n] rfl _).trans ((zqw g (Az2 g lf) lf x1 x2 n p).trans ?_);rw[(show (fun q=>Az2 g lf 2 [n] (qhc x1 x2 q))=(fun q=>qpc lf x1 x2 n q) from funext ih)];rfl
def Fz2(lf:Nat)(x1:(List ByteArray))(x2:ByteArray):Option Rtz2:=q45 lf x1 x2 (fun q=>qpc lf x1 x2 lf q)
theorem zi4(g:gz2)(lf:Nat)(x1:(List ByteArray))(x2:ByteArray):Ez2 g (Az2 g lf) lf x1 x2=Fz2 lf x1 x2:=by
  refine(inz2 g (Az2 g lf) lf x1 x2).trans ?_;rw[(show (fun q=>Az2 g lf 2 [lf] (qhc x1 x2 q))=(fun q=>qpc lf x1 x2 lf q) from funext fun q=>q20 g lf x1 x2 lf q)];rfl
theorem zpi:qa2 Try.prog qyn:=trivial
theorem mkz2{g:gz2}(hsm:SmOK Try.prog q2d)(hg:∀(x:ElA [(.list .str),.str]) (y:Rtz2),WfA [(.list .str),.str] x->g x=some y->∃lf,Fz2 lf x.1 x.2.1=some y):Con Try.prog 124 ⟨[(.list .str),.str],[(false,(.int .i64))],g⟩ :=
 conV (st:=stz2) (fun lf x=>Fz2 lf x.1 x.2.1) cm3 ziy zpi ndz2 okz2 (fun lf x=>zi4 g lf x.1 x.2.1) hsm hg
abbrev qrm:Type:=Bool × Unit
abbrev zl1:Nat:=51
def q70(lf:Nat)(x1:ByteArray):Option qrm:=(cond (S.named x1 (Int.ofNat 65) (Int.ofNat 90)) (some ((Bool.not (Bool.not (iltI (S.index (List.cons (S.lit [73,78,84,69,71,69,82]) (List.cons (S.lit [66,79,79,76,69,65,78]) (List.cons (S.lit [65,78,89]) [(S.lit [78,79,78,69])]))) x1) (Int.ofNat 0)))),())) (some (false,())))
def qpl(lf:Nat)(x1:ByteArray):Option qrm:=q70 lf x1
theorem zss{g:ElA [.str]->Option qrm}(hsm:SmOK Try.prog [(90,qsw),(124,spz2)])(hg:∀(x:ElA [.str]) (y:qrm),WfA [.str] x->g x=some y->∃lf,qpl lf x.1=some y):Con Try.prog 51 ⟨[.str],[(false,.bool)],g⟩ :=
 conU (fi:=fi51) (hxl:=[]) (fun lf x=>qpl lf x.1) cm3 zpm trivial hsm hg
abbrev qqv:Type:=Bool × Unit
abbrev zg7:Nat:=94
def q0a(lf:Nat)(x1:ByteArray):Option qqv:=(cond (S.named x1 (Int.ofNat 97) (Int.ofNat 122)) (some ((Bool.not (Bool.not (iltI (S.index (List.cons (S.lit [116,114,117,101]) (List.cons (S.lit [102,97,108,115,101]) (List.cons (S.lit [118,111,105,100]) (List.cons (S.lit [99,117,114,114,101,110,116]) [(S.lit [114,101,115,117,108,116])])))) x1) (Int.ofNat 0)))),())) (some (false,())))
def qr0(lf:Nat)(x1:ByteArray):Option qqv:=q0a lf x1
theorem zst{g:ElA [.str]->Option qqv}(hsm:SmOK Try.prog [(90,qsw),(124,spz2)])(hg:∀(x:ElA [.str]) (y:qqv),WfA [.str] x->g x=some y->∃lf,qr0 lf x.1=some y):Con Try.prog 94 ⟨[.str],[(false,.bool)],g⟩ :=
 conU (fi:=fi94) (hxl:=[]) (fun lf x=>qr0 lf x.1) cm3 zk8 trivial hsm hg
def nmz3:Nat->Option Nm:=fun k=>cond (Nat.beq k 4) (some ⟨[0,8,9,10],[],[],[],[],0,0,false⟩) (none)
def stz3:Nat->Bool:=fun k=>cond (Nat.beq k 4) true (false)
def hdz3:=stz3
abbrev Rtz3:Type:=Int × Unit
def qx9:List (Nat × Sm):=[(94,q7y),(95,q48),(83,qs5)]
def zab:List (Nat × Hx):=[]
def clz3(R:Type)(lf:Nat):ClK R:=qau Try.prog ttT.get ftT.get (nm1 53 nmz3) (smL qx9) (hxL zab) lf 20 R
abbrev idz3:Nat:=53
def qid(x1:(List DCol))(p:Int):NRes:=(NRes.mk (.node (some (IV.lst cCol x1)) (.node none .leaf (.node none (.node (some (IV.int .i64 (Int.ofNat x1.length))) .leaf .leaf) .leaf)) (.node none (.node none (.node (some (IV.lst cCol x1)) .leaf .leaf) .leaf) (.node none (.node (some (IV.int .i64 p)) .leaf .leaf) .leaf))) (IS.mk .leaf 0) [] 0)
def que(lf:Nat)(x1:(List DCol))(L4:Int->Option Rtz3):Option Rtz3:=(cond (iltI (Int.ofNat 30) (Int.ofNat x1.length)) (some ((Int.ofNat 3),())) (L4 (Int.ofNat 0)))
def qqe(lf:Nat)(x1:(List DCol))(L4:Int->Option Rtz3)(p:Int):Option Rtz3:=(cond (iltI p (Int.ofNat x1.length)) (match (jget x1 p) with|none=>none|some v0=>(cond (Bool.not (S.small v0.1)) (some ((Int.ofNat 4),())) (cond (lchk (Int.ofNat 0) p (Int.ofNat x1.length) (Int.ofNat x1.length)) (cond (Bool.not (iltI (S.col (lsub x1 (Int.ofNat 0) p) v0.1) (Int.ofNat 0))) (some ((Int.ofNat 6),())) (cond (Bool.not (S.within v0.2.1 (Int.ofNat 1) (Int.ofNat 3))) (some ((Int.ofNat 1),())) (cond (Bool.not (ieqI v0.2.1 (Int.ofNat 3))) (cond (Bool.not (keqS v0.2.2 (S.lit []))) (some ((Int.ofNat 1),())) (L4 (IntKind.i64.wrap (Int.add p (Int.ofNat 1))))) (L4 (IntKind.i64.wrap (Int.add p (Int.ofNat 1))))))) none))) (some ((Int.ofNat 0),())))
abbrev gz3:Type:=ElA [(.list cCol)]->Option Rtz3
abbrev sz3(g:gz3):Sm:=⟨[(.list cCol)],[(false,(.int .i64))],g⟩
abbrev Ez3(g:gz3)(J:JT Rtz3)(lf:Nat)(x1:(List DCol)):=qbs Try.prog ttT.get nmz3 fi53.nt (clz3 _ lf) lf stz3 J fi53.body [] (qaq (argV [(.list cCol)] (x1,())) 0 .leaf) S0 [] (qas ttT.get fi53 (sz3 g))
abbrev Bz3(g:gz3)(J:JT Rtz3)(lf k:Nat)(ms:List Nat)(q:NRes):=qb0 Try.prog ttT.get nmz3 fi53.nt (clz3 _ lf) lf stz3 J k fi53.body [] ms q (qas ttT.get fi53 (sz3 g))
theorem inz3(g:gz3)(J:JT Rtz3)(lf:Nat)(x1:(List DCol)):Ez3 g J lf x1=que lf x1 (fun q=>J 4 [lf] (qid x1 q)):=by kernel_rfl
theorem zhw(g:gz3)(J:JT Rtz3)(lf:Nat)(x1:(List DCol))(m1:Nat)(p:Int):Bz3 g J lf 4 [m1] (qid x1 p)=qqe lf x1 (fun q=>J 4 [m1] (qid x1 q)) p:=by kernel_rfl
theorem ndz3:(regs fi53.body).Nodup:=by decide +kernel
theorem okz3:okC nmz3 stz3 hdz3 fi53.body none=true:=by kernel_rfl
def Az3(g:gz3)(lf:Nat):JT Rtz3:=atN Try.prog ttT.get nmz3 fi53 (sz3 g) (clz3 _ lf) lf hdz3
def qqf(lf:Nat)(x1:(List DCol)):Nat->(Int)->Option Rtz3:=rounds fun K p=>qqe lf x1 K p
theorem q89(g:gz3)(lf:Nat)(x1:(List DCol)):∀(n:Nat) (p:Int),Az3 g lf 4 [n] (qid x1 p)=qqf lf x1 n p
 | 0,p=>qbf 4 [0] rfl _
 | n+1,p=>by
  have ih:=q89 g lf x1 n;refine(qay (qam 20 _) ndz3 okz3 4 [n+1] [n] rfl _).trans ((zhw g (Az3 g lf) lf x1 n p).trans ?_);rw[(show (fun q=>Az3 g lf 4 [n] (qid x1 q))=(fun q=>qqf lf x1 n q) from funext ih)];rfl
def Fz3(lf:Nat)(x1:(List DCol)):Option Rtz3:=que lf x1 (fun q=>qqf lf x1 lf q)
theorem zm5(g:gz3)(lf:Nat)(x1:(List DCol)):Ez3 g (Az3 g lf) lf x1=Fz3 lf x1:=by
  refine(inz3 g (Az3 g lf) lf x1).trans ?_;rw[(show (fun q=>Az3 g lf 4 [lf] (qid x1 q))=(fun q=>qqf lf x1 lf q) from funext fun q=>q89 g lf x1 lf q)];rfl
theorem zti:qa2 Try.prog zab:=trivial
theorem mkz3{g:gz3}(hsm:SmOK Try.prog qx9)(hg:∀(x:ElA [(.list cCol)]) (y:Rtz3),WfA [(.list cCol)] x->g x=some y->∃lf,Fz3 lf x.1=some y):Con Try.prog 53 ⟨[(.list cCol)],[(false,(.int .i64))],g⟩ :=
 conV (st:=stz3) (fun lf x=>Fz3 lf x.1) cm3 zir zti ndz3 okz3 (fun lf x=>zm5 g lf x.1) hsm hg
def nmz4:Nat->Option Nm:=fun k=>cond (Nat.beq k 4) (some ⟨[0,13,14,15],[],[],[],[],0,0,false⟩) (cond (Nat.beq k 11) (some ⟨[0,41,42,43],[],[],[],[],0,0,false⟩) (cond (Nat.beq k 14) (some ⟨[0,41,42,43,48,49,50],[],[],[],[],0,0,false⟩) (none)))
def stz4:Nat->Bool:=fun k=>cond (Nat.beq k 4) true (cond (Nat.beq k 11) true (cond (Nat.beq k 14) true (false)))
def hdz4:=stz4
abbrev Rtz4:Type:=Int × Unit
def zai:List (Nat × Sm):=[(51,q61),(52,qln),(53,spz3),(49,spz1)]
def q6p:List (Nat × Hx):=[]
def clz4(R:Type)(lf:Nat):ClK R:=qau Try.prog ttT.get ftT.get (nm1 16 nmz4) (smL zai) (hxL q6p) lf 20 R
abbrev idz4:Nat:=16
def qh7(x1:(List qac))(p:Int):NRes:=(NRes.mk (.node (some (IV.lst cForm x1)) (.node none (.node none (.node none (.node (some (IV.int .i64 p)) .leaf .leaf) .leaf) .leaf) (.node none .leaf (.node (some (IV.lst cForm x1)) .leaf .leaf))) (.node none .leaf (.node none .leaf (.node (some (IV.int .i64 (Int.ofNat x1.length))) .leaf .leaf)))) (IS.mk .leaf 0) [] 0)
def qeh(x1:(List qac))(p:Int):NRes:=(NRes.mk (.node (some (IV.lst cForm x1)) (.node none (.node none .leaf (.node none .leaf (.node none (.node (some (IV.int .i64 p)) .leaf .leaf) .leaf))) (.node none (.node none .leaf (.node none (.node (some (IV.lst cForm x1)) .leaf .leaf) .leaf)) .leaf)) (.node none .leaf (.node none (.node none .leaf (.node none (.node (some (IV.int .i64 (Int.ofNat x1.length))) .leaf .leaf) .leaf)) .leaf))) (IS.mk .leaf 0) [] 0)
def qij(x1:(List qac))(p:(List DCol) × Int × Int):NRes:=(NRes.mk (.node (some (IV.lst cForm x1)) (.node none (.node none .leaf (.node none .leaf (.node none (.node (some (IV.int .i64 p.2.2)) .leaf .leaf) .leaf))) (.node none (.node none (.node none .leaf (.node (some (IV.int .i64 (Int.ofNat p.1.length))) .leaf .leaf)) (.node none (.node (some (IV.lst cForm x1)) .leaf .leaf) .leaf)) .leaf)) (.node none (.node none (.node none (.node none .leaf (.node (some (IV.lst cCol p.1)) .leaf .leaf)) .leaf) .leaf) (.node none (.node none (.node none .leaf (.node (some (IV.int .i64 p.2.1)) .leaf .leaf)) (.node none (.node (some (IV.int .i64 (Int.ofNat x1.length))) .leaf .leaf) .leaf)) .leaf))) (IS.mk .leaf 0) [] 0)
def qs2(lf:Nat)(x1:(List qac))(L4:Int->Option Rtz4):Option Rtz4:=(cond (iltI (Int.ofNat 24) (Int.ofNat x1.length)) (some ((Int.ofNat 3),())) (L4 (Int.ofNat 0)))
def qrj(lf:Nat)(x1:(List qac))(L4:Int->Option Rtz4)(L11:Int->Option Rtz4)(p:Int):Option Rtz4:=(cond (iltI p (Int.ofNat x1.length)) (match (jget x1 p) with|none=>none|some v0=>(cond (S.class_ v0.1) (cond (lchk (Int.ofNat 0) p (Int.ofNat x1.length) (Int.ofNat x1.length)) (cond (iltI (S.form (lsub x1 (Int.ofNat 0) p) v0.1) (Int.ofNat 0)) (cond (Bool.not (ieqI (S.first (List.cons (Int.ofNat 0) (List.cons (Int.ofNat 0) [(S.checkCols v0.2)]))) (Int.ofNat 0))) (some ((S.first (List.cons (Int.ofNat 0) (List.cons (Int.ofNat 0) [(S.checkCols v0.2)]))),())) (L4 (IntKind.i64.wrap (Int.add p (Int.ofNat 1))))) (cond (Bool.not (ieqI (S.first (List.cons (Int.ofNat 0) (List.cons (Int.ofNat 6) [(S.checkCols v0.2)]))) (Int.ofNat 0))) (some ((S.first (List.cons (Int.ofNat 0) (List.cons (Int.ofNat 6) [(S.checkCols v0.2)]))),())) (L4 (IntKind.i64.wrap (Int.add p (Int.ofNat 1)))))) none) (cond (lchk (Int.ofNat 0) p (Int.ofNat x1.length) (Int.ofNat x1.length)) (cond (iltI (S.form (lsub x1 (Int.ofNat 0) p) v0.1) (Int.ofNat 0)) (cond (Bool.not (ieqI (S.first (List.cons (Int.ofNat 4) (List.cons (Int.ofNat 0) [(S.checkCols v0.2)]))) (Int.ofNat 0))) (some ((S.first (List.cons (Int.ofNat 4) (List.cons (Int.ofNat 0) [(S.checkCols v0.2)]))),())) (L4 (IntKind.i64.wrap (Int.add p (Int.ofNat 1))))) (cond (Bool.not (ieqI (S.first (List.cons (Int.ofNat 4) (List.cons (Int.ofNat 6) [(S.checkCols v0.2)]))) (Int.ofNat 0))) (some ((S.first (List.cons (Int.ofNat 4) (List.cons (Int.ofNat 6) [(S.checkCols v0.2)]))),())) (L4 (IntKind.i64.wrap (Int.add p (Int.ofNat 1)))))) none))) (L11 (Int.ofNat 0)))
def qr1(lf:Nat)(x1:(List qac))(L14:((List DCol) × Int × Int)->Option Rtz4)(p:Int):Option Rtz4:=(cond (iltI p (Int.ofNat x1.length)) (match (jget x1 p) with|none=>none|some v0=>(L14 (v0.2,(Int.ofNat 0),p))) (some ((Int.ofNat 0),())))
def qr7(lf:Nat)(x1:(List qac))(L14:((List DCol) × Int × Int)->Option Rtz4)(L11:Int->Option Rtz4)(p:(List DCol) × Int × Int):Option Rtz4:=(cond (iltI p.2.1 (Int.ofNat p.1.length)) (match (jget p.1 p.2.1) with|none=>none|some v0=>(cond (ieqI v0.2.1 (Int.ofNat 3)) (cond (Bool.not (keqS v0.2.2 (S.lit [65,78,89]))) (cond (iltI (S.form x1 v0.2.2) (Int.ofNat 0)) (some ((Int.ofNat 5),())) (L14 (p.1,(IntKind.i64.wrap (Int.add p.2.1 (Int.ofNat 1))),p.2.2))) (L14 (p.1,(IntKind.i64.wrap (Int.add p.2.1 (Int.ofNat 1))),p.2.2))) (L14 (p.1,(IntKind.i64.wrap (Int.add p.2.1 (Int.ofNat 1))),p.2.2)))) (L11 (IntKind.i64.wrap (Int.add p.2.2 (Int.ofNat 1)))))
abbrev gz4:Type:=ElA [(.list cForm)]->Option Rtz4
abbrev sz4(g:gz4):Sm:=⟨[(.list cForm)],[(false,(.int .i64))],g⟩
abbrev Ez4(g:gz4)(J:JT Rtz4)(lf:Nat)(x1:(List qac)):=qbs Try.prog ttT.get nmz4 fi16.nt (clz4 _ lf) lf stz4 J fi16.body [] (qaq (argV [(.list cForm)] (x1,())) 0 .leaf) S0 [] (qas ttT.get fi16 (sz4 g))
abbrev Bz4(g:gz4)(J:JT Rtz4)(lf k:Nat)(ms:List Nat)(q:NRes):=qb0 Try.prog ttT.get nmz4 fi16.nt (clz4 _ lf) lf stz4 J k fi16.body [] ms q (qas ttT.get fi16 (sz4 g))
theorem inz4(g:gz4)(J:JT Rtz4)(lf:Nat)(x1:(List qac)):Ez4 g J lf x1=qs2 lf x1 (fun q=>J 4 [lf] (qh7 x1 q)):=by kernel_rfl
theorem zh2(g:gz4)(J:JT Rtz4)(lf:Nat)(x1:(List qac))(m1:Nat)(p:Int):Bz4 g J lf 4 [m1] (qh7 x1 p)=qrj lf x1 (fun q=>J 4 [m1] (qh7 x1 q)) (fun q=>J 11 [lf] (qeh x1 q)) p:=by kernel_rfl
theorem zfc(g:gz4)(J:JT Rtz4)(lf:Nat)(x1:(List qac))(m1:Nat)(p:Int):Bz4 g J lf 11 [m1] (qeh x1 p)=qr1 lf x1 (fun q=>J 14 [m1,lf] (qij x1 q)) p:=by kernel_rfl
theorem zbi(g:gz4)(J:JT Rtz4)(lf:Nat)(x1:(List qac))(m1:Nat)(m2:Nat)(p:(List DCol) × Int × Int):Bz4 g J lf 14 [m1,m2] (qij x1 p)=qr7 lf x1 (fun q=>J 14 [m1,m2] (qij x1 q)) (fun q=>J 11 [m1] (qeh x1 q)) p:=by kernel_rfl
theorem ndz4:(regs fi16.body).Nodup:=by decide +kernel
theorem okz4:okC nmz4 stz4 hdz4 fi16.body none=true:=by kernel_rfl
def Az4(g:gz4)(lf:Nat):JT Rtz4:=atN Try.prog ttT.get nmz4 fi16 (sz4 g) (clz4 _ lf) lf hdz4
def qmc(lf:Nat)(x1:(List qac))(K11:Int->Option Rtz4):Nat->((List DCol) × Int × Int)->Option Rtz4:=rounds fun K p=>qr7 lf x1 K K11 p
theorem qy9(g:gz4)(lf:Nat)(x1:(List qac))(m1:Nat):∀(n:Nat) (p:(List DCol) × Int × Int),Az4 g lf 14 [m1,n] (qij x1 p)=qmc lf x1 (fun q=>Az4 g lf 11 [m1] (qeh x1 q)) n p
 | 0,p=>qbf 14 [m1,0] rfl _
 | n+1,p=>by
  have ih:=qy9 g lf x1 m1 n;refine(qay (qam 20 _) ndz4 okz4 14 [m1,n+1] [m1,n] rfl _).trans ((zbi g (Az4 g lf) lf x1 m1 n p).trans ?_);rw[(show (fun q=>Az4 g lf 14 [m1,n] (qij x1 q))=(fun q=>qmc lf x1 (fun q=>Az4 g lf 11 [m1] (qeh x1 q)) n q) from funext ih)];rfl
def qlq(lf:Nat)(x1:(List qac)):Nat->(Int)->Option Rtz4:=rounds fun K p=>qr1 lf x1 (fun q=>qmc lf x1 K lf q) p
theorem qyj(g:gz4)(lf:Nat)(x1:(List qac)):∀(n:Nat) (p:Int),Az4 g lf 11 [n] (qeh x1 p)=qlq lf x1 n p
 | 0,p=>qbf 11 [0] rfl _
 | n+1,p=>by
  have ih:=qyj g lf x1 n;refine(qay (qam 20 _) ndz4 okz4 11 [n+1] [n] rfl _).trans ((zfc g (Az4 g lf) lf x1 n p).trans ?_);rw[(show (fun q=>Az4 g lf 14 [n,lf] (qij x1 q))=(fun q=>qmc lf x1 (fun q=>Az4 g lf 11 [n] (qeh x1 q)) lf q) from funext fun q=>qy9 g lf x1 n lf q),(show (fun q=>Az4 g lf 11 [n] (qeh x1 q))=(fun q=>qlq lf x1 n q) from funext ih)];rfl
def qq5(lf:Nat)(x1:(List qac)):Nat->(Int)->Option Rtz4:=rounds fun K p=>qrj lf x1 K (fun q=>qlq lf x1 lf q) p
theorem qyf(g:gz4)(lf:Nat)(x1:(List qac)):∀(n:Nat) (p:Int),Az4 g lf 4 [n] (qh7 x1 p)=qq5 lf x1 n p
 | 0,p=>qbf 4 [0] rfl _
 | n+1,p=>by
  have ih:=qyf g lf x1 n;refine(qay (qam 20 _) ndz4 okz4 4 [n+1] [n] rfl _).trans ((zh2 g (Az4 g lf) lf x1 n p).trans ?_);rw[(show (fun q=>Az4 g lf 11 [lf] (qeh x1 q))=(fun q=>qlq lf x1 lf q) from funext fun q=>qyj g lf x1 lf q),(show (fun q=>Az4 g lf 4 [n] (qh7 x1 q))=(fun q=>qq5 lf x1 n q) from funext ih)];rfl
def Fz4(lf:Nat)(x1:(List qac)):Option Rtz4:=qs2 lf x1 (fun q=>qq5 lf x1 lf q)
theorem zjy(g:gz4)(lf:Nat)(x1:(List qac)):Ez4 g (Az4 g lf) lf x1=Fz4 lf x1:=by
  refine(inz4 g (Az4 g lf) lf x1).trans ?_;rw[(show (fun q=>Az4 g lf 4 [lf] (qh7 x1 q))=(fun q=>qq5 lf x1 lf q) from funext fun q=>qyf g lf x1 lf q)];rfl
theorem zof:qa2 Try.prog q6p:=trivial
theorem mkz4{g:gz4}(hsm:SmOK Try.prog zai)(hg:∀(x:ElA [(.list cForm)]) (y:Rtz4),WfA [(.list cForm)] x->g x=some y->∃lf,Fz4 lf x.1=some y):Con Try.prog 16 ⟨[(.list cForm)],[(false,(.int .i64))],g⟩ :=
 conV (st:=stz4) (fun lf x=>Fz4 lf x.1) cm3 zoq zof ndz4 okz4 (fun lf x=>zjy g lf x.1) hsm hg
abbrev qpv:Type:=Bool × Unit
abbrev zos:Nat:=106
def qyh(lf:Nat)(x1:DVal)(x2:Int):Option qpv:=(cond (ieqI x1.1 (Int.ofNat 1)) (some ((S.within x1.2 (Int.negSucc 1099511627775) (Int.ofNat 1099511627776)),())) (cond (ieqI x1.1 (Int.ofNat 2)) (some ((S.within x1.2 (Int.ofNat 0) (Int.ofNat 1)),())) (cond (ieqI x1.1 (Int.ofNat 3)) (some ((ieqI x1.2 (Int.ofNat 0)),())) (cond (ieqI x1.1 (Int.ofNat 4)) (some ((S.within x1.2 (Int.ofNat 0) (IntKind.i64.wrap (Int.sub x2 (Int.ofNat 1)))),())) (some (false,()))))))
def qn6(lf:Nat)(x1:DVal)(x2:Int):Option qpv:=qyh lf x1 x2
theorem zmy{g:ElA [cVal,(.int .i64)]->Option qpv}(hsm:SmOK Try.prog [(83,qs5)])(hg:∀(x:ElA [cVal,(.int .i64)]) (y:qpv),WfA [cVal,(.int .i64)] x->g x=some y->∃lf,qn6 lf x.1 x.2.1=some y):Con Try.prog 106 ⟨[cVal,(.int .i64)],[(false,.bool)],g⟩ :=
 conU (fi:=qvm) (hxl:=[]) (fun lf x=>qn6 lf x.1 x.2.1) cm3 zc6 trivial hsm hg
def nmz5:Nat->Option Nm:=fun k=>cond (Nat.beq k 4) (some ⟨[1,19,20,21],[],[],[],[],0,0,false⟩) (cond (Nat.beq k 11) (some ⟨[1,5,32,33,34],[],[],[],[],0,0,false⟩) (none))
def stz5:Nat->Bool:=fun k=>cond (Nat.beq k 4) true (cond (Nat.beq k 11) true (false))
def hdz5:=stz5
abbrev Rtz5:Type:=Int × Unit
def q8v:List (Nat × Sm):=[(106,qzd)]
def q28:List (Nat × Hx):=[(137,qr2 cVal)]
def clz5(R:Type)(lf:Nat):ClK R:=qau Try.prog ttT.get ftT.get (nm1 70 nmz5) (smL q8v) (hxL q28) lf 20 R
abbrev idz5:Nat:=70
def qit(x1:qaa)(p:Int):NRes:=(NRes.mk (.node none (.node (some (IV.ptr 0 0)) (.node none .leaf (.node none (.node (some (IV.lst qah x1.1)) .leaf .leaf) .leaf)) (.node none .leaf (.node none (.node (some (IV.int .i64 p)) .leaf .leaf) .leaf))) (.node none (.node none .leaf (.node none (.node (some (IV.int .i64 (Int.ofNat x1.1.length))) .leaf .leaf) .leaf)) .leaf)) (IS.mk (.node (some (IObj.row (List.cons (IV.lst qah x1.1) [(IV.lst cVal x1.2)]))) .leaf .leaf) 1) [] 0)
def qii(x1:qaa)(p:Int):NRes:=(NRes.mk (.node none (.node (some (IV.ptr 0 0)) .leaf (.node (some (IV.ptr 1 0)) (.node none (.node none (.node (some (IV.int .i64 (Int.ofNat x1.1.length))) .leaf .leaf) .leaf) .leaf) .leaf)) (.node none (.node none (.node none (.node none (.node (some (IV.lst qah x1.1)) .leaf .leaf) .leaf) .leaf) .leaf) (.node none (.node none (.node none (.node (some (IV.int .i64 p)) .leaf .leaf) .leaf) .leaf) .leaf))) (IS.mk (.node (some (IObj.row (List.cons (IV.lst qah x1.1) [(IV.lst cVal x1.2)]))) (.node (some (IObj.row (List.cons (IV.fn 105 [(IV.ptr 0 0)]) []))) .leaf .leaf) .leaf) 2) [] 0)
def qun(lf:Nat)(x1:qaa)(L4:Int->Option Rtz5):Option Rtz5:=(cond (iltI (Int.ofNat 400) (Int.ofNat x1.1.length)) (some ((Int.ofNat 3),())) (cond (iltI (Int.ofNat 60) (Int.ofNat x1.2.length)) (some ((Int.ofNat 3),())) (L4 (Int.ofNat 0))))
def qoi(lf:Nat)(x1:qaa)(L4:Int->Option Rtz5)(L11:Int->Option Rtz5)(p:Int):Option Rtz5:=(cond (iltI p (Int.ofNat x1.1.length)) (match (jget x1.1 p) with|none=>none|some v0=>(cond (iltI (Int.ofNat 30) (Int.ofNat v0.2.length)) (some ((Int.ofNat 3),())) (L4 (IntKind.i64.wrap (Int.add p (Int.ofNat 1)))))) (L11 (Int.ofNat 0)))
def qns(lf:Nat)(x1:qaa)(L11:Int->Option Rtz5)(p:Int):Option Rtz5:=(cond (iltI p (Int.ofNat x1.1.length)) (match (jget x1.1 p) with|none=>none|some v0=>(match (idxO (fun v1=>(some (Bool.not (S.value (v1.1,v1.2) (Int.ofNat x1.1.length))))) v0.2 0) with|none=>none|some v2=>(cond (Bool.not (iltI v2 (Int.ofNat 0))) (some ((Int.ofNat 2),())) (L11 (IntKind.i64.wrap (Int.add p (Int.ofNat 1))))))) (match (idxO (fun v26=>(cond (Bool.not (S.value (v26.1,v26.2) (Int.ofNat x1.1.length))) (some true) (cond (ieqI v26.1 (Int.ofNat 3)) (some false) (some (Bool.not (ieqI v26.1 (Int.ofNat 4))))))) x1.2 0) with|none=>none|some v27=>(cond (Bool.not (Bool.not (iltI v27 (Int.ofNat 0)))) (some ((Int.ofNat 0),())) (some ((Int.ofNat 2),())))))
abbrev gz5:Type:=ElA [cGraph]->Option Rtz5
abbrev sz5(g:gz5):Sm:=⟨[cGraph],[(false,(.int .i64))],g⟩
abbrev Ez5(g:gz5)(J:JT Rtz5)(lf:Nat)(x1:qaa):=qbs Try.prog ttT.get nmz5 fi70.nt (clz5 _ lf) lf stz5 J fi70.body [] (qaq (argV [cGraph] (x1,())) 0 .leaf) S0 [] (qas ttT.get fi70 (sz5 g))
abbrev Bz5(g:gz5)(J:JT Rtz5)(lf k:Nat)(ms:List Nat)(q:NRes):=qb0 Try.prog ttT.get nmz5 fi70.nt (clz5 _ lf) lf stz5 J k fi70.body [] ms q (qas ttT.get fi70 (sz5 g))
theorem inz5(g:gz5)(J:JT Rtz5)(lf:Nat)(x1:qaa):Ez5 g J lf x1=qun lf x1 (fun q=>J 4 [lf] (qit x1 q)):=by kernel_rfl
theorem zd5(g:gz5)(J:JT Rtz5)(lf:Nat)(x1:qaa)(m1:Nat)(p:Int):Bz5 g J lf 4 [m1] (qit x1 p)=qoi lf x1 (fun q=>J 4 [m1] (qit x1 q)) (fun q=>J 11 [lf] (qii x1 q)) p:=by kernel_rfl
theorem zr8(g:gz5)(J:JT Rtz5)(lf:Nat)(x1:qaa)(m1:Nat)(p:Int):Bz5 g J lf 11 [m1] (qii x1 p)=qns lf x1 (fun q=>J 11 [m1] (qii x1 q)) p:=by kernel_rfl
theorem ndz5:(regs fi70.body).Nodup:=by decide +kernel
theorem okz5:okC nmz5 stz5 hdz5 fi70.body none=true:=by kernel_rfl
def Az5(g:gz5)(lf:Nat):JT Rtz5:=atN Try.prog ttT.get nmz5 fi70 (sz5 g) (clz5 _ lf) lf hdz5
def qmf(lf:Nat)(x1:qaa):Nat->(Int)->Option Rtz5:=rounds fun K p=>qns lf x1 K p
theorem qyy(g:gz5)(lf:Nat)(x1:qaa):∀(n:Nat) (p:Int),Az5 g lf 11 [n] (qii x1 p)=qmf lf x1 n p
 | 0,p=>qbf 11 [0] rfl _
 | n+1,p=>by
  have ih:=qyy g lf x1 n;refine(qay (qam 20 _) ndz5 okz5 11 [n+1] [n] rfl _).trans ((zr8 g (Az5 g lf) lf x1 n p).trans ?_);rw[(show (fun q=>Az5 g lf 11 [n] (qii x1 q))=(fun q=>qmf lf x1 n q) from funext ih)];rfl
def qi8(lf:Nat)(x1:qaa):Nat->(Int)->Option Rtz5:=rounds fun K p=>qoi lf x1 K (fun q=>qmf lf x1 lf q) p
theorem q7f(g:gz5)(lf:Nat)(x1:qaa):∀(n:Nat) (p:Int),Az5 g lf 4 [n] (qit x1 p)=qi8 lf x1 n p
 | 0,p=>qbf 4 [0] rfl _
 | n+1,p=>by
  have ih:=q7f g lf x1 n;refine(qay (qam 20 _) ndz5 okz5 4 [n+1] [n] rfl _).trans ((zd5 g (Az5 g lf) lf x1 n p).trans ?_);rw[(show (fun q=>Az5 g lf 11 [lf] (qii x1 q))=(fun q=>qmf lf x1 lf q) from funext fun q=>qyy g lf x1 lf q),(show (fun q=>Az5 g lf 4 [n] (qit x1 q))=(fun q=>qi8 lf x1 n q) from funext ih)];rfl
def Fz5(lf:Nat)(x1:qaa):Option Rtz5:=qun lf x1 (fun q=>qi8 lf x1 lf q)
theorem zda(g:gz5)(lf:Nat)(x1:qaa):Ez5 g (Az5 g lf) lf x1=Fz5 lf x1:=by
  refine(inz5 g (Az5 g lf) lf x1).trans ?_;rw[(show (fun q=>Az5 g lf 4 [lf] (qit x1 q))=(fun q=>qi8 lf x1 lf q) from funext fun q=>q7f g lf x1 lf q)];rfl
theorem ztl:qa2 Try.prog q28:=⟨zpr,trivial⟩
theorem mkz5{g:gz5}(hsm:SmOK Try.prog q8v)(hg:∀(x:ElA [cGraph]) (y:Rtz5),WfA [cGraph] x->g x=some y->∃lf,Fz5 lf x.1=some y):Con Try.prog 70 ⟨[cGraph],[(false,(.int .i64))],g⟩ :=
 conV (st:=stz5) (fun lf x=>Fz5 lf x.1) cm3 zjo ztl ndz5 okz5 (fun lf x=>zda g lf x.1) hsm hg
abbrev qrl:Type:=Bool × Unit
abbrev zlm:Nat:=121
def q79(lf:Nat)(x1:qaa)(x2:DCol)(x3:DVal):Option qrl:=(cond (ieqI x2.2.1 (Int.ofNat 1)) (some ((ieqI x3.1 (Int.ofNat 1)),())) (cond (ieqI x2.2.1 (Int.ofNat 2)) (some ((ieqI x3.1 (Int.ofNat 2)),())) (cond (ieqI x3.1 (Int.ofNat 3)) (some (true,())) (cond (ieqI x3.1 (Int.ofNat 4)) (cond (keqS x2.2.2 (S.lit [65,78,89])) (some (true,())) (match (jget x1.1 x3.2) with|none=>none|some v0=>(some ((keqS v0.1 x2.2.2),())))) (some (false,()))))))
def qnt(lf:Nat)(x1:qaa)(x2:DCol)(x3:DVal):Option qrl:=q79 lf x1 x2 x3
theorem zku{g:ElA [cGraph,cCol,cVal]->Option qrl}(hsm:SmOK Try.prog [])(hg:∀(x:ElA [cGraph,cCol,cVal]) (y:qrl),WfA [cGraph,cCol,cVal] x->g x=some y->∃lf,qnt lf x.1 x.2.1 x.2.2.1=some y):Con Try.prog 121 ⟨[cGraph,cCol,cVal],[(false,.bool)],g⟩ :=
 conU (fi:=qtd) (hxl:=[]) (fun lf x=>qnt lf x.1 x.2.1 x.2.2.1) cm3 zje trivial hsm hg
def nmz6:Nat->Option Nm:=fun k=>cond (Nat.beq k 2) (some ⟨[0,3,11,12,13],[],[],[],[],0,0,false⟩) (cond (Nat.beq k 8) (some ⟨[0,3,6,11,12,13,31,32,33],[],[],[],[],0,0,false⟩) (none))
def stz6:Nat->Bool:=fun k=>cond (Nat.beq k 2) true (cond (Nat.beq k 8) true (false))
def hdz6:=stz6
abbrev Rtz6:Type:=Bool × Unit
def q5m:List (Nat × Sm):=[(52,qln),(121,qyd)]
def q34:List (Nat × Hx):=[]
def clz6(R:Type)(lf:Nat):ClK R:=qau Try.prog ttT.get ftT.get (nm1 88 nmz6) (smL q5m) (hxL q34) lf 20 R
abbrev idz6:Nat:=88
def qem(x1:(List qac))(x2:qaa)(p:Int):NRes:=(NRes.mk (.node (some (IV.lst cForm x1)) (.node none (.node (some (IV.ptr 0 0)) .leaf (.node (some (IV.lst qah x2.1)) .leaf .leaf)) (.node none .leaf (.node (some (IV.int .i64 p)) .leaf .leaf))) (.node none (.node none .leaf (.node (some (IV.int .i64 (Int.ofNat x2.1.length))) .leaf .leaf)) .leaf)) (IS.mk (.node (some (IObj.row (List.cons (IV.lst qah x2.1) [(IV.lst cVal x2.2)]))) .leaf .leaf) 1) [] 0)
def qhm(x1:(List qac))(x2:qaa)(p:(List DVal) × (List DCol) × ByteArray × Int × Int):NRes:=(NRes.mk (.node (some (IV.lst cForm x1)) (.node none (.node (some (IV.ptr 0 0)) (.node none (.node none (.node (some (IV.lst cCol p.2.1)) .leaf .leaf) .leaf) .leaf) (.node (some (IV.lst qah x2.1)) .leaf .leaf)) (.node none (.node none (.node none (.node (some (IV.int .i64 p.2.2.2.1)) .leaf .leaf) .leaf) .leaf) (.node (some (IV.int .i64 p.2.2.2.2)) .leaf .leaf))) (.node none (.node none (.node none (.node none (.node (some (IV.int .i64 (Int.ofNat p.2.1.length))) .leaf .leaf) .leaf) .leaf) (.node (some (IV.int .i64 (Int.ofNat x2.1.length))) .leaf .leaf)) (.node (some (IV.ptr 1 0)) .leaf .leaf))) (IS.mk (.node (some (IObj.row (List.cons (IV.lst qah x2.1) [(IV.lst cVal x2.2)]))) (.node (some (IObj.row (List.cons (IV.str p.2.2.1) [(IV.lst cVal p.1)]))) .leaf .leaf) .leaf) 2) [] 0)
def q05(lf:Nat)(x1:(List qac))(x2:qaa)(L2:Int->Option Rtz6):Option Rtz6:=(L2 (Int.ofNat 0))
def qp0(lf:Nat)(x1:(List qac))(x2:qaa)(L8:((List DVal) × (List DCol) × ByteArray × Int × Int)->Option Rtz6)(p:Int):Option Rtz6:=(cond (iltI p (Int.ofNat x2.1.length)) (match (jget x2.1 p) with|none=>none|some v0=>(match (jget x1 (S.form x1 v0.1)) with|none=>none|some v1=>(cond (Bool.not (ieqI (Int.ofNat v0.2.length) (Int.ofNat v1.2.length))) (some (false,())) (L8 (v0.2,v1.2,v0.1,(Int.ofNat 0),p))))) (some (true,())))
def qn0(lf:Nat)(x1:(List qac))(x2:qaa)(L8:((List DVal) × (List DCol) × ByteArray × Int × Int)->Option Rtz6)(L2:Int->Option Rtz6)(p:(List DVal) × (List DCol) × ByteArray × Int × Int):Option Rtz6:=(cond (iltI p.2.2.2.1 (Int.ofNat p.2.1.length)) (match (jget p.2.1 p.2.2.2.1) with|none=>none|some v0=>(match (jget p.1 p.2.2.2.1) with|none=>none|some v1=>(match (cond (S.refOK (x2.1,x2.2) (v1.1,v1.2)) (some ((S.suits (x2.1,x2.2) (v0.1,(v0.2.1,v0.2.2)) (v1.1,v1.2)),())) none) with|none=>none|some v2=>(cond (Bool.not v2.1) (some (false,())) (L8 (p.1,p.2.1,p.2.2.1,(IntKind.i64.wrap (Int.add p.2.2.2.1 (Int.ofNat 1))),p.2.2.2.2)))))) (L2 (IntKind.i64.wrap (Int.add p.2.2.2.2 (Int.ofNat 1)))))
abbrev gz6:Type:=ElA [(.list cForm),cGraph]->Option Rtz6
abbrev sz6(g:gz6):Sm:=⟨[(.list cForm),cGraph],[(false,.bool)],g⟩
abbrev Ez6(g:gz6)(J:JT Rtz6)(lf:Nat)(x1:(List qac))(x2:qaa):=qbs Try.prog ttT.get nmz6 fi88.nt (clz6 _ lf) lf stz6 J fi88.body [] (qaq (argV [(.list cForm),cGraph] (x1,x2,())) 0 .leaf) S0 [] (qas ttT.get fi88 (sz6 g))
abbrev Bz6(g:gz6)(J:JT Rtz6)(lf k:Nat)(ms:List Nat)(q:NRes):=qb0 Try.prog ttT.get nmz6 fi88.nt (clz6 _ lf) lf stz6 J k fi88.body [] ms q (qas ttT.get fi88 (sz6 g))
theorem inz6(g:gz6)(J:JT Rtz6)(lf:Nat)(x1:(List qac))(x2:qaa):Ez6 g J lf x1 x2=q05 lf x1 x2 (fun q=>J 2 [lf] (qem x1 x2 q)):=by kernel_rfl
theorem zh9(g:gz6)(J:JT Rtz6)(lf:Nat)(x1:(List qac))(x2:qaa)(m1:Nat)(p:Int):Bz6 g J lf 2 [m1] (qem x1 x2 p)=qp0 lf x1 x2 (fun q=>J 8 [m1,lf] (qhm x1 x2 q)) p:=by kernel_rfl
theorem zou(g:gz6)(J:JT Rtz6)(lf:Nat)(x1:(List qac))(x2:qaa)(m1:Nat)(m2:Nat)(p:(List DVal) × (List DCol) × ByteArray × Int × Int):Bz6 g J lf 8 [m1,m2] (qhm x1 x2 p)=qn0 lf x1 x2 (fun q=>J 8 [m1,m2] (qhm x1 x2 q)) (fun q=>J 2 [m1] (qem x1 x2 q)) p:=by kernel_rfl
theorem ndz6:(regs fi88.body).Nodup:=by decide +kernel
theorem okz6:okC nmz6 stz6 hdz6 fi88.body none=true:=by kernel_rfl
def Az6(g:gz6)(lf:Nat):JT Rtz6:=atN Try.prog ttT.get nmz6 fi88 (sz6 g) (clz6 _ lf) lf hdz6
def qkm(lf:Nat)(x1:(List qac))(x2:qaa)(K2:Int->Option Rtz6):Nat->((List DVal) × (List DCol) × ByteArray × Int × Int)->Option Rtz6:=rounds fun K p=>qn0 lf x1 x2 K K2 p
theorem q0j(g:gz6)(lf:Nat)(x1:(List qac))(x2:qaa)(m1:Nat):∀(n:Nat) (p:(List DVal) × (List DCol) × ByteArray × Int × Int),Az6 g lf 8 [m1,n] (qhm x1 x2 p)=qkm lf x1 x2 (fun q=>Az6 g lf 2 [m1] (qem x1 x2 q)) n p
 | 0,p=>qbf 8 [m1,0] rfl _
 | n+1,p=>by
  have ih:=q0j g lf x1 x2 m1 n;refine(qay (qam 20 _) ndz6 okz6 8 [m1,n+1] [m1,n] rfl _).trans ((zou g (Az6 g lf) lf x1 x2 m1 n p).trans ?_);rw[(show (fun q=>Az6 g lf 8 [m1,n] (qhm x1 x2 q))=(fun q=>qkm lf x1 x2 (fun q=>Az6 g lf 2 [m1] (qem x1 x2 q)) n q) from funext ih)];rfl
def ql3(lf:Nat)(x1:(List qac))(x2:qaa):Nat->(Int)->Option Rtz6:=rounds fun K p=>qp0 lf x1 x2 (fun q=>qkm lf x1 x2 K lf q) p
theorem q6j(g:gz6)(lf:Nat)(x1:(List qac))(x2:qaa):∀(n:Nat) (p:Int),Az6 g lf 2 [n] (qem x1 x2 p)=ql3 lf x1 x2 n p
 | 0,p=>qbf 2 [0] rfl _
 | n+1,p=>by
  have ih:=q6j g lf x1 x2 n;refine(qay (qam 20 _) ndz6 okz6 2 [n+1] [n] rfl _).trans ((zh9 g (Az6 g lf) lf x1 x2 n p).trans ?_);rw[(show (fun q=>Az6 g lf 8 [n,lf] (qhm x1 x2 q))=(fun q=>qkm lf x1 x2 (fun q=>Az6 g lf 2 [n] (qem x1 x2 q)) lf q) from funext fun q=>q0j g lf x1 x2 n lf q),(show (fun q=>Az6 g lf 2 [n] (qem x1 x2 q))=(fun q=>ql3 lf x1 x2 n q) from funext ih)];rfl
def Fz6(lf:Nat)(x1:(List qac))(x2:qaa):Option Rtz6:=q05 lf x1 x2 (fun q=>ql3 lf x1 x2 lf q)
theorem zio(g:gz6)(lf:Nat)(x1:(List qac))(x2:qaa):Ez6 g (Az6 g lf) lf x1 x2=Fz6 lf x1 x2:=by
  refine(inz6 g (Az6 g lf) lf x1 x2).trans ?_;rw[(show (fun q=>Az6 g lf 2 [lf] (qem x1 x2 q))=(fun q=>ql3 lf x1 x2 lf q) from funext fun q=>q6j g lf x1 x2 lf q)];rfl
theorem zfk:qa2 Try.prog q34:=trivial
theorem mkz6{g:gz6}(hsm:SmOK Try.prog q5m)(hg:∀(x:ElA [(.list cForm),cGraph]) (y:Rtz6),WfA [(.list cForm),cGraph] x->g x=some y->∃lf,Fz6 lf x.1 x.2.1=some y):Con Try.prog 88 ⟨[(.list cForm),cGraph],[(false,.bool)],g⟩ :=
 conV (st:=stz6) (fun lf x=>Fz6 lf x.1 x.2.1) cm3 zgn zfk ndz6 okz6 (fun lf x=>zio g lf x.1 x.2.1) hsm hg
abbrev qou:Type:=Int × Unit
abbrev zjr:Nat:=59
def q3e(lf:Nat)(x1:(List qac))(x2:qaa):Option qou:=(cond (Bool.not (ieqI (S.formed (x2.1,x2.2)) (Int.ofNat 0))) (some ((S.formed (x2.1,x2.2)),())) (match (idxO (fun v0=>(some (iltI (S.form x1 v0.1) (Int.ofNat 0)))) x2.1 0) with|none=>none|some v1=>(cond (Bool.not (iltI v1 (Int.ofNat 0))) (some ((Int.ofNat 4),())) (match (cond (S.typedPre x1 (x2.1,x2.2)) (some ((S.typed x1 (x2.1,x2.2) x2.1),())) none) with|none=>none|some v2=>(cond v2.1 (some ((Int.ofNat 0),())) (some ((Int.ofNat 8),())))))))
def qm9(lf:Nat)(x1:(List qac))(x2:qaa):Option qou:=q3e lf x1 x2
theorem zqp{g:ElA [(.list cForm),cGraph]->Option qou}(hsm:SmOK Try.prog [(70,spz5),(52,qln),(88,spz6)])(hg:∀(x:ElA [(.list cForm),cGraph]) (y:qou),WfA [(.list cForm),cGraph] x->g x=some y->∃lf,qm9 lf x.1 x.2.1=some y):Con Try.prog 59 ⟨[(.list cForm),cGraph],[(false,(.int .i64))],g⟩ :=
 conU (fi:=fi59) (hxl:=[(135,qr2 qah)]) (fun lf x=>qm9 lf x.1 x.2.1) cm3 zdw ⟨zt4,trivial⟩ hsm hg
abbrev qri:Type:=Int × Unit
abbrev zi6:Nat:=18
def zak(lf:Nat)(x1:(List qac))(x2:qaa):Option qri:=(cond (Bool.not (ieqI (S.checkForms x1) (Int.ofNat 0))) (some ((S.checkForms x1),())) (some ((S.check x1 (x2.1,x2.2)),())))
def qno(lf:Nat)(x1:(List qac))(x2:qaa):Option qri:=zak lf x1 x2
theorem zpl{g:ElA [(.list cForm),cGraph]->Option qri}(hsm:SmOK Try.prog [(16,spz4),(59,qx0)])(hg:∀(x:ElA [(.list cForm),cGraph]) (y:qri),WfA [(.list cForm),cGraph] x->g x=some y->∃lf,qno lf x.1 x.2.1=some y):Con Try.prog 18 ⟨[(.list cForm),cGraph],[(false,(.int .i64))],g⟩ :=
 conU (fi:=fi18) (hxl:=[]) (fun lf x=>qno lf x.1 x.2.1) cm3 znn trivial hsm hg
theorem zdr(lf:Nat)(n lo hi:Int):qn4 lf n lo hi=some (S.within n lo hi,()):=by
 simp only[qn4,q8b,S.within,qan,qdl];by_cases h1:n<lo
 ·simp[h1];omega
 ·by_cases h2:hi<n<;>simp [h1,h2]<;>omega
theorem qzw:Con Try.prog zq2 qs5:=zj9 trivial fun x y _ h=>⟨0,(zdr _ _ _ _).trans h⟩
theorem zum(l:List Int)(hl:l.length<LF):Fz1 LF l=some (S.first l,()):=by
 refine qcg (R:=Rtz1) l (fun rest _=>some (S.first rest,())) hl (fun K=>?_) (fun K i v rest r h=>?_)
 ·simp only[qq8,qbd,jae];rfl
 ·simp only[qq8,r.ilt,r.get,r.next,h,jaa,S.first,qat,qdl];by_cases hv:v=0
  ·simp[hv]
  ·simp[hv]
theorem q3c:Con Try.prog idz1 spz1:=mkz1 trivial fun x y hx h=>⟨LF,(zum _ (qbu hx.1)).trans h⟩
theorem zpq(lf:Nat)(l:List qac)(n:ByteArray):qn7 lf l n=some (S.form l n,()):=by
 simp only[qn7,q3j];rw[qkc (l:=l) (fun f:qac=>keqS f.1 n) fun x _=>rfl];rfl
theorem qo8:Con Try.prog zib qln:=zsl trivial fun x y _ h=>⟨0,(zpq _ _ _).trans h⟩
theorem zo8(lf:Nat)(l:List DCol)(n:ByteArray):qni lf l n=some (S.col l n,()):=by
 simp only[qni,q9p];rw[qkc (l:=l) (fun f:DCol=>keqS f.1 n) fun x _=>rfl];rfl
theorem zka:Con Try.prog zgc q48:=ze3 trivial fun x y _ h=>⟨0,(zo8 _ _ _).trans h⟩
theorem zre{s:ByteArray}(h:0<s.size):∃b,(qa1 s)[0]?=some b:=by
 unfold qa1;have:0<s.data.toList.length:=by simpa using h
 exact⟨_,by rw[jcd,jab this];rfl⟩
theorem zn9{s:ByteArray}(h:¬s=S.lit []):0<s.size:=by
 rcases jeb s.size with h0|h0
 ·exfalso;apply h;obtain⟨a⟩:=s;have:a=#[]:=by simpa [ByteArray.size] using h0
  rw[this];rfl
 ·exact h0
theorem zgx(lf:Nat)(s:ByteArray)(lo hi:Int)(h1:IntKind.u8.wrap lo=lo)(h2:IntKind.u8.wrap hi=hi):qnr lf s lo hi=some (S.named s lo hi,()):=by
 have w1:IntKind.i32.wrap lo=lo:=by rw[qe1] at *;simp [IntKind.min,IntKind.max,IntKind.bits,IntKind.signed] at *;omega
 have w2:IntKind.i32.wrap hi=hi:=by rw[qe1] at *;simp [IntKind.min,IntKind.max,IntKind.bits,IntKind.signed] at *;omega
 simp only[qnr,q91,S.named,w1,w2];by_cases hs:s=S.lit []
 ·subst hs;simp [keqS]
 have hp:=zn9 hs;rw[jak hs,show keqS s (S.lit [])=false by simp[keqS,hs],jae];by_cases h20:20<s.size
 ·rw[jam h20,show iltI (Int.ofNat 20) (Int.ofNat s.size)=true by rw[qan];exact jaj (jd9.2 h20),jaa]
 rw[jak h20,show iltI (Int.ofNat 20) (Int.ofNat s.size)=false by rw[qan];simp;omega,jae];obtain⟨b,hb⟩:=zre hp;have hj:jget (qa1 s) (Int.ofNat 0)=some b:=by rw[qcz,hb]
 simp only[hj,hb,qan,qdl,jbc];by_cases hlo:b<lo
 ·rw[jam hlo,jam hlo]
 rw[jak hlo,jak hlo];by_cases hhi:hi<b
 ·rw[jam hhi,jam hhi]
 rw[jak hhi,jak hhi];have e:(fun(v2:Nat) (v3:Int)=>(if (!decide (v3<lo))=true then if (!decide (hi<v3))=true then some false else if (!decide (v3<Int.ofNat 48))=true then if (!decide (Int.ofNat 57<v3))=true then some false else some (!ieqI v3 (Int.ofNat 95)) else some (!ieqI v3 (Int.ofNat 95)) else if (!decide (v3<Int.ofNat 48))=true then if (!decide (Int.ofNat 57<v3))=true then some false else some (!ieqI v3 (Int.ofNat 95)) else some (!ieqI v3 (Int.ofNat 95)):Option Bool))=fun _ r=>some (S.badR r lo hi):=by
  funext _ r;have e48:Int.ofNat 48=48:=rfl;have e57:Int.ofNat 57=57:=rfl;have e95:Int.ofNat 95=95:=rfl;simp only[S.badR,qat,e48,e57,e95];by_cases a:r<lo<;>by_cases b:hi<r<;>by_cases c:r<48<;>by_cases d:57<r<;>by_cases e:r=95<;>simp [a,b,c,d,e]<;>omega
 rw[e];have e0:Int.ofNat 0=0:=rfl;obtain⟨k,hk⟩:=qzf (p:=fun _ r=>some (S.badR r lo hi)) (q:=fun r=>S.badR r lo hi) (fun _ _=>rfl) s true (s.size+1) 0 (by omega);have hk2:sixO (fun _ r=>some (S.badR r lo hi)) s true (Nat.add s.size 1) 0=some k:=hk;simp only[hk,hk2,e0]
theorem qzb:Con Try.prog zpv qsw:=zms trivial fun x y hx h=>⟨0,(zgx _ _ _ _ hx.2.1 hx.2.2.1).trans h⟩
theorem zlw(l:List ByteArray)(v:ByteArray)(hl:l.length<LF):Fz2 LF l v=some (S.index l v,()):=by
 refine(qcg (R:=Rtz2) l (fun rest i=>some ((match rest.findIdx? (fun x=>keqS v x) with|some j=>Int.ofNat (i+j)|none=>-1),())) hl (fun K=>?_) (fun K i w rest r h=>?_)).trans ?_
 ·simp only[qrg,qbd,jae];rfl
 ·simp only[qrg,r.ilt,r.get,r.next,h,jaa,List.findIdx?_cons];cases keqS v w with
  | true=>rfl
  | false =>
   simp only[jae];cases List.findIdx? (fun x=>keqS v x) rest with
   | none=>rfl
   | some j=>simp;omega
 ·simp only[S.index,S.idx,ja4];all_goals rfl
theorem q5c:Con Try.prog idz2 spz2:=mkz2 trivial fun x y hx h=>⟨LF,(zlw _ _ (qbu hx.1)).trans h⟩
theorem zb6(lf:Nat)(s:ByteArray):qpl lf s=some (S.class_ s,()):=by
 simp only[qpl,q70,S.class_,qan];have e1:Int.ofNat 65=65:=rfl;have e2:Int.ofNat 90=90:=rfl;rw[e1,e2];cases S.named s 65 90
 ·rfl
 ·simp;rfl
theorem zb3:Con Try.prog zl1 q61:=zss ⟨qzb,q5c,trivial⟩ fun x y hx h=>⟨LF,(zb6 _ _).trans h⟩
theorem zb4(lf:Nat)(s:ByteArray):qr0 lf s=some (S.small s,()):=by
 simp only[qr0,q0a,S.small,qan];have e1:Int.ofNat 97=97:=rfl;have e2:Int.ofNat 122=122:=rfl;rw[e1,e2];cases S.named s 97 122
 ·rfl
 ·simp;rfl
theorem zj1:Con Try.prog zg7 q7y:=zst ⟨qzb,q5c,trivial⟩ fun x y hx h=>⟨LF,(zb4 _ _).trans h⟩

theorem q8w{α:Type}(l:List α){i:Nat}(h:i<=l.length):lchk (Int.ofNat 0) (Int.ofNat i) (Int.ofNat l.length) (Int.ofNat l.length)=true:=by
 simp[lchk,qan];omega
theorem q21{α:Type}(l:List α)(i:Nat):lsub l (Int.ofNat 0) (Int.ofNat i)=l.take i:=by
 simp[lsub]
theorem za8(l:List DCol)(hl:l.length<LF):Fz3 LF l=some (S.checkCols l,()):=by
 simp only[Fz3,que,S.checkCols];by_cases h30:30<l.length
 ·rw[jam h30,show iltI (Int.ofNat 30) (Int.ofNat l.length)=true by rw[qan];exact jaj (jd9.2 h30)];rfl
 rw[jak h30,show iltI (Int.ofNat 30) (Int.ofNat l.length)=false by rw[qan];exact jai (fun h=>h30 (jd9.1 h)),jae];refine qcg (R:=Rtz3) l (fun rest i=>some (S.ccGo l i rest,())) hl (fun K=>?_) (fun K i v rest r h=>?_)
 ·simp only[qqe,qbd,jae];rfl
 ·simp only[qqe,r.ilt,r.get,r.next,h,jaa,q8w l (jc0 r.lt),q21,S.ccGo,qan,qat,keqS,qdl];simp only[oL];generalize S.small v.1=b1;generalize S.within v.2.1 1 3=b2;by_cases hc:S.col (l.take i) v.1<0<;>by_cases h3:v.2.1=3<;>by_cases hn:v.2.2=S.lit []<;>cases b1<;>cases b2<;>simp [hc,h3,hn]
theorem zgg:Con Try.prog idz3 spz3:=mkz3 ⟨zj1,zka,qzw,trivial⟩ fun x y hx h=>⟨LF,(za8 _ (qbu hx.1)).trans h⟩
theorem ze4(x1:List qac)(K11:Int->Option Rtz4)(f:qac)(hf:f.2.length<LF)(i:Nat) :
  qmc LF x1 K11 LF (f.2,Int.ofNat 0,Int.ofNat i)=if S.cfIn x1 f.2=true then K11 (IntKind.i64.wrap (Int.add (Int.ofNat i) (Int.ofNat 1))) else some (5,()):=by
 refine range0 (σ:=Unit) (R:=Rtz4) f.2 (fun k _=>(f.2,k,Int.ofNat i)) (fun _ _=>True) (fun rest _ _=>if S.cfIn x1 rest=true then K11 (IntKind.i64.wrap (Int.add (Int.ofNat i) (Int.ofNat 1))) else some (5,())) hf (fun K s _=>?_) (fun K k c rest s _ r h=>?_) () trivial
 ·simp only[qr7,qbd,jae];rfl
 ·have h:=h () trivial;have e3:Int.ofNat 3=3:=rfl;have e0:Int.ofNat 0=0:=rfl;simp only[qr7,r.ilt,r.get,r.next,h,jaa,qan,qat,keqS,qdl,S.cfIn];simp only[e3,e0];have ea:S.lit [65,78,89]=S.ANY:=rfl;simp only[ea,jbc,jct,decide_eq_false_iff_not];by_cases h3:c.2.1=3<;>by_cases hn:c.2.2=S.ANY<;>by_cases hf:S.form x1 c.2.2<0<;>simp [h3,hn,hf]
theorem zqo(x1:List qac)(hl:x1.length<LF)(hw:∀f∈x1,f.2.length<LF):qlq LF x1 LF (Int.ofNat 0)=some (S.cfGo2 x1 x1,()):=by
 refine qcg (R:=Rtz4) x1 (fun rest i=>some (S.cfGo2 x1 rest,())) hl (fun K=>?_) (fun K i v rest r h=>?_)
 ·simp only[qr1,qbd,jae];rfl
 ·simp only[qr1,r.ilt,r.get,jaa];refine(ze4 x1 K v (hw v r.mem) i).trans ?_;rw[r.next,h];simp only[S.cfGo2];split<;>rfl
theorem zdh(a b c:Int):S.first [a,b,c]=if a=0 then (if b=0 then c else b) else a:=by
 simp only[S.first];split
 ·split
  ·split<;>simp_all
  ·rfl
 ·rfl
theorem zsg(l:List qac)(hl:l.length<LF)(hw:∀f∈l,f.2.length<LF):Fz4 LF l=some (S.checkForms l,()):=by
 simp only[Fz4,qs2,S.checkForms];by_cases h24:24<l.length
 ·rw[jam h24,show iltI (Int.ofNat 24) (Int.ofNat l.length)=true by rw[qan];exact jaj (jd9.2 h24)];rfl
 rw[jak h24,show iltI (Int.ofNat 24) (Int.ofNat l.length)=false by rw[qan];exact jai (fun h=>h24 (jd9.1 h)),jae];refine qcg (R:=Rtz4) l (fun rest i=>some (S.cfGo l i rest,())) hl (fun K=>?_) (fun K i v rest r h=>?_)
 ·simp only[qrj,qbd,jae,S.cfGo];exact zqo l hl hw
 ·have e0:Int.ofNat 0=0:=rfl;simp only[qrj,r.ilt,r.get,r.next,h,jaa,q8w l (jc0 r.lt),q21,S.cfGo,qan,qat,qdl,S.unlessE,zdh];simp only[e0];have e4:Int.ofNat 4=4:=rfl;have e6:Int.ofNat 6=6:=rfl;simp only[e4,e6];cases S.class_ v.1<;>by_cases hf:S.form (l.take i) v.1<0<;>by_cases hc:S.checkCols v.2=0<;>simp [hf,hc]
theorem q2e:Con Try.prog idz4 spz4:=mkz4 ⟨zb3,qo8,zgg,q3c,trivial⟩ fun x y hx h=>⟨LF,(zsg _ (qbu hx.1) fun f hf=>qbu (hx.1.2 f hf).2).trans h⟩

theorem zp0(lf:Nat)(v:DVal)(many:Int):qn6 lf v many=some (S.value v many,()):=by
 simp only[qn6,qyh,S.value,qat,qdl];simp only[oL,oLn,jbc];split
 ·rfl
 split
 ·rfl
 split
 ·rfl
 split<;>rfl
theorem zfh:Con Try.prog zos qzd:=zmy ⟨qzw,trivial⟩ fun x y hx h=>⟨LF,(zp0 _ _ _).trans h⟩
theorem qpe{α:Type}(p:α->Bool)(l:List α):(!iltI (S.idx p l) (Int.ofNat 0))=l.any p:=by
 have:=S.idx_nonneg p l;rw[qan,jcg];simp only[oL,jct,decide_eq_false_iff_not,Int.not_lt];exact this
theorem zrr{α:Type}(p:α->Bool)(l:List α):(!iltI (S.idx p l) 0)=l.any p:=qpe p l
theorem zil(g:qaa)(hl:g.1.length<LF):qmf LF g LF (Int.ofNat 0)=some ((if g.1.any (fun n=>n.2.any fun v=>!S.value v (Int.ofNat g.1.length)) then 2 else if g.2.any (fun v=>!S.value v (Int.ofNat g.1.length)||!S.refers v) then 2 else 0),()):=by
 refine(qcg (R:=Rtz5) g.1 (fun rest i=>some ((if rest.any (fun n=>n.2.any fun v=>!S.value v (Int.ofNat g.1.length)) then 2 else if g.2.any (fun v=>!S.value v (Int.ofNat g.1.length)||!S.refers v) then 2 else 0),())) hl (fun K=>?_) (fun K i n rest r h=>?_))
 ·simp only[qns,qbd,jae];rw[qkc (l:=g.2) (fun v:DVal=>!S.value v (Int.ofNat g.1.length)||!S.refers v) fun v _=>?_]
  ·simp only[qpe,qdl,List.any_nil,jct,oL];simp only[zrr];cases h:(g.2.any fun v=>!S.value v (Int.ofNat g.1.length)||!S.refers v)<;>rfl
  ·simp only[S.refers,qat,oL,qdl];generalize S.value (v.1,v.2) (Int.ofNat g.1.length)=b;by_cases h3:v.1=3<;>by_cases h4:v.1=4<;>cases b<;>simp [h3,h4]
 ·simp only[qns,r.ilt,r.get,r.next,h,jaa,Prod.eta];rw[qkc (l:=n.2) (fun v:DVal=>!S.value v (Int.ofNat g.1.length)) fun v _=>rfl];simp only[qpe];have e2:(n::rest).any (fun n=>n.2.any fun v=>!S.value v (Int.ofNat g.1.length))=((n.2.any fun v=>!S.value v (Int.ofNat g.1.length))||rest.any (fun n=>n.2.any fun v=>!S.value v (Int.ofNat g.1.length))):=rfl;rw[e2];cases hb:(n.2.any fun v=>!S.value v (Int.ofNat g.1.length)) with
  | true=>rw[jaa,Bool.true_or,jam rfl];rfl
  | false=>rw[jae,je6]
theorem zj3(g:qaa)(hl:g.1.length<LF):qi8 LF g LF (Int.ofNat 0)=some ((if g.1.any (fun n=>decide (30<n.2.length)) then 3 else if g.1.any (fun n=>n.2.any fun v=>!S.value v (Int.ofNat g.1.length)) then 2 else if g.2.any (fun v=>!S.value v (Int.ofNat g.1.length)||!S.refers v) then 2 else 0),()):=by
 refine(qcg (R:=Rtz5) g.1 (fun rest i=>some ((if rest.any (fun n=>decide (30<n.2.length)) then 3 else if g.1.any (fun n=>n.2.any fun v=>!S.value v (Int.ofNat g.1.length)) then 2 else if g.2.any (fun v=>!S.value v (Int.ofNat g.1.length)||!S.refers v) then 2 else 0),())) hl (fun K=>?_) (fun K i n rest r h=>?_))
 ·simp only[qoi,qbd,jae];exact zil g hl
 ·have e:(iltI (Int.ofNat 30) (Int.ofNat n.2.length))=decide (30<n.2.length):=by
   rw[qan,jcg];simp only[jbc];exact jd9
  simp only[qoi,r.ilt,r.get,r.next,h,jaa,e];have e2:(n::rest).any (fun n=>decide (30<n.2.length))=(decide (30<n.2.length)||rest.any (fun n=>decide (30<n.2.length))):=rfl;rw[e2];by_cases hb:30<n.2.length
  ·rw[jaj hb,jaa,Bool.true_or,jam rfl];rfl
  ·rw[jai hb,jae,je6]
theorem qiw(a b:Nat):iltI (Int.ofNat a) (Int.ofNat b)=decide (a<b):=by
 rw[qan,jcg];simp only[jbc];exact jd9
theorem zqx(g:qaa)(hl:g.1.length<LF):Fz5 LF g=some (S.formed g,()):=by
 simp only[Fz5,qun,S.formed,qiw,qdl];by_cases h1:400<g.1.length
 ·simp[h1,oL]
 by_cases h2:60<g.2.length
 ·simp[h1,h2,oL]
 rw[jak (by simpa using h1),jak (by simpa using h2),jak (by omega)];exact zj3 g hl
theorem quc:Con Try.prog idz5 spz5:=mkz5 ⟨zfh,trivial⟩ fun x y hx h=>⟨LF,(zqx _ (qbu hx.1.1)).trans h⟩
theorem zgi(lf:Nat)(g:qaa)(c:DCol)(v:DVal)(h:S.refOK g v=true):qnt lf g c v=some (S.suits g c v,()):=by
 simp only[qnt,q79,S.suits,qat,keqS,qdl];have ea:S.lit [65,78,89]=S.ANY:=rfl;simp only[ea,oL,jbc];by_cases h1:c.2.1=1
 ·simp[h1]
 by_cases h2:c.2.1=2
 ·simp[h2]
 by_cases h3:v.1=3
 ·simp[h1,h2,h3]
 by_cases h4:v.1=4
 ·unfold S.refOK at h;obtain⟨a,b⟩:=ja6 h h4;obtain⟨x,e1,e2,e3⟩:=qd1 a b;have e4:S.at_ S.zNode g.1 v.2=x:=by unfold S.at_;rw[e2];rfl
  rw[e1,e4];by_cases hA:c.2.2=S.ANY<;>simp [h1,h2,h3,h4,hA]
 ·simp[h1,h2,h3,h4]
theorem zgm:Con Try.prog zlm qyd:=zku trivial fun x y hx h=>⟨0,by
 have h:cond (S.refOK x.1 x.2.2.1) (some (S.suits x.1 x.2.1 x.2.2.1,())) none=some y:=h;cases hr:S.refOK x.1 x.2.2.1 with
 | false=>rw[hr] at h;cases h
 | true=>rw[hr] at h;exact(zgi _ _ _ _ hr).trans h⟩
theorem qt0(a b:Nat):ieqI (Int.ofNat a) (Int.ofNat b)=decide (a=b):=by
 rw[qat,jcg];simp only[jbc];exact Int.ofNat_inj
theorem zmp(l:List qac)(g:qaa)(K2:Int->Option Rtz6)(nm:ByteArray)(vs:List DVal)(hv:∀v∈vs,S.refOK g v=true)(cs:List DCol)(hc:cs.length<LF)(hlen:vs.length=cs.length)(i:Nat) :
  qkm LF l g K2 LF (vs,cs,nm,Int.ofNat 0,Int.ofNat i)=if S.suitsAll g cs vs=true then K2 (IntKind.i64.wrap (Int.add (Int.ofNat i) (Int.ofNat 1))) else some (false,()):=by
 refine range0 (σ:=Unit) (R:=Rtz6) cs (fun k _=>(vs,cs,nm,k,Int.ofNat i)) (fun _ _=>True) (fun rest k _=>if S.suitsAll g rest (vs.drop k)=true then K2 (IntKind.i64.wrap (Int.add (Int.ofNat i) (Int.ofNat 1))) else some (false,())) hc (fun K s _=>?_) (fun K k c rest s _ r h=>?_) () trivial
 ·simp only[qn0,qbd,jae,S.suitsAll];rfl
 ·have h:=h () trivial;have hk:k<vs.length:=by rw[hlen];exact r.lt
  have hj:jget vs (Int.ofNat k)=some vs[k]:=by rw[qcz];exact jab hk
  have hr:=hv _ (jaz hk);rw[jbs hk,S.suitsAll];simp only[qn0,r.ilt,r.get,r.next,h,jaa,hj,Prod.eta,hr];cases S.suits g c vs[k]<;>simp
theorem zqt(l:List qac)(g:qaa)(hl:g.1.length<LF)(hw:∀f∈l,f.2.length<LF)(hp:S.typedPre l g=true):Fz6 LF l g=some (S.typed l g g.1,()):=by
 show ql3 LF l g LF (Int.ofNat 0)=_;refine qcg (R:=Rtz6) g.1 (fun rest i=>some (S.typed l g rest,())) hl (fun K=>?_) (fun K i n rest r h=>?_)
 ·simp only[qp0,qbd,jae,S.typed]
 ·unfold S.typedPre at hp;have hn:=ja3.1 hp n r.mem;simp only[jaf,jbc] at hn;obtain⟨f,f1,f2,f3,f4,f5,f6⟩:=S.idx_get (p:=fun f:qac=>keqS f.1 n.1) (l:=l) hn.1;have f1':jget l (S.form l n.1)=some f:=f1;have hc:S.colsOf l n.1=f.2:=by
   unfold S.colsOf S.at_ S.form;rw[f2];rfl
  simp only[qp0,r.ilt,r.get,f1',jaa,qt0];rw[S.typed,hc];by_cases hlen:n.2.length=f.2.length
  ·rw[jam hlen,jaj hlen,jbf,jae];refine(zmp l g K n.1 n.2 (ja3.1 hn.2) f.2 (hw f f4) hlen i).trans ?_;rw[r.next,h];split<;>rfl
  ·rw[jak hlen,jai hlen,ja7,jaa]
theorem q9j:Con Try.prog idz6 spz6:=mkz6 ⟨qo8,zgm,trivial⟩ fun x y hx h=>⟨LF,by
 have h:cond (S.typedPre x.1 x.2.1) (some (S.typed x.1 x.2.1 x.2.1.1,())) none=some y:=h;cases hr:S.typedPre x.1 x.2.1 with
 | false=>rw[hr] at h;cases h
 | true=>rw[hr] at h;exact(zqt _ _ (qbu hx.2.1.1) (fun f hf=>qbu (hx.1.2 f hf).2) hr).trans h⟩
theorem zqc{g:qaa}{v:DVal}(hl:g.1.length<LF)(h:S.value v (Int.ofNat g.1.length)=true):S.refOK g v=true:=by
 unfold S.refOK;refine jaj fun h4=>?_;unfold S.value at h;have hw:IntKind.i64.wrap (Int.sub (Int.ofNat g.1.length) (Int.ofNat 1))=(g.1.length:Int)-1:=qma (by
  unfold LF at hl;show -9223372036854775808<=(g.1.length:Int)-1/\(g.1.length:Int)-1<9223372036854775808;omega)
 rw[hw] at h;simp[h4,S.within] at h;omega
theorem qlg{g:qaa}(h:S.formed g=0):g.1.length<=400/\g.2.length<=60/\(∀n∈g.1,n.2.length<=30)/\(∀n∈g.1,∀v∈n.2,S.value v (Int.ofNat g.1.length)=true)/\∀v∈g.2,S.value v (Int.ofNat g.1.length)=true/\S.refers v=true:=by
 unfold S.formed at h;split at h
 ·cases h
 split at h
 ·cases h
 split at h
 ·cases h
 split at h
 ·cases h
 rename_i h1 h2 h3 h4;simp only[jc1,not_exists,not_and,jbc,jct,je3,jc7,not_or] at h2 h3 h4;exact⟨by omega,by omega,fun n hn=>by have:=h2 n hn;omega,fun n hn v hv=>h3 n hn v hv,fun v hv=>h4 v hv⟩
theorem q4e(a:Int):(!ieqI a (Int.ofNat 0))=decide (¬a=0):=by
 rw[qat,jcg];simp [oL]
theorem zf0{l:List qac}{g:qaa}(hl:g.1.length<LF)(h0:S.formed g=0)(hb:g.1.any (fun n=>decide (S.form l n.1<0))=false):S.typedPre l g=true:=by
 obtain⟨_,_,_,hv,_⟩:=qlg h0;unfold S.typedPre;rw[ja3];intro n hn;simp only[jaf,jbc,ja3];rw[je2] at hb;have:=hb n hn;simp only[jbc] at this;exact⟨by omega,fun v hv2=>zqc hl (hv n hn v hv2)⟩
theorem zii(lf:Nat)(l:List qac)(g:qaa)(hl:g.1.length<LF):qm9 lf l g=some (S.check l g,()):=by
 simp only[qm9,q3e,S.check,Prod.eta,q4e];by_cases h0:S.formed g=0
 ·rw[jai (by simpa using h0),jae,jak (by simpa using h0)];rw[qkc (l:=g.1) (fun n:qab=>decide (S.form l n.1<0)) fun v _=>by rw[qan];rfl];simp only[qpe];cases hb:g.1.any (fun n=>decide (S.form l n.1<0)) with
  | true=>rw[jaa,jam rfl];rfl
  | false =>
   rw[zf0 hl h0 hb,jae,jak (by simp)];simp only[jaa,S.unlessE];cases S.typed l g g.1<;>rfl
 ·rw[jaj (by simpa using h0),jaa,jam (by simpa using h0)]
theorem zd0:Con Try.prog zjr qx0:=zqp ⟨quc,qo8,q9j,trivial⟩ fun x y hx h=>⟨LF,(zii _ _ _ (qbu hx.2.1.1)).trans h⟩
theorem ztw(lf:Nat)(l:List qac)(g:qaa):qno lf l g=some (S.checkG l g,()):=by
 simp only[qno,zak,S.checkG,Prod.eta,q4e];by_cases h0:S.checkForms l=0
 ·rw[jai (by simpa using h0),jae,jak (by simpa using h0)]
 ·rw[jaj (by simpa using h0),jaa,jam (by simpa using h0)]
theorem zek:Con Try.prog zi6 qyc:=zpl ⟨q2e,zd0,trivial⟩ fun x y hx h=>⟨LF,(ztw _ _ _).trans h⟩

end Go.Proofs.Ytcnhjofpmpipfaa
end

section
namespace Go.Jx
open Go Go.Sx Go.RowKit
universe u

structure ObjTo (E:Env) (S:IS) (E':Env) (id k:Nat) (o:IObj):Prop where
 rel:OR E' k o
 live:o.live=true->∃o0,S.H id=some o0/\o0.live=true
 blk:o.blk=true->E'.hb k=true
theorem qzh{B:Nat}{q:List Nat}(hnd:q.Nodup)(hqB:∀id∈q,B<=id):∀i j,i<B+q.length->j<B+q.length->ol B q i=ol B q j->i=j:=fun i j hi hj h=>by
 have hol:∀id,B<=id->id<B+q.length->B<=ol B q id:=fun id h1 h2=>by
  have h3:id-B<q.length:=by omega
  unfold ol;rw[jak (by omega),jal,jab h3];exact hqB _ (jaz h3)
 rcases jbr i B with h1|h1
 ·have e1:ol B q i=i:=jam h1;rcases jbr j B with h2|h2
  ·rwa [e1,show ol B q j=j from jam h2] at h
  ·have:=hol j h2 hj;omega
 ·rcases jbr j B with h2|h2
  ·have e2:ol B q j=j:=jam h2;have:=hol i h1 hi;omega
  ·have h3:i-B<q.length:=by omega
   have h4:j-B<q.length:=by omega
   have e1:ol B q i=q[i-B]:=by unfold ol;rw[jak (by omega),jal,jab h3];rfl
   have e2:ol B q j=q[j-B]:=by unfold ol;rw[jak (by omega),jal,jab h4];rfl
   rw[e1,e2] at h;have:=(je8 hnd).1 h;omega
theorem qbo{q:List Nat}{k:Nat}(h:k<q.length):ol 0 q k∈q/\q[k]?=some (ol 0 q k):=by
 have e:ol 0 q k=q[k]:=by unfold ol;rw[jak (by omega),jc4,jal,jab h];rfl
 rw[e];exact⟨jaz h,jab h⟩
theorem qs8{q:List Nat}{id:Nat}(h:id∈q):∃k,k<q.length/\ol 0 q k=id:=by
 obtain⟨k,hk,rfl⟩:=jbq.1 h;refine⟨k,hk,?_⟩;unfold ol;rw[jak (by omega),jc4,jal,jab hk];rfl
theorem Pre.re{T:TW}{E:Env}{S S':IS}{q:List Nat}(p:Pre T E S)(hn:q.Nodup)(hT:∀id∈q,T.r id)(hN:S'.next=q.length)
  (ho:∀k o,k<q.length->E.A (ol 0 q k)->S'.H k=some o->ObjTo E S (renE 0 q E) (ol 0 q k) k o):Pre T0 (renE 0 q E) S':=by
 have hl:∀k,(renE 0 q E).A k->k<q.length:=fun k h=>by have:=h.1;omega
 have hTr:∀k,k<q.length->T.r (ol 0 q k):=fun k h=>hT _ (qbo h).1;have hlv:∀k,(renE 0 q E).A k->Live (renE 0 q E) S'.H k->Live E S.H (ol 0 q k):=fun k ha ⟨h0,o,h1,h2⟩=>⟨h0,(ho k o (hl k ha) ha.2 h1).live h2⟩
 refine⟨⟨fun k _ ha o h=>(ho k o (hl k ha) ha.2 h).rel,fun k _ ha o h hb=>(ho k o (hl k ha) ha.2 h).blk hb,fun k _ ha h=>p.st.own _ (hTr k (hl k ha)) ha.2 (hlv k ha h),
  fun i j _ _ c d e f h=>qzh hn (fun _ _=>jbn _) i j (by have:=hl i c;omega) (by have:=hl j d;omega) (p.st.inj _ _ (hTr i (hl i c)) (hTr j (hl j d)) c.2 d.2 (hlv i c e) (hlv j d f) h),p.st.lo⟩,fun k ha=>by rw[hN];exact hl k ha,fun _ _=>trivial,p.gl⟩
theorem PostB.re{T:TW}{E:Env}{S S':IS}{B:Nat}{q:List Nat}(p:Pre T E S)(hT:∀id,B<=id->T.w id)(hn:q.Nodup)(hqB:∀id∈q,B<=id)(hN:S'.next=B+q.length)
  (ho:∀k o,k<B+q.length->E.A (ol B q k)->S'.H k=some o->ObjTo E S (renE B q E) (ol B q k) k o):PostB B T E S (renE B q E) S':=by
 have hol:∀id,B<=id->id<B+q.length->B<=ol B q id:=fun id h1 h2=>by
  have h3:id-B<q.length:=by omega
  unfold ol;rw[jak (by omega),jal,jab h3];exact hqB _ (jaz h3)
 have hTr:∀id,id<B+q.length->T.r id->T.r (ol B q id):=fun id h1 h2=>by
  rcases jbr id B with h3|h3
  ·rw[show ol B q id=id from jam h3];exact h2
  ·exact T.sub _ (hT _ (hol id h3 h1))
 have hlv:∀k,(renE B q E).A k->Live (renE B q E) S'.H k->Live E S.H (ol B q k):=fun k ha ⟨h0,o,h1,h2⟩=>⟨h0,(ho k o ha.1 ha.2 h1).live h2⟩
 refine⟨⟨fun k ht ha o h=>(ho k o ha.1 ha.2 h).rel,fun k ht ha o h hb=>(ho k o ha.1 ha.2 h).blk hb,fun k ht ha h=>p.st.own _ (hTr k ha.1 ht) ha.2 (hlv k ha h),
  fun i j a b c d e f h=>qzh hn hqB i j c.1 d.1 (p.st.inj _ _ (hTr i c.1 a) (hTr j d.1 b) c.2 d.2 (hlv i c e) (hlv j d f) h),p.st.lo⟩,
  rfl,rfl,rfl,jar _,fun _ _ _=>rfl,fun id hb hA=>?_,fun id hb ha hl=>.inr ⟨ol B q id,hT _ (hol id hb ha.1),ha.2,hlv id ha hl,rfl⟩,fun id hb ht ha hl=>?_,fun b h=>.inl h,fun b h _=>.inl h,fun id ha=>by rw[hN];exact ha.1,by rw[hN];exact jdq _ _,fun id hb ha=>?_⟩
 ·have e:ol B q id=id:=jam hb;exact⟨⟨by omega,by rw[e];exact hA⟩,by simp only[renE,e],by simp only[renE,e],by simp only[renE,e],by simp only[renE,e]⟩
 ·have e:ol B q id=id:=jam hb;have:=hlv id ⟨by omega,by rw[e];exact ha⟩ hl
  rwa [e] at this
 ·have e:ol B q id=id:=jam hb;have:=ha.2
  rwa [e] at this
def mrgR(E Er:Env)(n m:Nat):Env :=
 ⟨fun id=>if id<n then E.ρ id else Er.ρ (id-n+m),fun id=>if id<n then E.κ id else Er.κ (id-n+m),fun id=>if id<n then E.hd id else Er.hd (id-n+m),fun id=>if id<n then E.hb id else Er.hb (id-n+m),
  fun id=>(id<n/\E.A id)\/(n<=id/\Er.A (id-n+m)),Er.m,Er.w⟩
section
variable {E Er : Env} {n m : Nat}
theorem qcl{id:Nat}(h:id<n):(mrgR E Er n m).ρ id=E.ρ id/\(mrgR E Er n m).κ id=E.κ id/\(mrgR E Er n m).hd id=E.hd id/\(mrgR E Er n m).hb id=E.hb id:=by
 refine⟨?_,?_,?_,?_⟩<;>simp only[mrgR,jam h]
theorem qh2{k:Nat}(h:m<=k):(mrgR E Er n m).ρ (n+(k-m))=Er.ρ k/\(mrgR E Er n m).κ (n+(k-m))=Er.κ k/\(mrgR E Er n m).hd (n+(k-m))=Er.hd k/\(mrgR E Er n m).hb (n+(k-m))=Er.hb k/\(Er.A k->(mrgR E Er n m).A (n+(k-m))):=by
 have h1:¬n+(k-m)<n:=by omega
 have h2:n+(k-m)-n+m=k:=by omega
 refine⟨?_,?_,?_,?_,fun hA=>.inr ⟨by omega,by rw[h2];exact hA⟩⟩<;>simp only[mrgR,jak h1,h2]
theorem q60{T:TW}{S Sx Sr S':IS}{q:List Nat}(p:Pre T E S)(hnd:q.Nodup)(hT:∀id∈q,T.w id)(hA:∀id∈q,E.A id)(hm:m<=q.length)(hn:n=S.next)
   (hsx:∀k,k<q.length->Live (renE 0 q E) Sx.H k->Live E S.H (ol 0 q k)) (h:PostB m T0 (renE 0 q E) Sx Er Sr)
   (hN:S'.next=n+(Sr.next-m))
   (h1:∀id,id<n->id ∉ q->S'.H id=S.H id)
   (h2:∀k o,k<m->S'.H (ol 0 q k)=some o->ObjTo Er Sr (mrgR E Er n m) k (ol 0 q k) o)
   (h3:∀k o,m<=k->k<q.length->S'.H (ol 0 q k)=some o->o=.dead)
   (h4:∀k o,m<=k->Er.A k->S'.H (n+(k-m))=some o->ObjTo Er Sr (mrgR E Er n m) k (n+(k-m)) o) :
   Post T E S (mrgR E Er n m) S'/\Fresh E S (mrgR E Er n m):=by
 have hlt:∀id,E.A id->id<n:=fun id h=>by rw[hn];exact p.bnd id h
 have hqA:∀k,k<q.length->(renE 0 q E).A k:=fun k hk=>⟨by omega,hA _ (qbo hk).1⟩
 -- a live object of the caller's beside these is at no block of theirs
 have hapart:∀id,id ∉ q->T.r id->E.A id->Live E S.H id->∀k,(renE 0 q E).A k->Live (renE 0 q E) Sx.H k->(renE 0 q E).ρ k≠E.ρ id:=fun id hid ht ha hl k hk hkl e=>by
   have hk1:k<q.length:=by have:=hk.1;omega
   have h5:=(qbo hk1).1;have:=p.st.inj _ _ (T.sub _ (hT _ h5)) ht hk.2 ha (hsx k hk1 hkl) hl e;exact hid (this▸h5)
 have hsame:∀b,b<E.w.heap.size->(∀k,(renE 0 q E).A k->Live (renE 0 q E) Sx.H k->(renE 0 q E).ρ k≠b)->Er.w.heap[b]?=E.w.heap[b]?:=fun b hb hk=>h.same b hb fun k _=>hk k;have hown:∀k,(renE 0 q E).A k->Live (renE 0 q E) Sx.H k->(renE 0 q E).ρ k∈E.m:=fun k hk hkl=>by
   have hk1:k<q.length:=by have:=hk.1;omega
   exact p.st.own _ (T.sub _ (hT _ (qbo hk1).1)) hk.2 (hsx k hk1 hkl)
 have hle:E.Le (mrgR E Er n m):=⟨fun id ha=>by
   obtain⟨m1,m2,m3,m4⟩:=qcl (E:=E) (Er:=Er) (m:=m) (hlt id ha);exact⟨.inl ⟨hlt id ha,ha⟩,m1,m2,m3,m4⟩,⟨fun b hb hbm=>⟨fun h'=>by
     rcases h.memo b h' with h5|h5
     · exact hbm h5
     · have:(renE 0 q E).w.heap.size=E.w.heap.size:=rfl;omega,hsame b hb fun k hk hkl e=>hbm (e▸hown k hk hkl)⟩⟩⟩
 -- rows
 have hrow:∀k,k<m->(renE 0 q E).A k/\Er.A k/\Er.ρ k=E.ρ (ol 0 q k)/\Er.hb k=E.hb (ol 0 q k)/\ol 0 q k<n:=fun k hk=>by
   have ha:=hqA k (by omega);obtain⟨a1,a2,a3,a4,a5⟩:=h.alw k hk ha;exact⟨ha,a1,a2,a5,hlt _ ha.2⟩
 -- where a live object of the new state comes from
 have hcase:∀id,(mrgR E Er n m).A id->Live (mrgR E Er n m) S'.H id ->
     (id<n/\id ∉ q/\E.A id/\Live E S.H id)\/∃k,Er.A k/\Live Er Sr.H k/\(mrgR E Er n m).ρ id=Er.ρ k/\((k<m/\id=ol 0 q k)\/(m<=k/\id=n+(k-m))):=fun id ha ⟨g1,o,g2,g3⟩=>by
   rcases ha with ⟨hi,ha⟩|⟨hi,ha⟩
   · by_cases hq:id∈q
     · obtain⟨k,hk,rfl⟩:=qs8 hq;by_cases hkm:k<m
       · obtain⟨r1,r2,r3,r4,r5⟩:=hrow k hkm;refine .inr ⟨k,r2,⟨?_,(h2 k o hkm g2).live g3⟩,(qcl hi).1.trans r3.symm,.inl ⟨hkm,rfl⟩⟩;rw[r4,<- (qcl (E:=E) (Er:=Er) (m:=m) hi).2.2.2];exact g1
       · have:=h3 k o (by omega) hk g2;subst this;cases g3
     · rw[h1 id hi hq] at g2;exact .inl ⟨hi,hq,ha,by rw[<- (qcl (E:=E) (Er:=Er) (m:=m) hi).2.2.2];exact g1,o,g2,g3⟩
   · obtain⟨k,hk,rfl⟩:∃k,m<=k/\id=n+(k-m):=⟨id-n+m,by omega,by omega⟩;have e:n+(k-m)-n+m=k:=by omega
     rw[e] at ha;obtain⟨m1,m2,m3,m4,m5⟩:=qh2 (E:=E) (Er:=Er) (n:=n) hk;exact .inr ⟨k,ha,⟨by rw[<- m4];exact g1,(h4 k o hk ha g2).live g3⟩,m1,.inr ⟨hk,rfl⟩⟩
 have hin:∀id,id<n->id ∉ q->T.r id->E.A id->Live E S.H id->(mrgR E Er n m).ρ id∈Er.m/\∀k,Er.A k->Live Er Sr.H k->Er.ρ k≠E.ρ id:=fun id hi hq ht ha hl=>by
   have hmem:=p.st.own id ht ha hl;refine⟨?_,fun k hk hkl e=>?_⟩
   · rw[(qcl hi).1];rcases h.mem _ hmem (p.st.lo _ hmem) with g|⟨k,_,g1,g2,g3⟩
     · exact g
     · exact absurd g3 (hapart id hq ht ha hl k g1 g2)
   · by_cases hkm:k<m
     · exact hapart id hq ht ha hl k (hrow k hkm).1 (h.old k hkm trivial (hrow k hkm).1 hkl) (by rw[<- e];exact(hrow k hkm).2.2.1.symm)
     · rcases h.new k (by omega) hk hkl with g|⟨j,_,g1,g2,g3⟩
       · have:=p.st.lo _ hmem;have e2:(renE 0 q E).w.heap.size=E.w.heap.size:=rfl;omega
       · exact hapart id hq ht ha hl j g1 g2 (by rw[<- g3];exact e)
 refine⟨⟨⟨?_,?_,?_,?_,h.st.lo⟩,⟨h.os,h.tape,h.output,h.size,fun b hb hk=>?_,hle.alw,?_,?_,fun b hb=>h.memo b hb,fun b hb hl=>?_⟩,?_,?_⟩,⟨?_⟩⟩
 · intro id ht ha o ho;rcases ha with ⟨hi,ha⟩|⟨hi,ha⟩
   · by_cases hq:id∈q
     · obtain⟨k,hk,rfl⟩:=qs8 hq;by_cases hkm:k<m
       · exact(h2 k o hkm ho).rel
       · have:=h3 k o (by omega) hk ho;subst this;trivial
     · rw[h1 id hi hq] at ho;exact(p.st.objs id ht ha o ho).mono hle ha (p.st.blk id ht ha o ho) fun hl hb=>hsame _ ((p.st.objs id ht ha o ho).lt hl hb) (hapart id hq ht ha ⟨hb,o,ho,hl⟩)
   · obtain⟨k,hk,rfl⟩:∃k,m<=k/\id=n+(k-m):=⟨id-n+m,by omega,by omega⟩;have e:n+(k-m)-n+m=k:=by omega
     rw[e] at ha;exact(h4 k o hk ha ho).rel
 · intro id ht ha o ho hb;rcases ha with ⟨hi,ha⟩|⟨hi,ha⟩
   · by_cases hq:id∈q
     · obtain⟨k,hk,rfl⟩:=qs8 hq;by_cases hkm:k<m
       · exact(h2 k o hkm ho).blk hb
       · have:=h3 k o (by omega) hk ho;subst this;cases hb
     · rw[h1 id hi hq] at ho;rw[(qcl hi).2.2.2];exact p.st.blk id ht ha o ho hb
   · obtain⟨k,hk,rfl⟩:∃k,m<=k/\id=n+(k-m):=⟨id-n+m,by omega,by omega⟩;have e:n+(k-m)-n+m=k:=by omega
     rw[e] at ha;exact(h4 k o hk ha ho).blk hb
 · intro id ht ha hl;rcases hcase id ha hl with ⟨g1,g2,g3,g4⟩|⟨k,g1,g2,g3,_⟩
   · exact(hin id g1 g2 ht g3 g4).1
   · rw[g3];exact h.st.own k trivial g1 g2
 · intro i j ti tj hi hj li lj he;rcases hcase i hi li with ⟨a1,a2,a3,a4⟩|⟨k,a1,a2,a3,a4⟩<;>rcases hcase j hj lj with ⟨b1,b2,b3,b4⟩|⟨k',b1,b2,b3,b4⟩
   · rw[(qcl a1).1,(qcl b1).1] at he;exact p.st.inj i j ti tj a3 b3 a4 b4 he
   · rw[(qcl a1).1,b3] at he;exact absurd he.symm ((hin i a1 a2 ti a3 a4).2 k' b1 b2)
   · rw[(qcl b1).1,a3] at he;exact absurd he ((hin j b1 b2 tj b3 b4).2 k a1 a2)
   · rw[a3,b3] at he;have:=h.st.inj k k' trivial trivial a1 b1 a2 b2 he;subst this;rcases a4 with ⟨a4,rfl⟩|⟨a4,rfl⟩<;>rcases b4 with ⟨b4,rfl⟩|⟨b4,rfl⟩<;>first|rfl|omega
 · refine hsame b hb fun k hk1 hkl e=>?_;have hk2:k<q.length:=by have:=hk1.1;omega
   exact hk _ (hT _ (qbo hk2).1) hk1.2 (hsx k hk2 hkl) e
 · intro id ha hna hl;rcases hcase id ha hl with ⟨g1,g2,g3,g4⟩|⟨k,g1,g2,g3,g4⟩
   · exact absurd g3 hna
   · rcases g4 with ⟨g4,rfl⟩|⟨g4,rfl⟩
     · exact absurd (hrow k g4).1.2 hna
     · rw[g3];rcases h.new k g4 g1 g2 with g|⟨j,_,j1,j2,j3⟩
       · exact .inl g
       · have hj:j<q.length:=by have:=j1.1;omega
         exact .inr ⟨_,hT _ (qbo hj).1,j1.2,hsx j hj j2,j3⟩
 · intro id ht ha hl;rcases hcase id (.inl ⟨hlt id ha,ha⟩) hl with ⟨g1,g2,g3,g4⟩|⟨k,g1,g2,g3,g4⟩
   · exact g4
   · rcases g4 with ⟨g4,rfl⟩|⟨g4,rfl⟩
     · exact hsx k (by omega) (h.old k g4 trivial (hrow k g4).1 g2)
     · have:=hlt _ ha;omega
 · rcases h.mem b hb hl with g|⟨k,_,g1,g2,g3⟩
   · exact .inl g
   · have hk:k<q.length:=by have:=g1.1;omega
     exact .inr ⟨_,hT _ (qbo hk).1,g1.2,hsx k hk g2,g3⟩
 · intro id ha;rw[hN];rcases ha with ⟨hi,_⟩|⟨hi,ha⟩
   · omega
   · have:=h.bnd _ ha;omega
 · rw[hN];omega
 · intro id ha hna;rcases ha with ⟨_,ha⟩|⟨hi,_⟩
   · exact absurd ha hna
   · omega
end
end Go.Jx
end

section
namespace Go.Jx
open Go Go.Sx Go.RowKit
universe u

inductive CT:Type
 | dat (c:TC)
 | arr (c:TC)
 | map (k v:TC)
 | fn (f:Nat)
def ElC:CT->Type
 | .dat c=>El c
 | .arr c=>List (El c)
 | .map k v=>List (El k × El v)
 | .fn _=>Unit
def qca:List CT->Type
 | []=>Unit
 | c::cs=>ElC c × qca cs
inductive RK:Type
 | box (r:List CT)
 | sl (c:TC)
 | mp (k v:TC)
 | clo (f:Nat) (is:List Nat)
def ElK:RK->Type
 | .box r=>qca r
 | .sl c=>Option (List (El c))
 | .mp k v=>Option (List (El k × El v))
 | .clo _ _=>Unit
inductive PK:Type
 | dat (c:TC)
 | ref (r:RK)
 | fn (f:Nat)
def ElP:List PK->Type
 | []=>Unit
 | .dat c::l=>El c × ElP l
 | .fn _::l=>ElP l
 | .ref r::l=>ElK r × ElP l
def refs:List PK->List PK
 | []=>[]
 | .dat _::l=>refs l
 | .fn _::l=>refs l
 | .ref r::l=>.ref r::refs l
def nC:CT->Nat
 | .dat _=>0
 | .fn _=>0
 | _=>1
def nR:List CT->Nat
 | []=>0
 | c::cs=>nC c+nR cs
def nK:RK->Nat
 | .box r=>nR r
 | .sl _=>0
 | .mp _ _=>0
 | .clo _ _=>0
def nP:List PK->Nat
 | []=>0
 | .dat _::l=>nP l
 | .fn _::l=>nP l
 | .ref r::l=>nK r+nP l
def mP:List PK->Nat
 | []=>0
 | .dat _::l=>mP l
 | .fn _::l=>mP l
 | .ref _::l=>mP l+1
def qc0:(c:CT)->(Nat->Nat)->Nat->ElC c->List IV
 | .dat c,_,_,x=>cel c x
 | .arr _,ι,n,_=>[.arr (ι n)]
 | .map _ _,ι,n,_=>[.map (ι n)]
 | .fn f,_,_,_=>[.fn f []]
def qbx:(r:List CT)->(Nat->Nat)->Nat->qca r->List IV
 | [],_,_,_=>[]
 | c::cs,ι,n,x=>qc0 c ι n x.1++qbx cs ι (n+nC c) x.2
def subC:(c:CT)->ElC c->List IObj
 | .dat _,_=>[]
 | .arr c,l=>[.arr c l]
 | .map k v,es=>[.tmap k v es]
 | .fn _,_=>[]
def subR:(r:List CT)->qca r->List IObj
 | [],_=>[]
 | c::cs,x=>subC c x.1++subR cs x.2
def objK:(k:RK)->(Nat->Nat)->Nat->ElK k->IObj
 | .box r,ι,n,x=>.row (qbx r ι n x)
 | .sl c,_,_,x=>match x with
  | some l=>.arr c l
  | none=>.dead
 | .mp k v,_,_,x=>match x with
  | some l=>.tmap k v l
  | none=>.dead
 | .clo f is,ι,_,_=>.row [.fn f (is.map fun k=>.ptr (ι k) 0)]
def isK:RK->List Nat
 | .clo _ is=>is
 | _=>[]
def okPs(N:Nat):List PK->Bool
 | []=>true
 | .ref r::l=>(isK r).all (fun k=>Nat.blt k N)&&okPs N l
 | .dat _::l=>okPs N l
 | .fn _::l=>okPs N l
def qef:List PK->Bool
 | []=>true
 | .ref r::l=>(match r with
  | .clo _ _=>false
  | _=>true)&&qef l
 | .dat _::l=>qef l
 | .fn _::l=>qef l
def subK:(k:RK)->ElK k->List IObj
 | .box r,x=>subR r x
 | .sl _,_=>[]
 | .mp _ _,_=>[]
 | .clo _ _,_=>[]
def argK:RK->Nat->IV
 | .box _,id=>.ptr id 0
 | .sl _,id=>.arr id
 | .mp _ _,id=>.map id
 | .clo _ _,id=>.ptr id 0
def qal:(l:List PK)->(Nat->Nat)->Nat->ElP l->List IObj
 | [],_,_,_=>[]
 | .dat _::l,ι,n,x=>qal l ι n x.2
 | .fn _::l,ι,n,x=>qal l ι n x
 | .ref r::l,ι,n,x=>objK r ι n x.1::qal l ι (n+nK r) x.2
def qb4:(l:List PK)->ElP l->List IObj
 | [],_=>[]
 | .dat _::l,x=>qb4 l x.2
 | .fn _::l,x=>qb4 l x
 | .ref r::l,x=>subK r x.1++qb4 l x.2
def qag:(l:List PK)->(Nat->Nat)->Nat->ElP l->List IV
 | [],_,_,_=>[]
 | .dat c::l,ρ,k,x=>asIV c x.1::qag l ρ k x.2
 | .fn f::l,ρ,k,x=>.fn f []::qag l ρ k x
 | .ref r::l,ρ,k,x=>argK r (ρ k)::qag l ρ (k+1) x.2
def idN(k:Nat):Nat:=k
def Sc(l:List PK)(x:ElP l):IS:=addO (qal l idN (mP l) x++qb4 l x) S0
theorem qlt:∀(c:CT) (x:ElC c),(subC c x).length=nC c
 | .dat _,_=>rfl
 | .arr _,_=>rfl
 | .map _ _,_=>rfl
 | .fn _,_=>rfl
theorem qq6:∀(r:List CT) (x:qca r),(subR r x).length=nR r
 | [],_=>rfl
 | c::cs,x=>by simp only[subR,nR,jaq,qlt,qq6 cs]
theorem qtp:∀(k:RK) (x:ElK k),(subK k x).length=nK k
 | .box r,x=>qq6 r x
 | .sl _,_=>rfl
 | .mp _ _,_=>rfl
 | .clo _ _,_=>rfl
theorem qh6:∀(l:List PK) (x:ElP l),(qb4 l x).length=nP l
 | [],_=>rfl
 | .dat _::l,x=>qh6 l x.2
 | .fn _::l,x=>qh6 l x
 | .ref r::l,x=>by simp only[qb4,nP,jaq,qtp,qh6 l]
theorem qaw:∀(l:List PK) (ι:Nat->Nat) (n:Nat) (x:ElP l),(qal l ι n x).length=mP l
 | [],_,_,_=>rfl
 | .dat _::l,ι,n,x=>qaw l ι n x.2
 | .fn _::l,ι,n,x=>qaw l ι n x
 | .ref r::l,ι,n,x=>by simp only[qal,mP,jbj,qaw l]
theorem qeu:∀(l:List PK) (ι:Nat->Nat) (n:Nat) (x:ElP l) (j:Nat) (o:IObj),(qal l ι n x)[j]?=some o ->
  ∃r nj xj,o=objK r ι nj xj/\n<=nj/\nj+nK r<=n+nP l/\(∀ι',(qal l ι' n x)[j]?=some (objK r ι' nj xj))/\∀N,okPs N l=true->∀k∈isK r,k<N
 | [],ι,n,x,j,o,h=>by simp[qal] at h
 | .dat _::l,ι,n,x,j,o,h=>qeu l ι n x.2 j o h
 | .fn _::l,ι,n,x,j,o,h=>qeu l ι n x j o h
 | .ref r::l,ι,n,x,j,o,h=>by
  cases j with
  | zero =>
   simp only[qal,jap,jaw] at h;refine⟨r,n,x.1,h.symm,jar _,by simp only[nP];omega,fun ι'=>rfl,fun N hN k hk=>?_⟩;simp only[okPs,jaf] at hN;simpa using ja3.1 hN.1 k hk
  | succ j =>
   simp only[qal,jas] at h;obtain⟨r',nj,xj,h1,h2,h3,h4,h5⟩:=qeu l ι _ x.2 j o h;refine⟨r',nj,xj,h1,by omega,by simp only[nP];omega,fun ι'=>by simpa only [qal,jas] using h4 ι',fun N hN k hk=>?_⟩;simp only[okPs,jaf] at hN;exact h5 N hN.2 k hk
theorem qgu(l:List PK)(x:ElP l):(Sc l x).next=mP l+nP l:=by
 unfold Sc;rw[qcr,jaq,qaw,qh6];show 0+_=_;omega
theorem qf4(l:List IObj)(k:Nat):(addO l S0).H k=l[k]?:=by
 rw[qb9];have e:S0.next=0:=rfl
 rw[e,jak (by omega),ja4,jc4];by_cases h:k<l.length
 ·rw[jam h]
 ·rw[jak h,jbl (by omega)];rfl

section
variable {E E' : Env}
def qb5(E E':Env)(i j:Nat):Prop:=E.A i->E'.A j/\E'.ρ j=E.ρ i/\E'.κ j=E.κ i/\E'.hd j=E.hd i/\E'.hb j=E.hb i
theorem zd9(hm:∀b,b∈E'.m->b∈E.m)(hw:E'.w=E.w){ι ι':Nat->Nat}:∀(c:CT) {n:Nat} {x:ElC c} {us:List Value},(∀j,n<=j->j<n+nC c->qb5 E E' (ι j) (ι' j)) ->
  VRs E (qc0 c ι n x) us->VRs E' (qc0 c ι' n x) us
 | .dat c,n,x,us,hn,h=>⟨h.1,fun i a b=>(VR.noid hm hw (h.2 i a b)).2.2 _ _ (jaz a)⟩
 | .arr c,n,x,us,hn,h=>by
  obtain⟨u,us,rfl,a1,a2⟩:=VRs.inv (v:=.arr (ι n)) (cs:=[]) h;have e:us=[]:=by have:=a2.1;simpa using this.symm
  subst e;cases a1 with
  | arr hA hh =>
   obtain⟨b1,b2,b3,b4,b5⟩:=hn n (jar _) (by simp[nC]) hA;exact VRs.cons (.arr b1 (b4.trans hh)) VRs.nil
 | .map k v,n,x,us,hn,h=>by
  obtain⟨u,us,rfl,a1,a2⟩:=VRs.inv (v:=.map (ι n)) (cs:=[]) h;have e:us=[]:=by have:=a2.1;simpa using this.symm
  subst e;cases a1 with
  | map hA =>
   obtain⟨b1,b2,b3,b4,b5⟩:=hn n (jar _) (by simp[nC]) hA;rw[<- b2];exact VRs.cons (.map b1) VRs.nil
 | .fn f,n,x,us,hn,h=>by
  obtain⟨u,us,rfl,a1,a2⟩:=VRs.inv (v:=.fn f []) (cs:=[]) h;have e:us=[]:=by have:=a2.1;simpa using this.symm
  subst e;cases a1 with
  | fn hl hh =>
   rename_i us1;have e:us1=[]:=by simpa using hl.symm
   subst e;exact VRs.cons (.fn rfl (fun i h=>by simp at h)) VRs.nil
theorem VRs.split{E:Env}{cs ds:List IV}{us:List Value}(h:VRs E (cs++ds) us):∃us1 us2,us=us1++us2/\VRs E cs us1/\VRs E ds us2:=by
 have h1:=h.take cs.length;have h2:=h.drop cs.length;rw[List.take_left] at h1;rw[List.drop_left] at h2;exact⟨_,_,(jcq _ _).symm,h1,h2⟩
theorem q29(hm:∀b,b∈E'.m->b∈E.m)(hw:E'.w=E.w){ι ι':Nat->Nat}:∀(r:List CT) {n:Nat} {x:qca r} {us:List Value},(∀j,n<=j->j<n+nR r->qb5 E E' (ι j) (ι' j)) ->
  VRs E (qbx r ι n x) us->VRs E' (qbx r ι' n x) us
 | [],n,x,us,hn,h=>by have:=h.1;cases us with|nil=>exact VRs.nil|cons _ _=>simp [qbx] at this
 | c::cs,n,x,us,hn,h=>by
  obtain⟨us1,us2,rfl,h1,h2⟩:=VRs.split (cs:=qc0 c ι n x.1) (ds:=qbx cs ι (n+nC c) x.2) h;exact VRs.append (zd9 hm hw c (fun j a b=>hn j a (by simp only[nR];omega)) h1) (q29 hm hw cs (fun j a b=>hn j (by omega) (by simp only[nR];omega)) h2)
theorem zsd(c:CT)(ι ι':Nat->Nat)(n:Nat)(x:ElC c):(qc0 c ι n x).length=(qc0 c ι' n x).length:=by cases c<;>rfl
theorem quy:∀(r:List CT) (ι ι':Nat->Nat) (n:Nat) (x:qca r),(qbx r ι n x).length=(qbx r ι' n x).length
 | [],_,_,_,_=>rfl
 | c::cs,ι,ι',n,x=>by simp only[qbx,jaq,zsd c ι ι',quy cs ι ι']
theorem OR.row_to(hm:∀b,b∈E'.m->b∈E.m)(hw:E'.w=E.w){ι ι':Nat->Nat}{r:List CT}{n i j:Nat}{x:qca r}(hA:E.A i)(hi:qb5 E E' i j)(hn:∀j,n<=j->j<n+nR r->qb5 E E' (ι j) (ι' j))
  (h:OR E i (.row (qbx r ι n x))):OR E' j (.row (qbx r ι' n x)):=by
 obtain⟨cells,t,h1,h2,h3,h4⟩:=h;obtain⟨b1,b2,b3,b4,b5⟩:=hi hA;refine⟨cells,t,by rw[hw,b2];exact h1,by rw[b3];exact h2,by rw[quy r ι' ι];exact h3,?_⟩;rw[quy r ι' ι];exact q29 hm hw r hn h4
def datO:IObj->Bool
 | .arr _ _=>true
 | .tmap _ _ _=>true
 | _=>false
theorem OR.dat_to(hm:∀b,b∈E'.m->b∈E.m)(hw:E'.w=E.w){i j:Nat}{o:IObj}(hA:E.A i)(hi:qb5 E E' i j)(ho:datO o=true)(h:OR E i o):OR E' j o:=by
 obtain⟨b1,b2,b3,b4,b5⟩:=hi hA;have hno:∀{v:IV} {u:Value},VR E v u->_:=fun h=>VR.noid (E:=E) (E':=E') hm hw h;cases o<;>try (cases ho;done)
 ·obtain⟨a,cap,h1,h2,h3,h4,h5⟩:=h;exact⟨a,cap,by rw[b4];exact h1,h2,h3,h4,h5.imp (fun⟨x,y⟩=>⟨by rw[b5];exact x,y⟩) fun⟨c1,c2,cells,t,c3,c4,us,c5,c6⟩=>⟨by rw[b5];exact c1,by rw[b2];exact c2,cells,t,by rw[hw,b2];exact c3,c4,us,c5,fun i hi j hj=>(hno (c6 i hi j hj)).2.2 _ _ (jaz hj)⟩⟩
 ·obtain⟨ents,c,h1,h2,h3,h4⟩:=h;refine⟨ents,c,by rw[hw,b2];exact h1,⟨h2.1,fun i a b=>?_⟩,⟨h3.1,fun i a b=>?_⟩,h4⟩
  ·have:=h2.2 i a b;simp only[tmEs,jb0] at this ⊢;exact qek hm hw this
  ·have:=h3.2 i a b;simp only[tmEs,jb0] at this ⊢;exact qek hm hw this
theorem OR.objK_to(hm:∀b,b∈E'.m->b∈E.m)(hw:E'.w=E.w){ι ι':Nat->Nat}:∀{r:RK} {n i j:Nat} {x:ElK r} (hA:E.A i) (hi:qb5 E E' i j) (hn:∀j,n<=j->j<n+nK r->qb5 E E' (ι j) (ι' j)) (hs:∀k∈isK r,qb5 E E' (ι k) (ι' k))
  (h:OR E i (objK r ι n x)),OR E' j (objK r ι' n x)
 | .box r,n,i,j,x,hA,hi,hn,hs,h=>OR.row_to hm hw hA hi hn h
 | .sl c,n,i,j,some l,hA,hi,hn,hs,h=>OR.dat_to hm hw hA hi (o:=.arr c l) rfl h
 | .sl c,n,i,j,none,hA,hi,hn,hs,h=>trivial
 | .mp k v,n,i,j,some l,hA,hi,hn,hs,h=>OR.dat_to hm hw hA hi (o:=.tmap k v l) rfl h
 | .mp k v,n,i,j,none,hA,hi,hn,hs,h=>trivial
 | .clo f is,n,i,j,x,hA,hi,hn,hs,h=>by
  obtain⟨cells,t,h1,h2,h3,h4⟩:=h;obtain⟨b1,b2,b3,b4,b5⟩:=hi hA;refine⟨cells,t,by rw[hw,b2];exact h1,by rw[b3];exact h2,h3,?_⟩;obtain⟨u,us,e,a1,a2⟩:=h4.inv;have a2:VRs E [] us:=a2;have e0:us=[]:=jbp.1 a2.1.symm;subst e0;show VRs E' [.fn f (is.map fun k=>.ptr (ι' k) 0)] (cells.toList.take 1);rw[show cells.toList.take 1=[u] from e];refine VRs.cons ?_ VRs.nil;cases a1 with
  | fn hl hh =>
   rename_i us1;refine .fn (by simpa using hl) fun i h1 h2=>?_;have hi1:i<is.length:=by simpa using h1
   have:=hh i (by simpa using hi1) h2;simp only[jb0] at this ⊢;generalize us1[i]=u0 at this ⊢;cases this with
   | ptr hA =>
    obtain⟨c1,c2,_⟩:=hs is[i] (jaz hi1) hA;rw[<- c2];exact .ptr c1
theorem ql0:∀{r:RK} {ι ι':Nat->Nat} {n:Nat} {x:ElK r},(objK r ι n x).live=(objK r ι' n x).live
 | .box r,ι,ι',n,x=>rfl
 | .sl c,ι,ι',n,some l=>rfl
 | .sl c,ι,ι',n,none=>rfl
 | .mp k v,ι,ι',n,some l=>rfl
 | .mp k v,ι,ι',n,none=>rfl
 | .clo f is,ι,ι',n,x=>rfl
theorem qhl:∀{r:RK} {ι ι':Nat->Nat} {n:Nat} {x:ElK r},(objK r ι n x).blk=(objK r ι' n x).blk
 | .box r,ι,ι',n,x=>rfl
 | .sl c,ι,ι',n,some l=>rfl
 | .sl c,ι,ι',n,none=>rfl
 | .mp k v,ι,ι',n,some l=>rfl
 | .mp k v,ι,ι',n,none=>rfl
 | .clo f is,ι,ι',n,x=>rfl
theorem q39{r:RK}{id:Nat}{u:Value}(h:VR E (argK r id) u):E.A id:=by
 cases r with
 | box r=>cases h;assumption
 | sl c=>cases h;assumption
 | mp k v=>cases h;assumption
 | clo f is=>cases h;assumption
theorem q1e{r:RK}{i j:Nat}{u:Value}(hi:qb5 E E' i j)(h:VR E (argK r i) u):VR E' (argK r j) u:=by
 cases r with
 | box r =>
  cases h with
  | ptr hA =>
   obtain⟨b1,b2,b3,b4,b5⟩:=hi hA;show VR E' (.ptr j 0) _;rw[<- b2];exact .ptr b1
 | sl c =>
  cases h with
  | arr hA hh =>
   obtain⟨b1,b2,b3,b4,b5⟩:=hi hA;exact .arr b1 (b4.trans hh)
 | mp k v =>
  cases h with
  | map hA =>
   obtain⟨b1,b2,b3,b4,b5⟩:=hi hA;show VR E' (.map j) _;rw[<- b2];exact .map b1
 | clo f is =>
  cases h with
  | ptr hA =>
   obtain⟨b1,b2,b3,b4,b5⟩:=hi hA;show VR E' (.ptr j 0) _;rw[<- b2];exact .ptr b1
theorem argsP_env(hm:∀b,b∈E'.m->b∈E.m)(hw:E'.w=E.w){ρ ρ':Nat->Nat}:∀(l:List PK) {k:Nat} {x:ElP l} {us:List Value},(∀j,k<=j->j<k+mP l->qb5 E E' (ρ j) (ρ' j)) ->
  VRs E (qag l ρ k x) us->VRs E' (qag l ρ' k x) us
 | [],k,x,us,hn,h=>by have:=h.1;cases us with|nil=>exact VRs.nil|cons _ _=>simp [qag] at this
 | .dat c::l,k,x,us,hn,h=>by
  obtain⟨u,us,rfl,a1,a2⟩:=VRs.inv (v:=asIV c x.1) (cs:=qag l ρ k x.2) h;exact VRs.cons (qek hm hw a1) (argsP_env hm hw l hn a2)
 | .fn f::l,k,x,us,hn,h=>by
  obtain⟨u,us,rfl,a1,a2⟩:=VRs.inv (v:=.fn f []) (cs:=qag l ρ k x) h;refine VRs.cons ?_ (argsP_env hm hw l hn a2);cases a1 with
  | fn hl hh =>
   rename_i us0;have:us0=[]:=jbp.1 hl.symm;subst this;exact .fn (cs:=[]) rfl (fun i h=>by simp at h)
 | .ref r::l,k,x,us,hn,h=>by
  obtain⟨u,us,rfl,a1,a2⟩:=VRs.inv (v:=argK r (ρ k)) (cs:=qag l ρ (k+1) x.2) h;exact VRs.cons (q1e (hn k (jar _) (by simp only[mP];omega)) a1) (argsP_env hm hw l (fun j a b=>hn j (by omega) (by simp only[mP];omega)) a2)
theorem qr9{ρ:Nat->Nat}:∀(l:List PK) {k:Nat} {x:ElP l} {us:List Value} (z:ElP (refs l)),VRs E (qag l ρ k x) us->∃us',VRs E (qag (refs l) ρ k z) us'
 | [],k,x,us,z,h=>⟨[],VRs.nil⟩
 | .dat c::l,k,x,us,z,h=>by
  obtain⟨u,us,rfl,a1,a2⟩:=VRs.inv (v:=asIV c x.1) (cs:=qag l ρ k x.2) h;exact qr9 l z a2
 | .fn f::l,k,x,us,z,h=>by
  obtain⟨u,us,rfl,a1,a2⟩:=VRs.inv (v:=.fn f []) (cs:=qag l ρ k x) h;exact qr9 l z a2
 | .ref r::l,k,x,us,z,h=>by
  obtain⟨u,us,rfl,a1,a2⟩:=VRs.inv (v:=argK r (ρ k)) (cs:=qag l ρ (k+1) x.2) h;obtain⟨us',h'⟩:=qr9 l z.2 a2;exact⟨u::us',VRs.cons a1 h'⟩
end

def rdC:(c:CT)->IS->List IV->Option (ElC c × List Nat × List IV × IS × Nat)
 | .dat c,S,cs=>match icl c S cs with
  | some (x,r,S1,w)=>some (x,[],r,S1,w)
  | none=>none
 | .arr c,S,cs=>match cs with
  | v::r=>match coeV S c v with
   | some (.arr id,S1,w)=>some ([],[id],r,S1,w)
   | _=>none
  | []=>none
 | .map k v,S,cs=>match cs with
  | .map id::r=>match qf2 S k v (.map id) with
   | some (S1,w)=>some ([],[id],r,S1,w)
   | none=>none
  | _=>none
 | .fn f,S,cs=>match cs with
  | .fn g []::r=>cond (Nat.beq g f) (some ((),[],r,S,0)) none
  | _=>none
def rdR:(r:List CT)->IS->List IV->Option (qca r × List Nat × List IV × IS × Nat)
 | [],S,cs=>some ((),[],cs,S,0)
 | c::l,S,cs=>match rdC c S cs with
  | none=>none
  | some (x,i1,r1,S1,w1)=>match rdR l S1 r1 with
   | none=>none
   | some (y,i2,r2,S2,w2)=>some ((x,y),i1++i2,r2,S2,w1 ||| w2)
def rdS(c:TC)(S:IS)(v:IV):Option (Nat × IS × Nat) :=
 match v with
 | .arr id=>some (id,S,2 ^ id)
 | _=>match coeV S c v with
  | some (.arr id,S1,w)=>some (id,S1,w)
  | _=>none
def rdM(k v:TC)(S:IS)(x:IV):Option (Nat × IS × Nat) :=
 match x with
 | .map id=>match qf2 S k v (.map id) with
  | some (S1,w)=>some (id,S1,w)
  | none=>none
 | _=>none
def rdP0:(l:List PK)->IS->List IV->Option (ElP l × List Nat × List Nat × IS × Nat)
 | [],S,vs=>match vs with
  | []=>some ((),[],[],S,0)
  | _=>none
 | .dat c::l,S,vs=>match vs with
  | v::vs=>cond (fitV c v) (match icl c S (cellsOf v) with
   | some (x,[],S1,w1)=>match rdP0 l S1 vs with
    | some (y,q1,q2,S2,w2)=>some ((x,y),q1,q2,S2,w1 ||| w2)
    | none=>none
   | _=>none) none
  | []=>none
 | .fn f::l,S,vs=>match vs with
  | .fn g []::vs=>cond (Nat.beq g f) (rdP0 l S vs) none
  | _=>none
 | .ref (.sl c)::l,S,vs=>match vs with
  | v::vs=>match rdS c S v with
   | some (id,S1,w1)=>match rdP0 l S1 vs with
    | some (y,q1,q2,S2,w2)=>some ((none,y),id::q1,q2,S2,w1 ||| w2)
    | none=>none
   | none=>none
  | []=>none
 | .ref (.mp kc vc)::l,S,vs=>match vs with
  | v::vs=>match rdM kc vc S v with
   | some (id,S1,w1)=>match rdP0 l S1 vs with
    | some (y,q1,q2,S2,w2)=>some ((none,y),id::q1,q2,S2,w1 ||| w2)
    | none=>none
   | none=>none
  | []=>none
 | .ref (.box r)::l,S,vs=>match vs with
  | .ptr id 0::vs=>match S.heap.get id with
   | some (.row cs)=>match rdR r S cs with
    | some (x,i1,[],S1,w1)=>match rdP0 l S1 vs with
     | some (y,q1,q2,S2,w2)=>some ((x,y),id::q1,i1++q2,S2,2 ^ id ||| (w1 ||| w2))
     | none=>none
    | _=>none
   | _=>none
  | _=>none
 | .ref (.clo f is)::l,S,vs=>match vs with
  | .ptr id 0::vs=>match S.heap.get id with
   | some (.row [.fn _ _])=>match rdP0 l S vs with
    | some (y,q1,q2,S2,w2)=>some (((),y),id::q1,q2,S2,2 ^ id ||| w2)
    | none=>none
   | _=>none
  | _=>none
def qfw(rows:List Nat):List IV->List Nat->Bool
 | [],[]=>true
 | .ptr a 0::cs,k::is=>(match rows[k]? with
  | some b=>Nat.beq a b
  | none=>false)&&qfw rows cs is
 | _,_=>false
def cloL(S:IS)(all:List Nat):List PK->List Nat->Bool
 | [],_=>true
 | .dat _::l,q=>cloL S all l q
 | .fn _::l,q=>cloL S all l q
 | .ref r::l,q=>match q with
  | id::q=>(match r with
   | .clo f is=>match S.heap.get id with
    | some (.row [.fn g cs])=>Nat.beq g f&&qfw all cs is
    | _=>false
   | _=>true)&&cloL S all l q
  | []=>false
def rdP(l:List PK)(S:IS)(vs:List IV):Option (ElP l × List Nat × List Nat × IS × Nat):=match rdP0 l S vs with
 | some (x,q1,q2,S',w)=>cond (okPs (mP l) l&&cloL S' q1 l q1) (some (x,q1,q2,S',w)) none
 | none=>none
theorem qwe{l:List PK}{S S':IS}{vs:List IV}{x:ElP l}{q1 q2:List Nat}{w:Nat}(h:rdP l S vs=some (x,q1,q2,S',w)):rdP0 l S vs=some (x,q1,q2,S',w)/\okPs (mP l) l=true/\cloL S' q1 l q1=true:=by
 unfold rdP at h;split at h
 ·rename_i x1 a1 a2 S1 w1 h1;cases hb:(okPs (mP l) l&&cloL S1 a1 l a1) with
  | false=>rw[hb] at h;cases h
  | true =>
   rw[hb,jaa] at h;cases h;simp only[jaf] at hb;exact⟨h1,hb.1,hb.2⟩
 ·cases h
section
variable {T : TW} {E : Env} {S : IS}
def Nums(ι:Nat->Nat)(n:Nat)(q:List Nat):Prop:=∀(j id:Nat),q[j]?=some id->ι (n+j)=id
theorem Nums.fst{ι:Nat->Nat}{n:Nat}{a b:List Nat}(h:Nums ι n (a++b)):Nums ι n a:=fun j id hj=>h j id (by rw[jat (jav.1 hj).1];exact hj)
theorem Nums.snd{ι:Nat->Nat}{n:Nat}{a b:List Nat}(h:Nums ι n (a++b)):Nums ι (n+a.length) b:=fun j id hj=>by
 have:=h (a.length+j) id (by rw[jau (by omega),ja1];exact hj)
 rwa [<- jcj] at this
theorem ztc:∀(c:CT) {E:Env} {S:IS} {cs:List IV} {x:ElC c} {ids:List Nat} {r:List IV} {S':IS} {w:Nat} {us:List Value},rdC c S cs=some (x,ids,r,S',w)->Pre T E S->tin T.w w->VRs E cs us ->
  ∃E',E'.w=E.w/\Post T E S E' S'/\Fresh E S E'/\ids.length=nC c/\(∀id∈ids,E'.A id)/\∃us1 us2,us=us1++us2/\(∀ι n,Nums ι n ids->VRs E' (qc0 c ι n x) us1)/\VRs E' r us2
 | .dat c,E,S,cs,x,ids,r,S',w,us,h,p,hw,hv=>by
  simp only[rdC] at h;split at h<;>cases h;rename_i h1;obtain⟨E1,e1,q1,f1,us1,us2,e2,v1,v2⟩:=qe0 c h1 p hw hv;exact⟨E1,e1,q1,f1,rfl,fun id h=>(by cases h),us1,us2,e2,fun ι n _=>v1,v2⟩
 | .arr c,E,S,cs,x,ids,r,S',w,us,h,p,hw,hv=>by
  simp only[rdC] at h;cases cs with
  | nil=>cases h
  | cons v cs =>
  simp only at h;split at h<;>cases h;rename_i id h1;obtain⟨u,us,rfl,a1,a2⟩:=hv.inv;obtain⟨E1,e1,q1,f1,v1⟩:=qjx p h1 hw a1;have hA:E1.A id:=by cases v1;assumption
  refine⟨E1,e1,q1,f1,rfl,fun id' h=>by rw[jb4.1 h];exact hA,[u],us,rfl,fun ι n hn=>?_,a2.mono (q1.env p)⟩;have:=hn 0 id rfl;simp only[qc0];rw[jby] at this;rw[this];exact VRs.cons v1 VRs.nil
 | .map kc vc,E,S,cs,x,ids,r,S',w,us,h,p,hw,hv=>by
  cases cs with
  | nil=>cases h
  | cons v cs =>
  cases v<;>try (cases h;done)
  rename_i id;simp only[rdC] at h;split at h<;>cases h;rename_i h1;obtain⟨u,us,rfl,a1,a2⟩:=hv.inv;obtain⟨E1,e1,q1,f1⟩:=qpp p h1 hw a1;have v1:=a1.mono (q1.env p);have hA:E1.A id:=by cases v1;assumption
  refine⟨E1,e1,q1,f1,rfl,fun id' h=>by rw[jb4.1 h];exact hA,[u],us,rfl,fun ι n hn=>?_,a2.mono (q1.env p)⟩;have:=hn 0 id rfl;simp only[qc0];rw[jby] at this;rw[this];exact VRs.cons v1 VRs.nil
 | .fn f,E,S,cs,x,ids,r,S',w,us,h,p,hw,hv=>by
  simp only[rdC] at h;split at h<;>try cases h
  rename_i g cs;cases hb:Nat.beq g f with
  | false=>rw[hb] at h;cases h
  | true =>
  rw[hb] at h;cases h;obtain rfl:=jah hb;obtain⟨u,us,rfl,a1,a2⟩:=hv.inv;exact⟨E,rfl,Post.refl p,Fresh.refl E S,rfl,fun id h=>(by cases h),[u],us,rfl,fun ι n _=>VRs.cons a1 VRs.nil,a2⟩
theorem q8j:∀(c:List CT) {E:Env} {S:IS} {cs:List IV} {x:qca c} {ids:List Nat} {r:List IV} {S':IS} {w:Nat} {us:List Value},rdR c S cs=some (x,ids,r,S',w)->Pre T E S->tin T.w w->VRs E cs us ->
  ∃E',E'.w=E.w/\Post T E S E' S'/\Fresh E S E'/\ids.length=nR c/\(∀id∈ids,E'.A id)/\∃us1 us2,us=us1++us2/\(∀ι n,Nums ι n ids->VRs E' (qbx c ι n x) us1)/\VRs E' r us2
 | [],E,S,cs,x,ids,r,S',w,us,h,p,hw,hv=>by
  cases h;exact⟨E,rfl,Post.refl p,Fresh.refl E S,rfl,fun id h=>(by cases h),[],us,rfl,fun _ _ _=>VRs.nil,hv⟩
 | c::l,E,S,cs,x,ids,r,S',w,us,h,p,hw,hv=>by
  simp only[rdR] at h;split at h
  ·cases h
  rename_i x1 i1 r1 S1 w1 h1;split at h<;>cases h;rename_i y i2 w2 h2;obtain⟨g1,g2⟩:=qak hw;obtain⟨E1,e1,q1,f1,l1,A1,us1,us2,rfl,v1,v2⟩:=ztc c h1 p g1 hv;obtain⟨E2,e2,q2,f2,l2,A2,us3,us4,rfl,v3,v4⟩:=q8j l h2 (q1.pre p) g2 v2;have hle:=q2.env (q1.pre p);refine⟨E2,e2.trans e1,Post.trans p q1 f1 q2,f1.trans f2 q1.le,by simp[l1,l2,nR],fun id h=>?_,us1++us3,us4,(ja9 _ _ _).symm,fun ι n hn=>?_,v4⟩
  ·rcases jbe.1 h with h|h
   ·exact(hle.alw _ (A1 id h)).1
   ·exact A2 id h
  ·refine VRs.append ((v1 ι n hn.fst).mono hle) (v3 ι _ ?_);rw[<- l1];exact hn.snd
def qm4(E:Env)(rows:List Nat)(os:List IObj):Prop:=∀(j:Nat) (o:IObj),os[j]?=some o->∃id,rows[j]?=some id/\E.A id/\(o.blk=true->E.hb id=true)/\OR E id o
theorem zdm{c:TC}{v:IV}{id:Nat}{S':IS}{w:Nat}{u:Value}(h:rdS c S v=some (id,S',w))(p:Pre T E S)(hw:tin T.w w)(hv:VR E v u) :
  ∃E',E'.w=E.w/\Post T E S E' S'/\Fresh E S E'/\E'.A id/\VR E' (.arr id) u:=by
 unfold rdS at h;split at h
 ·cases h;have hA:E.A id:=by cases hv;assumption
  exact⟨E,rfl,Post.refl p,Fresh.refl E S,hA,hv⟩
 ·split at h<;>cases h;rename_i h1;obtain⟨E1,e1,q1,f1,v1⟩:=qjx p h1 hw hv;have hA:E1.A id:=by cases v1;assumption
  exact⟨E1,e1,q1,f1,hA,v1⟩
theorem zjb{kc vc:TC}{v:IV}{id:Nat}{S':IS}{w:Nat}{u:Value}(h:rdM kc vc S v=some (id,S',w))(p:Pre T E S)(hw:tin T.w w)(hv:VR E v u) :
  ∃E',E'.w=E.w/\Post T E S E' S'/\Fresh E S E'/\E'.A id/\VR E' (.map id) u:=by
 unfold rdM at h;split at h<;>try cases h
 split at h<;>cases h;rename_i h1;obtain⟨E1,e1,q1,f1⟩:=qpp p h1 hw hv;have v1:=hv.mono (q1.env p);have hA:E1.A id:=by cases v1;assumption
 exact⟨E1,e1,q1,f1,hA,v1⟩
theorem q8p{ι:Nat->Nat}{all:List Nat}(hn:Nums ι 0 all):∀{cs:List IV} {is:List Nat},qfw all cs is=true->cs=is.map fun k=>.ptr (ι k) 0
 | [],[],_=>rfl
 | [],k::is,h=>by simp[qfw] at h
 | v::cs,[],h=>by cases v<;>simp [qfw] at h
 | v::cs,k::is,h=>by
  cases v<;>try (simp [qfw] at h;done)
  rename_i a off;cases off with
  | succ _=>simp [qfw] at h
  | zero =>
  simp only[qfw,jaf] at h;obtain⟨h1,h2⟩:=h;cases hk:all[k]? with
  | none=>rw[hk] at h1;cases h1
  | some b =>
   rw[hk] at h1;have e1:a=b:=jah h1;have e2:=hn k b hk;rw[ja4] at e2;rw[jbw,<- q8p hn h2,e2,e1]
def CloP(S:IS)(ι:Nat->Nat)(l:List PK)(rows:List Nat):Prop:=qef l=true\/∃all,Nums ι 0 all/\cloL S all l rows=true
theorem CloP.tail{S:IS}{ι:Nat->Nat}{r:RK}{l:List PK}{id:Nat}{q:List Nat}(h:CloP S ι (.ref r::l) (id::q)):CloP S ι l q:=by
 rcases h with h|⟨all,h1,h2⟩
 ·simp only[qef,jaf] at h;exact .inl h.2
 ·simp only[cloL,jaf] at h2;exact .inr ⟨all,h1,h2.2⟩
theorem CloP.head{S:IS}{ι:Nat->Nat}{f:Nat}{is:List Nat}{l:List PK}{id:Nat}{q:List Nat}(h:CloP S ι (.ref (.clo f is)::l) (id::q)):True/\S.heap.get id=some (.row [.fn f (is.map fun k=>.ptr (ι k) 0)]):=by
 rcases h with h|⟨all,h1,h2⟩
 ·simp[qef] at h
 ·simp only[cloL,jaf] at h2;have h3:=h2.1;split at h3
  ·rename_i g cs ho;simp only[jaf] at h3;rw[ho,jah h3.1,q8p h1 h3.2];exact⟨trivial,rfl⟩
  ·cases h3
theorem qf8:∀(l:List PK) {E:Env} {S:IS} {vs:List IV} {x:ElP l} {rows subs:List Nat} {S':IS} {w:Nat} {us:List Value},rdP0 l S vs=some (x,rows,subs,S',w)->Pre T E S->tin T.w w->VRs E vs us ->
  ∃E',E'.w=E.w/\Post T E S E' S'/\Fresh E S E'/\rows.length=mP l/\subs.length=nP l/\(∀id∈subs,E'.A id)/\(∀ρ k,Nums ρ k rows->VRs E' (qag l ρ k x) us)/\(∀ι n,Nums ι n subs->CloP S' ι l rows->qm4 E' rows (qal l ι n x))
 | [],E,S,vs,x,rows,subs,S',w,us,h,p,hw,hv=>by
  cases vs with
  | cons v vs=>cases h
  | nil=>cases h;exact⟨E,rfl,Post.refl p,Fresh.refl E S,rfl,rfl,fun id h=>(by cases h),fun _ _ _=>hv,fun _ _ _ _ j o h=>(by simp[qal] at h)⟩
 | .dat c::l,E,S,vs,x,rows,subs,S',w,us,h,p,hw,hv=>by
  cases vs with
  | nil=>cases h
  | cons v vs =>
  simp only[rdP0] at h;cases hb:fitV c v with
  | false=>rw[hb] at h;cases h
  | true =>
  rw[hb,jaa] at h;split at h<;>try cases h
  rename_i x1 S1 w1 h1;split at h<;>cases h;rename_i y w2 h2;obtain⟨g1,g2⟩:=qak hw;obtain⟨u,us,rfl,a1,a2⟩:=hv.inv;obtain⟨E1,e1,q1,f1,us1,us2,e2,v1,v2⟩:=qe0 c h1 p g1 (a1.cells (qxj hb));have:us2=[]:=by have:=v2.1;simpa using this.symm
  subst this;rw[jbk] at e2;rw[<- e2] at v1;have b1:=qvw hb a1 v1;obtain⟨E2,e3,q2,f2,l1,l2,A2,b2,b3⟩:=qf8 l h2 (q1.pre p) g2 (a2.mono (q1.env p));exact⟨E2,e3.trans e1,Post.trans p q1 f1 q2,f1.trans f2 q1.le,l1,l2,A2,fun ρ k hk=>VRs.cons (b1.mono (q2.env (q1.pre p))) (b2 ρ k hk),b3⟩
 | .fn f::l,E,S,vs,x,rows,subs,S',w,us,h,p,hw,hv=>by
  simp only[rdP0] at h;split at h<;>try cases h
  rename_i g vs;cases hb:Nat.beq g f with
  | false=>rw[hb] at h;cases h
  | true =>
  rw[hb] at h;have h:rdP0 l S vs=some (x,rows,subs,S',w):=h;obtain rfl:=jah hb;obtain⟨u,us,rfl,a1,a2⟩:=hv.inv;obtain⟨E2,e3,q2,f2,l1,l2,A2,b2,b3⟩:=qf8 l h p hw a2;exact⟨E2,e3,q2,f2,l1,l2,A2,fun ρ k hk=>VRs.cons (a1.mono (q2.env p)) (b2 ρ k hk),b3⟩
 | .ref (.sl c)::l,E,S,vs,x,rows,subs,S',w,us,h,p,hw,hv=>by
  cases vs with
  | nil=>cases h
  | cons v vs =>
  simp only[rdP0] at h;split at h<;>try cases h
  rename_i id S1 w1 h1;split at h<;>cases h;rename_i y q1 w2 h2;obtain⟨g1,g2⟩:=qak hw;obtain⟨u,us,rfl,a1,a2⟩:=hv.inv;obtain⟨E1,e1,p1,f1,A1,v1⟩:=zdm h1 p g1 a1;have hle1:=p1.env p;obtain⟨E2,e3,p2,f2,l2,l3,A2,b2,b3⟩:=qf8 l h2 (p1.pre p) g2 (a2.mono hle1);have hle2:=p2.env (p1.pre p);have v2:=v1.mono hle2;have hA2:E2.A id:=by cases v2;assumption
  refine⟨E2,e3.trans e1,Post.trans p p1 f1 p2,f1.trans f2 p1.le,by simp[l2,mP],by simp[l3,nP,nK],A2,fun ρ k hk=>?_,fun ι n hn hc j o hj=>?_⟩
  ·refine VRs.cons ?_ (b2 ρ (k+1) fun j id' hj=>?_)
   ·have:=hk 0 id rfl;rw[jby] at this;rw[this];exact v2
   ·have:=hk (j+1) id' (by simpa using hj)
    rwa [show k+(j+1)=k+1+j by omega] at this
  ·cases j with
   | zero =>
    simp only[qal,jap,jaw] at hj;subst hj;exact⟨id,rfl,hA2,fun h=>(by cases h),trivial⟩
   | succ j =>
    simp only[qal,jas] at hj;obtain⟨id',d1,d2,d3,d4⟩:=b3 ι _ hn hc.tail j o hj;exact⟨id',(by rw[jas];exact d1),d2,d3,d4⟩
 | .ref (.mp kc vc)::l,E,S,vs,x,rows,subs,S',w,us,h,p,hw,hv=>by
  cases vs with
  | nil=>cases h
  | cons v vs =>
  simp only[rdP0] at h;split at h<;>try cases h
  rename_i id S1 w1 h1;split at h<;>cases h;rename_i y q1 w2 h2;obtain⟨g1,g2⟩:=qak hw;obtain⟨u,us,rfl,a1,a2⟩:=hv.inv;obtain⟨E1,e1,p1,f1,A1,v1⟩:=zjb h1 p g1 a1;have hle1:=p1.env p;obtain⟨E2,e3,p2,f2,l2,l3,A2,b2,b3⟩:=qf8 l h2 (p1.pre p) g2 (a2.mono hle1);have hle2:=p2.env (p1.pre p);have v2:=v1.mono hle2;have hA2:E2.A id:=by cases v2;assumption
  refine⟨E2,e3.trans e1,Post.trans p p1 f1 p2,f1.trans f2 p1.le,by simp[l2,mP],by simp[l3,nP,nK],A2,fun ρ k hk=>?_,fun ι n hn hc j o hj=>?_⟩
  ·refine VRs.cons ?_ (b2 ρ (k+1) fun j id' hj=>?_)
   ·have:=hk 0 id rfl;rw[jby] at this;rw[this];exact v2
   ·have:=hk (j+1) id' (by simpa using hj)
    rwa [show k+(j+1)=k+1+j by omega] at this
  ·cases j with
   | zero =>
    simp only[qal,jap,jaw] at hj;subst hj;exact⟨id,rfl,hA2,fun h=>(by cases h),trivial⟩
   | succ j =>
    simp only[qal,jas] at hj;obtain⟨id',d1,d2,d3,d4⟩:=b3 ι _ hn hc.tail j o hj;exact⟨id',(by rw[jas];exact d1),d2,d3,d4⟩
 | .ref (.box r)::l,E,S,vs,x,rows,subs,S',w,us,h,p,hw,hv=>by
  cases vs with
  | nil=>cases h
  | cons v vs =>
  cases v<;>try (cases h;done)
  rename_i id off;cases off with
  | succ _=>cases h
  | zero =>
  simp only[rdP0] at h;split at h<;>try cases h
  rename_i cs ho;split at h<;>try cases h
  rename_i x1 i1 S1 w1 h1;split at h<;>cases h;rename_i y q1 q2 w2 h2;obtain⟨g0,g3⟩:=qak hw;obtain⟨g1,g2⟩:=qak g3;have hT:=qae g0;obtain⟨u,us,rfl,a1,a2⟩:=hv.inv;have hA:E.A id:=by cases a1;assumption
  obtain⟨cells,t,k1,k2,k3,k4⟩:=p.st.objs id (T.sub _ hT) hA _ ho;have hblk:=p.st.blk id (T.sub _ hT) hA _ ho rfl;obtain⟨E1,e1,p1,f1,l1,A1,us1,us2,e2,v1,v2⟩:=q8j r h1 p g1 k4;have:us2=[]:=by have:=v2.1;simpa using this.symm
  subst this;rw[jbk] at e2;have hle1:=p1.env p;obtain⟨E2,e3,p2,f2,l2,l3,A2,b2,b3⟩:=qf8 l h2 (p1.pre p) g2 (a2.mono hle1);have hle2:=p2.env (p1.pre p);obtain⟨c1,c2,c3,c4,c5⟩:=(hle1.trans hle2).alw id hA;refine⟨E2,e3.trans e1,Post.trans p p1 f1 p2,f1.trans f2 p1.le,by simp[l2,mP],by simp[l1,l3,nP,nK],fun id' h=>?_,fun ρ k hk=>?_,fun ι n hn hc j o hj=>?_⟩
  ·rcases jbe.1 h with h|h
   ·exact(hle2.alw _ (A1 id' h)).1
   ·exact A2 id' h
  ·refine VRs.cons ?_ (b2 ρ (k+1) fun j id' hj=>?_)
   ·have:=hk 0 id rfl;rw[jby] at this;rw[this];exact a1.mono (hle1.trans hle2)
   ·have:=hk (j+1) id' (by simpa using hj)
    rwa [show k+(j+1)=k+1+j by omega] at this
  ·cases j with
   | zero =>
    simp only[qal,jap,jaw] at hj;subst hj;refine⟨id,rfl,c1,fun _=>c5.trans hblk,?_⟩;have hv1:=(v1 ι n hn.fst).mono hle2;have hl:(qbx r ι n x1).length=cs.length:=by rw[hv1.1,<- e2,<- k4.1]
    refine⟨cells,t,by rw[c2,e3,e1];exact k1,by rw[c3];exact k2,by rw[hl];exact k3,?_⟩;rw[hl,e2];exact hv1
   | succ j =>
    simp only[qal,jas] at hj;have hn2:Nums ι (n+nK (.box r)) q2:=by show Nums ι (n+nR r) q2;rw[<- l1];exact hn.snd
    obtain⟨id',d1,d2,d3,d4⟩:=b3 ι _ hn2 hc.tail j o hj;exact⟨id',(by rw[jas];exact d1),d2,d3,d4⟩
 | .ref (.clo f is)::l,E,S,vs,x,rows,subs,S',w,us,h,p,hw,hv=>by
  cases vs with
  | nil=>cases h
  | cons v vs =>
  cases v<;>try (cases h;done)
  rename_i id off;cases off with
  | succ _=>cases h
  | zero =>
  simp only[rdP0] at h;split at h<;>try cases h
  rename_i g cs ho;split at h<;>cases h;rename_i y q1 w2 h2;obtain⟨g0,g2⟩:=qak hw;have hT:=qae g0;obtain⟨u,us,rfl,a1,a2⟩:=hv.inv;have hA:E.A id:=by cases a1;assumption
  have hblk:=p.st.blk id (T.sub _ hT) hA _ ho rfl;obtain⟨E2,e3,p2,f2,l2,l3,A2,b2,b3⟩:=qf8 l h2 p g2 a2;have hle2:=p2.env p;obtain⟨c1,c2,c3,c4,c5⟩:=hle2.alw id hA;refine⟨E2,e3,p2,f2,by simp[l2,mP],by simp[l3,nP,nK],A2,fun ρ k hk=>?_,fun ι n hn hc j o hj=>?_⟩
  ·refine VRs.cons ?_ (b2 ρ (k+1) fun j id' hj=>?_)
   ·have:=hk 0 id rfl;rw[jby] at this;rw[this];exact a1.mono hle2
   ·have:=hk (j+1) id' (by simpa using hj)
    rwa [show k+(j+1)=k+1+j by omega] at this
  ·cases j with
   | zero =>
    simp only[qal,jap,jaw] at hj;subst hj;obtain⟨k1,k2⟩:=hc.head;exact⟨id,rfl,c1,fun _=>c5.trans hblk,(p2.pre p).st.objs id (T.sub _ hT) c1 _ k2⟩
   | succ j =>
    simp only[qal,jas] at hj;obtain⟨id',d1,d2,d3,d4⟩:=b3 ι _ hn hc.tail j o hj;exact⟨id',(by rw[jas];exact d1),d2,d3,d4⟩
theorem qmw(l:List PK){E:Env}{S:IS}{vs:List IV}{x:ElP l}{rows subs:List Nat}{S':IS}{w:Nat}{us:List Value}(h:rdP l S vs=some (x,rows,subs,S',w))(p:Pre T E S)(hw:tin T.w w)(hv:VRs E vs us) :
  ∃E',E'.w=E.w/\Post T E S E' S'/\Fresh E S E'/\rows.length=mP l/\subs.length=nP l/\(∀id∈subs,E'.A id)/\(∀ρ k,Nums ρ k rows->VRs E' (qag l ρ k x) us)/\(∀ι n,Nums ι n subs->qef l=true\/Nums ι 0 rows->qm4 E' rows (qal l ι n x))/\okPs (mP l) l=true:=by
 obtain⟨h1,h2,h3⟩:=qwe h;obtain⟨E',a1,a2,a3,a4,a5,a6,a7,a8⟩:=qf8 l h1 p hw hv;exact⟨E',a1,a2,a3,a4,a5,a6,a7,fun ι n hn hc=>a8 ι n hn (hc.imp (fun h=>h) fun h=>⟨rows,h,h3⟩),h2⟩
end

def qsa(k v k' v':TC)(l:List (El k × El v)):Option (List (El k' × El v')) :=
 if h:TC.beq k k'=true/\TC.beq v v'=true then some (TC.beq_eq h.1▸TC.beq_eq h.2▸l) else none
theorem q5y{k v k' v':TC}{l:List (El k × El v)}{l':List (El k' × El v')}(h:qsa k v k' v' l=some l'):IObj.tmap k v l=.tmap k' v' l':=by
 unfold qsa at h;split at h
 ·rename_i e;have e1:=TC.beq_eq e.1;have e2:=TC.beq_eq e.2;subst e1;subst e2;cases h;rfl
 ·cases h
theorem q7z{c d:TC}{l:List (El c)}{l':List (El d)}(h:qbk c d l=some l'):IObj.arr c l=.arr d l':=by
 obtain⟨rfl,rfl⟩:=qci h;rfl
def fiC:(c:CT)->List Nat->IS->ElC c->Option (ElC c × List Nat)
 | .dat _,q,_,x=>some (x,q)
 | .arr c,q,S,_=>match q with
  | id::q=>match S.heap.get id with
   | some (.arr c' l)=>match qbk c' c l with
    | some l'=>some (l',q)
    | none=>none
   | _=>none
  | []=>none
 | .map k v,q,S,_=>match q with
  | id::q=>match S.heap.get id with
   | some (.tmap k' v' es)=>match qsa k' v' k v es with
    | some l'=>some (l',q)
    | none=>none
   | _=>none
  | []=>none
 | .fn _,q,_,x=>some (x,q)
def fiR:(r:List CT)->List Nat->IS->qca r->Option (qca r × List Nat)
 | [],q,_,_=>some ((),q)
 | c::cs,q,S,x=>match fiC c q S x.1 with
  | none=>none
  | some (x1,q1)=>match fiR cs q1 S x.2 with
   | none=>none
   | some (x2,q2)=>some ((x1,x2),q2)
def rowB(S:IS)(id:Nat):Bool:=match S.heap.get id with
 | some (.row _)=>true
 | _=>false
theorem qt8{S:IS}{id:Nat}(h:rowB S id=true):∃cs,S.H id=some (.row cs):=by
 unfold rowB at h;split at h
 ·rename_i cs ho;exact⟨cs,ho⟩
 ·cases h
def fiS(c:TC)(id:Nat)(S:IS):Option (Option (List (El c))):=match S.heap.get id with
 | some (.arr c' l)=>match qbk c' c l with
  | some l'=>some (some l')
  | none=>none
 | some .dead=>some none
 | _=>none
def fiM(k v:TC)(id:Nat)(S:IS):Option (Option (List (El k × El v))):=match S.heap.get id with
 | some (.tmap k' v' l)=>match qsa k' v' k v l with
  | some l'=>some (some l')
  | none=>none
 | some .dead=>some none
 | _=>none
def fiP:(l:List PK)->List Nat->List Nat->IS->ElP l->Option (ElP l)
 | [],_,_,_,_=>some ()
 | .dat _::l,r,q,S,x=>match fiP l r q S x.2 with
  | some y=>some (x.1,y)
  | none=>none
 | .fn _::l,r,q,S,x=>fiP l r q S x
 | .ref (.box k)::l,r,q,S,x=>match r with
  | id::r=>cond (rowB S id) (match fiR k q S x.1 with
   | none=>none
   | some (x1,q1)=>match fiP l r q1 S x.2 with
    | some y=>some (x1,y)
    | none=>none) none
  | []=>none
 | .ref (.sl c)::l,r,q,S,x=>match r with
  | id::r=>match fiS c id S with
   | none=>none
   | some x1=>match fiP l r q S x.2 with
    | some y=>some (x1,y)
    | none=>none
  | []=>none
 | .ref (.mp kc vc)::l,r,q,S,x=>match r with
  | id::r=>match fiM kc vc id S with
   | none=>none
   | some x1=>match fiP l r q S x.2 with
    | some y=>some (x1,y)
    | none=>none
  | []=>none
 | .ref (.clo _ _)::l,r,q,S,x=>match r with
  | id::r=>cond (rowB S id) (match fiP l r q S x.2 with
   | some y=>some ((),y)
   | none=>none) none
  | []=>none
theorem zbc{S:IS}:∀(c:CT) {q q':List Nat} {x x':ElC c},fiC c q S x=some (x',q')->(∀ι n,qc0 c ι n x'=qc0 c ι n x)/\∃q1,q=q1++q'/\q1.length=nC c/\∀j:Nat,(subC c x')[j]?=(q1[j]?).bind fun id=>S.heap.get id
 | .dat c,q,q',x,x',h=>by cases h;exact⟨fun _ _=>rfl,[],rfl,rfl,fun j=>by simp[subC]⟩
 | .arr c,q,q',x,x',h=>by
  cases q with
  | nil=>cases h
  | cons id q =>
  simp only[fiC] at h;split at h<;>try cases h
  rename_i c' l ho;split at h<;>cases h;rename_i hl;refine⟨fun _ _=>rfl,[id],rfl,rfl,fun j=>?_⟩;cases j with
  | zero=>simp only[subC,jap,jd2,ho,q7z hl]
  | succ j=>simp [subC]
 | .map k v,q,q',x,x',h=>by
  cases q with
  | nil=>cases h
  | cons id q =>
  simp only[fiC] at h;split at h<;>try cases h
  rename_i k' v' es ho;split at h<;>cases h;rename_i hl;refine⟨fun _ _=>rfl,[id],rfl,rfl,fun j=>?_⟩;cases j with
  | zero=>simp only[subC,jap,jd2,ho,q5y hl]
  | succ j=>simp [subC]
 | .fn _,q,q',x,x',h=>by cases h;exact⟨fun _ _=>rfl,[],rfl,rfl,fun j=>by simp[subC]⟩
theorem qvj{α β:Type}{f:α->Option β}{a1 a2:List β}{q1 q2:List α}(hl:a1.length=q1.length)(h1:∀j:Nat,a1[j]?=(q1[j]?).bind f)(h2:∀j:Nat,a2[j]?=(q2[j]?).bind f)(j:Nat) :
  (a1++a2)[j]?=((q1++q2)[j]?).bind f:=by
 by_cases h:j<a1.length
 ·rw[jat h,jat (by omega),h1]
 ·rw[jau (by omega),jau (by omega),h2,hl]
theorem q6u{S:IS}:∀(c:List CT) {q q':List Nat} {x x':qca c},fiR c q S x=some (x',q')->(∀ι n,qbx c ι n x'=qbx c ι n x)/\∃q1,q=q1++q'/\q1.length=nR c/\∀j:Nat,(subR c x')[j]?=(q1[j]?).bind fun id=>S.heap.get id
 | [],q,q',x,x',h=>by cases h;exact⟨fun _ _=>rfl,[],rfl,rfl,fun j=>by simp[subR]⟩
 | c::cs,q,q',x,x',h=>by
  simp only[fiR] at h;split at h
  ·cases h
  rename_i x1 q1 h1;split at h<;>cases h;rename_i x2 h2;obtain⟨a1,p1,rfl,a2,a3⟩:=zbc c h1;obtain⟨b1,p2,rfl,b2,b3⟩:=q6u cs h2;refine⟨fun ι n=>by simp only[qbx,a1,b1],p1++p2,(ja9 _ _ _).symm,by simp[a2,b2,nR],fun j=>?_⟩;exact qvj (by rw[qlt,a2]) a3 b3 j
theorem zf8{c:TC}{id:Nat}{S:IS}{x:Option (List (El c))}(h:fiS c id S=some x)(ι:Nat->Nat)(n:Nat):S.heap.get id=some (objK (.sl c) ι n x):=by
 unfold fiS at h;split at h<;>try cases h
 ·rename_i c' l ho;split at h<;>cases h;rename_i l' hl;rw[ho];exact jca some (q7z hl)
 ·rename_i ho;exact ho
theorem zih{k v:TC}{id:Nat}{S:IS}{x:Option (List (El k × El v))}(h:fiM k v id S=some x)(ι:Nat->Nat)(n:Nat):S.heap.get id=some (objK (.mp k v) ι n x):=by
 unfold fiM at h;split at h<;>try cases h
 ·rename_i k' v' l ho;split at h<;>cases h;rename_i l' hl;rw[ho];exact jca some (q5y hl)
 ·rename_i ho;exact ho
theorem qdn{S:IS}:∀(l:List PK) {r q:List Nat} {x x':ElP l},fiP l r q S x=some x'->q.length=nP l ->
  (∀(ι:Nat->Nat) (n j:Nat) (o:IObj),(qal l ι n x')[j]?=some o->∃id,r[j]?=some id/\(((qal l ι n x)[j]?=some o/\rowB S id=true)\/S.heap.get id=some o))/\(∀ρ k,qag l ρ k x'=qag l ρ k x)/\∀j:Nat,(qb4 l x')[j]?=(q[j]?).bind fun id=>S.heap.get id
 | [],r,q,x,x',h,hl=>by
  cases h;have:q=[]:=by simpa [nP] using hl
  subst this;exact⟨fun _ _ j o hj=>by simp[qal] at hj,fun _ _=>rfl,fun j=>by simp[qb4]⟩
 | .dat _::l,r,q,x,x',h,hl=>by
  simp only[fiP] at h;split at h<;>cases h;rename_i y h1;obtain⟨a1,a2,a3⟩:=qdn l h1 hl;exact⟨fun ι n=>a1 ι n,fun ρ k=>by simp only[qag,a2],a3⟩
 | .fn f::l,r,q,x,x',h,hl=>by
  obtain⟨a1,a2,a3⟩:=qdn l h hl;exact⟨fun ι n=>a1 ι n,fun ρ k=>jca (fun q=>IV.fn f []::q) (a2 ρ k),a3⟩
 | .ref (.box k)::l,r,q,x,x',h,hl=>by
  cases r with
  | nil=>cases h
  | cons id r =>
  simp only[fiP] at h;cases hb:rowB S id with
  | false=>rw[hb] at h;cases h
  | true =>
  rw[hb,jaa] at h;split at h
  ·cases h
  rename_i x1 q1 h1;split at h<;>cases h;rename_i y h2;obtain⟨a1,p1,rfl,a2,a3⟩:=q6u k h1;obtain⟨b1,b2,b3⟩:=qdn l h2 (by simp only[jaq,nP,nK] at hl;omega);refine⟨fun ι n j o hj=>?_,fun ρ k=>by simp only[qag,b2],fun j=>?_⟩
  ·cases j with
   | zero =>
    simp only[qal,jap,jaw] at hj;refine⟨id,rfl,.inl ⟨?_,hb⟩⟩;rw[<- hj];simp only[qal,jap,objK,a1]
   | succ j=>exact b1 ι _ j o hj
  ·exact qvj ((qq6 k x1).trans a2.symm) a3 b3 j
 | .ref (.sl c)::l,r,q,x,x',h,hl=>by
  cases r with
  | nil=>cases h
  | cons id r =>
  simp only[fiP] at h;split at h
  ·cases h
  rename_i x1 h1;split at h<;>cases h;rename_i y h2;obtain⟨b1,b2,b3⟩:=qdn l h2 (by simpa only [nP,nK,ja4] using hl);refine⟨fun ι n j o hj=>?_,fun ρ k=>by simp only[qag,b2],b3⟩;cases j with
  | zero =>
   simp only[qal,jap,jaw] at hj;exact⟨id,rfl,.inr (by rw[<- hj];exact zf8 h1 ι n)⟩
  | succ j=>exact b1 ι _ j o hj
 | .ref (.mp kc vc)::l,r,q,x,x',h,hl=>by
  cases r with
  | nil=>cases h
  | cons id r =>
  simp only[fiP] at h;split at h
  ·cases h
  rename_i x1 h1;split at h<;>cases h;rename_i y h2;obtain⟨b1,b2,b3⟩:=qdn l h2 (by simpa only [nP,nK,ja4] using hl);refine⟨fun ι n j o hj=>?_,fun ρ k=>by simp only[qag,b2],b3⟩;cases j with
  | zero =>
   simp only[qal,jap,jaw] at hj;exact⟨id,rfl,.inr (by rw[<- hj];exact zih h1 ι n)⟩
  | succ j=>exact b1 ι _ j o hj
 | .ref (.clo f is)::l,r,q,x,x',h,hl=>by
  cases r with
  | nil=>cases h
  | cons id r =>
  simp only[fiP] at h;cases hb:rowB S id with
  | false=>rw[hb] at h;cases h
  | true =>
  rw[hb,jaa] at h;split at h<;>cases h;rename_i y h2;obtain⟨b1,b2,b3⟩:=qdn l h2 (by simpa only [nP,nK,ja4] using hl);refine⟨fun ι n j o hj=>?_,fun ρ k=>by simp only[qag,b2],b3⟩;cases j with
  | zero =>
   simp only[qal,jap,jaw] at hj;exact⟨id,rfl,.inl ⟨by rw[<- hj];rfl,hb⟩⟩
  | succ j=>exact b1 ι _ j o hj
def zg8(E:Env)(S:IS)(rows:List Nat)(os:List IObj):Prop:=∀(j:Nat) (o:IObj),os[j]?=some o->∃id,rows[j]?=some id/\E.A id/\(o.blk=true->E.hb id=true)/\OR E id o/\(o.live=true->∃o0,S.H id=some o0/\o0.live=true)
theorem qqt{T:TW}{E:Env}{S:IS}{l:List PK}{rows q:List Nat}{x x':ElP l}(h:fiP l rows q S x=some x')(hl:q.length=nP l)(p:Pre T E S)(hT:∀id∈rows,T.r id){ι:Nat->Nat}{n:Nat}
  (hr:qm4 E rows (qal l ι n x)):zg8 E S rows (qal l ι n x'):=fun j o hj=>by
 obtain⟨id,d1,d2⟩:=(qdn l h hl).1 ι n j o hj;rcases d2 with ⟨d2,d3⟩|d2
 ·obtain⟨id',g1,g2,g3,g4⟩:=hr j o d2;rw[d1] at g1;cases g1;obtain⟨cs,hcs⟩:=qt8 d3;exact⟨id,d1,g2,g3,g4,fun _=>⟨_,hcs,rfl⟩⟩
 ·have hj2:j<(qal l ι n x).length:=by
   have:=(jav.1 hj).1;rw[qaw] at this ⊢;exact this
  obtain⟨id',g1,g2,g3,g4⟩:=hr j _ (jab hj2);rw[d1] at g1;cases g1;have hTr:=hT id (jbb d1);exact⟨id,d1,g2,fun hb=>p.st.blk id hTr g2 o d2 hb,p.st.objs id hTr g2 o d2,fun hl=>⟨o,d2,hl⟩⟩
end Go.Jx
end

section
namespace Go.Jx
open Go Go.Sx Go.RowKit
universe u

structure SmR where
 ps:List PK
 rts:List (Bool × TC)
 f:ElP ps->Option (ElR rts × ElP (refs ps))
def RetB(B:Nat)(T:TW)(E:Env)(S:IS)(r:Res):Ending->World->Prop:=fun e w'=>∃u E',e=.returned u/\E'.w=w'/\VR E' r.v u/\PostB B T E S E' r.S
def newO(s:SmR)(y:ElR s.rts)(z:ElP (refs s.ps)):List IObj:=qb4 (refs s.ps) z++resO s.rts y
def ScB(s:SmR)(y:ElR s.rts)(z:ElP (refs s.ps)):IS:=addO (qal (refs s.ps) idN (mP s.ps) z++newO s y z) S0
def vB(s:SmR)(base:Nat)(y:ElR s.rts):IV:=tupI (resV s.rts (base+nP (refs s.ps)) y)
structure ConR (P:Program) (f:Nat) (s:SmR):Prop where
 callable:qai P f
 calls:∀(E:Env) (x:ElP s.ps) (us:List Value) (y:ElR s.rts) (z:ElP (refs s.ps)),s.f x=some (y,z)->Pre T0 E (Sc s.ps x)->VRs E (qag s.ps idN 0 x) us ->
  CallsIn Fence.wide 0 P f us.toArray E.w (RetB (mP s.ps) T0 E (Sc s.ps x) ⟨vB s (mP s.ps) y,ScB s y z,0,0⟩)
theorem qmh{N:Nat}:∀l:List PK,okPs N (refs l)=okPs N l
 | []=>rfl
 | .dat _::l=>qmh l
 | .fn _::l=>qmh l
 | .ref _::l=>by simp only[refs,okPs,qmh l]
def nuB(rows:List Nat)(m n k:Nat):Nat:=if k<m then rows.getD k 0 else n+(k-m)
theorem q23{rows:List Nat}{m n k:Nat}(h:m<=k):nuB rows m n k=n+(k-m):=jak (by omega)
theorem zah{rows:List Nat}{m n k id:Nat}(h:k<m)(hr:rows[k]?=some id):nuB rows m n k=id:=by
 unfold nuB;rw[jam h,jal,hr];rfl
theorem qbr:∀l:List PK,mP (refs l)=mP l
 | []=>rfl
 | .dat _::l=>qbr l
 | .fn _::l=>qbr l
 | .ref _::l=>by simp only[refs,mP,qbr l]
def qa3:List Nat->Nat
 | []=>0
 | id::l=>2 ^ id ||| qa3 l
theorem qps{T:Nat->Prop}:∀{l:List Nat},tin T (qa3 l)->∀id∈l,T id
 | [],_,id,h=>by cases h
 | i::l,ht,id,h=>by
  obtain⟨h1,h2⟩:=qak ht;rcases ja0.1 h with h|h
  ·rw[h];exact qae h1
  ·exact qps h2 id h
theorem qpr:∀{l:List Nat} {id:Nat},id∈l->(qa3 l).testBit id=true
 | [],id,h=>by cases h
 | i::l,id,h=>by
  simp only[qa3,jbt,jc7];rcases ja0.1 h with h|h
  ·rw[h];exact .inl (jdk)
  ·exact .inr (qpr h)
def qd4:List Nat->IS->IS
 | [],S=>S
 | id::l,S=>qd4 l (S.set id .dead)
def setL:List Nat->List IObj->IS->IS
 | id::l,o::os,S=>setL l os (S.set id o)
 | _,_,S=>S
theorem qn3:∀(l:List Nat) (S:IS),(qd4 l S).next=S.next
 | [],S=>rfl
 | id::l,S=>qn3 l _
theorem qru:∀(l:List Nat) (os:List IObj) (S:IS),(setL l os S).next=S.next
 | [],os,S=>rfl
 | _::_,[],S=>rfl
 | id::l,o::os,S=>qru l os _
theorem qj3:∀{l:List Nat} {S:IS} {k:Nat},k ∉ l->(qd4 l S).H k=S.H k
 | [],S,k,h=>rfl
 | id::l,S,k,h=>by
  simp only[ja0,not_or] at h;unfold qd4;rw[qj3 h.2,IS.H_set,up_ne _ _ h.1]
theorem qwc:∀{l:List Nat} {S:IS} {k:Nat},k∈l->(qd4 l S).H k=some .dead
 | [],S,k,h=>by cases h
 | id::l,S,k,h=>by
  unfold qd4;by_cases hk:k∈l
  ·exact qwc hk
  ·rw[qj3 hk,IS.H_set];rcases ja0.1 h with h|h
   ·rw[h,qaf]
   ·exact absurd h hk
theorem qgb:∀{l:List Nat} {os:List IObj} {S:IS} {k:Nat},k ∉ l->(setL l os S).H k=S.H k
 | [],os,S,k,h=>rfl
 | _::_,[],S,k,h=>rfl
 | id::l,o::os,S,k,h=>by
  simp only[ja0,not_or] at h;unfold setL;rw[qgb h.2,IS.H_set,up_ne _ _ h.1]
theorem qu3:∀{l:List Nat} {os:List IObj} {S:IS} {j k:Nat},l.Nodup->os.length=l.length->l[j]?=some k->(setL l os S).H k=os[j]?
 | [],os,S,j,k,hn,hl,h=>by simp at h
 | _::_,[],S,j,k,hn,hl,h=>by simp at hl
 | id::l,o::os,S,j,k,hn,hl,h=>by
  obtain⟨h1,h2⟩:=jdv.1 hn;unfold setL;cases j with
  | zero =>
   simp only[jap,jaw] at h;subst h;rw[qgb h1,IS.H_set,qaf];rfl
  | succ j =>
   rw[jas] at h ⊢;exact qu3 h2 (by simpa using hl) h
def qbv(s:SmR)(n:Nat)(rows subs:List Nat)(y:ElR s.rts)(z:ElP (refs s.ps))(S:IS):IS :=
 addO (newO s y z) (setL rows (qal (refs s.ps) (nuB rows (mP s.ps) n) (mP s.ps) z) (qd4 subs S))
def exR(s:SmR)(vs:List IV)(S:IS):Option Res :=
 match rdP s.ps S vs with
 | none=>none
 | some (x0,rows,subs,S1,w)=>cond (ndB (rows++subs)) (match fiP s.ps rows subs S1 x0 with
  | none=>none
  | some x=>match s.f x with
   | none=>none
   | some (y,z)=>some ⟨vB s S1.next y,qbv s S1.next rows subs y z S1,0,(w ||| qa3 (rows++subs)) ||| cond (Nat.blt 0 rows.length) 0 (2 ^ S1.next)⟩) none
theorem qnw:∀(l:List PK) (x:ElP l) (o:IObj),o∈qb4 l x->datO o=true:=by
 have hr:∀(r:List CT) (x:qca r) (o:IObj),o∈subR r x->datO o=true:=by
  intro r;induction r with
  | nil=>intro x o h;cases h
  | cons c cs ih =>
   intro x o h;rcases jbe.1 h with h|h
   ·cases c with
    | dat c=>cases h
    | arr c=>rw[jb4.1 h];rfl
    | map k v=>rw[jb4.1 h];rfl
    | fn f=>cases h
   ·exact ih x.2 o h
 intro l;induction l with
 | nil=>intro x o h;cases h
 | cons p l ih =>
  intro x o h;cases p with
  | dat c=>exact ih x.2 o h
  | fn f=>exact ih x o h
  | ref r =>
   rcases jbe.1 h with h|h
   ·cases r with
    | box r=>exact hr r x.1 o h
    | sl c=>cases h
    | mp k v=>cases h
    | clo f is=>cases h
   ·exact ih x.2 o h
theorem qwf{s:SmR}{y:ElR s.rts}{z:ElP (refs s.ps)}{o:IObj}(h:o∈newO s y z):datO o=true:=by
 rcases jbe.1 h with h|h
 ·exact qnw _ _ o h
 ·obtain⟨c,l,rfl⟩:=ql4 _ _ _ h;rfl
theorem qw6{E E':Env}(hm:∀b,b∈E'.m->b∈E.m)(hw:E'.w=E.w):∀(cs:List (Bool × TC)) {k k':Nat} {y:ElR cs} {us:List Value},(∀j,qb5 E E' (k+j) (k'+j))->VRs E (resV cs k y) us->VRs E' (resV cs k' y) us
 | [],k,k',y,us,hn,h=>by have:=h.1;cases us with|nil=>exact VRs.nil|cons _ _=>simp [resV] at this
 | (true,c)::cs,k,k',y,us,hn,h=>by
  obtain⟨u,us,rfl,a1,a2⟩:=VRs.inv (v:=.arr k) (cs:=resV cs (k+1) y.2) h;refine VRs.cons ?_ (qw6 hm hw cs (fun j=>?_) a2)
  ·cases a1 with
   | arr hA hh =>
    obtain⟨b1,b2,b3,b4,b5⟩:=hn 0 hA;exact .arr b1 (b4.trans hh)
  ·have:=hn (j+1)
   rwa [show k+(j+1)=k+1+j by omega,show k'+(j+1)=k'+1+j by omega] at this
 | (false,c)::cs,k,k',y,us,hn,h=>by
  obtain⟨u,us,rfl,a1,a2⟩:=VRs.inv (v:=asIV c y.1) (cs:=resV cs k y.2) h;exact VRs.cons (qek hm hw a1) (qw6 hm hw cs hn a2)
theorem qj9:∀(cs:List (Bool × TC)) (i:Nat) (y:ElR cs),(resV cs i y).length=cs.length
 | [],_,_=>rfl
 | (true,_)::cs,i,y=>by simp only[resV,jbj,qj9 cs]
 | (false,_)::cs,i,y=>by simp only[resV,jbj,qj9 cs]
theorem zdz{E E':Env}{vs ws:List IV}{u:Value}(h:∀us,VRs E vs us->VRs E' ws us)(hl:vs.length=ws.length)(hu:VR E (tupI vs) u):VR E' (tupI ws) u:=by
 match vs,ws,hl with
 | [],[],_ =>
  cases hu with
  | tup hl hh=>have:=h _ ⟨hl,hh⟩;exact .tup this.1 this.2
 | [v],[w],_ =>
  have:=h [u] (VRs.cons hu VRs.nil);exact this.2 0 (by simp) (by simp)
 | v1::v2::vs,w1::w2::ws,_ =>
  cases hu with
  | tup hl hh=>have:=h _ ⟨hl,hh⟩;exact .tup this.1 this.2
section
variable {P : Program} {T : TW} {E : Env} {S : IS}
theorem q07{f:Nat}{s:SmR}(hc:ConR P f s){vs:List IV}{r:Res}(h:exR s vs S=some r){us:List Value}(p:Pre T E S)(hwr:tin T.w r.wr)(hv:VRs E vs us) :
  qai P f/\CallsIn Fence.wide 0 P f us.toArray E.w (RetE T E S r):=by
 refine⟨hc.callable,?_⟩;unfold exR at h;split at h
 ·cases h
 rename_i x0 rows subs S1 w hrd;cases hb1:ndB (rows++subs) with
 | false=>rw[hb1] at h;cases h
 | true =>
 rw[hb1,jaa] at h;split at h
 ·cases h
 rename_i x hfi;split at h
 ·cases h
 rename_i y z hf;cases h;obtain⟨g1,g2⟩:=qak (qak hwr).1;obtain⟨E1,e1,q1,f1,l1,l2,A2,b2,b3,hok⟩:=qmw s.ps hrd p g1 hv;have p1:=q1.pre p;obtain⟨_,c2,c3⟩:=qdn s.ps hfi l2;have hnd:=qig hb1;have hT:=qps g2;generalize hq:rows++subs=q at hnd hT;have hql:q.length=mP s.ps+nP s.ps:=by rw[<- hq,jaq,l1,l2]
 have hnq:Nums (ol 0 q) 0 q:=fun j id hj=>by
  rw[ja4];unfold ol;rw[jak (by omega),jc4,jal,hj];rfl
 have hnr:Nums (ol 0 q) 0 rows:=by rw[<- hq] at hnq ⊢;exact hnq.fst
 have hns:Nums (ol 0 q) (mP s.ps) subs:=by
  have:=hnq;rw[<- hq] at this;have:=this.snd
  rwa [ja4,l1,hq] at this
 have hTr:∀id∈rows,T.r id:=fun id hid=>T.sub _ (hT id (by rw[<- hq];exact jb1 _ hid));have hrows:=qqt hfi l2 p1 hTr (b3 _ _ hns (.inr hnr));have hrk:∀k,k<mP s.ps->rows[k]?=some (ol 0 q k):=fun k hk=>by
  have h1:k<rows.length:=by omega
  rw[jab h1,<- hnr k _ (jab h1),ja4]
 have hsk:∀k,mP s.ps<=k->k<q.length->subs[k-mP s.ps]?=some (ol 0 q k):=fun k h1 h2=>by
  have h3:k-mP s.ps<subs.length:=by omega
  rw[jab h3,<- hns _ _ (jab h3),jes h1]
 have hrowA:∀k,k<mP s.ps->∃r nj xj,(∀ι,(qal s.ps ι (mP s.ps) x)[k]?=some (objK r ι nj xj))/\mP s.ps<=nj/\nj+nK r<=q.length/\E1.A (ol 0 q k)/\((objK r (ol 0 q) nj xj).blk=true->E1.hb (ol 0 q k)=true)/\OR E1 (ol 0 q k) (objK r (ol 0 q) nj xj)/\((objK r (ol 0 q) nj xj).live=true->∃o0,S1.H (ol 0 q k)=some o0/\o0.live=true)/\∀k'∈isK r,k'<mP s.ps:=fun k hk=>by
  have h1:k<(qal s.ps (ol 0 q) (mP s.ps) x).length:=by rw[qaw];exact hk
  obtain⟨r,nj,xj,d1,d2,d3,d4,d5⟩:=qeu s.ps (ol 0 q) (mP s.ps) x k _ (jab h1);obtain⟨id,i1,i2,i3,i4,i5⟩:=hrows k _ (d4 (ol 0 q));rw[hrk k hk] at i1;cases i1;exact⟨r,nj,xj,d4,d2,by omega,i2,i3,i4,i5,d5 _ hok⟩
 have hA:∀id∈q,E1.A id:=fun id hid=>by
  rw[<- hq] at hid;rcases jbe.1 hid with hid|hid
  ·obtain⟨k,hk,rfl⟩:=jbq.1 hid;obtain⟨_,_,_,_,_,_,i2,_,_⟩:=hrowA k (by omega);have:=hrk k (by omega);rw[jab hk,jaw] at this;rw[this];exact i2
  ·exact A2 id hid
 have hnum:∀k,k<q.length->qb5 E1 (renE 0 q E1) (ol 0 q k) k:=fun k hk hA=>⟨⟨by omega,hA⟩,rfl,rfl,rfl,rfl⟩;have hobj:∀k o,k<q.length->E1.A (ol 0 q k)->(Sc s.ps x).H k=some o->ObjTo E1 S1 (renE 0 q E1) (ol 0 q k) k o:=fun k o hk hAk ho=>by
  unfold Sc at ho;rw[qf4] at ho;by_cases hkm:k<mP s.ps
  ·rw[jat (by rw[qaw];exact hkm)] at ho;obtain⟨r,nj,xj,d1,d2,d3,d4,d5,d6,d7,d8⟩:=hrowA k hkm;rw[d1 idN] at ho;cases ho;exact⟨OR.objK_to (E:=E1) (E':=renE 0 q E1) (fun _ h=>h) rfl hAk (hnum k hk) (fun j a b=>hnum j (by omega)) (fun j hj=>hnum j (by have:=d8 j hj;omega)) d6,fun hl=>d7 (ql0.trans hl),fun hb=>d5 (qhl.trans hb)⟩
  ·rw[jau (by rw[qaw];omega),qaw] at ho;have hd:=qnw _ _ _ (jbb ho);rw[c3,hsk k (by omega) hk] at ho;have hid:=(qbo hk).1;exact⟨OR.dat_to (E:=E1) (E':=renE 0 q E1) (fun _ h=>h) rfl hAk (hnum k hk) hd (p1.st.objs _ (T.sub _ (hT _ hid)) hAk _ ho),fun hl=>⟨_,ho,hl⟩,fun hbk=>p1.st.blk _ (T.sub _ (hT _ hid)) hAk _ ho hbk⟩
 have hpre:Pre T0 (renE 0 q E1) (Sc s.ps x):=Pre.re p1 hnd (fun id h=>T.sub _ (hT id h)) (by rw[qgu,hql]) hobj;have hargs:VRs (renE 0 q E1) (qag s.ps idN 0 x) us:=argsP_env (E:=E1) (E':=renE 0 q E1) (ρ:=ol 0 q) (fun _ h=>h) rfl s.ps (fun j a b=>hnum j (by omega)) (by rw[c2];exact b2 _ _ hnr);have hcall:=hc.calls _ x us y z hf hpre hargs;rw[show (renE 0 q E1).w=E.w from e1] at hcall;refine hcall.mono fun e w' hR=>?_;obtain⟨u,Er,rfl,rfl,k1,k2⟩:=hR;have hlt:∀id,id∈q->id<S1.next:=fun id h=>p1.bnd id (hA id h)
 have hsb:∀k,k<q.length->Live (renE 0 q E1) (Sc s.ps x).H k->Live E1 S1.H (ol 0 q k):=fun k hk ⟨h0,o,h1,h2⟩=>⟨h0,(hobj k o hk (hA _ (qbo hk).1) h1).live h2⟩;have hbn:(setL rows (qal (refs s.ps) (nuB rows (mP s.ps) S1.next) (mP s.ps) z) (qd4 subs S1)).next=S1.next:=by rw[qru,qn3]
 have hndr:rows.Nodup:=by rw[<- hq] at hnd;exact(jcc.1 hnd).1
 have hrs:∀id,id∈rows->id ∉ subs:=fun id h1 h2=>by
  rw[<- hq] at hnd;exact(jcc.1 hnd).2.2 id h1 id h2 rfl
 have hScB:∀k,(ScB s y z).H k=(qal (refs s.ps) idN (mP s.ps) z++newO s y z)[k]?:=fun k=>qf4 _ k;have hEA:∀k,k<mP s.ps->Er.A k/\Er.ρ k=E1.ρ (ol 0 q k)/\Er.κ k=E1.κ (ol 0 q k)/\Er.hd k=E1.hd (ol 0 q k)/\Er.hb k=E1.hb (ol 0 q k):=fun k hk=>by
  obtain⟨a1,a2,a3,a4,a5⟩:=k2.alw k hk ⟨by omega,hA _ (qbo (by omega)).1⟩;exact⟨a1,a2,a3,a4,a5⟩
 obtain⟨m1,m2⟩:=q60 (n:=S1.next) (m:=mP s.ps) (S':=qbv s S1.next rows subs y z S1) p1 hnd hT hA (by omega) rfl hsb k2 (by
   unfold qbv ScB;rw[qcr,qcr,hbn,jaq,qaw,qbr];have:S0.next=0:=rfl
   omega) (fun id hid hnq=>by
   unfold qbv;rw[qb9,hbn,jam hid,qgb (fun h=>hnq (by rw[<- hq];exact jb1 _ h)),qj3 (fun h=>hnq (by rw[<- hq];exact jbz _ h))]) (fun k o hk ho=>by
   unfold qbv at ho;have hin:=(qbo (q:=q) (k:=k) (by omega)).1;rw[qb9,hbn,jam (hlt _ hin),qu3 hndr (by rw[qaw,qbr,l1]) (hrk k hk)] at ho;obtain⟨r,nj,xj,rfl,d2,d3,d4,d5⟩:=qeu _ _ _ _ _ _ ho;have d5:=d5 (mP s.ps) (by rw[qmh];exact hok);have hsr:(ScB s y z).H k=some (objK r idN nj xj):=by
    rw[hScB,jat (by rw[qaw,qbr];exact hk)];exact d4 idN
   obtain⟨a1,a2,a3,a4,a5⟩:=hEA k hk;obtain⟨o1,o2,o3,o4⟩:=qcl (E:=E1) (Er:=Er) (n:=S1.next) (m:=mP s.ps) (hlt _ hin);obtain⟨_,_,_,_,_,_,i2,_⟩:=hrowA k hk;exact⟨OR.objK_to (E:=Er) (E':=mrgR E1 Er S1.next (mP s.ps)) (fun _ h=>h) rfl a1 (fun _=>⟨.inl ⟨hlt _ hin,i2⟩,o1.trans a2.symm,o2.trans a3.symm,o3.trans a4.symm,o4.trans a5.symm⟩) (fun j a b hAj=>by
    obtain⟨r1,r2,r3,r4,r5⟩:=qh2 (E:=E1) (Er:=Er) (n:=S1.next) (m:=mP s.ps) (k:=j) (by omega);rw[q23 (by omega)];exact⟨r5 hAj,r1,r2,r3,r4⟩) (fun j hj hAj=>by
    have hjm:=d5 j hj;obtain⟨a1',a2',a3',a4',a5'⟩:=hEA j hjm;have hinj:=(qbo (q:=q) (k:=j) (by omega)).1;obtain⟨o1',o2',o3',o4'⟩:=qcl (E:=E1) (Er:=Er) (n:=S1.next) (m:=mP s.ps) (hlt _ hinj);rw[zah hjm (hrk j hjm)];exact⟨.inl ⟨hlt _ hinj,hA _ hinj⟩,o1'.trans a2'.symm,o2'.trans a3'.symm,o3'.trans a4'.symm,o4'.trans a5'.symm⟩) (k2.st.objs k trivial a1 _ hsr),fun hl=>⟨_,hsr,ql0.trans hl⟩,fun hb=>(o4.trans a5.symm).trans (k2.st.blk k trivial a1 _ hsr (qhl.trans hb))⟩) (fun k o h1 h2 ho=>by
   unfold qbv at ho;have hin:=(qbo (q:=q) (k:=k) h2).1;have hin2:=jbb (hsk k h1 h2);rw[qb9,hbn,jam (hlt _ hin),qgb (fun h=>hrs _ h hin2),qwc hin2] at ho;cases ho;rfl) (fun k o h1 hAk ho=>by
   unfold qbv at ho;have hkb:=k2.bnd k hAk;unfold ScB at hkb;rw[qcr,jaq,qaw,qbr] at hkb;have e0:S0.next=0:=rfl
   rw[qb9,hbn,jak (by omega),jam (by omega),ja1] at ho;have hd:=qwf (jbb ho);have hsr:(ScB s y z).H k=some o:=by
    rw[hScB,jau (by rw[qaw,qbr];exact h1),qaw,qbr];exact ho
   obtain⟨r1,r2,r3,r4,r5⟩:=qh2 (E:=E1) (Er:=Er) (n:=S1.next) (m:=mP s.ps) (k:=k) h1;exact⟨OR.dat_to (E:=Er) (E':=mrgR E1 Er S1.next (mP s.ps)) (fun _ h=>h) rfl hAk (fun hA=>⟨r5 hA,r1,r2,r3,r4⟩) hd (k2.st.objs k trivial hAk _ hsr),fun hl=>⟨_,hsr,hl⟩,fun hbk=>r4.trans (k2.st.blk k trivial hAk _ hsr hbk)⟩)
 refine⟨u,mrgR E1 Er S1.next (mP s.ps),rfl,rfl,?_,Post.trans p q1 f1 m1,f1.trans m2 q1.le⟩;refine zdz (E:=Er) (E':=mrgR E1 Er S1.next (mP s.ps)) (fun us h=>qw6 (E:=Er) (E':=mrgR E1 Er S1.next (mP s.ps)) (fun _ h=>h) rfl s.rts (fun j hAj=>?_) h) (by rw[qj9,qj9]) k1;obtain⟨r1,r2,r3,r4,r5⟩:=qh2 (E:=E1) (Er:=Er) (n:=S1.next) (m:=mP s.ps) (k:=mP s.ps+nP (refs s.ps)+j) (by omega);have e:S1.next+(mP s.ps+nP (refs s.ps)+j-mP s.ps)=S1.next+nP (refs s.ps)+j:=by omega
 rw[e] at r1 r2 r3 r4 r5;exact⟨r5 hAj,r1,r2,r3,r4⟩
end
end Go.Jx
end

section
namespace Go.Jx
open Go Go.Sx Go.RowKit
universe u

def exRK{R:Type}(s:SmR)(vs:List IV)(S:IS)(kk:Res->Option R):Option R :=
 match rdP s.ps S vs with
 | none=>none
 | some (x0,rows,subs,S1,w)=>cond (ndB (rows++subs)) (match fiP s.ps rows subs S1 x0 with
  | none=>none
  | some x=>match s.f x with
   | none=>none
   | some (y,z)=>kk ⟨vB s S1.next y,qbv s S1.next rows subs y z S1,0,(w ||| qa3 (rows++subs)) ||| cond (Nat.blt 0 rows.length) 0 (2 ^ S1.next)⟩) none
theorem zbo{R:Type}(s:SmR)(vs:List IV)(S:IS)(kk:Res->Option R):exRK s vs S kk=ob (exR s vs S) kk:=by
 simp only[exRK,exR];cases rdP s.ps S vs with
 | none=>rfl
 | some q =>
  obtain⟨x0,rows,subs,S1,w⟩:=q;simp only[qa6];cases fiP s.ps rows subs S1 x0 with
  | none=>rfl
  | some x =>
   simp only;cases s.f x with
   | none=>rfl
   | some q=>rfl
def hxR(s:SmR):Hx:=⟨fun _ vs S=>exR s vs S,fun _ _ vs S kk=>exRK s vs S kk,fun _ _ _ _ vs S kk=>zbo s vs S kk⟩
theorem zi2{S S':IS}:∀(c:CT) {cs:List IV} {x:ElC c} {ids:List Nat} {r:List IV} {w:Nat},rdC c S cs=some (x,ids,r,S',w)->FrX S S' w
 | .dat c,cs,x,ids,r,w,h=>by
  simp only[rdC] at h;split at h<;>cases h;rename_i h1;obtain⟨a1,a2⟩:=qen c _ _ _ _ _ _ h1;exact⟨jdm a1.symm,fun id _ hb=>a2 id hb⟩
 | .arr c,cs,x,ids,r,w,h=>by
  cases cs with
  | nil=>cases h
  | cons v cs =>
  simp only[rdC] at h;split at h<;>cases h;rename_i h1;exact qod h1
 | .map k v,cs,x,ids,r,w,h=>by
  cases cs with
  | nil=>cases h
  | cons u cs =>
  cases u<;>try (cases h;done)
  simp only[rdC] at h;split at h<;>cases h;rename_i h1;exact qpb h1
 | .fn f,cs,x,ids,r,w,h=>by
  simp only[rdC] at h;split at h<;>try cases h
  rename_i g cs;cases hb:Nat.beq g f with
  | false=>rw[hb] at h;cases h
  | true =>
  rw[hb] at h;cases h;exact FrX.refl _ _
theorem qzq:∀(c:List CT) {S S':IS} {cs:List IV} {x:qca c} {ids:List Nat} {r:List IV} {w:Nat},rdR c S cs=some (x,ids,r,S',w)->FrX S S' w
 | [],S,S',cs,x,ids,r,w,h=>by cases h;exact FrX.refl _ _
 | c::l,S,S',cs,x,ids,r,w,h=>by
  simp only[rdR] at h;split at h
  ·cases h
  rename_i h1;split at h<;>cases h;rename_i h2;exact(zi2 c h1).trans (qzq l h2)
theorem zhc{S S':IS}{c:TC}{v:IV}{id w:Nat}(h:rdS c S v=some (id,S',w)):FrX S S' w:=by
 unfold rdS at h;split at h
 ·cases h;exact FrX.refl _ _
 ·split at h<;>cases h;rename_i h1;exact qod h1
theorem zej{kc vc:TC}{S S':IS}{v:IV}{id w:Nat}(h:rdM kc vc S v=some (id,S',w)):FrX S S' w:=by
 unfold rdM at h;split at h<;>try cases h
 split at h<;>cases h;rename_i h1;exact qpb h1
theorem qgn:∀(l:List PK) {S S':IS} {vs:List IV} {x:ElP l} {q1 q2:List Nat} {w:Nat},rdP0 l S vs=some (x,q1,q2,S',w)->FrX S S' w
 | [],S,S',vs,x,q1,q2,w,h=>by
  cases vs with
  | cons v vs=>cases h
  | nil=>cases h;exact FrX.refl _ _
 | .dat c::l,S,S',vs,x,q1,q2,w,h=>by
  cases vs with
  | nil=>cases h
  | cons v vs =>
  simp only[rdP0] at h;cases hb:fitV c v with
  | false=>rw[hb] at h;cases h
  | true =>
  rw[hb,jaa] at h;split at h<;>try cases h
  rename_i h1;split at h<;>cases h;rename_i h2;obtain⟨a1,a2⟩:=qen c _ _ _ _ _ _ h1;exact FrX.trans ⟨jdm a1.symm,fun id _ hb=>a2 id hb⟩ (qgn l h2)
 | .fn f::l,S,S',vs,x,q1,q2,w,h=>by
  simp only[rdP0] at h;split at h<;>try cases h
  rename_i g vs;cases hb:Nat.beq g f with
  | false=>rw[hb] at h;cases h
  | true =>
  rw[hb] at h;have h:rdP0 l S vs=some (x,q1,q2,S',w):=h;exact qgn l h
 | .ref (.sl c)::l,S,S',vs,x,q1,q2,w,h=>by
  cases vs with
  | nil=>cases h
  | cons v vs =>
  simp only[rdP0] at h;split at h<;>try cases h
  rename_i h1;split at h<;>cases h;rename_i h2;exact(zhc h1).trans (qgn l h2)
 | .ref (.mp kc vc)::l,S,S',vs,x,q1,q2,w,h=>by
  cases vs with
  | nil=>cases h
  | cons v vs =>
  simp only[rdP0] at h;split at h<;>try cases h
  rename_i h1;split at h<;>cases h;rename_i h2;exact(zej h1).trans (qgn l h2)
 | .ref (.box r)::l,S,S',vs,x,q1,q2,w,h=>by
  cases vs with
  | nil=>cases h
  | cons v vs =>
  cases v<;>try (cases h;done)
  rename_i id off;cases off with
  | succ _=>cases h
  | zero =>
  simp only[rdP0] at h;split at h<;>try cases h
  split at h<;>try cases h
  rename_i h1;split at h<;>cases h;rename_i h2;have:=(FrX.refl S (2 ^ id)).trans ((qzq r h1).trans (qgn l h2));exact this
 | .ref (.clo f is)::l,S,S',vs,x,q1,q2,w,h=>by
  cases vs with
  | nil=>cases h
  | cons v vs =>
  cases v<;>try (cases h;done)
  rename_i id off;cases off with
  | succ _=>cases h
  | zero =>
  simp only[rdP0] at h;split at h<;>try cases h
  split at h<;>cases h;rename_i h2;exact(FrX.refl S (2 ^ id)).trans (qgn l h2)
theorem qjq(l:List PK){S S':IS}{vs:List IV}{x:ElP l}{q1 q2:List Nat}{w:Nat}(h:rdP l S vs=some (x,q1,q2,S',w)):FrX S S' w:=qgn l (qwe h).1
theorem qqc:∀(l:List Nat) (S:IS),FrX S (qd4 l S) (qa3 l)
 | [],S=>FrX.refl _ _
 | id::l,S=>(FrX.set S id .dead).trans (qqc l _)
theorem qn2:∀(l:List Nat) (os:List IObj) (S:IS),FrX S (setL l os S) (qa3 l)
 | [],os,S=>FrX.refl _ _
 | _::_,[],S=>FrX.refl _ _
 | id::l,o::os,S=>(FrX.set S id o).trans (qn2 l os _)
theorem qpq:∀(a b:List Nat),qa3 (a++b)=qa3 a ||| qa3 b
 | [],b=>by simp[qa3]
 | x::a,b=>by simp only[jcz,qa3,qpq a,Nat.or_assoc]
theorem zuy{s:SmR}{vs:List IV}{S:IS}:FrO S (exR s vs S):=fun r h=>by
 unfold exR at h;split at h
 ·cases h
 rename_i x0 rows subs S1 w hrd;cases hb:ndB (rows++subs) with
 | false=>rw[hb] at h;cases h
 | true =>
 rw[hb,jaa] at h;split at h
 ·cases h
 split at h
 ·cases h
 rename_i y z hf;cases h;have h1:=qjq _ hrd;have h2:=(qqc subs S1).trans ((qn2 rows (qal (refs s.ps) (nuB rows (mP s.ps) S1.next) (mP s.ps) z) _).trans (qly (newO s y z) _ 0));have h3:=h1.trans h2;rw[jd5,Nat.or_comm (qa3 subs),<- qpq] at h3;have h4:=h3.trans (FrX.refl _ (cond (Nat.blt 0 rows.length) 0 (2 ^ S1.next)));exact h4
theorem zbp{s:SmR}{vs:List IV}{S:IS}{r:Res}(h:exR s vs S=some r)(hw:r.wr=0):False:=by
 unfold exR at h;split at h
 ·cases h
 rename_i x0 rows subs S1 w hrd;cases hb:ndB (rows++subs) with
 | false=>rw[hb] at h;cases h
 | true =>
 rw[hb,jaa] at h;split at h
 ·cases h
 split at h
 ·cases h
 cases h;have h2:qa3 (rows++subs)=0:=(or_zero (or_zero hw).1).2;cases rows with
 | nil =>
  have h3:2 ^ S1.next=0:=(or_zero hw).2
  have:=jed (n:=S1.next);omega
 | cons id rows =>
  have:=qpr (l:=id::rows++subs) (id:=id) (by simp);rw[h2] at this;simp at this
theorem qnb{P:Program}{f:Nat}{s:SmR}(hc:ConR P f s):HxOK P f (hxR s).f :=
 .of (fun cl _ _ _ vs S r h T E us p _ hw hv=>q07 hc h p hw hv) (fun cl _ vs S=>zuy) (fun cl _ vs S r h hw _=>(zbp h hw).elim)

def ptrP:List PK->Nat->List IV
 | [],_=>[]
 | .dat _::l,k=>ptrP l k
 | .fn _::l,k=>ptrP l k
 | .ref r::l,k=>argK r k::ptrP l (k+1)
theorem qot:∀(l:List PK) (k:Nat) (z:ElP (refs l)),qag (refs l) idN k z=ptrP l k
 | [],_,_=>rfl
 | .dat _::l,k,z=>qot l k z
 | .fn _::l,k,z=>qot l k z
 | .ref r::l,k,z=>by
  show argK r (idN k)::qag (refs l) idN (k+1) z.2=_;rw[qot l];rfl
theorem qol{E E':Env}:∀(l:List PK) {k:Nat} {us:List Value},(∀j,j<mP l->qb5 E E' (k+j) (k+j))->VRs E (ptrP l k) us->VRs E' (ptrP l k) us
 | [],k,us,hn,h=>by have:=h.1;cases us with|nil=>exact VRs.nil|cons _ _=>simp [ptrP] at this
 | .dat _::l,k,us,hn,h=>qol l hn h
 | .fn _::l,k,us,hn,h=>qol l hn h
 | .ref r::l,k,us,hn,h=>by
  obtain⟨u,us,rfl,a1,a2⟩:=VRs.inv (v:=argK r k) (cs:=ptrP l (k+1)) h;refine VRs.cons (q1e (hn 0 (by simp only[mP];omega)) a1) (qol l (fun j hj=>?_) a2);have:=hn (j+1) (by simp only[mP];omega)
  rwa [show k+(j+1)=k+1+j by omega] at this
theorem qgt:∀(l:List PK) {k:Nat} {S S':IS} {x:ElP (refs l)} {q1 q2:List Nat} {w:Nat},rdP0 (refs l) S (ptrP l k)=some (x,q1,q2,S',w)->∀j,j<mP l->q1[j]?=some (k+j)
 | [],k,S,S',x,q1,q2,w,h,j,hj=>by simp[mP] at hj
 | .dat _::l,k,S,S',x,q1,q2,w,h,j,hj=>qgt l h j hj
 | .fn _::l,k,S,S',x,q1,q2,w,h,j,hj=>qgt l h j hj
 | .ref (.sl c)::l,k,S,S',x,q1,q2,w,h,j,hj=>by
  simp only[refs,ptrP,argK,rdP0,rdS] at h;split at h<;>cases h;rename_i h2;cases j with
  | zero=>rfl
  | succ j =>
   have:=qgt l h2 j (by simp only[mP] at hj;omega);rw[jas,this];congr 1;omega
 | .ref (.mp kc vc)::l,k,S,S',x,q1,q2,w,h,j,hj=>by
  simp only[refs,ptrP,argK,rdP0,rdM] at h;split at h<;>try cases h
  rename_i h1;split at h1<;>cases h1;split at h<;>cases h;rename_i h2;cases j with
  | zero=>rfl
  | succ j =>
   have:=qgt l h2 j (by simp only[mP] at hj;omega);rw[jas,this];congr 1;omega
 | .ref (.box r)::l,k,S,S',x,q1,q2,w,h,j,hj=>by
  simp only[refs,ptrP,argK,rdP0] at h;split at h<;>try cases h
  split at h<;>try cases h
  split at h<;>cases h;rename_i h2;cases j with
  | zero=>rfl
  | succ j =>
   have:=qgt l h2 j (by simp only[mP] at hj;omega);rw[jas,this];congr 1;omega
 | .ref (.clo f is)::l,k,S,S',x,q1,q2,w,h,j,hj=>by
  simp only[refs,ptrP,argK,rdP0] at h;split at h<;>try cases h
  split at h<;>cases h;rename_i h2;cases j with
  | zero=>rfl
  | succ j =>
   have:=qgt l h2 j (by simp only[mP] at hj;omega);rw[jas,this];congr 1;omega
theorem qtm(l:List PK){k:Nat}{S S':IS}{x:ElP (refs l)}{q1 q2:List Nat}{w:Nat}(h:rdP (refs l) S (ptrP l k)=some (x,q1,q2,S',w)):∀j,j<mP l->q1[j]?=some (k+j):=qgt l (qwe h).1
def lowN:Nat->Nat->List Nat
 | 0,_=>[]
 | m+1,k=>k::lowN m (k+1)
theorem q3t:∀(m k:Nat),(lowN m k).length=m
 | 0,_=>rfl
 | m+1,k=>jca (·+1) (q3t m (k+1))
theorem q5s:∀(m k j:Nat),j<m->(lowN m k)[j]?=some (k+j)
 | 0,k,j,h=>absurd h (Nat.not_lt_zero j)
 | m+1,k,0,h=>rfl
 | m+1,k,j+1,h=>by
  have:=q5s m (k+1) j (by omega);unfold lowN;rw[jas,this];congr 1;omega
def runQ(s:SmR)(r:Res):Option (ElR s.rts × ElP (refs s.ps)) :=
 match qkz s.rts.length r.v with
 | none=>none
 | some vs=>match clR s.rts r.S vs with
  | none=>none
  | some (a,S2,_)=>match rdP (refs s.ps) S2 (ptrP s.ps 0) with
   | none=>none
   | some (b,_,subs,S3,_)=>cond (ndB (subs++idsQ s.rts a)&&(subs++idsQ s.rts a).all (Nat.ble (mP s.ps))) (match qc1 s.rts a S3 with
    | none=>none
    | some y=>match fiP (refs s.ps) (lowN (mP s.ps) 0) subs S3 b with
     | none=>none
     | some z=>some (y,z)) none
theorem qvv{E E':Env}(hm:∀b,b∈E'.m->b∈E.m)(hw:E'.w=E.w):∀(cs:List (Bool × TC)) {a:ElQ cs} {S:IS} {y:ElR cs} {k:Nat} {us:List Value},qc1 cs a S=some y->(∀(j id:Nat),(idsQ cs a)[j]?=some id->qb5 E E' id (k+j))->VRs E (valQ cs a) us->VRs E' (resV cs k y) us
 | [],a,S,y,k,us,h,hn,hv=>by have:=hv.1;cases us with|nil=>exact VRs.nil|cons _ _=>simp [valQ] at this
 | (true,c)::cs,a,S,y,k,us,h,hn,hv=>by
  obtain⟨u,us,rfl,a1,a2⟩:=VRs.inv (v:=.arr a.1) (cs:=valQ cs a.2) hv;simp only[qc1] at h;split at h<;>try cases h
  split at h<;>try cases h
  split at h<;>cases h;rename_i y' hy;refine VRs.cons ?_ (qvv hm hw cs hy (fun j id hj=>?_) a2)
  ·cases a1 with
   | arr hA hh =>
    obtain⟨b1,b2,b3,b4,b5⟩:=hn 0 a.1 rfl hA;exact .arr b1 (b4.trans hh)
  ·have:=hn (j+1) id (by simp only[idsQ,jas];exact hj)
   rwa [show k+(j+1)=k+1+j by omega] at this
 | (false,c)::cs,a,S,y,k,us,h,hn,hv=>by
  obtain⟨u,us,rfl,a1,a2⟩:=VRs.inv (v:=asIV c a.1) (cs:=valQ cs a.2) hv;simp only[qc1] at h;split at h<;>cases h;rename_i y' hy;exact VRs.cons (qek hm hw a1) (qvv hm hw cs hy hn a2)
theorem zk1{n:Nat}{v:IV}{vs:List IV}{E:Env}{u:Value}(h:qkz n v=some vs)(hv:VR E v u):∃us:List Value,VRs E vs us/\∀(E':Env) (ws:List IV),ws.length=n->VRs E' ws us->VR E' (tupI ws) u:=by
 replace h:=(qse h).2
 unfold qo7 at h;cases hone:Nat.beq n 1 with
 | true =>
  rw[hone,jaa] at h;cases h;have hlen:=jah hone;exact⟨[u],VRs.cons hv VRs.nil,fun E' ws hl hw=>by
   rw[hlen] at hl;match ws,hl with
   | [a],_=>exact hw.2 0 (by simp) (by simp)⟩
 | false =>
  rw[hone,jae] at h;split at h<;>try cases h
  rename_i ws0;cases hb:Nat.beq ws0.length n with
  | false=>rw[hb] at h;cases h
  | true =>
  rw[hb,jaa] at h;cases h;cases hv with
  | tup hl hh =>
  refine⟨_,⟨hl,hh⟩,fun E' ws hl' hw=>?_⟩;match ws,hl' with
  | [],_=>exact .tup hw.1 hw.2
  | [a],hl'=>rw[<- hl'] at hone;cases hone
  | a::b::ws,_=>exact .tup hw.1 hw.2
theorem q8i{s:SmR}{r:Res}{x:ElP s.ps}{y:ElR s.rts}{z:ElP (refs s.ps)}{E E1:Env}{us:List Value}{u:Value}(h:runQ s r=some (y,z))(p0:Pre T0 E (Sc s.ps x))(hargs:VRs E (qag s.ps idN 0 x) us)
   (hpb:PostB (mP s.ps) T0 E (Sc s.ps x) E1 r.S) (hv:VR E1 r.v u):∃E',E'.w=E1.w/\VR E' (vB s (mP s.ps) y) u/\PostB (mP s.ps) T0 E (Sc s.ps x) E' (ScB s y z):=by
 have hT:∀id,mP s.ps<=id->T0.w id:=fun _ _=>trivial;have p1:=hpb.pre hT p0;unfold runQ at h;split at h
 · cases h
 rename_i vs hvs;split at h
 · cases h
 rename_i a S2 w2 ha;split at h
 · cases h
 rename_i b rows subs S3 w3 hb;cases hc:(ndB (subs++idsQ s.rts a)&&(subs++idsQ s.rts a).all (Nat.ble (mP s.ps))) with
 | false=>rw[hc] at h;cases h
 | true =>
 rw[hc,jaa] at h;simp only[jaf] at hc;obtain⟨hc1,hc2⟩:=hc;split at h
 · cases h
 rename_i y' hy;split at h<;>cases h;rename_i hz;obtain⟨us1,hus,hfin⟩:=zk1 hvs hv;obtain⟨E2,e2,q2,f2,hv2⟩:=qov s.rts ha p1 (fun _ _=>trivial) hus;have p2:=q2.pre p1
 -- the pointers
 have hA0:∀k,k<mP s.ps->E.A k:=by
   have key:∀(l:List PK) (k:Nat) (x:ElP l) (us:List Value),VRs E (qag l idN k x) us->∀j,j<mP l->E.A (k+j):=by
     intro l;induction l with
     | nil=>intro k x us _ j hj;simp [mP] at hj
     | cons pk l ih =>
       intro k x us hv j hj;cases pk with
       | dat c =>
         obtain⟨u,us,rfl,a1,a2⟩:=VRs.inv (v:=asIV c x.1) (cs:=qag l idN k x.2) hv;exact ih k x.2 us a2 j hj
       | fn f =>
         obtain⟨u,us,rfl,a1,a2⟩:=VRs.inv (v:=.fn f []) (cs:=qag l idN k x) hv;exact ih k x us a2 j hj
       | ref r =>
         obtain⟨u,us,rfl,a1,a2⟩:=VRs.inv (v:=argK r (idN k)) (cs:=qag l idN (k+1) x.2) hv;cases j with
         | zero=>exact q39 a1
         | succ j =>
           have:=ih (k+1) x.2 us a2 j (by simp only[mP] at hj;omega)
           rwa [show k+(j+1)=k+1+j by omega]
   intro k hk;have:=key s.ps 0 x us hargs k hk
   rwa [ja4] at this
 have hptr:∃us',VRs E2 (ptrP s.ps 0) us':=by
   obtain⟨us',h'⟩:=qr9 s.ps b hargs;rw[qot] at h';refine⟨us',qol s.ps (fun j hj hA=>?_) h'⟩;rw[ja4] at hA ⊢;obtain⟨a1,a2,a3,a4,a5⟩:=hpb.alw j hj hA;obtain⟨b1,b2,b3,b4,b5⟩:=(q2.env p1).alw _ a1;exact⟨b1,b2.trans a2,b3.trans a3,b4.trans a4,b5.trans a5⟩
 obtain⟨us',hptr⟩:=hptr;obtain⟨E3,e3,q3,f3,l1,l2,A3,b2,b3,hok⟩:=qmw (refs s.ps) hb p2 (fun _ _=>trivial) hptr;have p3:=q3.pre p2;obtain⟨_,c2,c3⟩:=qdn (refs s.ps) hz l2;obtain⟨g1,g2⟩:=qn8 s.rts hy;have hnd:=qig hc1;have hqB:∀id∈subs++idsQ s.rts a,mP s.ps<=id:=fun id hi=>jan ((ja3.1 hc2) id hi);have hnew:∀j:Nat,(newO s y z)[j]?=((subs++idsQ s.rts a)[j]?).bind fun id=>S3.heap.get id:=qvj (by rw[qh6,l2]) c3 g2;have hlen:(newO s y z).length=(subs++idsQ s.rts a).length:=by
   unfold newO;rw[jaq,jaq,qh6,l2,g1]
 generalize hq:subs++idsQ s.rts a=q at hnd hqB hnew hlen;have hlow:∀k,k<mP s.ps->ol (mP s.ps) q k=k:=fun k hk=>jam hk;have hhigh:∀k,mP s.ps<=k->k<mP s.ps+q.length->q[k-mP s.ps]?=some (ol (mP s.ps) q k):=fun k h1 h2=>by
   have h3:k-mP s.ps<q.length:=by omega
   unfold ol;rw[jak (by omega),jal,jab h3];rfl
 have hnum:∀k,k<mP s.ps+q.length->qb5 E3 (renE (mP s.ps) q E3) (ol (mP s.ps) q k) k:=fun k hk hA=>⟨⟨hk,hA⟩,rfl,rfl,rfl,rfl⟩;have hns:Nums (ol (mP s.ps) q) (mP s.ps) subs:=fun j id hj=>by
   have h1:j<subs.length:=(jav.1 hj).1;have h2:=hhigh (mP s.ps+j) (by omega) (by rw[<- hq,jaq];omega);rw[ja1,<- hq,jat h1,hj,hq] at h2;exact(jbu h2).symm
 have hlr:rows=lowN (mP s.ps) 0:=jcr fun j=>by
   by_cases hj:j<mP s.ps
   · rw[qtm s.ps hb j hj,q5s _ _ _ hj]
   · rw[jbl (by rw[l1,qbr];omega),jbl (by rw[q3t];omega)]
 rw[<- hlr] at hz;have hnr:Nums (ol (mP s.ps) q) 0 rows:=fun j id hj=>by
   have h1:j<mP s.ps:=by have:=(jav.1 hj).1;rwa [l1,qbr] at this
   rw[qtm s.ps hb j h1,ja4] at hj;rw[ja4,hlow j h1];exact jbu hj
 have hrows:=qqt hz l2 p3 (fun _ _=>trivial) (b3 _ _ hns (.inr hnr));have hScB:∀k,(ScB s y z).H k=(qal (refs s.ps) idN (mP s.ps) z++newO s y z)[k]?:=fun k=>qf4 _ k;have hsl:nP (refs s.ps)<=q.length:=by rw[<- hq,jaq,l2];omega
 have hre:=PostB.re (T:=T0) (B:=mP s.ps) (q:=q) (S':=ScB s y z) p3 hT hnd hqB (by
     unfold ScB;rw[qcr,jaq,qaw,qbr,hlen];have:S0.next=0:=rfl
     omega) (fun k o hk hAk ho=>by
     rw[hScB] at ho;by_cases hkm:k<mP s.ps
     · rw[jat (by rw[qaw,qbr];exact hkm)] at ho;obtain⟨r',nj,xj,rfl,d2,d3,d4,d5⟩:=qeu _ _ _ _ _ _ ho;have d5:=d5 (mP s.ps) (by rw[qbr] at hok;exact hok);obtain⟨id,i1,i2,i3,i4,i5⟩:=hrows k _ (d4 _);have:=qtm s.ps hb k hkm;rw[ja4,i1] at this;cases this;have e:=hlow k hkm;rw[e];refine⟨OR.objK_to (E:=E3) (E':=renE (mP s.ps) q E3) (fun _ h=>h) rfl i2 (by have:=hnum k hk;rwa [e] at this) (fun j a b=>hnum j (by omega)) (fun j hj=>hnum j (by have:=d5 j hj;omega)) i4,fun hl=>i5 (ql0.trans hl),fun hb=>?_⟩;show E3.hb (ol (mP s.ps) q k)=true;rw[e];exact i3 (qhl.trans hb)
     · rw[jau (by rw[qaw,qbr];omega),qaw,qbr] at ho;have hd:=qwf (jbb ho);rw[hnew,hhigh k (by omega) hk] at ho;exact⟨OR.dat_to (E:=E3) (E':=renE (mP s.ps) q E3) (fun _ h=>h) rfl hAk (hnum k hk) hd (p3.st.objs _ trivial hAk _ ho),fun hl=>⟨_,ho,hl⟩,fun hbk=>p3.st.blk _ trivial hAk _ ho hbk⟩)
 have hpost:=Post.trans p1 q2 f2 q3;have hfr:=f2.trans f3 q2.le;refine⟨renE (mP s.ps) q E3,e3.trans e2,?_,(hpb.trans (PostB.of hpb.le hT hpost hfr)).trans hre⟩;refine hfin _ _ (qj9 _ _ _) (qvv (E:=E3) (E':=renE (mP s.ps) q E3) (fun _ h=>h) rfl s.rts hy (fun j id hj=>?_) (hv2.mono (q3.env p2)));have h1:j<(idsQ s.rts a).length:=(jav.1 hj).1;have h2:mP s.ps+nP (refs s.ps)+j<mP s.ps+q.length:=by rw[<- hq,jaq,l2];omega
 have h3:=hhigh _ (by omega) h2;rw[show mP s.ps+nP (refs s.ps)+j-mP s.ps=subs.length+j by omega,<- hq,jau (by omega),ja1,hj,hq] at h3;have h4:=jbu h3;have:=hnum _ h2
 rwa [<- h4] at this
end Go.Jx
end

section
namespace Go.Jx
open Go Go.Sx Go.RowKit
universe u

def WfC:(c:CT)->ElC c->Prop
 | .dat c=>fun x=>WfE c x
 | .arr c=>fun(l:List (El c))=>l.length*bsz c<=140737488355328/\∀x∈l,WfE c x
 | .map k v=>fun(es:List (El k × El v))=>∀e∈es,WfE k e.1/\WfE v e.2
 | .fn _=>fun _=>True
def WfR:(r:List CT)->qca r->Prop
 | [],_=>True
 | c::cs,x=>WfC c x.1/\WfR cs x.2
def WfK:(r:RK)->ElK r->Prop
 | .box r,x=>WfR r x
 | .sl c,x=>match x with
  | some l=>l.length*bsz c<=140737488355328/\∀y∈l,WfE c y
  | none=>True
 | .mp k v,x=>match x with
  | some (es:List (El k × El v))=>∀e∈es,WfE k e.1/\WfE v e.2
  | none=>True
 | .clo _ _,_=>True
def WfP:(l:List PK)->ElP l->Prop
 | [],_=>True
 | .dat c::l,x=>WfE c x.1/\WfP l x.2
 | .fn _::l,x=>WfP l x
 | .ref r::l,x=>WfK r x.1/\WfP l x.2
section
variable {E : Env}
theorem zmj{c:TC}{x:El c}{us:List Value}(h:VRs E (cel c x) us):WfE c x :=
 wf_cells (E:=E) c x (fun j=>us.getD j .nilFunc) fun j hj=>by
  have hj2:j<us.length:=by rw[<- h.1];exact hj
  show VR E _ (us.getD j .nilFunc);rw[jal,jab hj2];exact h.2 j hj hj2
theorem q4y{k v:TC}{id:Nat}{x:List (El k × El v)}(h:OR E id (.tmap k v x)):∀e∈x,WfE k e.1/\WfE v e.2:=by
 obtain⟨ents,cl,h1,h2,h3,_⟩:=h;intro e he;obtain⟨i,hi,rfl⟩:=jbq.1 he;have hl:(tmEs k v x).length=List.length x:=jbx _;have hi1:i<((tmEs k v x).map (·.1)).length:=by rw[jbx,hl];exact hi
 have hi2:i<((tmEs k v x).map (·.2)).length:=by rw[jbx,hl];exact hi
 have q1:=h2.2 i hi1 (by rw[<- h2.1];exact hi1);have q2:=h3.2 i hi2 (by rw[<- h3.1];exact hi2);have e:(tmEs k v x)[i]'(by rw[hl];exact hi)=(asIV k (List.get x ⟨i,hi⟩).1,asIV v (List.get x ⟨i,hi⟩).2):=jb0 _;rw[jb0,e] at q1;rw[jb0,e] at q2;exact⟨qmm q1,qmm q2⟩
theorem wfC{H:Nat->Option IObj}{ι:Nat->Nat}(hH:∀id o,E.A id->H id=some o->OR E id o):∀(c:CT) {n:Nat} {x:ElC c} {us:List Value},VRs E (qc0 c ι n x) us->(∀j:Nat,j<nC c->H (ι (n+j))=(subC c x)[j]?)->WfC c x
 | .dat c,n,x,us,h,_=>zmj h
 | .arr c,n,x,us,h,hs=>by
  obtain⟨u,us,rfl,a1,a2⟩:=VRs.inv (v:=.arr (ι n)) (cs:=[]) h;have hA:E.A (ι n):=by cases a1;assumption
  have h0:=hs 0 (Nat.one_pos);rw[jby] at h0;obtain⟨a,cap,h1,h2,h3,h4,h5⟩:=hH _ (.arr c x) hA h0;refine⟨h4,fun y hy=>?_⟩;obtain⟨i,hi,rfl⟩:=jbq.1 hy;rcases h5 with ⟨_,h5,_⟩|⟨_,_,cells,t,_,_,us,_,h6⟩
  ·omega
  ·exact wf_cells c _ (us i) (h6 i hi)
 | .map k v,n,x,us,h,hs=>by
  obtain⟨u,us,rfl,a1,a2⟩:=VRs.inv (v:=.map (ι n)) (cs:=[]) h;have hA:E.A (ι n):=by cases a1;assumption
  have h0:=hs 0 (Nat.one_pos);rw[jby] at h0;exact q4y (hH _ (.tmap k v x) hA h0)
 | .fn _,n,x,us,h,hs=>trivial
theorem zf6{c:TC}{id:Nat}{l:List (El c)}(h:OR E id (.arr c l)):l.length*bsz c<=140737488355328/\∀y∈l,WfE c y:=by
 obtain⟨a,cap,h1,h2,h3,h4,h5⟩:=h;refine⟨h4,fun y hy=>?_⟩;obtain⟨i,hi,rfl⟩:=jbq.1 hy;rcases h5 with ⟨_,h5,_⟩|⟨_,_,cells,t,_,_,us,_,h6⟩
 ·omega
 ·exact wf_cells c _ (us i) (h6 i hi)
theorem wfR{H:Nat->Option IObj}{ι:Nat->Nat}(hH:∀id o,E.A id->H id=some o->OR E id o):∀(r:List CT) {n:Nat} {x:qca r} {us:List Value},VRs E (qbx r ι n x) us->(∀j:Nat,j<nR r->H (ι (n+j))=(subR r x)[j]?)->WfR r x
 | [],n,x,us,h,hs=>trivial
 | c::cs,n,x,us,h,hs=>by
  obtain⟨us1,us2,rfl,h1,h2⟩:=VRs.split (cs:=qc0 c ι n x.1) (ds:=qbx cs ι (n+nC c) x.2) h;refine⟨wfC hH c h1 fun j hj=>?_,wfR hH cs h2 fun j hj=>?_⟩
  ·rw[hs j (by simp only[nR];omega)];simp only[subR];rw[jat (by rw[qlt];exact hj)]
  ·have:=hs (nC c+j) (by simp only[nR];omega);rw[<- jcj] at this;rw[this];simp only[subR];rw[jau (by rw[qlt];omega),qlt,ja1]
theorem wfP{H:Nat->Option IObj}(hH:∀id o,E.A id->H id=some o->OR E id o):∀(l:List PK) {k n:Nat} {x:ElP l} {us:List Value},VRs E (qag l idN k x) us ->
  (∀j:Nat,j<mP l->H (k+j)=(qal l idN n x)[j]?)->(∀j:Nat,j<nP l->H (n+j)=(qb4 l x)[j]?)->WfP l x
 | [],k,n,x,us,h,_,_=>trivial
 | .dat c::l,k,n,x,us,h,h1,h2=>by
  obtain⟨u,us,rfl,a1,a2⟩:=VRs.inv (v:=asIV c x.1) (cs:=qag l idN k x.2) h;exact⟨qmm a1,wfP hH l a2 h1 h2⟩
 | .fn f::l,k,n,x,us,h,h1,h2=>by
  obtain⟨u,us,rfl,a1,a2⟩:=VRs.inv (v:=.fn f []) (cs:=qag l idN k x) h;exact wfP (x:=x) hH l a2 h1 h2
 | .ref r::l,k,n,x,us,h,h1,h2=>by
  obtain⟨u,us,rfl,a1,a2⟩:=VRs.inv (v:=argK r (idN k)) (cs:=qag l idN (k+1) x.2) h;have hA:E.A k:=q39 a1;have h0:=h1 0 (by simp only[mP];omega);rw[jby] at h0;have h0:H k=some (objK r idN n x.1):=h0;refine⟨?_,wfP hH l (n:=n+nK r) a2 (fun j hj=>?_) fun j hj=>?_⟩
  ·match r,x,h0,h2 with
   | .box r,x,h0,h2 =>
    obtain⟨cells,t,k1,k2,k3,k4⟩:=hH k _ hA (h0.trans (show _=some (.row (qbx r idN n x.1)) from rfl));refine wfR (ι:=idN) hH r k4 fun j hj=>?_;have:=h2 j (by simp only[nP,nK];omega);show H (n+j)=_;rw[this];exact jat (l₂:=qb4 l x.2) (jev hj (qq6 r x.1).symm)
   | .sl c,(some l,x),h0,h2=>exact zf6 (c:=c) (l:=l) (hH k _ hA (h0.trans rfl))
   | .sl c,(none,x),h0,h2=>trivial
   | .mp kc vc,(some l,x),h0,h2=>exact q4y (k:=kc) (v:=vc) (x:=l) (hH k _ hA (h0.trans rfl))
   | .mp kc vc,(none,x),h0,h2=>trivial
   | .clo f is,(_,x),h0,h2=>trivial
  ·have:=h1 (j+1) (by simp only[mP];omega);rw[show k+1+j=k+(j+1) by omega,this];simp only[qal,jas]
  ·have:=h2 (nK r+j) (by simp only[nP];omega);rw[<- jcj] at this;rw[this];simp only[qb4];rw[jau (by rw[qtp];omega),qtp,ja1]
end
theorem qzu{l:List PK}{x:ElP l}{E:Env}{us:List Value}(p:Pre T0 E (Sc l x))(h:VRs E (qag l idN 0 x) us):WfP l x:=by
 refine wfP (H:=(Sc l x).H) (n:=mP l) (fun id o hA ho=>p.st.objs id trivial hA o ho) l h (fun j hj=>?_) fun j hj=>?_
 ·unfold Sc;rw[ja4,qf4,jat (by rw[qaw];exact hj)]
 ·unfold Sc;rw[qf4,jau (by rw[qaw];omega),qaw,ja1]

def qce(tt:Nat->Option TI)(fi:FI)(s:SmR)(r:CRes):Option (ElR s.rts × ElP (refs s.ps)) :=
 cond r.e.rets (match qeg r.ds r.S with
  | none=>none
  | some (S',_)=>match ires tt fi.nt r.fr S' fi.res with
   | none=>none
   | some (vs,_)=>runQ s ⟨tupI vs,S',0,0⟩) none
section
variable {P : Program} {tt : Nat -> Option TI} {ft : Nat -> Option FI}
theorem q0b{fi:FI}{f:Nat}{nm:Nat->Option Nm}{cl:Cl}{lf:Nat}{s:SmR}{x:ElP s.ps}{y:ElR s.rts}{z:ElP (refs s.ps)}{r1:CRes}(hm:P.follows .mixedOrders=true)(htt:TT P tt)
  (hfi:∃fn,P.funcs[f]?=some fn/\fn.body=some fi.body/\fn.ntmps=fi.nt/\fn.results=fi.res.toArray/\(fn.name == "runtime.NumGoroutine") = false/\qaz fi.body=true) (hcl:ClOK P cl) (hfr:ClFr cl)
  (hb:Nat.ble (qag s.ps idN 0 x).length fi.nt=true) (hr1:qad P tt nm (mP s.ps) fi.nt cl lf none fi.body (qaq (qag s.ps idN 0 x) 0 .leaf) (Sc s.ps x) []=some r1) (h:qce tt fi s r1=some (y,z))
  {E:Env} {us:List Value} (p:Pre T0 E (Sc s.ps x)) (hv:VRs E (qag s.ps idN 0 x) us) :
  CallsIn Fence.wide 0 P f us.toArray E.w (RetB (mP s.ps) T0 E (Sc s.ps x) ⟨vB s (mP s.ps) y,ScB s y z,0,0⟩):=by
 unfold qce at h;cases hl:r1.e.rets with
 | false=>rw[hl] at h;cases h
 | true =>
 rw[hl,jaa] at h;split at h
 ·cases h
 rename_i S' wr hmk;split at h
 ·cases h
 rename_i vs' rd' hres;obtain⟨fn,f1,f2,f3,f4,f5,f6⟩:=hfi;refine jd6 f1 f2 trivial ?_;refine qf3 (T:=T0) (E:=E) (S:=Sc s.ps x) (ds:=[]) (round:=none) (B:=mP s.ps) (fun _ _=>trivial) hm rfl hcl hfr htt fi.body f6 p (by rw[qgu];omega) (fun _ _=>trivial) ?_ (DS.nil (N:=E.w.heap.size) (jar _)) (fun _=>rfl) hr1 (fun _ _=>trivial) (fun _ _=>trivial) ?_
 ·have:=FR.enter (nt:=fi.nt) hv (jan hb);rw[f3];exact this
 intro E1 a1 x1 k0 k1 k2 kB;have p1:=kB.pre (fun _ _=>trivial) p;have hlv:LeavesInM Fence.wide 0 P fn a1.tmps (RetB (mP s.ps) T0 E (Sc s.ps x) ⟨vB s (mP s.ps) y,ScB s y z,0,0⟩) a1.defers .returning E1.w:=by
  refine qmo (E0:=E) (S0':=Sc s.ps x) (B:=mP s.ps) (by simp) (jar _) (fun _ _=>trivial) p1 k2 kB hmk (fun _ _=>trivial) fun E2 hq0 p2 hv2=>?_;obtain⟨us',h1,h2⟩:=qpd htt p2 ⟨k1.size,fun t ht=>hv2 _ _ (k1.get t ht)⟩ hres (fun _ _=>trivial);have h3:=q2v (P:=P) (w:=E2.w) f4 h1;refine⟨qhk us',h3,?_⟩;have hq:=hq0;obtain⟨E3,e3,v3,q3⟩:=q8i (r:=⟨tupI vs',S',0,0⟩) h p hv hq (q0m h2);exact⟨_,E3,rfl,e3,v3,q3⟩
 cases he:r1.e with
 | normal=>rw[he] at k0;cases k0;exact hlv
 | ret=>rw[he] at k0;cases k0;exact hlv
 | exit i=>rw[he] at hl;cases hl
 | goto l=>rw[he] at hl;cases hl
 | pan q=>rw[he] at hl;cases hl
theorem conTR{sml:List (Nat × Sm)}{hxl:List (Nat × Hx)}{f:Nat}{s:SmR}{fi:FI}{nmf:Nat->Option Nm}{st hd:Nat->Bool}(n:Nat)(hm:P.follows .mixedOrders=true)(htt:TT P tt)(hft:FT P ft)(hsm:SmOK P sml)
  (hhx:qa2 P hxl) (hC:qai P f) (h3:ft f=some fi) (h4:∀x,Nat.ble (qag s.ps idN 0 x).length fi.nt=true) (hn:(regs fi.body).Nodup) (hl:okC nmf st hd fi.body none=true)
  (hrun:∀(x:ElP s.ps) (y:ElR s.rts) (z:ElP (refs s.ps)),WfP s.ps x->s.f x=some (y,z)->∃lf,
   qbm P tt nmf (mP s.ps) fi.nt (qau P tt ft (fun _ _=>none) (smL sml) (hxL hxl) lf n (ElR s.rts × ElP (refs s.ps))) lf st
    (atNB P tt nmf (mP s.ps) fi.nt fi.body (qau P tt ft (fun _ _=>none) (smL sml) (hxL hxl) lf n (ElR s.rts × ElP (refs s.ps))) lf hd (qce tt fi s)) fi.body [] (qaq (qag s.ps idN 0 x) 0 .leaf) (Sc s.ps x) [] (qce tt fi s)=some (y,z))
  (hz:frzF nmf=true:=by rfl):ConR P f s:=by
 have hB0:mB nmf (mP s.ps)=0:=by unfold mB;rw[hz];rfl
 have hex:ExOK P (exH (smL sml) (hxL hxl)):=qv3 (qng hsm) (qsc hhx);refine⟨hC,fun E x us y z hy p hv=>?_⟩;obtain⟨lf,hr⟩:=hrun x y z (qzu p hv) hy;rw[<- qv2 hB0 (qam n _) hn hl,qd2 (qam n _)] at hr;cases hr1:qad P tt nmf (mP s.ps) fi.nt (qb2 P tt ft (fun _ _=>none) (exH (smL sml) (hxL hxl)) lf n) lf none fi.body (qaq (qag s.ps idN 0 x) 0 .leaf) (Sc s.ps x) [] with
 | none=>rw[hr1] at hr;cases hr
 | some r1 =>
  rw[hr1] at hr;exact q0b hm htt (hft f fi h3) (qf9 hm htt hft hex n) (qfx hex n) (h4 x) hr1 hr p hv
end
end Go.Jx
end

section
namespace Go.Jx
open Go Go.Sx Go.RowKit
universe u

section
variable {P : Program} {tt : Nat -> Option TI} {nm : Nat -> Option Nm} {lf : Nat} {st hd : Nat -> Bool} {cl : Cl}
def atQ(P:Program)(tt:Nat->Option TI)(nm:Nat->Option Nm)(fi:FI)(s:SmR)(clK:ClK (ElR s.rts × ElP (refs s.ps)))(lf:Nat)(hd:Nat->Bool)(k:Nat)(ns:List Nat)(x:NRes):Option (ElR s.rts × ElP (refs s.ps)) :=
 atNB P tt nm (mP s.ps) fi.nt fi.body clK lf hd (qce tt fi s) k ns x
theorem q1z{B:Nat}(hz:frzF nm=true):mB nm B=0:=by unfold mB;rw[hz];rfl
theorem qso(hz:frzF nm=true){fi:FI}{s:SmR}{clK:ClK (ElR s.rts × ElP (refs s.ps))}(h:ClEq cl clK)(hn:(regs fi.body).Nodup)(hl:okC nm st hd fi.body none=true)(k:Nat)(ns ns':List Nat)(hd':dn (hd k) ns=some ns')(x:NRes) :
  atQ P tt nm fi s clK lf hd k ns x=qba P tt nm (mP s.ps) fi.nt clK lf st (atQ P tt nm fi s clK lf hd) k fi.body [] ns' x (qce tt fi s):=qsp (q1z hz) h hn hl k ns ns' hd' x
theorem quf{fi:FI}{s:SmR}{clK:ClK (ElR s.rts × ElP (refs s.ps))}(k:Nat)(ns:List Nat)(hd':dn (hd k) ns=none)(x:NRes):atQ P tt nm fi s clK lf hd k ns x=none:=qsu k ns hd' x
end
end Go.Jx
end

section
namespace Go.Jx
open Go Go.Sx Go.RowKit
universe u
inductive NoD (n:Nat):Type
instance (n:Nat):Dat (NoD n) where
 sz:=n
 enc _ _ _ x:=nomatch x
 len {_ _ _ x} _:=nomatch x
 mono {_ _ _ _ _ x} _ _:=nomatch x
 ones {_ _ _ x} _:=nomatch x
theorem zlq{E:Env}{c:TC}{u:Value}(h:VR E (.lst c []) u):∃a cap,u=.slice a 0 cap/\cap<9223372036854775808:=by
 cases h with
 | lst0 hc=>exact⟨_,_,rfl,hc⟩
 | lst us h1 h2 h3 hb hh hc hu=>exact⟨_,_,rfl,h2⟩
theorem ze2{M:List Nat}{w w':World}{c:TC}{n:Nat}{e:Ending}(hn:n=csz c)(hu:¬c=.int .u8)(hM:∀b∈M,b<w.heap.size)(h:Ret (fun v w'=>∃a' c' m',v=.slice a' 0 c'/\Go.Sx.Own m' M w' a' c' ([]:List (NoD n))/\Evo [] w m' w') e w') :
  RetE T0 (EM M w) S0 ⟨.arr 0,addO [.arr c []] S0,0,0⟩ e w':=by
 cases e with
 | returned v =>
  obtain⟨a,k,m,rfl,ho,ev⟩:=h;have hH:∀id o,(addO [IObj.arr c []] S0).H id=some o->id=0/\o=.arr c []:=fun id o ho=>by
   rw[qb9] at ho;have e0:S0.next=0:=rfl
   rw[e0,jak (by omega)] at ho;split at ho
   ·rename_i h1;have h1:id<1:=by simpa using h1
    obtain rfl:id=0:=by omega
    exact⟨rfl,by simpa using ho.symm⟩
   ·cases ho
  have key:∃(E':Env),E'.w=w'/\E'.A=(fun id=>id=0)/\E'.hd 0=.slice a 0 k/\(∀b∈E'.m,b∈M\/w.heap.size<=b)/\(∀b∈M,b∈E'.m)/\(∀b∈E'.m,b<w'.heap.size)/\OR E' 0 (.arr c [])/\(E'.hb 0=true->E'.ρ 0∈E'.m/\w.heap.size<=E'.ρ 0):=by
   rcases ho with ⟨rfl,rfl,_⟩|⟨g,cells,rfl,g1,g2,g3,g4,g5,g6⟩
   ·exact⟨⟨fun _=>0,fun _=>0,fun _=>.slice none 0 0,fun _=>false,fun id=>id=0,M,w'⟩,rfl,rfl,rfl,fun b hb=>.inl hb,fun b hb=>hb,fun b hb=>ja8 (hM b hb) ev.size,⟨none,0,rfl,jar _,by omega,by simp,.inl ⟨rfl,rfl,fun _=>rfl⟩⟩,fun h=>by cases h⟩
   ·have hg:w.heap.size<=g:=by
     rcases ev.own g g1 with h|h
     ·cases h
     ·exact h
    obtain⟨t,g3⟩:=g3;refine⟨⟨fun _=>g,fun _=>0,fun _=>.slice (some ⟨g,0,none⟩) 0 k,fun _=>true,fun id=>id=0,g::M,w'⟩,rfl,rfl,rfl,fun b hb=>?_,fun b hb=>ja2 _ hb,fun b hb=>?_,⟨some ⟨g,0,none⟩,k,rfl,jbn _,g5.2,by simp,.inr ⟨rfl,rfl,cells.toArray,t,g3,⟨?_,fun e=>absurd e hu⟩,fun _ _=>.nilFunc,fun i hi=>absurd hi (by simp),fun i hi=>absurd hi (by simp)⟩⟩,fun _=>⟨jbd,hg⟩⟩
    ·rcases ja0.1 hb with h|h
     ·exact .inr (h▸hg)
     ·exact .inl h
    ·rcases ja0.1 hb with h|h
     ·rw[h];exact qav g3
     ·exact ja8 (hM b h) ev.size
    ·have e2:Dat.sz (NoD n)=csz c:=hn;rw[e2] at g4;simp[g4]
  obtain⟨E',rfl,hA,hd,k1,k2,k3,k4,k5⟩:=key;have hL:∀id,E'.A id->Live E' (addO [IObj.arr c []] S0).H id->id=0/\E'.ρ 0∈E'.m/\w.heap.size<=E'.ρ 0:=fun id hid ⟨h1,_⟩=>by
   rw[hA] at hid;have hid:id=0:=hid;subst hid;exact⟨rfl,k5 h1⟩
  refine⟨_,E',rfl,rfl,.arr (by rw[hA]) hd,⟨⟨fun id _ hid o ho=>?_,fun id _ hid o ho hb=>?_,fun id _ hid hl=>?_,fun i j _ _ hi hj _ _ _=>?_,k3⟩,⟨ev.os,ev.tape,ev.output,ev.size,fun b hb _=>ev.same b hb (by simp),fun id h=>h.elim,fun id h _ hl=>?_,fun id _ h=>h.elim,k1,fun b hb _=>.inl (k2 b hb)⟩,fun id hid=>?_,jbn _⟩,⟨fun id _ _=>jbn _⟩⟩
  ·obtain⟨rfl,rfl⟩:=hH id o ho;exact k4
  ·obtain⟨rfl,rfl⟩:=hH id o ho;cases hb
  ·obtain⟨rfl,h1,_⟩:=hL id hid hl;exact h1
  ·rw[hA] at hi hj;have hi:i=0:=hi;have hj:j=0:=hj;rw[hi,hj]
  ·obtain⟨rfl,_,h2⟩:=hL id h hl;exact .inl h2
  ·rw[hA] at hid;have hid:id=0:=hid;subst hid;exact Nat.one_pos
 | panicked c=>exact h.elim
 | outgrown=>exact h.elim
end Go.Jx
end

noncomputable section
set_option maxRecDepth 100000
namespace Go.Proofs.Ytcnhjofpmpipfaa
open Go Go.Sx Go.RowKit Go.Jx


structure RulesOK (a b:List qac) (l:List qa0):Prop where
 len:l.length<=24
 has:∀r∈l,0<=S.form a r.1/\0<=S.form b r.2.1
 one:∀k (h:k<l.length),(S.ruleOf (l.take k) l[k].1).2=false
 all:∀f∈a,(S.ruleOf l f.1).2=true
 glen:∀r∈l,r.2.2.length=(S.colsOf b r.2.1).length
 gok:∀r∈l,∀k (h:k<r.2.2.length) (h':k<(S.colsOf b r.2.1).length),S.give l r.2.2[k] (S.colsOf a r.1) (S.colsOf b r.2.1)[k]=0
theorem qze{l:List qac}{g:qaa}:∀{ns:List qab},S.typed l g ns=true->∀n∈ns,n.2.length=(S.colsOf l n.1).length/\S.suitsAll g (S.colsOf l n.1) n.2=true
 | [],_,n,hn=>by cases hn
 | m::ns,h,n,hn=>by
  rw[S.typed] at h;split at h
  ·rename_i h1;split at h
   ·rename_i h2;rcases ja0.1 hn with rfl|hn
    ·exact⟨h1,h2⟩
    ·exact qze h n hn
   ·cases h
  ·cases h
structure GraphOK (l:List qac) (g:qaa):Prop where
 formed:S.formed g=0
 has:∀n∈g.1,0<=S.form l n.1
 typed:S.typed l g g.1=true
theorem qxu(l:List qac)(g:qaa):S.check l g=0↔GraphOK l g:=by
 unfold S.check;by_cases h0:S.formed g=0
 ·rw[jak (by simpa using h0)];cases hb:g.1.any (fun n=>decide (S.form l n.1<0)) with
  | true =>
   rw[jam rfl];refine⟨fun h=>(by cases h),fun h=>?_⟩;obtain⟨n,h1,h2⟩:=jc1.1 hb;have:=h.has n h1;have:=ja6 h2;omega
  | false =>
   rw[jak (by simp)];rw[je2] at hb;have hh:∀n∈g.1,0<=S.form l n.1:=fun n hn=>by have:=hb n hn;simpa using this
   unfold S.unlessE;cases ht:S.typed l g g.1 with
   | true=>exact⟨fun _=>⟨h0,hh,ht⟩,fun _=>rfl⟩
   | false=>exact⟨fun h=>(by cases h),fun h=>(by have:=h.typed;rw[ht] at this;cases this)⟩
 ·rw[jam h0];exact⟨fun h=>absurd h h0,fun h=>absurd h.formed h0⟩
namespace S
def qv6(b:Int):Bool:=decide (97<=b)&&decide (b<=122)
def q5r(b:Int):Bool:=decide (65<=b)&&decide (b<=90)
def qwn(b:Int):Bool:=decide (48<=b)&&decide (b<=57)
def zm9(b:Int):Bool:=qv6 b||q5r b||qwn b||decide (b=95)
end S
namespace S
def has(l:List ByteArray)(s:ByteArray):Bool:=l.any fun x=>keqS x s
def run0(s:ByteArray):Int:=Int.ofNat ((qa1 s).takeWhile zm9).length
def qy6:List Int->Int->Int × Int
 | [],n=>(n,0)
 | b::r,n =>
  let m:=IntKind.i64.wrap (Int.sub (IntKind.i64.wrap (Int.add (IntKind.i64.wrap (Int.mul (Int.ofNat 10) n)) b)) (Int.ofNat 48))
  if 1099511627776<m then (0,3) else qy6 r m
def qha(s:ByteArray):Int × Int :=
 if (qa1 s).all qwn=false then (0,2)
 else if (qa1 s)[0]?=some 48/\1<s.size then (0,2)
 else qy6 (qa1 s) 0
def ztd:List ByteArray:=[S.lit [84,114,117,101],S.lit [70,97,108,115,101],S.lit [86,111,105,100],S.lit [67,117,114,114,101,110,116],S.lit [82,101,115,117,108,116]]
def zq5:List ByteArray:=[S.lit [97,110,100],S.lit [97,115],S.lit [97,116,116,97,99,104,101,100],S.lit [99,104,101,99,107],S.lit [99,108,97,115,115],S.lit [99,114,101,97,116,101],S.lit [100,101,102,101,114,114,101,100],S.lit [100,101,116,97,99,104,97,98,108,101],S.lit [100,111],S.lit [101,108,115,101],S.lit [101,110,100],S.lit [101,110,115,117,114,101],S.lit [102,101,97,116,117,114,101],S.lit [102,114,111,109],S.lit [105,102],S.lit [105,109,112,108,105,101,115],S.lit [105,110,104,101,114,105,116],S.lit [105,110,118,97,114,105,97,110,116],S.lit [108,111,99,97,108],S.lit [108,111,111,112],S.lit [110,111,116],S.lit [111,108,100],S.lit [111,114],S.lit [112,117,116],S.lit [114,97,105,115,101],S.lit [114,101,100,101,102,105,110,101],S.lit [114,101,110,97,109,101],S.lit [114,101,113,117,105,114,101],S.lit [114,101,115,99,117,101],S.lit [114,101,116,114,121],S.lit [115,101,108,101,99,116],S.lit [115,101,112,97,114,97,116,101],S.lit [116,104,101,110],S.lit [117,110,100,101,102,105,110,101],S.lit [117,110,116,105,108],S.lit [118,97,114,105,97,110,116],S.lit [119,104,101,110]]
def zrx:List ByteArray:=[S.lit [58,61],S.lit [47,61],S.lit [60,61],S.lit [62,61],S.lit [47,47],S.lit [61],S.lit [60],S.lit [62],S.lit [43],S.lit [45],S.lit [42],S.lit [37],S.lit [40],S.lit [41],S.lit [91],S.lit [93],S.lit [123],S.lit [125],S.lit [44],S.lit [59],S.lit [58],S.lit [46]]
def word(s:ByteArray):Int × Int :=
 if has zq5 s||has ztd s then (3,0)
 else if has q2i s then (0,4)
 else if (qa1 s).any qv6&&(qa1 s).any q5r then (0,2)
 else if 20<s.size then (0,3)
 else if (qa1 s).any qv6 then (1,0)
 else (2,0)
def shape(s:ByteArray):Int × Int :=
 if has zrx s then (5,0)
 else match (qa1 s)[0]? with
  | none=>(0,2)
  | some b=>if run0 s<Int.ofNat s.size then (0,2)
   else if b=95 then (0,2)
   else if qwn b then (if (qha s).2=0 then (4,0) else (0,(qha s).2))
   else word s
end S
namespace S
end S
namespace S
end S






end Go.Proofs.Ytcnhjofpmpipfaa
end

section
namespace Go.Jx
open Go Go.Sx Go.RowKit
universe u

def updP:(l:List PK)->ElP l->ElP (refs l)->ElP l
 | [],_,_=>()
 | .dat _::l,x,z=>(x.1,updP l x.2 z)
 | .fn _::l,x,z=>updP l x z
 | .ref _::l,x,z=>(z.1,updP l x.2 z.2)
theorem qpw:∀(l:List PK) (ι:Nat->Nat) (n:Nat) (x:ElP l) (z:ElP (refs l)),qal l ι n (updP l x z)=qal (refs l) ι n z
 | [],_,_,_,_=>rfl
 | .dat _::l,ι,n,x,z=>qpw l ι n x.2 z
 | .fn _::l,ι,n,x,z=>qpw l ι n x z
 | .ref r::l,ι,n,x,z=>by
  show objK r ι n z.1::qal l ι (n+nK r) (updP l x.2 z.2)=_;rw[qpw l];rfl
theorem qpu:∀(l:List PK) (x:ElP l) (z:ElP (refs l)),qb4 l (updP l x z)=qb4 (refs l) z
 | [],_,_=>rfl
 | .dat _::l,x,z=>qpu l x.2 z
 | .fn _::l,x,z=>qpu l x z
 | .ref r::l,x,z=>by
  show subK r z.1++qb4 l (updP l x.2 z.2)=_;rw[qpu l];rfl
theorem qqq:∀(l:List PK) (ρ:Nat->Nat) (k:Nat) (x:ElP l) (z:ElP (refs l)),qag l ρ k (updP l x z)=qag l ρ k x
 | [],_,_,_,_=>rfl
 | .dat c::l,ρ,k,x,z=>jca (fun q=>asIV c x.1::q) (qqq l ρ k x.2 z)
 | .fn f::l,ρ,k,x,z=>jca (fun q=>IV.fn f []::q) (qqq l ρ k x z)
 | .ref r::l,ρ,k,x,z=>jca (fun q=>argK r (ρ k)::q) (qqq l ρ (k+1) x.2 z.2)
def nPI(l:List PK):Nat:=nP l+cond (qef l) 0 1
theorem q3l{l:List PK}(h:nPI l=0):nP l=0/\qef l=true:=by
 unfold nPI at h;cases hb:qef l with
 | false=>rw[hb,jae] at h;omega
 | true=>exact⟨by omega,rfl⟩
def sQ(l:List PK):SmR:=⟨l,[],fun _=>none⟩
theorem q3w(l:List PK)(x:ElP l)(z:ElP (refs l)):ScB (sQ l) () z=Sc l (updP l x z):=by
 unfold ScB Sc newO;rw[qpw,qpu];show addO (qal (refs l) idN (mP l) z++(qb4 (refs l) z++[])) S0=_;rw[jbk]
structure Held (T:TW) (E:Env) (S:IS) (l:List PK) (x:ElP l) (rows subs:List Nat):Prop where
 l1:rows.length=mP l
 l2:subs.length=nP l
 nd:(rows++subs).Nodup
 w:∀id∈rows++subs,T.w id
 A:∀id∈subs,E.A id
 ok:okPs (mP l) l=true
 at_:∀ι,Nums ι 0 rows->Nums ι (mP l) subs->qm4 E rows (qal l ι (mP l) x)
 row:∀id∈rows,∃cs,S.H id=some (.row cs)
 sub:∀j:Nat,(qb4 l x)[j]?=(subs[j]?).bind fun id=>S.heap.get id
section
variable {T : TW} {E : Env} {S : IS} {l : List PK} {x : ElP l} {rows subs : List Nat}
theorem Held.num(h:Held T E S l x rows subs):Nums (ol 0 (rows++subs)) 0 rows/\Nums (ol 0 (rows++subs)) (mP l) subs:=by
 have hnq:Nums (ol 0 (rows++subs)) 0 (rows++subs):=fun j id hj=>by
  rw[ja4];unfold ol;rw[jak (by omega),jc4,jal,hj];rfl
 refine⟨hnq.fst,?_⟩;have:=hnq.snd
 rwa [ja4,h.l1] at this
theorem Held.len(h:Held T E S l x rows subs):(rows++subs).length=mP l+nP l:=by rw[jaq,h.l1,h.l2]
theorem Held.rk(h:Held T E S l x rows subs){k:Nat}(hk:k<mP l):rows[k]?=some (ol 0 (rows++subs) k):=by
 have h1:k<rows.length:=by rw[h.l1];exact hk
 rw[jab h1,<- h.num.1 k _ (jab h1),ja4]
theorem Held.sk(h:Held T E S l x rows subs){k:Nat}(h1:mP l<=k)(h2:k<(rows++subs).length):subs[k-mP l]?=some (ol 0 (rows++subs) k):=by
 have h3:k-mP l<subs.length:=by rw[h.len] at h2;rw[h.l2];omega
 rw[jab h3,<- h.num.2 _ _ (jab h3),jes h1]
theorem Held.rowA(h:Held T E S l x rows subs){k:Nat}(hk:k<mP l):∃r nj xj,(∀ι,(qal l ι (mP l) x)[k]?=some (objK r ι nj xj))/\mP l<=nj/\nj+nK r<=(rows++subs).length/\E.A (ol 0 (rows++subs) k)/\((objK r (ol 0 (rows++subs)) nj xj).blk=true->E.hb (ol 0 (rows++subs) k)=true)/\OR E (ol 0 (rows++subs) k) (objK r (ol 0 (rows++subs)) nj xj)/\∀k∈isK r,k<mP l:=by
 have h1:k<(qal l (ol 0 (rows++subs)) (mP l) x).length:=by rw[qaw];exact hk
 obtain⟨r,nj,xj,d1,d2,d3,d4,d5⟩:=qeu l (ol 0 (rows++subs)) (mP l) x k _ (jab h1);obtain⟨id,i1,i2,i3,i4⟩:=h.at_ _ h.num.1 h.num.2 k _ (d4 (ol 0 (rows++subs)));rw[h.rk hk] at i1;cases i1;exact⟨r,nj,xj,d4,d2,by rw[h.len];omega,i2,i3,i4,d5 _ h.ok⟩
theorem Held.allA(h:Held T E S l x rows subs):∀id∈rows++subs,E.A id:=fun id hid=>by
 rcases jbe.1 hid with hid|hid
 ·obtain⟨k,hk,rfl⟩:=jbq.1 hid;obtain⟨_,_,_,_,_,_,i2,_⟩:=h.rowA (k:=k) (by rw[<- h.l1];exact hk);have:=h.rk (k:=k) (by rw[<- h.l1];exact hk);rw[jab hk,jaw] at this;rw[this];exact i2
 ·exact h.A id hid
theorem Held.numTo(E:Env)(q:List Nat){k:Nat}(hk:k<q.length):qb5 E (renE 0 q E) (ol 0 q k) k:=fun hA=>⟨⟨by omega,hA⟩,rfl,rfl,rfl,rfl⟩
theorem Held.obj(h:Held T E S l x rows subs)(p:Pre T E S){k:Nat}{o:IObj}(hk:k<(rows++subs).length)(hAk:E.A (ol 0 (rows++subs) k))(ho:(Sc l x).H k=some o):ObjTo E S (renE 0 (rows++subs) E) (ol 0 (rows++subs) k) k o:=by
 unfold Sc at ho;rw[qf4] at ho;have hnum:∀j,j<(rows++subs).length->qb5 E (renE 0 (rows++subs) E) (ol 0 (rows++subs) j) j:=fun j hj=>Held.numTo E _ hj;by_cases hkm:k<mP l
 ·rw[jat (by rw[qaw];exact hkm)] at ho;obtain⟨r,nj,xj,d1,d2,d3,d4,d5,d6,d7⟩:=h.rowA hkm;rw[d1 idN] at ho;cases ho;obtain⟨cs,hcs⟩:=h.row _ (jbb (h.rk hkm));exact⟨OR.objK_to (E:=E) (E':=renE 0 (rows++subs) E) (fun _ h=>h) rfl hAk (hnum k hk) (fun j a b=>hnum j (by omega)) (fun j hj=>hnum j (by have:=d7 j hj;have:=h.len;omega)) d6,fun _=>⟨_,hcs,rfl⟩,fun hb=>d5 (qhl.trans hb)⟩
 ·rw[jau (by rw[qaw];omega),qaw] at ho;have hd:=qnw _ _ _ (jbb ho);rw[h.sub,h.sk (by omega) hk] at ho;have hid:=(qbo hk).1;exact⟨OR.dat_to (E:=E) (E':=renE 0 (rows++subs) E) (fun _ h=>h) rfl hAk (hnum k hk) hd (p.st.objs _ (T.sub _ (h.w _ hid)) hAk _ ho),fun hl=>⟨_,ho,hl⟩,fun hbk=>p.st.blk _ (T.sub _ (h.w _ hid)) hAk _ ho hbk⟩
theorem Held.pre(h:Held T E S l x rows subs)(p:Pre T E S):Pre T0 (renE 0 (rows++subs) E) (Sc l x) :=
 Pre.re p h.nd (fun id hi=>T.sub _ (h.w id hi)) (by rw[qgu,h.len]) fun k o hk hAk ho=>h.obj p hk hAk ho
theorem Held.back{s:SmR}{x:ElP s.ps}{y:ElR s.rts}{z:ElP (refs s.ps)}{Er:Env}(h:Held T E S s.ps x rows subs)(p:Pre T E S)(k2:PostB (mP s.ps) T0 (renE 0 (rows++subs) E) (Sc s.ps x) Er (ScB s y z)) :
  Post T E S (mrgR E Er S.next (mP s.ps)) (qbv s S.next rows subs y z S)/\Fresh E S (mrgR E Er S.next (mP s.ps)):=by
 have hA:=h.allA;have hlt:∀id,id∈rows++subs->id<S.next:=fun id hi=>p.bnd id (hA id hi)
 have hsb:∀k,k<(rows++subs).length->Live (renE 0 (rows++subs) E) (Sc s.ps x).H k->Live E S.H (ol 0 (rows++subs) k):=fun k hk ⟨h0,o,h1,h2⟩=>⟨h0,(h.obj p hk (hA _ (qbo hk).1) h1).live h2⟩;have hbn:(setL rows (qal (refs s.ps) (nuB rows (mP s.ps) S.next) (mP s.ps) z) (qd4 subs S)).next=S.next:=by rw[qru,qn3]
 have hndr:rows.Nodup:=(jcc.1 h.nd).1;have hrs:∀id,id∈rows->id ∉ subs:=fun id h1 h2=>(jcc.1 h.nd).2.2 id h1 id h2 rfl;have hScB:∀k,(ScB s y z).H k=(qal (refs s.ps) idN (mP s.ps) z++newO s y z)[k]?:=fun k=>qf4 _ k;have hql:=h.len;have l1:=h.l1;have hrk:=fun k (hk:k<mP s.ps)=>h.rk hk;have hsk:=fun k (h1:mP s.ps<=k) (h2:k<(rows++subs).length)=>h.sk h1 h2;have hrowA:=fun k (hk:k<mP s.ps)=>h.rowA hk;have hnd:=h.nd;have hok:=h.ok;have hT:=h.w;have hinr:∀id,id∈rows->id∈rows++subs:=fun id h=>jb1 _ h;have hins:∀id,id∈subs->id∈rows++subs:=fun id h=>jbz _ h;generalize hq:rows++subs=q at *;have hEA:∀k,k<mP s.ps->Er.A k/\Er.ρ k=E.ρ (ol 0 q k)/\Er.κ k=E.κ (ol 0 q k)/\Er.hd k=E.hd (ol 0 q k)/\Er.hb k=E.hb (ol 0 q k):=fun k hk=>by
  obtain⟨a1,a2,a3,a4,a5⟩:=k2.alw k hk ⟨by omega,hA _ (qbo (by omega)).1⟩;exact⟨a1,a2,a3,a4,a5⟩
 exact q60 (n:=S.next) (m:=mP s.ps) (S':=qbv s S.next rows subs y z S) p hnd hT hA (by omega) rfl hsb k2 (by
   unfold qbv ScB;rw[qcr,qcr,hbn,jaq,qaw,qbr];have:S0.next=0:=rfl
   omega) (fun id hid hnq=>by
   unfold qbv;rw[qb9,hbn,jam hid,qgb (fun h=>hnq (hinr _ h)),qj3 (fun h=>hnq (hins _ h))]) (fun k o hk ho=>by
   unfold qbv at ho;have hin:=(qbo (q:=q) (k:=k) (by omega)).1;rw[qb9,hbn,jam (hlt _ hin),qu3 hndr (by rw[qaw,qbr,l1]) (hrk k hk)] at ho;obtain⟨r,nj,xj,rfl,d2,d3,d4,d5⟩:=qeu _ _ _ _ _ _ ho;have d5:=d5 (mP s.ps) (by rw[qmh];exact hok);have hsr:(ScB s y z).H k=some (objK r idN nj xj):=by
    rw[hScB,jat (by rw[qaw,qbr];exact hk)];exact d4 idN
   obtain⟨a1,a2,a3,a4,a5⟩:=hEA k hk;obtain⟨o1,o2,o3,o4⟩:=qcl (E:=E) (Er:=Er) (n:=S.next) (m:=mP s.ps) (hlt _ hin);obtain⟨_,_,_,_,_,_,i2,_⟩:=hrowA k hk;exact⟨OR.objK_to (E:=Er) (E':=mrgR E Er S.next (mP s.ps)) (fun _ h=>h) rfl a1 (fun _=>⟨.inl ⟨hlt _ hin,i2⟩,o1.trans a2.symm,o2.trans a3.symm,o3.trans a4.symm,o4.trans a5.symm⟩) (fun j a b hAj=>by
    obtain⟨r1,r2,r3,r4,r5⟩:=qh2 (E:=E) (Er:=Er) (n:=S.next) (m:=mP s.ps) (k:=j) (by omega);rw[q23 (by omega)];exact⟨r5 hAj,r1,r2,r3,r4⟩) (fun j hj hAj=>by
    have hjm:=d5 j hj;obtain⟨a1',a2',a3',a4',a5'⟩:=hEA j hjm;have hinj:=(qbo (q:=q) (k:=j) (by omega)).1;obtain⟨o1',o2',o3',o4'⟩:=qcl (E:=E) (Er:=Er) (n:=S.next) (m:=mP s.ps) (hlt _ hinj);rw[zah hjm (hrk j hjm)];exact⟨.inl ⟨hlt _ hinj,hA _ hinj⟩,o1'.trans a2'.symm,o2'.trans a3'.symm,o3'.trans a4'.symm,o4'.trans a5'.symm⟩) (k2.st.objs k trivial a1 _ hsr),fun hl=>⟨_,hsr,ql0.trans hl⟩,fun hb=>(o4.trans a5.symm).trans (k2.st.blk k trivial a1 _ hsr (qhl.trans hb))⟩) (fun k o h1 h2 ho=>by
   unfold qbv at ho;have hin:=(qbo (q:=q) (k:=k) h2).1;have hin2:=jbb (hsk k h1 h2);rw[qb9,hbn,jam (hlt _ hin),qgb (fun h=>hrs _ h hin2),qwc hin2] at ho;cases ho;rfl) (fun k o h1 hAk ho=>by
   unfold qbv at ho;have hkb:=k2.bnd k hAk;unfold ScB at hkb;rw[qcr,jaq,qaw,qbr] at hkb;have e0:S0.next=0:=rfl
   rw[qb9,hbn,jak (by omega),jam (by omega),ja1] at ho;have hd:=qwf (jbb ho);have hsr:(ScB s y z).H k=some o:=by
    rw[hScB,jau (by rw[qaw,qbr];exact h1),qaw,qbr];exact ho
   obtain⟨r1,r2,r3,r4,r5⟩:=qh2 (E:=E) (Er:=Er) (n:=S.next) (m:=mP s.ps) (k:=k) h1;exact⟨OR.dat_to (E:=Er) (E':=mrgR E Er S.next (mP s.ps)) (fun _ h=>h) rfl hAk (fun hA=>⟨r5 hA,r1,r2,r3,r4⟩) hd (k2.st.objs k trivial hAk _ hsr),fun hl=>⟨_,hsr,hl⟩,fun hbk=>r4.trans (k2.st.blk k trivial hAk _ hsr hbk)⟩)
end
end Go.Jx
end

section
namespace Go.Jx
open Go Go.Sx Go.RowKit
universe u

structure Beside (b:Nat) (w w':World):Prop where
 os:w'.os=w.os
 tape:w'.tape=w.tape
 output:w'.output=w.output
 size:w'.heap.size=w.heap.size
 same:∀x,x≠b->w'.heap[x]?=w.heap[x]?
theorem Beside.put(w:World)(b:Nat)(o:Obj):Beside b w (w.putObj b o):=⟨rfl,rfl,rfl,by simp,fun x hx=>jb9 hx⟩
theorem Beside.symm{b:Nat}{w w':World}(h:Beside b w w'):Beside b w' w:=⟨h.os.symm,h.tape.symm,h.output.symm,h.size.symm,fun x hx=>(h.same x hx).symm⟩
theorem Beside.upd{b:Nat}{w w':World}(h:Beside b w w'):Upd [b] w w':=⟨h.os,h.tape,h.output,by rw[h.size];exact jar _,fun x _ hx=>h.same x (by simpa using hx)⟩
def qfg(E:Env)(S:IS)(b:Nat):Prop:=b∈E.m/\∀id,E.A id->Live E S.H id->E.ρ id≠b
section
variable {E E' : Env} {S S' : IS} {b : Nat} {w w' : World}
theorem Pre.beside(p:Pre T0 E S)(hb:qfg E S b)(h:Beside b E.w w):E.Le (E.at_ w)/\Pre T0 (E.at_ w) S/\qfg (E.at_ w) S b:=by
 have hle:E.Le (E.at_ w):=⟨fun _ h=>⟨h,rfl,rfl,rfl,rfl⟩,⟨fun x hx hm=>⟨hm,h.same x fun e=>hm (e▸hb.1)⟩⟩⟩
 refine⟨hle,⟨⟨fun id ht ha o ho=>(p.st.objs id ht ha o ho).mono hle ha (p.st.blk id ht ha o ho) fun hl hhb=>h.same _ (hb.2 id ha ⟨hhb,o,ho,hl⟩),fun id ht ha o ho hbk=>p.st.blk id ht ha o ho hbk,fun id ht ha hl=>p.st.own id ht ha hl,
  fun i j a b' c d e f g=>p.st.inj i j a b' c d e f g,fun x hx=>?_⟩,p.bnd,p.nw,p.gl.mono hle.tr⟩,hb⟩
 show x<w.heap.size;rw[h.size];exact p.st.lo x hx
theorem PostB.apart{B:Nat}(k:PostB B T0 E S E' S')(p:Pre T0 E S)(hb:qfg E S b):qfg E' S' b:=by
 have hlt:=p.st.lo b hb.1;refine⟨?_,fun id ha hl e=>?_⟩
 ·rcases k.mem b hb.1 hlt with h|⟨id,_,h1,h2,h3⟩
  ·exact h
  ·exact absurd h3 (hb.2 id h1 h2)
 ·rcases jbr id B with h|h
  ·have hA:=k.fr id h ha;exact hb.2 id hA (k.old id h trivial hA hl) ((k.alw id h hA).2.1.symm.trans e)
  ·rcases k.new id h ha hl with h1|⟨j,_,j1,j2,j3⟩
   ·omega
   ·exact hb.2 j j1 j2 (j3.symm.trans e)
theorem PostB.at_same{B:Nat}(k:PostB B T0 E S E' S')(p:Pre T0 E S)(hb:qfg E S b):E'.w.heap[b]?=E.w.heap[b]?:=k.same b (p.st.lo b hb.1) fun id _ ha hl=>hb.2 id ha hl
theorem PostB.beside{B:Nat}(k:PostB B T0 E S E' S')(p:Pre T0 E S)(hb:qfg E S b)(h1:Beside b E.w w)(h2:Beside b E'.w w')(h3:w'.heap[b]?=w.heap[b]?):PostB B T0 (E.at_ w) S (E'.at_ w') S':=by
 have p':Pre T0 E' S':=k.pre (fun _ _=>trivial) p;obtain⟨_,p2,_⟩:=p'.beside (k.apart p hb) h2;have es:(E.at_ w).w.heap.size=E.w.heap.size:=h1.size;refine⟨p2.st,h2.os.trans (k.os.trans h1.os.symm),h2.tape.trans (k.tape.trans h1.tape.symm),h2.output.trans (k.output.trans h1.output.symm),?_,fun x hx hn=>?_,k.alw,fun id hB ha hl=>?_,k.old,fun x hx=>?_,fun x hx hlt=>k.mem x hx (by rw[es] at hlt;exact hlt),k.bnd,k.le,k.fr⟩
 ·show w.heap.size<=w'.heap.size;rw[h1.size,h2.size];exact k.size
 ·show w'.heap[x]?=w.heap[x]?;by_cases e:x=b
  ·rw[e];exact h3
  ·rw[h2.same x e,h1.same x e];exact k.same x (by rw[es] at hx;exact hx) hn
 ·rw[es];exact k.new id hB ha hl
 ·rw[es];exact k.memo x hx
end
end Go.Jx
end

section
namespace Go.Jx
open Go Go.Sx Go.RowKit
universe u

structure LpC where
 ls:List Nat
 lp:List PK
 nm:Nat->Option Nm
def putL:List Nat->List IV->PT IV->PT IV
 | t::ts,v::vs,fr=>putL ts vs (fr.set v t)
 | _,_,fr=>fr
theorem qx1:∀{ls:List Nat} {vs:List IV} {us:List Value} {E:Env} {nt:Nat} {fr:PT IV} {tmps:Array Value},VRs E vs us->us=ls.map (fun t=>tmps.getD t undef)->FR E nt fr tmps->FR E nt (putL ls vs fr) tmps
 | [],vs,us,E,nt,fr,tmps,hv,hu,hf=>by simpa [putL] using hf
 | t::ls,[],us,E,nt,fr,tmps,hv,hu,hf=>by simpa [putL] using hf
 | t::ls,v::vs,us,E,nt,fr,tmps,hv,hu,hf=>by
  obtain⟨u,us,rfl,a1,a2⟩:=hv.inv;simp only[jbw,jc3] at hu;show FR E nt (putL ls vs (fr.set v t)) tmps;refine qx1 a2 hu.2 ⟨hf.size,fun k hk=>?_⟩;rw[qdf];by_cases e:k=t
  ·subst e;rw[jam rfl,<- hu.1];exact a1
  ·rw[jak e];exact hf.get k hk
section
variable (P : Program) (tt : Nat -> Option TI)
def qeb(cfg:LpC)(c:TC)(nt lf:Nat)(cl:Cl)(pr:Nat)(assign body:Code)(d:ElP cfg.lp)(z:ElP (refs cfg.lp))(x:El c):Option (ElP (refs cfg.lp) × Option Code) :=
 match qad P tt cfg.nm (mP cfg.lp) nt cl lf none assign (qdb [pr] [asIV c x] (putL cfg.ls (qag cfg.lp idN 0 d) .leaf)) (Sc cfg.lp (updP cfg.lp d z)) [] with
 | none=>none
 | some r1=>match r1.e with
  | .normal=>match r1.ds with
   | []=>match qad P tt cfg.nm (mP cfg.lp) nt cl lf none body r1.fr r1.S [] with
    | none=>none
    | some r2=>match r2.ds with
     | []=>cond r2.e.isPan none <| match runQ (sQ cfg.lp) ⟨.tup [],r2.S,0,0⟩ with
      | none=>none
      | some y=>some (y.2,qdv r2.e)
     | _=>none
   | _=>none
  | _=>none
end
def foldB{D α:Type}(g:D->α->Option (D × Option Code)):List α->D->Option (D × Option Code)
 | [],d=>some (d,none)
 | x::xs,d=>match g d x with
  | none=>none
  | some (d',none)=>foldB g xs d'
  | some (d',some e)=>some (d',some e)
section
variable {P : Program} {tt : Nat -> Option TI}
theorem zd1{cfg:LpC}{c:TC}{nt lf:Nat}{cl:Cl}{pr:Nat}{assign body:Code}{d:ElP cfg.lp}{z z':ElP (refs cfg.lp)}{x:El c}{e:Option Code}(hm:P.follows .mixedOrders=true)(hcl:ClOK P cl)(hfr:ClFr cl)(htt:TT P tt)
  (h:qeb P tt cfg c nt lf cl pr assign body d z x=some (z',e)) (hok:qaz assign=true/\qaz body=true) (hrf:qbz assign=false/\qbz body=false)
  {E:Env} {b:Nat} {rec:Loop} (p:Pre T0 E (Sc cfg.lp (updP cfg.lp d z))) (hb:qfg E (Sc cfg.lp (updP cfg.lp d z)) b) (hl:E.w.heap[b]?=some (.loop rec)) (hr:rec.state=.ready/\rec.pending=none/\rec.params=#[pr]/\rec.assign=assign/\rec.body=body/\rec.tmps.size=nt)
  (hargs:VRs E (qag cfg.lp idN 0 d) (cfg.ls.map fun t=>rec.tmps.getD t undef)) {u:Value} (hu:VR E (asIV c x) u) :
  YieldAt Fence.wide 0 P b #[u] E.w fun en B=>∃E',PostB (mP cfg.lp) T0 E (Sc cfg.lp (updP cfg.lp d z)) E' (Sc cfg.lp (updP cfg.lp d z')) /\
   ((e=none/\en=.returned (.bool true)/\B=E'.w)\/∃cd,e=some cd/\en=.returned (.bool false)/\Upd [b] E'.w B/\B.heap[b]?=some (.loop { rec with state:=.done,pending:=some cd })):=by
 obtain⟨hr1,hr2,hr3,hr4,hr5,hr6⟩:=hr;unfold qeb at h;split at h
 ·cases h
 rename_i r1 hrun1;split at h<;>try cases h
 rename_i he1;split at h<;>try cases h
 rename_i hds1;split at h
 ·cases h
 rename_i r2 hrun2;split at h<;>try cases h
 rename_i hds2;cases hpn:r2.e.isPan with
 | true=>rw[hpn] at h;cases h
 | false =>
 rw[hpn,jae] at h;split at h
 ·cases h
 rename_i y hq;cases h;have hblt:b<E.w.heap.size:=qav hl;have hy:=run_yield (P:=P) (args:=#[u]) hl (by rw[hr3];rfl);refine⟨_,_,_,_,hy,roundIn_of_wpIn trivial ?_⟩;have hFp:(Fence.wide.inRound b).plain=Fence.wide:=rfl;have hfr0:FR E nt (PT.leaf) rec.tmps:=⟨hr6,fun t ht=>.unk _⟩;have hfr1:FR E nt (qdb [pr] [asIV c x] (putL cfg.ls (qag cfg.lp idN 0 d) .leaf)) ((rec.params.zip #[u]).foldl (fun tmps (t,a)=>tmps.setIfInBounds t a) rec.tmps):=by
  have:=qt6 (ps:=[pr]) (VRs.cons hu VRs.nil) (qx1 hargs rfl hfr0);rw[hr3];simpa [List.zip] using this
 rw[hr4];refine qf3 (T:=T0) (E:=E) (a:={ tmps:=_,defers:=[] }) (S:=Sc cfg.lp (updP cfg.lp d z)) (ds:=[]) (round:=none) (B:=mP cfg.lp) (fun _ _=>trivial) hm hFp hcl hfr htt assign hok.1 p (by rw[qgu];omega) (fun _ _=>trivial) hfr1 (DS.nil (N:=0) (jbn _)) (fun h=>by rw[hrf.1] at h;cases h) hrun1 (fun _ _=>trivial) (fun _ _=>trivial) ?_;intro E1 a1 x1 k0 k1 k2 kB;rw[he1] at k0;cases k0;have hb1:=kB.apart p hb;have hl1:E1.w.heap[b]?=some (.loop rec):=(kB.at_same p hb).trans hl;have p1:Pre T0 E1 r1.S:=kB.pre (fun _ _=>trivial) p;have hbg:=run_beginRound (P:=P) hl1 hr1;refine⟨_,hbg,?_⟩;generalize hW:(E1.w.putObj b (.loop { rec with state:=.busy }))=W1;have hs1:Beside b E1.w W1:=by rw[<- hW];exact Beside.put _ _ _
 have hW1:W1.heap[b]?=some (.loop { rec with state:=.busy }):=by rw[<- hW];exact jbo (qav hl1)
 obtain⟨hle2,p2,hb2⟩:=p1.beside hb1 hs1;have hs0:Beside b E.w (E.w.putObj b (.loop { rec with state:=.busy })):=Beside.put _ _ _;obtain⟨hle0,p0,hb0⟩:=p.beside hb hs0;have hw0:(E.w.putObj b (.loop { rec with state:=.busy })).heap[b]?=some (.loop { rec with state:=.busy }):=jbo hblt;have kB2:=kB.beside p hb hs0 hs1 (by rw[hW1,hw0]);rw[hr5];show body.wpIn _ 0 P _ a1 (E1.at_ W1).w;rw[hds1] at k2;refine qf3 (T:=T0) (E:=E1.at_ W1) (a:=a1) (S:=r1.S) (ds:=[]) (round:=none) (B:=mP cfg.lp) (fun _ _=>trivial) hm hFp hcl hfr htt body hok.2 p2 kB.le (fun _ _=>trivial) (k1.mono hle2) (k2.mono hle2 (by show E1.w.heap.size<=W1.heap.size;rw[<- hW];simp)) (fun h=>by rw[hrf.2] at h;cases h) hrun2 (fun _ _=>trivial) (fun _ _=>trivial) ?_;intro E3 a3 x3 m0 m1 m2 mB;have hall:=kB2.trans mB;have hargs0:VRs (E.at_ (E.w.putObj b (.loop { rec with state:=.busy }))) (qag (sQ cfg.lp).ps idN 0 (updP cfg.lp d z)) (cfg.ls.map fun t=>rec.tmps.getD t undef):=by
  show VRs _ (qag cfg.lp idN 0 (updP cfg.lp d z)) _;rw[qqq];exact hargs.mono hle0
 obtain⟨E4,e4,_,q4⟩:=q8i (s:=sQ cfg.lp) (r:=⟨.tup [],r2.S,0,0⟩) (x:=updP cfg.lp d z) (y:=y.1) (z:=y.2) (u:=.tuple #[]) hq p0 hargs0 hall (.tup (us:=[]) rfl (fun i h=>by simp at h));have hb4:=q4.apart p0 hb0;have hl4:E4.w.heap[b]?=some (.loop { rec with state:=.busy }):=(q4.at_same p0 hb0).trans hw0;have hend:=fun j=>run_endRound (P:=P) j hl4;have hs4:Beside b E4.w (E4.w.putObj b (.loop rec)):=Beside.put _ _ _;have hback:=q4.beside p0 hb0 hs0.symm hs4 (by rw[jbo (qav hl4)];exact hl.symm);have hfin:PostB (mP cfg.lp) T0 E (Sc cfg.lp (updP cfg.lp d z)) (E4.at_ (E4.w.putObj b (.loop rec))) (Sc cfg.lp (updP cfg.lp d y.2)):=by
  have e1:ScB (sQ cfg.lp) y.1 y.2=Sc cfg.lp (updP cfg.lp d y.2):=q3w cfg.lp d y.2;rw[e1] at hback;exact hback
 rw[<- e4];have hrec:({ rec with state:=.ready,pending:=none }:Loop)=rec:=by
  cases rec;cases hr1;cases hr2;rfl
 have hstop:∀cd,∃v w',(Instr.endRound b (some cd)).run P E4.w=.ok v w'/\∃E',PostB (mP cfg.lp) T0 E (Sc cfg.lp (updP cfg.lp d z)) E' (Sc cfg.lp (updP cfg.lp d y.2)) /\
   ((some cd=none/\Ending.returned v=.returned (.bool true)/\w'=E'.w)\/∃cd',some cd=some cd'/\Ending.returned v=.returned (.bool false)/\Upd [b] E'.w w'/\w'.heap[b]?=some (.loop { rec with state:=.done,pending:=some cd' })):=fun cd=>by
  refine⟨_,_,hend (some cd),E4.at_ (E4.w.putObj b (.loop rec)),hfin,.inr ⟨cd,rfl,rfl,?_,?_⟩⟩
  ·exact hs4.symm.upd.trans ((Beside.put E4.w b _).upd)
  ·exact jbo (qav hl4)
 cases he:r2.e with
 | normal =>
  rw[he] at m0;cases m0;refine⟨_,_,hend none,E4.at_ (E4.w.putObj b (.loop rec)),hfin,.inl ⟨rfl,rfl,?_⟩⟩;show E4.w.putObj b (.loop { rec with state:=.ready,pending:=none })=E4.w.putObj b (.loop rec);rw[hrec]
 | ret =>
  rw[he] at m0;cases m0;obtain⟨v,w',g1,E',g2,g3⟩:=hstop .ret;refine⟨v,w',g1,E',g2,?_⟩;rcases g3 with ⟨g3,_⟩|⟨cd,g3,g4,g5,g6⟩
  ·cases g3
  ·exact .inr ⟨cd,g3,g4,g5,by rw[hr4,hr5] at g6;exact g6⟩
 | exit i =>
  rw[he] at m0;cases m0;obtain⟨v,w',g1,E',g2,g3⟩:=hstop (.exit i);refine⟨v,w',g1,E',g2,?_⟩;rcases g3 with ⟨g3,_⟩|⟨cd,g3,g4,g5,g6⟩
  ·cases g3
  ·exact .inr ⟨cd,g3,g4,g5,by rw[hr4,hr5] at g6;exact g6⟩
 | goto l =>
  rw[he] at m0;cases m0;obtain⟨v,w',g1,E',g2,g3⟩:=hstop (.goto l);refine⟨v,w',g1,E',g2,?_⟩;rcases g3 with ⟨g3,_⟩|⟨cd,g3,g4,g5,g6⟩
  ·cases g3
  ·exact .inr ⟨cd,g3,g4,g5,by rw[hr4,hr5] at g6;exact g6⟩
 | pan q=>rw[he] at hpn;cases hpn
end
end Go.Jx
end

section
namespace Go.Jx
open Go Go.Sx Go.RowKit
universe u

def qfs(P:Program)(gf:Nat)(us:List Value)(Rd:World->Prop){α:Type}(V:α->Value->World->World->Prop)(xs:List α):Prop :=
 ∀(l:Nat) (J:List α->World->Prop) (K:World->Prop) (W:World),(∀s A B,J s A->Upd [] A B->J s B)->(∀A B,K A->Upd [] A B->K B)->(∀s A,J s A->Rd A) ->
  (∀pre x post A0 A u,xs=pre++x::post->J pre A0->Upd [] A0 A->V x u A0 A->YieldAt Fence.wide 0 P l #[u] A fun e B=>(∀b,A0.heap.size<=b->b<A.heap.size->B.heap[b]?=A.heap[b]?)/\((e=.returned (.bool true)/\J (pre++[x]) B)\/(e=.returned (.bool false)/\K B))) ->
  J [] W->CallsIn Fence.wide 0 P gf (#[.func (.yield l) #[] #[]]++us.toArray) W fun e B=>e=.returned (.tuple #[])/\(J xs B\/K B)
structure SmI where
 ips:List PK
 c:TC
 xs:ElP ips->Option (List (El c))
def q3r(E:Env)(s:SmI)(x:ElP s.ips)(us:List Value)(rows:List Nat):Prop :=
 (∀ρ k,Nums ρ k rows->VRs E (qag s.ips ρ k x) us)/\qm4 E rows (qal s.ips idN 0 x)
structure ConI (P:Program) (f:Nat) (s:SmI):Prop where
 callable:qai P f
 ns:nPI s.ips=0
 it:∀(E:Env) (x:ElP s.ips) (us:List Value) (rows:List Nat) (l:List (El s.c)),s.xs x=some l->Gl E.m E.w->q3r E s x us rows ->
  qfs P f us (fun W=>E.Le (E.at_ W)/\∀id∈rows,W.heap[E.ρ id]?=E.w.heap[E.ρ id]?) (fun x u A0 A=>∀E:Env,E.w=A->(∀b∈E.m,b<A0.heap.size)->VR E (asIV s.c x) u) l
def qct:(l:List PK)->ElP l->ElP (refs l)
 | [],_=>()
 | .dat _::l,x=>qct l x.2
 | .fn _::l,x=>qct l x
 | .ref _::l,x=>(x.1,qct l x.2)
theorem qqp:∀(l:List PK) (x:ElP l),updP l x (qct l x)=x
 | [],_=>rfl
 | .dat c::l,x=>jca (fun q=>(x.1,q)) (qqp l x.2)
 | .fn _::l,x=>qqp l x
 | .ref r::l,x=>jca (fun q=>(x.1,q)) (qqp l x.2)
theorem qoe{D α:Type}(g:D->α->Option (D × Option Code)):∀(pre post:List α) (z z':D),foldB g pre z=some (z',none)->foldB g (pre++post) z=foldB g post z'
 | [],post,z,z',h=>by cases h;rfl
 | x::pre,post,z,z',h=>by
  simp only[foldB,jcz] at h ⊢;cases hg:g z x with
  | none=>rw[hg] at h;cases h
  | some q =>
   obtain⟨z1,e⟩:=q;rw[hg] at h;cases e with
   | none=>exact qoe g pre post z1 z' h
   | some e=>cases h
section
variable (P : Program) (tt : Nat -> Option TI)
def itB(S2:IS)(cfg:LpC)(id nt:Nat)(irows rows subs:List Nat)(w2:Nat)(assign body:Code):Bool :=
 ndB (id::(irows++(rows++subs)))&&(irows.all (rowB S2)&&(rows.all (rowB S2)&&(qaz assign&&(qaz body&&(!qbz assign&&(!qbz body&&(cfg.ls.all (fun t=>Nat.blt t nt)&&!w2.testBit id)))))))
def qlr(S2:IS)(cfg:LpC)(id nt:Nat)(fr:PT IV)(pr D:Nat)(assign body:Code)(irows rows subs:List Nat)(w:Nat)(q:ElP (refs cfg.lp) × Option Code):Res :=
 ⟨.tup [],(qbv (sQ cfg.lp) S2.next rows subs () q.1 S2).set id (.loop (cond q.2.isNone .ready .done) q.2 nt fr [pr] assign body D),2 ^ id,2 ^ id ||| (w ||| qa3 (irows++(rows++subs)))⟩
def itF(s:SmI)(cfg:LpC)(lf:Nat)(cl:Cl)(vs:List IV)(S:IS):Option Res:=match vs with
 | .yield id::caps=>match rdP s.ips S caps with
  | none=>none
  | some (xi,irows,_,S1,w1)=>match S1.heap.get id with
   | some (.loop .ready none nt fr [pr] assign body D)=>match rdP cfg.lp S1 (cfg.ls.map (slot fr)) with
    | none=>none
    | some (d0,rows,subs,S2,w2)=>cond (itB S2 cfg id nt irows rows subs w2 assign body) (match fiP cfg.lp rows subs S2 d0 with
     | none=>none
     | some d=>match s.xs xi with
      | none=>none
      | some l=>match foldB (qeb P tt cfg s.c nt lf cl pr assign body d) l (qct cfg.lp d) with
       | none=>none
       | some q=>some (qlr S2 cfg id nt fr pr D assign body irows rows subs (w1 ||| w2) q)) none
   | _=>none
 | _=>none
end
section
variable {P : Program} {tt : Nat -> Option TI}
theorem qwv{s:SmI}{cfg:LpC}{lf:Nat}{cl:Cl}{vs:List IV}{S:IS}{r:Res}(h:itF P tt s cfg lf cl vs S=some r) :
  ∃id caps xi irows isubs S1 w1 nt fr pr assign body D d0 rows subs S2 w2 d l q,vs=.yield id::caps/\rdP s.ips S caps=some (xi,irows,isubs,S1,w1)/\S1.heap.get id=some (.loop .ready none nt fr [pr] assign body D) /\
   rdP cfg.lp S1 (cfg.ls.map (slot fr))=some (d0,rows,subs,S2,w2)/\itB S2 cfg id nt irows rows subs w2 assign body=true/\fiP cfg.lp rows subs S2 d0=some d/\s.xs xi=some l /\
   foldB (qeb P tt cfg s.c nt lf cl pr assign body d) l (qct cfg.lp d)=some q/\r=qlr S2 cfg id nt fr pr D assign body irows rows subs (w1 ||| w2) q:=by
 unfold itF at h;split at h<;>try cases h
 rename_i id caps;split at h
 ·cases h
 rename_i xi irows isubs S1 w1 h1;split at h<;>try cases h
 rename_i nt fr pr assign body D ho;split at h
 ·cases h
 rename_i d0 rows subs S2 w2 h2;cases hb:itB S2 cfg id nt irows rows subs w2 assign body with
 | false=>rw[hb] at h;cases h
 | true =>
 rw[hb,jaa] at h;split at h
 ·cases h
 rename_i d h3;split at h
 ·cases h
 rename_i l h4;split at h<;>cases h;rename_i q h5;exact⟨id,caps,xi,irows,isubs,S1,w1,nt,fr,pr,assign,body,D,d0,rows,subs,S2,w2,d,l,q,rfl,h1,ho,h2,hb,h3,h4,h5,rfl⟩
theorem zim{s:SmI}{cfg:LpC}{lf:Nat}{cl:Cl}{vs:List IV}{S:IS}:FrO S (itF P tt s cfg lf cl vs S):=fun r h=>by
 obtain⟨id,caps,xi,irows,isubs,S1,w1,nt,fr,pr,assign,body,D,d0,rows,subs,S2,w2,d,l,q,rfl,h1,ho,h2,hb,h3,h4,h5,rfl⟩:=qwv h;have k1:=qjq _ h1;have k2:=qjq _ h2;have k3:=(qqc subs S2).trans ((qn2 rows (qal (refs cfg.lp) (nuB rows (mP cfg.lp) S2.next) (mP cfg.lp) q.1) _).trans (qly (newO (sQ cfg.lp) () q.1) _ 0));have k4:=(k1.trans k2).trans (k3.trans (FrX.set _ id (.loop (cond q.2.isNone .ready .done) q.2 nt fr [pr] assign body D)));refine⟨k4.1,fun i hi hbit=>k4.2 i hi ?_⟩;have hbit:(2 ^ id ||| ((w1 ||| w2) ||| qa3 (irows++(rows++subs)))).testBit i=false:=hbit;simp only[qpq,jbt,jb2,Nat.zero_testBit] at hbit ⊢;obtain⟨a,⟨b,c⟩,_,e,f⟩:=hbit;exact⟨⟨b,c⟩,⟨f,e,trivial⟩,a⟩
theorem zhv{s:SmI}{cfg:LpC}{lf:Nat}{cl:Cl}{vs:List IV}{S:IS}{r:Res}(h:itF P tt s cfg lf cl vs S=some r)(hw:r.wr=0):False:=by
 obtain⟨id,caps,xi,irows,isubs,S1,w1,nt,fr,pr,assign,body,D,d0,rows,subs,S2,w2,d,l,q,rfl,h1,ho,h2,hb,h3,h4,h5,rfl⟩:=qwv h;have:2 ^ id=0:=(or_zero hw).1;have:=jed (n:=id);omega
end
end Go.Jx
end

section
namespace Go.Jx
open Go Go.Sx Go.RowKit
universe u

section
variable {P : Program} {tt : Nat -> Option TI}
theorem zbm(hm:P.follows .mixedOrders=true)(htt:TT P tt){f:Nat}{s:SmI}{cfg:LpC}{lf:Nat}(hc:ConI P f s){cl:Cl}(hcl:ClOK P cl)(hfr:ClFr cl){vs:List IV}{S:IS}{r:Res}(h:itF P tt s cfg lf cl vs S=some r)
   {T:TW} {E:Env} {us:List Value} (p:Pre T E S) (hrd:tin T.r r.rd) (hwr:tin T.w r.wr) (hv:VRs E vs us):qai P f/\CallsIn Fence.wide 0 P f us.toArray E.w (RetE T E S r):=by
 refine⟨hc.callable,?_⟩;obtain⟨id,caps,xi,irows,isubs,S1,w1,nt,fr,pr,assign,body,D,d0,rows,subs,S2,w2,d,l,q,rfl,h1,ho,h2,hb,h3,h4,h5,rfl⟩:=qwv h;obtain⟨t1,t2⟩:=qak hwr;obtain⟨t3,t4⟩:=qak t2;obtain⟨t5,t6⟩:=qak t3;have hTid:=qae t1;have hbits:=qps t4;unfold itB at hb;simp only[jaf] at hb;obtain⟨b1,b2,b3,b4,b5,b6,b7,b8,b9⟩:=hb;have hnd:=qig b1;obtain⟨u0,us,rfl,a1,a2⟩:=hv.inv;have hA:E.A id:=by cases a1;assumption
 obtain⟨E1,e1,q1,f1,il1,il2,iA,ib2,ib3,iok⟩:=qmw s.ips h1 p t5 a2;have p1:=q1.pre p;have hle1:=q1.env p;obtain⟨z1,z2,z3,z4,z5⟩:=hle1.alw id hA;obtain⟨fn,tmps,g1,g2,g3⟩:=p1.st.objs id (T.sub _ hTid) z1 _ ho;have hls:VRs E1 (cfg.ls.map (slot fr)) (cfg.ls.map fun t=>tmps.getD t undef):=⟨by simp,fun i hi hi2=>by
   simp only[jb0];refine g2.get _ ?_;have:=(ja3.1 b8) (cfg.ls[i]'(by simpa using hi)) (jaz _);simpa using this⟩
 obtain⟨E2,e2,q2,f2,l1,l2,A2,c2,c3,cok⟩:=qmw cfg.lp h2 p1 t6 hls;have p2:=q2.pre p1;have hle2:=q2.env p1;obtain⟨_,y2,y3⟩:=qdn cfg.lp h3 l2;have hq12:=Post.trans p q1 f1 q2;have hf12:=f1.trans f2 q1.le;have hS2:S2.H id=some (.loop .ready none nt fr [pr] assign body D):=by
   rw[(qjq _ h2).2 id (p1.bnd id z1) (by simpa using b9)];exact ho
 obtain⟨hA2,x2,x3,x4,x5⟩:=hle2.alw id z1;obtain⟨fn',tmps',g1',g2',g3'⟩:=p2.st.objs id (T.sub _ hTid) hA2 _ hS2;obtain⟨nq1,nq2⟩:=jdv.1 hnd;have nq3:=(jcc.1 nq2);have hheld:Held T E2 S2 cfg.lp d rows subs:=⟨l1,l2,nq3.2.1,fun i hi=>hbits i (jbz _ hi),A2,cok,fun ι hι1 hι j o hj=>by
     obtain⟨id',g1,g2,g3,g4,_⟩:=qqt h3 l2 p2 (fun i hi=>T.sub _ (hbits i (jbz _ (jb1 _ hi)))) (c3 _ _ hι (.inr hι1)) j o hj;exact⟨id',g1,g2,g3,g4⟩,
   fun i hi=>qt8 ((ja3.1 b3) i hi),y3⟩
 have hidq:id ∉ rows++subs:=fun hi=>nq1 (jbz _ hi);have hirq:∀i,i∈irows->i ∉ rows++subs:=fun i h1 h2=>nq3.2.2 i h1 i h2 rfl;have p0:=hheld.pre p2;have hlive:Live E2 S2.H id:=⟨p2.st.blk id (T.sub _ hTid) hA2 _ hS2 rfl,_,hS2,rfl⟩;have hfar:∀i,i ∉ rows++subs->T.r i->E2.A i->Live E2 S2.H i->∀k,(renE 0 (rows++subs) E2).A k->Live (renE 0 (rows++subs) E2) (Sc cfg.lp d).H k->(renE 0 (rows++subs) E2).ρ k≠E2.ρ i:=fun i hi ht ha hl k hk hkl e=>by
   have hk1:k<(rows++subs).length:=by have:=hk.1;omega
   have hm1:=(qbo hk1).1;obtain⟨h0,o,ho1,ho2⟩:=hkl;have hl2:Live E2 S2.H (ol 0 (rows++subs) k):=⟨h0,(hheld.obj p2 hk1 hk.2 ho1).live ho2⟩;have:=p2.st.inj _ _ (T.sub _ (hheld.w _ hm1)) ht hk.2 ha hl2 hl e;exact hi (this▸hm1)
 have hap:qfg (renE 0 (rows++subs) E2) (Sc cfg.lp d) (E2.ρ id):=⟨p2.st.own id (T.sub _ hTid) hA2 hlive,hfar id hidq (T.sub _ hTid) hA2 hlive⟩;generalize hE0:renE 0 (rows++subs) E2=E0 at p0 hap hfar;have hE0w:E0.w=E2.w:=by rw[<- hE0];rfl
 have hE0m:E0.m=E2.m:=by rw[<- hE0];rfl
 generalize hbk:E2.ρ id=b at hap g1';obtain⟨rec,hrec⟩:∃rec:Loop,rec={ state:=.ready,pending:=none,fn:=fn',tmps:=tmps',params:=[pr].toArray,assign:=assign,body:=body,defers:=E2.ρ D }:=⟨_,rfl⟩;have hl0:E0.w.heap[b]?=some (.loop rec):=by rw[hE0w,g1',hrec]
 have htm:tmps'=tmps:=by
   have h1:=g1';rw[e2,<- hbk,x2,g1] at h1;have h1:=jbu h1;injection h1 with h1
   injection h1 with _ _ _ h1
   exact h1.symm
 have hargs:VRs E0 (qag cfg.lp idN 0 d) (cfg.ls.map fun t=>rec.tmps.getD t undef):=by
   have e:rec.tmps=tmps:=by rw[hrec];exact htm
   rw[e,<- hE0];exact argsP_env (E:=E2) (E':=renE 0 (rows++subs) E2) (ρ:=ol 0 (rows++subs)) (fun _ h=>h) rfl cfg.lp (fun j a b=>Held.numTo E2 _ (by rw[hheld.len];omega)) (by rw[y2];exact c2 _ _ hheld.num.1)
 generalize hg:qeb P tt cfg s.c nt lf cl pr assign body d=g at h5;have hd0:updP cfg.lp d (qct cfg.lp d)=d:=qqp _ _;have hT0:∀id,mP cfg.lp<=id->T0.w id:=fun _ _=>trivial
 -- the two states of affairs
 let J:List (El s.c)->World->Prop:=fun pre W=>∃z Ei,foldB g pre (qct cfg.lp d)=some (z,none)/\PostB (mP cfg.lp) T0 E0 (Sc cfg.lp d) Ei (Sc cfg.lp (updP cfg.lp d z))/\Ei.w=W
 let K:World->Prop:=fun W=>∃z cd Ei,foldB g l (qct cfg.lp d)=some (z,some cd)/\PostB (mP cfg.lp) T0 E0 (Sc cfg.lp d) Ei (Sc cfg.lp (updP cfg.lp d z))/\Upd [b] Ei.w W/\W.heap[b]?=some (.loop { rec with state:=.done,pending:=some cd })
 have hJ0:J [] E0.w:=⟨qct cfg.lp d,E0,rfl,by rw[hd0];exact PostB.refl (by rw[qgu];omega) hT0 p0,rfl⟩;have hJu:∀s A B,J s A->Upd [] A B->J s B:=fun pre A B ⟨z,Ei,k1,k2,k3⟩ u=>by
   subst k3;obtain⟨i1,i2⟩:=Post.idle (k2.pre hT0 p0) u;exact⟨z,Ei.at_ B,k1,k2.trans (PostB.of k2.le hT0 i1 i2),rfl⟩
 have hKu:∀A B,K A->Upd [] A B->K B:=fun A B ⟨z,cd,Ei,k1,k2,k3,k4⟩ u=>⟨z,cd,Ei,k1,k2,k3.trans (u.mono (by simp)),(u.same _ (qav k4) (by simp)).trans k4⟩;have hns:Nums idN 0 isubs:=by
   have:isubs=[]:=jbp.1 (by rw[il2,(q3l hc.ns).1]);rw[this];intro j id hj;simp at hj
 have hrow:∀(j:Nat) (o:IObj),(qal s.ips idN 0 xi)[j]?=some o->∃i,irows[j]?=some i/\E2.A i/\(o.blk=true->E2.hb i=true)/\OR E2 i o:=fun j o hj=>by
   obtain⟨i,i1,i2,i3,i4⟩:=ib3 idN 0 hns (.inl (q3l hc.ns).2) j o hj;obtain⟨j1,j2,j3,j4,j5⟩:=hle2.alw i i2;exact⟨i,i1,j1,fun hb=>j5.trans (i3 hb),i4.mono hle2 i2 i3 (fun _ _=>by rw[e2])⟩
 have hread:q3r E2 s xi us irows:=⟨fun ρ k hk=>(ib2 ρ k hk).mono hle2,hrow⟩;have hRd:∀pre A,J pre A->E2.Le (E2.at_ A)/\∀i∈irows,A.heap[E2.ρ i]?=E2.w.heap[E2.ρ i]?:=fun pre A ⟨z,Ei,k1,k2,k3⟩=>by
   subst k3;have hsame:∀x,x<E2.w.heap.size->(∀k,E0.A k->Live E0 (Sc cfg.lp d).H k->E0.ρ k≠x)->Ei.w.heap[x]?=E2.w.heap[x]?:=fun x hx hn=>by
     rw[<- hE0w];exact k2.same x (by rw[hE0w];exact hx) fun k _=>hn k
   have hle:E2.Le (E2.at_ Ei.w):=⟨fun _ h=>⟨h,rfl,rfl,rfl,rfl⟩,⟨fun x hx hxm=>⟨hxm,hsame x hx fun k ha hl e=>hxm (by rw[<- e,<- hE0m];exact p0.st.own k trivial ha hl)⟩⟩⟩;refine⟨hle,fun i hin=>?_⟩;obtain⟨j,hj,rfl⟩:=jbq.1 hin;have hj2:j<(qal s.ips idN 0 xi).length:=by rw[qaw,<- il1];exact hj
   obtain⟨i,i1,i2,i3,i4⟩:=hrow j _ (jab hj2);rw[jab hj] at i1;cases i1;obtain⟨cs,hcs⟩:=qt8 ((ja3.1 b2) _ hin);have hTi:T.r irows[j]:=T.sub _ (hbits _ (jb1 _ hin));have i3:E2.hb irows[j]=true:=p2.st.blk _ hTi i2 _ hcs rfl;have hlt:E2.ρ irows[j]<E2.w.heap.size:=p2.st.lo _ (p2.st.own _ hTi i2 ⟨i3,_,hcs,rfl⟩);exact hsame _ hlt (hfar _ (hirq _ hin) hTi i2 ⟨i3,_,hcs,rfl⟩)
 have hround:∀pre x post A0 A u,l=pre++x::post->J pre A0->Upd [] A0 A->(∀E:Env,E.w=A->(∀b∈E.m,b<A0.heap.size)->VR E (asIV s.c x) u)->YieldAt Fence.wide 0 P b #[u] A fun e B=>(∀c,A0.heap.size<=c->c<A.heap.size->B.heap[c]?=A.heap[c]?)/\((e=.returned (.bool true)/\J (pre++[x]) B)\/(e=.returned (.bool false)/\K B)):=fun pre x post A0 A u hl ⟨z,Ei0,k1,k20,k30⟩ hup0 hu=>by
   subst k30;have hpi:=k20.pre hT0 p0;obtain⟨i1,i2⟩:=Post.idle hpi hup0;have k2:=k20.trans (PostB.of k20.le hT0 i1 i2);have hlow0:∀k,(Ei0.at_ A).A k->Live (Ei0.at_ A) (Sc cfg.lp (updP cfg.lp d z)).H k->(Ei0.at_ A).ρ k<Ei0.w.heap.size:=fun k ha hl=>hpi.st.lo _ (hpi.st.own k trivial ha hl);obtain⟨Ei,hEi⟩:∃Ei,Ei=Ei0.at_ A:=⟨_,rfl⟩;have hEw:Ei.w=A:=by rw[hEi];rfl
   rw[<- hEi] at k2 hlow0;rw[<- hEw];have hb0:b<Ei0.w.heap.size:=qav ((k20.at_same p0 hap).trans hl0);have hwhole:foldB g (x::post) z=some q:=by
     rw[<- qoe g pre (x::post) _ _ k1,<- hl];exact h5
   have hsnoc:foldB g (pre++[x]) (qct cfg.lp d)=foldB g [x] z:=qoe g pre [x] _ _ k1;cases hgx:g z x with
   | none=>simp only[foldB,hgx] at hwhole;cases hwhole
   | some q1 =>
   obtain⟨z1,e⟩:=q1;rw[<- hg] at hgx;have hlow:(E0.bel (mP cfg.lp)).Le Ei:=k2.env p0;have hargsB:VRs (E0.bel (mP cfg.lp)) (qag cfg.lp idN 0 d) (cfg.ls.map fun t=>rec.tmps.getD t undef) :=
     argsP_env (E:=E0) (E':=E0.bel (mP cfg.lp)) (ρ:=idN) (fun _ h=>h) rfl cfg.lp (fun j _ hj hA=>⟨⟨hA,by show j<mP cfg.lp;omega⟩,rfl,rfl,rfl,rfl⟩) hargs
   have hst:=zd1 (E:=Ei) (b:=b) (rec:=rec) hm hcl hfr htt hgx ⟨b4,b5⟩ ⟨by simpa using b6,by simpa using b7⟩ (k2.pre hT0 p0) (k2.apart p0 hap) ((k2.at_same p0 hap).trans hl0)
     (by rw[hrec];exact⟨rfl,rfl,rfl,rfl,rfl,g2'.size⟩) (hargsB.mono hlow) (hu Ei hEw (by rw[hEi];exact hpi.st.lo))
   obtain⟨fnr,tmpr,asr,bdr,hyr,hRr⟩:=hst;refine⟨fnr,tmpr,asr,bdr,hyr,hRr.mono fun en B hB=>?_⟩;obtain⟨E',m1,m2⟩:=hB;have hall:=k2.trans m1;rw[hg] at hgx;have hkeep:∀c,Ei0.w.heap.size<=c->c<Ei.w.heap.size->E'.w.heap[c]?=Ei.w.heap[c]?:=fun c h1 h2=>m1.same c h2 fun k _ ha hl e=>by
     have:=hlow0 k ha hl;omega
   rcases m2 with ⟨rfl,rfl,rfl⟩|⟨cd,rfl,rfl,m3,m4⟩
   · refine⟨hkeep,.inl ?_⟩;refine⟨rfl,z1,E',?_,hall,rfl⟩;rw[hsnoc];simp only[foldB,hgx]
   · refine⟨fun c h1 h2=>(m3.same c (qav ((hkeep c h1 h2).trans (jdg h2))) (by simp;omega)).trans (hkeep c h1 h2),.inr ?_⟩;refine⟨rfl,z1,cd,E',?_,hall,m3,m4⟩;rw[hl,qoe g pre (x::post) _ _ k1];simp only[foldB,hgx]
 have hit:=hc.it E2 xi us irows l h4 p2.gl hread b J K E0.w hJu hKu hRd hround hJ0;have hu0:u0=.func (.yield b) #[] #[]:=by
   cases a1;rw[<- hbk,x2,z2]
 have hw:E0.w=E.w:=by rw[hE0w,e2,e1]
 rw[hw] at hit;rw[hu0,show (Value.func (.yield b) #[] #[]::us).toArray=#[.func (.yield b) #[] #[]]++us.toArray by simp];refine hit.mono fun en B ⟨hen,hB⟩=>?_
 -- what comes back
 have hfin:∀(z:ElP (refs cfg.lp)) (pe:Option Code) (Ei:Env),q=(z,pe)->PostB (mP cfg.lp) T0 E0 (Sc cfg.lp d) Ei (Sc cfg.lp (updP cfg.lp d z))->Upd [b] Ei.w B ->
     B.heap[b]?=some (.loop { rec with state:=cond pe.isNone .ready .done,pending:=pe })->RetE T E S (qlr S2 cfg id nt fr pr D assign body irows rows subs (w1 ||| w2) q) en B:=fun z pe Ei hqz k2 hup hbl=>by
   subst hqz;rw[<- q3w cfg.lp d z,<- hE0] at k2;obtain⟨m1,m2⟩:=hheld.back (s:=sQ cfg.lp) (x:=d) p2 k2;have p3:=m1.pre p2;have hle3:=m1.env p2;obtain⟨n1,n2,n3,n4,n5⟩:=hle3.alw id hA2;have hlt:id<S2.next:=p2.bnd id hA2
   have hobj:(qbv (sQ cfg.lp) S2.next rows subs () z S2).H id=some (.loop .ready none nt fr [pr] assign body D):=by
     unfold qbv;rw[qb9,qru,qn3,jam hlt,qgb (fun h=>hidq (jb1 _ h)),qj3 (fun h=>hidq (jbz _ h))];exact hS2
   have hL3:Live (mrgR E2 Ei S2.next (mP (sQ cfg.lp).ps)) (qbv (sQ cfg.lp) S2.next rows subs () z S2).H id:=⟨n5.trans hlive.1,_,hobj,rfl⟩;have hub:Upd [(mrgR E2 Ei S2.next (mP (sQ cfg.lp).ps)).ρ id] (mrgR E2 Ei S2.next (mP (sQ cfg.lp).ps)).w B:=by rw[n2,hbk];exact hup
   have hle4:=Env.at_le p3.st hTid n1 hL3 hub;obtain⟨w1',w2'⟩:=Post.write p3 (o':=.loop (cond pe.isNone .ready .done) pe nt fr [pr] assign body D) hTid n1 hL3 hub ⟨fn',tmps',by
     show B.heap[(mrgR E2 Ei S2.next (mP (sQ cfg.lp).ps)).ρ id]?=_;rw[n2,hbk,hbl,hrec];have:E2.ρ D=(mrgR E2 Ei S2.next (mP (sQ cfg.lp).ps)).ρ D:=((hle3.alw D g3').2.1).symm;show some (Obj.loop { state:=cond pe.isNone .ready .done,pending:=pe,fn:=fn',tmps:=tmps',params:=[pr].toArray,assign:=assign,body:=body,defers:=E2.ρ D })=_;rw[this];rfl,(g2'.mono hle3).mono hle4,(hle4.alw D (hle3.alw D g3').1).1⟩
   have r1:=Post.trans p hq12 hf12 m1;have rf1:=hf12.trans m2 hq12.le;exact⟨_,_,hen,rfl,.tup (us:=[]) rfl (fun i h=>by simp at h),Post.trans p r1 rf1 w1',rf1.trans w2' r1.le⟩
 rcases hB with ⟨z,Ei,k1,k2,k3⟩|⟨z,cd,Ei,k1,k2,k3,k4⟩
 · refine hfin z none Ei (jbu (h5.symm.trans k1)) k2 (by rw[k3];exact Upd.refl _ _) ?_;rw[<- k3,(k2.at_same p0 hap).trans hl0,hrec];rfl
 · exact hfin z (some cd) Ei (jbu (h5.symm.trans k1)) k2 k3 k4
end
end Go.Jx
end

section
set_option maxRecDepth 100000
namespace Go.Proofs.Ytcnhjofpmpipfaa
open Go Go.Sx Go.RowKit Go.Jx
open Go.Sx.Dat (enc)
attribute [local irreducible] Go.wpList Go.wpQuiet Go.Code.wp
instance datVal:Dat (Int × Int) where
 sz:=2
 enc M w cs x:=cs=[.int .i64 x.1,.int .i64 x.2]
 len h:=by rw[h];rfl
 mono h _:=h
 ones h:=by rw[h];rfl
def S.refsL:List (Int × Int)->List Int
 | []=>[]
 | v::l=>if v.1=4 then v.2::S.refsL l else S.refsL l
theorem q3p(a b:List (Int × Int)):S.refsL (a++b)=S.refsL a++S.refsL b:=by
 induction a with
 | nil=>rfl
 | cons v l ih=>simp only[jcz,S.refsL];split<;>simp [ih]
theorem q5o{l:List (Int × Int)}{k:Nat}{v:Int × Int}(h:l[k]?=some v):S.refsL (l.take (k+1))=S.refsL (l.take k)++(if v.1=4 then [v.2] else []):=by
 rw[List.take_add_one,h,q3p];simp only[Option.toList,S.refsL]
theorem zts{E:Env}{l:List (Int × Int)}{u:Value}(h:VR E (.lst cVal l) u):∃a cap,u=.slice a l.length cap/\SL E.m E.w a cap l:=by
 cases h with
 | lst0 h=>exact⟨_,_,rfl,⟨jbn _,h⟩,.inl rfl⟩
 | lst us h1 h2 h3 hb hh hc hu =>
  refine⟨_,_,rfl,⟨h1,h2⟩,.inr ⟨_,_,_,_,_,rfl,hb,hh,fun i hi=>⟨_,rfl,fun j hj=>?_⟩⟩⟩;have h5:=hc i hi j hj;have h6:=hu i hi j (by rw[qb1];exact hj);have hj:j<2:=hj;have e:(cel cVal l[i])=[.int .i64 (l[i]).1,.int .i64 (l[i]).2]:=rfl;refine jee h5 ?_;have h7:j=0\/j=1:=by omega
  rcases h7 with rfl|rfl
  ·have h6:VR E (.int .i64 (l[i]).1) (us i 0):=h6;generalize us i 0=q at h6;cases h6;rfl
  ·have h6:VR E (.int .i64 (l[i]).2) (us i 1):=h6;generalize us i 1=q at h6;cases h6;rfl
theorem q98:Fld Try.prog 51 0 0:=Fld.mk (F := ⟨"Kind", 3,0, false, "", "", 0⟩) ty51 rfl ty3
theorem zcl:Fld Try.prog 51 1 1:=Fld.mk (F := ⟨"N", 3,1, false, "", "", 8⟩) ty51 rfl ty3
theorem zll{M:List Nat}{a:Option Addr}{c b:Nat}{vs:List (Int × Int)}{cs0:List Value}(hw:∀v∈vs,IntKind.i64.wrap v.2=v.2):qfs Try.prog 136 [.pointer (some ⟨b,0,none⟩)] (fun A=>Box A b (.slice a vs.length c::cs0)/\SL M A a c vs) (fun(x:Int) u _ _=>∀E,VR E (.int .i64 x) u) (S.refsL vs):=by
 intro l J K W hJ hKu hR hy h0;have hlen:=(hR _ _ h0).2.lt63;have hM:∀{s A},J s A->Box A b (.slice a vs.length c::cs0)/\SL M A a c vs:=fun h=>hR _ _ h;refine jc6.2 (Calls.mono (R:=Ret fun v B=>v=.tuple #[]/\(J (S.refsL vs) B\/K B)) ?_ (fun e B h=>by cases e<;>first|exact⟨by rw[h.1],h.2⟩|exact h.elim));refine(enter (l:=[.func (.yield l) #[] #[],.pointer (some ⟨b,0,none⟩)]) Try.func136 rfl Try.ntmps136 rfl ?_);refine qdz fun K1 hK1=>?_;refine qd0 ?_;refine qna (v:=.slice a vs.length c) ty24 rfl rfl rfl rfl (hM h0).1 rfl ?_;refine zjp ty24 rfl rfl rfl ?_;refine qfn (v:=.int .i64 0) rfl rfl rfl ?_;refine jdd ?_;refine hK1 _ _ ?_;refine wp_block ?_;refine zs9 (X:=Nat) [4,7,8,9,10,11,12,13,14,15,16,17,18,19,20,21] (fun k=>[(7,.int .i64 (k:Int))]) (fun k w1=>k<=vs.length/\J (S.refsL (vs.take k)) w1) (fun k=>vs.length-k) 0 ⟨rfl,trivial⟩ ⟨by omega,by simpa [S.refsL] using h0⟩ ?_;rintro k τ w1 ⟨hk,hj⟩;refine qdz fun K2 hK2=>?_;refine qd0 ?_;refine zs2 rfl rfl rfl rfl ?_;refine jdd ?_;refine hK2 _ _ ?_;refine qdz fun K3 hK3=>?_;refine c_if rfl rfl (fun hb=>?_) (fun hb=>?_)
 ·refine wp_skip ?_;refine hK3 _ _ ?_;refine qdz fun K4 hK4=>?_;refine wp_block ?_;refine qdz fun K5 hK5=>?_;refine qd0 ?_;refine zmw (j:=k) ty24 ty51 rfl rfl rfl rfl rfl (hM hj).2 (by omega) fun ad cs u hx he ca=>?_;obtain rfl:=he;refine zlj ty51 rfl rfl rfl rfl ca rfl ?_;refine zqz (zs:=[.int .i64 0,.int .i64 0]) ty51 rfl rfl fun β w2 hβ u2 hz2 hx2=>?_;have hj2:=hJ _ _ _ hj u2;have hjs:∀(S0:List Nat) (w3:World),Upd [β] w2 w3->J (S.refsL (vs.take k)) w3:=fun S0 w3 u3=>hJ _ _ _ hj ⟨u3.os.trans u2.os,u3.tape.trans u2.tape,u3.output.trans u2.output,jbg u2.size u3.size,fun x hx hn=>(u3.same x (ja8 hx u2.size) (by simp;omega)).trans (u2.same x hx (by simp))⟩;refine zlo (v:=.agg #[.int .i64 u.1,.int .i64 u.2]) (cs':=[.int .i64 u.1,.int .i64 u.2]) ty51 rfl rfl rfl rfl hx2 rfl rfl rfl fun w3 u3 hz3 hx3=>?_;have hj3:=hjs [] w3 u3;refine jdd ?_;refine hK5 _ _ ?_;refine qdz fun K6 hK6=>?_;by_cases hv:u.1=4
  ·refine(wpIn_wide (n:=0)).1 (wpIn_region_lit (zu0 7 rfl ?lo rfl ?_))
   case lo=>rintro⟨_,_,h⟩;exact(show False from h)
   dsimp only [List.take_succ_cons,List.take_zero,List.drop_succ_cons,jcu];refine qt4 q98 rfl rfl rfl ?_;refine qna (v:=.int .i64 u.1) ty3 rfl rfl rfl rfl hx3 rfl ?_;refine qzn rfl rfl rfl rfl ?_;refine qfn (v:=.bool true) rfl rfl (jca Value.bool (jaj hv)) ?_;refine qfn (v:=.func (.yield l) #[] #[]) rfl rfl rfl ?_;refine qt4 zcl rfl rfl rfl ?_;refine qna (v:=.int .i64 u.2) ty3 rfl rfl rfl rfl hx3 rfl ?_;refine jdd ?_;refine qsz ?_;have hsp:S.refsL vs=S.refsL (vs.take k)++u.2::S.refsL (vs.drop (k+1)):=by
    conv=>lhs;rw[<- jcq k vs,q3p,zdu hx]
    simp[S.refsL,hv]
   refine zcq rfl rfl rfl rfl rfl (hy _ _ _ _ _ _ hsp hj3 (Upd.refl _ _) fun E=>.int _ _ (hw u (jbb hx))) ?_;rintro e w4 ⟨_,(⟨rfl,hj4⟩|⟨rfl,hk4⟩)⟩
   ·refine⟨_,rfl,q8q rfl ?lo rfl ?_⟩
    case lo=>rintro⟨_,_,h⟩;exact(show False from h)
    refine qya rfl rfl rfl ?_;refine q9x (v:=.bool false) rfl rfl rfl rfl ?_;refine jdd ?_;refine hK6 _ _ ?_;refine q67 rfl rfl ?_;refine wp_skip ?_;refine q2r ?_;refine hK4 _ _ ?_;refine qd0 ?_;refine zaf rfl rfl rfl rfl (by omega) ?_;refine qfn (v:=.int .i64 ((k:Int)+1)) rfl rfl rfl ?_;refine jdd ?_;refine qsz ?_;exact⟨k+1,by omega,⟨by omega,by rw[q5o hx,jam hv];exact hj4⟩,_,rfl,(by repeat first|exact qbg.refl _ _|refine qbg.upd rfl ?_|refine qbg.upds rfl ?_|refine qbg.mix rfl ?_),rfl,trivial⟩
   ·refine⟨_,rfl,q8q rfl ?lo rfl ?_⟩
    case lo=>rintro⟨_,_,h⟩;exact(show False from h)
    refine qya rfl rfl rfl ?_;refine q9x (v:=.bool true) rfl rfl rfl rfl ?_;refine jdd ?_;refine hK6 _ _ ?_;refine zoh rfl rfl ?_;refine wp_ret ?_;exact ret0 Try.results136 ⟨rfl,.inr hk4⟩
  ·refine qd0 ?_;refine qt4 q98 rfl rfl rfl ?_;refine qna (v:=.int .i64 u.1) ty3 rfl rfl rfl rfl hx3 rfl ?_;refine qzn rfl rfl rfl rfl ?_;refine qfn (v:=.bool false) rfl rfl (jca Value.bool (jai hv)) ?_;refine qj0 rfl ?_;refine qj0 rfl ?_;refine qj0 rfl ?_;refine qj0 rfl ?_;refine qj0 rfl ?_;refine ztt (v:=.bool false) rfl rfl rfl rfl ?_;refine jdd ?_;refine hK6 _ _ ?_;refine q67 rfl rfl ?_;refine wp_skip ?_;refine q2r ?_;refine hK4 _ _ ?_;refine qd0 ?_;refine zaf rfl rfl rfl rfl (by omega) ?_;refine qfn (v:=.int .i64 ((k:Int)+1)) rfl rfl rfl ?_;refine jdd ?_;refine qsz ?_;exact⟨k+1,by omega,⟨by omega,by rw[q5o hx,jak hv,jbk];exact hj3⟩,_,rfl,(by repeat first|exact qbg.refl _ _|refine qbg.upd rfl ?_|refine qbg.upds rfl ?_|refine qbg.mix rfl ?_),rfl,trivial⟩
 ·refine wp_exit ?_;have e:vs.take k=vs:=jds (by omega);rw[e] at hj;exact zrq Try.results136 ⟨rfl,.inl hj⟩
def q50:SmI:=⟨[.ref (.box [.dat (.list cVal)])],.int .i64,fun x=>some (S.refsL x.1.1)⟩
theorem zkh:ConI Try.prog 136 q50:=by
 refine⟨zif,rfl,fun E x us rows l hl _ hrd=>?_⟩;obtain⟨⟨vs,_⟩,_⟩:=x;cases hl;obtain⟨h1,h2⟩:=hrd;obtain⟨i,i1,i2,i3,i4⟩:=h2 0 _ rfl;have i4:OR E i (.row [.lst cVal vs]):=i4;obtain⟨cells,t,k1,k2,k3,k4⟩:=i4;have ha:=h1 (fun k=>rows.getD k 0) 0 (fun j id hj=>by show rows.getD (0+j) 0=id;rw[ja4,jal,hj];rfl);obtain⟨u,us',rfl,a1,a2⟩:=VRs.inv (v:=.ptr (rows.getD 0 0) 0) (cs:=[]) ha;obtain rfl:us'=[]:=jbp.1 a2.1.symm;have e0:rows.getD 0 0=i:=by rw[jal,i1];rfl
 rw[e0] at a1;have hu:u=.pointer (some ⟨E.ρ i,0,none⟩):=by cases a1;rfl
 subst hu;obtain⟨h0,r0,hc0⟩:∃h0 r0,cells.toList=h0::r0:=by
  cases hc:cells.toList with
  | nil=>have:=jca List.length hc;simp at this;simp [this] at k3
  | cons h r=>exact⟨h,r,rfl⟩
 have hv:VR E (.lst cVal vs) h0:=by
  have:=k4.2 0 (by simp) (by simp[hc0]);simpa [hc0] using this
 obtain⟨a,cap,rfl,hS⟩:=zts hv;have hwf:WfE (.list cVal) vs:=qmm (c:=.list cVal) hv;have hin:=jbb i1;refine fun l J K W q1 q2 q3 q4 q5=>zll (M:=E.m) (a:=a) (c:=cap) (vs:=vs) (cs0:=r0) (fun v hv=>(zc4 hwf hv).2) l J K W q1 q2 (fun s A hs=>?_) (fun pre x post A0 A u h1 h2 h3 h4=>q4 pre x post A0 A u h1 h2 h3 fun E _ _=>h4 E) q5;obtain⟨r1,r2⟩:=q3 s A hs;refine⟨⟨t,?_⟩,hS.mono r1.tr⟩;rw[r2 i hin,k1,<- hc0]
end Go.Proofs.Ytcnhjofpmpipfaa
end

section
namespace Go.Jx
open Go Go.Sx Go.RowKit
universe u

def foldN{D α:Type}(g:D->α->Option D):List α->D->Option D
 | [],d=>some d
 | x::xs,d=>match g d x with
  | none=>none
  | some d'=>foldN g xs d'
def qjz{D:Type}:Option (D × Option Code)->Option D
 | some (d,none)=>some d
 | _=>none
theorem q6b{D α:Type}(g:D->α->Option (D × Option Code)):∀(xs:List α) (d d':D),foldN (fun d x=>qjz (g d x)) xs d=some d'->foldB g xs d=some (d',none)
 | [],d,d',h=>by cases h;rfl
 | x::xs,d,d',h=>by
  simp only[foldN,foldB] at h ⊢;cases hg:g d x with
  | none=>rw[hg] at h;cases h
  | some q =>
   obtain⟨z,e⟩:=q;rw[hg] at h;cases e with
   | none=>exact q6b g xs z d' h
   | some e=>cases h
section
variable (P : Program) (tt : Nat -> Option TI)
def qp6(cfg:LpC)(c:TC)(nt lf:Nat)(clP:ClP)(pr:Nat)(assign body:Code)(d:ElP cfg.lp)(z:ElP (refs cfg.lp))(x:El c):Option (ElP (refs cfg.lp)) :=
 qar P tt cfg.nm (mP cfg.lp) nt (clP (ElP (refs cfg.lp))) lf none assign (qdb [pr] [asIV c x] (putL cfg.ls (qag cfg.lp idN 0 d) .leaf)) (Sc cfg.lp (updP cfg.lp d z)) [] fun r1=>match r1.e with
  | .normal=>match r1.ds with
   | []=>qar P tt cfg.nm (mP cfg.lp) nt (clP (ElP (refs cfg.lp))) lf none body r1.fr r1.S [] fun r2=>match r2.ds with
     | []=>match r2.e with
      | .normal=>match runQ (sQ cfg.lp) ⟨.tup [],r2.S,0,0⟩ with
       | none=>none
       | some y=>some y.2
      | _=>none
     | _=>none
   | _=>none
  | _=>none
theorem zff{cfg:LpC}{c:TC}{nt lf:Nat}{cl:Cl}{clP:ClP}(hcl:∀R,ClEq cl (clP R))(pr:Nat)(assign body:Code)(d:ElP cfg.lp)(z:ElP (refs cfg.lp))(x:El c) :
  qp6 P tt cfg c nt lf clP pr assign body d z x=qjz (qeb P tt cfg c nt lf cl pr assign body d z x):=by
 unfold qp6 qeb;rw[qd2 (hcl _)];cases qad P tt cfg.nm (mP cfg.lp) nt cl lf none assign (qdb [pr] [asIV c x] (putL cfg.ls (qag cfg.lp idN 0 d) .leaf)) (Sc cfg.lp (updP cfg.lp d z)) [] with
 | none=>rfl
 | some r1 =>
  simp only[bd];cases r1.e<;>try rfl
  simp only;cases r1.ds with
  | cons _ _=>rfl
  | nil =>
   simp only;rw[qd2 (hcl _)];cases qad P tt cfg.nm (mP cfg.lp) nt cl lf none body r1.fr r1.S [] with
   | none=>rfl
   | some r2 =>
    simp only[bd];cases r2.ds with
    | cons _ _=>rfl
    | nil =>
     simp only;cases r2.e<;>cases runQ (sQ cfg.lp) ⟨.tup [],r2.S,0,0⟩<;>rfl
def itP(s:SmI)(cfg:LpC)(lf:Nat)(cl:Cl)(vs:List IV)(S:IS):Option Res:=match vs with
 | .yield id::caps=>match rdP s.ips S caps with
  | none=>none
  | some (xi,irows,_,S1,w1)=>match S1.heap.get id with
   | some (.loop .ready none nt fr [pr] assign body D)=>match rdP cfg.lp S1 (cfg.ls.map (slot fr)) with
    | none=>none
    | some (d0,rows,subs,S2,w2)=>cond (itB S2 cfg id nt irows rows subs w2 assign body) (match fiP cfg.lp rows subs S2 d0 with
     | none=>none
     | some d=>match s.xs xi with
      | none=>none
      | some l=>match foldN (fun z x=>qjz (qeb P tt cfg s.c nt lf cl pr assign body d z x)) l (qct cfg.lp d) with
       | none=>none
       | some z=>some (qlr S2 cfg id nt fr pr D assign body irows rows subs (w1 ||| w2) (z,none))) none
   | _=>none
 | _=>none
def itPK(s:SmI)(cfg:LpC)(lf:Nat)(clP:ClP)(R:Type)(vs:List IV)(S:IS)(kk:Res->Option R):Option R:=match vs with
 | .yield id::caps=>match rdP s.ips S caps with
  | none=>none
  | some (xi,irows,_,S1,w1)=>match S1.heap.get id with
   | some (.loop .ready none nt fr [pr] assign body D)=>match rdP cfg.lp S1 (cfg.ls.map (slot fr)) with
    | none=>none
    | some (d0,rows,subs,S2,w2)=>cond (itB S2 cfg id nt irows rows subs w2 assign body) (match fiP cfg.lp rows subs S2 d0 with
     | none=>none
     | some d=>match s.xs xi with
      | none=>none
      | some l=>match foldN (qp6 P tt cfg s.c nt lf clP pr assign body d) l (qct cfg.lp d) with
       | none=>none
       | some z=>kk (qlr S2 cfg id nt fr pr D assign body irows rows subs (w1 ||| w2) (z,none))) none
   | _=>none
 | _=>none
end
section
variable {P : Program} {tt : Nat -> Option TI}
theorem zdf(s:SmI)(cfg:LpC)(lf:Nat)(cl:Cl)(clP:ClP)(hcl:∀R,ClEq cl (clP R))(R:Type)(vs:List IV)(S:IS)(kk:Res->Option R):itPK P tt s cfg lf clP R vs S kk=ob (itP P tt s cfg lf cl vs S) kk:=by
 unfold itPK itP;cases vs with
 | nil=>rfl
 | cons v caps =>
 cases v<;>try rfl
 rename_i id;simp only;cases rdP s.ips S caps with
 | none=>rfl
 | some a =>
 obtain⟨xi,irows,_,S1,w1⟩:=a;simp only;cases S1.heap.get id with
 | none=>rfl
 | some o =>
 cases o<;>try rfl
 rename_i st pe nt fr ps assign body D;cases st<;>try rfl
 cases pe<;>try rfl
 cases ps with
 | nil=>rfl
 | cons pr ps =>
 cases ps with
 | cons _ _=>rfl
 | nil =>
 simp only;cases rdP cfg.lp S1 (cfg.ls.map (slot fr)) with
 | none=>rfl
 | some b =>
 obtain⟨d0,rows,subs,S2,w2⟩:=b;simp only[qa6];cases fiP cfg.lp rows subs S2 d0 with
 | none=>rfl
 | some d =>
 simp only;cases s.xs xi with
 | none=>rfl
 | some l =>
 have e:qp6 P tt cfg s.c nt lf clP pr assign body d=fun z x=>qjz (qeb P tt cfg s.c nt lf cl pr assign body d z x):=by
  funext z x;exact zff P tt hcl pr assign body d z x
 simp only[e];cases foldN (fun z x=>qjz (qeb P tt cfg s.c nt lf cl pr assign body d z x)) l (qct cfg.lp d)<;>rfl
theorem qu0{s:SmI}{cfg:LpC}{lf:Nat}{cl:Cl}{vs:List IV}{S:IS}{r:Res}(h:itP P tt s cfg lf cl vs S=some r):itF P tt s cfg lf cl vs S=some r:=by
 unfold itP at h;unfold itF;split at h<;>try cases h
 try simp only
 split at h
 ·cases h
 rename_i h1;try rw[h1]
 try simp only
 split at h<;>try cases h
 rename_i h2;try rw[h2]
 try simp only
 split at h
 ·cases h
 rename_i h3;try rw[h3]
 try simp only
 cases hb:itB _ cfg _ _ _ _ _ _ _ _ with
 | false=>rw[hb] at h;cases h
 | true =>
 rw[hb] at h;simp only[jaa] at h ⊢;split at h
 ·cases h
 rename_i h4;try rw[h4]
 try simp only
 split at h
 ·cases h
 rename_i h5;try rw[h5]
 try simp only
 split at h<;>cases h;rename_i h6;rw[q6b _ _ _ _ h6]
def itPx(P:Program)(tt:Nat->Option TI)(s:SmI)(cfg:LpC)(lf:Nat):Hx:=⟨itP P tt s cfg lf,fun clP R vs S kk=>itPK P tt s cfg lf clP R vs S kk,fun cl clP hcl R vs S kk=>zdf s cfg lf cl clP hcl R vs S kk⟩
theorem zid(hm:P.follows .mixedOrders=true)(htt:TT P tt){f:Nat}{s:SmI}(cfg:LpC)(lf:Nat)(hc:ConI P f s):HxOK P f (itPx P tt s cfg lf).f :=
 .of (fun cl h1 h2 _ vs S r h T E us p hr hw hv=>zbm hm htt hc h1 h2 (qu0 h) p hr hw hv) (fun cl _ vs S r h=>zim r (qu0 h)) (fun cl _ vs S r h hw _=>(zhv (qu0 h) hw).elim)
def zkx:Nat->Option Nm:=fun k=>cond (Nat.beq k 999999) (some ⟨[],[],[],[],[],0,0,false⟩) none
end
end Go.Jx
end

noncomputable section
set_option maxRecDepth 100000
namespace Go.Proofs.Ytcnhjofpmpipfaa
open Go Go.Sx Go.RowKit Go.Jx
def nmz7:Nat->Option Nm:=fun k=>cond (Nat.beq k 999999) (some ⟨[],[],[],[],[],0,0,false⟩) none
def stz7:Nat->Bool:=fun k=>false
def hdz7:=stz7
abbrev Rtz7:Type:=(Unit) × ((List (Int × Int)) × Unit) × ((List Int) × Unit) × Unit
def qtw:List (Nat × Sm):=[]
def qwd:List (Nat × Hx):=[(136,itPx Try.prog ttT.get q50 ⟨[1,2],[.ref (.box [.map (.int .i64) (.int .i64)]),.ref (.box [.arr (.int .i64)])],zkx⟩ 0)]
def clz7(R:Type)(lf:Nat):ClK R:=qau Try.prog ttT.get ftT.get (fun _ _=>none) (smL qtw) (hxL qwd) lf 20 R
abbrev idz7:Nat:=100
def qsv(lf:Nat)(x1:(List DVal))(x2:(List (Int × Int)))(x3:(List Int)):Option Rtz7:=(match (foldN (fun v0 v1=>(cond (Bool.not (match (@qb6 (TC.int .i64) (TC.int .i64) v1 v0.1.1) with|.none  => false|some v2=>true)) (cond (Nat.ble (Nat.mul (Nat.add v0.2.1.1.length 1) 8) 140737488355328) (some (((@mset (TC.int .i64) (TC.int .i64) v1 (Int.ofNat v0.2.1.1.length) v0.1.1),()),(((List.append v0.2.1.1 [v1]),()),()))) none) (some ((v0.1.1,()),((v0.2.1.1,()),()))))) (S.refsL x1) ((x2,()),((x3,()),()))) with|none=>none|some v3=>(some ((),((v3.1.1,()),((v3.2.1.1,()),())))))
abbrev gz7:Type:=ElP [.dat (.list cVal),.ref (.box [.map (.int .i64) (.int .i64)]),.ref (.box [.arr (.int .i64)])]->Option Rtz7
abbrev sz7(g:gz7):SmR:=⟨[.dat (.list cVal),.ref (.box [.map (.int .i64) (.int .i64)]),.ref (.box [.arr (.int .i64)])],[],g⟩
abbrev Ez7(g:gz7)(J:JT Rtz7)(lf:Nat)(x1:(List DVal))(x2:(List (Int × Int)))(x3:(List Int)):=qbm Try.prog ttT.get nmz7 (mP [.dat (.list cVal),.ref (.box [.map (.int .i64) (.int .i64)]),.ref (.box [.arr (.int .i64)])]) qfd.nt (clz7 _ lf) lf stz7 J qfd.body [] (qaq (qag [.dat (.list cVal),.ref (.box [.map (.int .i64) (.int .i64)]),.ref (.box [.arr (.int .i64)])] idN 0 (x1,(x2,()),(x3,()),())) 0 .leaf) (Sc [.dat (.list cVal),.ref (.box [.map (.int .i64) (.int .i64)]),.ref (.box [.arr (.int .i64)])] (x1,(x2,()),(x3,()),())) [] (qce ttT.get qfd (sz7 g))
theorem inz7(g:gz7)(J:JT Rtz7)(lf:Nat)(x1:(List DVal))(x2:(List (Int × Int)))(x3:(List Int)):Ez7 g J lf x1 x2 x3=qsv lf x1 x2 x3:=by kernel_rfl
theorem ndz7:(regs qfd.body).Nodup:=by decide +kernel
theorem okz7:okC nmz7 stz7 hdz7 qfd.body none=true:=by kernel_rfl
def Az7(g:gz7)(lf:Nat):JT Rtz7:=atQ Try.prog ttT.get nmz7 qfd (sz7 g) (clz7 _ lf) lf hdz7
def Fz7(lf:Nat)(x1:(List DVal))(x2:(List (Int × Int)))(x3:(List Int)):Option Rtz7:=qsv lf x1 x2 x3
theorem ziw(g:gz7)(lf:Nat)(x1:(List DVal))(x2:(List (Int × Int)))(x3:(List Int)):Ez7 g (Az7 g lf) lf x1 x2 x3=Fz7 lf x1 x2 x3:=by
  refine(inz7 g (Az7 g lf) lf x1 x2 x3).trans ?_;rfl
theorem zig:qa2 Try.prog qwd:=⟨zid qcq ttOK _ 0 zkh,trivial⟩
theorem mkz7{g:gz7}(hsm:SmOK Try.prog qtw)(hg:∀(x:ElP [.dat (.list cVal),.ref (.box [.map (.int .i64) (.int .i64)]),.ref (.box [.arr (.int .i64)])]) (y:Rtz7),WfP [.dat (.list cVal),.ref (.box [.map (.int .i64) (.int .i64)]),.ref (.box [.arr (.int .i64)])] x->g x=some y->∃lf,Fz7 lf x.1 x.2.1.1 x.2.2.1.1=some y):ConR Try.prog 100 ⟨[.dat (.list cVal),.ref (.box [.map (.int .i64) (.int .i64)]),.ref (.box [.arr (.int .i64)])],[],g⟩ :=
 conTR (nmf:=nmz7) (sml:=qtw) (hxl:=qwd) (st:=stz7) (hd:=hdz7) 20 qcq ttOK ftOK hsm zig zq8 (by kernel_rfl) (fun x=>by kernel_rfl) ndz7 okz7 fun x y z hx hy=>by
  obtain⟨lf,h⟩:=hg x (y,z) hx hy;exact⟨lf,(ziw g lf x.1 x.2.1.1 x.2.2.1.1).trans h⟩
abbrev qny:Type:=(List DVal) × Unit
abbrev ziu:Nat:=74
def qz5(lf:Nat)(x1:(List DVal)):Option qny:=(match x1 with|.nil  => none|.cons v0 v1=>(cond (Nat.ble (Nat.mul (Nat.add 0 x1.length) 16) 140737488355328) (some (x1,())) none))
def qsg(lf:Nat)(x1:(List DVal)):Option qny:=qz5 lf x1
theorem zfg{g:ElA [(.list cVal)]->Option qny}(hsm:SmOK Try.prog [])(hg:∀(x:ElA [(.list cVal)]) (y:qny),WfA [(.list cVal)] x->g x=some y->∃lf,qsg lf x.1=some y):Con Try.prog 74 ⟨[(.list cVal)],[(true,cVal)],g⟩ :=
 conU (fi:=fi74) (hxl:=[]) (fun lf x=>qsg lf x.1) cm3 q0l trivial hsm hg
def q3n:Sm:=⟨[.list cVal],[(true,cVal)],fun x=>some (x.1,())⟩
theorem zgf{M:List Nat}{w:World}{a:Option Addr}{cap:Nat}(hM:Lo M w)(hc:cap<9223372036854775808):Calls Try.prog 74 #[.slice a 0 cap] w (Ret fun v w'=>∃a' c' m',v=.slice a' 0 c'/\Go.Sx.Own m' M w' a' c' ([]:List (NoD 2))/\Evo [] w m' w'):=by
 have hS:SL M w a cap ([]:List (NoD 2)):=⟨⟨jbn _,hc⟩,.inl rfl⟩;refine enter (l:=[.slice a 0 cap]) Try.func74 rfl Try.ntmps74 rfl ?_;refine qdz fun KhK1 hK1=>?_;refine qd0 ?_;refine qw4 (v:=.slice none 0 0) rfl rfl rfl ?_;refine jdd ?_;refine hK1 _ _ ?_;refine qdz fun KhK2 hK2=>?_;refine qdz fun KhK3 hK3=>?_;refine qd0 ?_;refine qfn (v:=.slice a 0 cap) rfl rfl rfl ?_;refine zoi ty24 rfl rfl rfl rfl ?_;refine jdd ?_;refine hK3 _ _ ?_;refine ztf rfl rfl (fun hb4=>?_) (fun hb4=>?_)
 ·refine qdz fun KhK5 hK5=>?_;refine qd0 ?_;refine qw4 (v:=.slice none 0 0) rfl rfl rfl ?_;refine jdd ?_;refine hK5 _ _ ?_;refine wp_ret ?_;exact ret1 Try.results74 rfl ⟨none,0,[],rfl,Go.Sx.Own.nil,Evo.refl [] w⟩
 ·refine wp_skip ?_;refine hK2 _ _ ?_;refine qdz fun KhK7 hK7=>?_;refine qd0 ?_;refine zez (α:=NoD 2) (m:=[]) (M:=M) ty24 ty51 rfl (hM.mono (Evo.refl [] w).size) fun β14 w15 hβ16 u17 hz18 ho19=>?_;have e20:=u17.evoN (m:=[]) hβ16 hz18;refine qfn (v:=.slice a 0 cap) rfl rfl rfl ?_;refine zpx ty24 ty24 ty51 rfl rfl rfl rfl rfl rfl rfl ho19 (hS.mono (e20.tr M)) (hM.mono e20.size) (by simp) fun a22 c23 w24 m25 ho26 e27 u28 hbk29 hsub30=>?_;refine qw4 (v:=.slice a22 (([]:List (NoD 2))++[]).length c23) rfl rfl rfl ?_;refine jdd ?_;refine hK7 _ _ ?_;refine wp_ret ?_;exact ret1 Try.results74 rfl ⟨a22,c23,m25,rfl,ho26,e20.trans e27⟩
theorem zhx:Con Try.prog 74 ⟨[.list cVal],[(true,cVal)],fun x=>match x.1 with|[]=>none|v::l=>some (x.1,())⟩:=zfg trivial fun x y hx h=>⟨0,by
 obtain⟨l,_⟩:=x;have hl:=qbu hx.1;have hb:=hx.1.1;cases l with
 | nil=>cases h
 | cons v l =>
  cases h;simp only[qsg,qz5];exact jee (jca (fun b=>cond b (some (v::l,())) none) (jb7 (jbg (jdm (jca (fun z=>Nat.mul z 16) (ja4 _))) hb))) rfl⟩
theorem zl7:Con Try.prog ziu q3n:=by
 refine⟨q0l,fun M w x us y hy hM hg hv=>?_⟩;obtain⟨l,_⟩:=x;cases l with
 | cons v l=>exact zhx.calls M w (v::l,()) us y hy hM hg hv
 | nil =>
  cases hy;obtain⟨u,us2,rfl,h1,h2⟩:=hv.inv;obtain rfl:us2=[]:=jbp.1 h2.1.symm;obtain⟨a,cap,rfl,hc⟩:=zlq h1;refine jc6.2 ((zgf (M:=M) hM hc).mono fun e w' hR=>?_);exact ze2 rfl (fun e=>by cases e) hM hR
def nmz8:Nat->Option Nm:=fun k=>cond (Nat.beq k 3) (some ⟨[1,4,9,10,11],[(4,cVal)],[],[],[],0,0,false⟩) (cond (Nat.beq k 999999) (some ⟨[],[],[],[],[],0,0,false⟩) none)
def stz8:Nat->Bool:=fun k=>cond (Nat.beq k 3) true (false)
def hdz8:=stz8
abbrev Rtz8:Type:=((List DVal) × Unit) × ((List (Int × Int)) × Unit) × Unit
def qxl:List (Nat × Sm):=[(74,q3n)]
def qt3:List (Nat × Hx):=[]
def clz8(R:Type)(lf:Nat):ClK R:=qau Try.prog ttT.get ftT.get (fun _ _=>none) (smL qxl) (hxL qt3) lf 20 R
abbrev idz8:Nat:=102
def qh8(x1:(List DVal))(x2:(List (Int × Int)))(p:Int × (List DVal)):NRes:=(NRes.mk (.node none (.node (some (IV.ptr 0 0)) (.node none .leaf (.node (some (IV.int .i64 p.1)) .leaf .leaf)) (.node none (.node (some (IV.arr 1)) .leaf .leaf) .leaf)) (.node none (.node (some (IV.arr 1)) .leaf .leaf) (.node none (.node (some (IV.int .i64 (Int.ofNat x1.length))) .leaf .leaf) .leaf))) (IS.mk (.node (some (IObj.row [(IV.map 2)])) (.node (some (IObj.arr cVal p.2)) .leaf .leaf) (.node (some (IObj.tmap (TC.int .i64) (TC.int .i64) x2)) .leaf .leaf)) 3) [] 0)
def qwk(lf:Nat)(x1:(List DVal))(x2:(List (Int × Int)))(L3:(Int × (List DVal))->Option Rtz8):Option Rtz8:=(L3 ((Int.ofNat 0),x1))
def qr6(lf:Nat)(x1:(List DVal))(x2:(List (Int × Int)))(L3:(Int × (List DVal))->Option Rtz8)(p:Int × (List DVal)):Option Rtz8:=(cond (iltI p.1 (Int.ofNat x1.length)) (match (jget p.2 p.1) with|none=>none|some v0=>(match (GetElem?.getElem? p.2 (Int.toNat p.1)) with|none=>none|some v1=>(cond (ieqI v1.1 (Int.ofNat 4)) (match (jget p.2 p.1) with|none=>none|some v2=>(match (GetElem?.getElem? p.2 (Int.toNat p.1)) with|none=>none|some v3=>(L3 ((IntKind.i64.wrap (Int.add p.1 (Int.ofNat 1))),(List.set p.2 (Int.toNat p.1) (v3.1,(match (@qb6 (TC.int .i64) (TC.int .i64) v1.2 x2) with|.none  => (Int.ofNat 0)|some v33=>v33))))))) (L3 ((IntKind.i64.wrap (Int.add p.1 (Int.ofNat 1))),p.2))))) (some ((p.2,()),((x2,()),()))))
abbrev gz8:Type:=ElP [.dat (.list cVal),.ref (.box [.map (.int .i64) (.int .i64)])]->Option Rtz8
abbrev sz8(g:gz8):SmR:=⟨[.dat (.list cVal),.ref (.box [.map (.int .i64) (.int .i64)])],[(true,cVal)],g⟩
abbrev Ez8(g:gz8)(J:JT Rtz8)(lf:Nat)(x1:(List DVal))(x2:(List (Int × Int))):=qbm Try.prog ttT.get nmz8 (mP [.dat (.list cVal),.ref (.box [.map (.int .i64) (.int .i64)])]) qdq.nt (clz8 _ lf) lf stz8 J qdq.body [] (qaq (qag [.dat (.list cVal),.ref (.box [.map (.int .i64) (.int .i64)])] idN 0 (x1,(x2,()),())) 0 .leaf) (Sc [.dat (.list cVal),.ref (.box [.map (.int .i64) (.int .i64)])] (x1,(x2,()),())) [] (qce ttT.get qdq (sz8 g))
abbrev Bz8(g:gz8)(J:JT Rtz8)(lf k:Nat)(ms:List Nat)(q:NRes):=qba Try.prog ttT.get nmz8 (mP [.dat (.list cVal),.ref (.box [.map (.int .i64) (.int .i64)])]) qdq.nt (clz8 _ lf) lf stz8 J k qdq.body [] ms q (qce ttT.get qdq (sz8 g))
theorem inz8(g:gz8)(J:JT Rtz8)(lf:Nat)(x1:(List DVal))(x2:(List (Int × Int))):Ez8 g J lf x1 x2=qwk lf x1 x2 (fun q=>J 3 [lf] (qh8 x1 x2 q)):=by kernel_rfl
theorem zcv(g:gz8)(J:JT Rtz8)(lf:Nat)(x1:(List DVal))(x2:(List (Int × Int)))(m1:Nat)(p:Int × (List DVal)):Bz8 g J lf 3 [m1] (qh8 x1 x2 p)=qr6 lf x1 x2 (fun q=>J 3 [m1] (qh8 x1 x2 q)) p:=by kernel_rfl
theorem ndz8:(regs qdq.body).Nodup:=by decide +kernel
theorem okz8:okC nmz8 stz8 hdz8 qdq.body none=true:=by kernel_rfl
def Az8(g:gz8)(lf:Nat):JT Rtz8:=atQ Try.prog ttT.get nmz8 qdq (sz8 g) (clz8 _ lf) lf hdz8
def qrw(lf:Nat)(x1:(List DVal))(x2:(List (Int × Int))):Nat->(Int × (List DVal))->Option Rtz8:=rounds fun K p=>qr6 lf x1 x2 K p
theorem q7q(g:gz8)(lf:Nat)(x1:(List DVal))(x2:(List (Int × Int))):∀(n:Nat) (p:Int × (List DVal)),Az8 g lf 3 [n] (qh8 x1 x2 p)=qrw lf x1 x2 n p
 | 0,p=>quf 3 [0] rfl _
 | n+1,p=>by
  have ih:=q7q g lf x1 x2 n;refine(qso rfl (qam 20 _) ndz8 okz8 3 [n+1] [n] rfl _).trans ((zcv g (Az8 g lf) lf x1 x2 n p).trans ?_);rw[(show (fun q=>Az8 g lf 3 [n] (qh8 x1 x2 q))=(fun q=>qrw lf x1 x2 n q) from funext ih)];rfl
def Fz8(lf:Nat)(x1:(List DVal))(x2:(List (Int × Int))):Option Rtz8:=qwk lf x1 x2 (fun q=>qrw lf x1 x2 lf q)
theorem zmr(g:gz8)(lf:Nat)(x1:(List DVal))(x2:(List (Int × Int))):Ez8 g (Az8 g lf) lf x1 x2=Fz8 lf x1 x2:=by
  refine(inz8 g (Az8 g lf) lf x1 x2).trans ?_;rw[(show (fun q=>Az8 g lf 3 [lf] (qh8 x1 x2 q))=(fun q=>qrw lf x1 x2 lf q) from funext fun q=>q7q g lf x1 x2 lf q)];rfl
theorem zf2:qa2 Try.prog qt3:=trivial
theorem mkz8{g:gz8}(hsm:SmOK Try.prog qxl)(hg:∀(x:ElP [.dat (.list cVal),.ref (.box [.map (.int .i64) (.int .i64)])]) (y:Rtz8),WfP [.dat (.list cVal),.ref (.box [.map (.int .i64) (.int .i64)])] x->g x=some y->∃lf,Fz8 lf x.1 x.2.1.1=some y):ConR Try.prog 102 ⟨[.dat (.list cVal),.ref (.box [.map (.int .i64) (.int .i64)])],[(true,cVal)],g⟩ :=
 conTR (nmf:=nmz8) (sml:=qxl) (hxl:=qt3) (st:=stz8) (hd:=hdz8) 20 qcq ttOK ftOK hsm zf2 znh (by kernel_rfl) (fun x=>by kernel_rfl) ndz8 okz8 fun x y z hx hy=>by
  obtain⟨lf,h⟩:=hg x (y,z) hx hy;exact⟨lf,(zmr g lf x.1 x.2.1.1).trans h⟩
def S.numAt(es:List (Int × Int))(k:Int):Option Int:=@qb6 (.int .i64) (.int .i64) k es
def S.movedV(es:List (Int × Int))(v:DVal):DVal:=if (v:Int × Int).1=4 then ((v:Int × Int).1,(S.numAt es (v:Int × Int).2).getD 0) else v
def S.movedL(es:List (Int × Int))(l:List DVal):List DVal:=l.map (S.movedV es)
def spz8:SmR:=⟨[.dat (.list cVal),.ref (.box [.map (.int .i64) (.int .i64)])],[(true,cVal)],fun x=>some ((S.movedL x.2.1.1 x.1,()),((x.2.1.1,()),()))⟩
theorem zjv(l:List DVal)(es:List (Int × Int))(hl:l.length<LF):Fz8 LF l es=some ((S.movedL es l,()),((es,()),())):=by
 simp only[Fz8,qwk];refine range0 (α:=DVal) (σ:=List DVal) (R:=Rtz8) l (fun i s=>(i,s)) (fun i s=>s=(l.take i).map (S.movedV es)++l.drop i) (fun _ _ _=>some ((S.movedL es l,()),((es,()),()))) hl (fun K s hs=>?_) (fun K i v rest s hs r hk=>?_) l rfl
 ·simp only[qr6,qbd,jae];rw[hs,List.take_length,jd3,jbk];rfl
 ·have hlen:((l.take i).map (S.movedV es)).length=i:=by rw[jbx,jem];have:=r.lt;omega
  have hs2:s=(l.take i).map (S.movedV es)++v::rest:=by rw[hs,r.drop]
  have hg:s[i]?=some v:=by rw[hs2,jau (by omega),hlen,jey];rfl
  have hj:jget s (Int.ofNat i)=some v:=by rw[qcz];exact hg
  have hset:∀v',v'=S.movedV es v->(s.set i v')=(l.take (i+1)).map (S.movedV es)++l.drop (i+1):=fun v' hv=>by
   rw[hs2,List.set_append_right _ _ (by omega),hlen,jey,r.tail,r.take,jec,List.set_cons_zero,hv];simp
  have hsame:S.movedV es v=v->s=(l.take (i+1)).map (S.movedV es)++l.drop (i+1):=fun hv=>by
   rw[hs2,r.tail,r.take,jec];simp[hv]
  have e2:Int.toNat (Int.ofNat i)=i:=rfl;simp only[qr6,r.ilt,jaa,hj,e2,hg,r.next];by_cases h4:(v:Int × Int).1=4
  ·have h5:ieqI (v:Int × Int).1 (Int.ofNat 4)=true:=by rw[qat];exact jaj h4
   simp only[h5,jaa];refine hk _ (hset _ ?_);unfold S.movedV;rw[jam h4];congr 1;show _=(S.numAt es (v:Int × Int).2).getD 0;unfold S.numAt;cases @qb6 (.int .i64) (.int .i64) (v:Int × Int).2 es<;>rfl
  ·have h5:ieqI (v:Int × Int).1 (Int.ofNat 4)=false:=by rw[qat];exact jai h4
   simp only[h5,jae];exact hk _ (hsame (by unfold S.movedV;rw[jak h4]))
theorem zut:ConR Try.prog idz8 spz8:=mkz8 ⟨zl7,trivial⟩ fun x y hx h=>⟨LF,by
 obtain⟨l,⟨es,_⟩,_⟩:=x;have hl:List.length (α:=DVal) l<LF:=qbu hx.1;exact(zjv l es hl).trans h⟩
def S.numSet(es:List (Int × Int))(k v:Int):List (Int × Int):=@mset (.int .i64) (.int .i64) k v es
def S.meetN:List Int->List (Int × Int)->List Int->Option (List (Int × Int) × List Int)
 | [],es,o=>some (es,o)
 | n::l,es,o=>cond (S.numAt es n).isSome (S.meetN l es o) (cond (Nat.ble ((o.length+1)*8) 140737488355328) (S.meetN l (S.numSet es n (Int.ofNat o.length)) (o++[n])) none)
def spz7:SmR:=⟨[.dat (.list cVal),.ref (.box [.map (.int .i64) (.int .i64)]),.ref (.box [.arr (.int .i64)])],[],fun x=>match S.meetN (S.refsL x.1) x.2.1.1 x.2.2.1.1 with
 | none=>none
 | some q=>some ((),((q.1,()),((q.2,()),())))⟩
theorem q37:∀(l:List Int) (es:List (Int × Int)) (o:List Int),
  foldN (D:=((List (Int × Int)) × Unit) × ((List Int) × Unit) × Unit) (fun v0 v1=>(cond (Bool.not (match (@qb6 (TC.int Go.IntKind.i64) (TC.int Go.IntKind.i64) v1 v0.1.1) with|.none  => false|some v2=>true)) (cond (Nat.ble (Nat.mul (Nat.add v0.2.1.1.length 1) 8) 140737488355328) (some (((@mset (TC.int Go.IntKind.i64) (TC.int Go.IntKind.i64) v1 (Int.ofNat v0.2.1.1.length) v0.1.1),()),(((List.append v0.2.1.1 [v1]),()),()))) none) (some ((v0.1.1,()),((v0.2.1.1,()),()))))) l ((es,()),((o,()),()))
   = match S.meetN l es o with
    | none=>none
    | some q=>some ((q.1,()),((q.2,()),()))
 | [],es,o=>rfl
 | n::l,es,o=>by
  have ih:=q37 l;simp only[foldN,S.meetN,S.numAt];cases hf:@qb6 (TC.int Go.IntKind.i64) (TC.int Go.IntKind.i64) n es with
  | some v =>
   simp only[hf,jbf,jae,Option.isSome_some,jaa];exact ih es o
  | none =>
   simp only[hf,ja7,jaa,jex,jae];cases hb:Nat.ble ((o.length+1)*8) 140737488355328 with
   | false =>
    have hb2:Nat.ble (Nat.mul (Nat.add o.length 1) 8) 140737488355328=false:=hb;simp only[hb2,jae];all_goals rfl
   | true =>
    have hb2:Nat.ble (Nat.mul (Nat.add o.length 1) 8) 140737488355328=true:=hb;simp only[hb2,jaa];exact ih _ _
theorem znr:ConR Try.prog idz7 spz7:=mkz7 trivial fun x y hx h=>⟨0,by
 obtain⟨l,⟨es,_⟩,⟨o,_⟩,_⟩:=x
 have h:(match S.meetN (S.refsL l) es o with
  | none=>none
  | some q=>some ((),((q.1,()),((q.2,()),()))))=some y:=h
 simp only[Fz7,qsv];have e:=q37 (S.refsL l) es o;cases hm:S.meetN (S.refsL l) es o with
 | none=>rw[hm] at h;cases h
 | some q =>
  rw[hm] at h e;refine jee ?_ h;exact jca (fun a:Option (((List (Int × Int)) × Unit) × ((List Int) × Unit) × Unit)=>(match a with|none=>none|some v3=>some ((),((v3.1.1,()),((v3.2.1.1,()),()))):Option Rtz7)) e⟩
end Go.Proofs.Ytcnhjofpmpipfaa
end
