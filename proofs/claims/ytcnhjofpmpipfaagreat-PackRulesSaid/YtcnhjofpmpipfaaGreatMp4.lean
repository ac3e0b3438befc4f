/- Texts: Jvs, Jhx, Jra, Qsp, Qg1, Qp1, Qg2, Jca, Jcb, Jcc, Jcd, Jce, Jcf, Jcl, Qcl, Qp2, Qp3, Qnm, Rsp, Rg1, Rgb, Rp1, Rp2, Rg2, Rp3, Rp4, Rsp2, Rg3, Rp5, Rsp3, Qsp2, Qsp3, Rsr, Rsq, Lsp, Lsr, Lgp, Lg1, Lp1, Rgk. -/
import Derived.Test.YtcnhjofpmpipfaaGreatMp3
import Derived.Test.YtcnhjofpmpipfaaGreatMp1
import Derived.Laws.RangeAny
set_option linter.unusedVariables false
section
namespace Go.Jx
open Go Go.Sx Go.RowKit
universe u

section
variable {P : Program} {tt : Nat -> Option TI} {nm : Nat -> Option Nm} {B nt lf : Nat} {round : Option Nat} {cl cl' : Cl}
def ClLe(cl cl':Cl):Prop:=∀t vs S r,cl t vs S=some r->cl' t vs S=some r
theorem qv6(h:ClLe cl cl'){fr:PT IV}{S:IS}{o:Oper}{r:Res}(hr:qbl P tt nt cl fr S o=some r):qbl P tt nt cl' fr S o=some r:=by
 obtain⟨dst,op,ty,pos,aft,g⟩:=o;cases op<;>try exact hr
 rename_i c;obtain⟨callee,args,ts⟩:=c;cases callee<;>try exact hr
 rename_i x;simp only[qbl,oget] at hr ⊢;generalize evo nt fr x=e1 at hr ⊢;cases e1 with
 | none=>cases hr
 | some v =>
  simp only at hr ⊢;generalize evL nt fr args.toList=e2 at hr ⊢;cases e2 with
  | none=>cases hr
  | some vs =>
   cases v<;>simp only at hr ⊢<;>first|(cases hr;done)|exact h _ _ _ _ hr
theorem qud(h:ClLe cl cl'){ops:List Oper}:∀{l:List Oper} {fr:PT IV} {S:IS} {q:FRes},iseq P tt nt cl ops l fr S=some q->iseq P tt nt cl' ops l fr S=some q
 | [],fr,S,q,hq=>hq
 | o::l,fr,S,q,hq=>by
  unfold iseq at hq ⊢;cases hgk:gOK ops fr o.guard with
  | false=>rw[hgk] at hq;cases hq
  | true =>
  rw[hgk,jab] at hq;rw[jab];cases hw:qbv ops nt fr o.guard with
  | true =>
   rw[hw,jab] at hq;rw[jab];cases hs:qbl P tt nt cl fr S o with
   | none=>rw[hs] at hq;cases hq
   | some r =>
    rw[hs] at hq;rw[qv6 h hs];simp only at hq ⊢;cases hpn:qbi r.v with
    | some p=>rw[hpn] at hq;exact hq
    | none =>
    rw[hpn] at hq;simp only at hq ⊢;cases hn:iseq P tt nt cl ops l (putD o.dst r.v fr) r.S with
    | none=>rw[hn] at hq;cases hq
    | some q2=>rw[hn] at hq;rw[qud h hn];exact hq
  | false =>
   rw[hw,jae] at hq;rw[jae];exact qud h hq
theorem qk9(h:ClLe cl cl'){ops:List Oper}{bs:List Nat}:∀{l:List Oper} {k:Nat} {pn:Option (Nat × IV)} {fr:PT IV} {S:IS} {q:Recs},qa8 P tt nt cl ops bs l k pn fr S=some q->qa8 P tt nt cl' ops bs l k pn fr S=some q
 | [],k,pn,fr,S,q,hq=>hq
 | o::l,k,pn,fr,S,q,hq=>by
  unfold qa8 at hq ⊢;cases hsk:qdt bs k pn with
  | true =>
   rw[hsk,jab] at hq;rw[jab];cases hn:qa8 P tt nt cl ops bs l (k+1) pn (putD o.dst .unk fr) S with
   | none=>rw[hn] at hq;cases hq
   | some q2=>rw[hn] at hq;rw[qk9 h hn];exact hq
  | false =>
  rw[hsk,jae] at hq;rw[jae];cases hgk:gOK ops fr o.guard with
  | false=>rw[hgk] at hq;cases hq
  | true =>
  rw[hgk,jab] at hq;rw[jab];cases hw:qbv ops nt fr o.guard with
  | true =>
   rw[hw,jab] at hq;rw[jab];cases hs:qbl P tt nt cl fr S o with
   | none=>rw[hs] at hq;cases hq
   | some r =>
    rw[hs] at hq;rw[qv6 h hs];simp only at hq ⊢;cases hpn:qbi r.v with
    | some p =>
     rw[hpn] at hq;cases pn with
     | some x=>cases hq
     | none =>
     simp only at hq ⊢;cases hf:qb0 p with
     | false=>rw[hf] at hq;cases hq
     | true =>
     rw[hf,jab] at hq;rw[jab];cases hn:qa8 P tt nt cl ops bs l (k+1) (some (k,p)) (putD o.dst .unk fr) r.S with
     | none=>rw[hn] at hq;cases hq
     | some q2=>rw[hn] at hq;rw[qk9 h hn];exact hq
    | none =>
    rw[hpn] at hq;simp only at hq ⊢;cases hn:qa8 P tt nt cl ops bs l (k+1) pn (putD o.dst r.v fr) r.S with
    | none=>rw[hn] at hq;cases hq
    | some q2=>rw[hn] at hq;rw[qk9 h hn];exact hq
  | false =>
   rw[hw,jae] at hq;rw[jae];cases hn:qa8 P tt nt cl ops bs l (k+1) pn (putD o.dst (.tup []) fr) S with
   | none=>rw[hn] at hq;cases hq
   | some q2=>rw[hn] at hq;rw[qk9 h hn];exact hq
theorem zkp(h:ClLe cl cl'){ops:List Oper}{fr:PT IV}{S:IS}{q:FRes}(hq:iany P tt nt cl ops fr S=some q):iany P tt nt cl' ops fr S=some q:=by
 unfold iany at hq ⊢;cases hn:qa8 P tt nt cl ops (befs ops []) ops 0 none fr S with
 | none=>rw[hn] at hq;cases hq
 | some q2=>rw[hn] at hq;rw[qk9 h hn];exact hq
theorem qwg(h:ClLe cl cl'){f:Nat}{caps:List IV}{S:IS}{id:Nat}{fr:PT IV}{ds:List Nat}{rd:Nat}{q:CRes}(hq:ifin cl f caps S id fr ds rd=some q):ifin cl' f caps S id fr ds rd=some q:=by
 unfold ifin at hq ⊢;cases hn:cl (.fn f) (.yield id::caps) S with
 | none=>rw[hn] at hq;cases hq
 | some r=>rw[hn] at hq;rw[h _ _ _ _ hn];exact hq
theorem qr6(h:ClLe cl cl'):∀(c:Code) {fr:PT IV} {S:IS} {ds:List Nat} {q:CRes},qae P tt nm B nt cl lf round c fr S ds=some q->qae P tt nm B nt cl' lf round c fr S ds=some q:=by
 intro c;induction c with
 | skip=>intro fr S ds q hq;exact hq
 | label l=>intro fr S ds q hq;exact hq
 | exit id=>intro fr S ds q hq;exact hq
 | goto l=>intro fr S ds q hq;exact hq
 | ret=>intro fr S ds q hq;exact hq
 | refuse _=>intro fr S ds q hq;exact hq
 | region id ops draw =>
  intro fr S ds q hq;simp only[qae] at hq ⊢;cases hx:qbz nt (nm id) B fr S ds with
  | none=>rw[hx] at hq;cases hq
  | some x =>
   rw[hx] at hq;simp only at hq ⊢;cases draw with
   | true =>
    simp only[jab] at hq ⊢;cases hn:iany P tt nt cl ops.toList x.fr x.S with
    | none=>rw[hn] at hq;cases hq
    | some r=>rw[hn] at hq;rw[zkp h hn];exact hq
   | false =>
    simp only[jae] at hq ⊢;cases hn:iseq P tt nt cl ops.toList ops.toList x.fr x.S with
    | none=>rw[hn] at hq;cases hq
    | some r=>rw[hn] at hq;rw[qud h hn];exact hq
 | seq x y ihx ihy =>
  intro fr S ds q hq;simp only[qae] at hq ⊢;cases hn:qae P tt nm B nt cl lf round x fr S ds with
  | none=>rw[hn] at hq;cases hq
  | some r =>
   rw[hn] at hq;rw[ihx hn];simp only at hq ⊢;cases he:r.e<;>rw[he] at hq<;>simp only at hq ⊢<;>try exact hq
   cases hn2:qae P tt nm B nt cl lf round y r.fr r.S r.ds with
   | none=>rw[hn2] at hq;cases hq
   | some r2=>rw[hn2] at hq;rw[ihy hn2];exact hq
 | cond c x y ihx ihy =>
  intro fr S ds q hq;simp only[qae] at hq ⊢;cases hv:evo nt fr c with
  | none=>rw[hv] at hq;cases hq
  | some v =>
   rw[hv] at hq;cases v<;>simp only at hq ⊢<;>try (cases hq;done)
   rename_i b;cases b with
   | true=>exact ihx hq
   | false=>exact ihy hq
 | block id c ih =>
  intro fr S ds q hq;simp only[qae] at hq ⊢;cases hn:qae P tt nm B nt cl lf round c fr S ds with
  | none=>rw[hn] at hq;cases hq
  | some r=>rw[hn] at hq;rw[ih hn];exact hq
 | scope c ih =>
  intro fr S ds q hq;simp only[qae] at hq ⊢;cases hn:qae P tt nm B nt cl lf round c fr S ds with
  | none=>rw[hn] at hq;cases hq
  | some r=>rw[hn] at hq;rw[ih hn];exact hq
 | loop c ih =>
  intro fr S ds q hq;simp only[qae] at hq ⊢;cases hm:qc3 nm c with
  | some m =>
   rw[hm] at hq;simp only at hq ⊢;obtain⟨q0,hq0,rfl⟩:=qea hq;have key:∀n fr S ds q,qbs (qae P tt nm B nt cl lf round c) m.1 m.2 n fr S ds=some q->qbs (qae P tt nm B nt cl' lf round c) m.1 m.2 n fr S ds=some q:=by
    intro n;induction n with
    | zero=>intro fr S ds q hq;exact hq
    | succ n ihn =>
     intro fr S ds q hq;unfold qbs at hq ⊢;cases hn:qae P tt nm B nt cl lf round c fr S ds with
     | none=>rw[hn] at hq;cases hq
     | some r =>
      rw[hn] at hq;rw[ih hn];simp only at hq ⊢;cases hb:(subm r.rd m.1&&subm r.wr m.2) with
      | false=>rw[hb] at hq;cases hq
      | true =>
       rw[hb,jab] at hq;rw[jab];cases he:r.e<;>rw[he] at hq<;>simp only at hq ⊢<;>first|exact ihn _ _ _ _ hq|exact hq
   rw[key _ _ _ _ _ hq0];rfl
  | none =>
   rw[hm] at hq;simp only at hq ⊢;have key:∀n fr S ds q,qcx (qae P tt nm B nt cl lf round c) n fr S ds=some q->qcx (qae P tt nm B nt cl' lf round c) n fr S ds=some q:=by
    intro n;induction n with
    | zero=>intro fr S ds q hq;exact hq
    | succ n ihn =>
     intro fr S ds q hq;unfold qcx at hq ⊢;cases hn:qae P tt nm B nt cl lf round c fr S ds with
     | none=>rw[hn] at hq;cases hq
     | some r =>
      rw[hn] at hq;rw[ih hn];simp only at hq ⊢;cases he:r.e<;>rw[he] at hq<;>simp only at hq ⊢<;>try exact hq
      cases hn2:qcx (qae P tt nm B nt cl lf round c) n r.fr r.S r.ds with
      | none=>rw[hn2] at hq;cases hq
      | some r2=>rw[hn2] at hq;rw[ihn _ _ _ _ hn2];exact hq
   exact key _ _ _ _ _ hq
 | rangeFunc g ps assign body ih1 ih2 =>
  intro fr S ds q hq;simp only[qae] at hq ⊢;obtain⟨q0,hq0,rfl⟩:=qea hq;cases hv:evo nt fr g with
  | none=>rw[hv] at hq0;cases hq0
  | some v =>
   rw[hv] at hq0;cases v<;>simp only at hq0 ⊢<;>try (cases hq0;done)
   cases round with
   | none=>simp only at hq0 ⊢;rw[qwg h hq0];rfl
   | some l =>
    simp only at hq0 ⊢;cases ho:S.heap.get l with
    | none=>rw[ho] at hq0;cases hq0
    | some o =>
     rw[ho] at hq0;cases o<;>simp only at hq0 ⊢<;>try (cases hq0;done)
     rw[qwg h hq0];rfl
end

def sixO(p:Nat->Int->Option Bool)(s:ByteArray)(b:Bool):Nat->Nat->Option Int
 | 0,_=>none
 | n+1,i=>cond (Nat.blt i s.size) (match p (i+(Utf8.decode s i).2) (Int.ofNat (Utf8.decode s i).1) with
  | none=>none
  | some a=>cond (decide (a=b)) (some (Int.ofNat i)) (sixO p s b n (i+(Utf8.decode s i).2))) (some (-1))
def sixF(cl:Cl)(vs:List IV)(S:IS):Option Res:=match vs with
 | [.str s,.fn g caps,.bool b]=>match sixO (fun q x=>ob (cl (.fn g) (.int .i32 x::caps) (S.new (.iter s q))) (ansB (below S.next))) s b (s.size+1) 0 with
  | none=>none
  | some i=>some ⟨.int .i64 i,S,below S.next,0⟩
 | _=>none
def sixK(clP:ClP)(R:Type)(vs:List IV)(S:IS)(kk:Res->Option R):Option R:=match vs with
 | [.str s,.fn g caps,.bool b]=>match sixO (fun q x=>clP Bool (.fn g) (.int .i32 x::caps) (S.new (.iter s q)) (ansB (below S.next))) s b (s.size+1) 0 with
  | none=>none
  | some i=>kk ⟨.int .i64 i,S,below S.next,0⟩
 | _=>none
theorem zlb(cl:Cl)(clP:ClP)(h:∀R,ClEq cl (clP R))(R:Type)(vs:List IV)(S:IS)(kk:Res->Option R):sixK clP R vs S kk=ob (sixF cl vs S) kk:=by
 unfold sixK sixF;split
 ·rename_i s g caps b;simp only[h Bool _ _ _ _];cases sixO (fun q x=>ob (cl (.fn g) (.int .i32 x::caps) (S.new (.iter s q))) (ansB (below S.next))) s b (s.size+1) 0<;>rfl
 ·rfl
def zdk:Hx:=⟨sixF,sixK,zlb⟩
theorem qsu{cl:Cl}{vs:List IV}{S:IS}{r:Res}(h:sixF cl vs S=some r):∃s g caps b i,vs=[.str s,.fn g caps,.bool b]/\sixO (fun q x=>ob (cl (.fn g) (.int .i32 x::caps) (S.new (.iter s q))) (ansB (below S.next))) s b (s.size+1) 0=some i/\r=⟨.int .i64 i,S,below S.next,0⟩:=by
 unfold sixF at h;split at h
 ·rename_i s g caps b;split at h<;>cases h;rename_i i hi;exact⟨_,_,_,_,_,rfl,hi,rfl⟩
 ·cases h
def nmS(mr mw:Nat):Nat->Option Nm:=fun j=>cond (Nat.beq j 2) (some ⟨[1,2,10],[],[],[],[],mr,mw,true⟩) none
theorem mB_S(mr mw B:Nat):mB (nmS mr mw) B=B:=rfl
def frS(g:Nat)(caps:List IV)(b:Bool)(id:Nat):PT IV:=((PT.leaf.set (.fn g caps) 1).set (.bool b) 2).set (.ptr id 0) 10
def clT(test:Tgt->List IV->IS->Bool)(c:Res):Cl:=fun t vs S=>cond (test t vs S) (some c) none
structure SixFacts (P:Program) (tt:Nat->Option TI) (fi:FI) (A B L C:Code):Prop where
 body:fi.body=.seq A (.seq (.seq B (.block 0 (.loop L))) C)
 three:Nat.ble 3 fi.nt=true
 head:∀mr mw,okC (nmS mr mw) (fun k=>Nat.beq k 2) (fun k=>Nat.beq k 2) L (some 2)=true
 ab:∀(R:Type) (clK:ClK R) (B0 mr mw lf:Nat) (s:ByteArray) (g:Nat) (caps:List IV) (b:Bool) (S:IS) (kk:_->Option R),qav P tt (nmS mr mw) B0 fi.nt clK lf none (.seq A B) (qay [.str s,.fn g caps,.bool b] 0 .leaf) S [] (fun r=>kk (tup [1,2,10] r)) =
  kk (.normal,[.fn g caps,.bool b,.ptr S.next 0],S.new (.iter s 0),[],(mb B0 0).lor (mb B0 0),(mb B0 0).lor (mb B0 0))
 l:∀(R:Type) (B0 mr mw lf:Nat) (g:Nat) (caps:List IV) (b a:Bool) (id rd:Nat) (S S':IS) (test:Tgt->List IV->IS->Bool) (kk:_->Option R),qav P tt (nmS mr mw) B0 fi.nt (fun t vs S kk=>cond (test t vs S) (kk ⟨.bool a,S',rd,0⟩) none) lf none L (frS g caps b id) S [] (fun r=>kk (tup [1,2,6,10] r)) =
  match S.heap.get id with
  | some (.iter s p)=>cond (Nat.blt p s.size)
   (cond (test (.fn g) (.int .i32 (Int.ofNat (Utf8.decode s p).1)::caps) (S.set id (.iter s (p+(Utf8.decode s p).2))))
    (cond (decide (a=b))
     (kk (.ret,[.fn g caps,.bool b,.int .i64 (Int.ofNat p),.ptr id 0],S',[],(mb B0 0).lor (Nat.lor 0 ((mb B0 0).lor ((mb B0 (Nat.lor 0 (Nat.lor 0 (rd.lor 0)))).lor ((mb B0 0).lor 0)))),
      (mb B0 (Nat.lor 0 ((Nat.pow 2 id).lor 0))).lor (Nat.lor 0 ((mb B0 0).lor ((mb B0 0).lor ((mb B0 0).lor 0))))))
     (kk (.normal,[.fn g caps,.bool b,.unk,.ptr id 0],S',[],(mb B0 0).lor (Nat.lor 0 ((mb B0 0).lor ((mb B0 (Nat.lor 0 (Nat.lor 0 (rd.lor 0)))).lor 0))),
      (mb B0 (Nat.lor 0 ((Nat.pow 2 id).lor 0))).lor (Nat.lor 0 ((mb B0 0).lor ((mb B0 0).lor 0))))))
    none)
   (kk (.exit 0,[.fn g caps,.bool b,.unk,.ptr id 0],S,[],(mb B0 ((Nat.pow 2 id).lor 0)).lor 0,(mb B0 0).lor 0))
  | _=>none
 e:∀(R:Type) (clK:ClK R) (B0 mr mw lf:Nat) (fr:PT IV) (S:IS) (kk:CRes->Option R),qav P tt (nmS mr mw) B0 fi.nt clK lf none C fr S [] kk=kk ⟨.ret,fr.set (.int .i64 (-1)) 6,S,[],(mb B0 0).lor 0,(mb B0 0).lor 0⟩
 res:fi.res=[.tmp 6]
 nt6:Nat.blt 6 fi.nt=true
 lm:∀mr mw,qc3 (nmS mr mw) L=some (mr,mw)
theorem PT.one_set{α:Type u}(x y:α):∀(f n:Nat),n<=f->(PT.one x f n).set y n=PT.one y f n
 | 0,n,h=>by
  obtain rfl:n=0:=by omega
  rfl
 | f+1,n,h=>by
  by_cases hn:n=0
  ·subst hn;rfl
  ·by_cases h2:n % 2=1
   ·simp only[PT.one,qa5 hn,jae,qcp h2,jab,PT.set];rw[PT.one_set x y f _ (by omega)]
   ·simp only[PT.one,qa5 hn,jae,qa5 h2,PT.set];rw[PT.one_set x y f _ (by omega)]
theorem PT.set_set{α:Type u}(x y:α):∀(t:PT α) (n:Nat),(t.set x n).set y n=t.set y n
 | .leaf,n=>PT.one_set x y n n (jap _)
 | .node v l r,n=>by
  by_cases hn:n=0
  ·subst hn;rfl
  ·by_cases h2:n % 2=1
   ·simp only[PT.set,qa5 hn,jae,qcp h2,jab];rw[PT.set_set x y l]
   ·simp only[PT.set,qa5 hn,jae,qa5 h2];rw[PT.set_set x y r]
theorem IS.new_set(S:IS)(o o':IObj):(S.new o).set S.next o'=S.new o':=by
 unfold IS.new IS.set;simp only[PT.set_set]
theorem IS.new_get(S:IS)(o:IObj):(S.new o).heap.get S.next=some o:=by
 unfold IS.new;simp only[PT.get_set,jb4]
theorem q0u{a m:Nat}:subm a m=true↔∀j,a.testBit j=true->m.testBit j=true:=by
 constructor
 ·intro h j hj;exact qtp (T:=fun j=>m.testBit j=true) h (fun j hj=>hj) j hj
 ·intro h;unfold subm;have:a ||| m=m:=jdu fun j=>by
   rw[jbv];cases ha:a.testBit j with
   | false=>rfl
   | true=>rw[h j ha];rfl
  rw[this];exact jb6 m
theorem q7h(n j:Nat):(below n).testBit j=decide (j<n):=by unfold below;exact jdo ..
theorem q77{P:Program}{tt:Nat->Option TI}{fi:FI}{f:Nat}{nm:Nat->Option Nm}{lf:Nat}{cl:Cl}{vs:List IV}{S S1:IS}{fr:PT IV}{e:IEx}{rd wr:Nat}{k:IntKind}{i:Int}{t:Nat}(hz:frzF nm=false)(hm:P.follows .mixedOrders=true)(htt:TT P tt)(hfi:FIok P f fi)(hcl:ClOK P cl)(hfr:ClFr cl)
  (hb:Nat.ble vs.length fi.nt=true) (hr:qae P tt nm S.next fi.nt cl lf none fi.body (qay vs 0 .leaf) S []=some ⟨e,fr,S1,[],rd,wr⟩) (hw:wr % 2 ^ S.next=0) (he:e.leaves=true) (hres:fi.res=[.tmp t]) (hnt:Nat.blt t fi.nt=true) (hs:slot fr t=.int k i)
  {T:TW} {E:Env} {us:List Value} (p:Pre T E S) (hrd:tin T.r (below S.next)) (hv:VRs E vs us) (hnp:e.isPan=false:=by rfl):qai P f/\CallsIn Fence.wide 0 P f us.toArray E.w (RetE T E S ⟨.int k i,S,below S.next,0⟩):=by
 refine(fun x=>⟨x.1,x.2.mono fun _ _ h=>RetX.val h rfl⟩) <| qsa (fi:=fi) (r:=⟨.int k i,S,(rd ||| 0) % 2 ^ S.next,0⟩) hz hm htt hfi hcl hfr hb hr he ?_ p (q5l hrd) (fun j hj=>by simp at hj) hv;have e1:qe6 ([]:List Nat) S1=some (S1,0):=rfl;simp only[qdg,e1,hres,ires,hnt,jab,hs];cases e<;>first|(cases hnp;done)|skip
 all_goals simp only[tupI,igc,low2,low0,je1,hw,jb6,jc9,jab]
variable {P : Program} {tt : Nat -> Option TI} {fi : FI} {A B L C : Code}
theorem q86(F:SixFacts P tt fi A B L C){cl:Cl}(hcalm:Calm cl){s:ByteArray}{b:Bool}{g:Nat}{caps:List IV}{S:IS}{i:Int}{lf:Nat}:∀(fuel p:Nat) (fr:PT IV),(slot fr 1=.fn g caps/\slot fr 2=.bool b/\slot fr 10=.ptr S.next 0) ->
  sixO (fun q x=>ob (cl (.fn g) (.int .i32 x::caps) (S.new (.iter s q))) (ansB (below S.next))) s b fuel p=some i ->
  ∃r,qbs (qae P tt (nmS (below (S.next+1)) (2 ^ S.next)) S.next fi.nt cl lf none L) (below (S.next+1)) (2 ^ S.next) fuel fr (S.new (.iter s p)) []=some r/\r.ds=[]/\r.rd=below (S.next+1)/\r.wr=2 ^ S.next/\((r.e=.ret/\slot r.fr 6=.int .i64 i)\/(r.e=.exit 0/\i=-1)):=by
 intro fuel;induction fuel with
 | zero=>intro p fr hs hi;cases hi
 | succ n ih =>
  intro p fr hs hi;have e1:=fun cl=>qg3 (P:=P) (tt:=tt) (B:=S.next) (nt:=fi.nt) (lf:=lf) (cl:=cl) (h:=2) (m:=⟨[1,2,10],[],[],[],[],below (S.next+1),2 ^ S.next,true⟩) rfl rfl (fr:=fr) (fr':=frS g caps b S.next) (by
   intro t ht;simp only[ja1,jdk,or_false] at ht;rcases ht with rfl|rfl|rfl
   ·exact hs.1
   ·exact hs.2.1
   ·exact hs.2.2) (c:=L) (S:=S.new (.iter s p)) (ds:=[]) (F.head _ _)
  have hb1:∀x,subm x (below S.next)=true->subm (mb S.next x) (below (S.next+1))=true:=fun x hx=>qny (by
   rw[q0u] at hx ⊢;intro j hj;have:=hx j hj;rw[q7h] at this ⊢;simp only[jax] at this ⊢;omega)
  have hb2:subm (mb S.next (2 ^ S.next)) (2 ^ S.next)=true:=qny (zof _);have hb3:subm (mb S.next (2 ^ S.next)) (below (S.next+1))=true:=qny (by
   rw[q0u];intro j hj;rw[Nat.testBit_two_pow] at hj;rw[q7h];simp only[jax] at hj ⊢;omega)
  have hpw:Nat.pow 2 S.next=2 ^ S.next:=rfl
  unfold sixO at hi;cases hlt:Nat.blt p s.size with
  | false =>
   rw[hlt,jae] at hi;cases hi;have e2:=F.l (IEx × List IV × IS × List Nat × Nat × Nat) S.next (below (S.next+1)) (2 ^ S.next) lf g caps b false S.next 0 (S.new (.iter s p)) S (fun _ _ _=>false) some
   rw[IS.new_get] at e2;simp only[hlt,jae,qe7,qfb,qvb] at e2;have ec:(fun(t:Tgt) (vs:List IV) (S:IS) (kk:Res->Option (IEx × List IV × IS × List Nat × Nat × Nat))=>(none:Option (IEx × List IV × IS × List Nat × Nat × Nat)))=fun t vs S kk=>ob ((fun _ _ _=>none:Cl) t vs S) kk:=rfl;rw[ec] at e2;obtain⟨r,hr,ht⟩:=qf1 e2;have hr:=qr6 (cl':=cl) (fun t vs S r h=>by cases h) _ hr;simp only[tup,jcj] at ht;obtain⟨t1,t2,t3,t4,t5,t6⟩:=ht;refine⟨⟨.exit 0,r.fr,S.new (.iter s p),[],below (S.next+1),2 ^ S.next⟩,?_,rfl,rfl,rfl,.inr ⟨rfl,rfl⟩⟩;unfold qbs;rw[e1 cl];have hr':qae P tt (nmS (below (S.next+1)) (2 ^ S.next)) S.next fi.nt cl lf none L (frS g caps b S.next) (S.new (.iter s p)) []=some r:=hr
   simp only[hr',t5,t6,hpw,hb3,qin,jc9,jab,t1,t3,t4]
  | true =>
   rw[hlt,jab] at hi;cases hc:cl (.fn g) (.int .i32 (Int.ofNat (Utf8.decode s p).1)::caps) (S.new (.iter s (p+(Utf8.decode s p).2))) with
   | none=>rw[hc] at hi;cases hi
   | some r0 =>
   rw[hc] at hi;simp only[ob] at hi;obtain⟨v0,S0',rd0,wr0⟩:=r0;cases v0<;>simp only[ansB] at hi<;>try (cases hi;done)
   rename_i a;cases hmk:(Nat.beq wr0 0&&subm rd0 (below S.next)) with
   | false=>rw[hmk] at hi;cases hi
   | true =>
   rw[hmk] at hi;simp only[jaf] at hmk;have hw0:wr0=0:=jah hmk.1;subst hw0;have hS:S0'=S.new (.iter s (p+(Utf8.decode s p).2)):=hcalm _ _ _ _ hc rfl rfl;subst hS;simp only[jab] at hi;have hsm:=hb1 _ hmk.2
   let c0:Res:=⟨.bool a,S.new (.iter s (p+(Utf8.decode s p).2)),rd0,0⟩
   let test:Tgt->List IV->IS->Bool:=fun t vs S=>@decide (cl t vs S=some c0) (Classical.propDecidable _)
   have hle:ClLe (clT test c0) cl:=fun t vs S r h=>by
    unfold clT at h;cases ht:test t vs S with
    | false=>rw[ht] at h;cases h
    | true =>
     rw[ht] at h;cases h;exact @of_decide_eq_true _ (Classical.propDecidable _) ht
   have e2:=F.l (IEx × List IV × IS × List Nat × Nat × Nat) S.next (below (S.next+1)) (2 ^ S.next) lf g caps b a S.next rd0 (S.new (.iter s p)) (S.new (.iter s (p+(Utf8.decode s p).2))) test some
   rw[IS.new_get] at e2;have htest:test (.fn g) (.int .i32 (Int.ofNat (Utf8.decode s p).1)::caps) ((S.new (.iter s p)).set S.next (.iter s (p+(Utf8.decode s p).2)))=true:=by
    rw[IS.new_set];exact @decide_eq_true _ (Classical.propDecidable _) hc
   simp only[hlt,htest,jab,qe7,qfb,qvb] at e2;cases hab:decide (a=b) with
   | true =>
    rw[hab,jab] at e2 hi;cases hi;have ec:(fun(t:Tgt) (vs:List IV) (S:IS) (kk:Res->Option (IEx × List IV × IS × List Nat × Nat × Nat))=>cond (test t vs S) (kk c0) none)=fun t vs S kk=>ob (clT test c0 t vs S) kk:=by
     funext t vs S kk;unfold clT;cases test t vs S<;>rfl
    rw[ec] at e2;obtain⟨r,hr,ht⟩:=qf1 e2;have hr:=qr6 hle _ hr;simp only[tup,jcj,jcc,jc4] at ht;obtain⟨t1,t2,t3,t4,t5,t6⟩:=ht;refine⟨⟨.ret,r.fr,S.new (.iter s (p+(Utf8.decode s p).2)),[],below (S.next+1),2 ^ S.next⟩,?_,rfl,rfl,rfl,.inl ⟨rfl,t2.2.2.1⟩⟩;unfold qbs;rw[e1 cl];have hr':qae P tt (nmS (below (S.next+1)) (2 ^ S.next)) S.next fi.nt cl lf none L (frS g caps b S.next) (S.new (.iter s p)) []=some r:=hr
    simp only[hr',t5,t6,hpw,hsm,hb2,jc9,jab,t1,t3,t4]
   | false =>
    rw[hab,jae] at e2 hi;have ec:(fun(t:Tgt) (vs:List IV) (S:IS) (kk:Res->Option (IEx × List IV × IS × List Nat × Nat × Nat))=>cond (test t vs S) (kk c0) none)=fun t vs S kk=>ob (clT test c0 t vs S) kk:=by
     funext t vs S kk;unfold clT;cases test t vs S<;>rfl
    rw[ec] at e2;obtain⟨r,hr,ht⟩:=qf1 e2;have hr:=qr6 hle _ hr;simp only[tup,jcj,jcc,jc4] at ht;obtain⟨t1,t2,t3,t4,t5,t6⟩:=ht;obtain⟨q,q1,q2⟩:=ih (p+(Utf8.decode s p).2) r.fr ⟨t2.1,t2.2.1,t2.2.2.2.1⟩ hi;refine⟨q,?_,q2⟩;unfold qbs;rw[e1 cl];have hr':qae P tt (nmS (below (S.next+1)) (2 ^ S.next)) S.next fi.nt cl lf none L (frS g caps b S.next) (S.new (.iter s p)) []=some r:=hr
    simp only[hr',t5,t6,hpw,hsm,hb2,jc9,jab,t1,t3,t4];exact q1
theorem q51(n:Nat):mb n (2 ^ n) % 2 ^ n=0:=by
 unfold mb;cases Nat.beq n 0
 ·exact Nat.mod_self _
 ·exact Nat.zero_mod _
theorem zke{f:Nat}(F:SixFacts P tt fi A B L C)(hm:P.follows .mixedOrders=true)(htt:TT P tt)(hfi:FIok P f fi):HxOK P f sixF:=by
 refine HxOK.of (fun cl hcl hfr hcalm vs S r h T E us p hrd hwr hv=>?_) (fun cl hfr vs S r h=>?_) (fun cl hcalm vs S r h _ _=>?_)
 ·obtain⟨s,g,caps,b,i,rfl,hi,rfl⟩:=qsu h;obtain⟨ra,hra,hta⟩:=qf1 (cl:=cl) (F.ab (IEx × List IV × IS × List Nat × Nat × Nat) (fun t vs S kk=>ob (cl t vs S) kk) S.next (below (S.next+1)) (2 ^ S.next) (s.size+1) s g caps b S some);obtain⟨rae,rafr,raS,rads,rard,rawr⟩:=ra;simp only[tup,jcj,jcc,List.map_nil,jc4,qe7,qfb] at hta;obtain⟨rfl,⟨s1,s2,s3,_⟩,rfl,rfl,rfl,rfl⟩:=hta;obtain⟨r,hr,hds,hrd2,hwr2,hcase⟩:=q86 F hcalm (lf:=s.size+1) (s.size+1) 0 rafr ⟨s1,s2,s3⟩ hi;obtain⟨re,rfr,rS,rds,rrd,rwr⟩:=r;simp only at hds hrd2 hwr2 hcase;subst hds;subst hrd2;subst hwr2;simp only[qae] at hra;cases hA:qae P tt (nmS (below (S.next+1)) (2 ^ S.next)) S.next fi.nt cl (s.size+1) none A (qay [.str s,.fn g caps,.bool b] 0 .leaf) S [] with
  | none=>rw[hA] at hra;cases hra
  | some qa =>
  rw[hA] at hra;simp only at hra;obtain⟨qe,qfr,qS,qds,qrd,qwr⟩:=qa;cases qe<;>simp only at hra<;>try (cases hra;done)
  cases hB:qae P tt (nmS (below (S.next+1)) (2 ^ S.next)) S.next fi.nt cl (s.size+1) none B qfr qS qds with
  | none=>rw[hB] at hra;cases hra
  | some qb =>
  rw[hB] at hra;obtain⟨be,bfr,bS,bds,brd,bwr⟩:=qb;simp only[CRes.or,ja7,CRes.mk.injEq] at hra;obtain⟨rfl,rfl,rfl,rfl,h5,h6⟩:=hra;obtain⟨z1,z2⟩:qwr=0/\bwr=0:=by
   constructor
   ·exact jdu fun j=>by have:=jcd (fun x=>x.testBit j) h6;simp [jbv] at this;simp [this.1]
   ·exact jdu fun j=>by have:=jcd (fun x=>x.testBit j) h6;simp [jbv] at this;simp [this.2]
  subst z1;subst z2;rcases hcase with ⟨he,hs⟩|⟨he,hi2⟩
  ·subst he;refine q77 (vs:=[.str s,.fn g caps,.bool b]) (nm:=nmS (below (S.next+1)) (2 ^ S.next)) (lf:=s.size+1) (fr:=rfr) (e:=.ret) (k:=.i64) (i:=i) (t:=6) (S1:=rS) (rd:=qrd ||| (brd ||| mb S.next (below (S.next+1)))) (wr:=mb S.next (2 ^ S.next)) rfl hm htt hfi hcl hfr F.three ?_ (q51 _) rfl F.res F.nt6 hs p hrd hv;rw[F.body];simp only[qae,hA,hB,F.lm,hr,mbO,mbR,mB_S,CRes.or,jdi]
  ·subst he;subst hi2;have hc:=runK (F.e CRes (fun t vs S kk=>ob (cl t vs S) kk) S.next (below (S.next+1)) (2 ^ S.next) (s.size+1) rfr rS some);refine q77 (vs:=[.str s,.fn g caps,.bool b]) (nm:=nmS (below (S.next+1)) (2 ^ S.next)) (lf:=s.size+1) (fr:=rfr.set (.int .i64 (-1)) 6) (e:=.ret) (k:=.i64) (i:=-1) (t:=6) (S1:=rS) (rd:=qrd ||| ((brd ||| mb S.next (below (S.next+1))) ||| 0)) (wr:=mb S.next (2 ^ S.next)) rfl hm htt hfi hcl hfr F.three ?_ (q51 _) rfl F.res F.nt6 (by rw[qdh,jam rfl]) p hrd hv;rw[F.body];simp only[qae,hA,hB,F.lm,hr,mbO,mbR,mB_S,qe7,CRes.or,jdi,jb6,jab,hc,qfb,je1]
 ·obtain⟨_,_,_,_,_,_,_,rfl⟩:=qsu h;exact FrO.same _ rfl
 ·obtain⟨_,_,_,_,_,_,_,rfl⟩:=qsu h;rfl
end Go.Jx
end

noncomputable section
set_option maxRecDepth 100000
namespace Go.Proofs.YtcnhjofpmpipfaaGreat
open Go Go.Sx Go.RowKit Go.Jx
theorem q9a:IdxFacts Tryz.prog ttT.get cRule fi97 (cL fb97) (cL (cL (cR fb97))) (cB (cB (cR (cL (cR fb97))))) (cR (cR fb97)) :=
 ⟨by kernel_rfl,by kernel_rfl,fun mr=>by kernel_rfl,fun R clK B0 mr lf l g caps S kk=>by kernel_rfl,fun R clK B0 mr lf l g caps S kk=>by kernel_rfl,fun R clK B0 mr lf l g caps S i kk=>by kernel_rfl,fun R clK B0 mr lf fr S kk=>by kernel_rfl,by kernel_rfl,by kernel_rfl,fun mr=>by kernel_rfl⟩
theorem q0x:HxOK Tryz.prog 97 (idxF cRule):=qss q9a qdp ttOK fo97
theorem zj0:IdxFacts Tryz.prog ttT.get cForm qui (cL qku) (cL (cL (cR qku))) (cB (cB (cR (cL (cR qku))))) (cR (cR qku)) :=
 ⟨by kernel_rfl,by kernel_rfl,fun mr=>by kernel_rfl,fun R clK B0 mr lf l g caps S kk=>by kernel_rfl,fun R clK B0 mr lf l g caps S kk=>by kernel_rfl,fun R clK B0 mr lf l g caps S i kk=>by kernel_rfl,fun R clK B0 mr lf fr S kk=>by kernel_rfl,by kernel_rfl,by kernel_rfl,fun mr=>by kernel_rfl⟩
theorem q93:HxOK Tryz.prog 117 (idxF cForm):=qss zj0 qdp ttOK q44
theorem zlc:IdxFacts Tryz.prog ttT.get cCol qut (cL qlb) (cL (cL (cR qlb))) (cB (cB (cR (cL (cR qlb))))) (cR (cR qlb)) :=
 ⟨by kernel_rfl,by kernel_rfl,fun mr=>by kernel_rfl,fun R clK B0 mr lf l g caps S kk=>by kernel_rfl,fun R clK B0 mr lf l g caps S kk=>by kernel_rfl,fun R clK B0 mr lf l g caps S i kk=>by kernel_rfl,fun R clK B0 mr lf fr S kk=>by kernel_rfl,by kernel_rfl,by kernel_rfl,fun mr=>by kernel_rfl⟩
theorem q8n:HxOK Tryz.prog 132 (idxF cCol):=qss zlc qdp ttOK qyu
theorem zdt:SixFacts Tryz.prog ttT.get qtw (cL qkk) (cL (cL (cR qkk))) (cB (cB (cR (cL (cR qkk))))) (cR (cR qkk)) :=
 ⟨by kernel_rfl,by kernel_rfl,fun mr mw=>by kernel_rfl,fun R clK B0 mr mw lf s g caps b S kk=>by kernel_rfl,fun R B0 mr mw lf g caps b a id rd S S' test kk=>by kernel_rfl,fun R clK B0 mr mw lf fr S kk=>by kernel_rfl,by kernel_rfl,by kernel_rfl,fun mr mw=>by kernel_rfl⟩
theorem q8v:HxOK Tryz.prog 144 sixF:=zke zdt qdp ttOK q1w
end Go.Proofs.YtcnhjofpmpipfaaGreat
end

section
namespace Go.Jx
open Go Go.Sx Go.RowKit
universe u

theorem qfv{α:Type}(b:Bool)(x y:α):cond b x y=if b=true then x else y:=by cases b<;>rfl
theorem oL:Int.ofNat 0=0/\Int.ofNat 1=1/\Int.ofNat 2=2/\Int.ofNat 3=3/\Int.ofNat 4=4/\Int.ofNat 5=5/\Int.ofNat 6=6/\Int.ofNat 7=7/\Int.ofNat 8=8/\Int.ofNat 9=9/\Int.ofNat 10=10/\Int.ofNat 12=12/\Int.ofNat 16=16/\Int.ofNat 20=20/\Int.ofNat 24=24/\Int.ofNat 30=30/\Int.ofNat 31=31/\Int.ofNat 40=40/\Int.ofNat 45=45/\Int.ofNat 48=48/\Int.ofNat 57=57/\Int.ofNat 60=60/\Int.ofNat 64=64/\Int.ofNat 65=65/\Int.ofNat 70=70/\Int.ofNat 90=90/\Int.ofNat 95=95/\Int.ofNat 97=97/\Int.ofNat 100=100/\Int.ofNat 122=122/\Int.ofNat 127=127/\Int.ofNat 128=128/\Int.ofNat 200=200/\Int.ofNat 256=256/\Int.ofNat 400=400/\Int.ofNat 410=410/\Int.ofNat 1500=1500/\Int.ofNat 60000=60000/\Int.ofNat 60010=60010/\Int.ofNat 65536=65536/\Int.ofNat 16777216=16777216/\Int.ofNat 2147483647=2147483647/\Int.ofNat 1099511627776=1099511627776 :=
 ⟨rfl,rfl,rfl,rfl,rfl,rfl,rfl,rfl,rfl,rfl,rfl,rfl,rfl,rfl,rfl,rfl,rfl,rfl,rfl,rfl,rfl,rfl,rfl,rfl,rfl,rfl,rfl,rfl,rfl,rfl,rfl,rfl,rfl,rfl,rfl,rfl,rfl,rfl,rfl,rfl,rfl,rfl,rfl⟩
theorem oLn:Int.negSucc 0=-1/\Int.negSucc 1099511627775=-1099511627776:=⟨rfl,rfl⟩
theorem qbw{α:Type}{l:List α}{i:Nat}:jget l (Int.ofNat i)=l[i]?:=by unfold jget;rw[jam (by simp)];simp
theorem qsw{α:Type}{l:List α}{i:Int}(h0:0<=i)(h1:i<l.length):∃x,jget l i=some x/\l[i.toNat]?=some x/\x∈l:=by
 have h2:i.toNat<l.length:=by omega
 refine⟨l[i.toNat],?_,jac h2,ja0 h2⟩;unfold jget;rw[jam h0,jac h2]
theorem qkm:∀c:TC,1<=bsz c
 | .int k=>by cases k<;>simp [bsz]
 | .bool=>by simp[bsz]
 | .str=>by simp[bsz]
 | .list _=>by simp[bsz]
 | .two a b=>by have:=qkm a;simp only[bsz];omega
def LF:Nat:=9223372036854775808
theorem qbf{c:TC}{l:El (.list c)}(h:WfE (.list c) l):List.length (α:=El c) l<LF:=by
 have h1:=h.1;have h2:=qkm c;have:List.length (α:=El c) l*1<=List.length (α:=El c) l*bsz c:=jcm _ h2;unfold LF;omega
theorem zez{n:Nat}(h:n+1<LF):IntKind.i64.wrap (Int.add (Int.ofNat n) (Int.ofNat 1))=Int.ofNat (n+1):=by
 unfold LF at h;rw[show Int.add (Int.ofNat n) (Int.ofNat 1)=Int.ofNat (n+1) from rfl];exact qia (by simp;omega)
structure Rnd {α:Type} (l:List α) (i:Nat) (v:α) (rest:List α):Prop where
 drop:l.drop i=v::rest
 mem:v∈l
 lt:i<l.length
 ilt:iltI (Int.ofNat i) (Int.ofNat l.length)=true
 get:jget l (Int.ofNat i)=some v
 get?:l[i]?=some v
 next:IntKind.i64.wrap (Int.add (Int.ofNat i) (Int.ofNat 1))=Int.ofNat (i+1)
 tail:l.drop (i+1)=rest
 take:l.take (i+1)=l.take i++[v]
theorem qaw(n:Nat):iltI (Int.ofNat n) (Int.ofNat n)=false:=by rw[qan];simp
theorem zji{α:Type}{l:List α}{i:Nat}(h:i<l.length)(hl:l.length<LF):∃v rest,Rnd l i v rest:=by
 refine⟨l[i],l.drop (i+1),jb0 h,ja0 h,h,by rw[qan];simp;omega,?_,jac h,zez (by omega),rfl,?_⟩
 ·rw[qbw];exact jac h
 ·rw[jdc h]
theorem q6q{α σ A R:Type}{T:(A->Option R)->A->Option R}(l:List α)(mk:Int->σ->A)(I:Nat->σ->Prop)(g:List α->Nat->σ->Option R)(hl:l.length<LF)
  (hnil:∀K s,I l.length s->T K (mk (Int.ofNat l.length) s)=g [] l.length s)
  (hcons:∀K i v rest s,I i s->Rnd l i v rest->(∀s',I (i+1) s'->K (mk (Int.ofNat (i+1)) s')=g rest (i+1) s')->T K (mk (Int.ofNat i) s)=g (v::rest) i s) :
  ∀n i s,i<=l.length->I i s->l.length-i<n->qas T n (mk (Int.ofNat i) s)=g (l.drop i) i s
 | 0,i,s,_,_,h=>by omega
 | n+1,i,s,hi,hI,h=>by
  show T (qas T n) (mk (Int.ofNat i) s)=_;by_cases e:i=l.length
  ·subst e;rw[hnil _ _ hI,jd1]
  ·obtain⟨v,rest,r⟩:=zji (l:=l) (i:=i) (by omega) hl;rw[hcons (qas T n) i v rest s hI r fun s' hI'=>?_,r.drop];rw[q6q l mk I g hl hnil hcons n (i+1) s' (by have:=r.lt;omega) hI' (by omega),r.tail]
theorem range0{α σ A R:Type}{T:(A->Option R)->A->Option R}(l:List α)(mk:Int->σ->A)(I:Nat->σ->Prop)(g:List α->Nat->σ->Option R)(hl:l.length<LF)
  (hnil:∀K s,I l.length s->T K (mk (Int.ofNat l.length) s)=g [] l.length s)
  (hcons:∀K i v rest s,I i s->Rnd l i v rest->(∀s',I (i+1) s'->K (mk (Int.ofNat (i+1)) s')=g rest (i+1) s')->T K (mk (Int.ofNat i) s)=g (v::rest) i s)
  (s:σ) (hI:I 0 s):qas T LF (mk (Int.ofNat 0) s)=g l 0 s:=by
 have:=q6q l mk I g hl hnil hcons LF 0 s (jbj _) hI (by omega)
 rwa [jdy] at this
theorem qbm{α R:Type}{T:(Int->Option R)->Int->Option R}(l:List α)(g:List α->Nat->Option R)(hl:l.length<LF)
  (hnil:∀K,T K (Int.ofNat l.length)=g [] l.length)
  (hcons:∀K i v rest,Rnd l i v rest->K (Int.ofNat (i+1))=g rest (i+1)->T K (Int.ofNat i)=g (v::rest) i):qas T LF (Int.ofNat 0)=g l 0 :=
 range0 (σ:=Unit) l (fun i _=>i) (fun _ _=>True) (fun rest i _=>g rest i) hl (fun K _ _=>hnil K) (fun K i v rest _ _ r h=>hcons K i v rest r (h () trivial)) () trivial
theorem qr5{p:Nat->Int->Option Bool}{q:Int->Bool}(hp:∀i r,p i r=some (q r))(s:ByteArray)(b:Bool):∀(n i:Nat),s.size-i<n->∃k,sixO p s b n i=some k
 | 0,i,h=>by omega
 | n+1,i,h=>by
  unfold sixO;cases hlt:Nat.blt i s.size with
  | false=>exact⟨_,rfl⟩
  | true =>
   have h1:i<s.size:=by simpa using hlt
   simp only[jab,hp];cases decide (q (Int.ofNat (Utf8.decode s i).1)=b) with
   | true=>exact⟨_,rfl⟩
   | false =>
    rw[jae];have:=zdl s i;exact qr5 hp s b n _ (by omega)
namespace S
def idx{α:Type}(p:α->Bool)(l:List α):Int:=match l.findIdx? p with
 | some j=>Int.ofNat j
 | none=>-1
theorem idx_nonneg{α:Type}(p:α->Bool)(l:List α):0<=idx p l↔l.any p=true:=by
 unfold idx;cases h:l.findIdx? p with
 | none =>
  simp only;rw[List.findIdx?_eq_none_iff] at h;constructor
  ·intro h;omega
  ·intro h2;rw[jcf] at h2;obtain⟨x,hx,hp⟩:=h2;rw[h x hx] at hp;cases hp
 | some j =>
  simp only;obtain⟨h1,h2,h3⟩:=jcs.1 h;constructor
  ·intro _;rw[jcf];exact⟨_,ja0 h1,h2⟩
  ·intro _;exact jc8 _
theorem idx_get{α:Type}{p:α->Bool}{l:List α}(h:0<=idx p l):∃x,jget l (idx p l)=some x/\l[(idx p l).toNat]?=some x/\p x=true/\x∈l/\idx p l<l.length/\l.find? p=some x:=by
 unfold idx at h ⊢;cases hf:l.findIdx? p with
 | none=>rw[hf] at h;simp at h
 | some j =>
  simp only;obtain⟨h1,h2,h3⟩:=jcs.1 hf;refine⟨l[j],?_,by simp[h1],h2,ja0 h1,by simpa using h1,?_⟩
  ·rw[qbw];exact jac h1
  ·rw[List.find?_eq_some_iff_getElem];exact⟨h2,j,h1,rfl,fun k hk=>by simpa using h3 k hk⟩
theorem idx_neg{α:Type}{p:α->Bool}{l:List α}(h:idx p l<0):l.find? p=none:=by
 have h2:l.any p=false:=by
  cases ha:l.any p with
  | false=>rfl
  | true=>have:=(idx_nonneg p l).2 ha;omega
 rw[je4];rw[jei] at h2;exact h2
end S
theorem qm9{α:Type}{p:α->Option Bool}(q:α->Bool){l:List α}(h:∀x∈l,p x=some (q x)):idxO p l 0=some (S.idx q l):=by
 rw[q0m h];unfold S.idx;cases l.findIdx? q<;>simp
end Go.Jx
end

section
noncomputable section
namespace Go.Proofs.YtcnhjofpmpipfaaGreat
open Go Go.Sx Go.RowKit Go.Jx
abbrev DVal:Type:=Int × Int
abbrev qjr:Type:=ByteArray × List DVal
abbrev qeb:Type:=List qjr × List DVal
abbrev DCol:Type:=ByteArray × Int × ByteArray
abbrev qab:Type:=ByteArray × List DCol
abbrev qac:Type:=ByteArray × Int × Int
abbrev qaa:Type:=ByteArray × ByteArray × List qac
abbrev qsz:Type:=Int × ByteArray
namespace S
open Go.Jx.S
def within(n lo hi:Int):Bool:=decide (lo<=n)&&decide (n<=hi)
def unlessE(b:Bool)(e:Int):Int:=cond b 0 e
def first:List Int->Int
 | []=>0
 | e::l=>if e=0 then first l else e
def ANY:ByteArray:=S.lit [65,78,89]
def form(l:List qab)(n:ByteArray):Int:=idx (fun f=>keqS f.1 n) l
def col(l:List DCol)(n:ByteArray):Int:=idx (fun c=>keqS c.1 n) l
def zRule:qaa:=(S.lit [],S.lit [],[])
def zCol:DCol:=(S.lit [],0,S.lit [])
def zGive:qac:=(S.lit [],0,0)
def zdd:qab:=(S.lit [],[])
def zVal:DVal:=(0,0)
def zia:qjr:=(S.lit [],[])
def qvl:qeb:=([],[])
def quv:qsz:=(0,S.lit [])
def at_{α:Type}(d:α)(l:List α)(i:Int):α:=(l[i.toNat]?).getD d
def ruleOf(l:List qaa)(c:ByteArray):qaa × Bool:=match l.find? (fun r=>keqS r.1 c) with
 | some r=>(r,true)
 | none=>(zRule,false)
def badR(r lo hi:Int):Bool:=!((decide (lo<=r)&&decide (r<=hi))||(decide (48<=r)&&decide (r<=57))||decide (r=95))
def named(s:ByteArray)(lo hi:Int):Bool :=
 if s=S.lit [] then false
 else if 20<s.size then false
 else match (qad s)[0]? with
  | none=>false
  | some b=>if b<lo then false else if hi<b then false else match sixO (fun _ r=>some (badR r lo hi)) s true (s.size+1) 0 with
   | none=>false
   | some i=>decide (i<0)
def classWords:List ByteArray:=[S.lit [73,78,84,69,71,69,82],S.lit [66,79,79,76,69,65,78],ANY,S.lit [78,79,78,69]]
def smallWords:List ByteArray:=[S.lit [116,114,117,101],S.lit [102,97,108,115,101],S.lit [118,111,105,100],S.lit [99,117,114,114,101,110,116],S.lit [114,101,115,117,108,116]]
def index(l:List ByteArray)(v:ByteArray):Int:=idx (fun x=>keqS v x) l
def class_(s:ByteArray):Bool:=named s 65 90&&decide (index classWords s<0)
def small(s:ByteArray):Bool:=named s 97 122&&decide (index smallWords s<0)
def ccGo(l:List DCol):Nat->List DCol->Int
 | _,[]=>0
 | k,c::r =>
  if small c.1=false then 4
  else if ¬col (l.take k) c.1<0 then 6
  else if within c.2.1 1 3=false then 1
  else if ¬c.2.1=3/\¬c.2.2=S.lit [] then 1
  else ccGo l (k+1) r
def checkCols(l:List DCol):Int:=if 30<l.length then 3 else ccGo l 0 l
def cfIn(l:List qab):List DCol->Bool
 | []=>true
 | c::r=>if c.2.1=3/\¬c.2.2=ANY/\form l c.2.2<0 then false else cfIn l r
def cfGo2(l:List qab):List qab->Int
 | []=>0
 | f::r=>if cfIn l f.2=true then cfGo2 l r else 5
def cfGo(l:List qab):Nat->List qab->Int
 | _,[]=>cfGo2 l l
 | k,f::r =>
  let e:=first [unlessE (class_ f.1) 4,unlessE (decide (form (l.take k) f.1<0)) 6,checkCols f.2]
  if e=0 then cfGo l (k+1) r else e
def checkForms(l:List qab):Int:=if 24<l.length then 3 else cfGo l 0 l
def value(v:DVal)(many:Int):Bool :=
 if v.1=1 then within v.2 (-1099511627776) 1099511627776
 else if v.1=2 then within v.2 0 1
 else if v.1=3 then decide (v.2=0)
 else if v.1=4 then within v.2 0 (IntKind.i64.wrap (Int.sub many (Int.ofNat 1)))
 else false
def q88(v:DVal):Bool:=decide (v.1=3)||decide (v.1=4)
def q7w(g:qeb):Int :=
 if 400<g.1.length\/60<g.2.length then 3
 else if g.1.any (fun n=>decide (30<n.2.length)) then 3
 else if g.1.any (fun n=>n.2.any fun v=>!value v (Int.ofNat g.1.length)) then 2
 else if g.2.any (fun v=>!value v (Int.ofNat g.1.length)||!q88 v) then 2
 else 0
def q8r(g:qeb)(c:DCol)(v:DVal):Bool :=
 if c.2.1=1 then decide (v.1=1)
 else if c.2.1=2 then decide (v.1=2)
 else decide (v.1=3)||(decide (v.1=4)&&(decide (c.2.2=ANY)||decide ((at_ zia g.1 v.2).1=c.2.2)))
def colsOf(l:List qab)(c:ByteArray):List DCol:=(at_ zdd l (form l c)).2
def q4t(g:qeb):List DCol->List DVal->Bool
 | c::cs,v::vs=>if q8r g c v=true then q4t g cs vs else false
 | _,_=>true
def qyh(l:List qab)(g:qeb):List qjr->Bool
 | []=>true
 | n::ns=>if n.2.length=(colsOf l n.1).length then (if q4t g (colsOf l n.1) n.2=true then qyh l g ns else false) else false
def qo9(l:List qab)(g:qeb):Int :=
 if ¬q7w g=0 then q7w g
 else if g.1.any (fun n=>decide (form l n.1<0)) then 4
 else unlessE (qyh l g g.1) 8
def leads(l:List qaa)(a b:ByteArray):Bool:=decide (b=ANY)||((ruleOf l a).2&&decide ((ruleOf l a).1.2.1=b))
def fits(l:List qaa)(g:qac)(a b:DCol):Bool :=
 if g.2.1=1 then decide (a.2.1=b.2.1)&&(decide (¬a.2.1=3)||leads l a.2.2 b.2.2)
 else if g.2.1=2 then decide (a.2.1=2)&&decide (b.2.1=1)
 else if g.2.1=3 then decide (a.2.1=1)&&decide (b.2.1=2)
 else if g.2.1=4 then decide (a.2.1=1)&&decide (b.2.1=1)
 else if g.2.1=5 then decide (a.2.1=3)&&(decide (b.2.1=3)&&leads l a.2.2 b.2.2)
 else if g.2.1=6 then decide (b.2.1=1)||(decide (b.2.1=2)&&within g.2.2 0 1)
 else decide (b.2.1=3)
def most(g:qac):Int:=if g.2.1=4\/g.2.1=6 then 1099511627776 else 0
def give(l:List qaa)(g:qac)(cols:List DCol)(b:DCol):Int :=
 if within g.2.1 1 5=true/\col cols g.1<0 then 4
 else if within g.2.1 1 7=false\/(within g.2.1 1 5=false/\¬g.1=S.lit [])\/within g.2.2 (-most g) (most g)=false\/(g.2.1=6/\b.2.1=2/\within g.2.2 0 1=false) then 1
 else unlessE (fits l g (if within g.2.1 1 5=true then at_ zCol cols (col cols g.1) else zCol) b) 8
def crGives(l:List qaa)(was:List DCol):List DCol->List qac->Int
 | c::now,g::r=>if give l g was c=0 then crGives l was now r else give l g was c
 | _,_=>0
def crGo3(a b:List qab)(l:List qaa):List qaa->Int
 | []=>0
 | r::rs =>
  if r.2.2.length=(colsOf b r.2.1).length then
   (if crGives l (colsOf a r.1) (colsOf b r.2.1) r.2.2=0 then crGo3 a b l rs else crGives l (colsOf a r.1) (colsOf b r.2.1) r.2.2)
  else 2
def crGo2(a b:List qab)(l:List qaa):List qab->Int
 | []=>crGo3 a b l l
 | f::fs=>if (ruleOf l f.1).2=true then crGo2 a b l fs else 5
def crGo(a b:List qab)(l:List qaa):Nat->List qaa->Int
 | _,[]=>crGo2 a b l a
 | k,r::rs=>if form a r.1<0 then 4 else if form b r.2.1<0 then 4 else if (ruleOf (l.take k) r.1).2=true then 6 else crGo a b l (k+1) rs
def checkRules0(a b:List qab)(l:List qaa):Int:=if 24<l.length then 3 else crGo a b l 0 l
def checkRules(a b:List qab)(l:List qaa):Int:=if first [checkForms a,checkForms b]=0 then checkRules0 a b l else first [checkForms a,checkForms b]
def src(g:qac)(cols:List DCol)(l:List DVal):DVal:=at_ zVal l (col cols g.1)
def made(g:qac)(cols:List DCol)(l:List DVal)(b:DCol):DVal × Bool :=
 if g.2.1=6 then (if b.2.1=2 then ((2,g.2.2),true) else ((1,g.2.2),true))
 else if g.2.1=7 then ((3,0),true)
 else if g.2.1=2 then ((1,(src g cols l).2),true)
 else if g.2.1=3 then ((2,(src g cols l).2),within (src g cols l).2 0 1)
 else if g.2.1=4 then (src g cols l,decide ((src g cols l).2<g.2.2))
 else if g.2.1=5 then (src g cols l,decide ((src g cols l).1=4))
 else (src g cols l,true)
def cvIn(cols:List DCol)(vs:List DVal):List qac->List DCol->List DVal->Option (List DVal) × ByteArray
 | g::gs,c::cs,acc=>if (made g cols vs c).2=true then cvIn cols vs gs cs (acc++[(made g cols vs c).1]) else (none,c.1)
 | _,_,acc=>(some acc,S.lit [])
def cvGo(a b:List qab)(l:List qaa)(roots:List DVal):Nat->List qjr->List qjr->qeb × qsz × Int
 | _,[],acc=>((acc,roots),quv,0)
 | i,n::ns,acc =>
  let r:=(ruleOf l n.1).1
  match cvIn (colsOf a n.1) n.2 r.2.2 (colsOf b r.2.1) [] with
  | (some vs,_)=>cvGo a b l roots (i+1) ns (acc++[(r.2.1,vs)])
  | (none,c)=>(qvl,(Int.ofNat i,c),10)
def convert(a b:List qab)(l:List qaa)(g:qeb):qeb × qsz × Int :=
 if ¬checkRules a b l=0 then (qvl,quv,checkRules a b l)
 else if ¬qo9 a g=0 then (qvl,quv,qo9 a g)
 else cvGo a b l g.2 0 g.1 []
def keeps(l:List qaa)(a b:DCol):Bool :=
 if ¬a.2.1=3 then true
 else if a.2.2=ANY\/b.2.2=ANY then decide (a.2.2=b.2.2)
 else leads l a.2.2 b.2.2
end S
def qqz:Sm:=⟨[.int .i64,.int .i64,.int .i64],[(false,.bool)],fun x=>some (S.within x.1 x.2.1 x.2.2.1,())⟩
def spz1:Sm:=⟨[.list (.int .i64)],[(false,.int .i64)],fun x=>some (S.first x.1,())⟩
def qos:Sm:=⟨[.list cForm,.str],[(false,.int .i64)],fun x=>some (S.form x.1 x.2.1,())⟩
def qpm:Sm:=⟨[.list cCol,.str],[(false,.int .i64)],fun x=>some (S.col x.1 x.2.1,())⟩
def qtg:Sm:=⟨[.list cRule,.str],[(false,cRule),(false,.bool)],fun x=>some ((S.ruleOf x.1 x.2.1).1,(S.ruleOf x.1 x.2.1).2,())⟩
def qrs:Sm:=⟨[.str,.int .u8,.int .u8],[(false,.bool)],fun x=>some (S.named x.1 x.2.1 x.2.2.1,())⟩
def spz2:Sm:=⟨[.list .str,.str],[(false,.int .i64)],fun x=>some (S.index x.1 x.2.1,())⟩
def q5z:Sm:=⟨[.str],[(false,.bool)],fun x=>some (S.class_ x.1,())⟩
def q71:Sm:=⟨[.str],[(false,.bool)],fun x=>some (S.small x.1,())⟩
def spz3:Sm:=⟨[.list cCol],[(false,.int .i64)],fun x=>some (S.checkCols x.1,())⟩
def spz4:Sm:=⟨[.list cForm],[(false,.int .i64)],fun x=>some (S.checkForms x.1,())⟩
def qs3:Sm:=⟨[.list cRule,.str,.str],[(false,.bool)],fun x=>some (S.leads x.1 x.2.1 x.2.2.1,())⟩
def q7x:Sm:=⟨[.list cRule,qar,cCol,cCol],[(false,.bool)],fun x=>some (S.fits x.1 x.2.1 x.2.2.1 x.2.2.2.1,())⟩
def spz5:Sm:=⟨[.list cRule,qar,.list cCol,cCol],[(false,.int .i64)],fun x=>some (S.give x.1 x.2.1 x.2.2.1 x.2.2.2.1,())⟩
def spz6:Sm:=⟨[.list cForm,.list cForm,.list cRule],[(false,.int .i64)],fun x=>some (S.checkRules0 x.1 x.2.1 x.2.2.1,())⟩
def qrw:Sm:=⟨[.list cForm,.list cForm,.list cRule],[(false,.int .i64)],fun x=>some (S.checkRules x.1 x.2.1 x.2.2.1,())⟩
def q6l:Sm:=⟨[.list cRule,cCol,cCol],[(false,.bool)],fun x=>some (S.keeps x.1 x.2.1 x.2.2.1,())⟩
end Go.Proofs.YtcnhjofpmpipfaaGreat

end
end

noncomputable section
set_option maxRecDepth 100000
namespace Go.Proofs.YtcnhjofpmpipfaaGreat
open Go Go.Sx Go.RowKit Go.Jx
abbrev qq3:Type:=Bool × Unit
abbrev zf3:Nat:=86
def q4b(lf:Nat)(x1:Int)(x2:Int)(x3:Int):Option qq3:=(cond (Bool.not (iltI x1 x2)) (some ((Bool.not (iltI x3 x1)),())) (some (false,())))
def qp6(lf:Nat)(x1:Int)(x2:Int)(x3:Int):Option qq3:=q4b lf x1 x2 x3
theorem zgv{g:ElA [(.int .i64),(.int .i64),(.int .i64)]->Option qq3}(hsm:SmOK Tryz.prog [])(hg:∀(x:ElA [(.int .i64),(.int .i64),(.int .i64)]) (y:qq3),WfA [(.int .i64),(.int .i64),(.int .i64)] x->g x=some y->∃lf,qp6 lf x.1 x.2.1 x.2.2.1=some y):Con Tryz.prog 86 ⟨[(.int .i64),(.int .i64),(.int .i64)],[(false,.bool)],g⟩ :=
 conU (fi:=fi86) (hxl:=[]) (fun lf x=>qp6 lf x.1 x.2.1 x.2.2.1) cm3 zek trivial hsm hg
def nmz1:Nat->Option Nm:=fun k=>cond (Nat.beq k 2) (some ⟨[5,6,7],[],[],[],[],0,0,false⟩) (none)
def stz1:Nat->Bool:=fun k=>cond (Nat.beq k 2) true (false)
def hdz1:=stz1
abbrev Rtz1:Type:=Int × Unit
def qyc:List (Nat × Sm):=[]
def q5i:List (Nat × Hx):=[]
def clz1(R:Type)(lf:Nat):ClK R:=qa3 Tryz.prog ttT.get ftT.get (nm1 33 nmz1) (smL qyc) (hxL q5i) lf 20 R
abbrev idz1:Nat:=33
def qhf(x1:(List Int))(p:Int):NRes:=(NRes.mk (.node none (.node none (.node none (.node (some (IV.int .i64 p)) .leaf .leaf) .leaf) (.node (some (IV.lst (TC.int .i64) x1)) .leaf .leaf)) (.node none .leaf (.node (some (IV.int .i64 (Int.ofNat x1.length))) .leaf .leaf))) (IS.mk .leaf 0) [] 0)
def q2p(lf:Nat)(x1:(List Int))(L2:Int->Option Rtz1):Option Rtz1:=(L2 (Int.ofNat 0))
def qnu(lf:Nat)(x1:(List Int))(L2:Int->Option Rtz1)(p:Int):Option Rtz1:=(cond (iltI p (Int.ofNat x1.length)) (match (jget x1 p) with|none=>none|some v0=>(cond (Bool.not (ieqI v0 (Int.ofNat 0))) (some (v0,())) (L2 (IntKind.i64.wrap (Int.add p (Int.ofNat 1)))))) (some ((Int.ofNat 0),())))
abbrev gz1:Type:=ElA [(.list (.int .i64))]->Option Rtz1
abbrev sz1(g:gz1):Sm:=⟨[(.list (.int .i64))],[(false,(.int .i64))],g⟩
abbrev Ez1(g:gz1)(J:JT Rtz1)(lf:Nat)(x1:(List Int)):=qbc Tryz.prog ttT.get nmz1 fi33.nt (clz1 _ lf) lf stz1 J fi33.body [] (qay (argV [(.list (.int .i64))] (x1,())) 0 .leaf) S0 [] (qao ttT.get fi33 (sz1 g))
abbrev Bz1(g:gz1)(J:JT Rtz1)(lf k:Nat)(ms:List Nat)(q:NRes):=qbj Tryz.prog ttT.get nmz1 fi33.nt (clz1 _ lf) lf stz1 J k fi33.body [] ms q (qao ttT.get fi33 (sz1 g))
theorem inz1(g:gz1)(J:JT Rtz1)(lf:Nat)(x1:(List Int)):Ez1 g J lf x1=q2p lf x1 (fun q=>J 2 [lf] (qhf x1 q)):=by kernel_rfl
theorem zn6(g:gz1)(J:JT Rtz1)(lf:Nat)(x1:(List Int))(m1:Nat)(p:Int):Bz1 g J lf 2 [m1] (qhf x1 p)=qnu lf x1 (fun q=>J 2 [m1] (qhf x1 q)) p:=by kernel_rfl
theorem ndz1:(regs fi33.body).Nodup:=by decide +kernel
theorem okz1:okC nmz1 stz1 hdz1 fi33.body none=true:=by kernel_rfl
def Az1(g:gz1)(lf:Nat):JT Rtz1:=atN Tryz.prog ttT.get nmz1 fi33 (sz1 g) (clz1 _ lf) lf hdz1
def qnb(lf:Nat)(x1:(List Int)):Nat->(Int)->Option Rtz1:=qas fun K p=>qnu lf x1 K p
theorem q3p(g:gz1)(lf:Nat)(x1:(List Int)):∀(n:Nat) (p:Int),Az1 g lf 2 [n] (qhf x1 p)=qnb lf x1 n p
 | 0,p=>qax 2 [0] rfl _
 | n+1,p=>by
  have ih:=q3p g lf x1 n;refine(qau (qaq 20 _) ndz1 okz1 2 [n+1] [n] rfl _).trans ((zn6 g (Az1 g lf) lf x1 n p).trans ?_);rw[(show (fun q=>Az1 g lf 2 [n] (qhf x1 q))=(fun q=>qnb lf x1 n q) from funext ih)];rfl
def Fz1(lf:Nat)(x1:(List Int)):Option Rtz1:=q2p lf x1 (fun q=>qnb lf x1 lf q)
theorem q9r(g:gz1)(lf:Nat)(x1:(List Int)):Ez1 g (Az1 g lf) lf x1=Fz1 lf x1:=by
  refine(inz1 g (Az1 g lf) lf x1).trans ?_;rw[(show (fun q=>Az1 g lf 2 [lf] (qhf x1 q))=(fun q=>qnb lf x1 lf q) from funext fun q=>q3p g lf x1 lf q)];rfl
theorem zm4:qbb Tryz.prog q5i:=trivial
theorem mkz1{g:gz1}(hsm:SmOK Tryz.prog qyc)(hg:∀(x:ElA [(.list (.int .i64))]) (y:Rtz1),WfA [(.list (.int .i64))] x->g x=some y->∃lf,Fz1 lf x.1=some y):Con Tryz.prog 33 ⟨[(.list (.int .i64))],[(false,(.int .i64))],g⟩ :=
 conV (st:=stz1) (fun lf x=>Fz1 lf x.1) cm3 zdv zm4 ndz1 okz1 (fun lf x=>q9r g lf x.1) hsm hg
abbrev qox:Type:=Int × Unit
abbrev q9k:Nat:=37
def qw1(lf:Nat)(x1:(List qab))(x2:ByteArray):Option qox:=(match (idxO (fun v0=>(some (keqS v0.1 x2))) x1 0) with|none=>none|some v1=>(some (v1,())))
def qqn(lf:Nat)(x1:(List qab))(x2:ByteArray):Option qox:=qw1 lf x1 x2
theorem zkn{g:ElA [(.list cForm),.str]->Option qox}(hsm:SmOK Tryz.prog [])(hg:∀(x:ElA [(.list cForm),.str]) (y:qox),WfA [(.list cForm),.str] x->g x=some y->∃lf,qqn lf x.1 x.2.1=some y):Con Tryz.prog 37 ⟨[(.list cForm),.str],[(false,(.int .i64))],g⟩ :=
 conU (fi:=fi37) (hxl:=[(117,qqt cForm)]) (fun lf x=>qqn lf x.1 x.2.1) cm3 zpp ⟨q93,trivial⟩ hsm hg
abbrev qoy:Type:=Int × Unit
abbrev zjb:Nat:=85
def qv8(lf:Nat)(x1:(List DCol))(x2:ByteArray):Option qoy:=(match (idxO (fun v0=>(some (keqS v0.1 x2))) x1 0) with|none=>none|some v1=>(some (v1,())))
def qn4(lf:Nat)(x1:(List DCol))(x2:ByteArray):Option qoy:=qv8 lf x1 x2
theorem zas{g:ElA [(.list cCol),.str]->Option qoy}(hsm:SmOK Tryz.prog [])(hg:∀(x:ElA [(.list cCol),.str]) (y:qoy),WfA [(.list cCol),.str] x->g x=some y->∃lf,qn4 lf x.1 x.2.1=some y):Con Tryz.prog 85 ⟨[(.list cCol),.str],[(false,(.int .i64))],g⟩ :=
 conU (fi:=fi85) (hxl:=[(132,qqt cCol)]) (fun lf x=>qn4 lf x.1 x.2.1) cm3 zqp ⟨q8n,trivial⟩ hsm hg
abbrev qmf:Type:=qaa × Bool × Unit
abbrev zfl:Nat:=36
def qxb(lf:Nat)(x1:(List qaa))(x2:ByteArray):Option qmf:=(match (idxO (fun v0=>(some (keqS v0.1 x2))) x1 0) with|none=>none|some v1=>(cond (iltI v1 (Int.ofNat 0)) (some (((S.lit []),((S.lit []),[])),(false,()))) (match (jget x1 v1) with|none=>none|some v2=>(some ((v2.1,(v2.2.1,v2.2.2)),(true,()))))))
def qpq(lf:Nat)(x1:(List qaa))(x2:ByteArray):Option qmf:=qxb lf x1 x2
theorem zao{g:ElA [(.list cRule),.str]->Option qmf}(hsm:SmOK Tryz.prog [])(hg:∀(x:ElA [(.list cRule),.str]) (y:qmf),WfA [(.list cRule),.str] x->g x=some y->∃lf,qpq lf x.1 x.2.1=some y):Con Tryz.prog 36 ⟨[(.list cRule),.str],[(false,cRule),(false,.bool)],g⟩ :=
 conU (fi:=fi36) (hxl:=[(97,qqt cRule)]) (fun lf x=>qpq lf x.1 x.2.1) cm3 zag ⟨q0x,trivial⟩ hsm hg
abbrev qn7:Type:=Bool × Unit
abbrev zoy:Nat:=121
def qxa(lf:Nat)(x1:ByteArray)(x2:Int)(x3:Int):Option qn7:=(cond (keqS x1 (S.lit [])) (some (false,())) (cond (iltI (Int.ofNat 20) (Int.ofNat x1.size)) (some (false,())) (match (jget (qad x1) (Int.ofNat 0)) with|none=>none|some v0=>(cond (iltI v0 x2) (some (false,())) (match (jget (qad x1) (Int.ofNat 0)) with|none=>none|some v1=>(cond (iltI x3 v1) (some (false,())) (match (sixO (fun v2 v3=>(cond (Bool.not (iltI v3 (IntKind.wrap IntKind.i32 x2))) (cond (Bool.not (iltI (IntKind.wrap IntKind.i32 x3) v3)) (some false) (cond (Bool.not (iltI v3 (Int.ofNat 48))) (cond (Bool.not (iltI (Int.ofNat 57) v3)) (some false) (some (Bool.not (ieqI v3 (Int.ofNat 95))))) (some (Bool.not (ieqI v3 (Int.ofNat 95)))))) (cond (Bool.not (iltI v3 (Int.ofNat 48))) (cond (Bool.not (iltI (Int.ofNat 57) v3)) (some false) (some (Bool.not (ieqI v3 (Int.ofNat 95))))) (some (Bool.not (ieqI v3 (Int.ofNat 95))))))) x1 true (Nat.add x1.size 1) 0) with|none=>none|some v4=>(some ((iltI v4 (Int.ofNat 0)),())))))))))
def qqi(lf:Nat)(x1:ByteArray)(x2:Int)(x3:Int):Option qn7:=qxa lf x1 x2 x3
theorem zm3{g:ElA [.str,(.int .u8),(.int .u8)]->Option qn7}(hsm:SmOK Tryz.prog [])(hg:∀(x:ElA [.str,(.int .u8),(.int .u8)]) (y:qn7),WfA [.str,(.int .u8),(.int .u8)] x->g x=some y->∃lf,qqi lf x.1 x.2.1 x.2.2.1=some y):Con Tryz.prog 121 ⟨[.str,(.int .u8),(.int .u8)],[(false,.bool)],g⟩ :=
 conU (fi:=quh) (hxl:=[(144,zdk)]) (fun lf x=>qqi lf x.1 x.2.1 x.2.2.1) cm3 q8y ⟨q8v,trivial⟩ hsm hg
def nmz2:Nat->Option Nm:=fun k=>cond (Nat.beq k 2) (some ⟨[0,1,7,8],[],[],[],[],0,0,false⟩) (none)
def stz2:Nat->Bool:=fun k=>cond (Nat.beq k 2) true (false)
def hdz2:=stz2
abbrev Rtz2:Type:=Int × Unit
def q2v:List (Nat × Sm):=[]
def qy8:List (Nat × Hx):=[]
def clz2(R:Type)(lf:Nat):ClK R:=qa3 Tryz.prog ttT.get ftT.get (nm1 136 nmz2) (smL q2v) (hxL qy8) lf 20 R
abbrev idz2:Nat:=136
def qh2(x1:(List ByteArray))(x2:ByteArray)(p:Int):NRes:=(NRes.mk (.node (some (IV.lst TC.str x1)) (.node (some (IV.str x2)) (.node none (.node (some (IV.int .i64 (Int.ofNat x1.length))) .leaf .leaf) .leaf) .leaf) (.node none (.node none (.node (some (IV.int .i64 p)) .leaf .leaf) .leaf) .leaf)) (IS.mk .leaf 0) [] 0)
def q4y(lf:Nat)(x1:(List ByteArray))(x2:ByteArray)(L2:Int->Option Rtz2):Option Rtz2:=(L2 (Int.ofNat 0))
def qnx(lf:Nat)(x1:(List ByteArray))(x2:ByteArray)(L2:Int->Option Rtz2)(p:Int):Option Rtz2:=(cond (iltI p (Int.ofNat x1.length)) (match (jget x1 p) with|none=>none|some v0=>(cond (keqS x2 v0) (some (p,())) (L2 (IntKind.i64.wrap (Int.add p (Int.ofNat 1)))))) (some ((Int.negSucc 0),())))
abbrev gz2:Type:=ElA [(.list .str),.str]->Option Rtz2
abbrev sz2(g:gz2):Sm:=⟨[(.list .str),.str],[(false,(.int .i64))],g⟩
abbrev Ez2(g:gz2)(J:JT Rtz2)(lf:Nat)(x1:(List ByteArray))(x2:ByteArray):=qbc Tryz.prog ttT.get nmz2 qda.nt (clz2 _ lf) lf stz2 J qda.body [] (qay (argV [(.list .str),.str] (x1,x2,())) 0 .leaf) S0 [] (qao ttT.get qda (sz2 g))
abbrev Bz2(g:gz2)(J:JT Rtz2)(lf k:Nat)(ms:List Nat)(q:NRes):=qbj Tryz.prog ttT.get nmz2 qda.nt (clz2 _ lf) lf stz2 J k qda.body [] ms q (qao ttT.get qda (sz2 g))
theorem inz2(g:gz2)(J:JT Rtz2)(lf:Nat)(x1:(List ByteArray))(x2:ByteArray):Ez2 g J lf x1 x2=q4y lf x1 x2 (fun q=>J 2 [lf] (qh2 x1 x2 q)):=by kernel_rfl
theorem q8o(g:gz2)(J:JT Rtz2)(lf:Nat)(x1:(List ByteArray))(x2:ByteArray)(m1:Nat)(p:Int):Bz2 g J lf 2 [m1] (qh2 x1 x2 p)=qnx lf x1 x2 (fun q=>J 2 [m1] (qh2 x1 x2 q)) p:=by kernel_rfl
theorem ndz2:(regs qda.body).Nodup:=by decide +kernel
theorem okz2:okC nmz2 stz2 hdz2 qda.body none=true:=by kernel_rfl
def Az2(g:gz2)(lf:Nat):JT Rtz2:=atN Tryz.prog ttT.get nmz2 qda (sz2 g) (clz2 _ lf) lf hdz2
def qmw(lf:Nat)(x1:(List ByteArray))(x2:ByteArray):Nat->(Int)->Option Rtz2:=qas fun K p=>qnx lf x1 x2 K p
theorem q5t(g:gz2)(lf:Nat)(x1:(List ByteArray))(x2:ByteArray):∀(n:Nat) (p:Int),Az2 g lf 2 [n] (qh2 x1 x2 p)=qmw lf x1 x2 n p
 | 0,p=>qax 2 [0] rfl _
 | n+1,p=>by
  have ih:=q5t g lf x1 x2 n;refine(qau (qaq 20 _) ndz2 okz2 2 [n+1] [n] rfl _).trans ((q8o g (Az2 g lf) lf x1 x2 n p).trans ?_);rw[(show (fun q=>Az2 g lf 2 [n] (qh2 x1 x2 q))=(fun q=>qmw lf x1 x2 n q) from funext ih)];rfl
def Fz2(lf:Nat)(x1:(List ByteArray))(x2:ByteArray):Option Rtz2:=q4y lf x1 x2 (fun q=>qmw lf x1 x2 lf q)
theorem zkh(g:gz2)(lf:Nat)(x1:(List ByteArray))(x2:ByteArray):Ez2 g (Az2 g lf) lf x1 x2=Fz2 lf x1 x2:=by
  refine(inz2 g (Az2 g lf) lf x1 x2).trans ?_;rw[(show (fun q=>Az2 g lf 2 [lf] (qh2 x1 x2 q))=(fun q=>qmw lf x1 x2 lf q) from funext fun q=>q5t g lf x1 x2 lf q)];rfl
theorem zer:qbb Tryz.prog qy8:=trivial
theorem mkz2{g:gz2}(hsm:SmOK Tryz.prog q2v)(hg:∀(x:ElA [(.list .str),.str]) (y:Rtz2),WfA [(.list .str),.str] x->g x=some y->∃lf,Fz2 lf x.1 x.2.1=some y):Con Tryz.prog 136 ⟨[(.list .str),.str],[(false,(.int .i64))],g⟩ :=
 conV (st:=stz2) (fun lf x=>Fz2 lf x.1 x.2.1) cm3 q9z zer ndz2 okz2 (fun lf x=>zkh g lf x.1 x.2.1) hsm hg
abbrev qnv:Type:=Bool × Unit
abbrev zb3:Nat:=89
def q45(lf:Nat)(x1:ByteArray):Option qnv:=(cond (S.named x1 (Int.ofNat 65) (Int.ofNat 90)) (some ((Bool.not (Bool.not (iltI (S.index (List.cons (S.lit [73,78,84,69,71,69,82]) (List.cons (S.lit [66,79,79,76,69,65,78]) (List.cons (S.lit [65,78,89]) [(S.lit [78,79,78,69])]))) x1) (Int.ofNat 0)))),())) (some (false,())))
def qot(lf:Nat)(x1:ByteArray):Option qnv:=q45 lf x1
theorem zmv{g:ElA [.str]->Option qnv}(hsm:SmOK Tryz.prog [(121,qrs),(136,spz2)])(hg:∀(x:ElA [.str]) (y:qnv),WfA [.str] x->g x=some y->∃lf,qot lf x.1=some y):Con Tryz.prog 89 ⟨[.str],[(false,.bool)],g⟩ :=
 conU (fi:=fi89) (hxl:=[]) (fun lf x=>qot lf x.1) cm3 zob trivial hsm hg
abbrev qqb:Type:=Bool × Unit
abbrev zac:Nat:=123
def qwq(lf:Nat)(x1:ByteArray):Option qqb:=(cond (S.named x1 (Int.ofNat 97) (Int.ofNat 122)) (some ((Bool.not (Bool.not (iltI (S.index (List.cons (S.lit [116,114,117,101]) (List.cons (S.lit [102,97,108,115,101]) (List.cons (S.lit [118,111,105,100]) (List.cons (S.lit [99,117,114,114,101,110,116]) [(S.lit [114,101,115,117,108,116])])))) x1) (Int.ofNat 0)))),())) (some (false,())))
def qor(lf:Nat)(x1:ByteArray):Option qqb:=qwq lf x1
theorem zfh{g:ElA [.str]->Option qqb}(hsm:SmOK Tryz.prog [(121,qrs),(136,spz2)])(hg:∀(x:ElA [.str]) (y:qqb),WfA [.str] x->g x=some y->∃lf,qor lf x.1=some y):Con Tryz.prog 123 ⟨[.str],[(false,.bool)],g⟩ :=
 conU (fi:=qu4) (hxl:=[]) (fun lf x=>qor lf x.1) cm3 znn trivial hsm hg
def nmz3:Nat->Option Nm:=fun k=>cond (Nat.beq k 4) (some ⟨[0,8,9,10],[],[],[],[],0,0,false⟩) (none)
def stz3:Nat->Bool:=fun k=>cond (Nat.beq k 4) true (false)
def hdz3:=stz3
abbrev Rtz3:Type:=Int × Unit
def q2e:List (Nat × Sm):=[(123,q71),(85,qpm),(86,qqz)]
def qv5:List (Nat × Hx):=[]
def clz3(R:Type)(lf:Nat):ClK R:=qa3 Tryz.prog ttT.get ftT.get (nm1 90 nmz3) (smL q2e) (hxL qv5) lf 20 R
abbrev idz3:Nat:=90
def qhc(x1:(List DCol))(p:Int):NRes:=(NRes.mk (.node (some (IV.lst cCol x1)) (.node none .leaf (.node none (.node (some (IV.int .i64 (Int.ofNat x1.length))) .leaf .leaf) .leaf)) (.node none (.node none (.node (some (IV.lst cCol x1)) .leaf .leaf) .leaf) (.node none (.node (some (IV.int .i64 p)) .leaf .leaf) .leaf))) (IS.mk .leaf 0) [] 0)
def qsc(lf:Nat)(x1:(List DCol))(L4:Int->Option Rtz3):Option Rtz3:=(cond (iltI (Int.ofNat 30) (Int.ofNat x1.length)) (some ((Int.ofNat 3),())) (L4 (Int.ofNat 0)))
def qms(lf:Nat)(x1:(List DCol))(L4:Int->Option Rtz3)(p:Int):Option Rtz3:=(cond (iltI p (Int.ofNat x1.length)) (match (jget x1 p) with|none=>none|some v0=>(cond (Bool.not (S.small v0.1)) (some ((Int.ofNat 4),())) (cond (lchk (Int.ofNat 0) p (Int.ofNat x1.length) (Int.ofNat x1.length)) (cond (Bool.not (iltI (S.col (lsub x1 (Int.ofNat 0) p) v0.1) (Int.ofNat 0))) (some ((Int.ofNat 6),())) (cond (Bool.not (S.within v0.2.1 (Int.ofNat 1) (Int.ofNat 3))) (some ((Int.ofNat 1),())) (cond (Bool.not (ieqI v0.2.1 (Int.ofNat 3))) (cond (Bool.not (keqS v0.2.2 (S.lit []))) (some ((Int.ofNat 1),())) (L4 (IntKind.i64.wrap (Int.add p (Int.ofNat 1))))) (L4 (IntKind.i64.wrap (Int.add p (Int.ofNat 1))))))) none))) (some ((Int.ofNat 0),())))
abbrev gz3:Type:=ElA [(.list cCol)]->Option Rtz3
abbrev sz3(g:gz3):Sm:=⟨[(.list cCol)],[(false,(.int .i64))],g⟩
abbrev Ez3(g:gz3)(J:JT Rtz3)(lf:Nat)(x1:(List DCol)):=qbc Tryz.prog ttT.get nmz3 fi90.nt (clz3 _ lf) lf stz3 J fi90.body [] (qay (argV [(.list cCol)] (x1,())) 0 .leaf) S0 [] (qao ttT.get fi90 (sz3 g))
abbrev Bz3(g:gz3)(J:JT Rtz3)(lf k:Nat)(ms:List Nat)(q:NRes):=qbj Tryz.prog ttT.get nmz3 fi90.nt (clz3 _ lf) lf stz3 J k fi90.body [] ms q (qao ttT.get fi90 (sz3 g))
theorem inz3(g:gz3)(J:JT Rtz3)(lf:Nat)(x1:(List DCol)):Ez3 g J lf x1=qsc lf x1 (fun q=>J 4 [lf] (qhc x1 q)):=by kernel_rfl
theorem zo1(g:gz3)(J:JT Rtz3)(lf:Nat)(x1:(List DCol))(m1:Nat)(p:Int):Bz3 g J lf 4 [m1] (qhc x1 p)=qms lf x1 (fun q=>J 4 [m1] (qhc x1 q)) p:=by kernel_rfl
theorem ndz3:(regs fi90.body).Nodup:=by decide +kernel
theorem okz3:okC nmz3 stz3 hdz3 fi90.body none=true:=by kernel_rfl
def Az3(g:gz3)(lf:Nat):JT Rtz3:=atN Tryz.prog ttT.get nmz3 fi90 (sz3 g) (clz3 _ lf) lf hdz3
def qnq(lf:Nat)(x1:(List DCol)):Nat->(Int)->Option Rtz3:=qas fun K p=>qms lf x1 K p
theorem q2d(g:gz3)(lf:Nat)(x1:(List DCol)):∀(n:Nat) (p:Int),Az3 g lf 4 [n] (qhc x1 p)=qnq lf x1 n p
 | 0,p=>qax 4 [0] rfl _
 | n+1,p=>by
  have ih:=q2d g lf x1 n;refine(qau (qaq 20 _) ndz3 okz3 4 [n+1] [n] rfl _).trans ((zo1 g (Az3 g lf) lf x1 n p).trans ?_);rw[(show (fun q=>Az3 g lf 4 [n] (qhc x1 q))=(fun q=>qnq lf x1 n q) from funext ih)];rfl
def Fz3(lf:Nat)(x1:(List DCol)):Option Rtz3:=qsc lf x1 (fun q=>qnq lf x1 lf q)
theorem zja(g:gz3)(lf:Nat)(x1:(List DCol)):Ez3 g (Az3 g lf) lf x1=Fz3 lf x1:=by
  refine(inz3 g (Az3 g lf) lf x1).trans ?_;rw[(show (fun q=>Az3 g lf 4 [lf] (qhc x1 q))=(fun q=>qnq lf x1 lf q) from funext fun q=>q2d g lf x1 lf q)];rfl
theorem zo6:qbb Tryz.prog qv5:=trivial
theorem mkz3{g:gz3}(hsm:SmOK Tryz.prog q2e)(hg:∀(x:ElA [(.list cCol)]) (y:Rtz3),WfA [(.list cCol)] x->g x=some y->∃lf,Fz3 lf x.1=some y):Con Tryz.prog 90 ⟨[(.list cCol)],[(false,(.int .i64))],g⟩ :=
 conV (st:=stz3) (fun lf x=>Fz3 lf x.1) cm3 zab zo6 ndz3 okz3 (fun lf x=>zja g lf x.1) hsm hg
def nmz4:Nat->Option Nm:=fun k=>cond (Nat.beq k 4) (some ⟨[0,13,14,15],[],[],[],[],0,0,false⟩) (cond (Nat.beq k 11) (some ⟨[0,41,42,43],[],[],[],[],0,0,false⟩) (cond (Nat.beq k 14) (some ⟨[0,41,42,43,48,49,50],[],[],[],[],0,0,false⟩) (none)))
def stz4:Nat->Bool:=fun k=>cond (Nat.beq k 4) true (cond (Nat.beq k 11) true (cond (Nat.beq k 14) true (false)))
def hdz4:=stz4
abbrev Rtz4:Type:=Int × Unit
def q2u:List (Nat × Sm):=[(89,q5z),(37,qos),(90,spz3),(33,spz1)]
def q1n:List (Nat × Hx):=[]
def clz4(R:Type)(lf:Nat):ClK R:=qa3 Tryz.prog ttT.get ftT.get (nm1 44 nmz4) (smL q2u) (hxL q1n) lf 20 R
abbrev idz4:Nat:=44
def qh4(x1:(List qab))(p:Int):NRes:=(NRes.mk (.node (some (IV.lst cForm x1)) (.node none (.node none (.node none (.node (some (IV.int .i64 p)) .leaf .leaf) .leaf) .leaf) (.node none .leaf (.node (some (IV.lst cForm x1)) .leaf .leaf))) (.node none .leaf (.node none .leaf (.node (some (IV.int .i64 (Int.ofNat x1.length))) .leaf .leaf)))) (IS.mk .leaf 0) [] 0)
def qdy(x1:(List qab))(p:Int):NRes:=(NRes.mk (.node (some (IV.lst cForm x1)) (.node none (.node none .leaf (.node none .leaf (.node none (.node (some (IV.int .i64 p)) .leaf .leaf) .leaf))) (.node none (.node none .leaf (.node none (.node (some (IV.lst cForm x1)) .leaf .leaf) .leaf)) .leaf)) (.node none .leaf (.node none (.node none .leaf (.node none (.node (some (IV.int .i64 (Int.ofNat x1.length))) .leaf .leaf) .leaf)) .leaf))) (IS.mk .leaf 0) [] 0)
def qg4(x1:(List qab))(p:(List DCol) × Int × Int):NRes:=(NRes.mk (.node (some (IV.lst cForm x1)) (.node none (.node none .leaf (.node none .leaf (.node none (.node (some (IV.int .i64 p.2.2)) .leaf .leaf) .leaf))) (.node none (.node none (.node none .leaf (.node (some (IV.int .i64 (Int.ofNat p.1.length))) .leaf .leaf)) (.node none (.node (some (IV.lst cForm x1)) .leaf .leaf) .leaf)) .leaf)) (.node none (.node none (.node none (.node none .leaf (.node (some (IV.lst cCol p.1)) .leaf .leaf)) .leaf) .leaf) (.node none (.node none (.node none .leaf (.node (some (IV.int .i64 p.2.1)) .leaf .leaf)) (.node none (.node (some (IV.int .i64 (Int.ofNat x1.length))) .leaf .leaf) .leaf)) .leaf))) (IS.mk .leaf 0) [] 0)
def qul(lf:Nat)(x1:(List qab))(L4:Int->Option Rtz4):Option Rtz4:=(cond (iltI (Int.ofNat 24) (Int.ofNat x1.length)) (some ((Int.ofNat 3),())) (L4 (Int.ofNat 0)))
def qou(lf:Nat)(x1:(List qab))(L4:Int->Option Rtz4)(L11:Int->Option Rtz4)(p:Int):Option Rtz4:=(cond (iltI p (Int.ofNat x1.length)) (match (jget x1 p) with|none=>none|some v0=>(cond (S.class_ v0.1) (cond (lchk (Int.ofNat 0) p (Int.ofNat x1.length) (Int.ofNat x1.length)) (cond (iltI (S.form (lsub x1 (Int.ofNat 0) p) v0.1) (Int.ofNat 0)) (cond (Bool.not (ieqI (S.first (List.cons (Int.ofNat 0) (List.cons (Int.ofNat 0) [(S.checkCols v0.2)]))) (Int.ofNat 0))) (some ((S.first (List.cons (Int.ofNat 0) (List.cons (Int.ofNat 0) [(S.checkCols v0.2)]))),())) (L4 (IntKind.i64.wrap (Int.add p (Int.ofNat 1))))) (cond (Bool.not (ieqI (S.first (List.cons (Int.ofNat 0) (List.cons (Int.ofNat 6) [(S.checkCols v0.2)]))) (Int.ofNat 0))) (some ((S.first (List.cons (Int.ofNat 0) (List.cons (Int.ofNat 6) [(S.checkCols v0.2)]))),())) (L4 (IntKind.i64.wrap (Int.add p (Int.ofNat 1)))))) none) (cond (lchk (Int.ofNat 0) p (Int.ofNat x1.length) (Int.ofNat x1.length)) (cond (iltI (S.form (lsub x1 (Int.ofNat 0) p) v0.1) (Int.ofNat 0)) (cond (Bool.not (ieqI (S.first (List.cons (Int.ofNat 4) (List.cons (Int.ofNat 0) [(S.checkCols v0.2)]))) (Int.ofNat 0))) (some ((S.first (List.cons (Int.ofNat 4) (List.cons (Int.ofNat 0) [(S.checkCols v0.2)]))),())) (L4 (IntKind.i64.wrap (Int.add p (Int.ofNat 1))))) (cond (Bool.not (ieqI (S.first (List.cons (Int.ofNat 4) (List.cons (Int.ofNat 6) [(S.checkCols v0.2)]))) (Int.ofNat 0))) (some ((S.first (List.cons (Int.ofNat 4) (List.cons (Int.ofNat 6) [(S.checkCols v0.2)]))),())) (L4 (IntKind.i64.wrap (Int.add p (Int.ofNat 1)))))) none))) (L11 (Int.ofNat 0)))
def qop(lf:Nat)(x1:(List qab))(L14:((List DCol) × Int × Int)->Option Rtz4)(p:Int):Option Rtz4:=(cond (iltI p (Int.ofNat x1.length)) (match (jget x1 p) with|none=>none|some v0=>(L14 (v0.2,(Int.ofNat 0),p))) (some ((Int.ofNat 0),())))
def qm2(lf:Nat)(x1:(List qab))(L14:((List DCol) × Int × Int)->Option Rtz4)(L11:Int->Option Rtz4)(p:(List DCol) × Int × Int):Option Rtz4:=(cond (iltI p.2.1 (Int.ofNat p.1.length)) (match (jget p.1 p.2.1) with|none=>none|some v0=>(cond (ieqI v0.2.1 (Int.ofNat 3)) (cond (Bool.not (keqS v0.2.2 (S.lit [65,78,89]))) (cond (iltI (S.form x1 v0.2.2) (Int.ofNat 0)) (some ((Int.ofNat 5),())) (L14 (p.1,(IntKind.i64.wrap (Int.add p.2.1 (Int.ofNat 1))),p.2.2))) (L14 (p.1,(IntKind.i64.wrap (Int.add p.2.1 (Int.ofNat 1))),p.2.2))) (L14 (p.1,(IntKind.i64.wrap (Int.add p.2.1 (Int.ofNat 1))),p.2.2)))) (L11 (IntKind.i64.wrap (Int.add p.2.2 (Int.ofNat 1)))))
abbrev gz4:Type:=ElA [(.list cForm)]->Option Rtz4
abbrev sz4(g:gz4):Sm:=⟨[(.list cForm)],[(false,(.int .i64))],g⟩
abbrev Ez4(g:gz4)(J:JT Rtz4)(lf:Nat)(x1:(List qab)):=qbc Tryz.prog ttT.get nmz4 fi44.nt (clz4 _ lf) lf stz4 J fi44.body [] (qay (argV [(.list cForm)] (x1,())) 0 .leaf) S0 [] (qao ttT.get fi44 (sz4 g))
abbrev Bz4(g:gz4)(J:JT Rtz4)(lf k:Nat)(ms:List Nat)(q:NRes):=qbj Tryz.prog ttT.get nmz4 fi44.nt (clz4 _ lf) lf stz4 J k fi44.body [] ms q (qao ttT.get fi44 (sz4 g))
theorem inz4(g:gz4)(J:JT Rtz4)(lf:Nat)(x1:(List qab)):Ez4 g J lf x1=qul lf x1 (fun q=>J 4 [lf] (qh4 x1 q)):=by kernel_rfl
theorem zf5(g:gz4)(J:JT Rtz4)(lf:Nat)(x1:(List qab))(m1:Nat)(p:Int):Bz4 g J lf 4 [m1] (qh4 x1 p)=qou lf x1 (fun q=>J 4 [m1] (qh4 x1 q)) (fun q=>J 11 [lf] (qdy x1 q)) p:=by kernel_rfl
theorem zhw(g:gz4)(J:JT Rtz4)(lf:Nat)(x1:(List qab))(m1:Nat)(p:Int):Bz4 g J lf 11 [m1] (qdy x1 p)=qop lf x1 (fun q=>J 14 [m1,lf] (qg4 x1 q)) p:=by kernel_rfl
theorem zhq(g:gz4)(J:JT Rtz4)(lf:Nat)(x1:(List qab))(m1:Nat)(m2:Nat)(p:(List DCol) × Int × Int):Bz4 g J lf 14 [m1,m2] (qg4 x1 p)=qm2 lf x1 (fun q=>J 14 [m1,m2] (qg4 x1 q)) (fun q=>J 11 [m1] (qdy x1 q)) p:=by kernel_rfl
theorem ndz4:(regs fi44.body).Nodup:=by decide +kernel
theorem okz4:okC nmz4 stz4 hdz4 fi44.body none=true:=by kernel_rfl
def Az4(g:gz4)(lf:Nat):JT Rtz4:=atN Tryz.prog ttT.get nmz4 fi44 (sz4 g) (clz4 _ lf) lf hdz4
def qj4(lf:Nat)(x1:(List qab))(K11:Int->Option Rtz4):Nat->((List DCol) × Int × Int)->Option Rtz4:=qas fun K p=>qm2 lf x1 K K11 p
theorem q3d(g:gz4)(lf:Nat)(x1:(List qab))(m1:Nat):∀(n:Nat) (p:(List DCol) × Int × Int),Az4 g lf 14 [m1,n] (qg4 x1 p)=qj4 lf x1 (fun q=>Az4 g lf 11 [m1] (qdy x1 q)) n p
 | 0,p=>qax 14 [m1,0] rfl _
 | n+1,p=>by
  have ih:=q3d g lf x1 m1 n;refine(qau (qaq 20 _) ndz4 okz4 14 [m1,n+1] [m1,n] rfl _).trans ((zhq g (Az4 g lf) lf x1 m1 n p).trans ?_);rw[(show (fun q=>Az4 g lf 14 [m1,n] (qg4 x1 q))=(fun q=>qj4 lf x1 (fun q=>Az4 g lf 11 [m1] (qdy x1 q)) n q) from funext ih)];rfl
def qi4(lf:Nat)(x1:(List qab)):Nat->(Int)->Option Rtz4:=qas fun K p=>qop lf x1 (fun q=>qj4 lf x1 K lf q) p
theorem q47(g:gz4)(lf:Nat)(x1:(List qab)):∀(n:Nat) (p:Int),Az4 g lf 11 [n] (qdy x1 p)=qi4 lf x1 n p
 | 0,p=>qax 11 [0] rfl _
 | n+1,p=>by
  have ih:=q47 g lf x1 n;refine(qau (qaq 20 _) ndz4 okz4 11 [n+1] [n] rfl _).trans ((zhw g (Az4 g lf) lf x1 n p).trans ?_);rw[(show (fun q=>Az4 g lf 14 [n,lf] (qg4 x1 q))=(fun q=>qj4 lf x1 (fun q=>Az4 g lf 11 [n] (qdy x1 q)) lf q) from funext fun q=>q3d g lf x1 n lf q),(show (fun q=>Az4 g lf 11 [n] (qdy x1 q))=(fun q=>qi4 lf x1 n q) from funext ih)];rfl
def qnc(lf:Nat)(x1:(List qab)):Nat->(Int)->Option Rtz4:=qas fun K p=>qou lf x1 K (fun q=>qi4 lf x1 lf q) p
theorem qw3(g:gz4)(lf:Nat)(x1:(List qab)):∀(n:Nat) (p:Int),Az4 g lf 4 [n] (qh4 x1 p)=qnc lf x1 n p
 | 0,p=>qax 4 [0] rfl _
 | n+1,p=>by
  have ih:=qw3 g lf x1 n;refine(qau (qaq 20 _) ndz4 okz4 4 [n+1] [n] rfl _).trans ((zf5 g (Az4 g lf) lf x1 n p).trans ?_);rw[(show (fun q=>Az4 g lf 11 [lf] (qdy x1 q))=(fun q=>qi4 lf x1 lf q) from funext fun q=>q47 g lf x1 lf q),(show (fun q=>Az4 g lf 4 [n] (qh4 x1 q))=(fun q=>qnc lf x1 n q) from funext ih)];rfl
def Fz4(lf:Nat)(x1:(List qab)):Option Rtz4:=qul lf x1 (fun q=>qnc lf x1 lf q)
theorem zd6(g:gz4)(lf:Nat)(x1:(List qab)):Ez4 g (Az4 g lf) lf x1=Fz4 lf x1:=by
  refine(inz4 g (Az4 g lf) lf x1).trans ?_;rw[(show (fun q=>Az4 g lf 4 [lf] (qh4 x1 q))=(fun q=>qnc lf x1 lf q) from funext fun q=>qw3 g lf x1 lf q)];rfl
theorem zan:qbb Tryz.prog q1n:=trivial
theorem mkz4{g:gz4}(hsm:SmOK Tryz.prog q2u)(hg:∀(x:ElA [(.list cForm)]) (y:Rtz4),WfA [(.list cForm)] x->g x=some y->∃lf,Fz4 lf x.1=some y):Con Tryz.prog 44 ⟨[(.list cForm)],[(false,(.int .i64))],g⟩ :=
 conV (st:=stz4) (fun lf x=>Fz4 lf x.1) cm3 zmp zan ndz4 okz4 (fun lf x=>zd6 g lf x.1) hsm hg
theorem q7u(lf:Nat)(n lo hi:Int):qp6 lf n lo hi=some (S.within n lo hi,()):=by
 simp only[qp6,q4b,S.within,qan,qfv];by_cases h1:n<lo
 ·simp[h1];omega
 ·by_cases h2:hi<n<;>simp [h1,h2]<;>omega
theorem qr4:Con Tryz.prog zf3 qqz:=zgv trivial fun x y _ h=>⟨0,(q7u _ _ _ _).trans h⟩
theorem zaq(l:List Int)(hl:l.length<LF):Fz1 LF l=some (S.first l,()):=by
 refine qbm (R:=Rtz1) l (fun rest _=>some (S.first rest,())) hl (fun K=>?_) (fun K i v rest r h=>?_)
 ·simp only[qnu,qaw,jae];rfl
 ·simp only[qnu,r.ilt,r.get,r.next,h,jab,S.first,qa0,qfv];by_cases hv:v=0
  ·simp[hv]
  ·simp[hv]
theorem qpf:Con Tryz.prog idz1 spz1:=mkz1 trivial fun x y hx h=>⟨LF,(zaq _ (qbf hx.1)).trans h⟩
theorem zgl(lf:Nat)(l:List qab)(n:ByteArray):qqn lf l n=some (S.form l n,()):=by
 simp only[qqn,qw1];rw[qm9 (l:=l) (fun f:qab=>keqS f.1 n) fun x _=>rfl];rfl
theorem qiv:Con Tryz.prog q9k qos:=zkn trivial fun x y _ h=>⟨0,(zgl _ _ _).trans h⟩
theorem zj3(lf:Nat)(l:List DCol)(n:ByteArray):qn4 lf l n=some (S.col l n,()):=by
 simp only[qn4,qv8];rw[qm9 (l:=l) (fun f:DCol=>keqS f.1 n) fun x _=>rfl];rfl
theorem qvd:Con Tryz.prog zjb qpm:=zas trivial fun x y _ h=>⟨0,(zj3 _ _ _).trans h⟩
theorem zkx(lf:Nat)(l:List qaa)(n:ByteArray):qpq lf l n=some ((S.ruleOf l n).1,(S.ruleOf l n).2,()):=by
 simp only[qpq,qxb];rw[qm9 (l:=l) (fun f:qaa=>keqS f.1 n) fun x _=>rfl];simp only[qan,qfv];by_cases h:S.idx (fun f:qaa=>keqS f.1 n) l<0
 ·have:=S.idx_neg h;simp only[S.ruleOf,this];rw[jam (by simpa using h)];rfl
 ·obtain⟨x,h1,h2,h3,h4,h5,h6⟩:=S.idx_get (p:=fun f:qaa=>keqS f.1 n) (l:=l) (by omega);simp only[S.ruleOf,h6,h1];rw[jak (by simpa using h)]
theorem q6v:Con Tryz.prog zfl qtg:=zao trivial fun x y _ h=>⟨0,(zkx _ _ _).trans h⟩
theorem q1u{s:ByteArray}(h:0<s.size):∃b,(qad s)[0]?=some b:=by
 unfold qad;have:0<s.data.toList.length:=by simpa using h
 exact⟨_,by rw[jbw,jac this];rfl⟩
theorem q38{s:ByteArray}(h:¬s=S.lit []):0<s.size:=by
 rcases jeb s.size with h0|h0
 ·exfalso;apply h;obtain⟨a⟩:=s;have:a=#[]:=by simpa [ByteArray.size] using h0
  rw[this];rfl
 ·exact h0
theorem zqa(lf:Nat)(s:ByteArray)(lo hi:Int)(h1:IntKind.u8.wrap lo=lo)(h2:IntKind.u8.wrap hi=hi):qqi lf s lo hi=some (S.named s lo hi,()):=by
 have w1:IntKind.i32.wrap lo=lo:=by rw[qk8] at *;simp [IntKind.min,IntKind.max,IntKind.bits,IntKind.signed] at *;omega
 have w2:IntKind.i32.wrap hi=hi:=by rw[qk8] at *;simp [IntKind.min,IntKind.max,IntKind.bits,IntKind.signed] at *;omega
 simp only[qqi,qxa,S.named,w1,w2];by_cases hs:s=S.lit []
 ·subst hs;simp [keqS]
 have hp:=q38 hs;rw[jak hs,show keqS s (S.lit [])=false by simp[keqS,hs],jae];by_cases h20:20<s.size
 ·rw[jam h20,show iltI (Int.ofNat 20) (Int.ofNat s.size)=true by rw[qan];exact jaj (jea.2 h20),jab]
 rw[jak h20,show iltI (Int.ofNat 20) (Int.ofNat s.size)=false by rw[qan];simp;omega,jae];obtain⟨b,hb⟩:=q1u hp;have hj:jget (qad s) (Int.ofNat 0)=some b:=by rw[qbw,hb]
 simp only[hj,hb,qan,qfv,jax];by_cases hlo:b<lo
 ·rw[jam hlo,jam hlo]
 rw[jak hlo,jak hlo];by_cases hhi:hi<b
 ·rw[jam hhi,jam hhi]
 rw[jak hhi,jak hhi];have e:(fun(v2:Nat) (v3:Int)=>(if (!decide (v3<lo))=true then if (!decide (hi<v3))=true then some false else if (!decide (v3<Int.ofNat 48))=true then if (!decide (Int.ofNat 57<v3))=true then some false else some (!ieqI v3 (Int.ofNat 95)) else some (!ieqI v3 (Int.ofNat 95)) else if (!decide (v3<Int.ofNat 48))=true then if (!decide (Int.ofNat 57<v3))=true then some false else some (!ieqI v3 (Int.ofNat 95)) else some (!ieqI v3 (Int.ofNat 95)):Option Bool))=fun _ r=>some (S.badR r lo hi):=by
  funext _ r;have e48:Int.ofNat 48=48:=rfl;have e57:Int.ofNat 57=57:=rfl;have e95:Int.ofNat 95=95:=rfl;simp only[S.badR,qa0,e48,e57,e95];by_cases a:r<lo<;>by_cases b:hi<r<;>by_cases c:r<48<;>by_cases d:57<r<;>by_cases e:r=95<;>simp [a,b,c,d,e]<;>omega
 rw[e];have e0:Int.ofNat 0=0:=rfl;obtain⟨k,hk⟩:=qr5 (p:=fun _ r=>some (S.badR r lo hi)) (q:=fun r=>S.badR r lo hi) (fun _ _=>rfl) s true (s.size+1) 0 (by omega);have hk2:sixO (fun _ r=>some (S.badR r lo hi)) s true (Nat.add s.size 1) 0=some k:=hk;simp only[hk,hk2,e0]
theorem qzg:Con Tryz.prog zoy qrs:=zm3 trivial fun x y hx h=>⟨0,(zqa _ _ _ _ hx.2.1 hx.2.2.1).trans h⟩
theorem zi0(l:List ByteArray)(v:ByteArray)(hl:l.length<LF):Fz2 LF l v=some (S.index l v,()):=by
 refine(qbm (R:=Rtz2) l (fun rest i=>some ((match rest.findIdx? (fun x=>keqS v x) with|some j=>Int.ofNat (i+j)|none=>-1),())) hl (fun K=>?_) (fun K i w rest r h=>?_)).trans ?_
 ·simp only[qnx,qaw,jae];rfl
 ·simp only[qnx,r.ilt,r.get,r.next,h,jab,je3];cases keqS v w with
  | true=>rfl
  | false =>
   simp only[jae];cases List.findIdx? (fun x=>keqS v x) rest with
   | none=>rfl
   | some j=>simp;omega
 ·simp only[S.index,S.idx,ja9];all_goals rfl
theorem qyr:Con Tryz.prog idz2 spz2:=mkz2 trivial fun x y hx h=>⟨LF,(zi0 _ _ (qbf hx.1)).trans h⟩
theorem znq(lf:Nat)(s:ByteArray):qot lf s=some (S.class_ s,()):=by
 simp only[qot,q45,S.class_,qan];have e1:Int.ofNat 65=65:=rfl;have e2:Int.ofNat 90=90:=rfl;rw[e1,e2];cases S.named s 65 90
 ·rfl
 ·simp;rfl
theorem q8e:Con Tryz.prog zb3 q5z:=zmv ⟨qzg,qyr,trivial⟩ fun x y hx h=>⟨LF,(znq _ _).trans h⟩
theorem zf0(lf:Nat)(s:ByteArray):qor lf s=some (S.small s,()):=by
 simp only[qor,qwq,S.small,qan];have e1:Int.ofNat 97=97:=rfl;have e2:Int.ofNat 122=122:=rfl;rw[e1,e2];cases S.named s 97 122
 ·rfl
 ·simp;rfl
theorem zqb:Con Tryz.prog zac q71:=zfh ⟨qzg,qyr,trivial⟩ fun x y hx h=>⟨LF,(zf0 _ _).trans h⟩

theorem qrz{α:Type}(l:List α){i:Nat}(h:i<=l.length):lchk (Int.ofNat 0) (Int.ofNat i) (Int.ofNat l.length) (Int.ofNat l.length)=true:=by
 simp[lchk,qan];omega
theorem qvh{α:Type}(l:List α)(i:Nat):lsub l (Int.ofNat 0) (Int.ofNat i)=l.take i:=by
 simp[lsub]
theorem zb4(l:List DCol)(hl:l.length<LF):Fz3 LF l=some (S.checkCols l,()):=by
 simp only[Fz3,qsc,S.checkCols];by_cases h30:30<l.length
 ·rw[jam h30,show iltI (Int.ofNat 30) (Int.ofNat l.length)=true by rw[qan];exact jaj (jea.2 h30)];rfl
 rw[jak h30,show iltI (Int.ofNat 30) (Int.ofNat l.length)=false by rw[qan];exact jai (fun h=>h30 (jea.1 h)),jae];refine qbm (R:=Rtz3) l (fun rest i=>some (S.ccGo l i rest,())) hl (fun K=>?_) (fun K i v rest r h=>?_)
 ·simp only[qms,qaw,jae];rfl
 ·simp only[qms,r.ilt,r.get,r.next,h,jab,qrz l (jco r.lt),qvh,S.ccGo,qan,qa0,keqS,qfv];simp only[oL];generalize S.small v.1=b1;generalize S.within v.2.1 1 3=b2;by_cases hc:S.col (l.take i) v.1<0<;>by_cases h3:v.2.1=3<;>by_cases hn:v.2.2=S.lit []<;>cases b1<;>cases b2<;>simp [hc,h3,hn]
theorem q9d:Con Tryz.prog idz3 spz3:=mkz3 ⟨zqb,qvd,qr4,trivial⟩ fun x y hx h=>⟨LF,(zb4 _ (qbf hx.1)).trans h⟩
theorem q94(x1:List qab)(K11:Int->Option Rtz4)(f:qab)(hf:f.2.length<LF)(i:Nat) :
  qj4 LF x1 K11 LF (f.2,Int.ofNat 0,Int.ofNat i)=if S.cfIn x1 f.2=true then K11 (IntKind.i64.wrap (Int.add (Int.ofNat i) (Int.ofNat 1))) else some (5,()):=by
 refine range0 (σ:=Unit) (R:=Rtz4) f.2 (fun k _=>(f.2,k,Int.ofNat i)) (fun _ _=>True) (fun rest _ _=>if S.cfIn x1 rest=true then K11 (IntKind.i64.wrap (Int.add (Int.ofNat i) (Int.ofNat 1))) else some (5,())) hf (fun K s _=>?_) (fun K k c rest s _ r h=>?_) () trivial
 ·simp only[qm2,qaw,jae];rfl
 ·have h:=h () trivial;have e3:Int.ofNat 3=3:=rfl;have e0:Int.ofNat 0=0:=rfl;simp only[qm2,r.ilt,r.get,r.next,h,jab,qan,qa0,keqS,qfv,S.cfIn];simp only[e3,e0];have ea:S.lit [65,78,89]=S.ANY:=rfl;simp only[ea,jax,jch,jci];by_cases h3:c.2.1=3<;>by_cases hn:c.2.2=S.ANY<;>by_cases hf:S.form x1 c.2.2<0<;>simp [h3,hn,hf]
theorem zb7(x1:List qab)(hl:x1.length<LF)(hw:∀f∈x1,f.2.length<LF):qi4 LF x1 LF (Int.ofNat 0)=some (S.cfGo2 x1 x1,()):=by
 refine qbm (R:=Rtz4) x1 (fun rest i=>some (S.cfGo2 x1 rest,())) hl (fun K=>?_) (fun K i v rest r h=>?_)
 ·simp only[qop,qaw,jae];rfl
 ·simp only[qop,r.ilt,r.get,jab];refine(q94 x1 K v (hw v r.mem) i).trans ?_;rw[r.next,h];simp only[S.cfGo2];split<;>rfl
theorem qvq(a b c:Int):S.first [a,b,c]=if a=0 then (if b=0 then c else b) else a:=by
 simp only[S.first];split
 ·split
  ·split<;>simp_all
  ·rfl
 ·rfl
theorem zho(l:List qab)(hl:l.length<LF)(hw:∀f∈l,f.2.length<LF):Fz4 LF l=some (S.checkForms l,()):=by
 simp only[Fz4,qul,S.checkForms];by_cases h24:24<l.length
 ·rw[jam h24,show iltI (Int.ofNat 24) (Int.ofNat l.length)=true by rw[qan];exact jaj (jea.2 h24)];rfl
 rw[jak h24,show iltI (Int.ofNat 24) (Int.ofNat l.length)=false by rw[qan];exact jai (fun h=>h24 (jea.1 h)),jae];refine qbm (R:=Rtz4) l (fun rest i=>some (S.cfGo l i rest,())) hl (fun K=>?_) (fun K i v rest r h=>?_)
 ·simp only[qou,qaw,jae,S.cfGo];exact zb7 l hl hw
 ·have e0:Int.ofNat 0=0:=rfl;simp only[qou,r.ilt,r.get,r.next,h,jab,qrz l (jco r.lt),qvh,S.cfGo,qan,qa0,qfv,S.unlessE,qvq];simp only[e0];have e4:Int.ofNat 4=4:=rfl;have e6:Int.ofNat 6=6:=rfl;simp only[e4,e6];cases S.class_ v.1<;>by_cases hf:S.form (l.take i) v.1<0<;>by_cases hc:S.checkCols v.2=0<;>simp [hf,hc]
theorem qql:Con Tryz.prog idz4 spz4:=mkz4 ⟨q8e,qiv,q9d,qpf,trivial⟩ fun x y hx h=>⟨LF,(zho _ (qbf hx.1) fun f hf=>qbf (hx.1.2 f hf).2).trans h⟩

theorem qc0(a b:Nat):iltI (Int.ofNat a) (Int.ofNat b)=decide (a<b):=by
 rw[qan,jbs];simp only[jax];exact jea
theorem qee(a b:Nat):ieqI (Int.ofNat a) (Int.ofNat b)=decide (a=b):=by
 rw[qa0,jbs];simp only[jax];exact Int.ofNat_inj
theorem qrf(a:Int):(!ieqI a (Int.ofNat 0))=decide (¬a=0):=by
 rw[qa0,jbs];simp [oL]
abbrev qqv:Type:=Bool × Unit
abbrev zgi:Nat:=125
def q6a(lf:Nat)(x1:(List qaa))(x2:ByteArray)(x3:ByteArray):Option qqv:=(cond (keqS x3 (S.lit [65,78,89])) (some (true,())) (cond (S.ruleOf x1 x2).2 (some ((keqS (S.ruleOf x1 x2).1.2.1 x3),())) (some (false,()))))
def qmx(lf:Nat)(x1:(List qaa))(x2:ByteArray)(x3:ByteArray):Option qqv:=q6a lf x1 x2 x3
theorem zd7{g:ElA [(.list cRule),.str,.str]->Option qqv}(hsm:SmOK Tryz.prog [(36,qtg)])(hg:∀(x:ElA [(.list cRule),.str,.str]) (y:qqv),WfA [(.list cRule),.str,.str] x->g x=some y->∃lf,qmx lf x.1 x.2.1 x.2.2.1=some y):Con Tryz.prog 125 ⟨[(.list cRule),.str,.str],[(false,.bool)],g⟩ :=
 conU (fi:=qre) (hxl:=[]) (fun lf x=>qmx lf x.1 x.2.1 x.2.2.1) cm3 zi6 trivial hsm hg
abbrev qn8:Type:=Bool × Unit
abbrev zga:Nat:=94
def qxe(lf:Nat)(x1:(List qaa))(x2:qac)(x3:DCol)(x4:DCol):Option qn8:=(cond (ieqI x2.2.1 (Int.ofNat 1)) (cond (ieqI x3.2.1 x4.2.1) (cond (Bool.not (ieqI x3.2.1 (Int.ofNat 3))) (some (true,())) (some ((S.leads x1 x3.2.2 x4.2.2),()))) (some (false,()))) (cond (ieqI x2.2.1 (Int.ofNat 2)) (cond (ieqI x3.2.1 (Int.ofNat 2)) (some ((ieqI x4.2.1 (Int.ofNat 1)),())) (some (false,()))) (cond (ieqI x2.2.1 (Int.ofNat 3)) (cond (ieqI x3.2.1 (Int.ofNat 1)) (some ((ieqI x4.2.1 (Int.ofNat 2)),())) (some (false,()))) (cond (ieqI x2.2.1 (Int.ofNat 4)) (cond (ieqI x3.2.1 (Int.ofNat 1)) (some ((ieqI x4.2.1 (Int.ofNat 1)),())) (some (false,()))) (cond (ieqI x2.2.1 (Int.ofNat 5)) (cond (ieqI x3.2.1 (Int.ofNat 3)) (cond (ieqI x4.2.1 (Int.ofNat 3)) (some ((S.leads x1 x3.2.2 x4.2.2),())) (some (false,()))) (some (false,()))) (cond (ieqI x2.2.1 (Int.ofNat 6)) (cond (ieqI x4.2.1 (Int.ofNat 1)) (some (true,())) (cond (ieqI x4.2.1 (Int.ofNat 2)) (some ((S.within x2.2.2 (Int.ofNat 0) (Int.ofNat 1)),())) (some (false,())))) (some ((ieqI x4.2.1 (Int.ofNat 3)),()))))))))
def qpa(lf:Nat)(x1:(List qaa))(x2:qac)(x3:DCol)(x4:DCol):Option qn8:=qxe lf x1 x2 x3 x4
theorem zpi{g:ElA [(.list cRule),qar,cCol,cCol]->Option qn8}(hsm:SmOK Tryz.prog [(86,qqz),(125,qs3)])(hg:∀(x:ElA [(.list cRule),qar,cCol,cCol]) (y:qn8),WfA [(.list cRule),qar,cCol,cCol] x->g x=some y->∃lf,qpa lf x.1 x.2.1 x.2.2.1 x.2.2.2.1=some y):Con Tryz.prog 94 ⟨[(.list cRule),qar,cCol,cCol],[(false,.bool)],g⟩ :=
 conU (fi:=fi94) (hxl:=[]) (fun lf x=>qpa lf x.1 x.2.1 x.2.2.1 x.2.2.2.1) cm3 zc1 trivial hsm hg
def nmz5:Nat->Option Nm:=fun k=>cond (Nat.beq k 8) (some ⟨[0,2,5,7,9,10,11],[],[],[],[],0,0,false⟩) (cond (Nat.beq k 11) (some ⟨[0,2,5,7,9,10,12],[],[],[],[],0,0,false⟩) (cond (Nat.beq k 13) (some ⟨[0,5,7,12],[],[],[],[],0,0,false⟩) (none)))
def stz5:Nat->Bool:=fun k=>cond (Nat.beq k 8) true (cond (Nat.beq k 11) true (cond (Nat.beq k 13) true (false)))
def hdz5:Nat->Bool:=fun k=>false
abbrev Rtz5:Type:=Int × Unit
def qze:List (Nat × Sm):=[(85,qpm),(86,qqz),(94,q7x)]
def q2c:List (Nat × Hx):=[]
def clz5(R:Type)(lf:Nat):ClK R:=qa3 Tryz.prog ttT.get ftT.get (nm1 54 nmz5) (smL qze) (hxL q2c) lf 20 R
abbrev idz5:Nat:=54
def qp9(x1:(List qaa))(x2:qac)(x3:(List DCol))(x4:DCol)(p:Int):NRes:=(NRes.mk (.node (some (IV.lst cRule x1)) (.node none (.node none (.node (some (IV.ptr 1 0)) .leaf .leaf) (.node (some (IV.int .i64 p)) .leaf .leaf)) (.node (some (IV.ptr 0 0)) (.node (some (IV.int .i64 (S.col x3 x2.1))) .leaf .leaf) .leaf)) (.node (some (IV.lst cCol x3)) .leaf (.node none (.node (some (IV.bool (S.within x2.2.1 (Int.ofNat 1) (Int.ofNat 5)))) .leaf .leaf) .leaf))) (IS.mk (.node (some (IObj.row (List.cons (IV.str x2.1) (List.cons (IV.int .i64 x2.2.1) [(IV.int .i64 x2.2.2)])))) (.node (some (IObj.row (List.cons (IV.str x4.1) (List.cons (IV.int .i64 x4.2.1) [(IV.str x4.2.2)])))) .leaf .leaf) .leaf) 2) [] 0)
def qpo(x1:(List qaa))(x2:qac)(x3:(List DCol))(x4:DCol)(p:Unit):NRes:=(NRes.mk (.node (some (IV.lst cRule x1)) (.node none (.node none (.node (some (IV.ptr 1 0)) .leaf .leaf) .leaf) (.node (some (IV.ptr 0 0)) (.node (some (IV.int .i64 (S.col x3 x2.1))) .leaf .leaf) .leaf)) (.node (some (IV.lst cCol x3)) (.node none .leaf (.node (some (IV.ptr 2 0)) .leaf .leaf)) (.node none (.node (some (IV.bool (S.within x2.2.1 (Int.ofNat 1) (Int.ofNat 5)))) .leaf .leaf) .leaf))) (IS.mk (.node (some (IObj.row (List.cons (IV.str x2.1) (List.cons (IV.int .i64 x2.2.1) [(IV.int .i64 x2.2.2)])))) (.node (some (IObj.row (List.cons (IV.str x4.1) (List.cons (IV.int .i64 x4.2.1) [(IV.str x4.2.2)])))) .leaf .leaf) (.node (some (IObj.row (List.cons (IV.str (S.lit [])) (List.cons (IV.int .i64 (Int.ofNat 0)) [(IV.str (S.lit []))])))) .leaf .leaf)) 3) [] 0)
def qo1(x1:(List qaa))(x2:qac)(x3:(List DCol))(x4:DCol)(p:ByteArray × Int × ByteArray):NRes:=(NRes.mk (.node (some (IV.lst cRule x1)) (.node none (.node none (.node (some (IV.ptr 1 0)) .leaf .leaf) .leaf) (.node (some (IV.ptr 0 0)) .leaf .leaf)) (.node none (.node none .leaf (.node (some (IV.ptr 2 0)) .leaf .leaf)) .leaf)) (IS.mk (.node (some (IObj.row (List.cons (IV.str x2.1) (List.cons (IV.int .i64 x2.2.1) [(IV.int .i64 x2.2.2)])))) (.node (some (IObj.row (List.cons (IV.str x4.1) (List.cons (IV.int .i64 x4.2.1) [(IV.str x4.2.2)])))) .leaf .leaf) (.node (some (IObj.row (List.cons (IV.str p.1) (List.cons (IV.int .i64 p.2.1) [(IV.str p.2.2)])))) .leaf .leaf)) 3) [] 0)
def qt9(lf:Nat)(x1:(List qaa))(x2:qac)(x3:(List DCol))(x4:DCol)(L8:Int->Option Rtz5):Option Rtz5:=(cond (S.within x2.2.1 (Int.ofNat 1) (Int.ofNat 5)) (cond (iltI (S.col x3 x2.1) (Int.ofNat 0)) (some ((Int.ofNat 4),())) (cond (ieqI x2.2.1 (Int.ofNat 4)) (L8 (Int.ofNat 1099511627776)) (cond (ieqI x2.2.1 (Int.ofNat 6)) (L8 (Int.ofNat 1099511627776)) (L8 (Int.ofNat 0))))) (cond (ieqI x2.2.1 (Int.ofNat 4)) (L8 (Int.ofNat 1099511627776)) (cond (ieqI x2.2.1 (Int.ofNat 6)) (L8 (Int.ofNat 1099511627776)) (L8 (Int.ofNat 0)))))
def qrc(lf:Nat)(x1:(List qaa))(x2:qac)(x3:(List DCol))(x4:DCol)(L11:Unit->Option Rtz5)(p:Int):Option Rtz5:=(cond (Bool.not (S.within x2.2.1 (Int.ofNat 1) (Int.ofNat 7))) (some ((Int.ofNat 1),())) (cond (Bool.not (S.within x2.2.1 (Int.ofNat 1) (Int.ofNat 5))) (cond (Bool.not (keqS x2.1 (S.lit []))) (some ((Int.ofNat 1),())) (cond (Bool.not (S.within x2.2.2 (IntKind.i64.wrap (Int.sub (Int.ofNat 0) p)) p)) (some ((Int.ofNat 1),())) (cond (ieqI x2.2.1 (Int.ofNat 6)) (cond (ieqI x4.2.1 (Int.ofNat 2)) (cond (Bool.not (S.within x2.2.2 (Int.ofNat 0) (Int.ofNat 1))) (some ((Int.ofNat 1),())) (L11 ())) (L11 ())) (L11 ())))) (cond (Bool.not (S.within x2.2.2 (IntKind.i64.wrap (Int.sub (Int.ofNat 0) p)) p)) (some ((Int.ofNat 1),())) (cond (ieqI x2.2.1 (Int.ofNat 6)) (cond (ieqI x4.2.1 (Int.ofNat 2)) (cond (Bool.not (S.within x2.2.2 (Int.ofNat 0) (Int.ofNat 1))) (some ((Int.ofNat 1),())) (L11 ())) (L11 ())) (L11 ())))))
def qu5(lf:Nat)(x1:(List qaa))(x2:qac)(x3:(List DCol))(x4:DCol)(L13:(ByteArray × Int × ByteArray)->Option Rtz5)(p:Unit):Option Rtz5:=(cond (S.within x2.2.1 (Int.ofNat 1) (Int.ofNat 5)) (match (jget x3 (S.col x3 x2.1)) with|none=>none|some v0=>(L13 (v0.1,v0.2.1,v0.2.2))) (L13 ((S.lit []),(Int.ofNat 0),(S.lit []))))
def qr7(lf:Nat)(x1:(List qaa))(x2:qac)(x3:(List DCol))(x4:DCol)(p:ByteArray × Int × ByteArray):Option Rtz5:=(cond (S.fits x1 (x2.1,(x2.2.1,x2.2.2)) (p.1,(p.2.1,p.2.2)) (x4.1,(x4.2.1,x4.2.2))) (some ((Int.ofNat 0),())) (some ((Int.ofNat 8),())))
abbrev gz5:Type:=ElA [(.list cRule),qar,(.list cCol),cCol]->Option Rtz5
abbrev sz5(g:gz5):Sm:=⟨[(.list cRule),qar,(.list cCol),cCol],[(false,(.int .i64))],g⟩
abbrev Ez5(g:gz5)(J:JT Rtz5)(lf:Nat)(x1:(List qaa))(x2:qac)(x3:(List DCol))(x4:DCol):=qbc Tryz.prog ttT.get nmz5 fi54.nt (clz5 _ lf) lf stz5 J fi54.body [] (qay (argV [(.list cRule),qar,(.list cCol),cCol] (x1,x2,x3,x4,())) 0 .leaf) S0 [] (qao ttT.get fi54 (sz5 g))
abbrev Bz5(g:gz5)(J:JT Rtz5)(lf k:Nat)(ms:List Nat)(q:NRes):=qbj Tryz.prog ttT.get nmz5 fi54.nt (clz5 _ lf) lf stz5 J k fi54.body [] ms q (qao ttT.get fi54 (sz5 g))
theorem inz5(g:gz5)(J:JT Rtz5)(lf:Nat)(x1:(List qaa))(x2:qac)(x3:(List DCol))(x4:DCol):Ez5 g J lf x1 x2 x3 x4=qt9 lf x1 x2 x3 x4 (fun q=>J 8 [] (qp9 x1 x2 x3 x4 q)):=by kernel_rfl
theorem zoo(g:gz5)(J:JT Rtz5)(lf:Nat)(x1:(List qaa))(x2:qac)(x3:(List DCol))(x4:DCol)(p:Int):Bz5 g J lf 8 [] (qp9 x1 x2 x3 x4 p)=qrc lf x1 x2 x3 x4 (fun q=>J 11 [] (qpo x1 x2 x3 x4 q)) p:=by kernel_rfl
theorem zg6(g:gz5)(J:JT Rtz5)(lf:Nat)(x1:(List qaa))(x2:qac)(x3:(List DCol))(x4:DCol)(p:Unit):Bz5 g J lf 11 [] (qpo x1 x2 x3 x4 p)=qu5 lf x1 x2 x3 x4 (fun q=>J 13 [] (qo1 x1 x2 x3 x4 q)) p:=by kernel_rfl
theorem zk0(g:gz5)(J:JT Rtz5)(lf:Nat)(x1:(List qaa))(x2:qac)(x3:(List DCol))(x4:DCol)(p:ByteArray × Int × ByteArray):Bz5 g J lf 13 [] (qo1 x1 x2 x3 x4 p)=qr7 lf x1 x2 x3 x4 p:=by kernel_rfl
theorem ndz5:(regs fi54.body).Nodup:=by decide +kernel
theorem okz5:okC nmz5 stz5 hdz5 fi54.body none=true:=by kernel_rfl
def Az5(g:gz5)(lf:Nat):JT Rtz5:=atN Tryz.prog ttT.get nmz5 fi54 (sz5 g) (clz5 _ lf) lf hdz5
def qjv(lf:Nat)(x1:(List qaa))(x2:qac)(x3:(List DCol))(x4:DCol)(p:ByteArray × Int × ByteArray):Option Rtz5:=qr7 lf x1 x2 x3 x4 p
theorem zi7(g:gz5)(lf:Nat)(x1:(List qaa))(x2:qac)(x3:(List DCol))(x4:DCol)(p:ByteArray × Int × ByteArray):Az5 g lf 13 [] (qo1 x1 x2 x3 x4 p)=qjv lf x1 x2 x3 x4 p:=by
  refine(qau (qaq 20 _) ndz5 okz5 13 [] [] rfl _).trans ((zk0 g (Az5 g lf) lf x1 x2 x3 x4 p).trans ?_);rfl
def qjl(lf:Nat)(x1:(List qaa))(x2:qac)(x3:(List DCol))(x4:DCol)(p:Unit):Option Rtz5:=qu5 lf x1 x2 x3 x4 (fun q=>qjv lf x1 x2 x3 x4 q) p
theorem zj6(g:gz5)(lf:Nat)(x1:(List qaa))(x2:qac)(x3:(List DCol))(x4:DCol)(p:Unit):Az5 g lf 11 [] (qpo x1 x2 x3 x4 p)=qjl lf x1 x2 x3 x4 p:=by
  refine(qau (qaq 20 _) ndz5 okz5 11 [] [] rfl _).trans ((zg6 g (Az5 g lf) lf x1 x2 x3 x4 p).trans ?_);rw[(show (fun q=>Az5 g lf 13 [] (qo1 x1 x2 x3 x4 q))=(fun q=>qjv lf x1 x2 x3 x4 q) from funext fun q=>zi7 g lf x1 x2 x3 x4 q)];rfl
def qef(lf:Nat)(x1:(List qaa))(x2:qac)(x3:(List DCol))(x4:DCol)(p:Int):Option Rtz5:=qrc lf x1 x2 x3 x4 (fun q=>qjl lf x1 x2 x3 x4 q) p
theorem zk6(g:gz5)(lf:Nat)(x1:(List qaa))(x2:qac)(x3:(List DCol))(x4:DCol)(p:Int):Az5 g lf 8 [] (qp9 x1 x2 x3 x4 p)=qef lf x1 x2 x3 x4 p:=by
  refine(qau (qaq 20 _) ndz5 okz5 8 [] [] rfl _).trans ((zoo g (Az5 g lf) lf x1 x2 x3 x4 p).trans ?_);rw[(show (fun q=>Az5 g lf 11 [] (qpo x1 x2 x3 x4 q))=(fun q=>qjl lf x1 x2 x3 x4 q) from funext fun q=>zj6 g lf x1 x2 x3 x4 q)];rfl
def Fz5(lf:Nat)(x1:(List qaa))(x2:qac)(x3:(List DCol))(x4:DCol):Option Rtz5:=qt9 lf x1 x2 x3 x4 (fun q=>qef lf x1 x2 x3 x4 q)
theorem zad(g:gz5)(lf:Nat)(x1:(List qaa))(x2:qac)(x3:(List DCol))(x4:DCol):Ez5 g (Az5 g lf) lf x1 x2 x3 x4=Fz5 lf x1 x2 x3 x4:=by
  refine(inz5 g (Az5 g lf) lf x1 x2 x3 x4).trans ?_;rw[(show (fun q=>Az5 g lf 8 [] (qp9 x1 x2 x3 x4 q))=(fun q=>qef lf x1 x2 x3 x4 q) from funext fun q=>zk6 g lf x1 x2 x3 x4 q)];rfl
theorem zbn:qbb Tryz.prog q2c:=trivial
theorem mkz5{g:gz5}(hsm:SmOK Tryz.prog qze)(hg:∀(x:ElA [(.list cRule),qar,(.list cCol),cCol]) (y:Rtz5),WfA [(.list cRule),qar,(.list cCol),cCol] x->g x=some y->∃lf,Fz5 lf x.1 x.2.1 x.2.2.1 x.2.2.2.1=some y):Con Tryz.prog 54 ⟨[(.list cRule),qar,(.list cCol),cCol],[(false,(.int .i64))],g⟩ :=
 conV (st:=stz5) (fun lf x=>Fz5 lf x.1 x.2.1 x.2.2.1 x.2.2.2.1) cm3 zoc zbn ndz5 okz5 (fun lf x=>zad g lf x.1 x.2.1 x.2.2.1 x.2.2.2.1) hsm hg
def nmz6:Nat->Option Nm:=fun k=>cond (Nat.beq k 4) (some ⟨[0,1,2,25,26,27],[],[],[],[],0,0,false⟩) (cond (Nat.beq k 13) (some ⟨[0,1,2,55,56,57],[],[],[],[],0,0,false⟩) (cond (Nat.beq k 20) (some ⟨[0,1,2,71,72,73],[],[],[],[],0,0,false⟩) (cond (Nat.beq k 26) (some ⟨[0,1,2,17,18,71,72,73,100,101,102],[],[],[],[],0,0,false⟩) (none))))
def stz6:Nat->Bool:=fun k=>cond (Nat.beq k 4) true (cond (Nat.beq k 13) true (cond (Nat.beq k 20) true (cond (Nat.beq k 26) true (false))))
def hdz6:=stz6
abbrev Rtz6:Type:=Int × Unit
def qz7:List (Nat × Sm):=[(37,qos),(36,qtg),(54,spz5)]
def q3m:List (Nat × Hx):=[]
def clz6(R:Type)(lf:Nat):ClK R:=qa3 Tryz.prog ttT.get ftT.get (nm1 45 nmz6) (smL qz7) (hxL q3m) lf 20 R
abbrev idz6:Nat:=45
def qf9(x1:(List qab))(x2:(List qab))(x3:(List qaa))(p:Int):NRes:=(NRes.mk (.node (some (IV.lst cForm x1)) (.node (some (IV.lst cForm x2)) (.node none .leaf (.node none .leaf (.node (some (IV.int .i64 p)) .leaf .leaf))) (.node none (.node none .leaf (.node (some (IV.lst cRule x3)) .leaf .leaf)) .leaf)) (.node (some (IV.lst cRule x3)) .leaf (.node none (.node none .leaf (.node (some (IV.int .i64 (Int.ofNat x3.length))) .leaf .leaf)) .leaf))) (IS.mk .leaf 0) [] 0)
def qh5(x1:(List qab))(x2:(List qab))(x3:(List qaa))(p:Int):NRes:=(NRes.mk (.node (some (IV.lst cForm x1)) (.node (some (IV.lst cForm x2)) (.node none (.node none .leaf (.node none .leaf (.node (some (IV.lst cForm x1)) .leaf .leaf))) .leaf) (.node none (.node none .leaf (.node none .leaf (.node (some (IV.int .i64 p)) .leaf .leaf))) .leaf)) (.node (some (IV.lst cRule x3)) (.node none (.node none .leaf (.node none .leaf (.node (some (IV.int .i64 (Int.ofNat x1.length))) .leaf .leaf))) .leaf) .leaf)) (IS.mk .leaf 0) [] 0)
def qd0(x1:(List qab))(x2:(List qab))(x3:(List qaa))(p:Int):NRes:=(NRes.mk (.node (some (IV.lst cForm x1)) (.node (some (IV.lst cForm x2)) (.node none (.node none .leaf (.node none (.node none (.node (some (IV.lst cRule x3)) .leaf .leaf) .leaf) .leaf)) .leaf) (.node none (.node none .leaf (.node none (.node none (.node (some (IV.int .i64 p)) .leaf .leaf) .leaf) .leaf)) .leaf)) (.node (some (IV.lst cRule x3)) (.node none (.node none .leaf (.node none (.node none (.node (some (IV.int .i64 (Int.ofNat x3.length))) .leaf .leaf) .leaf) .leaf)) .leaf) .leaf)) (IS.mk .leaf 0) [] 0)
def qhl(x1:(List qab))(x2:(List qab))(x3:(List qaa))(p:(List DCol) × (List DCol) × (List qac) × Int × Int):NRes:=(NRes.mk (.node (some (IV.lst cForm x1)) (.node (some (IV.lst cForm x2)) (.node none (.node none .leaf (.node none (.node none (.node (some (IV.lst cRule x3)) .leaf .leaf) .leaf) .leaf)) .leaf) (.node none (.node none (.node (some (IV.lst cCol p.2.1)) .leaf .leaf) (.node none (.node none (.node (some (IV.int .i64 p.2.2.2.2)) .leaf .leaf) .leaf) .leaf)) (.node none (.node none (.node none .leaf (.node (some (IV.int .i64 (Int.ofNat p.2.2.1.length))) .leaf .leaf)) .leaf) .leaf))) (.node (some (IV.lst cRule x3)) (.node none (.node none .leaf (.node none (.node none (.node (some (IV.int .i64 (Int.ofNat x3.length))) .leaf .leaf) .leaf) .leaf)) (.node none (.node none (.node none .leaf (.node (some (IV.lst qar p.2.2.1)) .leaf .leaf)) .leaf) .leaf)) (.node none (.node none (.node (some (IV.lst cCol p.1)) .leaf .leaf) .leaf) (.node none (.node none (.node none .leaf (.node (some (IV.int .i64 p.2.2.2.1)) .leaf .leaf)) .leaf) .leaf)))) (IS.mk .leaf 0) [] 0)
def qsb(lf:Nat)(x1:(List qab))(x2:(List qab))(x3:(List qaa))(L4:Int->Option Rtz6):Option Rtz6:=(cond (iltI (Int.ofNat 24) (Int.ofNat x3.length)) (some ((Int.ofNat 3),())) (L4 (Int.ofNat 0)))
def qqx(lf:Nat)(x1:(List qab))(x2:(List qab))(x3:(List qaa))(L4:Int->Option Rtz6)(L13:Int->Option Rtz6)(p:Int):Option Rtz6:=(cond (iltI p (Int.ofNat x3.length)) (match (jget x3 p) with|none=>none|some v0=>(cond (iltI (S.form x1 v0.1) (Int.ofNat 0)) (some ((Int.ofNat 4),())) (cond (iltI (S.form x2 v0.2.1) (Int.ofNat 0)) (some ((Int.ofNat 4),())) (cond (lchk (Int.ofNat 0) p (Int.ofNat x3.length) (Int.ofNat x3.length)) (cond (S.ruleOf (lsub x3 (Int.ofNat 0) p) v0.1).2 (some ((Int.ofNat 6),())) (L4 (IntKind.i64.wrap (Int.add p (Int.ofNat 1))))) none)))) (L13 (Int.ofNat 0)))
def qp4(lf:Nat)(x1:(List qab))(x2:(List qab))(x3:(List qaa))(L13:Int->Option Rtz6)(L20:Int->Option Rtz6)(p:Int):Option Rtz6:=(cond (iltI p (Int.ofNat x1.length)) (match (jget x1 p) with|none=>none|some v0=>(cond (Bool.not (S.ruleOf x3 v0.1).2) (some ((Int.ofNat 5),())) (L13 (IntKind.i64.wrap (Int.add p (Int.ofNat 1)))))) (L20 (Int.ofNat 0)))
def qqp(lf:Nat)(x1:(List qab))(x2:(List qab))(x3:(List qaa))(L26:((List DCol) × (List DCol) × (List qac) × Int × Int)->Option Rtz6)(p:Int):Option Rtz6:=(cond (iltI p (Int.ofNat x3.length)) (match (jget x3 p) with|none=>none|some v0=>(match (jget x1 (S.form x1 v0.1)) with|none=>none|some v1=>(match (jget x2 (S.form x2 v0.2.1)) with|none=>none|some v2=>(cond (Bool.not (ieqI (Int.ofNat v0.2.2.length) (Int.ofNat v2.2.length))) (some ((Int.ofNat 2),())) (L26 (v2.2,v1.2,v0.2.2,(Int.ofNat 0),p)))))) (some ((Int.ofNat 0),())))
def qq1(lf:Nat)(x1:(List qab))(x2:(List qab))(x3:(List qaa))(L26:((List DCol) × (List DCol) × (List qac) × Int × Int)->Option Rtz6)(L20:Int->Option Rtz6)(p:(List DCol) × (List DCol) × (List qac) × Int × Int):Option Rtz6:=(cond (iltI p.2.2.2.1 (Int.ofNat p.2.2.1.length)) (match (jget p.2.2.1 p.2.2.2.1) with|none=>none|some v0=>(match (jget p.1 p.2.2.2.1) with|none=>none|some v1=>(cond (Bool.not (ieqI (S.give x3 (v0.1,(v0.2.1,v0.2.2)) p.2.1 (v1.1,(v1.2.1,v1.2.2))) (Int.ofNat 0))) (some ((S.give x3 (v0.1,(v0.2.1,v0.2.2)) p.2.1 (v1.1,(v1.2.1,v1.2.2))),())) (L26 (p.1,p.2.1,p.2.2.1,(IntKind.i64.wrap (Int.add p.2.2.2.1 (Int.ofNat 1))),p.2.2.2.2))))) (L20 (IntKind.i64.wrap (Int.add p.2.2.2.2 (Int.ofNat 1)))))
abbrev gz6:Type:=ElA [(.list cForm),(.list cForm),(.list cRule)]->Option Rtz6
abbrev sz6(g:gz6):Sm:=⟨[(.list cForm),(.list cForm),(.list cRule)],[(false,(.int .i64))],g⟩
abbrev Ez6(g:gz6)(J:JT Rtz6)(lf:Nat)(x1:(List qab))(x2:(List qab))(x3:(List qaa)):=qbc Tryz.prog ttT.get nmz6 fi45.nt (clz6 _ lf) lf stz6 J fi45.body [] (qay (argV [(.list cForm),(.list cForm),(.list cRule)] (x1,x2,x3,())) 0 .leaf) S0 [] (qao ttT.get fi45 (sz6 g))
abbrev Bz6(g:gz6)(J:JT Rtz6)(lf k:Nat)(ms:List Nat)(q:NRes):=qbj Tryz.prog ttT.get nmz6 fi45.nt (clz6 _ lf) lf stz6 J k fi45.body [] ms q (qao ttT.get fi45 (sz6 g))
theorem inz6(g:gz6)(J:JT Rtz6)(lf:Nat)(x1:(List qab))(x2:(List qab))(x3:(List qaa)):Ez6 g J lf x1 x2 x3=qsb lf x1 x2 x3 (fun q=>J 4 [lf] (qf9 x1 x2 x3 q)):=by kernel_rfl
theorem zoi(g:gz6)(J:JT Rtz6)(lf:Nat)(x1:(List qab))(x2:(List qab))(x3:(List qaa))(m1:Nat)(p:Int):Bz6 g J lf 4 [m1] (qf9 x1 x2 x3 p)=qqx lf x1 x2 x3 (fun q=>J 4 [m1] (qf9 x1 x2 x3 q)) (fun q=>J 13 [lf] (qh5 x1 x2 x3 q)) p:=by kernel_rfl
theorem zcz(g:gz6)(J:JT Rtz6)(lf:Nat)(x1:(List qab))(x2:(List qab))(x3:(List qaa))(m1:Nat)(p:Int):Bz6 g J lf 13 [m1] (qh5 x1 x2 x3 p)=qp4 lf x1 x2 x3 (fun q=>J 13 [m1] (qh5 x1 x2 x3 q)) (fun q=>J 20 [lf] (qd0 x1 x2 x3 q)) p:=by kernel_rfl
theorem zna(g:gz6)(J:JT Rtz6)(lf:Nat)(x1:(List qab))(x2:(List qab))(x3:(List qaa))(m1:Nat)(p:Int):Bz6 g J lf 20 [m1] (qd0 x1 x2 x3 p)=qqp lf x1 x2 x3 (fun q=>J 26 [m1,lf] (qhl x1 x2 x3 q)) p:=by kernel_rfl
theorem zpt(g:gz6)(J:JT Rtz6)(lf:Nat)(x1:(List qab))(x2:(List qab))(x3:(List qaa))(m1:Nat)(m2:Nat)(p:(List DCol) × (List DCol) × (List qac) × Int × Int):Bz6 g J lf 26 [m1,m2] (qhl x1 x2 x3 p)=qq1 lf x1 x2 x3 (fun q=>J 26 [m1,m2] (qhl x1 x2 x3 q)) (fun q=>J 20 [m1] (qd0 x1 x2 x3 q)) p:=by kernel_rfl
theorem ndz6:(regs fi45.body).Nodup:=by decide +kernel
theorem okz6:okC nmz6 stz6 hdz6 fi45.body none=true:=by kernel_rfl
def Az6(g:gz6)(lf:Nat):JT Rtz6:=atN Tryz.prog ttT.get nmz6 fi45 (sz6 g) (clz6 _ lf) lf hdz6
def qjw(lf:Nat)(x1:(List qab))(x2:(List qab))(x3:(List qaa))(K20:Int->Option Rtz6):Nat->((List DCol) × (List DCol) × (List qac) × Int × Int)->Option Rtz6:=qas fun K p=>qq1 lf x1 x2 x3 K K20 p
theorem q17(g:gz6)(lf:Nat)(x1:(List qab))(x2:(List qab))(x3:(List qaa))(m1:Nat):∀(n:Nat) (p:(List DCol) × (List DCol) × (List qac) × Int × Int),Az6 g lf 26 [m1,n] (qhl x1 x2 x3 p)=qjw lf x1 x2 x3 (fun q=>Az6 g lf 20 [m1] (qd0 x1 x2 x3 q)) n p
 | 0,p=>qax 26 [m1,0] rfl _
 | n+1,p=>by
  have ih:=q17 g lf x1 x2 x3 m1 n;refine(qau (qaq 20 _) ndz6 okz6 26 [m1,n+1] [m1,n] rfl _).trans ((zpt g (Az6 g lf) lf x1 x2 x3 m1 n p).trans ?_);rw[(show (fun q=>Az6 g lf 26 [m1,n] (qhl x1 x2 x3 q))=(fun q=>qjw lf x1 x2 x3 (fun q=>Az6 g lf 20 [m1] (qd0 x1 x2 x3 q)) n q) from funext ih)];rfl
def qld(lf:Nat)(x1:(List qab))(x2:(List qab))(x3:(List qaa)):Nat->(Int)->Option Rtz6:=qas fun K p=>qqp lf x1 x2 x3 (fun q=>qjw lf x1 x2 x3 K lf q) p
theorem qyn(g:gz6)(lf:Nat)(x1:(List qab))(x2:(List qab))(x3:(List qaa)):∀(n:Nat) (p:Int),Az6 g lf 20 [n] (qd0 x1 x2 x3 p)=qld lf x1 x2 x3 n p
 | 0,p=>qax 20 [0] rfl _
 | n+1,p=>by
  have ih:=qyn g lf x1 x2 x3 n;refine(qau (qaq 20 _) ndz6 okz6 20 [n+1] [n] rfl _).trans ((zna g (Az6 g lf) lf x1 x2 x3 n p).trans ?_);rw[(show (fun q=>Az6 g lf 26 [n,lf] (qhl x1 x2 x3 q))=(fun q=>qjw lf x1 x2 x3 (fun q=>Az6 g lf 20 [n] (qd0 x1 x2 x3 q)) lf q) from funext fun q=>q17 g lf x1 x2 x3 n lf q),(show (fun q=>Az6 g lf 20 [n] (qd0 x1 x2 x3 q))=(fun q=>qld lf x1 x2 x3 n q) from funext ih)];rfl
def qk3(lf:Nat)(x1:(List qab))(x2:(List qab))(x3:(List qaa)):Nat->(Int)->Option Rtz6:=qas fun K p=>qp4 lf x1 x2 x3 K (fun q=>qld lf x1 x2 x3 lf q) p
theorem qwc(g:gz6)(lf:Nat)(x1:(List qab))(x2:(List qab))(x3:(List qaa)):∀(n:Nat) (p:Int),Az6 g lf 13 [n] (qh5 x1 x2 x3 p)=qk3 lf x1 x2 x3 n p
 | 0,p=>qax 13 [0] rfl _
 | n+1,p=>by
  have ih:=qwc g lf x1 x2 x3 n;refine(qau (qaq 20 _) ndz6 okz6 13 [n+1] [n] rfl _).trans ((zcz g (Az6 g lf) lf x1 x2 x3 n p).trans ?_);rw[(show (fun q=>Az6 g lf 20 [lf] (qd0 x1 x2 x3 q))=(fun q=>qld lf x1 x2 x3 lf q) from funext fun q=>qyn g lf x1 x2 x3 lf q),(show (fun q=>Az6 g lf 13 [n] (qh5 x1 x2 x3 q))=(fun q=>qk3 lf x1 x2 x3 n q) from funext ih)];rfl
def qmk(lf:Nat)(x1:(List qab))(x2:(List qab))(x3:(List qaa)):Nat->(Int)->Option Rtz6:=qas fun K p=>qqx lf x1 x2 x3 K (fun q=>qk3 lf x1 x2 x3 lf q) p
theorem q7b(g:gz6)(lf:Nat)(x1:(List qab))(x2:(List qab))(x3:(List qaa)):∀(n:Nat) (p:Int),Az6 g lf 4 [n] (qf9 x1 x2 x3 p)=qmk lf x1 x2 x3 n p
 | 0,p=>qax 4 [0] rfl _
 | n+1,p=>by
  have ih:=q7b g lf x1 x2 x3 n;refine(qau (qaq 20 _) ndz6 okz6 4 [n+1] [n] rfl _).trans ((zoi g (Az6 g lf) lf x1 x2 x3 n p).trans ?_);rw[(show (fun q=>Az6 g lf 13 [lf] (qh5 x1 x2 x3 q))=(fun q=>qk3 lf x1 x2 x3 lf q) from funext fun q=>qwc g lf x1 x2 x3 lf q),(show (fun q=>Az6 g lf 4 [n] (qf9 x1 x2 x3 q))=(fun q=>qmk lf x1 x2 x3 n q) from funext ih)];rfl
def Fz6(lf:Nat)(x1:(List qab))(x2:(List qab))(x3:(List qaa)):Option Rtz6:=qsb lf x1 x2 x3 (fun q=>qmk lf x1 x2 x3 lf q)
theorem zfz(g:gz6)(lf:Nat)(x1:(List qab))(x2:(List qab))(x3:(List qaa)):Ez6 g (Az6 g lf) lf x1 x2 x3=Fz6 lf x1 x2 x3:=by
  refine(inz6 g (Az6 g lf) lf x1 x2 x3).trans ?_;rw[(show (fun q=>Az6 g lf 4 [lf] (qf9 x1 x2 x3 q))=(fun q=>qmk lf x1 x2 x3 lf q) from funext fun q=>q7b g lf x1 x2 x3 lf q)];rfl
theorem q9y:qbb Tryz.prog q3m:=trivial
theorem mkz6{g:gz6}(hsm:SmOK Tryz.prog qz7)(hg:∀(x:ElA [(.list cForm),(.list cForm),(.list cRule)]) (y:Rtz6),WfA [(.list cForm),(.list cForm),(.list cRule)] x->g x=some y->∃lf,Fz6 lf x.1 x.2.1 x.2.2.1=some y):Con Tryz.prog 45 ⟨[(.list cForm),(.list cForm),(.list cRule)],[(false,(.int .i64))],g⟩ :=
 conV (st:=stz6) (fun lf x=>Fz6 lf x.1 x.2.1 x.2.2.1) cm3 zcs q9y ndz6 okz6 (fun lf x=>zfz g lf x.1 x.2.1 x.2.2.1) hsm hg
abbrev qpx:Type:=Int × Unit
abbrev zmg:Nat:=21
def qyd(lf:Nat)(x1:(List qab))(x2:(List qab))(x3:(List qaa)):Option qpx:=(cond (Bool.not (ieqI (S.first (List.cons (S.checkForms x1) [(S.checkForms x2)])) (Int.ofNat 0))) (some ((S.first (List.cons (S.checkForms x1) [(S.checkForms x2)])),())) (some ((S.checkRules0 x1 x2 x3),())))
def qpp(lf:Nat)(x1:(List qab))(x2:(List qab))(x3:(List qaa)):Option qpx:=qyd lf x1 x2 x3
theorem zg3{g:ElA [(.list cForm),(.list cForm),(.list cRule)]->Option qpx}(hsm:SmOK Tryz.prog [(44,spz4),(33,spz1),(45,spz6)])(hg:∀(x:ElA [(.list cForm),(.list cForm),(.list cRule)]) (y:qpx),WfA [(.list cForm),(.list cForm),(.list cRule)] x->g x=some y->∃lf,qpp lf x.1 x.2.1 x.2.2.1=some y):Con Tryz.prog 21 ⟨[(.list cForm),(.list cForm),(.list cRule)],[(false,(.int .i64))],g⟩ :=
 conU (fi:=fi21) (hxl:=[]) (fun lf x=>qpp lf x.1 x.2.1 x.2.2.1) cm3 zh1 trivial hsm hg
end Go.Proofs.YtcnhjofpmpipfaaGreat
end

section
namespace Go.Jx
open Go Go.Sx Go.RowKit
universe u

section
variable {E Er : Env} {n m : Nat}
end
end Go.Jx
end

section
namespace Go.Jx
open Go Go.Sx Go.RowKit
universe u

inductive CT:Type
 | dat (c:TC)
 | arr (c:TC)
 | map (k v:TC)
 | fn (f:Nat)
def ElC:CT->Type
 | .dat c=>El c
 | .arr c=>List (El c)
 | .map k v=>List (El k × El v)
 | .fn _=>Unit
def qoj:List CT->Type
 | []=>Unit
 | c::cs=>ElC c × qoj cs
inductive RK:Type
 | box (r:List CT)
 | sl (c:TC)
 | mp (k v:TC)
 | clo (f:Nat) (is:List Nat)
def ElK:RK->Type
 | .box r=>qoj r
 | .sl c=>Option (List (El c))
 | .mp k v=>Option (List (El k × El v))
 | .clo _ _=>Unit
inductive PK:Type
 | dat (c:TC)
 | ref (r:RK)
 | fn (f:Nat)
def ElP:List PK->Type
 | []=>Unit
 | .dat c::l=>El c × ElP l
 | .fn _::l=>ElP l
 | .ref r::l=>ElK r × ElP l
def refs:List PK->List PK
 | []=>[]
 | .dat _::l=>refs l
 | .fn _::l=>refs l
 | .ref r::l=>.ref r::refs l
def nC:CT->Nat
 | .dat _=>0
 | .fn _=>0
 | _=>1
def nR:List CT->Nat
 | []=>0
 | c::cs=>nC c+nR cs
def nK:RK->Nat
 | .box r=>nR r
 | .sl _=>0
 | .mp _ _=>0
 | .clo _ _=>0
def nP:List PK->Nat
 | []=>0
 | .dat _::l=>nP l
 | .fn _::l=>nP l
 | .ref r::l=>nK r+nP l
def mP:List PK->Nat
 | []=>0
 | .dat _::l=>mP l
 | .fn _::l=>mP l
 | .ref _::l=>mP l+1
def zjq:(c:CT)->(Nat->Nat)->Nat->ElC c->List IV
 | .dat c,_,_,x=>cel c x
 | .arr _,ι,n,_=>[.arr (ι n)]
 | .map _ _,ι,n,_=>[.map (ι n)]
 | .fn f,_,_,_=>[.fn f []]
def q1m:(r:List CT)->(Nat->Nat)->Nat->qoj r->List IV
 | [],_,_,_=>[]
 | c::cs,ι,n,x=>zjq c ι n x.1++q1m cs ι (n+nC c) x.2
def subC:(c:CT)->ElC c->List IObj
 | .dat _,_=>[]
 | .arr c,l=>[.arr c l]
 | .map k v,es=>[.tmap k v es]
 | .fn _,_=>[]
def subR:(r:List CT)->qoj r->List IObj
 | [],_=>[]
 | c::cs,x=>subC c x.1++subR cs x.2
def objK:(k:RK)->(Nat->Nat)->Nat->ElK k->IObj
 | .box r,ι,n,x=>.row (q1m r ι n x)
 | .sl c,_,_,x=>match x with
  | some l=>.arr c l
  | none=>.dead
 | .mp k v,_,_,x=>match x with
  | some l=>.tmap k v l
  | none=>.dead
 | .clo f is,ι,_,_=>.row [.fn f (is.map fun k=>.ptr (ι k) 0)]
def isK:RK->List Nat
 | .clo _ is=>is
 | _=>[]
def okPs(N:Nat):List PK->Bool
 | []=>true
 | .ref r::l=>(isK r).all (fun k=>Nat.blt k N)&&okPs N l
 | .dat _::l=>okPs N l
 | .fn _::l=>okPs N l
def qgn:List PK->Bool
 | []=>true
 | .ref r::l=>(match r with
  | .clo _ _=>false
  | _=>true)&&qgn l
 | .dat _::l=>qgn l
 | .fn _::l=>qgn l
def subK:(k:RK)->ElK k->List IObj
 | .box r,x=>subR r x
 | .sl _,_=>[]
 | .mp _ _,_=>[]
 | .clo _ _,_=>[]
def argK:RK->Nat->IV
 | .box _,id=>.ptr id 0
 | .sl _,id=>.arr id
 | .mp _ _,id=>.map id
 | .clo _ _,id=>.ptr id 0
def qjd:(l:List PK)->(Nat->Nat)->Nat->ElP l->List IObj
 | [],_,_,_=>[]
 | .dat _::l,ι,n,x=>qjd l ι n x.2
 | .fn _::l,ι,n,x=>qjd l ι n x
 | .ref r::l,ι,n,x=>objK r ι n x.1::qjd l ι (n+nK r) x.2
def qix:(l:List PK)->ElP l->List IObj
 | [],_=>[]
 | .dat _::l,x=>qix l x.2
 | .fn _::l,x=>qix l x
 | .ref r::l,x=>subK r x.1++qix l x.2
def qm1:(l:List PK)->(Nat->Nat)->Nat->ElP l->List IV
 | [],_,_,_=>[]
 | .dat c::l,ρ,k,x=>asIV c x.1::qm1 l ρ k x.2
 | .fn f::l,ρ,k,x=>.fn f []::qm1 l ρ k x
 | .ref r::l,ρ,k,x=>argK r (ρ k)::qm1 l ρ (k+1) x.2
def idN(k:Nat):Nat:=k
def Sc(l:List PK)(x:ElP l):IS:=addO (qjd l idN (mP l) x++qix l x) S0
section
variable {E E' : Env}
end

def qem(rows:List Nat):List IV->List Nat->Bool
 | [],[]=>true
 | .ptr a 0::cs,k::is=>(match rows[k]? with
  | some b=>Nat.beq a b
  | none=>false)&&qem rows cs is
 | _,_=>false
def cloL(S:IS)(all:List Nat):List PK->List Nat->Bool
 | [],_=>true
 | .dat _::l,q=>cloL S all l q
 | .fn _::l,q=>cloL S all l q
 | .ref r::l,q=>match q with
  | id::q=>(match r with
   | .clo f is=>match S.heap.get id with
    | some (.row [.fn g cs])=>Nat.beq g f&&qem all cs is
    | _=>false
   | _=>true)&&cloL S all l q
  | []=>false
section
variable {T : TW} {E : Env} {S : IS}
def Nums(ι:Nat->Nat)(n:Nat)(q:List Nat):Prop:=∀(j id:Nat),q[j]?=some id->ι (n+j)=id
theorem Nums.fst{ι:Nat->Nat}{n:Nat}{a b:List Nat}(h:Nums ι n (a++b)):Nums ι n a:=fun j id hj=>h j id (by rw[ja2 (jal.1 hj).1];exact hj)
theorem Nums.snd{ι:Nat->Nat}{n:Nat}{a b:List Nat}(h:Nums ι n (a++b)):Nums ι (n+a.length) b:=fun j id hj=>by
 have:=h (a.length+j) id (by rw[jbf (by omega),jbe];exact hj)
 rwa [<- jcq] at this
theorem qy9{ι:Nat->Nat}{all:List Nat}(hn:Nums ι 0 all):∀{cs:List IV} {is:List Nat},qem all cs is=true->cs=is.map fun k=>.ptr (ι k) 0
 | [],[],_=>rfl
 | [],k::is,h=>by simp[qem] at h
 | v::cs,[],h=>by cases v<;>simp [qem] at h
 | v::cs,k::is,h=>by
  cases v<;>try (simp [qem] at h;done)
  rename_i a off;cases off with
  | succ _=>simp [qem] at h
  | zero =>
  simp only[qem,jaf] at h;obtain⟨h1,h2⟩:=h;cases hk:all[k]? with
  | none=>rw[hk] at h1;cases h1
  | some b =>
   rw[hk] at h1;have e1:a=b:=jah h1;have e2:=hn k b hk;rw[ja9] at e2;rw[jcc,<- qy9 hn h2,e2,e1]
def CloP(S:IS)(ι:Nat->Nat)(l:List PK)(rows:List Nat):Prop:=qgn l=true\/∃all,Nums ι 0 all/\cloL S all l rows=true
theorem CloP.tail{S:IS}{ι:Nat->Nat}{r:RK}{l:List PK}{id:Nat}{q:List Nat}(h:CloP S ι (.ref r::l) (id::q)):CloP S ι l q:=by
 rcases h with h|⟨all,h1,h2⟩
 ·simp only[qgn,jaf] at h;exact .inl h.2
 ·simp only[cloL,jaf] at h2;exact .inr ⟨all,h1,h2.2⟩
theorem CloP.head{S:IS}{ι:Nat->Nat}{f:Nat}{is:List Nat}{l:List PK}{id:Nat}{q:List Nat}(h:CloP S ι (.ref (.clo f is)::l) (id::q)):True/\S.heap.get id=some (.row [.fn f (is.map fun k=>.ptr (ι k) 0)]):=by
 rcases h with h|⟨all,h1,h2⟩
 ·simp[qgn] at h
 ·simp only[cloL,jaf] at h2;have h3:=h2.1;split at h3
  ·rename_i g cs ho;simp only[jaf] at h3;rw[ho,jah h3.1,qy9 h1 h3.2];exact⟨trivial,rfl⟩
  ·cases h3
end

end Go.Jx
end

section
namespace Go.Jx
open Go Go.Sx Go.RowKit
universe u

structure SmR where
 ps:List PK
 rts:List (Bool × TC)
 f:ElP ps->Option (ElR rts × ElP (refs ps))
def RetB(B:Nat)(T:TW)(E:Env)(S:IS)(r:Res):Ending->World->Prop:=fun e w'=>∃u E',e=.returned u/\E'.w=w'/\VR E' r.v u/\PostB B T E S E' r.S
def newO(s:SmR)(y:ElR s.rts)(z:ElP (refs s.ps)):List IObj:=qix (refs s.ps) z++resO s.rts y
def ScB(s:SmR)(y:ElR s.rts)(z:ElP (refs s.ps)):IS:=addO (qjd (refs s.ps) idN (mP s.ps) z++newO s y z) S0
def vB(s:SmR)(base:Nat)(y:ElR s.rts):IV:=tupI (resV s.rts (base+nP (refs s.ps)) y)
structure ConR (P:Program) (f:Nat) (s:SmR):Prop where
 callable:qai P f
 calls:∀(E:Env) (x:ElP s.ps) (us:List Value) (y:ElR s.rts) (z:ElP (refs s.ps)),s.f x=some (y,z)->Pre T0 E (Sc s.ps x)->VRs E (qm1 s.ps idN 0 x) us ->
  CallsIn Fence.wide 0 P f us.toArray E.w (RetB (mP s.ps) T0 E (Sc s.ps x) ⟨vB s (mP s.ps) y,ScB s y z,0,0⟩)
section
variable {P : Program} {T : TW} {E : Env} {S : IS}
end
end Go.Jx
end

section
namespace Go.Jx
open Go Go.Sx Go.RowKit
universe u

end Go.Jx
end

section
namespace Go.Jx
open Go Go.Sx Go.RowKit
universe u

section
variable {E : Env}
end
section
variable {P : Program} {tt : Nat -> Option TI} {ft : Nat -> Option FI}
end
end Go.Jx
end

section
namespace Go.Jx
open Go Go.Sx Go.RowKit
universe u

section
variable {P : Program} {tt : Nat -> Option TI} {nm : Nat -> Option Nm} {lf : Nat} {st hd : Nat -> Bool} {cl : Cl}
end
end Go.Jx
end

section
namespace Go.Jx
open Go Go.Sx Go.RowKit
universe u
inductive NoD (n:Nat):Type
instance (n:Nat):Dat (NoD n) where
 sz:=n
 enc _ _ _ x:=nomatch x
 len {_ _ _ x} _:=nomatch x
 mono {_ _ _ _ _ x} _ _:=nomatch x
 ones {_ _ _ x} _:=nomatch x
end Go.Jx
end

noncomputable section
set_option maxRecDepth 100000
namespace Go.Proofs.YtcnhjofpmpipfaaGreat
open Go Go.Sx Go.RowKit Go.Jx

theorem za8(lf:Nat)(l:List qaa)(a b:ByteArray):qmx lf l a b=some (S.leads l a b,()):=by
 simp only[qmx,q6a,S.leads,keqS];have ea:S.lit [65,78,89]=S.ANY:=rfl;rw[ea];by_cases h:b=S.ANY
 ·simp[h]
 ·rw[jai h,jae,jdr];cases (S.ruleOf l a).2<;>rfl
theorem qyj:Con Tryz.prog zgi qs3:=zd7 ⟨q6v,trivial⟩ fun x y _ h=>⟨0,(za8 _ _ _ _).trans h⟩
theorem zny(lf:Nat)(l:List qaa)(g:qac)(a b:DCol):qpa lf l g a b=some (S.fits l g a b,()):=by
 simp only[qpa,qxe,S.fits,qa0,oL];generalize S.leads l a.2.2 b.2.2=bl;generalize S.within g.2.2 0 1=bw;by_cases h1:g.2.1=1
 ·simp only[h1,decide_true,jab,jb4];by_cases h:a.2.1=b.2.1
  ·rw[h];by_cases h3:b.2.1=3<;>simp [h3]
  ·simp[h]
 by_cases h2:g.2.1=2
 ·by_cases h:a.2.1=2<;>simp [h2,h]
 by_cases h3:g.2.1=3
 ·by_cases h:a.2.1=1<;>simp [h3,h]
 by_cases h4:g.2.1=4
 ·by_cases h:a.2.1=1<;>simp [h4,h]
 by_cases h5:g.2.1=5
 ·by_cases h:a.2.1=3<;>by_cases h':b.2.1=3<;>simp [h5,h,h']
 by_cases h6:g.2.1=6
 ·by_cases h:b.2.1=1<;>by_cases h':b.2.1=2<;>simp [h6,h,h']
 simp[h1,h2,h3,h4,h5,h6]
theorem zg5:Con Tryz.prog zga q7x:=zpi ⟨qr4,qyj,trivial⟩ fun x y _ h=>⟨0,(zny _ _ _ _ _).trans h⟩
theorem zig(lf:Nat)(l:List qaa)(g:qac)(cols:List DCol)(b:DCol)(p:DCol):qjv lf l g cols b p=some (S.unlessE (S.fits l g p b) 8,()):=by
 simp only[qjv,qr7,jfe,S.unlessE];cases S.fits l g p b<;>rfl
theorem zll(lf:Nat)(l:List qaa)(g:qac)(cols:List DCol)(b:DCol)(h:S.within g.2.1 1 5=true->0<=S.col cols g.1):qjl lf l g cols b ()=some (S.unlessE (S.fits l g (if S.within g.2.1 1 5=true then S.at_ S.zCol cols (S.col cols g.1) else S.zCol) b) 8,()):=by
 simp only[qjl,qu5,zig,oL];cases hw:S.within g.2.1 1 5 with
 | false=>rfl
 | true =>
  obtain⟨c,c1,c2,_⟩:=S.idx_get (p:=fun c:DCol=>keqS c.1 g.1) (l:=cols) (h hw);have c1':jget cols (S.col cols g.1)=some c:=c1;have c3:S.at_ S.zCol cols (S.col cols g.1)=c:=by
   unfold S.at_ S.col;rw[c2];rfl
  simp only[c1',jab,jb4,c3,jfe]
theorem zpf(lf:Nat)(l:List qaa)(g:qac)(cols:List DCol)(b:DCol):Fz5 lf l g cols b=some (S.give l g cols b,()):=by
 have key:∀p,(S.within g.2.1 1 5=true->0<=S.col cols g.1)->p=S.most g->qef lf l g cols b p=some ((if S.within g.2.1 1 7=false\/(S.within g.2.1 1 5=false/\¬g.1=S.lit [])\/S.within g.2.2 (-S.most g) (S.most g)=false\/(g.2.1=6/\b.2.1=2/\S.within g.2.2 0 1=false) then 1
 else S.unlessE (S.fits l g (if S.within g.2.1 1 5=true then S.at_ S.zCol cols (S.col cols g.1) else S.zCol) b) 8),()):=by
  intro p hc hp;have hn:IntKind.i64.wrap (Int.sub 0 p)=- S.most g:=by
   subst hp;have:Int.sub 0 (S.most g)=- S.most g:=Int.zero_sub _;rw[this];exact qia (by unfold S.most;split<;>simp)
  simp only[qef,qrc,zll lf l g cols b hc,oL,hn,keqS,qa0];rw[hp];generalize S.unlessE _ _=u;generalize S.within g.2.1 1 7=b7;generalize S.within g.2.1 1 5=b5;generalize S.within g.2.2 (-S.most g) (S.most g)=bm;generalize S.within g.2.2 0 1=b01;by_cases h1:g.1=S.lit []<;>by_cases h6:g.2.1=6<;>by_cases h2:b.2.1=2<;>cases b7<;>cases b5<;>cases bm<;>cases b01<;>simp [h1,h6,h2]
 simp only[Fz5,qt9,S.give,oL,qan,qa0];by_cases hc:S.within g.2.1 1 5=true/\S.col cols g.1<0
 ·rw[jam hc,hc.1,jaj hc.2];rfl
 rw[jak hc];have hc':S.within g.2.1 1 5=true->0<=S.col cols g.1:=fun h=>by
  rcases jfl (S.col cols g.1) 0 with h1|h1
  ·exact absurd ⟨h,h1⟩ hc
  ·exact h1
 have fin:(cond (decide (g.2.1=4)) (qef lf l g cols b 1099511627776) (cond (decide (g.2.1=6)) (qef lf l g cols b 1099511627776) (qef lf l g cols b 0)))=qef lf l g cols b (S.most g):=by
  unfold S.most;by_cases h4:g.2.1=4<;>by_cases h6:g.2.1=6<;>simp [h4,h6]
 rw[fin];refine Eq.trans ?_ (key _ hc' rfl);cases hw:S.within g.2.1 1 5 with
 | false=>rfl
 | true=>rw[jab,jai (by have:=hc' hw;omega),jae]
theorem qsm:Con Tryz.prog idz5 spz5:=mkz5 ⟨qvd,qr4,zg5,trivial⟩ fun x y _ h=>⟨0,(zpf _ _ _ _ _).trans h⟩

theorem qcb{l:List qab}{n:ByteArray}(h:0<=S.form l n):∃f,jget l (S.form l n)=some f/\S.colsOf l n=f.2/\f∈l/\f.1=n:=by
 obtain⟨f,f1,f2,f3,f4,f5,f6⟩:=S.idx_get (p:=fun f:qab=>keqS f.1 n) (l:=l) h;refine⟨f,f1,?_,f4,jau f3⟩;unfold S.colsOf S.at_ S.form;rw[f2];rfl
theorem zb2(a b:List qab)(l:List qaa)(K20:Int->Option Rtz6)(now was:List DCol)(gs:List qac)(hg:gs.length<LF)(hlen:gs.length=now.length)(i:Nat) :
  qjw LF a b l K20 LF (now,was,gs,Int.ofNat 0,Int.ofNat i)=if S.crGives l was now gs=0 then K20 (IntKind.i64.wrap (Int.add (Int.ofNat i) (Int.ofNat 1))) else some (S.crGives l was now gs,()):=by
 refine range0 (σ:=Unit) (R:=Rtz6) gs (fun k _=>(now,was,gs,k,Int.ofNat i)) (fun _ _=>True) (fun rest k _=>if S.crGives l was (now.drop k) rest=0 then K20 (IntKind.i64.wrap (Int.add (Int.ofNat i) (Int.ofNat 1))) else some (S.crGives l was (now.drop k) rest,())) hg (fun K s _=>?_) (fun K k g rest s _ r h=>?_) () trivial
 ·have:S.crGives l was (now.drop gs.length) []=0:=by unfold S.crGives;split<;>simp_all
  simp only[qq1,qaw,jae,this,jb4]
 ·have h:=h () trivial;have hk:k<now.length:=by rw[<- hlen];exact r.lt
  have hj:jget now (Int.ofNat k)=some now[k]:=by rw[qbw];exact jac hk
  rw[jb0 hk,S.crGives];simp only[qq1,r.ilt,r.get,r.next,h,jab,hj,jfe,qrf];by_cases h0:S.give l g was now[k]=0
  ·rw[jai (by simpa using h0),jae,jam h0]
  ·rw[jaj h0,jab,jak h0,jak h0]
theorem zlm(a b:List qab)(l:List qaa)(hl:l.length<LF)(hw:∀r∈l,r.2.2.length<LF)(hf:∀r∈l,0<=S.form a r.1/\0<=S.form b r.2.1):qld LF a b l LF (Int.ofNat 0)=some (S.crGo3 a b l l,()):=by
 refine qbm (R:=Rtz6) l (fun rest i=>some (S.crGo3 a b l rest,())) hl (fun K=>?_) (fun K i v rest r h=>?_)
 ·simp only[qqp,qaw,jae];rfl
 ·obtain⟨fa,a1,a2,a3,a4⟩:=qcb (hf v r.mem).1;obtain⟨fb,b1,b2,b3,b4⟩:=qcb (hf v r.mem).2;simp only[qqp,r.ilt,r.get,jab,a1,b1,qee];rw[S.crGo3,a2,b2];by_cases hlen:v.2.2.length=fb.2.length
  ·rw[jaj hlen,jbh,jae,jam hlen];refine(zb2 a b l K fb.2 fa.2 v.2.2 (hw v r.mem) hlen i).trans ?_;rw[r.next,h];split<;>rfl
  ·rw[jai hlen,jba,jab,jak hlen];rfl
theorem q8w(a b:List qab)(l:List qaa)(ha:a.length<LF)(hl:l.length<LF)(hw:∀r∈l,r.2.2.length<LF)(hf:∀r∈l,0<=S.form a r.1/\0<=S.form b r.2.1):qk3 LF a b l LF (Int.ofNat 0)=some (S.crGo2 a b l a,()):=by
 refine qbm (R:=Rtz6) a (fun rest i=>some (S.crGo2 a b l rest,())) ha (fun K=>?_) (fun K i v rest r h=>?_)
 ·simp only[qp4,qaw,jae];exact zlm a b l hl hw hf
 ·simp only[qp4,r.ilt,r.get,r.next,h,jab];rw[S.crGo2];cases (S.ruleOf l v.1).2<;>rfl
theorem ze5(a b:List qab)(l:List qaa)(ha:a.length<LF)(hl:l.length<LF)(hw:∀r∈l,r.2.2.length<LF):Fz6 LF a b l=some (S.checkRules0 a b l,()):=by
 simp only[Fz6,qsb,S.checkRules0,qc0];by_cases h24:24<l.length
 ·rw[jaj h24,jab,jam h24];rfl
 rw[jai h24,jae,jak h24];refine range0 (σ:=Unit) (R:=Rtz6) l (fun i _=>i) (fun i _=>∀r∈l.take i,0<=S.form a r.1/\0<=S.form b r.2.1) (fun rest i _=>some (S.crGo a b l i rest,())) hl (fun K s hI=>?_) (fun K i v rest s hI r h=>?_) () (by simp)
 ·simp only[qqx,qaw,jae];rw[jer] at hI;rw[S.crGo];exact q8w a b l ha hl hw hI
 ·simp only[qqx,r.ilt,r.get,r.next,jab,qrz l (jco r.lt),qvh,qan];rw[S.crGo];simp only[oL];by_cases h1:S.form a v.1<0
  ·rw[jaj h1,jab,jam h1]
  by_cases h2:S.form b v.2.1<0
  ·rw[jai h1,jae,jak h1,jaj h2,jab,jam h2]
  rw[jai h1,jae,jak h1,jai h2,jae,jak h2];cases (S.ruleOf (l.take i) v.1).2 with
  | true=>rfl
  | false =>
   rw[jae,jak (by simp)];refine h () fun q hq=>?_;rw[r.take,jbi] at hq;rcases hq with hq|hq
   ·exact hI q hq
   ·simp only[ja1,jdk,or_false] at hq;subst hq;exact⟨by omega,by omega⟩
theorem zb8:Con Tryz.prog idz6 spz6:=mkz6 ⟨qiv,q6v,qsm,trivial⟩ fun x y hx h=>⟨LF,(ze5 _ _ _ (qbf hx.1) (qbf hx.2.2.1) fun r hr=>qbf (hx.2.2.1.2 r hr).2.2).trans h⟩
theorem znw(lf:Nat)(a b:List qab)(l:List qaa):qpp lf a b l=some (S.checkRules a b l,()):=by
 simp only[qpp,qyd,S.checkRules,qrf];by_cases h0:S.first [S.checkForms a,S.checkForms b]=0
 ·rw[jai (by simpa using h0),jae,jam h0]
 ·rw[jaj h0,jab,jak h0]
theorem q6d:Con Tryz.prog zmg qrw:=zg3 ⟨qql,qpf,zb8,trivial⟩ fun x y hx h=>⟨0,(znw _ _ _ _).trans h⟩
structure RulesOK (a b:List qab) (l:List qaa):Prop where
 len:l.length<=24
 has:∀r∈l,0<=S.form a r.1/\0<=S.form b r.2.1
 one:∀k (h:k<l.length),(S.ruleOf (l.take k) l[k].1).2=false
 all:∀f∈a,(S.ruleOf l f.1).2=true
 glen:∀r∈l,r.2.2.length=(S.colsOf b r.2.1).length
 gok:∀r∈l,∀k (h:k<r.2.2.length) (h':k<(S.colsOf b r.2.1).length),S.give l r.2.2[k] (S.colsOf a r.1) (S.colsOf b r.2.1)[k]=0
theorem qtc(l:List qaa)(was:List DCol):∀(now:List DCol) (gs:List qac),gs.length=now.length->(S.crGives l was now gs=0↔∀k (h:k<gs.length) (h':k<now.length),S.give l gs[k] was now[k]=0)
 | [],[],_=>by simp[S.crGives]
 | [],g::gs,h=>by simp at h
 | c::now,[],h=>by simp at h
 | c::now,g::gs,h=>by
  rw[S.crGives];have ih:=qtc l was now gs (by simpa using h);by_cases h0:S.give l g was c=0
  ·rw[jam h0,ih];constructor
   ·intro hk k h1 h2;cases k with
    | zero=>exact h0
    | succ k=>exact hk k (by simpa using h1) (by simpa using h2)
   ·intro hk k h1 h2;exact hk (k+1) (by simpa using h1) (by simpa using h2)
  ·rw[jak h0];constructor
   ·intro h1;exact absurd h1 h0
   ·intro hk;exact absurd (hk 0 (by simp) (by simp)) h0
theorem q3l(a b:List qab)(l:List qaa):∀(rs:List qaa),S.crGo3 a b l rs=0↔∀r∈rs,r.2.2.length=(S.colsOf b r.2.1).length/\S.crGives l (S.colsOf a r.1) (S.colsOf b r.2.1) r.2.2=0
 | []=>by simp[S.crGo3]
 | r::rs=>by
  rw[S.crGo3];have ih:=q3l a b l rs;by_cases h1:r.2.2.length=(S.colsOf b r.2.1).length
  ·rw[jam h1];by_cases h2:S.crGives l (S.colsOf a r.1) (S.colsOf b r.2.1) r.2.2=0
   ·rw[jam h2,ih];simp [h1,h2]
   ·rw[jak h2];simp [h2]
  ·rw[jak h1];simp [h1]
theorem q3h(a b:List qab)(l:List qaa):∀(fs:List qab),S.crGo2 a b l fs=0↔(∀f∈fs,(S.ruleOf l f.1).2=true)/\S.crGo3 a b l l=0
 | []=>by simp[S.crGo2]
 | f::fs=>by
  rw[S.crGo2];have ih:=q3h a b l fs;cases h1:(S.ruleOf l f.1).2 with
  | true=>rw[jam rfl,ih];simp [h1]
  | false=>rw[jak (by simp)];simp [h1]
theorem q1s(a b:List qab)(l:List qaa):∀(rest:List qaa) (k:Nat),l.drop k=rest->(S.crGo a b l k rest=0↔(∀j (h:j<l.length),k<=j->0<=S.form a l[j].1/\0<=S.form b l[j].2.1/\(S.ruleOf (l.take j) l[j].1).2=false)/\S.crGo2 a b l a=0)
 | [],k,hd=>by
  rw[S.crGo];have:l.length<=k:=by simpa using hd
  constructor
  ·intro h;exact⟨fun j h1 h2=>by omega,h⟩
  ·intro h;exact h.2
 | r::rs,k,hd=>by
  have hk:k<l.length:=by
   rcases jbm k l.length with h|h
   ·exact h
   ·rw[List.drop_eq_nil_of_le h] at hd;cases hd
  have hr:l[k]=r:=by rw[jb0 hk] at hd;exact(jff hd).1
  have hd':l.drop (k+1)=rs:=by rw[jb0 hk] at hd;exact(jff hd).2
  have ih:=q1s a b l rs (k+1) hd';rw[S.crGo];by_cases h1:S.form a r.1<0
  ·rw[jam h1];constructor
   ·intro h;cases h
   ·intro h;have:=(h.1 k hk (jap _)).1;rw[hr] at this;omega
  by_cases h2:S.form b r.2.1<0
  ·rw[jak h1,jam h2];constructor
   ·intro h;cases h
   ·intro h;have:=(h.1 k hk (jap _)).2.1;rw[hr] at this;omega
  rw[jak h1,jak h2];cases h3:(S.ruleOf (l.take k) r.1).2 with
  | true =>
   rw[jam rfl];constructor
   ·intro h;cases h
   ·intro h;have:=(h.1 k hk (jap _)).2.2;rw[hr,h3] at this;cases this
  | false =>
   rw[jak (by simp),ih];constructor
   ·rintro⟨h,h'⟩;refine⟨fun j hj hkj=>?_,h'⟩;by_cases e:j=k
    ·subst e;rw[hr];exact⟨by omega,by omega,h3⟩
    ·exact h j hj (by omega)
   ·rintro⟨h,h'⟩;exact⟨fun j hj hkj=>h j hj (by omega),h'⟩
theorem qm4(a b:List qab)(l:List qaa):S.checkRules0 a b l=0↔RulesOK a b l:=by
 unfold S.checkRules0;by_cases h24:24<l.length
 ·rw[jam h24];exact⟨fun h=>(by cases h),fun h=>(by have:=h.len;omega)⟩
 rw[jak h24,q1s a b l l 0 rfl,q3h,q3l];constructor
 ·rintro⟨h1,h2,h3⟩;refine⟨by omega,fun r hr=>?_,fun k hk=>(h1 k hk (jbj _)).2.2,h2,fun r hr=>(h3 r hr).1,fun r hr=>(qtc _ _ _ _ (h3 r hr).1).1 (h3 r hr).2⟩;obtain⟨k,hk,rfl⟩:=jay.1 hr;exact⟨(h1 k hk (jbj _)).1,(h1 k hk (jbj _)).2.1⟩
 ·intro h;exact⟨fun j hj _=>⟨(h.has _ (ja0 hj)).1,(h.has _ (ja0 hj)).2,h.one j hj⟩,h.all,fun r hr=>⟨h.glen r hr,(qtc _ _ _ _ (h.glen r hr)).2 (h.gok r hr)⟩⟩
theorem q2h{l:List qaa}{c:ByteArray}(h:(S.ruleOf l c).2=true):(S.ruleOf l c).1∈l/\(S.ruleOf l c).1.1=c:=by
 unfold S.ruleOf at h ⊢;cases hf:l.find? (fun r=>keqS r.1 c) with
 | none=>rw[hf] at h;cases h
 | some r =>
  have hk:keqS r.1 c=true:=List.find?_some (p:=fun r:qaa=>keqS r.1 c) hf;exact⟨List.mem_of_find?_eq_some hf,jau hk⟩
theorem qxv{l:List qaa}{g:qac}{cols:List DCol}{b:DCol}(h:S.give l g cols b=0):S.within g.2.1 1 7=true/\(S.within g.2.1 1 5=true->0<=S.col cols g.1):=by
 unfold S.give at h;split at h
 ·cases h
 rename_i h1;split at h
 ·cases h
 rename_i h2;simp only[not_or] at h2;refine⟨by simpa using h2.1,fun hw=>?_⟩;rcases jfl (S.col cols g.1) 0 with h3|h3
 ·exact absurd ⟨hw,h3⟩ h1
 ·exact h3
theorem ql4(cols:List DCol)(n:ByteArray)(h:0<=S.col cols n):S.col cols n<cols.length:=by
 obtain⟨c,_,_,_,_,h5,_⟩:=S.idx_get (p:=fun c:DCol=>keqS c.1 n) (l:=cols) h;exact h5
theorem zaj{n b:Nat}(h:(n+1)*b<=140737488355328):Nat.ble (Nat.mul (Nat.add n 1) b) 140737488355328=true:=jc0 h
theorem qbx(s:ByteArray):(qad s).length=s.size:=by
 unfold qad;rw[jbd];exact jew
theorem qnm{s:ByteArray}{i:Nat}(h:i<s.size):(qad s)[i]?=some ((s[i]'h).toNat:Int):=by
 unfold qad;rw[jbw,jac (by simpa using h)];rfl
theorem zk4{s:ByteArray}{b:Int}(h:b∈qad s):0<=b/\b<256:=by
 unfold qad at h;obtain⟨x,_,rfl⟩:=jbu.1 h;have:=x.toNat_lt;constructor<;>omega
theorem q6f{s:ByteArray}{q:Int->Bool}(hq:∀r,128<=r->q r=true):∀(n i:Nat) (k:Int),s.size-i<n->sixO (fun _ r=>some (q r)) s true n i=some k->(k<0↔∀j b,i<=j->(qad s)[j]?=some b->q b=false)
 | 0,i,k,h,_=>by omega
 | n+1,i,k,h,hk=>by
  unfold sixO at hk;by_cases hlt:i<s.size
  ·have hb:Nat.blt i s.size=true:=by simpa using hlt
   rw[hb,jab] at hk;simp only at hk;have hg:=qnm hlt;by_cases ha:(s[i]'hlt).toNat<128
   ·have hd:=decode_ascii s i hlt ha;rw[hd] at hk;simp only at hk;cases hb2:q (((s[i]'hlt).toNat:Nat):Int) with
    | true =>
     have e:q (Int.ofNat (s[i]'hlt).toNat)=true:=hb2;rw[e] at hk;cases hk;constructor
     ·intro h;have:(0:Int)<=Int.ofNat i:=jc8 _;omega
     ·intro h;have:=h i _ (jap _) hg;rw[hb2] at this;cases this
    | false =>
     have e:q (Int.ofNat (s[i]'hlt).toNat)=false:=hb2;rw[e] at hk;simp only[ja3,decide_false,jae] at hk;rw[q6f hq n (i+1) k (by omega) hk];constructor
     ·intro h j b hj hjb;by_cases e:j=i
      ·subst e;rw[hg] at hjb;cases hjb;exact hb2
      ·exact h j b (by omega) hjb
     ·intro h j b hj hjb;exact h j b (by omega) hjb
   ·have hd:=decode_high s i hlt (by omega);have e:q (Int.ofNat (Utf8.decode s i).1)=true:=hq _ (by have:=hd.1;show (128:Int)<=((Utf8.decode s i).1:Int);omega);rw[e] at hk;cases hk;constructor
    ·intro h;have:(0:Int)<=Int.ofNat i:=jc8 _;omega
    ·intro h;have:=h i _ (jap _) hg;rw[hq _ (by omega)] at this;cases this
  ·have hb:Nat.blt i s.size=false:=by
    cases hbb:Nat.blt i s.size with
    | false=>rfl
    | true=>exact absurd (by simpa using hbb) hlt
   rw[hb,jae] at hk;cases hk;constructor
   ·intro _ j b hj hjb;have:=(jal.1 hjb).1;rw[qbx] at this;omega
   ·intro _;omega
theorem q79{s:ByteArray}{lo hi:Int}(hh:hi<128):S.named s lo hi=true↔s.size<=20/\(∃b,(qad s)[0]?=some b/\lo<=b/\b<=hi)/\∀b∈qad s,S.badR b lo hi=false:=by
 unfold S.named;by_cases h0:s=S.lit []
 ·rw[jam h0];constructor
  ·intro h;cases h
  ·rintro⟨_,⟨b,hb,_⟩,_⟩;subst h0;cases hb
 rw[jak h0];by_cases h1:20<s.size
 ·rw[jam h1];exact⟨fun h=>(by cases h),fun h=>by omega⟩
 rw[jak h1];obtain⟨b,hb⟩:=q1u (q38 h0);rw[hb];simp only;by_cases h2:b<lo
 ·rw[jam h2];exact⟨fun h=>(by cases h),fun ⟨_,⟨b',e,h3,_⟩,_⟩=>by cases e;omega⟩
 rw[jak h2];by_cases h3:hi<b
 ·rw[jam h3];exact⟨fun h=>(by cases h),fun ⟨_,⟨b',e,_,h4⟩,_⟩=>by cases e;omega⟩
 rw[jak h3];obtain⟨k,hk⟩:=qr5 (p:=fun _ r=>some (S.badR r lo hi)) (q:=fun r=>S.badR r lo hi) (fun _ _=>rfl) s true (s.size+1) 0 (by omega);rw[hk];simp only[jax];rw[q6f (q:=fun r=>S.badR r lo hi) (fun r hr=>by simp[S.badR];omega) _ 0 k (by omega) hk];constructor
 ·intro h;refine⟨by omega,⟨b,rfl,by omega,by omega⟩,fun c hc=>?_⟩;obtain⟨j,hj⟩:=jen.1 hc;exact h j c (jbj _) hj
 ·rintro⟨_,_,h⟩ j c _ hj;exact h c (jbr hj)
theorem q3i(l:List ByteArray)(v:ByteArray):decide (S.index l v<0)=true↔¬v∈l:=by
 have h:=S.idx_nonneg (fun x=>keqS v x) l;simp only[jax];have e:l.any (fun x=>keqS v x)=true↔v∈l:=by
  rw[jcf];constructor
  ·rintro⟨x,hx,h⟩;rw[jau h];exact hx
  ·intro h;exact⟨v,h,jaj rfl⟩
 rw[e] at h;rw[<- h];unfold S.index;omega
namespace S
def isSmall(b:Int):Bool:=decide (97<=b)&&decide (b<=122)
def isCap(b:Int):Bool:=decide (65<=b)&&decide (b<=90)
def isDig(b:Int):Bool:=decide (48<=b)&&decide (b<=57)
def isPart(b:Int):Bool:=isSmall b||isCap b||isDig b||decide (b=95)
end S
theorem qj2(s:ByteArray):S.small s=true↔s.size<=20/\(∃b,(qad s)[0]?=some b/\97<=b/\b<=122)/\(∀b∈qad s,S.badR b 97 122=false)/\¬s∈S.smallWords:=by
 unfold S.small;rw[jaf,q79 (by decide),q3i];simp only[and_assoc]
theorem zes(s:ByteArray):S.class_ s=true↔s.size<=20/\(∃b,(qad s)[0]?=some b/\65<=b/\b<=90)/\(∀b∈qad s,S.isPart b=true/\S.isSmall b=false)/\¬s∈S.classWords:=by
 unfold S.class_;rw[jaf,q79 (by decide),q3i];have hbad:∀b,S.badR b 65 90=false↔(S.isPart b=true/\S.isSmall b=false):=fun b=>by
  simp only[S.badR,S.isPart,S.isSmall,S.isCap,S.isDig,je5,jdf,jaf,jax,jep,jci];omega
 simp only[hbad,and_assoc]
abbrev qzk:Type:=Int × Int
abbrev zie:Type:=Int × Int
abbrev zi2:Type:=List qaa × Bool × Int
namespace S
def has(l:List ByteArray)(s:ByteArray):Bool:=l.any fun x=>keqS x s
def run0(s:ByteArray):Int:=Int.ofNat ((qad s).takeWhile isPart).length
def numGo:List Int->Int->Int × Int
 | [],n=>(n,0)
 | b::r,n =>
  let m:=IntKind.i64.wrap (Int.sub (IntKind.i64.wrap (Int.add (IntKind.i64.wrap (Int.mul (Int.ofNat 10) n)) b)) (Int.ofNat 48))
  if 1099511627776<m then (0,3) else numGo r m
def number(s:ByteArray):Int × Int :=
 if (qad s).all isDig=false then (0,2)
 else if (qad s)[0]?=some 48/\1<s.size then (0,2)
 else numGo (qad s) 0
def wordsT:List ByteArray:=[S.lit [84,114,117,101],S.lit [70,97,108,115,101],S.lit [86,111,105,100],S.lit [67,117,114,114,101,110,116],S.lit [82,101,115,117,108,116]]
def keywords:List ByteArray:=[S.lit [97,110,100],S.lit [97,115],S.lit [97,116,116,97,99,104,101,100],S.lit [99,104,101,99,107],S.lit [99,108,97,115,115],S.lit [99,114,101,97,116,101],S.lit [100,101,102,101,114,114,101,100],S.lit [100,101,116,97,99,104,97,98,108,101],S.lit [100,111],S.lit [101,108,115,101],S.lit [101,110,100],S.lit [101,110,115,117,114,101],S.lit [102,101,97,116,117,114,101],S.lit [102,114,111,109],S.lit [105,102],S.lit [105,109,112,108,105,101,115],S.lit [105,110,104,101,114,105,116],S.lit [105,110,118,97,114,105,97,110,116],S.lit [108,111,99,97,108],S.lit [108,111,111,112],S.lit [110,111,116],S.lit [111,108,100],S.lit [111,114],S.lit [112,117,116],S.lit [114,97,105,115,101],S.lit [114,101,100,101,102,105,110,101],S.lit [114,101,110,97,109,101],S.lit [114,101,113,117,105,114,101],S.lit [114,101,115,99,117,101],S.lit [114,101,116,114,121],S.lit [115,101,108,101,99,116],S.lit [115,101,112,97,114,97,116,101],S.lit [116,104,101,110],S.lit [117,110,100,101,102,105,110,101],S.lit [117,110,116,105,108],S.lit [118,97,114,105,97,110,116],S.lit [119,104,101,110]]
def signs:List ByteArray:=[S.lit [58,61],S.lit [47,61],S.lit [60,61],S.lit [62,61],S.lit [47,47],S.lit [61],S.lit [60],S.lit [62],S.lit [43],S.lit [45],S.lit [42],S.lit [37],S.lit [40],S.lit [41],S.lit [91],S.lit [93],S.lit [123],S.lit [125],S.lit [44],S.lit [59],S.lit [58],S.lit [46]]
def word(s:ByteArray):Int × Int :=
 if has keywords s||has wordsT s then (3,0)
 else if has smallWords s then (0,4)
 else if (qad s).any isSmall&&(qad s).any isCap then (0,2)
 else if 20<s.size then (0,3)
 else if (qad s).any isSmall then (1,0)
 else (2,0)
def shape(s:ByteArray):Int × Int :=
 if has signs s then (5,0)
 else match (qad s)[0]? with
  | none=>(0,2)
  | some b=>if run0 s<Int.ofNat s.size then (0,2)
   else if b=95 then (0,2)
   else if isDig b then (if (number s).2=0 then (4,0) else (0,(number s).2))
   else word s
end S
def spz7:Sm:=⟨[.list .str,.str],[(false,.bool)],fun x=>some (S.has x.1 x.2.1,())⟩
def qy4:Sm:=⟨[.str,.int .i64],[(false,.int .i64)],fun x=>cond (ieqI x.2.1 (Int.ofNat 0)) (some (S.run0 x.1,())) none⟩
def q03:Sm:=⟨[.str],[(false,qtz)],fun x=>cond (Nat.blt 0 x.1.size) (some (S.number x.1,())) none⟩
def q4w:Sm:=⟨[.str],[(false,qi3)],fun x=>some (S.word x.1,())⟩
def qw6:Sm:=⟨[.str],[(false,qi3)],fun x=>some (S.shape x.1,())⟩
def spz9:Sm:=⟨[.list cForm,.str],[(false,.int .i64)],fun x=>some (S.form x.1 x.2.1,())⟩
def qih:Sm:=⟨[cForm,.str],[(false,.int .i64)],fun x=>some (S.col x.1.2 x.2.1,())⟩
def qsg:Sm:=⟨[.str],[(false,.bool)],fun x=>some (S.class_ x.1,())⟩
def spz8:Sm:=⟨[.str],[(false,.bool)],fun x=>some (S.small x.1,())⟩
def qrm:Sm:=⟨[.list cForm],[(false,.int .i64)],fun x=>some (S.checkForms x.1,())⟩
def qu3:Sm:=⟨[.list cRule,.str],[(false,.int .i64)],fun x=>some (S.idx (fun r:qaa=>keqS r.1 x.2.1) x.1,())⟩
def q7v:Sm:=⟨[.list cRule,.str],[(false,.str)],fun x=>some ((S.ruleOf x.1 x.2.1).1.2.1,())⟩
namespace S
def rleads(l:List qaa)(a b:DCol):Bool:=decide (b.2.2=S.ANY)||(decide (¬a.2.2=S.ANY)&&decide ((S.ruleOf l a.2.2).1.2.1=b.2.2))
end S
def q3s:Sm:=⟨[.list cRule,cCol,cCol],[(false,.bool)],fun x=>some (S.rleads x.1 x.2.1 x.2.2.1,())⟩
namespace S
def numbered(g:qac)(b:DCol):Bool :=
 if g.2.1=4 then within g.2.2 (-1099511627776) 1099511627776
 else if g.2.1=6 then (if b.2.1=2 then decide (g.1=S.lit [])&&within g.2.2 0 1 else decide (g.1=S.lit [])&&within g.2.2 (-1099511627776) 1099511627776)
 else if g.2.1=7 then decide (g.1=S.lit [])&&decide (g.2.2=0)
 else decide (g.2.2=0)
def sourced(g:qac):Bool:=within g.2.1 1 5
end S
def q62:Sm:=⟨[qar,cCol],[(false,.bool)],fun x=>some (S.numbered x.1 x.2.1,())⟩
def nmz7:Nat->Option Nm:=fun k=>cond (Nat.beq k 2) (some ⟨[0,1,5],[],[],[],[],0,0,false⟩) (none)
def stz7:Nat->Bool:=fun k=>cond (Nat.beq k 2) true (false)
def hdz7:=stz7
abbrev Rtz7:Type:=Bool × Unit
def q4z:List (Nat × Sm):=[]
def qyo:List (Nat × Hx):=[]
def clz7(R:Type)(lf:Nat):ClK R:=qa3 Tryz.prog ttT.get ftT.get (nm1 137 nmz7) (smL q4z) (hxL qyo) lf 20 R
abbrev idz7:Nat:=137
def qh6(x1:(List ByteArray))(x2:ByteArray)(p:Int):NRes:=(NRes.mk (.node (some (IV.lst TC.str x1)) (.node (some (IV.str x2)) .leaf (.node (some (IV.int .i64 p)) .leaf .leaf)) .leaf) (IS.mk .leaf 0) [] 0)
def qx2(lf:Nat)(x1:(List ByteArray))(x2:ByteArray)(L2:Int->Option Rtz7):Option Rtz7:=(L2 (Int.ofNat 0))
def qod(lf:Nat)(x1:(List ByteArray))(x2:ByteArray)(L2:Int->Option Rtz7)(p:Int):Option Rtz7:=(cond (iltI p (Int.ofNat x1.length)) (match (jget x1 p) with|none=>none|some v0=>(cond (keqS v0 x2) (some (true,())) (L2 (IntKind.i64.wrap (Int.add p (Int.ofNat 1)))))) (some (false,())))
abbrev gz7:Type:=ElA [(.list .str),.str]->Option Rtz7
abbrev sz7(g:gz7):Sm:=⟨[(.list .str),.str],[(false,.bool)],g⟩
abbrev Ez7(g:gz7)(J:JT Rtz7)(lf:Nat)(x1:(List ByteArray))(x2:ByteArray):=qbc Tryz.prog ttT.get nmz7 qde.nt (clz7 _ lf) lf stz7 J qde.body [] (qay (argV [(.list .str),.str] (x1,x2,())) 0 .leaf) S0 [] (qao ttT.get qde (sz7 g))
abbrev Bz7(g:gz7)(J:JT Rtz7)(lf k:Nat)(ms:List Nat)(q:NRes):=qbj Tryz.prog ttT.get nmz7 qde.nt (clz7 _ lf) lf stz7 J k qde.body [] ms q (qao ttT.get qde (sz7 g))
theorem inz7(g:gz7)(J:JT Rtz7)(lf:Nat)(x1:(List ByteArray))(x2:ByteArray):Ez7 g J lf x1 x2=qx2 lf x1 x2 (fun q=>J 2 [lf] (qh6 x1 x2 q)):=by kernel_rfl
theorem zpb(g:gz7)(J:JT Rtz7)(lf:Nat)(x1:(List ByteArray))(x2:ByteArray)(m1:Nat)(p:Int):Bz7 g J lf 2 [m1] (qh6 x1 x2 p)=qod lf x1 x2 (fun q=>J 2 [m1] (qh6 x1 x2 q)) p:=by kernel_rfl
theorem ndz7:(regs qde.body).Nodup:=by decide +kernel
theorem okz7:okC nmz7 stz7 hdz7 qde.body none=true:=by kernel_rfl
def Az7(g:gz7)(lf:Nat):JT Rtz7:=atN Tryz.prog ttT.get nmz7 qde (sz7 g) (clz7 _ lf) lf hdz7
def qnt(lf:Nat)(x1:(List ByteArray))(x2:ByteArray):Nat->(Int)->Option Rtz7:=qas fun K p=>qod lf x1 x2 K p
theorem q7f(g:gz7)(lf:Nat)(x1:(List ByteArray))(x2:ByteArray):∀(n:Nat) (p:Int),Az7 g lf 2 [n] (qh6 x1 x2 p)=qnt lf x1 x2 n p
 | 0,p=>qax 2 [0] rfl _
 | n+1,p=>by
  have ih:=q7f g lf x1 x2 n;refine(qau (qaq 20 _) ndz7 okz7 2 [n+1] [n] rfl _).trans ((zpb g (Az7 g lf) lf x1 x2 n p).trans ?_);rw[(show (fun q=>Az7 g lf 2 [n] (qh6 x1 x2 q))=(fun q=>qnt lf x1 x2 n q) from funext ih)];rfl
def Fz7(lf:Nat)(x1:(List ByteArray))(x2:ByteArray):Option Rtz7:=qx2 lf x1 x2 (fun q=>qnt lf x1 x2 lf q)
theorem zkr(g:gz7)(lf:Nat)(x1:(List ByteArray))(x2:ByteArray):Ez7 g (Az7 g lf) lf x1 x2=Fz7 lf x1 x2:=by
  refine(inz7 g (Az7 g lf) lf x1 x2).trans ?_;rw[(show (fun q=>Az7 g lf 2 [lf] (qh6 x1 x2 q))=(fun q=>qnt lf x1 x2 lf q) from funext fun q=>q7f g lf x1 x2 lf q)];rfl
theorem zml:qbb Tryz.prog qyo:=trivial
theorem mkz7{g:gz7}(hsm:SmOK Tryz.prog q4z)(hg:∀(x:ElA [(.list .str),.str]) (y:Rtz7),WfA [(.list .str),.str] x->g x=some y->∃lf,Fz7 lf x.1 x.2.1=some y):Con Tryz.prog 137 ⟨[(.list .str),.str],[(false,.bool)],g⟩ :=
 conV (st:=stz7) (fun lf x=>Fz7 lf x.1 x.2.1) cm3 zgc zml ndz7 okz7 (fun lf x=>zkr g lf x.1 x.2.1) hsm hg
def nmz8:Nat->Option Nm:=fun k=>cond (Nat.beq k 4) (some ⟨[0,3],[],[],[],[],0,0,false⟩) (none)
def stz8:Nat->Bool:=fun k=>cond (Nat.beq k 4) true (false)
def hdz8:=stz8
abbrev Rtz8:Type:=Bool × Unit
def q0l:List (Nat × Sm):=[]
def q4v:List (Nat × Hx):=[]
def clz8(R:Type)(lf:Nat):ClK R:=qa3 Tryz.prog ttT.get ftT.get (nm1 93 nmz8) (smL q0l) (hxL q4v) lf 20 R
abbrev idz8:Nat:=93
def qhn(x1:ByteArray)(p:Int):NRes:=(NRes.mk (.node (some (IV.str x1)) (.node none (.node (some (IV.int .i64 p)) .leaf .leaf) .leaf) .leaf) (IS.mk .leaf 0) [] 0)
def qu7(lf:Nat)(x1:ByteArray)(L4:Int->Option Rtz8):Option Rtz8:=(cond (iltI (Int.ofNat x1.size) (Int.ofNat 1)) (some (false,())) (cond (iltI (Int.ofNat 20) (Int.ofNat x1.size)) (some (false,())) (match (jget (qad x1) (Int.ofNat 0)) with|none=>none|some v0=>(cond (iltI v0 (Int.ofNat 97)) (some (false,())) (match (jget (qad x1) (Int.ofNat 0)) with|none=>none|some v1=>(cond (iltI (Int.ofNat 122) v1) (some (false,())) (L4 (Int.ofNat 0))))))))
def qna(lf:Nat)(x1:ByteArray)(L4:Int->Option Rtz8)(p:Int):Option Rtz8:=(cond (iltI p (Int.ofNat x1.size)) (match (jget (qad x1) p) with|none=>none|some v0=>(cond (Bool.not (iltI v0 (Int.ofNat 97))) (match (jget (qad x1) p) with|none=>none|some v1=>(cond (Bool.not (iltI (Int.ofNat 122) v1)) (L4 (IntKind.i64.wrap (Int.add p (Int.ofNat 1)))) (match (jget (qad x1) p) with|none=>none|some v25=>(cond (Bool.not (iltI v25 (Int.ofNat 48))) (match (jget (qad x1) p) with|none=>none|some v26=>(cond (Bool.not (iltI (Int.ofNat 57) v26)) (L4 (IntKind.i64.wrap (Int.add p (Int.ofNat 1)))) (match (jget (qad x1) p) with|none=>none|some v27=>(cond (Bool.not (ieqI v27 (Int.ofNat 95))) (some (false,())) (L4 (IntKind.i64.wrap (Int.add p (Int.ofNat 1)))))))) (match (jget (qad x1) p) with|none=>none|some v28=>(cond (Bool.not (ieqI v28 (Int.ofNat 95))) (some (false,())) (L4 (IntKind.i64.wrap (Int.add p (Int.ofNat 1)))))))))) (match (jget (qad x1) p) with|none=>none|some v29=>(cond (Bool.not (iltI v29 (Int.ofNat 48))) (match (jget (qad x1) p) with|none=>none|some v30=>(cond (Bool.not (iltI (Int.ofNat 57) v30)) (L4 (IntKind.i64.wrap (Int.add p (Int.ofNat 1)))) (match (jget (qad x1) p) with|none=>none|some v31=>(cond (Bool.not (ieqI v31 (Int.ofNat 95))) (some (false,())) (L4 (IntKind.i64.wrap (Int.add p (Int.ofNat 1)))))))) (match (jget (qad x1) p) with|none=>none|some v32=>(cond (Bool.not (ieqI v32 (Int.ofNat 95))) (some (false,())) (L4 (IntKind.i64.wrap (Int.add p (Int.ofNat 1)))))))))) (cond (Bool.not (keqS x1 (S.lit [116,114,117,101]))) (cond (Bool.not (keqS x1 (S.lit [102,97,108,115,101]))) (cond (Bool.not (keqS x1 (S.lit [118,111,105,100]))) (cond (Bool.not (keqS x1 (S.lit [99,117,114,114,101,110,116]))) (some ((Bool.not (keqS x1 (S.lit [114,101,115,117,108,116]))),())) (some (false,()))) (some (false,()))) (some (false,()))) (some (false,()))))
abbrev gz8:Type:=ElA [.str]->Option Rtz8
abbrev sz8(g:gz8):Sm:=⟨[.str],[(false,.bool)],g⟩
abbrev Ez8(g:gz8)(J:JT Rtz8)(lf:Nat)(x1:ByteArray):=qbc Tryz.prog ttT.get nmz8 fi93.nt (clz8 _ lf) lf stz8 J fi93.body [] (qay (argV [.str] (x1,())) 0 .leaf) S0 [] (qao ttT.get fi93 (sz8 g))
abbrev Bz8(g:gz8)(J:JT Rtz8)(lf k:Nat)(ms:List Nat)(q:NRes):=qbj Tryz.prog ttT.get nmz8 fi93.nt (clz8 _ lf) lf stz8 J k fi93.body [] ms q (qao ttT.get fi93 (sz8 g))
theorem inz8(g:gz8)(J:JT Rtz8)(lf:Nat)(x1:ByteArray):Ez8 g J lf x1=qu7 lf x1 (fun q=>J 4 [lf] (qhn x1 q)):=by kernel_rfl
theorem znl(g:gz8)(J:JT Rtz8)(lf:Nat)(x1:ByteArray)(m1:Nat)(p:Int):Bz8 g J lf 4 [m1] (qhn x1 p)=qna lf x1 (fun q=>J 4 [m1] (qhn x1 q)) p:=by kernel_rfl
theorem ndz8:(regs fi93.body).Nodup:=by decide +kernel
theorem okz8:okC nmz8 stz8 hdz8 fi93.body none=true:=by kernel_rfl
def Az8(g:gz8)(lf:Nat):JT Rtz8:=atN Tryz.prog ttT.get nmz8 fi93 (sz8 g) (clz8 _ lf) lf hdz8
def qim(lf:Nat)(x1:ByteArray):Nat->(Int)->Option Rtz8:=qas fun K p=>qna lf x1 K p
theorem q6i(g:gz8)(lf:Nat)(x1:ByteArray):∀(n:Nat) (p:Int),Az8 g lf 4 [n] (qhn x1 p)=qim lf x1 n p
 | 0,p=>qax 4 [0] rfl _
 | n+1,p=>by
  have ih:=q6i g lf x1 n;refine(qau (qaq 20 _) ndz8 okz8 4 [n+1] [n] rfl _).trans ((znl g (Az8 g lf) lf x1 n p).trans ?_);rw[(show (fun q=>Az8 g lf 4 [n] (qhn x1 q))=(fun q=>qim lf x1 n q) from funext ih)];rfl
def Fz8(lf:Nat)(x1:ByteArray):Option Rtz8:=qu7 lf x1 (fun q=>qim lf x1 lf q)
theorem zc4(g:gz8)(lf:Nat)(x1:ByteArray):Ez8 g (Az8 g lf) lf x1=Fz8 lf x1:=by
  refine(inz8 g (Az8 g lf) lf x1).trans ?_;rw[(show (fun q=>Az8 g lf 4 [lf] (qhn x1 q))=(fun q=>qim lf x1 lf q) from funext fun q=>q6i g lf x1 lf q)];rfl
theorem zly:qbb Tryz.prog q4v:=trivial
theorem mkz8{g:gz8}(hsm:SmOK Tryz.prog q0l)(hg:∀(x:ElA [.str]) (y:Rtz8),WfA [.str] x->g x=some y->∃lf,Fz8 lf x.1=some y):Con Tryz.prog 93 ⟨[.str],[(false,.bool)],g⟩ :=
 conV (st:=stz8) (fun lf x=>Fz8 lf x.1) cm3 zgj zly ndz8 okz8 (fun lf x=>zc4 g lf x.1) hsm hg
def nmz9:Nat->Option Nm:=fun k=>cond (Nat.beq k 2) (some ⟨[0,1,5],[],[],[],[],0,0,false⟩) (none)
def stz9:Nat->Bool:=fun k=>cond (Nat.beq k 2) true (false)
def hdz9:=stz9
abbrev Rtz9:Type:=Int × Unit
def q0j:List (Nat × Sm):=[]
def q70:List (Nat × Hx):=[]
def clz9(R:Type)(lf:Nat):ClK R:=qa3 Tryz.prog ttT.get ftT.get (nm1 40 nmz9) (smL q0j) (hxL q70) lf 20 R
abbrev idz9:Nat:=40
def qgs(x1:(List qab))(x2:ByteArray)(p:Int):NRes:=(NRes.mk (.node (some (IV.lst cForm x1)) (.node (some (IV.str x2)) .leaf (.node (some (IV.int .i64 p)) .leaf .leaf)) .leaf) (IS.mk .leaf 0) [] 0)
def qyl(lf:Nat)(x1:(List qab))(x2:ByteArray)(L2:Int->Option Rtz9):Option Rtz9:=(L2 (Int.ofNat 0))
def qph(lf:Nat)(x1:(List qab))(x2:ByteArray)(L2:Int->Option Rtz9)(p:Int):Option Rtz9:=(cond (iltI p (Int.ofNat x1.length)) (match (jget x1 p) with|none=>none|some v0=>(cond (keqS v0.1 x2) (some (p,())) (L2 (IntKind.i64.wrap (Int.add p (Int.ofNat 1)))))) (some ((Int.negSucc 0),())))
abbrev gz9:Type:=ElA [(.list cForm),.str]->Option Rtz9
abbrev sz9(g:gz9):Sm:=⟨[(.list cForm),.str],[(false,(.int .i64))],g⟩
abbrev Ez9(g:gz9)(J:JT Rtz9)(lf:Nat)(x1:(List qab))(x2:ByteArray):=qbc Tryz.prog ttT.get nmz9 fi40.nt (clz9 _ lf) lf stz9 J fi40.body [] (qay (argV [(.list cForm),.str] (x1,x2,())) 0 .leaf) S0 [] (qao ttT.get fi40 (sz9 g))
abbrev Bz9(g:gz9)(J:JT Rtz9)(lf k:Nat)(ms:List Nat)(q:NRes):=qbj Tryz.prog ttT.get nmz9 fi40.nt (clz9 _ lf) lf stz9 J k fi40.body [] ms q (qao ttT.get fi40 (sz9 g))
theorem inz9(g:gz9)(J:JT Rtz9)(lf:Nat)(x1:(List qab))(x2:ByteArray):Ez9 g J lf x1 x2=qyl lf x1 x2 (fun q=>J 2 [lf] (qgs x1 x2 q)):=by kernel_rfl
theorem zlv(g:gz9)(J:JT Rtz9)(lf:Nat)(x1:(List qab))(x2:ByteArray)(m1:Nat)(p:Int):Bz9 g J lf 2 [m1] (qgs x1 x2 p)=qph lf x1 x2 (fun q=>J 2 [m1] (qgs x1 x2 q)) p:=by kernel_rfl
theorem ndz9:(regs fi40.body).Nodup:=by decide +kernel
theorem okz9:okC nmz9 stz9 hdz9 fi40.body none=true:=by kernel_rfl
def Az9(g:gz9)(lf:Nat):JT Rtz9:=atN Tryz.prog ttT.get nmz9 fi40 (sz9 g) (clz9 _ lf) lf hdz9
def qn9(lf:Nat)(x1:(List qab))(x2:ByteArray):Nat->(Int)->Option Rtz9:=qas fun K p=>qph lf x1 x2 K p
theorem q6e(g:gz9)(lf:Nat)(x1:(List qab))(x2:ByteArray):∀(n:Nat) (p:Int),Az9 g lf 2 [n] (qgs x1 x2 p)=qn9 lf x1 x2 n p
 | 0,p=>qax 2 [0] rfl _
 | n+1,p=>by
  have ih:=q6e g lf x1 x2 n;refine(qau (qaq 20 _) ndz9 okz9 2 [n+1] [n] rfl _).trans ((zlv g (Az9 g lf) lf x1 x2 n p).trans ?_);rw[(show (fun q=>Az9 g lf 2 [n] (qgs x1 x2 q))=(fun q=>qn9 lf x1 x2 n q) from funext ih)];rfl
def Fz9(lf:Nat)(x1:(List qab))(x2:ByteArray):Option Rtz9:=qyl lf x1 x2 (fun q=>qn9 lf x1 x2 lf q)
theorem zjv(g:gz9)(lf:Nat)(x1:(List qab))(x2:ByteArray):Ez9 g (Az9 g lf) lf x1 x2=Fz9 lf x1 x2:=by
  refine(inz9 g (Az9 g lf) lf x1 x2).trans ?_;rw[(show (fun q=>Az9 g lf 2 [lf] (qgs x1 x2 q))=(fun q=>qn9 lf x1 x2 lf q) from funext fun q=>q6e g lf x1 x2 lf q)];rfl
theorem zoj:qbb Tryz.prog q70:=trivial
theorem mkz9{g:gz9}(hsm:SmOK Tryz.prog q0j)(hg:∀(x:ElA [(.list cForm),.str]) (y:Rtz9),WfA [(.list cForm),.str] x->g x=some y->∃lf,Fz9 lf x.1 x.2.1=some y):Con Tryz.prog 40 ⟨[(.list cForm),.str],[(false,(.int .i64))],g⟩ :=
 conV (st:=stz9) (fun lf x=>Fz9 lf x.1 x.2.1) cm3 zk9 zoj ndz9 okz9 (fun lf x=>zjv g lf x.1 x.2.1) hsm hg
def qlg:Nat->Option Nm:=fun k=>cond (Nat.beq k 2) (some ⟨[1,2,5],[],[],[],[],0,0,false⟩) (none)
def qjj:Nat->Bool:=fun k=>cond (Nat.beq k 2) true (false)
def q6b:=qjj
abbrev qcn:Type:=Int × Unit
def q0r:List (Nat × Sm):=[]
def q2s:List (Nat × Hx):=[]
def qt3(R:Type)(lf:Nat):ClK R:=qa3 Tryz.prog ttT.get ftT.get (nm1 53 qlg) (smL q0r) (hxL q2s) lf 20 R
abbrev zic:Nat:=53
def qgq(x1:qab)(x2:ByteArray)(p:Int):NRes:=(NRes.mk (.node none (.node (some (IV.str x2)) .leaf (.node (some (IV.int .i64 p)) .leaf .leaf)) (.node (some (IV.ptr 0 0)) .leaf .leaf)) (IS.mk (.node (some (IObj.row (List.cons (IV.str x1.1) [(IV.lst cCol x1.2)]))) .leaf .leaf) 1) [] 0)
def q29(lf:Nat)(x1:qab)(x2:ByteArray)(L2:Int->Option qcn):Option qcn:=(L2 (Int.ofNat 0))
def qov(lf:Nat)(x1:qab)(x2:ByteArray)(L2:Int->Option qcn)(p:Int):Option qcn:=(cond (iltI p (Int.ofNat x1.2.length)) (match (jget x1.2 p) with|none=>none|some v0=>(cond (keqS v0.1 x2) (some (p,())) (L2 (IntKind.i64.wrap (Int.add p (Int.ofNat 1)))))) (some ((Int.negSucc 0),())))
abbrev gz10:Type:=ElA [cForm,.str]->Option qcn
abbrev sz10(g:gz10):Sm:=⟨[cForm,.str],[(false,(.int .i64))],g⟩
abbrev Ez10(g:gz10)(J:JT qcn)(lf:Nat)(x1:qab)(x2:ByteArray):=qbc Tryz.prog ttT.get qlg fi53.nt (qt3 _ lf) lf qjj J fi53.body [] (qay (argV [cForm,.str] (x1,x2,())) 0 .leaf) S0 [] (qao ttT.get fi53 (sz10 g))
abbrev Bz10(g:gz10)(J:JT qcn)(lf k:Nat)(ms:List Nat)(q:NRes):=qbj Tryz.prog ttT.get qlg fi53.nt (qt3 _ lf) lf qjj J k fi53.body [] ms q (qao ttT.get fi53 (sz10 g))
theorem q8p(g:gz10)(J:JT qcn)(lf:Nat)(x1:qab)(x2:ByteArray):Ez10 g J lf x1 x2=q29 lf x1 x2 (fun q=>J 2 [lf] (qgq x1 x2 q)):=by kernel_rfl
theorem zn7(g:gz10)(J:JT qcn)(lf:Nat)(x1:qab)(x2:ByteArray)(m1:Nat)(p:Int):Bz10 g J lf 2 [m1] (qgq x1 x2 p)=qov lf x1 x2 (fun q=>J 2 [m1] (qgq x1 x2 q)) p:=by kernel_rfl
theorem qwm:(regs fi53.body).Nodup:=by decide +kernel
theorem qv1:okC qlg qjj q6b fi53.body none=true:=by kernel_rfl
def Az10(g:gz10)(lf:Nat):JT qcn:=atN Tryz.prog ttT.get qlg fi53 (sz10 g) (qt3 _ lf) lf q6b
def qo5(lf:Nat)(x1:qab)(x2:ByteArray):Nat->(Int)->Option qcn:=qas fun K p=>qov lf x1 x2 K p
theorem qyv(g:gz10)(lf:Nat)(x1:qab)(x2:ByteArray):∀(n:Nat) (p:Int),Az10 g lf 2 [n] (qgq x1 x2 p)=qo5 lf x1 x2 n p
 | 0,p=>qax 2 [0] rfl _
 | n+1,p=>by
  have ih:=qyv g lf x1 x2 n;refine(qau (qaq 20 _) qwm qv1 2 [n+1] [n] rfl _).trans ((zn7 g (Az10 g lf) lf x1 x2 n p).trans ?_);rw[(show (fun q=>Az10 g lf 2 [n] (qgq x1 x2 q))=(fun q=>qo5 lf x1 x2 n q) from funext ih)];rfl
def Fz10(lf:Nat)(x1:qab)(x2:ByteArray):Option qcn:=q29 lf x1 x2 (fun q=>qo5 lf x1 x2 lf q)
theorem zfv(g:gz10)(lf:Nat)(x1:qab)(x2:ByteArray):Ez10 g (Az10 g lf) lf x1 x2=Fz10 lf x1 x2:=by
  refine(q8p g (Az10 g lf) lf x1 x2).trans ?_;rw[(show (fun q=>Az10 g lf 2 [lf] (qgq x1 x2 q))=(fun q=>qo5 lf x1 x2 lf q) from funext fun q=>qyv g lf x1 x2 lf q)];rfl
theorem zfi:qbb Tryz.prog q2s:=trivial
theorem zm8{g:gz10}(hsm:SmOK Tryz.prog q0r)(hg:∀(x:ElA [cForm,.str]) (y:qcn),WfA [cForm,.str] x->g x=some y->∃lf,Fz10 lf x.1 x.2.1=some y):Con Tryz.prog 53 ⟨[cForm,.str],[(false,(.int .i64))],g⟩ :=
 conV (st:=qjj) (fun lf x=>Fz10 lf x.1 x.2.1) cm3 zd9 zfi qwm qv1 (fun lf x=>zfv g lf x.1 x.2.1) hsm hg
def ql0:Nat->Option Nm:=fun k=>cond (Nat.beq k 4) (some ⟨[0,3],[],[],[],[],0,0,false⟩) (cond (Nat.beq k 14) (some ⟨[0,3,5],[],[],[],[],0,0,false⟩) (cond (Nat.beq k 25) (some ⟨[0,8],[],[],[],[],0,0,false⟩) (cond (Nat.beq k 28) (some ⟨[0,8,9],[],[],[],[],0,0,false⟩) (none))))
def qig:Nat->Bool:=fun k=>cond (Nat.beq k 4) true (cond (Nat.beq k 14) true (cond (Nat.beq k 25) true (cond (Nat.beq k 28) true (false))))
def qza:=qig
abbrev qaz:Type:=Int × Unit
def q32:List (Nat × Sm):=[(92,qsg),(93,spz8),(40,spz9),(53,qih)]
def q39:List (Nat × Hx):=[]
def qvs(R:Type)(lf:Nat):ClK R:=qa3 Tryz.prog ttT.get ftT.get (nm1 47 ql0) (smL q32) (hxL q39) lf 20 R
abbrev qq5:Nat:=47
def qd4(x1:(List qab))(p:Int):NRes:=(NRes.mk (.node (some (IV.lst cForm x1)) (.node none (.node (some (IV.int .i64 p)) .leaf .leaf) .leaf) .leaf) (IS.mk .leaf 0) [] 0)
def qh8(x1:(List qab))(p:Int × Int):NRes:=(NRes.mk (.node (some (IV.lst cForm x1)) (.node none (.node (some (IV.int .i64 p.2)) .leaf .leaf) (.node (some (IV.int .i64 p.1)) .leaf .leaf)) .leaf) (IS.mk .leaf 0) [] 0)
def qdx(x1:(List qab))(p:Int):NRes:=(NRes.mk (.node (some (IV.lst cForm x1)) .leaf (.node none (.node none (.node (some (IV.int .i64 p)) .leaf .leaf) .leaf) .leaf)) (IS.mk .leaf 0) [] 0)
def qgc(x1:(List qab))(p:Int × Int):NRes:=(NRes.mk (.node (some (IV.lst cForm x1)) (.node none .leaf (.node none (.node (some (IV.int .i64 p.1)) .leaf .leaf) .leaf)) (.node none (.node none (.node (some (IV.int .i64 p.2)) .leaf .leaf) .leaf) .leaf)) (IS.mk .leaf 0) [] 0)
def qq7(lf:Nat)(x1:(List qab))(L4:Int->Option qaz):Option qaz:=(cond (iltI (Int.ofNat 24) (Int.ofNat x1.length)) (some ((Int.ofNat 3),())) (L4 (Int.ofNat 0)))
def qo6(lf:Nat)(x1:(List qab))(L14:(Int × Int)->Option qaz)(L25:Int->Option qaz)(p:Int):Option qaz:=(cond (iltI p (Int.ofNat x1.length)) (match (jget x1 p) with|none=>none|some v0=>(cond (Bool.not (S.class_ v0.1)) (some ((Int.ofNat 4),())) (match (jget x1 p) with|none=>none|some v1=>(cond (iltI (S.form x1 v1.1) p) (some ((Int.ofNat 6),())) (match (jget x1 p) with|none=>none|some v2=>(cond (iltI (Int.ofNat 30) (Int.ofNat v2.2.length)) (some ((Int.ofNat 3),())) (L14 ((Int.ofNat 0),p)))))))) (L25 (Int.ofNat 0)))
def qnz(lf:Nat)(x1:(List qab))(L14:(Int × Int)->Option qaz)(L4:Int->Option qaz)(p:Int × Int):Option qaz:=(match (jget x1 p.2) with|none=>none|some v0=>(cond (iltI p.1 (Int.ofNat v0.2.length)) (match (jget x1 p.2) with|none=>none|some v1=>(match (jget v1.2 p.1) with|none=>none|some v2=>(cond (Bool.not (S.small v2.1)) (some ((Int.ofNat 4),())) (match (jget x1 p.2) with|none=>none|some v3=>(cond (iltI (S.col v3.2 v2.1) p.1) (some ((Int.ofNat 6),())) (cond (Bool.not (iltI v2.2.1 (Int.ofNat 1))) (cond (Bool.not (Bool.not (iltI (Int.ofNat 3) v2.2.1))) (some ((Int.ofNat 1),())) (cond (Bool.not (ieqI v2.2.1 (Int.ofNat 3))) (cond (Bool.not (keqS v2.2.2 (S.lit []))) (some ((Int.ofNat 1),())) (L14 ((IntKind.i64.wrap (Int.add p.1 (Int.ofNat 1))),p.2))) (L14 ((IntKind.i64.wrap (Int.add p.1 (Int.ofNat 1))),p.2)))) (some ((Int.ofNat 1),())))))))) (L4 (IntKind.i64.wrap (Int.add p.2 (Int.ofNat 1))))))
def qq2(lf:Nat)(x1:(List qab))(L28:(Int × Int)->Option qaz)(p:Int):Option qaz:=(cond (iltI p (Int.ofNat x1.length)) (L28 ((Int.ofNat 0),p)) (some ((Int.ofNat 0),())))
def qns(lf:Nat)(x1:(List qab))(L28:(Int × Int)->Option qaz)(L25:Int->Option qaz)(p:Int × Int):Option qaz:=(match (jget x1 p.2) with|none=>none|some v0=>(cond (iltI p.1 (Int.ofNat v0.2.length)) (match (jget x1 p.2) with|none=>none|some v1=>(match (jget v1.2 p.1) with|none=>none|some v2=>(cond (ieqI v2.2.1 (Int.ofNat 3)) (cond (Bool.not (keqS v2.2.2 (S.lit [65,78,89]))) (cond (iltI (S.form x1 v2.2.2) (Int.ofNat 0)) (some ((Int.ofNat 5),())) (L28 ((IntKind.i64.wrap (Int.add p.1 (Int.ofNat 1))),p.2))) (L28 ((IntKind.i64.wrap (Int.add p.1 (Int.ofNat 1))),p.2))) (L28 ((IntKind.i64.wrap (Int.add p.1 (Int.ofNat 1))),p.2))))) (L25 (IntKind.i64.wrap (Int.add p.2 (Int.ofNat 1))))))
abbrev gz11:Type:=ElA [(.list cForm)]->Option qaz
abbrev sz11(g:gz11):Sm:=⟨[(.list cForm)],[(false,(.int .i64))],g⟩
abbrev Ez11(g:gz11)(J:JT qaz)(lf:Nat)(x1:(List qab)):=qbc Tryz.prog ttT.get ql0 fi47.nt (qvs _ lf) lf qig J fi47.body [] (qay (argV [(.list cForm)] (x1,())) 0 .leaf) S0 [] (qao ttT.get fi47 (sz11 g))
abbrev Bz11(g:gz11)(J:JT qaz)(lf k:Nat)(ms:List Nat)(q:NRes):=qbj Tryz.prog ttT.get ql0 fi47.nt (qvs _ lf) lf qig J k fi47.body [] ms q (qao ttT.get fi47 (sz11 g))
theorem zl1(g:gz11)(J:JT qaz)(lf:Nat)(x1:(List qab)):Ez11 g J lf x1=qq7 lf x1 (fun q=>J 4 [lf] (qd4 x1 q)):=by kernel_rfl
theorem zfr(g:gz11)(J:JT qaz)(lf:Nat)(x1:(List qab))(m1:Nat)(p:Int):Bz11 g J lf 4 [m1] (qd4 x1 p)=qo6 lf x1 (fun q=>J 14 [m1,lf] (qh8 x1 q)) (fun q=>J 25 [lf] (qdx x1 q)) p:=by kernel_rfl
theorem zil(g:gz11)(J:JT qaz)(lf:Nat)(x1:(List qab))(m1:Nat)(m2:Nat)(p:Int × Int):Bz11 g J lf 14 [m1,m2] (qh8 x1 p)=qnz lf x1 (fun q=>J 14 [m1,m2] (qh8 x1 q)) (fun q=>J 4 [m1] (qd4 x1 q)) p:=by kernel_rfl
theorem zht(g:gz11)(J:JT qaz)(lf:Nat)(x1:(List qab))(m1:Nat)(p:Int):Bz11 g J lf 25 [m1] (qdx x1 p)=qq2 lf x1 (fun q=>J 28 [m1,lf] (qgc x1 q)) p:=by kernel_rfl
theorem zlu(g:gz11)(J:JT qaz)(lf:Nat)(x1:(List qab))(m1:Nat)(m2:Nat)(p:Int × Int):Bz11 g J lf 28 [m1,m2] (qgc x1 p)=qns lf x1 (fun q=>J 28 [m1,m2] (qgc x1 q)) (fun q=>J 25 [m1] (qdx x1 q)) p:=by kernel_rfl
theorem qik:(regs fi47.body).Nodup:=by decide +kernel
theorem qi5:okC ql0 qig qza fi47.body none=true:=by kernel_rfl
def Az11(g:gz11)(lf:Nat):JT qaz:=atN Tryz.prog ttT.get ql0 fi47 (sz11 g) (qvs _ lf) lf qza
def qln(lf:Nat)(x1:(List qab))(K4:Int->Option qaz):Nat->(Int × Int)->Option qaz:=qas fun K p=>qnz lf x1 K K4 p
theorem q2a(g:gz11)(lf:Nat)(x1:(List qab))(m1:Nat):∀(n:Nat) (p:Int × Int),Az11 g lf 14 [m1,n] (qh8 x1 p)=qln lf x1 (fun q=>Az11 g lf 4 [m1] (qd4 x1 q)) n p
 | 0,p=>qax 14 [m1,0] rfl _
 | n+1,p=>by
  have ih:=q2a g lf x1 m1 n;refine(qau (qaq 20 _) qik qi5 14 [m1,n+1] [m1,n] rfl _).trans ((zil g (Az11 g lf) lf x1 m1 n p).trans ?_);rw[(show (fun q=>Az11 g lf 14 [m1,n] (qh8 x1 q))=(fun q=>qln lf x1 (fun q=>Az11 g lf 4 [m1] (qd4 x1 q)) n q) from funext ih)];rfl
def qkv(lf:Nat)(x1:(List qab))(K25:Int->Option qaz):Nat->(Int × Int)->Option qaz:=qas fun K p=>qns lf x1 K K25 p
theorem qy1(g:gz11)(lf:Nat)(x1:(List qab))(m1:Nat):∀(n:Nat) (p:Int × Int),Az11 g lf 28 [m1,n] (qgc x1 p)=qkv lf x1 (fun q=>Az11 g lf 25 [m1] (qdx x1 q)) n p
 | 0,p=>qax 28 [m1,0] rfl _
 | n+1,p=>by
  have ih:=qy1 g lf x1 m1 n;refine(qau (qaq 20 _) qik qi5 28 [m1,n+1] [m1,n] rfl _).trans ((zlu g (Az11 g lf) lf x1 m1 n p).trans ?_);rw[(show (fun q=>Az11 g lf 28 [m1,n] (qgc x1 q))=(fun q=>qkv lf x1 (fun q=>Az11 g lf 25 [m1] (qdx x1 q)) n q) from funext ih)];rfl
def qlf(lf:Nat)(x1:(List qab)):Nat->(Int)->Option qaz:=qas fun K p=>qq2 lf x1 (fun q=>qkv lf x1 K lf q) p
theorem q5h(g:gz11)(lf:Nat)(x1:(List qab)):∀(n:Nat) (p:Int),Az11 g lf 25 [n] (qdx x1 p)=qlf lf x1 n p
 | 0,p=>qax 25 [0] rfl _
 | n+1,p=>by
  have ih:=q5h g lf x1 n;refine(qau (qaq 20 _) qik qi5 25 [n+1] [n] rfl _).trans ((zht g (Az11 g lf) lf x1 n p).trans ?_);rw[(show (fun q=>Az11 g lf 28 [n,lf] (qgc x1 q))=(fun q=>qkv lf x1 (fun q=>Az11 g lf 25 [n] (qdx x1 q)) lf q) from funext fun q=>qy1 g lf x1 n lf q),(show (fun q=>Az11 g lf 25 [n] (qdx x1 q))=(fun q=>qlf lf x1 n q) from funext ih)];rfl
def qpd(lf:Nat)(x1:(List qab)):Nat->(Int)->Option qaz:=qas fun K p=>qo6 lf x1 (fun q=>qln lf x1 K lf q) (fun q=>qlf lf x1 lf q) p
theorem q4p(g:gz11)(lf:Nat)(x1:(List qab)):∀(n:Nat) (p:Int),Az11 g lf 4 [n] (qd4 x1 p)=qpd lf x1 n p
 | 0,p=>qax 4 [0] rfl _
 | n+1,p=>by
  have ih:=q4p g lf x1 n;refine(qau (qaq 20 _) qik qi5 4 [n+1] [n] rfl _).trans ((zfr g (Az11 g lf) lf x1 n p).trans ?_);rw[(show (fun q=>Az11 g lf 14 [n,lf] (qh8 x1 q))=(fun q=>qln lf x1 (fun q=>Az11 g lf 4 [n] (qd4 x1 q)) lf q) from funext fun q=>q2a g lf x1 n lf q),(show (fun q=>Az11 g lf 25 [lf] (qdx x1 q))=(fun q=>qlf lf x1 lf q) from funext fun q=>q5h g lf x1 lf q),(show (fun q=>Az11 g lf 4 [n] (qd4 x1 q))=(fun q=>qpd lf x1 n q) from funext ih)];rfl
def Fz11(lf:Nat)(x1:(List qab)):Option qaz:=qq7 lf x1 (fun q=>qpd lf x1 lf q)
theorem zpe(g:gz11)(lf:Nat)(x1:(List qab)):Ez11 g (Az11 g lf) lf x1=Fz11 lf x1:=by
  refine(zl1 g (Az11 g lf) lf x1).trans ?_;rw[(show (fun q=>Az11 g lf 4 [lf] (qd4 x1 q))=(fun q=>qpd lf x1 lf q) from funext fun q=>q4p g lf x1 lf q)];rfl
theorem zms:qbb Tryz.prog q39:=trivial
theorem zha{g:gz11}(hsm:SmOK Tryz.prog q32)(hg:∀(x:ElA [(.list cForm)]) (y:qaz),WfA [(.list cForm)] x->g x=some y->∃lf,Fz11 lf x.1=some y):Con Tryz.prog 47 ⟨[(.list cForm)],[(false,(.int .i64))],g⟩ :=
 conV (st:=qig) (fun lf x=>Fz11 lf x.1) cm3 zo7 zms qik qi5 (fun lf x=>zpe g lf x.1) hsm hg
def qmd:Nat->Option Nm:=fun k=>cond (Nat.beq k 2) (some ⟨[0,1,5],[],[],[],[],0,0,false⟩) (none)
def qkp:Nat->Bool:=fun k=>cond (Nat.beq k 2) true (false)
def q4f:=qkp
abbrev qce:Type:=Int × Unit
def qz6:List (Nat × Sm):=[]
def q2z:List (Nat × Hx):=[]
def qub(R:Type)(lf:Nat):ClK R:=qa3 Tryz.prog ttT.get ftT.get (nm1 41 qmd) (smL qz6) (hxL q2z) lf 20 R
abbrev zmi:Nat:=41
def qgk(x1:(List qaa))(x2:ByteArray)(p:Int):NRes:=(NRes.mk (.node (some (IV.lst cRule x1)) (.node (some (IV.str x2)) .leaf (.node (some (IV.int .i64 p)) .leaf .leaf)) .leaf) (IS.mk .leaf 0) [] 0)
def q2m(lf:Nat)(x1:(List qaa))(x2:ByteArray)(L2:Int->Option qce):Option qce:=(L2 (Int.ofNat 0))
def qob(lf:Nat)(x1:(List qaa))(x2:ByteArray)(L2:Int->Option qce)(p:Int):Option qce:=(cond (iltI p (Int.ofNat x1.length)) (match (jget x1 p) with|none=>none|some v0=>(cond (keqS v0.1 x2) (some (p,())) (L2 (IntKind.i64.wrap (Int.add p (Int.ofNat 1)))))) (some ((Int.negSucc 0),())))
abbrev gz12:Type:=ElA [(.list cRule),.str]->Option qce
abbrev sz12(g:gz12):Sm:=⟨[(.list cRule),.str],[(false,(.int .i64))],g⟩
abbrev Ez12(g:gz12)(J:JT qce)(lf:Nat)(x1:(List qaa))(x2:ByteArray):=qbc Tryz.prog ttT.get qmd fi41.nt (qub _ lf) lf qkp J fi41.body [] (qay (argV [(.list cRule),.str] (x1,x2,())) 0 .leaf) S0 [] (qao ttT.get fi41 (sz12 g))
abbrev Bz12(g:gz12)(J:JT qce)(lf k:Nat)(ms:List Nat)(q:NRes):=qbj Tryz.prog ttT.get qmd fi41.nt (qub _ lf) lf qkp J k fi41.body [] ms q (qao ttT.get fi41 (sz12 g))
theorem zme(g:gz12)(J:JT qce)(lf:Nat)(x1:(List qaa))(x2:ByteArray):Ez12 g J lf x1 x2=q2m lf x1 x2 (fun q=>J 2 [lf] (qgk x1 x2 q)):=by kernel_rfl
theorem zgg(g:gz12)(J:JT qce)(lf:Nat)(x1:(List qaa))(x2:ByteArray)(m1:Nat)(p:Int):Bz12 g J lf 2 [m1] (qgk x1 x2 p)=qob lf x1 x2 (fun q=>J 2 [m1] (qgk x1 x2 q)) p:=by kernel_rfl
theorem q0s:(regs fi41.body).Nodup:=by decide +kernel
theorem q7g:okC qmd qkp q4f fi41.body none=true:=by kernel_rfl
def Az12(g:gz12)(lf:Nat):JT qce:=atN Tryz.prog ttT.get qmd fi41 (sz12 g) (qub _ lf) lf q4f
def qqr(lf:Nat)(x1:(List qaa))(x2:ByteArray):Nat->(Int)->Option qce:=qas fun K p=>qob lf x1 x2 K p
theorem qzj(g:gz12)(lf:Nat)(x1:(List qaa))(x2:ByteArray):∀(n:Nat) (p:Int),Az12 g lf 2 [n] (qgk x1 x2 p)=qqr lf x1 x2 n p
 | 0,p=>qax 2 [0] rfl _
 | n+1,p=>by
  have ih:=qzj g lf x1 x2 n;refine(qau (qaq 20 _) q0s q7g 2 [n+1] [n] rfl _).trans ((zgg g (Az12 g lf) lf x1 x2 n p).trans ?_);rw[(show (fun q=>Az12 g lf 2 [n] (qgk x1 x2 q))=(fun q=>qqr lf x1 x2 n q) from funext ih)];rfl
def Fz12(lf:Nat)(x1:(List qaa))(x2:ByteArray):Option qce:=q2m lf x1 x2 (fun q=>qqr lf x1 x2 lf q)
theorem q8t(g:gz12)(lf:Nat)(x1:(List qaa))(x2:ByteArray):Ez12 g (Az12 g lf) lf x1 x2=Fz12 lf x1 x2:=by
  refine(zme g (Az12 g lf) lf x1 x2).trans ?_;rw[(show (fun q=>Az12 g lf 2 [lf] (qgk x1 x2 q))=(fun q=>qqr lf x1 x2 lf q) from funext fun q=>qzj g lf x1 x2 lf q)];rfl
theorem zgb:qbb Tryz.prog q2z:=trivial
theorem zn9{g:gz12}(hsm:SmOK Tryz.prog qz6)(hg:∀(x:ElA [(.list cRule),.str]) (y:qce),WfA [(.list cRule),.str] x->g x=some y->∃lf,Fz12 lf x.1 x.2.1=some y):Con Tryz.prog 41 ⟨[(.list cRule),.str],[(false,(.int .i64))],g⟩ :=
 conV (st:=qkp) (fun lf x=>Fz12 lf x.1 x.2.1) cm3 zi1 zgb q0s q7g (fun lf x=>q8t g lf x.1 x.2.1) hsm hg
abbrev qp7:Type:=ByteArray × Unit
abbrev zbr:Nat:=143
def qxl(lf:Nat)(x1:(List qaa))(x2:ByteArray):Option qp7:=(cond (iltI (S.idx (fun v0=>(keqS v0.1 x2)) x1) (Int.ofNat 0)) (some ((S.lit []),())) (match (jget x1 (S.idx (fun v1=>(keqS v1.1 x2)) x1)) with|none=>none|some v2=>(some (v2.2.1,()))))
def qqm(lf:Nat)(x1:(List qaa))(x2:ByteArray):Option qp7:=qxl lf x1 x2
theorem zbc{g:ElA [(.list cRule),.str]->Option qp7}(hsm:SmOK Tryz.prog [(41,qu3)])(hg:∀(x:ElA [(.list cRule),.str]) (y:qp7),WfA [(.list cRule),.str] x->g x=some y->∃lf,qqm lf x.1 x.2.1=some y):Con Tryz.prog 143 ⟨[(.list cRule),.str],[(false,.str)],g⟩ :=
 conU (fi:=qrg) (hxl:=[]) (fun lf x=>qqm lf x.1 x.2.1) cm3 zpj trivial hsm hg
theorem quq{α:Type}(p:α->Bool)(rest:List α)(i:Nat)(v:α):(match (v::rest).findIdx? p with|some j=>Int.ofNat (i+j)|none=>-1)=cond (p v) (Int.ofNat i) (match rest.findIdx? p with|some j=>Int.ofNat (i+1+j)|none=>-1):=by
 rw[je3];cases p v with
 | true=>rfl
 | false =>
  simp only[jae];cases List.findIdx? p rest with
  | none=>rfl
  | some j=>exact jcd Int.ofNat (show i+(j+1)=i+1+j by omega)
theorem qvf{α:Type}(p:α->Bool)(l:List α):(match l.findIdx? p with|some j=>Int.ofNat (0+j)|none=>-1)=S.idx p l:=by
 unfold S.idx;cases l.findIdx? p<;>simp
theorem zpm(l:List ByteArray)(s:ByteArray)(hl:l.length<LF):Fz7 LF l s=some (S.has l s,()):=by
 refine qbm (R:=Rtz7) l (fun rest _=>some (S.has rest s,())) hl (fun K=>?_) (fun K i v rest r h=>?_)
 ·simp only[qod,qaw,jae];rfl
 ·simp only[qod,r.ilt,r.get,r.next,h,jab];unfold S.has;rw[jeu];cases keqS v s<;>rfl
theorem qx5:Con Tryz.prog idz7 spz7:=mkz7 trivial fun x y hx h=>⟨LF,(zpm _ _ (qbf hx.1)).trans h⟩
theorem zlx(l:List qab)(n:ByteArray)(hl:l.length<LF):Fz9 LF l n=some (S.form l n,()):=by
 refine(qbm (R:=Rtz9) l (fun rest i=>some ((match rest.findIdx? (fun f:qab=>keqS f.1 n) with|some j=>Int.ofNat (i+j)|none=>-1),())) hl (fun K=>?_) (fun K i v rest r h=>?_)).trans ?_
 ·simp only[qph,qaw,jae];rfl
 ·rw[quq];simp only[qph,r.ilt,r.get,r.next,h,jab];cases keqS v.1 n<;>rfl
 ·rw[qvf];rfl
theorem qfi:Con Tryz.prog idz9 spz9:=mkz9 trivial fun x y hx h=>⟨LF,(zlx _ _ (qbf hx.1)).trans h⟩
theorem zma(l:List qaa)(n:ByteArray)(hl:l.length<LF):Fz12 LF l n=some (S.idx (fun r:qaa=>keqS r.1 n) l,()):=by
 refine(qbm (R:=qce) l (fun rest i=>some ((match rest.findIdx? (fun f:qaa=>keqS f.1 n) with|some j=>Int.ofNat (i+j)|none=>-1),())) hl (fun K=>?_) (fun K i v rest r h=>?_)).trans ?_
 ·simp only[qob,qaw,jae];rfl
 ·rw[quq];simp only[qob,r.ilt,r.get,r.next,h,jab];cases keqS v.1 n<;>rfl
 ·rw[qvf]
theorem q67:Con Tryz.prog zmi qu3:=zn9 trivial fun x y hx h=>⟨LF,(zma _ _ (qbf hx.1)).trans h⟩
theorem zap(lf:Nat)(l:List qaa)(n:ByteArray):qqm lf l n=some ((S.ruleOf l n).1.2.1,()):=by
 simp only[qqm,qxl];by_cases h:S.idx (fun r:qaa=>keqS r.1 n) l<0
 ·have hn:=S.idx_neg h;simp only[S.ruleOf,hn,qan,oL];rw[jaj h];rfl
 ·obtain⟨x,h1,h2,h3,h4,h5,h6⟩:=S.idx_get (p:=fun r:qaa=>keqS r.1 n) (l:=l) (by omega);simp only[S.ruleOf,h6,h1,qan,oL];rw[jai h];rfl
theorem zdb:Con Tryz.prog zbr q7v:=zbc ⟨q67,trivial⟩ fun x y hx h=>⟨LF,(zap _ _ _).trans h⟩
theorem q9w(f:qab)(n:ByteArray)(hl:f.2.length<LF):Fz10 LF f n=some (S.col f.2 n,()):=by
 refine(qbm (R:=qcn) f.2 (fun rest i=>some ((match rest.findIdx? (fun f:DCol=>keqS f.1 n) with|some j=>Int.ofNat (i+j)|none=>-1),())) hl (fun K=>?_) (fun K i v rest r h=>?_)).trans ?_
 ·simp only[qov,qaw,jae];rfl
 ·rw[quq];simp only[qov,r.ilt,r.get,r.next,h,jab];cases keqS v.1 n<;>rfl
 ·rw[qvf];rfl
theorem qq0:Con Tryz.prog zic qih:=zm8 trivial fun x y hx h=>⟨LF,(q9w _ _ (qbf hx.1.2)).trans h⟩
theorem zot(n lo hi:Int):(cond (Bool.not (iltI n lo)) (some ((Bool.not (iltI hi n)),())) (some (false,())):Option (Bool × Unit))=some (S.within n lo hi,()):=q7u 0 n lo hi
theorem qrb{α:Type}{p:α->Bool}{l:List α}{i:Nat}{v:α}(hv:l[i]?=some v)(hp:p v=true):S.idx p l<Int.ofNat i↔¬S.idx p (l.take i)<0:=by
 have hi:i<l.length:=(jal.1 hv).1;have h1:=S.idx_nonneg p (l.take i);constructor
 ·intro h;have h0:0<=S.idx p l:=(S.idx_nonneg p l).2 (jcf.2 ⟨v,jbr hv,hp⟩);obtain⟨x,g1,g2,g3,g4,g5,g6⟩:=S.idx_get h0;have:0<=S.idx p (l.take i):=h1.2 (jcf.2 ⟨x,jbr (i:=(S.idx p l).toNat) (by rw[jas,jam (by have:Int.ofNat i=(i:Int):=rfl;omega)];exact g2),g3⟩);omega
 ·intro h;have h0:0<=S.idx p (l.take i):=by omega
  obtain⟨x,hx,hpx⟩:=jcf.1 (h1.1 h0);obtain⟨j,hj⟩:=jen.1 hx;have hji:j<i:=by
   have:=(jal.1 hj).1;rw[jbx] at this;omega
  rw[jas,jam hji] at hj;unfold S.idx;cases hf:l.findIdx? p with
  | none =>
   rw[List.findIdx?_eq_none_iff] at hf;have:=hf x (jbr hj);rw[hpx] at this;cases this
  | some k =>
   simp only;obtain⟨k1,k2,k3⟩:=jcs.1 hf;have:k<=j:=by
    rcases jbm j k with h|h
    ·have h4:=k3 j h;have h5:l[j]'(by omega)=x:=by have:=(jal.1 hj).2;exact this
     rw[h5,hpx] at h4;simp at h4
    ·exact h
   have:Int.ofNat k=(k:Int):=rfl;have:Int.ofNat i=(i:Int):=rfl;omega
theorem zch(s:ByteArray)(hl:s.size<LF):qim LF s LF (Int.ofNat 0)=some (((qad s).all (fun b=>!S.badR b 97 122)&&!decide (S.smallWords.any (fun w=>keqS s w)=true)),()):=by
 have hbl:(qad s).length<LF:=by rw[qbx];exact hl
 refine qbm (R:=Rtz8) (qad s) (fun rest _=>some ((rest.all (fun b=>!S.badR b 97 122)&&!decide (S.smallWords.any (fun w=>keqS s w)=true)),())) hbl (fun K=>?_) (fun K i b rest r h=>?_)
 ·rw[qbx];simp only[qna,qaw,jae,je6,jb3,S.smallWords,jeu,jfm,Bool.or_false];cases keqS s (S.lit [116,114,117,101])<;>cases keqS s (S.lit [102,97,108,115,101])<;>cases keqS s (S.lit [118,111,105,100])<;>cases keqS s (S.lit [99,117,114,114,101,110,116])<;>cases keqS s (S.lit [114,101,115,117,108,116])<;>rfl
 ·have hlt:iltI (Int.ofNat i) (Int.ofNat s.size)=true:=by have:=r.ilt;rwa [qbx] at this
  rw[jcp,Bool.and_assoc];generalize (rest.all (fun b=>!S.badR b 97 122)&&!decide (S.smallWords.any (fun w=>keqS s w)=true))=z at h ⊢;simp only[qna,hlt,r.get,r.next,h,jab,qan,qa0];simp only[oL,S.badR];by_cases h1:b<97<;>by_cases h2:122<b<;>by_cases h3:b<48<;>by_cases h4:57<b<;>by_cases h5:b=95<;>simp [h1,h2,h3,h4,h5]<;>omega
theorem zco(s:ByteArray):Fz8 LF s=some (S.small s,()):=by
 have key:∀z:Bool,(z=true↔S.small s=true)->z=S.small s:=fun z h=>by rw[jbs];exact h
 simp only[Fz8,qu7,qc0];by_cases h1:s.size<1
 ·rw[jaj h1,jab];refine jcd some (Prod.ext (key _ ⟨fun h=>(by cases h),fun h=>?_⟩) rfl);obtain⟨_,⟨b,hb,_⟩,_⟩:=(qj2 s).1 h;have:=(jal.1 hb).1;rw[qbx] at this;omega
 rw[jai h1,jae];by_cases h2:20<s.size
 ·rw[jaj h2,jab];refine jcd some (Prod.ext (key _ ⟨fun h=>(by cases h),fun h=>?_⟩) rfl);have:=((qj2 s).1 h).1;omega
 rw[jai h2,jae];have hb:=qnm (s:=s) (i:=0) (by omega);have hj:jget (qad s) (Int.ofNat 0)=some ((s[0]'(by omega)).toNat:Int):=by rw[qbw];exact hb
 generalize ((s[0]'(by omega)).toNat:Int)=b0 at hb hj;simp only[hj,qan];simp only[oL];by_cases h3:b0<97
 ·rw[jaj h3,jab];refine jcd some (Prod.ext (key _ ⟨fun h=>(by cases h),fun h=>?_⟩) rfl);obtain⟨_,⟨b,hb2,_⟩,_⟩:=(qj2 s).1 h;rw[hb] at hb2;cases hb2;omega
 rw[jai h3,jae];by_cases h4:122<b0
 ·rw[jaj h4,jab];refine jcd some (Prod.ext (key _ ⟨fun h=>(by cases h),fun h=>?_⟩) rfl);obtain⟨_,⟨b,hb2,_⟩,_⟩:=(qj2 s).1 h;rw[hb] at hb2;cases hb2;omega
 rw[jai h4,jae];refine(zch s (by unfold LF;omega)).trans (jcd some (Prod.ext (key _ ?_) rfl));rw[qj2];simp only[jaf,ja6,jch,jci];have hm:S.smallWords.any (fun w=>keqS s w)=true↔s∈S.smallWords:=by
  rw[jcf];exact⟨fun ⟨x,hx,h⟩=>by rw[jau h];exact hx,fun h=>⟨s,h,jaj rfl⟩⟩
 rw[hm];exact⟨fun h=>⟨by omega,⟨b0,hb,by omega,by omega⟩,h.1,h.2⟩,fun h=>⟨h.2.2.1,h.2.2.2⟩⟩
theorem zjd:Con Tryz.prog idz8 spz8:=mkz8 trivial fun x y hx h=>⟨LF,(zco _).trans h⟩
theorem zo8{l:List DCol}{i:Nat}{c:DCol}(h:l[i]?=some c):S.col l c.1<Int.ofNat i↔¬S.col (l.take i) c.1<0:=qrb (p:=fun x:DCol=>keqS x.1 c.1) h (by simp[keqS])
theorem zd5{l:List qab}{i:Nat}{f:qab}(h:l[i]?=some f):S.form l f.1<Int.ofNat i↔¬S.form (l.take i) f.1<0:=qrb (p:=fun x:qab=>keqS x.1 f.1) h (by simp[keqS])
theorem zkj(l:List qab)(K4:Int->Option qaz)(i:Nat)(f:qab)(hf:jget l (Int.ofNat i)=some f)(hl:f.2.length<LF)(Z:Int->Option qaz)(hZ0:Z 0=K4 (IntKind.i64.wrap (Int.add (Int.ofNat i) (Int.ofNat 1))))(hZ:∀e,e≠0->Z e=some (e,())) :
  qln LF l K4 LF (Int.ofNat 0,Int.ofNat i)=Z (S.ccGo f.2 0 f.2):=by
 refine range0 (σ:=Unit) (R:=qaz) f.2 (fun k _=>(k,Int.ofNat i)) (fun _ _=>True) (fun rest k _=>Z (S.ccGo f.2 k rest)) hl (fun K s _=>?_) (fun K k c rest s _ r h=>?_) () trivial
 ·simp only[qnz,hf,qaw,jae,S.ccGo,hZ0]
 ·have h:=h () trivial;rw[S.ccGo];simp only[qnz,hf,r.ilt,r.get,r.next,h,jab];have ht:=zo8 r.get?;generalize S.ccGo f.2 (k+1) rest=z;have h4:=hZ 4 (by decide);have h6:=hZ 6 (by decide);have h1:=hZ 1 (by decide);cases S.small c.1 with
  | false=>rw[jam rfl,h4];rfl
  | true =>
   rw[jbh,jae,jak (show ¬true=false by decide)];by_cases hc:S.col (f.2.take k) c.1<0
   ·have hn:¬S.col f.2 c.1<Int.ofNat k:=fun h=>(ht.1 h) hc;rw[qan,jai hn,jae,jak (fun h=>h hc)];simp only[qan,qa0,keqS,oL];have hw:S.within c.2.1 1 3=(!decide (c.2.1<1)&&!decide (3<c.2.1)):=by
     unfold S.within;rw[jbs];simp only[jaf,jax,jch,jci];omega
    rw[hw];by_cases a1:c.2.1<1
    ·rw[jaj a1,jam (show (!true&&!decide (3<c.2.1))=false from rfl),h1];rfl
    rw[jai a1];by_cases a3:3<c.2.1
    ·rw[jaj a3,jam (show (!false&&!true)=false from rfl),h1];rfl
    rw[jai a3,jak (show ¬(!false&&!false)=false by decide)];by_cases b3:c.2.1=3
    ·rw[jaj b3,jak (fun h=>h.1 b3)];rfl
    rw[jai b3];by_cases b4:c.2.2=S.lit []
    ·rw[jaj b4,jak (fun h=>h.2 b4)];rfl
    ·rw[jai b4,jam ⟨b3,b4⟩,h1];rfl
   ·have hy:S.col f.2 c.1<Int.ofNat k:=ht.2 hc;rw[qan,jaj hy,jab,jam hc,h6];rfl
theorem zm6(x1:List qab)(K25:Int->Option qaz)(i:Nat)(f:qab)(hg:jget x1 (Int.ofNat i)=some f)(hf:f.2.length<LF)(Z:Bool->Option qaz)(hZ1:Z true=K25 (IntKind.i64.wrap (Int.add (Int.ofNat i) (Int.ofNat 1))))(hZ:Z false=some (5,())) :
  qkv LF x1 K25 LF (Int.ofNat 0,Int.ofNat i)=Z (S.cfIn x1 f.2):=by
 refine range0 (σ:=Unit) (R:=qaz) f.2 (fun k _=>(k,Int.ofNat i)) (fun _ _=>True) (fun rest _ _=>Z (S.cfIn x1 rest)) hf (fun K s _=>?_) (fun K k c rest s _ r h=>?_) () trivial
 ·simp only[qns,hg,qaw,jae,S.cfIn,hZ1]
 ·have h:=h () trivial;rw[S.cfIn];simp only[qns,hg,r.ilt,r.get,r.next,h,jab,qan,qa0,keqS];have ea:S.lit [65,78,89]=S.ANY:=rfl;generalize S.cfIn x1 rest=z;simp only[ea,oL];by_cases h3:c.2.1=3
  ·by_cases hn:c.2.2=S.ANY
   ·rw[jaj h3,jaj hn,jak (fun h=>h.2.1 hn)];rfl
   ·by_cases hf:S.form x1 c.2.2<0
    ·rw[jaj h3,jai hn,jaj hf,jam ⟨h3,hn,hf⟩,hZ];rfl
    ·rw[jaj h3,jai hn,jai hf,jak (fun h=>hf h.2.2)];rfl
  ·rw[jai h3,jak (fun h=>h3 h.1)];rfl
theorem zff(x1:List qab)(hl:x1.length<LF)(hw:∀f∈x1,f.2.length<LF):qlf LF x1 LF (Int.ofNat 0)=some (S.cfGo2 x1 x1,()):=by
 refine qbm (R:=qaz) x1 (fun rest i=>some (S.cfGo2 x1 rest,())) hl (fun K=>?_) (fun K i v rest r h=>?_)
 ·simp only[qq2,qaw,jae];rfl
 ·simp only[qq2,r.ilt,jab];refine(zm6 x1 K i v r.get (hw v r.mem) (fun b=>some ((if b=true then S.cfGo2 x1 rest else 5),())) ?_ rfl).trans ?_
  ·rw[r.next,h];rfl
  ·rw[S.cfGo2]
theorem zg4(l:List qab)(hl:l.length<LF)(hw:∀f∈l,f.2.length<LF):Fz11 LF l=some (S.checkForms l,()):=by
 simp only[Fz11,qq7,S.checkForms,qc0];by_cases h24:24<l.length
 ·rw[jaj h24,jab,jam h24];rfl
 rw[jai h24,jae,jak h24];refine qbm (R:=qaz) l (fun rest i=>some (S.cfGo l i rest,())) hl (fun K=>?_) (fun K i v rest r h=>?_)
 ·simp only[qo6,qaw,jae,S.cfGo];exact zff l hl hw
 ·have ht:=zd5 r.get?;rw[S.cfGo];simp only[qvq,S.unlessE];simp only[qo6,r.ilt,r.get,jab,qc0];cases hcl:S.class_ v.1 with
  | false=>rfl
  | true =>
   rw[jbh,jae,jab,jam (rfl:(0:Int)=0)];by_cases hc:S.form (l.take i) v.1<0
   ·have hn:¬S.form l v.1<Int.ofNat i:=fun h=>(ht.1 h) hc;rw[qan,jai hn,jae,jaj hc,jab,jam (rfl:(0:Int)=0)];unfold S.checkCols;by_cases h30:30<v.2.length
    ·rw[jaj h30,jab,jam h30];rfl
    ·rw[jai h30,jae,jak h30];refine(zkj l K i v r.get (hw v r.mem) (fun e=>some ((if e=0 then S.cfGo l (i+1) rest else e),())) ?_ (fun e he=>by simp only[jak he])).trans rfl;rw[r.next,h];rfl
   ·have hy:S.form l v.1<Int.ofNat i:=ht.2 hc;rw[qan,jaj hy,jab,jai hc,jae];rfl
theorem zc5(hcl:Con Tryz.prog 92 qsg):Con Tryz.prog qq5 qrm:=zha ⟨hcl,zjd,qfi,qq0,trivial⟩ fun x y hx h=>⟨LF,(zg4 _ (qbf hx.1) fun f hf=>qbf (hx.1.2 f hf).2).trans h⟩
def qj7:Nat->Option Nm:=fun k=>cond (Nat.beq k 2) (some ⟨[0,1,5],[],[],[],[],0,0,false⟩) (none)
def qks:Nat->Bool:=fun k=>cond (Nat.beq k 2) true (false)
def qww:=qks
abbrev qcd:Type:=Int × Unit
def q3q:List (Nat × Sm):=[]
def q5s:List (Nat × Hx):=[]
def qtd(R:Type)(lf:Nat):ClK R:=qa3 Tryz.prog ttT.get ftT.get (nm1 139 qj7) (smL q3q) (hxL q5s) lf 20 R
abbrev zdp:Nat:=139
def qie(x1:ByteArray)(x2:Int)(p:Int):NRes:=(NRes.mk (.node (some (IV.str x1)) (.node (some (IV.int .i64 x2)) .leaf (.node (some (IV.int .i64 p)) .leaf .leaf)) .leaf) (IS.mk .leaf 0) [] 0)
def qzx(lf:Nat)(x1:ByteArray)(x2:Int)(L2:Int->Option qcd):Option qcd:=(L2 (Int.ofNat 0))
def qqf(lf:Nat)(x1:ByteArray)(x2:Int)(L2:Int->Option qcd)(p:Int):Option qcd:=(cond (iltI (IntKind.i64.wrap (Int.add x2 p)) (Int.ofNat x1.size)) (match (jget (qad x1) (IntKind.i64.wrap (Int.add x2 p))) with|none=>none|some v0=>(cond (Bool.not (iltI v0 (Int.ofNat 97))) (cond (Bool.not (iltI (Int.ofNat 122) v0)) (L2 (IntKind.i64.wrap (Int.add p (Int.ofNat 1)))) (cond (Bool.not (iltI v0 (Int.ofNat 65))) (cond (Bool.not (iltI (Int.ofNat 90) v0)) (L2 (IntKind.i64.wrap (Int.add p (Int.ofNat 1)))) (cond (Bool.not (iltI v0 (Int.ofNat 48))) (cond (Bool.not (iltI (Int.ofNat 57) v0)) (L2 (IntKind.i64.wrap (Int.add p (Int.ofNat 1)))) (cond (ieqI v0 (Int.ofNat 95)) (L2 (IntKind.i64.wrap (Int.add p (Int.ofNat 1)))) (some (p,())))) (cond (ieqI v0 (Int.ofNat 95)) (L2 (IntKind.i64.wrap (Int.add p (Int.ofNat 1)))) (some (p,()))))) (cond (Bool.not (iltI v0 (Int.ofNat 48))) (cond (Bool.not (iltI (Int.ofNat 57) v0)) (L2 (IntKind.i64.wrap (Int.add p (Int.ofNat 1)))) (cond (ieqI v0 (Int.ofNat 95)) (L2 (IntKind.i64.wrap (Int.add p (Int.ofNat 1)))) (some (p,())))) (cond (ieqI v0 (Int.ofNat 95)) (L2 (IntKind.i64.wrap (Int.add p (Int.ofNat 1)))) (some (p,())))))) (cond (Bool.not (iltI v0 (Int.ofNat 65))) (cond (Bool.not (iltI (Int.ofNat 90) v0)) (L2 (IntKind.i64.wrap (Int.add p (Int.ofNat 1)))) (cond (Bool.not (iltI v0 (Int.ofNat 48))) (cond (Bool.not (iltI (Int.ofNat 57) v0)) (L2 (IntKind.i64.wrap (Int.add p (Int.ofNat 1)))) (cond (ieqI v0 (Int.ofNat 95)) (L2 (IntKind.i64.wrap (Int.add p (Int.ofNat 1)))) (some (p,())))) (cond (ieqI v0 (Int.ofNat 95)) (L2 (IntKind.i64.wrap (Int.add p (Int.ofNat 1)))) (some (p,()))))) (cond (Bool.not (iltI v0 (Int.ofNat 48))) (cond (Bool.not (iltI (Int.ofNat 57) v0)) (L2 (IntKind.i64.wrap (Int.add p (Int.ofNat 1)))) (cond (ieqI v0 (Int.ofNat 95)) (L2 (IntKind.i64.wrap (Int.add p (Int.ofNat 1)))) (some (p,())))) (cond (ieqI v0 (Int.ofNat 95)) (L2 (IntKind.i64.wrap (Int.add p (Int.ofNat 1)))) (some (p,()))))))) (some (p,())))
abbrev gz13:Type:=ElA [.str,(.int .i64)]->Option qcd
abbrev sz13(g:gz13):Sm:=⟨[.str,(.int .i64)],[(false,(.int .i64))],g⟩
abbrev Ez13(g:gz13)(J:JT qcd)(lf:Nat)(x1:ByteArray)(x2:Int):=qbc Tryz.prog ttT.get qj7 qdb.nt (qtd _ lf) lf qks J qdb.body [] (qay (argV [.str,(.int .i64)] (x1,x2,())) 0 .leaf) S0 [] (qao ttT.get qdb (sz13 g))
abbrev Bz13(g:gz13)(J:JT qcd)(lf k:Nat)(ms:List Nat)(q:NRes):=qbj Tryz.prog ttT.get qj7 qdb.nt (qtd _ lf) lf qks J k qdb.body [] ms q (qao ttT.get qdb (sz13 g))
theorem zj5(g:gz13)(J:JT qcd)(lf:Nat)(x1:ByteArray)(x2:Int):Ez13 g J lf x1 x2=qzx lf x1 x2 (fun q=>J 2 [lf] (qie x1 x2 q)):=by kernel_rfl
theorem zi3(g:gz13)(J:JT qcd)(lf:Nat)(x1:ByteArray)(x2:Int)(m1:Nat)(p:Int):Bz13 g J lf 2 [m1] (qie x1 x2 p)=qqf lf x1 x2 (fun q=>J 2 [m1] (qie x1 x2 q)) p:=by kernel_rfl
theorem qw2:(regs qdb.body).Nodup:=by decide +kernel
theorem q31:okC qj7 qks qww qdb.body none=true:=by kernel_rfl
def Az13(g:gz13)(lf:Nat):JT qcd:=atN Tryz.prog ttT.get qj7 qdb (sz13 g) (qtd _ lf) lf qww
def qo8(lf:Nat)(x1:ByteArray)(x2:Int):Nat->(Int)->Option qcd:=qas fun K p=>qqf lf x1 x2 K p
theorem q7d(g:gz13)(lf:Nat)(x1:ByteArray)(x2:Int):∀(n:Nat) (p:Int),Az13 g lf 2 [n] (qie x1 x2 p)=qo8 lf x1 x2 n p
 | 0,p=>qax 2 [0] rfl _
 | n+1,p=>by
  have ih:=q7d g lf x1 x2 n;refine(qau (qaq 20 _) qw2 q31 2 [n+1] [n] rfl _).trans ((zi3 g (Az13 g lf) lf x1 x2 n p).trans ?_);rw[(show (fun q=>Az13 g lf 2 [n] (qie x1 x2 q))=(fun q=>qo8 lf x1 x2 n q) from funext ih)];rfl
def Fz13(lf:Nat)(x1:ByteArray)(x2:Int):Option qcd:=qzx lf x1 x2 (fun q=>qo8 lf x1 x2 lf q)
theorem q9n(g:gz13)(lf:Nat)(x1:ByteArray)(x2:Int):Ez13 g (Az13 g lf) lf x1 x2=Fz13 lf x1 x2:=by
  refine(zj5 g (Az13 g lf) lf x1 x2).trans ?_;rw[(show (fun q=>Az13 g lf 2 [lf] (qie x1 x2 q))=(fun q=>qo8 lf x1 x2 lf q) from funext fun q=>q7d g lf x1 x2 lf q)];rfl
theorem zo0:qbb Tryz.prog q5s:=trivial
theorem zjk{g:gz13}(hsm:SmOK Tryz.prog q3q)(hg:∀(x:ElA [.str,(.int .i64)]) (y:qcd),WfA [.str,(.int .i64)] x->g x=some y->∃lf,Fz13 lf x.1 x.2.1=some y):Con Tryz.prog 139 ⟨[.str,(.int .i64)],[(false,(.int .i64))],g⟩ :=
 conV (st:=qks) (fun lf x=>Fz13 lf x.1 x.2.1) cm3 zcr zo0 qw2 q31 (fun lf x=>q9n g lf x.1 x.2.1) hsm hg
def qk2:Nat->Option Nm:=fun k=>cond (Nat.beq k 2) (some ⟨[0,2,3],[],[],[],[],0,0,false⟩) (cond (Nat.beq k 10) (some ⟨[0,2,4,5],[],[],[],[],0,0,false⟩) (none))
def qls:Nat->Bool:=fun k=>cond (Nat.beq k 2) true (cond (Nat.beq k 10) true (false))
def q5o:=qls
abbrev qbu:Type:=zie × Unit
def qw0:List (Nat × Sm):=[]
def q7s:List (Nat × Hx):=[]
def qtn(R:Type)(lf:Nat):ClK R:=qa3 Tryz.prog ttT.get ftT.get (nm1 141 qk2) (smL qw0) (hxL q7s) lf 20 R
abbrev zf4:Nat:=141
def qhz(x1:ByteArray)(p:Int):NRes:=(NRes.mk (.node (some (IV.str x1)) (.node none (.node (some (IV.int .i64 p)) .leaf .leaf) .leaf) (.node (some (IV.ptr 0 0)) .leaf .leaf)) (IS.mk (.node (some (IObj.row (List.cons (IV.int .i64 (Int.ofNat 0)) [(IV.int .i64 (Int.ofNat 0))]))) .leaf .leaf) 1) [] 0)
def qhd(x1:ByteArray)(p:Int × Int):NRes:=(NRes.mk (.node (some (IV.str x1)) (.node none .leaf (.node (some (IV.int .i64 p.1)) .leaf .leaf)) (.node (some (IV.ptr 0 0)) (.node (some (IV.int .i64 p.2)) .leaf .leaf) .leaf)) (IS.mk (.node (some (IObj.row (List.cons (IV.int .i64 (Int.ofNat 0)) [(IV.int .i64 (Int.ofNat 0))]))) .leaf .leaf) 1) [] 0)
def q22(lf:Nat)(x1:ByteArray)(L2:Int->Option qbu):Option qbu:=(L2 (Int.ofNat 0))
def qqw(lf:Nat)(x1:ByteArray)(L2:Int->Option qbu)(L10:(Int × Int)->Option qbu)(p:Int):Option qbu:=(cond (iltI p (Int.ofNat x1.size)) (match (jget (qad x1) p) with|none=>none|some v0=>(cond (Bool.not (iltI v0 (Int.ofNat 48))) (cond (Bool.not (Bool.not (iltI (Int.ofNat 57) v0))) (some (((Int.ofNat 0),(Int.ofNat 2)),())) (L2 (IntKind.i64.wrap (Int.add p (Int.ofNat 1))))) (some (((Int.ofNat 0),(Int.ofNat 2)),())))) (match (jget (qad x1) (Int.ofNat 0)) with|none=>none|some v24=>(cond (ieqI v24 (Int.ofNat 48)) (cond (iltI (Int.ofNat 1) (Int.ofNat x1.size)) (some (((Int.ofNat 0),(Int.ofNat 2)),())) (L10 ((Int.ofNat 0),(Int.ofNat 0)))) (L10 ((Int.ofNat 0),(Int.ofNat 0))))))
def qmp(lf:Nat)(x1:ByteArray)(L10:(Int × Int)->Option qbu)(p:Int × Int):Option qbu:=(cond (iltI p.1 (Int.ofNat x1.size)) (match (jget (qad x1) p.1) with|none=>none|some v0=>(cond (iltI (Int.ofNat 1099511627776) (IntKind.i64.wrap (Int.sub (IntKind.i64.wrap (Int.add (IntKind.i64.wrap (Int.mul (Int.ofNat 10) p.2)) (IntKind.i64.wrap v0))) (Int.ofNat 48)))) (some (((Int.ofNat 0),(Int.ofNat 3)),())) (L10 ((IntKind.i64.wrap (Int.add p.1 (Int.ofNat 1))),(IntKind.i64.wrap (Int.sub (IntKind.i64.wrap (Int.add (IntKind.i64.wrap (Int.mul (Int.ofNat 10) p.2)) (IntKind.i64.wrap v0))) (Int.ofNat 48))))))) (some ((p.2,(Int.ofNat 0)),())))
abbrev gz14:Type:=ElA [.str]->Option qbu
abbrev sz14(g:gz14):Sm:=⟨[.str],[(false,qtz)],g⟩
abbrev Ez14(g:gz14)(J:JT qbu)(lf:Nat)(x1:ByteArray):=qbc Tryz.prog ttT.get qk2 qdd.nt (qtn _ lf) lf qls J qdd.body [] (qay (argV [.str] (x1,())) 0 .leaf) S0 [] (qao ttT.get qdd (sz14 g))
abbrev Bz14(g:gz14)(J:JT qbu)(lf k:Nat)(ms:List Nat)(q:NRes):=qbj Tryz.prog ttT.get qk2 qdd.nt (qtn _ lf) lf qls J k qdd.body [] ms q (qao ttT.get qdd (sz14 g))
theorem zbu(g:gz14)(J:JT qbu)(lf:Nat)(x1:ByteArray):Ez14 g J lf x1=q22 lf x1 (fun q=>J 2 [lf] (qhz x1 q)):=by kernel_rfl
theorem zp3(g:gz14)(J:JT qbu)(lf:Nat)(x1:ByteArray)(m1:Nat)(p:Int):Bz14 g J lf 2 [m1] (qhz x1 p)=qqw lf x1 (fun q=>J 2 [m1] (qhz x1 q)) (fun q=>J 10 [lf] (qhd x1 q)) p:=by kernel_rfl
theorem zf8(g:gz14)(J:JT qbu)(lf:Nat)(x1:ByteArray)(m1:Nat)(p:Int × Int):Bz14 g J lf 10 [m1] (qhd x1 p)=qmp lf x1 (fun q=>J 10 [m1] (qhd x1 q)) p:=by kernel_rfl
theorem qtl:(regs qdd.body).Nodup:=by decide +kernel
theorem qts:okC qk2 qls q5o qdd.body none=true:=by kernel_rfl
def Az14(g:gz14)(lf:Nat):JT qbu:=atN Tryz.prog ttT.get qk2 qdd (sz14 g) (qtn _ lf) lf q5o
def qjq(lf:Nat)(x1:ByteArray):Nat->(Int × Int)->Option qbu:=qas fun K p=>qmp lf x1 K p
theorem q1l(g:gz14)(lf:Nat)(x1:ByteArray):∀(n:Nat) (p:Int × Int),Az14 g lf 10 [n] (qhd x1 p)=qjq lf x1 n p
 | 0,p=>qax 10 [0] rfl _
 | n+1,p=>by
  have ih:=q1l g lf x1 n;refine(qau (qaq 20 _) qtl qts 10 [n+1] [n] rfl _).trans ((zf8 g (Az14 g lf) lf x1 n p).trans ?_);rw[(show (fun q=>Az14 g lf 10 [n] (qhd x1 q))=(fun q=>qjq lf x1 n q) from funext ih)];rfl
def qip(lf:Nat)(x1:ByteArray):Nat->(Int)->Option qbu:=qas fun K p=>qqw lf x1 K (fun q=>qjq lf x1 lf q) p
theorem q6c(g:gz14)(lf:Nat)(x1:ByteArray):∀(n:Nat) (p:Int),Az14 g lf 2 [n] (qhz x1 p)=qip lf x1 n p
 | 0,p=>qax 2 [0] rfl _
 | n+1,p=>by
  have ih:=q6c g lf x1 n;refine(qau (qaq 20 _) qtl qts 2 [n+1] [n] rfl _).trans ((zp3 g (Az14 g lf) lf x1 n p).trans ?_);rw[(show (fun q=>Az14 g lf 10 [lf] (qhd x1 q))=(fun q=>qjq lf x1 lf q) from funext fun q=>q1l g lf x1 lf q),(show (fun q=>Az14 g lf 2 [n] (qhz x1 q))=(fun q=>qip lf x1 n q) from funext ih)];rfl
def Fz14(lf:Nat)(x1:ByteArray):Option qbu:=q22 lf x1 (fun q=>qip lf x1 lf q)
theorem znc(g:gz14)(lf:Nat)(x1:ByteArray):Ez14 g (Az14 g lf) lf x1=Fz14 lf x1:=by
  refine(zbu g (Az14 g lf) lf x1).trans ?_;rw[(show (fun q=>Az14 g lf 2 [lf] (qhz x1 q))=(fun q=>qip lf x1 lf q) from funext fun q=>q6c g lf x1 lf q)];rfl
theorem zl2:qbb Tryz.prog q7s:=trivial
theorem zm0{g:gz14}(hsm:SmOK Tryz.prog qw0)(hg:∀(x:ElA [.str]) (y:qbu),WfA [.str] x->g x=some y->∃lf,Fz14 lf x.1=some y):Con Tryz.prog 141 ⟨[.str],[(false,qtz)],g⟩ :=
 conV (st:=qls) (fun lf x=>Fz14 lf x.1) cm3 zh5 zl2 qtl qts (fun lf x=>znc g lf x.1) hsm hg
def qju:Nat->Option Nm:=fun k=>cond (Nat.beq k 8) (some ⟨[0,2,3,4,5],[],[],[],[],0,0,false⟩) (none)
def qky:Nat->Bool:=fun k=>cond (Nat.beq k 8) true (false)
def q1y:=qky
abbrev qcm:Type:=qzk × Unit
def q1o:List (Nat × Sm):=[(137,spz7)]
def qy3:List (Nat × Hx):=[]
def qvm(R:Type)(lf:Nat):ClK R:=qa3 Tryz.prog ttT.get ftT.get (nm1 142 qju) (smL q1o) (hxL qy3) lf 20 R
abbrev zos:Nat:=142
def qhr(x1:ByteArray)(p:Int × Bool × Bool):NRes:=(NRes.mk (.node (some (IV.str x1)) (.node none (.node (some (IV.bool p.2.2)) .leaf .leaf) (.node (some (IV.int .i64 p.1)) .leaf .leaf)) (.node (some (IV.ptr 0 0)) (.node (some (IV.bool p.2.1)) .leaf .leaf) .leaf)) (IS.mk (.node (some (IObj.row (List.cons (IV.int .i64 (Int.ofNat 0)) [(IV.int .i64 (Int.ofNat 0))]))) .leaf .leaf) 1) [] 0)
def qt2(lf:Nat)(x1:ByteArray)(L8:(Int × Bool × Bool)->Option qcm):Option qcm:=(cond (S.has (List.cons (S.lit [97,110,100]) (List.cons (S.lit [97,115]) (List.cons (S.lit [97,116,116,97,99,104,101,100]) (List.cons (S.lit [99,104,101,99,107]) (List.cons (S.lit [99,108,97,115,115]) (List.cons (S.lit [99,114,101,97,116,101]) (List.cons (S.lit [100,101,102,101,114,114,101,100]) (List.cons (S.lit [100,101,116,97,99,104,97,98,108,101]) (List.cons (S.lit [100,111]) (List.cons (S.lit [101,108,115,101]) (List.cons (S.lit [101,110,100]) (List.cons (S.lit [101,110,115,117,114,101]) (List.cons (S.lit [102,101,97,116,117,114,101]) (List.cons (S.lit [102,114,111,109]) (List.cons (S.lit [105,102]) (List.cons (S.lit [105,109,112,108,105,101,115]) (List.cons (S.lit [105,110,104,101,114,105,116]) (List.cons (S.lit [105,110,118,97,114,105,97,110,116]) (List.cons (S.lit [108,111,99,97,108]) (List.cons (S.lit [108,111,111,112]) (List.cons (S.lit [110,111,116]) (List.cons (S.lit [111,108,100]) (List.cons (S.lit [111,114]) (List.cons (S.lit [112,117,116]) (List.cons (S.lit [114,97,105,115,101]) (List.cons (S.lit [114,101,100,101,102,105,110,101]) (List.cons (S.lit [114,101,110,97,109,101]) (List.cons (S.lit [114,101,113,117,105,114,101]) (List.cons (S.lit [114,101,115,99,117,101]) (List.cons (S.lit [114,101,116,114,121]) (List.cons (S.lit [115,101,108,101,99,116]) (List.cons (S.lit [115,101,112,97,114,97,116,101]) (List.cons (S.lit [116,104,101,110]) (List.cons (S.lit [117,110,100,101,102,105,110,101]) (List.cons (S.lit [117,110,116,105,108]) (List.cons (S.lit [118,97,114,105,97,110,116]) [(S.lit [119,104,101,110])])))))))))))))))))))))))))))))))))))) x1) (some (((Int.ofNat 3),(Int.ofNat 0)),())) (cond (S.has (List.cons (S.lit [84,114,117,101]) (List.cons (S.lit [70,97,108,115,101]) (List.cons (S.lit [86,111,105,100]) (List.cons (S.lit [67,117,114,114,101,110,116]) [(S.lit [82,101,115,117,108,116])])))) x1) (some (((Int.ofNat 3),(Int.ofNat 0)),())) (cond (S.has (List.cons (S.lit [116,114,117,101]) (List.cons (S.lit [102,97,108,115,101]) (List.cons (S.lit [118,111,105,100]) (List.cons (S.lit [99,117,114,114,101,110,116]) [(S.lit [114,101,115,117,108,116])])))) x1) (some (((Int.ofNat 0),(Int.ofNat 4)),())) (L8 ((Int.ofNat 0),false,false)))))
def qmt(lf:Nat)(x1:ByteArray)(L8:(Int × Bool × Bool)->Option qcm)(p:Int × Bool × Bool):Option qcm:=(cond (iltI p.1 (Int.ofNat x1.size)) (cond p.2.2 (cond p.2.1 (L8 ((IntKind.i64.wrap (Int.add p.1 (Int.ofNat 1))),true,true)) (match (jget (qad x1) p.1) with|none=>none|some v23=>(cond (Bool.not (iltI v23 (Int.ofNat 65))) (L8 ((IntKind.i64.wrap (Int.add p.1 (Int.ofNat 1))),(Bool.not (iltI (Int.ofNat 90) v23)),true)) (L8 ((IntKind.i64.wrap (Int.add p.1 (Int.ofNat 1))),false,true))))) (match (jget (qad x1) p.1) with|none=>none|some v27=>(cond (Bool.not (iltI v27 (Int.ofNat 97))) (cond p.2.1 (L8 ((IntKind.i64.wrap (Int.add p.1 (Int.ofNat 1))),true,(Bool.not (iltI (Int.ofNat 122) v27)))) (match (jget (qad x1) p.1) with|none=>none|some v31=>(cond (Bool.not (iltI v31 (Int.ofNat 65))) (L8 ((IntKind.i64.wrap (Int.add p.1 (Int.ofNat 1))),(Bool.not (iltI (Int.ofNat 90) v31)),(Bool.not (iltI (Int.ofNat 122) v27)))) (L8 ((IntKind.i64.wrap (Int.add p.1 (Int.ofNat 1))),false,(Bool.not (iltI (Int.ofNat 122) v27))))))) (cond p.2.1 (L8 ((IntKind.i64.wrap (Int.add p.1 (Int.ofNat 1))),true,false)) (match (jget (qad x1) p.1) with|none=>none|some v35=>(cond (Bool.not (iltI v35 (Int.ofNat 65))) (L8 ((IntKind.i64.wrap (Int.add p.1 (Int.ofNat 1))),(Bool.not (iltI (Int.ofNat 90) v35)),false)) (L8 ((IntKind.i64.wrap (Int.add p.1 (Int.ofNat 1))),false,false)))))))) (cond p.2.2 (cond p.2.1 (some (((Int.ofNat 0),(Int.ofNat 2)),())) (cond (iltI (Int.ofNat 20) (Int.ofNat x1.size)) (some (((Int.ofNat 0),(Int.ofNat 3)),())) (cond p.2.2 (some (((Int.ofNat 1),(Int.ofNat 0)),())) (some (((Int.ofNat 2),(Int.ofNat 0)),()))))) (cond (iltI (Int.ofNat 20) (Int.ofNat x1.size)) (some (((Int.ofNat 0),(Int.ofNat 3)),())) (cond p.2.2 (some (((Int.ofNat 1),(Int.ofNat 0)),())) (some (((Int.ofNat 2),(Int.ofNat 0)),()))))))
abbrev gz15:Type:=ElA [.str]->Option qcm
abbrev sz15(g:gz15):Sm:=⟨[.str],[(false,qi3)],g⟩
abbrev Ez15(g:gz15)(J:JT qcm)(lf:Nat)(x1:ByteArray):=qbc Tryz.prog ttT.get qju qdi.nt (qvm _ lf) lf qky J qdi.body [] (qay (argV [.str] (x1,())) 0 .leaf) S0 [] (qao ttT.get qdi (sz15 g))
abbrev Bz15(g:gz15)(J:JT qcm)(lf k:Nat)(ms:List Nat)(q:NRes):=qbj Tryz.prog ttT.get qju qdi.nt (qvm _ lf) lf qky J k qdi.body [] ms q (qao ttT.get qdi (sz15 g))
theorem zkm(g:gz15)(J:JT qcm)(lf:Nat)(x1:ByteArray):Ez15 g J lf x1=qt2 lf x1 (fun q=>J 8 [lf] (qhr x1 q)):=by kernel_rfl
theorem zex(g:gz15)(J:JT qcm)(lf:Nat)(x1:ByteArray)(m1:Nat)(p:Int × Bool × Bool):Bz15 g J lf 8 [m1] (qhr x1 p)=qmt lf x1 (fun q=>J 8 [m1] (qhr x1 q)) p:=by kernel_rfl
theorem q0y:(regs qdi.body).Nodup:=by decide +kernel
theorem q3u:okC qju qky q1y qdi.body none=true:=by kernel_rfl
def Az15(g:gz15)(lf:Nat):JT qcm:=atN Tryz.prog ttT.get qju qdi (sz15 g) (qvm _ lf) lf q1y
def qgv(lf:Nat)(x1:ByteArray):Nat->(Int × Bool × Bool)->Option qcm:=qas fun K p=>qmt lf x1 K p
theorem q3b(g:gz15)(lf:Nat)(x1:ByteArray):∀(n:Nat) (p:Int × Bool × Bool),Az15 g lf 8 [n] (qhr x1 p)=qgv lf x1 n p
 | 0,p=>qax 8 [0] rfl _
 | n+1,p=>by
  have ih:=q3b g lf x1 n;refine(qau (qaq 20 _) q0y q3u 8 [n+1] [n] rfl _).trans ((zex g (Az15 g lf) lf x1 n p).trans ?_);rw[(show (fun q=>Az15 g lf 8 [n] (qhr x1 q))=(fun q=>qgv lf x1 n q) from funext ih)];rfl
def Fz15(lf:Nat)(x1:ByteArray):Option qcm:=qt2 lf x1 (fun q=>qgv lf x1 lf q)
theorem zl6(g:gz15)(lf:Nat)(x1:ByteArray):Ez15 g (Az15 g lf) lf x1=Fz15 lf x1:=by
  refine(zkm g (Az15 g lf) lf x1).trans ?_;rw[(show (fun q=>Az15 g lf 8 [lf] (qhr x1 q))=(fun q=>qgv lf x1 lf q) from funext fun q=>q3b g lf x1 lf q)];rfl
theorem zqr:qbb Tryz.prog qy3:=trivial
theorem zl7{g:gz15}(hsm:SmOK Tryz.prog q1o)(hg:∀(x:ElA [.str]) (y:qcm),WfA [.str] x->g x=some y->∃lf,Fz15 lf x.1=some y):Con Tryz.prog 142 ⟨[.str],[(false,qi3)],g⟩ :=
 conV (st:=qky) (fun lf x=>Fz15 lf x.1) cm3 zd1 zqr q0y q3u (fun lf x=>zl6 g lf x.1) hsm hg
abbrev qp1:Type:=qzk × Unit
abbrev zn1:Nat:=124
def q0h(lf:Nat)(x1:ByteArray):Option qp1:=(cond (S.has (List.cons (S.lit [58,61]) (List.cons (S.lit [47,61]) (List.cons (S.lit [60,61]) (List.cons (S.lit [62,61]) (List.cons (S.lit [47,47]) (List.cons (S.lit [61]) (List.cons (S.lit [60]) (List.cons (S.lit [62]) (List.cons (S.lit [43]) (List.cons (S.lit [45]) (List.cons (S.lit [42]) (List.cons (S.lit [37]) (List.cons (S.lit [40]) (List.cons (S.lit [41]) (List.cons (S.lit [91]) (List.cons (S.lit [93]) (List.cons (S.lit [123]) (List.cons (S.lit [125]) (List.cons (S.lit [44]) (List.cons (S.lit [59]) (List.cons (S.lit [58]) [(S.lit [46])]))))))))))))))))))))) x1) (some (((Int.ofNat 5),(Int.ofNat 0)),())) (cond (ieqI (Int.ofNat x1.size) (Int.ofNat 0)) (some (((Int.ofNat 0),(Int.ofNat 2)),())) (cond (iltI (S.run0 x1) (Int.ofNat x1.size)) (some (((Int.ofNat 0),(Int.ofNat 2)),())) (match (jget (qad x1) (Int.ofNat 0)) with|none=>none|some v0=>(cond (ieqI v0 (Int.ofNat 95)) (some (((Int.ofNat 0),(Int.ofNat 2)),())) (match (jget (qad x1) (Int.ofNat 0)) with|none=>none|some v1=>(cond (Bool.not (iltI v1 (Int.ofNat 48))) (cond (Bool.not (iltI (Int.ofNat 57) v1)) (match (cond (Nat.ble 1 x1.size) (some ((S.number x1),())) none) with|none=>none|some v2=>(cond (Bool.not (ieqI v2.1.2 (Int.ofNat 0))) (some (((Int.ofNat 0),v2.1.2),())) (some (((Int.ofNat 4),(Int.ofNat 0)),())))) (some (((S.word x1).1,(S.word x1).2),()))) (some (((S.word x1).1,(S.word x1).2),())))))))))
def qo3(lf:Nat)(x1:ByteArray):Option qp1:=q0h lf x1
theorem zom{g:ElA [.str]->Option qp1}(hsm:SmOK Tryz.prog [(137,spz7),(139,qy4),(141,q03),(142,q4w)])(hg:∀(x:ElA [.str]) (y:qp1),WfA [.str] x->g x=some y->∃lf,qo3 lf x.1=some y):Con Tryz.prog 124 ⟨[.str],[(false,qi3)],g⟩ :=
 conU (fi:=qsx) (hxl:=[]) (fun lf x=>qo3 lf x.1) cm3 zbx trivial hsm hg
abbrev qjs:Type:=Bool × Unit
abbrev ze0:Nat:=92
def qyg(lf:Nat)(x1:ByteArray):Option qjs:=(cond (ieqI (S.shape x1).2 (Int.ofNat 0)) (cond (ieqI (S.shape x1).1 (Int.ofNat 2)) (cond (Bool.not (keqS x1 (S.lit [73,78,84,69,71,69,82]))) (cond (Bool.not (keqS x1 (S.lit [66,79,79,76,69,65,78]))) (cond (Bool.not (keqS x1 (S.lit [65,78,89]))) (some ((Bool.not (keqS x1 (S.lit [78,79,78,69]))),())) (some (false,()))) (some (false,()))) (some (false,()))) (some (false,()))) (some (false,())))
def qoa(lf:Nat)(x1:ByteArray):Option qjs:=qyg lf x1
theorem zbe{g:ElA [.str]->Option qjs}(hsm:SmOK Tryz.prog [(124,qw6)])(hg:∀(x:ElA [.str]) (y:qjs),WfA [.str] x->g x=some y->∃lf,qoa lf x.1=some y):Con Tryz.prog 92 ⟨[.str],[(false,.bool)],g⟩ :=
 conU (fi:=fi92) (hxl:=[]) (fun lf x=>qoa lf x.1) cm3 zgr trivial hsm hg
theorem zqc{α:Type}(v:Int)(X Y:α):(cond (Bool.not (iltI v (Int.ofNat 97))) (cond (Bool.not (iltI (Int.ofNat 122) v)) X (cond (Bool.not (iltI v (Int.ofNat 65))) (cond (Bool.not (iltI (Int.ofNat 90) v)) X (cond (Bool.not (iltI v (Int.ofNat 48))) (cond (Bool.not (iltI (Int.ofNat 57) v)) X (cond (ieqI v (Int.ofNat 95)) X Y)) (cond (ieqI v (Int.ofNat 95)) X Y))) (cond (Bool.not (iltI v (Int.ofNat 48))) (cond (Bool.not (iltI (Int.ofNat 57) v)) X (cond (ieqI v (Int.ofNat 95)) X Y)) (cond (ieqI v (Int.ofNat 95)) X Y)))) (cond (Bool.not (iltI v (Int.ofNat 65))) (cond (Bool.not (iltI (Int.ofNat 90) v)) X (cond (Bool.not (iltI v (Int.ofNat 48))) (cond (Bool.not (iltI (Int.ofNat 57) v)) X (cond (ieqI v (Int.ofNat 95)) X Y)) (cond (ieqI v (Int.ofNat 95)) X Y))) (cond (Bool.not (iltI v (Int.ofNat 48))) (cond (Bool.not (iltI (Int.ofNat 57) v)) X (cond (ieqI v (Int.ofNat 95)) X Y)) (cond (ieqI v (Int.ofNat 95)) X Y))))=cond (S.isPart v) X Y:=by
 simp only[qan,qa0,oL];have hp:S.isPart v=(((!decide (v<97)&&!decide (122<v))||(!decide (v<65)&&!decide (90<v)))||(!decide (v<48)&&!decide (57<v))||decide (v=95)):=by
  have e:∀a b:Int,decide (a<=b)=!decide (b<a):=fun a b=>by
   by_cases h:b<a
   ·rw[jaj h,jai (by omega)];rfl
   ·rw[jai h,jaj (by omega)];rfl
  simp only[S.isPart,S.isSmall,S.isCap,S.isDig,e]
 rw[hp];cases decide (v<97)<;>cases decide (122<v)<;>cases decide (v<65)<;>cases decide (90<v)<;>cases decide (v<48)<;>cases decide (57<v)<;>cases decide (v=95)<;>rfl
theorem zow(s:ByteArray)(hl:s.size<LF):Fz13 LF s (Int.ofNat 0)=some (S.run0 s,()):=by
 have hbl:(qad s).length<LF:=by rw[qbx];exact hl
 have h0:∀i:Nat,i<LF->IntKind.i64.wrap (Int.add (Int.ofNat 0) (Int.ofNat i))=Int.ofNat i:=fun i hi=>by
  rw[show Int.add (Int.ofNat 0) (Int.ofNat i)=Int.ofNat i from Int.zero_add _];exact qia (by unfold LF at hi;show _<=(i:Int)/\(i:Int)<_;omega)
 refine(qbm (R:=qcd) (qad s) (fun rest i=>some (Int.ofNat (i+(rest.takeWhile S.isPart).length),())) hbl (fun K=>?_) (fun K i v rest r h=>?_)).trans ?_
 ·simp only[qqf,h0 _ hbl];rw[qbx,qaw];rfl
 ·have hlt:iltI (Int.ofNat i) (Int.ofNat s.size)=true:=by have:=r.ilt;rwa [qbx] at this
  simp only[qqf,h0 i (by have:=r.lt;omega),hlt,r.get,r.next,h,jab,zqc,List.takeWhile_cons];cases S.isPart v with
  | true=>simp only[jab,jb4,jbk];exact jcd (fun n=>some (Int.ofNat n,())) (by omega)
  | false=>rfl
 ·unfold S.run0;rw[ja9]
theorem zjm{a b:Int}(h:ieqI a b=true):a=b:=by rw[qa0] at h;exact jau h
theorem zfd:Con Tryz.prog zdp qy4:=zjk trivial fun x y hx h=>⟨LF,by
 have h:cond (ieqI x.2.1 (Int.ofNat 0)) (some (S.run0 x.1,())) none=some y:=h;cases hr:ieqI x.2.1 (Int.ofNat 0) with
 | false=>rw[hr] at h;cases h
 | true =>
  rw[hr] at h;have e:x.2.1=Int.ofNat 0:=zjm hr;have e2:Fz13 LF x.1 x.2.1=Fz13 LF x.1 (Int.ofNat 0):=jcd (Fz13 LF x.1) e;exact e2.trans ((zow x.1 hx.1).trans h)⟩
theorem zls{s:ByteArray}{b:Int}(h:b∈qad s):IntKind.i64.wrap b=b:=by
 have:=zk4 h;exact qia (by omega)
theorem zdc(s:ByteArray)(hl:s.size<LF)(hp:0<s.size):Fz14 LF s=some (S.number s,()):=by
 have hbl:(qad s).length<LF:=by rw[qbx];exact hl
 have h10:∀n:Int,qjq LF s LF (Int.ofNat 0,n)=some (S.numGo (qad s) n,()):=fun n=>by
  refine range0 (σ:=Int) (R:=qbu) (qad s) (fun i n=>(i,n)) (fun _ _=>True) (fun rest _ n=>some (S.numGo rest n,())) hbl (fun K n _=>?_) (fun K i v rest n _ r h=>?_) n trivial
  ·simp only[qmp];rw[qbx,qaw];rfl
  ·have hlt:iltI (Int.ofNat i) (Int.ofNat s.size)=true:=by have:=r.ilt;rwa [qbx] at this
   simp only[qmp,hlt,r.get,r.next,jab,zls r.mem,h _ trivial,S.numGo];generalize IntKind.i64.wrap (Int.sub (IntKind.i64.wrap (Int.add (IntKind.i64.wrap (Int.mul (Int.ofNat 10) n)) v)) (Int.ofNat 48))=m;rw[qan];simp only[oL];by_cases hm:1099511627776<m
   ·rw[jaj hm,jab,jam hm]
   ·rw[jai hm,jae,jak hm]
 obtain⟨b0,hb0⟩:∃b,(qad s)[0]?=some b:=⟨_,qnm hp⟩;have hj:jget (qad s) (Int.ofNat 0)=some b0:=by rw[qbw];exact hb0
 show qip LF s LF (Int.ofNat 0)=_;refine(qbm (R:=qbu) (qad s) (fun rest i=>some ((if rest.all S.isDig=false then ((0:Int),(2:Int)) else if (qad s)[0]?=some 48/\1<s.size then (0,2) else S.numGo (qad s) 0),())) hbl (fun K=>?_) (fun K i v rest r h=>?_)).trans ?_
 ·simp only[qqw,h10];rw[qbx,qaw,jae,je6,jak (by simp),hj,hb0];simp only[qc0,qa0];simp only[oL];by_cases h48:b0=48
  ·by_cases h1:1<s.size
   ·rw[jaj h48,jaj h1,jam ⟨by rw[h48],h1⟩];rfl
   ·rw[jaj h48,jai h1,jak (fun h=>h1 h.2)];rfl
  ·rw[jai h48,jak (fun h=>h48 (jbg h.1))];rfl
 ·have hlt:iltI (Int.ofNat i) (Int.ofNat s.size)=true:=by have:=r.ilt;rwa [qbx] at this
  rw[jcp];simp only[qqw,hlt,r.get,r.next,h,jab,qan];simp only[oL];unfold S.isDig;by_cases a:v<48
  ·rw[jaj a,jai (show ¬48<=v by omega)];rfl
  by_cases b:57<v
  ·rw[jai a,jaj b,jaj (show 48<=v by omega),jai (show ¬v<=57 by omega)];rfl
  ·rw[jai a,jai b,jaj (show 48<=v by omega),jaj (show v<=57 by omega)];rfl
 ·rfl
theorem zh2:Con Tryz.prog zf4 q03:=zm0 trivial fun x y hx h=>⟨LF,by
 have h:cond (Nat.blt 0 x.1.size) (some (S.number x.1,())) none=some y:=h;cases hr:Nat.blt 0 x.1.size with
 | false=>rw[hr] at h;cases h
 | true=>rw[hr] at h;exact(zdc x.1 hx.1 (by simpa using hr)).trans h⟩

theorem znd(s:ByteArray)(hl:s.size<LF):Fz15 LF s=some (S.word s,()):=by
 have hbl:(qad s).length<LF:=by rw[qbx];exact hl
 obtain⟨W,hW⟩:∃W:Bool->Bool->Int × Int,∀lo hi,W lo hi=if (lo&&hi)=true then (0,2) else if 20<s.size then (0,3) else if lo=true then (1,0) else (2,0):=⟨_,fun _ _=>rfl⟩
 have h8:qgv LF s LF (Int.ofNat 0,false,false)=some (W ((qad s).any S.isSmall) ((qad s).any S.isCap),()):=by
  refine(range0 (σ:=Bool × Bool) (R:=qcm) (qad s) (fun i q=>(i,q)) (fun _ _=>True) (fun rest _ q=>some (W (q.2||rest.any S.isSmall) (q.1||rest.any S.isCap),())) hbl (fun K q _=>?_) (fun K i v rest q _ r h=>?_) (false,false) trivial).trans ?_
  ·simp only[qmt];rw[qbx,qaw,jae];simp only[jfm,Bool.or_false,qc0,hW];simp only[oL];obtain⟨hi,lo⟩:=q;by_cases h20:20<s.size
   ·simp only[jaj h20,jam h20];cases hi<;>cases lo<;>rfl
   ·simp only[jai h20,jak h20];cases hi<;>cases lo<;>rfl
  ·have hlt:iltI (Int.ofNat i) (Int.ofNat s.size)=true:=by have:=r.ilt;rwa [qbx] at this
   have hh:=fun hi lo=>h (hi,lo) trivial;simp only[qmt,hlt,r.get,r.next,jab,hh,qan];simp only[oL,jeu];have e:∀a b:Int,decide (a<=b)=!decide (b<a):=fun a b=>by
    by_cases h:b<a
    ·rw[jaj h,jai (by omega)];rfl
    ·rw[jai h,jaj (by omega)];rfl
   have e1:S.isSmall v=(!decide (v<97)&&!decide (122<v)):=by simp only[S.isSmall,e]
   have e2:S.isCap v=(!decide (v<65)&&!decide (90<v)):=by simp only[S.isCap,e]
   rw[e1,e2];generalize List.any rest S.isSmall=zs;generalize List.any rest S.isCap=zc;obtain⟨hi,lo⟩:=q;cases decide (v<97)<;>cases decide (122<v)<;>cases decide (v<65)<;>cases decide (90<v)<;>cases hi<;>cases lo<;>rfl
  ·simp only[jdr]
 rw[hW] at h8;simp only[Fz15,qt2,S.word];show cond (S.has S.keywords s) _ (cond (S.has S.wordsT s) _ (cond (S.has S.smallWords s) _ (qgv LF s LF (Int.ofNat 0,false,false))))=_;rw[h8];cases S.has S.keywords s with
 | true=>rfl
 | false =>
  cases S.has S.wordsT s with
  | true=>rfl
  | false =>
   cases S.has S.smallWords s with
   | true=>rfl
   | false=>rfl
theorem zl5:Con Tryz.prog zos q4w:=zl7 ⟨qx5,trivial⟩ fun x y hx h=>⟨LF,(znd x.1 hx.1).trans h⟩
theorem zno(lf:Nat)(s:ByteArray):qo3 lf s=some (S.shape s,()):=by
 simp only[qo3,q0h,S.shape];show cond (S.has S.signs s) _ _=_;cases S.has S.signs s with
 | true=>rfl
 | false =>
  rw[jae,jak (by simp),qee];by_cases h0:s.size=0
  ·rw[jaj h0,jab];have:(qad s)[0]?=none:=by rw[List.getElem?_eq_none_iff,qbx,h0];exact jap _
   rw[this];rfl
  rw[jai h0,jae];have hb:=qnm (s:=s) (i:=0) (by omega);have hj:jget (qad s) (Int.ofNat 0)=some ((s[0]'(by omega)).toNat:Int):=by rw[qbw];exact hb
  generalize ((s[0]'(by omega)).toNat:Int)=b0 at hb hj;rw[hj,hb];simp only[qan,qa0];simp only[oL];by_cases h1:S.run0 s<Int.ofNat s.size
  ·rw[jaj h1,jam h1];rfl
  rw[jai h1,jak h1,jae];by_cases h2:b0=95
  ·rw[jaj h2,jam h2];rfl
  rw[jai h2,jak h2,jae];have hn:Nat.ble 1 s.size=true:=jc0 (by omega);rw[hn];simp only[jab];have hd:S.isDig b0=(!decide (b0<48)&&!decide (57<b0)):=by
   unfold S.isDig;rw[jbs];simp only[jaf,jax,jch,jci];omega
  rw[hd];cases decide (b0<48) with
  | true=>rfl
  | false =>
   cases decide (57<b0) with
   | true=>rfl
   | false =>
    by_cases h5:(S.number s).2=0
    ·rw[jaj h5,jam (show (!false&&!false)=true from rfl),jam h5];rfl
    ·rw[jai h5,jam (show (!false&&!false)=true from rfl),jak h5];rfl
theorem q9p:Con Tryz.prog zn1 qw6:=zom ⟨qx5,zfd,zh2,zl5,trivial⟩ fun x y hx h=>⟨LF,(zno _ _).trans h⟩
theorem qv9(l:List ByteArray)(s:ByteArray):S.has l s=true↔s∈l:=by
 unfold S.has;rw[jcf];exact⟨fun ⟨x,hx,h⟩=>by rw[<- jau h];exact hx,fun h=>⟨s,h,jaj rfl⟩⟩
theorem qwd{α:Type}(p:α->Bool):∀l:List α,(l.takeWhile p).length<l.length↔¬∀x∈l,p x=true
 | []=>by simp
 | x::l=>by
  have ih:=qwd p l;rw[List.takeWhile_cons];cases hx:p x with
  | true =>
   rw[jam rfl];simp only[jbk,Nat.add_lt_add_iff_right,ih,ja1,forall_eq_or_imp,hx,true_and]
  | false =>
   rw[jak (by simp)];simp only[jce,jbk,ja1,forall_eq_or_imp,hx];constructor
   ·intro _ h;exact absurd h.1 (by simp)
   ·intro _;omega
theorem q0d(s:ByteArray):S.run0 s<Int.ofNat s.size↔¬∀b∈qad s,S.isPart b=true:=by
 rw[<- qwd,qbx];unfold S.run0;exact jea
theorem zbo:∀w∈S.signs,∀b,(qad w)[0]?=some b->S.isCap b=false:=by decide +kernel
theorem zbw:∀w∈S.keywords,(qad w).any S.isSmall=true:=by decide +kernel
theorem zqk:∀w∈S.wordsT,(qad w).any S.isSmall=true:=by decide +kernel
theorem zay:∀w∈S.smallWords,(qad w).any S.isSmall=true:=by decide +kernel
theorem zhu(s:ByteArray):((S.shape s).2=0/\(S.shape s).1=2)↔s.size<=20/\(∃b,(qad s)[0]?=some b/\65<=b/\b<=90)/\(∀b∈qad s,S.isPart b=true/\S.isSmall b=false):=by
 constructor
 ·intro h;unfold S.shape at h;split at h
  ·exact absurd h.2 (by simp)
  split at h
  ·exact absurd h.1 (by simp)
  rename_i b hb;split at h
  ·exact absurd h.1 (by simp)
  rename_i hrun;have hpart:=jcw.1 (fun hn=>hrun ((q0d s).2 hn));split at h
  ·exact absurd h.1 (by simp)
  rename_i h95;split at h
  ·split at h
   ·exact absurd h.2 (by simp)
   ·rename_i hn;exact absurd h.1 hn
  rename_i hdig;unfold S.word at h;split at h
  ·exact absurd h.2 (by simp)
  split at h
  ·exact absurd h.1 (by simp)
  split at h
  ·exact absurd h.1 (by simp)
  split at h
  ·exact absurd h.1 (by simp)
  rename_i h20;split at h
  ·exact absurd h.2 (by simp)
  rename_i hlow;have hlow':∀c∈qad s,S.isSmall c=false:=fun c hc=>by
   cases hs:S.isSmall c with
   | false=>rfl
   | true=>exact absurd (jcf.2 ⟨c,hc,hs⟩) hlow
  have hm:=jbr hb;have hcap:S.isCap b=true:=by
   have:=hpart b hm;unfold S.isPart at this;rw[hlow' b hm,jdr] at this;simp only[jdf,jax] at this;rcases this with (h|h)|h
   ·exact h
   ·exact absurd h hdig
   ·exact absurd h h95
  unfold S.isCap at hcap;simp only[jaf,jax] at hcap;exact⟨by omega,⟨b,hb,hcap.1,hcap.2⟩,fun c hc=>⟨hpart c hc,hlow' c hc⟩⟩
 ·rintro⟨h20,⟨b,hb,c1,c2⟩,hall⟩;have hcap:S.isCap b=true:=by unfold S.isCap;simp;omega
  have hs1:¬S.has S.signs s=true:=fun h=>by
   have:=zbo s ((qv9 _ _).1 h) b hb;rw[hcap] at this;cases this
  have hlow:(qad s).any S.isSmall=false:=by
   rw[jei];exact fun c hc=>by rw[(hall c hc).2];simp
  have hno:∀l:List ByteArray,(∀w∈l,(qad w).any S.isSmall=true)->S.has l s=false:=fun l hl=>by
   cases hh:S.has l s with
   | false=>rfl
   | true=>have:=hl s ((qv9 _ _).1 hh);rw[hlow] at this;cases this
  have hrun:¬S.run0 s<Int.ofNat s.size:=fun h=>(q0d s).1 h fun c hc=>(hall c hc).1;have hdig:¬S.isDig b=true:=by unfold S.isDig;simp;omega
  unfold S.shape S.word;rw[jak hs1,hb];simp only;rw[jak hrun,jak (by omega),jak hdig,hno _ zbw,hno _ zqk,hno _ zay,hlow];rw[jak (by simp),jak (by simp),jak (by simp),jak (by omega),jak (by simp)];exact⟨rfl,rfl⟩
theorem zp8(lf:Nat)(s:ByteArray):qoa lf s=some (S.class_ s,()):=by
 have key:∀z:Bool,(z=true↔S.class_ s=true)->(some (z,()):Option qjs)=some (S.class_ s,()):=fun z h=>by rw[jbs.2 h]
 have hw:s∈S.classWords↔(s=S.lit [73,78,84,69,71,69,82]\/s=S.lit [66,79,79,76,69,65,78]\/s=S.lit [65,78,89]\/s=S.lit [78,79,78,69]):=by
  simp only[S.classWords,ja1,jdk,or_false];exact Iff.rfl
 have hs:=zhu s;have hc:=zes s;simp only[qoa,qyg,qa0,keqS];simp only[oL];by_cases e:¬(S.shape s).2=0
 ·rw[jai e];exact key _ ⟨fun h=>(by cases h),fun h=>absurd (hs.2 ⟨(hc.1 h).1,(hc.1 h).2.1,(hc.1 h).2.2.1⟩).1 e⟩
 have e:=jcw.1 e;rw[jaj e,jab];by_cases k:¬(S.shape s).1=2
 ·rw[jai k];exact key _ ⟨fun h=>(by cases h),fun h=>absurd (hs.2 ⟨(hc.1 h).1,(hc.1 h).2.1,(hc.1 h).2.2.1⟩).2 k⟩
 have k:=jcw.1 k;rw[jaj k,jab];have hh:=hs.1 ⟨e,k⟩;have hcl:S.class_ s=true↔¬s∈S.classWords:=⟨fun h=>(hc.1 h).2.2.2,fun h=>hc.2 ⟨hh.1,hh.2.1,hh.2.2,h⟩⟩;by_cases w1:s=S.lit [73,78,84,69,71,69,82]
 ·rw[jaj w1];exact key _ ⟨fun h=>(by cases h),fun h=>absurd (hw.2 (.inl w1)) (hcl.1 h)⟩
 rw[jai w1];by_cases w2:s=S.lit [66,79,79,76,69,65,78]
 ·rw[jaj w2];exact key _ ⟨fun h=>(by cases h),fun h=>absurd (hw.2 (.inr (.inl w2))) (hcl.1 h)⟩
 rw[jai w2];by_cases w3:s=S.lit [65,78,89]
 ·rw[jaj w3];exact key _ ⟨fun h=>(by cases h),fun h=>absurd (hw.2 (.inr (.inr (.inl w3)))) (hcl.1 h)⟩
 rw[jai w3];by_cases w4:s=S.lit [78,79,78,69]
 ·rw[jaj w4];exact key _ ⟨fun h=>(by cases h),fun h=>absurd (hw.2 (.inr (.inr (.inr w4)))) (hcl.1 h)⟩
 rw[jai w4];refine key _ ⟨fun _=>hcl.2 fun h=>?_,fun _=>rfl⟩;rcases hw.1 h with h|h|h|h
 ·exact w1 h
 ·exact w2 h
 ·exact w3 h
 ·exact w4 h
theorem zc6:Con Tryz.prog ze0 qsg:=zbe ⟨q9p,trivial⟩ fun x y hx h=>⟨LF,(zp8 _ _).trans h⟩
theorem qmq:Con Tryz.prog qq5 qrm:=zc5 zc6
namespace S
def rfits(l:List qaa)(g:qac)(a b:DCol):Bool :=
 if g.2.1=1 then decide (a.2.1=b.2.1)&&(decide (¬b.2.1=3)||rleads l a b)
 else if g.2.1=2 then decide (a.2.1=2)&&decide (b.2.1=1)
 else if g.2.1=3 then decide (a.2.1=1)&&decide (b.2.1=2)
 else if g.2.1=4 then decide (a.2.1=1)&&decide (b.2.1=1)
 else if g.2.1=5 then decide (a.2.1=3)&&(decide (b.2.1=3)&&rleads l a b)
 else if g.2.1=6 then decide (¬b.2.1=3)
 else decide (b.2.1=3)
def fromOf(g:qac)(cols:List DCol):DCol:=if sourced g=true then at_ zCol cols (col cols g.1) else zCol
def srcOK(g:qac)(cols:List DCol):Bool:=!sourced g||decide (0<=col cols g.1)
def rgive(l:List qaa)(g:qac)(cols:List DCol)(b:DCol):Int :=
 if sourced g=true/\col cols g.1<0 then 4
 else if within g.2.1 1 7=false\/numbered g b=false then 1
 else unlessE (rfits l g (fromOf g cols) b) 8
end S
def q21:Sm:=⟨[.list cRule,cForm,qar,cCol],[(false,.bool)],fun x=>cond (S.srcOK x.2.2.1 x.2.1.2) (some (S.rfits x.1 x.2.2.1 (S.fromOf x.2.2.1 x.2.1.2) x.2.2.2.1,())) none⟩
def q5w:Sm:=⟨[.list cRule,cForm,qar,cCol],[(false,.int .i64)],fun x=>some (S.rgive x.1 x.2.2.1 x.2.1.2 x.2.2.2.1,())⟩
abbrev qnp:Type:=Bool × Unit
abbrev znz:Nat:=126
def q30(lf:Nat)(x1:(List qaa))(x2:DCol)(x3:DCol):Option qnp:=(cond (keqS x3.2.2 (S.lit [65,78,89])) (some (true,())) (cond (Bool.not (keqS x2.2.2 (S.lit [65,78,89]))) (some ((keqS (S.ruleOf x1 x2.2.2).1.2.1 x3.2.2),())) (some (false,()))))
def qpw(lf:Nat)(x1:(List qaa))(x2:DCol)(x3:DCol):Option qnp:=q30 lf x1 x2 x3
theorem zb0{g:ElA [(.list cRule),cCol,cCol]->Option qnp}(hsm:SmOK Tryz.prog [(143,q7v)])(hg:∀(x:ElA [(.list cRule),cCol,cCol]) (y:qnp),WfA [(.list cRule),cCol,cCol] x->g x=some y->∃lf,qpw lf x.1 x.2.1 x.2.2.1=some y):Con Tryz.prog 126 ⟨[(.list cRule),cCol,cCol],[(false,.bool)],g⟩ :=
 conU (fi:=qva) (hxl:=[]) (fun lf x=>qpw lf x.1 x.2.1 x.2.2.1) cm3 q99 trivial hsm hg
abbrev qmz:Type:=Bool × Unit
abbrev ze2:Nat:=95
def q5v(lf:Nat)(x1:qac)(x2:DCol):Option qmz:=(cond (ieqI x1.2.1 (Int.ofNat 4)) (cond (Bool.not (iltI x1.2.2 (Int.negSucc 1099511627775))) (some ((Bool.not (iltI (Int.ofNat 1099511627776) x1.2.2)),())) (some (false,()))) (cond (ieqI x1.2.1 (Int.ofNat 6)) (cond (ieqI x2.2.1 (Int.ofNat 2)) (cond (keqS x1.1 (S.lit [])) (cond (Bool.not (iltI x1.2.2 (Int.ofNat 0))) (some ((Bool.not (iltI (Int.ofNat 1) x1.2.2)),())) (some (false,()))) (some (false,()))) (cond (keqS x1.1 (S.lit [])) (cond (Bool.not (iltI x1.2.2 (Int.negSucc 1099511627775))) (some ((Bool.not (iltI (Int.ofNat 1099511627776) x1.2.2)),())) (some (false,()))) (some (false,())))) (cond (ieqI x1.2.1 (Int.ofNat 7)) (cond (keqS x1.1 (S.lit [])) (some ((ieqI x1.2.2 (Int.ofNat 0)),())) (some (false,()))) (some ((ieqI x1.2.2 (Int.ofNat 0)),())))))
def qo7(lf:Nat)(x1:qac)(x2:DCol):Option qmz:=q5v lf x1 x2
theorem zct{g:ElA [qar,cCol]->Option qmz}(hsm:SmOK Tryz.prog [])(hg:∀(x:ElA [qar,cCol]) (y:qmz),WfA [qar,cCol] x->g x=some y->∃lf,qo7 lf x.1 x.2.1=some y):Con Tryz.prog 95 ⟨[qar,cCol],[(false,.bool)],g⟩ :=
 conU (fi:=fi95) (hxl:=[]) (fun lf x=>qo7 lf x.1 x.2.1) cm3 zej trivial hsm hg
abbrev qqg:Type:=Bool × Unit
abbrev zn8:Nat:=96
def q6n(lf:Nat)(x1:(List qaa))(x2:qab)(x3:qac)(x4:DCol):Option qqg:=(cond (Bool.not (iltI x3.2.1 (Int.ofNat 1))) (cond (Bool.not (iltI (Int.ofNat 5) x3.2.1)) (match (jget x2.2 (S.col x2.2 x3.1)) with|none=>none|some v0=>(cond (ieqI x3.2.1 (Int.ofNat 1)) (cond (ieqI v0.2.1 x4.2.1) (cond (Bool.not (ieqI x4.2.1 (Int.ofNat 3))) (some (true,())) (some ((S.rleads x1 (v0.1,(v0.2.1,v0.2.2)) (x4.1,(x4.2.1,x4.2.2))),()))) (some (false,()))) (cond (ieqI x3.2.1 (Int.ofNat 2)) (cond (ieqI v0.2.1 (Int.ofNat 2)) (some ((ieqI x4.2.1 (Int.ofNat 1)),())) (some (false,()))) (cond (ieqI x3.2.1 (Int.ofNat 3)) (cond (ieqI v0.2.1 (Int.ofNat 1)) (some ((ieqI x4.2.1 (Int.ofNat 2)),())) (some (false,()))) (cond (ieqI x3.2.1 (Int.ofNat 4)) (cond (ieqI v0.2.1 (Int.ofNat 1)) (some ((ieqI x4.2.1 (Int.ofNat 1)),())) (some (false,()))) (cond (ieqI x3.2.1 (Int.ofNat 5)) (cond (ieqI v0.2.1 (Int.ofNat 3)) (cond (ieqI x4.2.1 (Int.ofNat 3)) (some ((S.rleads x1 (v0.1,(v0.2.1,v0.2.2)) (x4.1,(x4.2.1,x4.2.2))),())) (some (false,()))) (some (false,()))) (cond (ieqI x3.2.1 (Int.ofNat 6)) (some ((Bool.not (ieqI x4.2.1 (Int.ofNat 3))),())) (some ((ieqI x4.2.1 (Int.ofNat 3)),()))))))))) (cond (ieqI x3.2.1 (Int.ofNat 1)) (cond (ieqI (Int.ofNat 0) x4.2.1) (cond (Bool.not (ieqI x4.2.1 (Int.ofNat 3))) (some (true,())) (some ((S.rleads x1 ((S.lit []),((Int.ofNat 0),(S.lit []))) (x4.1,(x4.2.1,x4.2.2))),()))) (some (false,()))) (cond (ieqI x3.2.1 (Int.ofNat 2)) (some (false,())) (cond (ieqI x3.2.1 (Int.ofNat 3)) (some (false,())) (cond (ieqI x3.2.1 (Int.ofNat 4)) (some (false,())) (cond (ieqI x3.2.1 (Int.ofNat 5)) (some (false,())) (cond (ieqI x3.2.1 (Int.ofNat 6)) (some ((Bool.not (ieqI x4.2.1 (Int.ofNat 3))),())) (some ((ieqI x4.2.1 (Int.ofNat 3)),()))))))))) (cond (ieqI x3.2.1 (Int.ofNat 1)) (cond (ieqI (Int.ofNat 0) x4.2.1) (cond (Bool.not (ieqI x4.2.1 (Int.ofNat 3))) (some (true,())) (some ((S.rleads x1 ((S.lit []),((Int.ofNat 0),(S.lit []))) (x4.1,(x4.2.1,x4.2.2))),()))) (some (false,()))) (cond (ieqI x3.2.1 (Int.ofNat 2)) (some (false,())) (cond (ieqI x3.2.1 (Int.ofNat 3)) (some (false,())) (cond (ieqI x3.2.1 (Int.ofNat 4)) (some (false,())) (cond (ieqI x3.2.1 (Int.ofNat 5)) (some (false,())) (cond (ieqI x3.2.1 (Int.ofNat 6)) (some ((Bool.not (ieqI x4.2.1 (Int.ofNat 3))),())) (some ((ieqI x4.2.1 (Int.ofNat 3)),())))))))))
def qnw(lf:Nat)(x1:(List qaa))(x2:qab)(x3:qac)(x4:DCol):Option qqg:=q6n lf x1 x2 x3 x4
theorem zdq{g:ElA [(.list cRule),cForm,qar,cCol]->Option qqg}(hsm:SmOK Tryz.prog [(53,qih),(126,q3s)])(hg:∀(x:ElA [(.list cRule),cForm,qar,cCol]) (y:qqg),WfA [(.list cRule),cForm,qar,cCol] x->g x=some y->∃lf,qnw lf x.1 x.2.1 x.2.2.1 x.2.2.2.1=some y):Con Tryz.prog 96 ⟨[(.list cRule),cForm,qar,cCol],[(false,.bool)],g⟩ :=
 conU (fi:=fi96) (hxl:=[]) (fun lf x=>qnw lf x.1 x.2.1 x.2.2.1 x.2.2.2.1) cm3 zem trivial hsm hg
abbrev qki:Type:=Int × Unit
abbrev q1g:Nat:=55
def q7q(lf:Nat)(x1:(List qaa))(x2:qab)(x3:qac)(x4:DCol):Option qki:=(cond (Bool.not (iltI x3.2.1 (Int.ofNat 1))) (cond (Bool.not (iltI (Int.ofNat 5) x3.2.1)) (cond (iltI (S.col x2.2 x3.1) (Int.ofNat 0)) (some ((Int.ofNat 4),())) (cond (Bool.not (iltI x3.2.1 (Int.ofNat 1))) (cond (Bool.not (Bool.not (iltI (Int.ofNat 7) x3.2.1))) (some ((Int.ofNat 1),())) (cond (Bool.not (S.numbered (x3.1,(x3.2.1,x3.2.2)) (x4.1,(x4.2.1,x4.2.2)))) (some ((Int.ofNat 1),())) (match (cond (S.srcOK (x3.1,(x3.2.1,x3.2.2)) x2.2) (some ((S.rfits x1 (x3.1,(x3.2.1,x3.2.2)) (S.fromOf (x3.1,(x3.2.1,x3.2.2)) x2.2) (x4.1,(x4.2.1,x4.2.2))),())) none) with|none=>none|some v0=>(cond (Bool.not v0.1) (some ((Int.ofNat 8),())) (some ((Int.ofNat 0),())))))) (some ((Int.ofNat 1),())))) (cond (Bool.not (iltI x3.2.1 (Int.ofNat 1))) (cond (Bool.not (Bool.not (iltI (Int.ofNat 7) x3.2.1))) (some ((Int.ofNat 1),())) (cond (Bool.not (S.numbered (x3.1,(x3.2.1,x3.2.2)) (x4.1,(x4.2.1,x4.2.2)))) (some ((Int.ofNat 1),())) (match (cond (S.srcOK (x3.1,(x3.2.1,x3.2.2)) x2.2) (some ((S.rfits x1 (x3.1,(x3.2.1,x3.2.2)) (S.fromOf (x3.1,(x3.2.1,x3.2.2)) x2.2) (x4.1,(x4.2.1,x4.2.2))),())) none) with|none=>none|some v1=>(cond (Bool.not v1.1) (some ((Int.ofNat 8),())) (some ((Int.ofNat 0),())))))) (some ((Int.ofNat 1),())))) (cond (Bool.not (iltI x3.2.1 (Int.ofNat 1))) (cond (Bool.not (Bool.not (iltI (Int.ofNat 7) x3.2.1))) (some ((Int.ofNat 1),())) (cond (Bool.not (S.numbered (x3.1,(x3.2.1,x3.2.2)) (x4.1,(x4.2.1,x4.2.2)))) (some ((Int.ofNat 1),())) (match (cond (S.srcOK (x3.1,(x3.2.1,x3.2.2)) x2.2) (some ((S.rfits x1 (x3.1,(x3.2.1,x3.2.2)) (S.fromOf (x3.1,(x3.2.1,x3.2.2)) x2.2) (x4.1,(x4.2.1,x4.2.2))),())) none) with|none=>none|some v2=>(cond (Bool.not v2.1) (some ((Int.ofNat 8),())) (some ((Int.ofNat 0),())))))) (some ((Int.ofNat 1),()))))
def qml(lf:Nat)(x1:(List qaa))(x2:qab)(x3:qac)(x4:DCol):Option qki:=q7q lf x1 x2 x3 x4
theorem q8q{g:ElA [(.list cRule),cForm,qar,cCol]->Option qki}(hsm:SmOK Tryz.prog [(53,qih),(95,q62),(96,q21)])(hg:∀(x:ElA [(.list cRule),cForm,qar,cCol]) (y:qki),WfA [(.list cRule),cForm,qar,cCol] x->g x=some y->∃lf,qml lf x.1 x.2.1 x.2.2.1 x.2.2.2.1=some y):Con Tryz.prog 55 ⟨[(.list cRule),cForm,qar,cCol],[(false,(.int .i64))],g⟩ :=
 conU (fi:=fi55) (hxl:=[]) (fun lf x=>qml lf x.1 x.2.1 x.2.2.1 x.2.2.2.1) cm3 zdm trivial hsm hg
theorem zlj(lf:Nat)(l:List qaa)(a b:DCol):qpw lf l a b=some (S.rleads l a b,()):=by
 simp only[qpw,q30,S.rleads,keqS];have ea:S.lit [65,78,89]=S.ANY:=rfl;rw[ea];by_cases h:b.2.2=S.ANY
 ·simp[h]
 by_cases h2:a.2.2=S.ANY
 ·simp[h,h2]
 ·simp[h,h2]
theorem zbz:Con Tryz.prog znz q3s:=zb0 ⟨zdb,trivial⟩ fun x y _ h=>⟨0,(zlj _ _ _ _).trans h⟩
theorem q8j(lf:Nat)(g:qac)(b:DCol):qo7 lf g b=some (S.numbered g b,()):=by
 simp only[qo7,q5v,zot,S.numbered,qa0,keqS];simp only[oL,oLn];generalize S.within g.2.2 (-1099511627776) 1099511627776=w;generalize S.within g.2.2 0 1=w1;by_cases h4:g.2.1=4
 ·simp[h4]
 by_cases h6:g.2.1=6
 ·by_cases h2:b.2.1=2<;>by_cases hn:g.1=S.lit []<;>simp [h6,h2,hn]
 by_cases h7:g.2.1=7
 ·by_cases hn:g.1=S.lit []<;>simp [h7,hn]
 ·simp[h4,h6,h7]
theorem zka:Con Tryz.prog ze2 q62:=zct trivial fun x y _ h=>⟨0,(q8j _ _ _).trans h⟩
theorem qvr{α:Type}(v lo hi:Int)(X Y:α):cond (Bool.not (iltI v lo)) (cond (Bool.not (iltI hi v)) X Y) Y=cond (S.within v lo hi) X Y:=by
 have e:S.within v lo hi=(!iltI v lo&&!iltI hi v):=by
  rw[qan,qan,jbs];simp only[S.within,jaf,jax,jch,jci];omega
 rw[e];cases iltI v lo<;>cases iltI hi v<;>rfl
theorem zcb(lf:Nat)(l:List qaa)(f:qab)(g:qac)(b:DCol)(h:S.srcOK g f.2=true):qnw lf l f g b=some (S.rfits l g (S.fromOf g f.2) b,()):=by
 simp only[qnw,q6n,qvr];have e15:S.within g.2.1 (Int.ofNat 1) (Int.ofNat 5)=S.sourced g:=rfl;rw[e15];unfold S.srcOK at h;have gen:∀a:DCol,(cond (ieqI g.2.1 (Int.ofNat 1)) (cond (ieqI a.2.1 b.2.1) (cond (Bool.not (ieqI b.2.1 (Int.ofNat 3))) (some (true,())) (some ((S.rleads l a b),()))) (some (false,()))) (cond (ieqI g.2.1 (Int.ofNat 2)) (cond (ieqI a.2.1 (Int.ofNat 2)) (some ((ieqI b.2.1 (Int.ofNat 1)),())) (some (false,()))) (cond (ieqI g.2.1 (Int.ofNat 3)) (cond (ieqI a.2.1 (Int.ofNat 1)) (some ((ieqI b.2.1 (Int.ofNat 2)),())) (some (false,()))) (cond (ieqI g.2.1 (Int.ofNat 4)) (cond (ieqI a.2.1 (Int.ofNat 1)) (some ((ieqI b.2.1 (Int.ofNat 1)),())) (some (false,()))) (cond (ieqI g.2.1 (Int.ofNat 5)) (cond (ieqI a.2.1 (Int.ofNat 3)) (cond (ieqI b.2.1 (Int.ofNat 3)) (some ((S.rleads l a b),())) (some (false,()))) (some (false,()))) (cond (ieqI g.2.1 (Int.ofNat 6)) (some ((Bool.not (ieqI b.2.1 (Int.ofNat 3))),())) (some ((ieqI b.2.1 (Int.ofNat 3)),()))))))):Option (Bool × Unit))=some (S.rfits l g a b,()):=fun a=>by
  simp only[S.rfits,qa0];simp only[oL];generalize S.rleads l a b=z;by_cases h1:g.2.1=1
  ·by_cases ha:a.2.1=b.2.1
   ·by_cases hb:b.2.1=3<;>simp [h1,ha,hb]
   ·simp[h1,ha]
  by_cases h2:g.2.1=2
  ·by_cases ha:a.2.1=2<;>simp [h2,ha]
  by_cases h3:g.2.1=3
  ·by_cases ha:a.2.1=1<;>simp [h3,ha]
  by_cases h4:g.2.1=4
  ·by_cases ha:a.2.1=1<;>simp [h4,ha]
  by_cases h5:g.2.1=5
  ·by_cases ha:a.2.1=3<;>by_cases hb:b.2.1=3<;>simp [h5,ha,hb]
  by_cases h6:g.2.1=6
  ·simp[h6]
  ·simp[h1,h2,h3,h4,h5,h6]
 cases hs:S.sourced g with
 | true =>
  rw[hs] at h;have h0:0<=S.col f.2 g.1:=jau h;obtain⟨c,c1,c2,_⟩:=S.idx_get (p:=fun c:DCol=>keqS c.1 g.1) (l:=f.2) h0;have c1':jget f.2 (S.col f.2 g.1)=some c:=c1;have c3:S.fromOf g f.2=c:=by
   unfold S.fromOf;rw[jam hs];unfold S.at_ S.col;rw[c2];rfl
  rw[jab,c1',c3];exact gen c
 | false =>
  have c3:S.fromOf g f.2=S.zCol:=by unfold S.fromOf;rw[hs,jak (by simp)]
  rw[jae,c3];refine Eq.trans ?_ (gen S.zCol);rfl
theorem zcq:Con Tryz.prog zn8 q21:=zdq ⟨qq0,zbz,trivial⟩ fun x y _ h=>⟨0,by
 have h:cond (S.srcOK x.2.2.1 x.2.1.2) (some (S.rfits x.1 x.2.2.1 (S.fromOf x.2.2.1 x.2.1.2) x.2.2.2.1,())) none=some y:=h;cases hr:S.srcOK x.2.2.1 x.2.1.2 with
 | false=>rw[hr] at h;cases h
 | true=>rw[hr] at h;exact(zcb _ _ _ _ _ hr).trans h⟩
theorem zcv(lf:Nat)(l:List qaa)(f:qab)(g:qac)(b:DCol):qml lf l f g b=some (S.rgive l g f.2 b,()):=by
 simp only[qml,q7q,jfe];have e17:∀X Y:Option qki,cond (Bool.not (iltI g.2.1 (Int.ofNat 1))) (cond (Bool.not (Bool.not (iltI (Int.ofNat 7) g.2.1))) X Y) X=cond (S.within g.2.1 1 7) Y X:=fun X Y=>by
  rw[Bool.not_not];have:=qvr g.2.1 (Int.ofNat 1) (Int.ofNat 7) Y X;simp only[oL] at this ⊢;rw[<- this];cases iltI g.2.1 1<;>cases iltI 7 g.2.1<;>rfl
 simp only[e17,qvr];have e15:S.within g.2.1 (Int.ofNat 1) (Int.ofNat 5)=S.sourced g:=rfl;rw[e15];unfold S.rgive S.srcOK;cases hs:S.sourced g with
 | true =>
  rw[qan];simp only[oL];by_cases hc:S.col f.2 g.1<0
  ·rw[jaj hc,jam ⟨by trivial,hc⟩];rfl
  ·rw[jai hc,jak (fun h=>hc h.2),jaj (show 0<=S.col f.2 g.1 by omega)];cases S.within g.2.1 1 7<;>cases S.numbered g b<;>cases S.rfits l g (S.fromOf g f.2) b<;>rfl
 | false =>
  rw[jak (fun h=>by cases h.1)];simp only[oL];cases S.within g.2.1 1 7<;>cases S.numbered g b<;>cases S.rfits l g (S.fromOf g f.2) b<;>rfl
theorem qr3:Con Tryz.prog q1g q5w:=q8q ⟨qq0,zka,zcq,trivial⟩ fun x y _ h=>⟨0,(zcv _ _ _ _ _).trans h⟩
namespace S
def ruledPre(a b:List qab):Bool:=decide (checkForms a=0)&&decide (checkForms b=0)
end S
def qyk:Sm:=⟨[.list cForm,.list cForm,.list cRule],[(false,.int .i64)],fun x=>cond (S.ruledPre x.1 x.2.1) (some (S.checkRules0 x.1 x.2.1 x.2.2.1,())) none⟩
def qro:Sm:=⟨[.list cForm,.list cForm,.list cRule],[(false,.int .i64)],fun x=>some (S.checkRules x.1 x.2.1 x.2.2.1,())⟩
end Go.Proofs.YtcnhjofpmpipfaaGreat
end

section
noncomputable section
namespace Go.Proofs.YtcnhjofpmpipfaaGreat
open Go Go.Sx Go.RowKit Go.Jx
namespace S
open Go.Jx.S
def both(a b:qac):qac × Bool :=
 if b.2.1=1 then (a,true)
 else if a.2.1=1 then ((a.1,b.2.1,b.2.2),true)
 else if a.2.1=2/\b.2.1=3 then ((a.1,1,0),true)
 else if a.2.1=2/\b.2.1=4 then (a,decide (2<=b.2.2))
 else if a.2.1=4/\b.2.1=4 then ((a.1,a.2.1,imin a.2.2 b.2.2),true)
 else if a.2.1=5/\b.2.1=5 then (a,true)
 else if a.2.1=6/\b.2.1=2 then (a,true)
 else if a.2.1=6/\b.2.1=3 then (a,within a.2.2 0 1)
 else if a.2.1=6/\b.2.1=4 then (a,decide (a.2.2<b.2.2))
 else (zGive,false)
def zgy(l:List qac)(n:ByteArray):Bool:=l.any fun g=>keqS g.1 n
def zn5(g:qac):Bool:=decide (g.2.1=3)||(decide (g.2.1=4)||decide (g.2.1=5))
def chGo(a:qaa)(mid:List DCol):List qac->List qac->Option (List qac)
 | [],acc=>some acc
 | g::gs,acc =>
  if g.2.1=6\/g.2.1=7 then chGo a mid gs (acc++[g])
  else if (both (at_ zGive a.2.2 (col mid g.1)) g).2=true then chGo a mid gs (acc++[(both (at_ zGive a.2.2 (col mid g.1)) g).1])
  else none
def qys(l:List qac):List qac->List DCol->Bool
 | g::gs,c::cs=>cond (zn5 g&&!zgy l c.1) false (qys l gs cs)
 | _,_=>true
def zgh(a b:qaa)(mid:List DCol):qaa × Bool:=match chGo a mid b.2.2 [] with
 | none=>(zRule,false)
 | some gs=>if qys b.2.2 a.2.2 mid=true then ((a.1,b.2.1,gs),true) else (zRule,false)
def q5x(mid:List qab)(a b:List qaa):List qab->List qaa->List qaa × Int
 | [],acc=>(acc,0)
 | f::fs,acc =>
  let x:=(ruleOf a f.1).1
  let c:=zgh x (ruleOf b x.2.1).1 (colsOf mid x.2.1)
  if c.2=true then q5x mid a b fs (acc++[c.1]) else ([],5)
def qvv(l1 l2 l3:List qab)(a b:List qaa):List qaa × Int :=
 if ¬first [checkForms l1,checkForms l2,checkForms l3]=0 then ([],first [checkForms l1,checkForms l2,checkForms l3])
 else if ¬first [checkRules0 l1 l2 a,checkRules0 l2 l3 b]=0 then ([],first [checkRules0 l1 l2 a,checkRules0 l2 l3 b])
 else q5x l2 a b l1 []
end S
end Go.Proofs.YtcnhjofpmpipfaaGreat

end
end

section
noncomputable section
namespace Go.Proofs.YtcnhjofpmpipfaaGreat
open Go Go.Sx Go.RowKit Go.Jx
namespace S
open Go.Jx.S
def bkGo(l:List qaa)(was now:List DCol):List qac->Nat->List qac->Option (List qac)
 | [],_,acc=>some acc
 | g::gs,i,acc =>
  if ¬g.2.1=1 then none
  else if ¬(at_ zGive acc (col was g.1)).2.1=0 then none
  else if keeps l (at_ zCol was (col was g.1)) (at_ zCol now i)=false then none
  else bkGo l was now gs (i+1) (acc.set (col was g.1).toNat ((at_ zCol now i).1,1,0))
def back(l:List qaa)(r:qaa)(was now:List DCol):qaa × Bool :=
 if ¬was.length=now.length then (zRule,false)
 else match bkGo l was now r.2.2 0 (rep was.length zGive) with
  | none=>(zRule,false)
  | some gs=>((r.2.1,r.1,gs),true)
def backPre(r:qaa)(was now:List DCol):Bool:=decide (r.2.2.length<=now.length)&&r.2.2.all fun g=>decide (g.2.1=1->0<=col was g.1)
def bkAll(a:List qab)(l:List qaa):List qab->List qaa->Option (List qaa)
 | [],acc=>some acc
 | f::fs,acc =>
  let i:=idx (fun r:qaa=>keqS r.2.1 f.1) l
  if i<0 then none
  else
   let r:=at_ zRule l i
   let p:=back l r (colsOf a r.1) f.2
   if p.2=true then bkAll a l fs (acc++[p.1]) else none
def Back(a b:List qab)(l:List qaa):List qaa × Bool × Int :=
 if ¬checkRules a b l=0 then ([],false,checkRules a b l)
 else match bkAll a l b [] with
  | none=>([],false,0)
  | some out=>if ¬out.length=l.length then ([],false,0) else (out,true,0)
end S
def q6y:Sm:=⟨[.list cRule,cRule,.list cCol,.list cCol],[(false,cRule),(false,.bool)],fun x=>cond (S.backPre x.2.1 x.2.2.1 x.2.2.2.1) (some ((S.back x.1 x.2.1 x.2.2.1 x.2.2.2.1).1,(S.back x.1 x.2.1 x.2.2.1 x.2.2.2.1).2,())) none⟩
def qzh:Sm:=⟨[.list cForm,.list cForm,.list cRule],[(false,.list cRule),(false,.bool),(false,.int .i64)],fun x=>some ((S.Back x.1 x.2.1 x.2.2.1).1,(S.Back x.1 x.2.1 x.2.2.1).2.1,(S.Back x.1 x.2.1 x.2.2.1).2.2,())⟩
end Go.Proofs.YtcnhjofpmpipfaaGreat

end
end

section
noncomputable section
namespace Go.Proofs.YtcnhjofpmpipfaaGreat
open Go Go.Sx Go.RowKit Go.Jx
namespace S
open Go.Jx.S
def oddC(c d:DCol):Bool:=decide (c.2.1=3)&&!decide (keqS c.2.2 ANY=keqS d.2.2 ANY)
def rkGo(was now:List DCol)(gs:List qac):List qac->Nat->Bool
 | [],_=>true
 | g::rest,k=>decide (g.2.1=1)&&(!((gs.take k).any fun h=>keqS h.1 g.1)&&(!oddC (at_ zCol was (col was g.1)) (at_ zCol now k)&&rkGo was now gs rest (k+1)))
def rkeeps(was now:List DCol)(gs:List qac):Bool:=decide (was.length=now.length)&&rkGo was now gs gs 0
def sameRules(a b:List qaa):Bool:=decide (a=b)
end S
def q5k:Sm:=⟨[.list cRule,cForm,cForm,cRule],[(false,.bool)],fun x=>cond (S.backPre x.2.2.2.1 x.2.1.2 x.2.2.1.2) (some (S.rkeeps x.2.1.2 x.2.2.1.2 x.2.2.2.1.2.2,())) none⟩
def qw8:Sm:=⟨[.list cForm,.list cForm,.list cRule],[(false,qpk)],fun x=>some (((S.Back x.1 x.2.1 x.2.2.1).1,(S.Back x.1 x.2.1 x.2.2.1).2.1,(S.Back x.1 x.2.1 x.2.2.1).2.2),())⟩
def qya:Sm:=⟨[.list cRule,.list cRule],[(false,.bool)],fun x=>some (S.sameRules x.1 x.2.1,())⟩
end Go.Proofs.YtcnhjofpmpipfaaGreat

end
end

section
noncomputable section
namespace Go.Proofs.YtcnhjofpmpipfaaGreat
open Go Go.Sx Go.RowKit Go.Jx
namespace S
open Go.Jx.S
def voidG(c:DCol):qac:=if c.2.1=3 then (S.lit [],7,0) else (S.lit [],6,0)
def pickG(R:List qaa)(cols:List DCol)(c:DCol):qac:=if give R (c.1,1,0) cols c=0 then (c.1,1,0) else voidG c
def addG(r:qaa)(g:qac):qaa:=(r.1,r.2.1,r.2.2++[g])
def plCols(cols:List DCol)(i:Nat):List DCol->List qaa->List qaa
 | [],R=>R
 | c::cs,R=>plCols cols i cs (R.set i (addG (R.getD i zRule) (pickG R cols c)))
def plGo(to:List qab):List qab->Nat->List qaa->Option (List qaa)
 | [],_,R=>some R
 | f::fs,i,R=>if form to f.1<0 then none else plGo to fs (i+1) (plCols f.2 i (colsOf to f.1) R)
def bare(l:List qab):List qaa:=l.map fun f=>(f.1,f.1,[])
def plain(a b:List qab):List qaa × Int :=
 if ¬first [checkForms a,checkForms b]=0 then ([],first [checkForms a,checkForms b])
 else match plGo b a 0 (bare a) with
  | none=>([],5)
  | some R=>(R,0)
end S
def q6o:Sm:=⟨[.list cForm,.list cForm],[(false,.list cRule),(false,.int .i64)],fun x=>some ((S.plain x.1 x.2.1).1,(S.plain x.1 x.2.1).2,())⟩
def q3c:Sm:=⟨[.list cForm,.list cForm],[(false,qpk)],fun x=>some (((S.plain x.1 x.2.1).1,false,(S.plain x.1 x.2.1).2),())⟩
end Go.Proofs.YtcnhjofpmpipfaaGreat

end
end

noncomputable section
set_option maxRecDepth 100000
namespace Go.Proofs.YtcnhjofpmpipfaaGreat
open Go Go.Sx Go.RowKit Go.Jx
namespace S
end S
namespace S
def fewForms(l:List qab):Bool :=
 l.all (fun f=>decide (f.1.size<=30/\(f.2.length<=6\/30<f.2.length)/\f.2.length<=40)&&f.2.all fun c=>decide (c.1.size<=30/\c.2.2.size<=30))&&decide (l.length<=6\/24<l.length/\l.length<=30)
def fewRules(l:List qaa):Bool:=l.all (fun r=>decide (r.2.2.length<=8))&&decide (l.length<=8\/24<l.length/\l.length<=30)
end S
def qx8:Sm:=⟨[.list cForm],[(false,.bool)],fun x=>some (S.fewForms x.1,())⟩
def q7k:Sm:=⟨[.list cRule],[(false,.bool)],fun x=>some (S.fewRules x.1,())⟩
def qid:Sm:=⟨[],[(false,.bool)],fun _=>some (true,())⟩
def zgn:Sm:=⟨[.list cForm,.list cForm,.list cRule],[(false,.bool)],fun _=>some (true,())⟩
abbrev qpv:Type:=Bool × Unit
abbrev qwo:Nat:=5
def q2k(lf:Nat)(x1:(List qab))(x2:(List qab))(x3:(List qaa)):Option qpv:=(cond (Bool.not (S.fewForms x1)) (some (true,())) (cond (Bool.not (S.fewForms x2)) (some (true,())) (cond (Bool.not (S.fewRules x3)) (some (true,())) (cond (ieqI (S.checkRules x1 x2 x3) (S.checkRules x1 x2 x3)) (cond (S.sameRules (S.plain x1 x2).1 (S.plain x1 x2).1) (cond (S.sameRules (S.Back x1 x2 x3).1 (S.Back x1 x2 x3).1) (cond (ieqI (S.plain x1 x2).2 (S.plain x1 x2).2) (cond (Decidable.decide (Eq (S.Back x1 x2 x3).2.1 (S.Back x1 x2 x3).2.1)) (some ((ieqI (S.Back x1 x2 x3).2.2 (S.Back x1 x2 x3).2.2),())) (some (false,()))) (some (false,()))) (some (false,()))) (some (false,()))) (some (false,()))))))
def qm6(lf:Nat)(x1:(List qab))(x2:(List qab))(x3:(List qaa)):Option qpv:=q2k lf x1 x2 x3
theorem zaz{g:ElA [(.list cForm),(.list cForm),(.list cRule)]->Option qpv}(hsm:SmOK Tryz.prog [(7,qx8),(8,q7k),(10,qid),(17,q6o),(18,q3c),(19,qzh),(20,qw8),(16,qya),(21,qrw),(22,qro)])(hg:∀(x:ElA [(.list cForm),(.list cForm),(.list cRule)]) (y:qpv),WfA [(.list cForm),(.list cForm),(.list cRule)] x->g x=some y->∃lf,qm6 lf x.1 x.2.1 x.2.2.1=some y):Con Tryz.prog 5 ⟨[(.list cForm),(.list cForm),(.list cRule)],[(false,.bool)],g⟩ :=
 conU (fi:=fi5) (hxl:=[]) (fun lf x=>qm6 lf x.1 x.2.1 x.2.2.1) cm3 cal5 trivial hsm hg
def qje:Nat->Option Nm:=fun k=>cond (Nat.beq k 2) (some ⟨[0,3],[],[],[],[],0,0,false⟩) (cond (Nat.beq k 8) (some ⟨[0,3,4,5],[],[],[],[],0,0,false⟩) (none))
def qkn:Nat->Bool:=fun k=>cond (Nat.beq k 2) true (cond (Nat.beq k 8) true (false))
def qzq:=qkn
abbrev qbo:Type:=Bool × Unit
def q6w:List (Nat × Sm):=[]
def q1k:List (Nat × Hx):=[]
def qvx(R:Type)(lf:Nat):ClK R:=qa3 Tryz.prog ttT.get ftT.get (nm1 7 qje) (smL q6w) (hxL q1k) lf 20 R
abbrev zmf:Nat:=7
def qd9(x1:(List qab))(p:Int):NRes:=(NRes.mk (.node (some (IV.lst cForm x1)) (.node none (.node (some (IV.int .i64 p)) .leaf .leaf) .leaf) .leaf) (IS.mk .leaf 0) [] 0)
def qh3(x1:(List qab))(p:Int × Int × Int):NRes:=(NRes.mk (.node (some (IV.lst cForm x1)) (.node none (.node (some (IV.int .i64 p.2.2)) .leaf .leaf) (.node (some (IV.int .i64 p.2.1)) .leaf .leaf)) (.node none (.node (some (IV.int .i64 p.1)) .leaf .leaf) .leaf)) (IS.mk .leaf 0) [] 0)
def qvk(lf:Nat)(x1:(List qab))(L2:Int->Option qbo):Option qbo:=(L2 (Int.ofNat 0))
def qnl(lf:Nat)(x1:(List qab))(L8:(Int × Int × Int)->Option qbo)(p:Int):Option qbo:=(cond (iltI p (Int.ofNat x1.length)) (match (jget x1 p) with|none=>none|some v0=>(match (jget x1 p) with|none=>none|some v1=>(cond (iltI (Int.ofNat 30) (Int.ofNat v1.1.size)) (some (false,())) (cond (iltI (Int.ofNat 6) (Int.ofNat v0.2.length)) (cond (Bool.not (iltI (Int.ofNat 30) (Int.ofNat v0.2.length))) (some (false,())) (cond (iltI (Int.ofNat 40) (Int.ofNat v0.2.length)) (some (false,())) (L8 ((Int.ofNat v0.2.length),(Int.ofNat 0),p)))) (cond (iltI (Int.ofNat 40) (Int.ofNat v0.2.length)) (some (false,())) (L8 ((Int.ofNat v0.2.length),(Int.ofNat 0),p))))))) (cond (Bool.not (iltI (Int.ofNat 6) (Int.ofNat x1.length))) (some (true,())) (cond (iltI (Int.ofNat 24) (Int.ofNat x1.length)) (some ((Bool.not (iltI (Int.ofNat 30) (Int.ofNat x1.length))),())) (some (false,())))))
def qqh(lf:Nat)(x1:(List qab))(L8:(Int × Int × Int)->Option qbo)(L2:Int->Option qbo)(p:Int × Int × Int):Option qbo:=(cond (iltI p.2.1 p.1) (match (jget x1 p.2.2) with|none=>none|some v0=>(match (jget v0.2 p.2.1) with|none=>none|some v1=>(cond (iltI (Int.ofNat 30) (Int.ofNat v1.1.size)) (some (false,())) (match (jget x1 p.2.2) with|none=>none|some v2=>(match (jget v2.2 p.2.1) with|none=>none|some v3=>(cond (iltI (Int.ofNat 30) (Int.ofNat v3.2.2.size)) (some (false,())) (L8 (p.1,(IntKind.i64.wrap (Int.add p.2.1 (Int.ofNat 1))),p.2.2)))))))) (L2 (IntKind.i64.wrap (Int.add p.2.2 (Int.ofNat 1)))))
abbrev gz16:Type:=ElA [(.list cForm)]->Option qbo
abbrev sz16(g:gz16):Sm:=⟨[(.list cForm)],[(false,.bool)],g⟩
abbrev Ez16(g:gz16)(J:JT qbo)(lf:Nat)(x1:(List qab)):=qbc Tryz.prog ttT.get qje fi7.nt (qvx _ lf) lf qkn J fi7.body [] (qay (argV [(.list cForm)] (x1,())) 0 .leaf) S0 [] (qao ttT.get fi7 (sz16 g))
abbrev Bz16(g:gz16)(J:JT qbo)(lf k:Nat)(ms:List Nat)(q:NRes):=qbj Tryz.prog ttT.get qje fi7.nt (qvx _ lf) lf qkn J k fi7.body [] ms q (qao ttT.get fi7 (sz16 g))
theorem zqg(g:gz16)(J:JT qbo)(lf:Nat)(x1:(List qab)):Ez16 g J lf x1=qvk lf x1 (fun q=>J 2 [lf] (qd9 x1 q)):=by kernel_rfl
theorem zkw(g:gz16)(J:JT qbo)(lf:Nat)(x1:(List qab))(m1:Nat)(p:Int):Bz16 g J lf 2 [m1] (qd9 x1 p)=qnl lf x1 (fun q=>J 8 [m1,lf] (qh3 x1 q)) p:=by kernel_rfl
theorem zoa(g:gz16)(J:JT qbo)(lf:Nat)(x1:(List qab))(m1:Nat)(m2:Nat)(p:Int × Int × Int):Bz16 g J lf 8 [m1,m2] (qh3 x1 p)=qqh lf x1 (fun q=>J 8 [m1,m2] (qh3 x1 q)) (fun q=>J 2 [m1] (qd9 x1 q)) p:=by kernel_rfl
theorem qs5:(regs fi7.body).Nodup:=by decide +kernel
theorem qra:okC qje qkn qzq fi7.body none=true:=by kernel_rfl
def Az16(g:gz16)(lf:Nat):JT qbo:=atN Tryz.prog ttT.get qje fi7 (sz16 g) (qvx _ lf) lf qzq
def qj0(lf:Nat)(x1:(List qab))(K2:Int->Option qbo):Nat->(Int × Int × Int)->Option qbo:=qas fun K p=>qqh lf x1 K K2 p
theorem qxw(g:gz16)(lf:Nat)(x1:(List qab))(m1:Nat):∀(n:Nat) (p:Int × Int × Int),Az16 g lf 8 [m1,n] (qh3 x1 p)=qj0 lf x1 (fun q=>Az16 g lf 2 [m1] (qd9 x1 q)) n p
 | 0,p=>qax 8 [m1,0] rfl _
 | n+1,p=>by
  have ih:=qxw g lf x1 m1 n;refine(qau (qaq 20 _) qs5 qra 8 [m1,n+1] [m1,n] rfl _).trans ((zoa g (Az16 g lf) lf x1 m1 n p).trans ?_);rw[(show (fun q=>Az16 g lf 8 [m1,n] (qh3 x1 q))=(fun q=>qj0 lf x1 (fun q=>Az16 g lf 2 [m1] (qd9 x1 q)) n q) from funext ih)];rfl
def qoe(lf:Nat)(x1:(List qab)):Nat->(Int)->Option qbo:=qas fun K p=>qnl lf x1 (fun q=>qj0 lf x1 K lf q) p
theorem qwi(g:gz16)(lf:Nat)(x1:(List qab)):∀(n:Nat) (p:Int),Az16 g lf 2 [n] (qd9 x1 p)=qoe lf x1 n p
 | 0,p=>qax 2 [0] rfl _
 | n+1,p=>by
  have ih:=qwi g lf x1 n;refine(qau (qaq 20 _) qs5 qra 2 [n+1] [n] rfl _).trans ((zkw g (Az16 g lf) lf x1 n p).trans ?_);rw[(show (fun q=>Az16 g lf 8 [n,lf] (qh3 x1 q))=(fun q=>qj0 lf x1 (fun q=>Az16 g lf 2 [n] (qd9 x1 q)) lf q) from funext fun q=>qxw g lf x1 n lf q),(show (fun q=>Az16 g lf 2 [n] (qd9 x1 q))=(fun q=>qoe lf x1 n q) from funext ih)];rfl
def Fz16(lf:Nat)(x1:(List qab)):Option qbo:=qvk lf x1 (fun q=>qoe lf x1 lf q)
theorem zbv(g:gz16)(lf:Nat)(x1:(List qab)):Ez16 g (Az16 g lf) lf x1=Fz16 lf x1:=by
  refine(zqg g (Az16 g lf) lf x1).trans ?_;rw[(show (fun q=>Az16 g lf 2 [lf] (qd9 x1 q))=(fun q=>qoe lf x1 lf q) from funext fun q=>qwi g lf x1 lf q)];rfl
theorem zcm:qbb Tryz.prog q1k:=trivial
theorem ze6{g:gz16}(hsm:SmOK Tryz.prog q6w)(hg:∀(x:ElA [(.list cForm)]) (y:qbo),WfA [(.list cForm)] x->g x=some y->∃lf,Fz16 lf x.1=some y):Con Tryz.prog 7 ⟨[(.list cForm)],[(false,.bool)],g⟩ :=
 conV (st:=qkn) (fun lf x=>Fz16 lf x.1) cm3 cal7 zcm qs5 qra (fun lf x=>zbv g lf x.1) hsm hg
def qi9:Nat->Option Nm:=fun k=>cond (Nat.beq k 2) (some ⟨[0,3],[],[],[],[],0,0,false⟩) (none)
def qll:Nat->Bool:=fun k=>cond (Nat.beq k 2) true (false)
def q07:=qll
abbrev qch:Type:=Bool × Unit
def q3n:List (Nat × Sm):=[]
def qwn:List (Nat × Hx):=[]
def qvy(R:Type)(lf:Nat):ClK R:=qa3 Tryz.prog ttT.get ftT.get (nm1 8 qi9) (smL q3n) (hxL qwn) lf 20 R
abbrev zpu:Nat:=8
def qg2(x1:(List qaa))(p:Int):NRes:=(NRes.mk (.node (some (IV.lst cRule x1)) (.node none (.node (some (IV.int .i64 p)) .leaf .leaf) .leaf) .leaf) (IS.mk .leaf 0) [] 0)
def qr0(lf:Nat)(x1:(List qaa))(L2:Int->Option qch):Option qch:=(L2 (Int.ofNat 0))
def qpg(lf:Nat)(x1:(List qaa))(L2:Int->Option qch)(p:Int):Option qch:=(cond (iltI p (Int.ofNat x1.length)) (match (jget x1 p) with|none=>none|some v0=>(cond (iltI (Int.ofNat 8) (Int.ofNat v0.2.2.length)) (some (false,())) (L2 (IntKind.i64.wrap (Int.add p (Int.ofNat 1)))))) (cond (Bool.not (iltI (Int.ofNat 8) (Int.ofNat x1.length))) (some (true,())) (cond (iltI (Int.ofNat 24) (Int.ofNat x1.length)) (some ((Bool.not (iltI (Int.ofNat 30) (Int.ofNat x1.length))),())) (some (false,())))))
abbrev gz17:Type:=ElA [(.list cRule)]->Option qch
abbrev sz17(g:gz17):Sm:=⟨[(.list cRule)],[(false,.bool)],g⟩
abbrev Ez17(g:gz17)(J:JT qch)(lf:Nat)(x1:(List qaa)):=qbc Tryz.prog ttT.get qi9 fi8.nt (qvy _ lf) lf qll J fi8.body [] (qay (argV [(.list cRule)] (x1,())) 0 .leaf) S0 [] (qao ttT.get fi8 (sz17 g))
abbrev Bz17(g:gz17)(J:JT qch)(lf k:Nat)(ms:List Nat)(q:NRes):=qbj Tryz.prog ttT.get qi9 fi8.nt (qvy _ lf) lf qll J k fi8.body [] ms q (qao ttT.get fi8 (sz17 g))
theorem ze7(g:gz17)(J:JT qch)(lf:Nat)(x1:(List qaa)):Ez17 g J lf x1=qr0 lf x1 (fun q=>J 2 [lf] (qg2 x1 q)):=by kernel_rfl
theorem zcd(g:gz17)(J:JT qch)(lf:Nat)(x1:(List qaa))(m1:Nat)(p:Int):Bz17 g J lf 2 [m1] (qg2 x1 p)=qpg lf x1 (fun q=>J 2 [m1] (qg2 x1 q)) p:=by kernel_rfl
theorem q04:(regs fi8.body).Nodup:=by decide +kernel
theorem q0o:okC qi9 qll q07 fi8.body none=true:=by kernel_rfl
def Az17(g:gz17)(lf:Nat):JT qch:=atN Tryz.prog ttT.get qi9 fi8 (sz17 g) (qvy _ lf) lf q07
def qoz(lf:Nat)(x1:(List qaa)):Nat->(Int)->Option qch:=qas fun K p=>qpg lf x1 K p
theorem q5c(g:gz17)(lf:Nat)(x1:(List qaa)):∀(n:Nat) (p:Int),Az17 g lf 2 [n] (qg2 x1 p)=qoz lf x1 n p
 | 0,p=>qax 2 [0] rfl _
 | n+1,p=>by
  have ih:=q5c g lf x1 n;refine(qau (qaq 20 _) q04 q0o 2 [n+1] [n] rfl _).trans ((zcd g (Az17 g lf) lf x1 n p).trans ?_);rw[(show (fun q=>Az17 g lf 2 [n] (qg2 x1 q))=(fun q=>qoz lf x1 n q) from funext ih)];rfl
def Fz17(lf:Nat)(x1:(List qaa)):Option qch:=qr0 lf x1 (fun q=>qoz lf x1 lf q)
theorem zjx(g:gz17)(lf:Nat)(x1:(List qaa)):Ez17 g (Az17 g lf) lf x1=Fz17 lf x1:=by
  refine(ze7 g (Az17 g lf) lf x1).trans ?_;rw[(show (fun q=>Az17 g lf 2 [lf] (qg2 x1 q))=(fun q=>qoz lf x1 lf q) from funext fun q=>q5c g lf x1 lf q)];rfl
theorem znh:qbb Tryz.prog qwn:=trivial
theorem zko{g:gz17}(hsm:SmOK Tryz.prog q3n)(hg:∀(x:ElA [(.list cRule)]) (y:qch),WfA [(.list cRule)] x->g x=some y->∃lf,Fz17 lf x.1=some y):Con Tryz.prog 8 ⟨[(.list cRule)],[(false,.bool)],g⟩ :=
 conV (st:=qll) (fun lf x=>Fz17 lf x.1) cm3 cal8 znh q04 q0o (fun lf x=>zjx g lf x.1) hsm hg
theorem zbk(l:List qaa)(hl:l.length<LF):Fz17 LF l=some (S.fewRules l,()):=by
 simp only[Fz17,qr0,S.fewRules];refine qbm (R:=qch) l (fun rest i=>some (rest.all (fun r=>decide (r.2.2.length<=8))&&decide (l.length<=8\/24<l.length/\l.length<=30),())) hl (fun K=>?_) (fun K i v rest r h=>?_)
 ·simp only[qpg,qaw,jae,qc0,je6,jb3];by_cases h8:8<l.length<;>by_cases h24:24<l.length<;>by_cases h30:30<l.length<;>simp [h8,h24,h30]<;>omega
 ·simp only[qpg,r.ilt,r.get,r.next,h,jab,qc0,jcp];by_cases h8:8<v.2.2.length
  ·have h8':¬v.2.2.length<=8:=by omega
   simp[h8,h8']
  ·have h8':v.2.2.length<=8:=by omega
   simp[h8,h8']
theorem ziz:Con Tryz.prog zpu q7k:=zko trivial fun x y hx h=>⟨LF,(zbk _ (qbf hx.1)).trans h⟩
theorem zhx(l:List qab)(K2:Int->Option qbo)(i:Nat)(f:qab)(hf:jget l (Int.ofNat i)=some f)(hl:f.2.length<LF) :
  qj0 LF l K2 LF (Int.ofNat f.2.length,Int.ofNat 0,Int.ofNat i)=cond (f.2.all fun c=>decide (c.1.size<=30/\c.2.2.size<=30)) (K2 (IntKind.i64.wrap (Int.add (Int.ofNat i) (Int.ofNat 1)))) (some (false,())):=by
 refine range0 (σ:=Unit) (R:=qbo) f.2 (fun k _=>(Int.ofNat f.2.length,k,Int.ofNat i)) (fun _ _=>True) (fun rest k _=>cond (rest.all fun c=>decide (c.1.size<=30/\c.2.2.size<=30)) (K2 (IntKind.i64.wrap (Int.add (Int.ofNat i) (Int.ofNat 1)))) (some (false,()))) hl (fun K s _=>?_) (fun K k c rest s _ r h=>?_) () trivial
 ·simp only[qqh,qaw,jae,je6,jab]
 ·have h:=h () trivial;simp only[qqh,hf,r.ilt,r.get,r.next,h,jab,qc0,jcp];by_cases a1:30<c.1.size
  ·have e:decide (c.1.size<=30/\c.2.2.size<=30)=false:=jai (by omega);rw[e,jaj a1];rfl
  by_cases a2:30<c.2.2.size
  ·have e:decide (c.1.size<=30/\c.2.2.size<=30)=false:=jai (by omega);rw[e,jai a1,jaj a2];rfl
  ·have e:decide (c.1.size<=30/\c.2.2.size<=30)=true:=jaj (by omega);rw[e,jai a1,jai a2,jb3];rfl
theorem zog(l:List qab)(hl:l.length<LF)(hw:∀f∈l,f.2.length<LF):Fz16 LF l=some (S.fewForms l,()):=by
 simp only[Fz16,qvk,S.fewForms];refine qbm (R:=qbo) l (fun rest i=>some (rest.all (fun f=>decide (f.1.size<=30/\(f.2.length<=6\/30<f.2.length)/\f.2.length<=40)&&f.2.all fun c=>decide (c.1.size<=30/\c.2.2.size<=30))&&decide (l.length<=6\/24<l.length/\l.length<=30),())) hl (fun K=>?_) (fun K i v rest r h=>?_)
 ·simp only[qnl,qaw,jae,qc0,je6,jb3];by_cases h8:6<l.length<;>by_cases h24:24<l.length<;>by_cases h30:30<l.length<;>simp [h8,h24,h30]<;>omega
 ·have hin:=zhx l K i v r.get (hw v r.mem);rw[r.next,h] at hin;simp only[qnl,r.ilt,r.get,jab,qc0,jcp];simp only[hin];generalize (v.2.all fun c=>decide (c.1.size<=30/\c.2.2.size<=30))=w;generalize v.2.length=n;generalize v.1.size=m;by_cases a0:30<m
  ·have e:decide (m<=30/\(n<=6\/30<n)/\n<=40)=false:=jai (by omega);rw[e,jaj a0];rfl
  rw[jai a0,jae];by_cases a1:6<n
  ·rw[jaj a1,jab];by_cases a2:30<n
   ·rw[jaj a2,jbh,jae];by_cases a3:40<n
    ·have e:decide (m<=30/\(n<=6\/30<n)/\n<=40)=false:=jai (by omega);rw[e,jaj a3];rfl
    ·have e:decide (m<=30/\(n<=6\/30<n)/\n<=40)=true:=jaj (by omega);rw[e,jai a3];cases w<;>rfl
   ·have e:decide (m<=30/\(n<=6\/30<n)/\n<=40)=false:=jai (by omega);rw[e,jai a2];rfl
  ·rw[jai a1,jae];have e:decide (m<=30/\(n<=6\/30<n)/\n<=40)=true:=jaj (by omega);have a3:¬40<n:=by omega
   rw[e,jai a3];cases w<;>rfl
theorem zd0:Con Tryz.prog zmf qx8:=ze6 trivial fun x y hx h=>⟨LF,(zog _ (qbf hx.1) fun f hf=>qbf (hx.1.2 f hf).2).trans h⟩
def qjn:Nat->Option Nm:=fun k=>cond (Nat.beq k 4) (some ⟨[0,1,5],[],[],[],[],0,0,false⟩) (cond (Nat.beq k 9) (some ⟨[0,1,5,6],[],[],[],[],0,0,false⟩) (none))
def qmc:Nat->Bool:=fun k=>cond (Nat.beq k 4) true (cond (Nat.beq k 9) true (false))
def qxy:=qmc
abbrev qbp:Type:=Bool × Unit
def q16:List (Nat × Sm):=[]
def q0n:List (Nat × Hx):=[]
def qs0(R:Type)(lf:Nat):ClK R:=qa3 Tryz.prog ttT.get ftT.get (nm1 16 qjn) (smL q16) (hxL q0n) lf 20 R
abbrev zcf:Nat:=16
def qej(x1:(List qaa))(x2:(List qaa))(p:Int):NRes:=(NRes.mk (.node (some (IV.lst cRule x1)) (.node (some (IV.lst cRule x2)) .leaf (.node (some (IV.int .i64 p)) .leaf .leaf)) .leaf) (IS.mk .leaf 0) [] 0)
def qhh(x1:(List qaa))(x2:(List qaa))(p:Int × Int):NRes:=(NRes.mk (.node (some (IV.lst cRule x1)) (.node (some (IV.lst cRule x2)) .leaf (.node (some (IV.int .i64 p.2)) .leaf .leaf)) (.node none .leaf (.node (some (IV.int .i64 p.1)) .leaf .leaf))) (IS.mk .leaf 0) [] 0)
def qrq(lf:Nat)(x1:(List qaa))(x2:(List qaa))(L4:Int->Option qbp):Option qbp:=(cond (Bool.not (ieqI (Int.ofNat x1.length) (Int.ofNat x2.length))) (some (false,())) (L4 (Int.ofNat 0)))
def qoo(lf:Nat)(x1:(List qaa))(x2:(List qaa))(L9:(Int × Int)->Option qbp)(p:Int):Option qbp:=(cond (iltI p (Int.ofNat x1.length)) (match (jget x1 p) with|none=>none|some v0=>(match (jget x2 p) with|none=>none|some v1=>(cond (Bool.not (keqS v0.1 v1.1)) (some (false,())) (match (jget x1 p) with|none=>none|some v2=>(match (jget x2 p) with|none=>none|some v3=>(cond (Bool.not (keqS v2.2.1 v3.2.1)) (some (false,())) (match (jget x1 p) with|none=>none|some v4=>(match (jget x2 p) with|none=>none|some v5=>(cond (Bool.not (ieqI (Int.ofNat v4.2.2.length) (Int.ofNat v5.2.2.length))) (some (false,())) (L9 ((Int.ofNat 0),p))))))))))) (some (true,())))
def qqc(lf:Nat)(x1:(List qaa))(x2:(List qaa))(L9:(Int × Int)->Option qbp)(L4:Int->Option qbp)(p:Int × Int):Option qbp:=(match (jget x1 p.2) with|none=>none|some v0=>(cond (iltI p.1 (Int.ofNat v0.2.2.length)) (match (jget x1 p.2) with|none=>none|some v1=>(match (jget v1.2.2 p.1) with|none=>none|some v2=>(match (jget x2 p.2) with|none=>none|some v3=>(match (jget v3.2.2 p.1) with|none=>none|some v4=>(cond (Bool.not (Bool.and (keqS v2.1 v4.1) (Bool.and (keqI v2.2.1 v4.2.1) (Bool.and (keqI v2.2.2 v4.2.2) true)))) (some (false,())) (L9 ((IntKind.i64.wrap (Int.add p.1 (Int.ofNat 1))),p.2))))))) (L4 (IntKind.i64.wrap (Int.add p.2 (Int.ofNat 1))))))
abbrev gz18:Type:=ElA [(.list cRule),(.list cRule)]->Option qbp
abbrev sz18(g:gz18):Sm:=⟨[(.list cRule),(.list cRule)],[(false,.bool)],g⟩
abbrev Ez18(g:gz18)(J:JT qbp)(lf:Nat)(x1:(List qaa))(x2:(List qaa)):=qbc Tryz.prog ttT.get qjn fi16.nt (qs0 _ lf) lf qmc J fi16.body [] (qay (argV [(.list cRule),(.list cRule)] (x1,x2,())) 0 .leaf) S0 [] (qao ttT.get fi16 (sz18 g))
abbrev Bz18(g:gz18)(J:JT qbp)(lf k:Nat)(ms:List Nat)(q:NRes):=qbj Tryz.prog ttT.get qjn fi16.nt (qs0 _ lf) lf qmc J k fi16.body [] ms q (qao ttT.get fi16 (sz18 g))
theorem zak(g:gz18)(J:JT qbp)(lf:Nat)(x1:(List qaa))(x2:(List qaa)):Ez18 g J lf x1 x2=qrq lf x1 x2 (fun q=>J 4 [lf] (qej x1 x2 q)):=by kernel_rfl
theorem q8g(g:gz18)(J:JT qbp)(lf:Nat)(x1:(List qaa))(x2:(List qaa))(m1:Nat)(p:Int):Bz18 g J lf 4 [m1] (qej x1 x2 p)=qoo lf x1 x2 (fun q=>J 9 [m1,lf] (qhh x1 x2 q)) p:=by kernel_rfl
theorem zah(g:gz18)(J:JT qbp)(lf:Nat)(x1:(List qaa))(x2:(List qaa))(m1:Nat)(m2:Nat)(p:Int × Int):Bz18 g J lf 9 [m1,m2] (qhh x1 x2 p)=qqc lf x1 x2 (fun q=>J 9 [m1,m2] (qhh x1 x2 q)) (fun q=>J 4 [m1] (qej x1 x2 q)) p:=by kernel_rfl
theorem qrn:(regs fi16.body).Nodup:=by decide +kernel
theorem qua:okC qjn qmc qxy fi16.body none=true:=by kernel_rfl
def Az18(g:gz18)(lf:Nat):JT qbp:=atN Tryz.prog ttT.get qjn fi16 (sz18 g) (qs0 _ lf) lf qxy
def qhq(lf:Nat)(x1:(List qaa))(x2:(List qaa))(K4:Int->Option qbp):Nat->(Int × Int)->Option qbp:=qas fun K p=>qqc lf x1 x2 K K4 p
theorem q4j(g:gz18)(lf:Nat)(x1:(List qaa))(x2:(List qaa))(m1:Nat):∀(n:Nat) (p:Int × Int),Az18 g lf 9 [m1,n] (qhh x1 x2 p)=qhq lf x1 x2 (fun q=>Az18 g lf 4 [m1] (qej x1 x2 q)) n p
 | 0,p=>qax 9 [m1,0] rfl _
 | n+1,p=>by
  have ih:=q4j g lf x1 x2 m1 n;refine(qau (qaq 20 _) qrn qua 9 [m1,n+1] [m1,n] rfl _).trans ((zah g (Az18 g lf) lf x1 x2 m1 n p).trans ?_);rw[(show (fun q=>Az18 g lf 9 [m1,n] (qhh x1 x2 q))=(fun q=>qhq lf x1 x2 (fun q=>Az18 g lf 4 [m1] (qej x1 x2 q)) n q) from funext ih)];rfl
def qn5(lf:Nat)(x1:(List qaa))(x2:(List qaa)):Nat->(Int)->Option qbp:=qas fun K p=>qoo lf x1 x2 (fun q=>qhq lf x1 x2 K lf q) p
theorem qx7(g:gz18)(lf:Nat)(x1:(List qaa))(x2:(List qaa)):∀(n:Nat) (p:Int),Az18 g lf 4 [n] (qej x1 x2 p)=qn5 lf x1 x2 n p
 | 0,p=>qax 4 [0] rfl _
 | n+1,p=>by
  have ih:=qx7 g lf x1 x2 n;refine(qau (qaq 20 _) qrn qua 4 [n+1] [n] rfl _).trans ((q8g g (Az18 g lf) lf x1 x2 n p).trans ?_);rw[(show (fun q=>Az18 g lf 9 [n,lf] (qhh x1 x2 q))=(fun q=>qhq lf x1 x2 (fun q=>Az18 g lf 4 [n] (qej x1 x2 q)) lf q) from funext fun q=>q4j g lf x1 x2 n lf q),(show (fun q=>Az18 g lf 4 [n] (qej x1 x2 q))=(fun q=>qn5 lf x1 x2 n q) from funext ih)];rfl
def Fz18(lf:Nat)(x1:(List qaa))(x2:(List qaa)):Option qbp:=qrq lf x1 x2 (fun q=>qn5 lf x1 x2 lf q)
theorem zpy(g:gz18)(lf:Nat)(x1:(List qaa))(x2:(List qaa)):Ez18 g (Az18 g lf) lf x1 x2=Fz18 lf x1 x2:=by
  refine(zak g (Az18 g lf) lf x1 x2).trans ?_;rw[(show (fun q=>Az18 g lf 4 [lf] (qej x1 x2 q))=(fun q=>qn5 lf x1 x2 lf q) from funext fun q=>qx7 g lf x1 x2 lf q)];rfl
theorem zmw:qbb Tryz.prog q0n:=trivial
theorem zim{g:gz18}(hsm:SmOK Tryz.prog q16)(hg:∀(x:ElA [(.list cRule),(.list cRule)]) (y:qbp),WfA [(.list cRule),(.list cRule)] x->g x=some y->∃lf,Fz18 lf x.1 x.2.1=some y):Con Tryz.prog 16 ⟨[(.list cRule),(.list cRule)],[(false,.bool)],g⟩ :=
 conV (st:=qmc) (fun lf x=>Fz18 lf x.1 x.2.1) cm3 zlf zmw qrn qua (fun lf x=>zpy g lf x.1 x.2.1) hsm hg
def qj1:Nat->Option Nm:=fun k=>cond (Nat.beq k 4) (some ⟨[5,6,7,9],[],[],[],[],0,0,false⟩) (cond (Nat.beq k 9) (some ⟨[5,6,7,9,10],[],[],[],[],0,0,false⟩) (none))
def qjz:Nat->Bool:=fun k=>cond (Nat.beq k 4) true (cond (Nat.beq k 9) true (false))
def qxg:=qjz
abbrev qbq:Type:=Bool × Unit
def qwl:List (Nat × Sm):=[(53,qih)]
def q5d:List (Nat × Hx):=[]
def qrr(R:Type)(lf:Nat):ClK R:=qa3 Tryz.prog ttT.get ftT.get (nm1 59 qj1) (smL qwl) (hxL q5d) lf 20 R
abbrev zqd:Nat:=59
def qeg(x1:(List qaa))(x2:qab)(x3:qab)(x4:qaa)(p:Int):NRes:=(NRes.mk (.node none (.node none (.node none (.node (some (IV.ptr 2 0)) .leaf .leaf) .leaf) (.node (some (IV.ptr 0 0)) (.node (some (IV.int .i64 p)) .leaf .leaf) .leaf)) (.node none .leaf (.node (some (IV.ptr 1 0)) .leaf .leaf))) (IS.mk (.node (some (IObj.row (List.cons (IV.str x2.1) [(IV.lst cCol x2.2)]))) (.node (some (IObj.row (List.cons (IV.str x3.1) [(IV.lst cCol x3.2)]))) .leaf .leaf) (.node (some (IObj.row (List.cons (IV.str x4.1) (List.cons (IV.str x4.2.1) [(IV.lst qar x4.2.2)])))) .leaf .leaf)) 3) [] 0)
def qf7(x1:(List qaa))(x2:qab)(x3:qab)(x4:qaa)(p:Int × Int):NRes:=(NRes.mk (.node none (.node none (.node none (.node (some (IV.ptr 2 0)) .leaf .leaf) .leaf) (.node (some (IV.ptr 0 0)) (.node (some (IV.int .i64 p.1)) .leaf .leaf) .leaf)) (.node none .leaf (.node (some (IV.ptr 1 0)) (.node (some (IV.int .i64 p.2)) .leaf .leaf) .leaf))) (IS.mk (.node (some (IObj.row (List.cons (IV.str x2.1) [(IV.lst cCol x2.2)]))) (.node (some (IObj.row (List.cons (IV.str x3.1) [(IV.lst cCol x3.2)]))) .leaf .leaf) (.node (some (IObj.row (List.cons (IV.str x4.1) (List.cons (IV.str x4.2.1) [(IV.lst qar x4.2.2)])))) .leaf .leaf)) 3) [] 0)
def qvj(lf:Nat)(x1:(List qaa))(x2:qab)(x3:qab)(x4:qaa)(L4:Int->Option qbq):Option qbq:=(cond (Bool.not (ieqI (Int.ofNat x2.2.length) (Int.ofNat x3.2.length))) (some (false,())) (L4 (Int.ofNat 0)))
def qqd(lf:Nat)(x1:(List qaa))(x2:qab)(x3:qab)(x4:qaa)(L9:(Int × Int)->Option qbq)(p:Int):Option qbq:=(cond (iltI p (Int.ofNat x4.2.2.length)) (match (jget x4.2.2 p) with|none=>none|some v0=>(cond (Bool.not (ieqI v0.2.1 (Int.ofNat 1))) (some (false,())) (L9 (p,(Int.ofNat 0))))) (some (true,())))
def qo0(lf:Nat)(x1:(List qaa))(x2:qab)(x3:qab)(x4:qaa)(L9:(Int × Int)->Option qbq)(L4:Int->Option qbq)(p:Int × Int):Option qbq:=(cond (iltI p.2 p.1) (match (jget x4.2.2 p.2) with|none=>none|some v0=>(match (jget x4.2.2 p.1) with|none=>none|some v1=>(cond (keqS v0.1 v1.1) (some (false,())) (L9 (p.1,(IntKind.i64.wrap (Int.add p.2 (Int.ofNat 1)))))))) (match (jget x4.2.2 p.1) with|none=>none|some v25=>(match (jget x2.2 (S.col x2.2 v25.1)) with|none=>none|some v26=>(match (jget x3.2 p.1) with|none=>none|some v27=>(cond (ieqI v26.2.1 (Int.ofNat 3)) (cond (Bool.not (Decidable.decide (Eq (keqS v26.2.2 (S.lit [65,78,89])) (keqS v27.2.2 (S.lit [65,78,89]))))) (some (false,())) (L4 (IntKind.i64.wrap (Int.add p.1 (Int.ofNat 1))))) (L4 (IntKind.i64.wrap (Int.add p.1 (Int.ofNat 1)))))))))
abbrev gz19:Type:=ElA [(.list cRule),cForm,cForm,cRule]->Option qbq
abbrev sz19(g:gz19):Sm:=⟨[(.list cRule),cForm,cForm,cRule],[(false,.bool)],g⟩
abbrev Ez19(g:gz19)(J:JT qbq)(lf:Nat)(x1:(List qaa))(x2:qab)(x3:qab)(x4:qaa):=qbc Tryz.prog ttT.get qj1 fi59.nt (qrr _ lf) lf qjz J fi59.body [] (qay (argV [(.list cRule),cForm,cForm,cRule] (x1,x2,x3,x4,())) 0 .leaf) S0 [] (qao ttT.get fi59 (sz19 g))
abbrev Bz19(g:gz19)(J:JT qbq)(lf k:Nat)(ms:List Nat)(q:NRes):=qbj Tryz.prog ttT.get qj1 fi59.nt (qrr _ lf) lf qjz J k fi59.body [] ms q (qao ttT.get fi59 (sz19 g))
theorem q84(g:gz19)(J:JT qbq)(lf:Nat)(x1:(List qaa))(x2:qab)(x3:qab)(x4:qaa):Ez19 g J lf x1 x2 x3 x4=qvj lf x1 x2 x3 x4 (fun q=>J 4 [lf] (qeg x1 x2 x3 x4 q)):=by kernel_rfl
theorem zqj(g:gz19)(J:JT qbq)(lf:Nat)(x1:(List qaa))(x2:qab)(x3:qab)(x4:qaa)(m1:Nat)(p:Int):Bz19 g J lf 4 [m1] (qeg x1 x2 x3 x4 p)=qqd lf x1 x2 x3 x4 (fun q=>J 9 [m1,lf] (qf7 x1 x2 x3 x4 q)) p:=by kernel_rfl
theorem zbg(g:gz19)(J:JT qbq)(lf:Nat)(x1:(List qaa))(x2:qab)(x3:qab)(x4:qaa)(m1:Nat)(m2:Nat)(p:Int × Int):Bz19 g J lf 9 [m1,m2] (qf7 x1 x2 x3 x4 p)=qo0 lf x1 x2 x3 x4 (fun q=>J 9 [m1,m2] (qf7 x1 x2 x3 x4 q)) (fun q=>J 4 [m1] (qeg x1 x2 x3 x4 q)) p:=by kernel_rfl
theorem qsj:(regs fi59.body).Nodup:=by decide +kernel
theorem qta:okC qj1 qjz qxg fi59.body none=true:=by kernel_rfl
def Az19(g:gz19)(lf:Nat):JT qbq:=atN Tryz.prog ttT.get qj1 fi59 (sz19 g) (qrr _ lf) lf qxg
def qmb(lf:Nat)(x1:(List qaa))(x2:qab)(x3:qab)(x4:qaa)(K4:Int->Option qbq):Nat->(Int × Int)->Option qbq:=qas fun K p=>qo0 lf x1 x2 x3 x4 K K4 p
theorem qv4(g:gz19)(lf:Nat)(x1:(List qaa))(x2:qab)(x3:qab)(x4:qaa)(m1:Nat):∀(n:Nat) (p:Int × Int),Az19 g lf 9 [m1,n] (qf7 x1 x2 x3 x4 p)=qmb lf x1 x2 x3 x4 (fun q=>Az19 g lf 4 [m1] (qeg x1 x2 x3 x4 q)) n p
 | 0,p=>qax 9 [m1,0] rfl _
 | n+1,p=>by
  have ih:=qv4 g lf x1 x2 x3 x4 m1 n;refine(qau (qaq 20 _) qsj qta 9 [m1,n+1] [m1,n] rfl _).trans ((zbg g (Az19 g lf) lf x1 x2 x3 x4 m1 n p).trans ?_);rw[(show (fun q=>Az19 g lf 9 [m1,n] (qf7 x1 x2 x3 x4 q))=(fun q=>qmb lf x1 x2 x3 x4 (fun q=>Az19 g lf 4 [m1] (qeg x1 x2 x3 x4 q)) n q) from funext ih)];rfl
def qng(lf:Nat)(x1:(List qaa))(x2:qab)(x3:qab)(x4:qaa):Nat->(Int)->Option qbq:=qas fun K p=>qqd lf x1 x2 x3 x4 (fun q=>qmb lf x1 x2 x3 x4 K lf q) p
theorem q3f(g:gz19)(lf:Nat)(x1:(List qaa))(x2:qab)(x3:qab)(x4:qaa):∀(n:Nat) (p:Int),Az19 g lf 4 [n] (qeg x1 x2 x3 x4 p)=qng lf x1 x2 x3 x4 n p
 | 0,p=>qax 4 [0] rfl _
 | n+1,p=>by
  have ih:=q3f g lf x1 x2 x3 x4 n;refine(qau (qaq 20 _) qsj qta 4 [n+1] [n] rfl _).trans ((zqj g (Az19 g lf) lf x1 x2 x3 x4 n p).trans ?_);rw[(show (fun q=>Az19 g lf 9 [n,lf] (qf7 x1 x2 x3 x4 q))=(fun q=>qmb lf x1 x2 x3 x4 (fun q=>Az19 g lf 4 [n] (qeg x1 x2 x3 x4 q)) lf q) from funext fun q=>qv4 g lf x1 x2 x3 x4 n lf q),(show (fun q=>Az19 g lf 4 [n] (qeg x1 x2 x3 x4 q))=(fun q=>qng lf x1 x2 x3 x4 n q) from funext ih)];rfl
def Fz19(lf:Nat)(x1:(List qaa))(x2:qab)(x3:qab)(x4:qaa):Option qbq:=qvj lf x1 x2 x3 x4 (fun q=>qng lf x1 x2 x3 x4 lf q)
theorem q8a(g:gz19)(lf:Nat)(x1:(List qaa))(x2:qab)(x3:qab)(x4:qaa):Ez19 g (Az19 g lf) lf x1 x2 x3 x4=Fz19 lf x1 x2 x3 x4:=by
  refine(q84 g (Az19 g lf) lf x1 x2 x3 x4).trans ?_;rw[(show (fun q=>Az19 g lf 4 [lf] (qeg x1 x2 x3 x4 q))=(fun q=>qng lf x1 x2 x3 x4 lf q) from funext fun q=>q3f g lf x1 x2 x3 x4 lf q)];rfl
theorem q9q:qbb Tryz.prog q5d:=trivial
theorem zjr{g:gz19}(hsm:SmOK Tryz.prog qwl)(hg:∀(x:ElA [(.list cRule),cForm,cForm,cRule]) (y:qbq),WfA [(.list cRule),cForm,cForm,cRule] x->g x=some y->∃lf,Fz19 lf x.1 x.2.1 x.2.2.1 x.2.2.2.1=some y):Con Tryz.prog 59 ⟨[(.list cRule),cForm,cForm,cRule],[(false,.bool)],g⟩ :=
 conV (st:=qjz) (fun lf x=>Fz19 lf x.1 x.2.1 x.2.2.1 x.2.2.2.1) cm3 zla q9q qsj qta (fun lf x=>q8a g lf x.1 x.2.1 x.2.2.1 x.2.2.2.1) hsm hg
def qk6:Nat->Option Nm:=fun k=>cond (Nat.beq k 7) (some ⟨[0,1,2,6,8],[],[],[],[],0,0,false⟩) (cond (Nat.beq k 10) (some ⟨[0,1,2,6,8,9],[],[],[],[],0,0,false⟩) (cond (Nat.beq k 21) (some ⟨[0,1,2,6,13,14],[],[(13,0,cRule)],[],[],0,0,false⟩) (cond (Nat.beq k 24) (some ⟨[0,1,2,6,13,14,15],[],[(13,0,cRule)],[],[],0,0,false⟩) (cond (Nat.beq k 30) (some ⟨[0,1,2,6,13,14,15,16,17,18],[],[(13,0,cRule),(17,2,qar)],[],[],0,0,false⟩) (cond (Nat.beq k 33) (some ⟨[0,1,2,6,13,14,15,16,17,18,19],[],[(13,0,cRule),(17,2,qar)],[],[],0,0,false⟩) (none))))))
def qi7:Nat->Bool:=fun k=>cond (Nat.beq k 7) true (cond (Nat.beq k 10) true (cond (Nat.beq k 21) true (cond (Nat.beq k 24) true (cond (Nat.beq k 30) true (cond (Nat.beq k 33) true (false))))))
def qws:=qi7
abbrev qal:Type:=zi2 × Unit
def q61:List (Nat × Sm):=[(22,qro),(40,spz9),(59,q5k)]
def qxc:List (Nat × Hx):=[]
def qt1(R:Type)(lf:Nat):ClK R:=qa3 Tryz.prog ttT.get ftT.get (nm1 20 qk6) (smL q61) (hxL qxc) lf 20 R
abbrev zh6:Nat:=20
def qd5(x1:(List qab))(x2:(List qab))(x3:(List qaa))(p:Int):NRes:=(NRes.mk (.node (some (IV.lst cForm x1)) (.node (some (IV.lst cForm x2)) .leaf .leaf) (.node (some (IV.lst cRule x3)) (.node none (.node (some (IV.int .i64 p)) .leaf .leaf) .leaf) (.node (some (IV.ptr 0 0)) .leaf .leaf))) (IS.mk (.node (some (IObj.row (List.cons IV.nilsl (List.cons (IV.bool false) [(IV.int .i64 (Int.ofNat 0))])))) .leaf .leaf) 1) [] 0)
def qha(x1:(List qab))(x2:(List qab))(x3:(List qaa))(p:Int × Int):NRes:=(NRes.mk (.node (some (IV.lst cForm x1)) (.node (some (IV.lst cForm x2)) .leaf (.node none (.node (some (IV.int .i64 p.2)) .leaf .leaf) .leaf)) (.node (some (IV.lst cRule x3)) (.node none (.node (some (IV.int .i64 p.1)) .leaf .leaf) .leaf) (.node (some (IV.ptr 0 0)) .leaf .leaf))) (IS.mk (.node (some (IObj.row (List.cons IV.nilsl (List.cons (IV.bool false) [(IV.int .i64 (Int.ofNat 0))])))) .leaf .leaf) 1) [] 0)
def qb8(x1:(List qab))(x2:(List qab))(x3:(List qaa))(p:Int × (List qaa)):NRes:=(NRes.mk (.node (some (IV.lst cForm x1)) (.node (some (IV.lst cForm x2)) .leaf (.node none .leaf (.node (some (IV.ptr 1 0)) .leaf .leaf))) (.node (some (IV.lst cRule x3)) .leaf (.node (some (IV.ptr 0 0)) .leaf (.node (some (IV.int .i64 p.1)) .leaf .leaf)))) (IS.mk (.node (some (IObj.row (List.cons IV.nilsl (List.cons (IV.bool false) [(IV.int .i64 (Int.ofNat 0))])))) (.node (some (IObj.row (List.cons (IV.arr 2) (List.cons (IV.bool true) [(IV.int .i64 (Int.ofNat 0))])))) .leaf .leaf) (.node (some (IObj.arr cRule p.2)) .leaf .leaf)) 3) [] 0)
def qct(x1:(List qab))(x2:(List qab))(x3:(List qaa))(p:Int × (List qaa) × Int):NRes:=(NRes.mk (.node (some (IV.lst cForm x1)) (.node (some (IV.lst cForm x2)) (.node none (.node none (.node (some (IV.int .i64 p.1)) .leaf .leaf) .leaf) .leaf) (.node none .leaf (.node (some (IV.ptr 1 0)) .leaf .leaf))) (.node (some (IV.lst cRule x3)) .leaf (.node (some (IV.ptr 0 0)) .leaf (.node (some (IV.int .i64 p.2.2)) .leaf .leaf)))) (IS.mk (.node (some (IObj.row (List.cons IV.nilsl (List.cons (IV.bool false) [(IV.int .i64 (Int.ofNat 0))])))) (.node (some (IObj.row (List.cons (IV.arr 2) (List.cons (IV.bool true) [(IV.int .i64 (Int.ofNat 0))])))) .leaf .leaf) (.node (some (IObj.arr cRule p.2.1)) .leaf .leaf)) 3) [] 0)
def qek(x1:(List qab))(x2:(List qab))(x3:(List qaa))(p:(List DCol) × ByteArray × ByteArray × ByteArray × Int × Int × (List qac) × (List qaa) × Int):NRes:=(NRes.mk (.node (some (IV.lst cForm x1)) (.node (some (IV.lst cForm x2)) (.node none (.node none (.node (some (IV.int .i64 p.2.2.2.2.1)) .leaf .leaf) .leaf) .leaf) (.node none (.node none (.node (some (IV.ptr 3 0)) .leaf .leaf) .leaf) (.node (some (IV.ptr 1 0)) .leaf .leaf))) (.node (some (IV.lst cRule x3)) (.node none (.node none (.node (some (IV.ptr 2 0)) .leaf .leaf) .leaf) .leaf) (.node (some (IV.ptr 0 0)) (.node none (.node (some (IV.int .i64 p.2.2.2.2.2.1)) .leaf .leaf) .leaf) (.node (some (IV.int .i64 p.2.2.2.2.2.2.2.2)) .leaf .leaf)))) (IS.mk (.node (some (IObj.row (List.cons IV.nilsl (List.cons (IV.bool false) [(IV.int .i64 (Int.ofNat 0))])))) (.node (some (IObj.row (List.cons (IV.arr 4) (List.cons (IV.bool true) [(IV.int .i64 (Int.ofNat 0))])))) (.node (some (IObj.row (List.cons (IV.str p.2.1) (List.cons (IV.str p.2.2.1) [(IV.arr 5)])))) .leaf .leaf) (.node (some (IObj.arr qar p.2.2.2.2.2.2.1)) .leaf .leaf)) (.node (some (IObj.row (List.cons (IV.str p.2.2.2.1) [(IV.lst cCol p.1)]))) (.node (some (IObj.arr cRule p.2.2.2.2.2.2.2.1)) .leaf .leaf) .leaf)) 6) [] 0)
def qhj(x1:(List qab))(x2:(List qab))(x3:(List qaa))(p:(List DCol) × Int × ByteArray × ByteArray × ByteArray × Int × (List qac) × Int × (List qaa) × Int):NRes:=(NRes.mk (.node (some (IV.lst cForm x1)) (.node (some (IV.lst cForm x2)) (.node none (.node none (.node (some (IV.int .i64 p.2.1)) .leaf .leaf) .leaf) (.node none (.node (some (IV.int .i64 p.2.2.2.2.2.1)) .leaf .leaf) .leaf)) (.node none (.node none (.node (some (IV.ptr 3 0)) .leaf .leaf) .leaf) (.node (some (IV.ptr 1 0)) .leaf .leaf))) (.node (some (IV.lst cRule x3)) (.node none (.node none (.node (some (IV.ptr 2 0)) .leaf .leaf) .leaf) .leaf) (.node (some (IV.ptr 0 0)) (.node none (.node (some (IV.int .i64 p.2.2.2.2.2.2.2.1)) .leaf .leaf) .leaf) (.node (some (IV.int .i64 p.2.2.2.2.2.2.2.2.2)) .leaf .leaf)))) (IS.mk (.node (some (IObj.row (List.cons IV.nilsl (List.cons (IV.bool false) [(IV.int .i64 (Int.ofNat 0))])))) (.node (some (IObj.row (List.cons (IV.arr 4) (List.cons (IV.bool true) [(IV.int .i64 (Int.ofNat 0))])))) (.node (some (IObj.row (List.cons (IV.str p.2.2.1) (List.cons (IV.str p.2.2.2.1) [(IV.arr 5)])))) .leaf .leaf) (.node (some (IObj.arr qar p.2.2.2.2.2.2.1)) .leaf .leaf)) (.node (some (IObj.row (List.cons (IV.str p.2.2.2.2.1) [(IV.lst cCol p.1)]))) (.node (some (IObj.arr cRule p.2.2.2.2.2.2.2.2.1)) .leaf .leaf) .leaf)) 6) [] 0)
def qvg(lf:Nat)(x1:(List qab))(x2:(List qab))(x3:(List qaa))(L7:Int->Option qal):Option qal:=(cond (Bool.not (ieqI (S.checkRules x1 x2 x3) (Int.ofNat 0))) (some (([],(false,(S.checkRules x1 x2 x3))),())) (cond (Bool.not (ieqI (Int.ofNat x1.length) (Int.ofNat x2.length))) (some (([],(false,(Int.ofNat 0))),())) (L7 (Int.ofNat 0))))
def qmv(lf:Nat)(x1:(List qab))(x2:(List qab))(x3:(List qaa))(L10:(Int × Int)->Option qal)(L21:(Int × (List qaa))->Option qal)(p:Int):Option qal:=(cond (iltI p (Int.ofNat x3.length)) (L10 (p,(Int.ofNat 0))) (L21 ((Int.ofNat 0),[])))
def qnr(lf:Nat)(x1:(List qab))(x2:(List qab))(x3:(List qaa))(L10:(Int × Int)->Option qal)(L7:Int->Option qal)(p:Int × Int):Option qal:=(cond (iltI p.2 p.1) (match (jget x3 p.1) with|none=>none|some v0=>(match (jget x3 p.2) with|none=>none|some v1=>(cond (keqS v0.2.1 v1.2.1) (some (([],(false,(Int.ofNat 0))),())) (L10 (p.1,(IntKind.i64.wrap (Int.add p.2 (Int.ofNat 1)))))))) (match (jget x3 p.1) with|none=>none|some v25=>(match (jget x1 (S.form x1 v25.1)) with|none=>none|some v26=>(match (jget x3 p.1) with|none=>none|some v27=>(match (jget x2 (S.form x2 v27.2.1)) with|none=>none|some v28=>(match (jget x3 p.1) with|none=>none|some v29=>(match (cond (S.backPre (v29.1,(v29.2.1,v29.2.2)) v26.2 v28.2) (some ((S.rkeeps v26.2 v28.2 v29.2.2),())) none) with|none=>none|some v30=>(cond (Bool.not v30.1) (some (([],(false,(Int.ofNat 0))),())) (L7 (IntKind.i64.wrap (Int.add p.1 (Int.ofNat 1))))))))))))
def qmj(lf:Nat)(x1:(List qab))(x2:(List qab))(x3:(List qaa))(L24:(Int × (List qaa) × Int)->Option qal)(p:Int × (List qaa)):Option qal:=(cond (iltI p.1 (Int.ofNat x2.length)) (L24 ((Int.ofNat 0),p.2,p.1)) (some ((p.2,(true,(Int.ofNat 0))),())))
def qnk(lf:Nat)(x1:(List qab))(x2:(List qab))(x3:(List qaa))(L24:(Int × (List qaa) × Int)->Option qal)(L30:((List DCol) × ByteArray × ByteArray × ByteArray × Int × Int × (List qac) × (List qaa) × Int)->Option qal)(L21:(Int × (List qaa))->Option qal)(p:Int × (List qaa) × Int):Option qal:=(cond (iltI p.1 (Int.ofNat x3.length)) (match (jget x3 p.1) with|none=>none|some v0=>(match (jget x2 p.2.2) with|none=>none|some v1=>(cond (Bool.not (keqS v0.2.1 v1.1)) (L24 ((IntKind.i64.wrap (Int.add p.1 (Int.ofNat 1))),p.2.1,p.2.2)) (match (jget x3 p.1) with|none=>none|some v25=>(match (jget x1 (S.form x1 v25.1)) with|none=>none|some v26=>(match (jget x2 p.2.2) with|none=>none|some v27=>(match (jget x3 p.1) with|none=>none|some v28=>(L30 (v26.2,v27.1,v28.1,v26.1,p.1,(Int.ofNat 0),[],p.2.1,p.2.2))))))))) (L21 ((IntKind.i64.wrap (Int.add p.2.2 (Int.ofNat 1))),p.2.1)))
def qmr(lf:Nat)(x1:(List qab))(x2:(List qab))(x3:(List qaa))(L33:((List DCol) × Int × ByteArray × ByteArray × ByteArray × Int × (List qac) × Int × (List qaa) × Int)->Option qal)(L24:(Int × (List qaa) × Int)->Option qal)(p:(List DCol) × ByteArray × ByteArray × ByteArray × Int × Int × (List qac) × (List qaa) × Int):Option qal:=(cond (iltI p.2.2.2.2.2.1 (Int.ofNat p.1.length)) (L33 (p.1,p.2.2.2.2.1,p.2.1,p.2.2.1,p.2.2.2.1,(Int.ofNat 0),p.2.2.2.2.2.2.1,p.2.2.2.2.2.1,p.2.2.2.2.2.2.2.1,p.2.2.2.2.2.2.2.2)) (cond (Nat.ble (Nat.mul (Nat.add p.2.2.2.2.2.2.2.1.length 1) 56) 140737488355328) (L24 ((IntKind.i64.wrap (Int.add p.2.2.2.2.1 (Int.ofNat 1))),(List.append p.2.2.2.2.2.2.2.1 [(p.2.1,(p.2.2.1,p.2.2.2.2.2.2.1))]),p.2.2.2.2.2.2.2.2)) none))
def qon(lf:Nat)(x1:(List qab))(x2:(List qab))(x3:(List qaa))(L33:((List DCol) × Int × ByteArray × ByteArray × ByteArray × Int × (List qac) × Int × (List qaa) × Int)->Option qal)(L30:((List DCol) × ByteArray × ByteArray × ByteArray × Int × Int × (List qac) × (List qaa) × Int)->Option qal)(p:(List DCol) × Int × ByteArray × ByteArray × ByteArray × Int × (List qac) × Int × (List qaa) × Int):Option qal:=(match (jget x3 p.2.1) with|none=>none|some v0=>(cond (iltI p.2.2.2.2.2.1 (Int.ofNat v0.2.2.length)) (match (jget x3 p.2.1) with|none=>none|some v1=>(match (jget v1.2.2 p.2.2.2.2.2.1) with|none=>none|some v2=>(match (jget p.1 p.2.2.2.2.2.2.2.1) with|none=>none|some v3=>(cond (keqS v2.1 v3.1) (match (jget x2 p.2.2.2.2.2.2.2.2.2) with|none=>none|some v4=>(match (jget v4.2 p.2.2.2.2.2.1) with|none=>none|some v5=>(cond (Nat.ble (Nat.mul (Nat.add p.2.2.2.2.2.2.1.length 1) 32) 140737488355328) (L33 (p.1,p.2.1,p.2.2.1,p.2.2.2.1,p.2.2.2.2.1,(IntKind.i64.wrap (Int.add p.2.2.2.2.2.1 (Int.ofNat 1))),(List.append p.2.2.2.2.2.2.1 (List.cons (v5.1,((Int.ofNat 1),(Int.ofNat 0))) [])),p.2.2.2.2.2.2.2.1,p.2.2.2.2.2.2.2.2.1,p.2.2.2.2.2.2.2.2.2)) none))) (L33 (p.1,p.2.1,p.2.2.1,p.2.2.2.1,p.2.2.2.2.1,(IntKind.i64.wrap (Int.add p.2.2.2.2.2.1 (Int.ofNat 1))),p.2.2.2.2.2.2.1,p.2.2.2.2.2.2.2.1,p.2.2.2.2.2.2.2.2.1,p.2.2.2.2.2.2.2.2.2)))))) (L30 (p.1,p.2.2.1,p.2.2.2.1,p.2.2.2.2.1,p.2.1,(IntKind.i64.wrap (Int.add p.2.2.2.2.2.2.2.1 (Int.ofNat 1))),p.2.2.2.2.2.2.1,p.2.2.2.2.2.2.2.2.1,p.2.2.2.2.2.2.2.2.2))))
abbrev gz20:Type:=ElA [(.list cForm),(.list cForm),(.list cRule)]->Option qal
abbrev sz20(g:gz20):Sm:=⟨[(.list cForm),(.list cForm),(.list cRule)],[(false,qpk)],g⟩
abbrev Ez20(g:gz20)(J:JT qal)(lf:Nat)(x1:(List qab))(x2:(List qab))(x3:(List qaa)):=qbc Tryz.prog ttT.get qk6 fi20.nt (qt1 _ lf) lf qi7 J fi20.body [] (qay (argV [(.list cForm),(.list cForm),(.list cRule)] (x1,x2,x3,())) 0 .leaf) S0 [] (qao ttT.get fi20 (sz20 g))
abbrev Bz20(g:gz20)(J:JT qal)(lf k:Nat)(ms:List Nat)(q:NRes):=qbj Tryz.prog ttT.get qk6 fi20.nt (qt1 _ lf) lf qi7 J k fi20.body [] ms q (qao ttT.get fi20 (sz20 g))
theorem zo3(g:gz20)(J:JT qal)(lf:Nat)(x1:(List qab))(x2:(List qab))(x3:(List qaa)):Ez20 g J lf x1 x2 x3=qvg lf x1 x2 x3 (fun q=>J 7 [lf] (qd5 x1 x2 x3 q)):=by kernel_rfl
theorem znr(g:gz20)(J:JT qal)(lf:Nat)(x1:(List qab))(x2:(List qab))(x3:(List qaa))(m1:Nat)(p:Int):Bz20 g J lf 7 [m1] (qd5 x1 x2 x3 p)=qmv lf x1 x2 x3 (fun q=>J 10 [m1,lf] (qha x1 x2 x3 q)) (fun q=>J 21 [lf] (qb8 x1 x2 x3 q)) p:=by kernel_rfl
theorem zps(g:gz20)(J:JT qal)(lf:Nat)(x1:(List qab))(x2:(List qab))(x3:(List qaa))(m1:Nat)(m2:Nat)(p:Int × Int):Bz20 g J lf 10 [m1,m2] (qha x1 x2 x3 p)=qnr lf x1 x2 x3 (fun q=>J 10 [m1,m2] (qha x1 x2 x3 q)) (fun q=>J 7 [m1] (qd5 x1 x2 x3 q)) p:=by kernel_rfl
theorem zbh(g:gz20)(J:JT qal)(lf:Nat)(x1:(List qab))(x2:(List qab))(x3:(List qaa))(m1:Nat)(p:Int × (List qaa)):Bz20 g J lf 21 [m1] (qb8 x1 x2 x3 p)=qmj lf x1 x2 x3 (fun q=>J 24 [m1,lf] (qct x1 x2 x3 q)) p:=by kernel_rfl
theorem zee(g:gz20)(J:JT qal)(lf:Nat)(x1:(List qab))(x2:(List qab))(x3:(List qaa))(m1:Nat)(m2:Nat)(p:Int × (List qaa) × Int):Bz20 g J lf 24 [m1,m2] (qct x1 x2 x3 p)=qnk lf x1 x2 x3 (fun q=>J 24 [m1,m2] (qct x1 x2 x3 q)) (fun q=>J 30 [m1,m2,lf] (qek x1 x2 x3 q)) (fun q=>J 21 [m1] (qb8 x1 x2 x3 q)) p:=by kernel_rfl
theorem zmo(g:gz20)(J:JT qal)(lf:Nat)(x1:(List qab))(x2:(List qab))(x3:(List qaa))(m1:Nat)(m2:Nat)(m3:Nat)(p:(List DCol) × ByteArray × ByteArray × ByteArray × Int × Int × (List qac) × (List qaa) × Int):Bz20 g J lf 30 [m1,m2,m3] (qek x1 x2 x3 p)=qmr lf x1 x2 x3 (fun q=>J 33 [m1,m2,m3,lf] (qhj x1 x2 x3 q)) (fun q=>J 24 [m1,m2] (qct x1 x2 x3 q)) p:=by kernel_rfl
theorem zc0(g:gz20)(J:JT qal)(lf:Nat)(x1:(List qab))(x2:(List qab))(x3:(List qaa))(m1:Nat)(m2:Nat)(m3:Nat)(m4:Nat)(p:(List DCol) × Int × ByteArray × ByteArray × ByteArray × Int × (List qac) × Int × (List qaa) × Int):Bz20 g J lf 33 [m1,m2,m3,m4] (qhj x1 x2 x3 p)=qon lf x1 x2 x3 (fun q=>J 33 [m1,m2,m3,m4] (qhj x1 x2 x3 q)) (fun q=>J 30 [m1,m2,m3] (qek x1 x2 x3 q)) p:=by kernel_rfl
theorem qft:(regs fi20.body).Nodup:=by decide +kernel
theorem qfq:okC qk6 qi7 qws fi20.body none=true:=by kernel_rfl
def Az20(g:gz20)(lf:Nat):JT qal:=atN Tryz.prog ttT.get qk6 fi20 (sz20 g) (qt1 _ lf) lf qws
def qli(lf:Nat)(x1:(List qab))(x2:(List qab))(x3:(List qaa))(K7:Int->Option qal):Nat->(Int × Int)->Option qal:=qas fun K p=>qnr lf x1 x2 x3 K K7 p
theorem q1d(g:gz20)(lf:Nat)(x1:(List qab))(x2:(List qab))(x3:(List qaa))(m1:Nat):∀(n:Nat) (p:Int × Int),Az20 g lf 10 [m1,n] (qha x1 x2 x3 p)=qli lf x1 x2 x3 (fun q=>Az20 g lf 7 [m1] (qd5 x1 x2 x3 q)) n p
 | 0,p=>qax 10 [m1,0] rfl _
 | n+1,p=>by
  have ih:=q1d g lf x1 x2 x3 m1 n;refine(qau (qaq 20 _) qft qfq 10 [m1,n+1] [m1,n] rfl _).trans ((zps g (Az20 g lf) lf x1 x2 x3 m1 n p).trans ?_);rw[(show (fun q=>Az20 g lf 10 [m1,n] (qha x1 x2 x3 q))=(fun q=>qli lf x1 x2 x3 (fun q=>Az20 g lf 7 [m1] (qd5 x1 x2 x3 q)) n q) from funext ih)];rfl
def ql6(lf:Nat)(x1:(List qab))(x2:(List qab))(x3:(List qaa))(K21:(Int × (List qaa))->Option qal)(K24:(Int × (List qaa) × Int)->Option qal)(K30:((List DCol) × ByteArray × ByteArray × ByteArray × Int × Int × (List qac) × (List qaa) × Int)->Option qal):Nat->((List DCol) × Int × ByteArray × ByteArray × ByteArray × Int × (List qac) × Int × (List qaa) × Int)->Option qal:=qas fun K p=>qon lf x1 x2 x3 K K30 p
theorem q05(g:gz20)(lf:Nat)(x1:(List qab))(x2:(List qab))(x3:(List qaa))(m1:Nat)(m2:Nat)(m3:Nat):∀(n:Nat) (p:(List DCol) × Int × ByteArray × ByteArray × ByteArray × Int × (List qac) × Int × (List qaa) × Int),Az20 g lf 33 [m1,m2,m3,n] (qhj x1 x2 x3 p)=ql6 lf x1 x2 x3 (fun q=>Az20 g lf 21 [m1] (qb8 x1 x2 x3 q)) (fun q=>Az20 g lf 24 [m1,m2] (qct x1 x2 x3 q)) (fun q=>Az20 g lf 30 [m1,m2,m3] (qek x1 x2 x3 q)) n p
 | 0,p=>qax 33 [m1,m2,m3,0] rfl _
 | n+1,p=>by
  have ih:=q05 g lf x1 x2 x3 m1 m2 m3 n;refine(qau (qaq 20 _) qft qfq 33 [m1,m2,m3,n+1] [m1,m2,m3,n] rfl _).trans ((zc0 g (Az20 g lf) lf x1 x2 x3 m1 m2 m3 n p).trans ?_);rw[(show (fun q=>Az20 g lf 33 [m1,m2,m3,n] (qhj x1 x2 x3 q))=(fun q=>ql6 lf x1 x2 x3 (fun q=>Az20 g lf 21 [m1] (qb8 x1 x2 x3 q)) (fun q=>Az20 g lf 24 [m1,m2] (qct x1 x2 x3 q)) (fun q=>Az20 g lf 30 [m1,m2,m3] (qek x1 x2 x3 q)) n q) from funext ih)];rfl
def qlc(lf:Nat)(x1:(List qab))(x2:(List qab))(x3:(List qaa))(K21:(Int × (List qaa))->Option qal)(K24:(Int × (List qaa) × Int)->Option qal):Nat->((List DCol) × ByteArray × ByteArray × ByteArray × Int × Int × (List qac) × (List qaa) × Int)->Option qal:=qas fun K p=>qmr lf x1 x2 x3 (fun q=>ql6 lf x1 x2 x3 K21 K24 K lf q) K24 p
theorem q25(g:gz20)(lf:Nat)(x1:(List qab))(x2:(List qab))(x3:(List qaa))(m1:Nat)(m2:Nat):∀(n:Nat) (p:(List DCol) × ByteArray × ByteArray × ByteArray × Int × Int × (List qac) × (List qaa) × Int),Az20 g lf 30 [m1,m2,n] (qek x1 x2 x3 p)=qlc lf x1 x2 x3 (fun q=>Az20 g lf 21 [m1] (qb8 x1 x2 x3 q)) (fun q=>Az20 g lf 24 [m1,m2] (qct x1 x2 x3 q)) n p
 | 0,p=>qax 30 [m1,m2,0] rfl _
 | n+1,p=>by
  have ih:=q25 g lf x1 x2 x3 m1 m2 n;refine(qau (qaq 20 _) qft qfq 30 [m1,m2,n+1] [m1,m2,n] rfl _).trans ((zmo g (Az20 g lf) lf x1 x2 x3 m1 m2 n p).trans ?_);rw[(show (fun q=>Az20 g lf 33 [m1,m2,n,lf] (qhj x1 x2 x3 q))=(fun q=>ql6 lf x1 x2 x3 (fun q=>Az20 g lf 21 [m1] (qb8 x1 x2 x3 q)) (fun q=>Az20 g lf 24 [m1,m2] (qct x1 x2 x3 q)) (fun q=>Az20 g lf 30 [m1,m2,n] (qek x1 x2 x3 q)) lf q) from funext fun q=>q05 g lf x1 x2 x3 m1 m2 n lf q),(show (fun q=>Az20 g lf 30 [m1,m2,n] (qek x1 x2 x3 q))=(fun q=>qlc lf x1 x2 x3 (fun q=>Az20 g lf 21 [m1] (qb8 x1 x2 x3 q)) (fun q=>Az20 g lf 24 [m1,m2] (qct x1 x2 x3 q)) n q) from funext ih)];rfl
def qlv(lf:Nat)(x1:(List qab))(x2:(List qab))(x3:(List qaa))(K21:(Int × (List qaa))->Option qal):Nat->(Int × (List qaa) × Int)->Option qal:=qas fun K p=>qnk lf x1 x2 x3 K (fun q=>qlc lf x1 x2 x3 K21 K lf q) K21 p
theorem q08(g:gz20)(lf:Nat)(x1:(List qab))(x2:(List qab))(x3:(List qaa))(m1:Nat):∀(n:Nat) (p:Int × (List qaa) × Int),Az20 g lf 24 [m1,n] (qct x1 x2 x3 p)=qlv lf x1 x2 x3 (fun q=>Az20 g lf 21 [m1] (qb8 x1 x2 x3 q)) n p
 | 0,p=>qax 24 [m1,0] rfl _
 | n+1,p=>by
  have ih:=q08 g lf x1 x2 x3 m1 n;refine(qau (qaq 20 _) qft qfq 24 [m1,n+1] [m1,n] rfl _).trans ((zee g (Az20 g lf) lf x1 x2 x3 m1 n p).trans ?_);rw[(show (fun q=>Az20 g lf 30 [m1,n,lf] (qek x1 x2 x3 q))=(fun q=>qlc lf x1 x2 x3 (fun q=>Az20 g lf 21 [m1] (qb8 x1 x2 x3 q)) (fun q=>Az20 g lf 24 [m1,n] (qct x1 x2 x3 q)) lf q) from funext fun q=>q25 g lf x1 x2 x3 m1 n lf q),(show (fun q=>Az20 g lf 24 [m1,n] (qct x1 x2 x3 q))=(fun q=>qlv lf x1 x2 x3 (fun q=>Az20 g lf 21 [m1] (qb8 x1 x2 x3 q)) n q) from funext ih)];rfl
def qkh(lf:Nat)(x1:(List qab))(x2:(List qab))(x3:(List qaa)):Nat->(Int × (List qaa))->Option qal:=qas fun K p=>qmj lf x1 x2 x3 (fun q=>qlv lf x1 x2 x3 K lf q) p
theorem q3w(g:gz20)(lf:Nat)(x1:(List qab))(x2:(List qab))(x3:(List qaa)):∀(n:Nat) (p:Int × (List qaa)),Az20 g lf 21 [n] (qb8 x1 x2 x3 p)=qkh lf x1 x2 x3 n p
 | 0,p=>qax 21 [0] rfl _
 | n+1,p=>by
  have ih:=q3w g lf x1 x2 x3 n;refine(qau (qaq 20 _) qft qfq 21 [n+1] [n] rfl _).trans ((zbh g (Az20 g lf) lf x1 x2 x3 n p).trans ?_);rw[(show (fun q=>Az20 g lf 24 [n,lf] (qct x1 x2 x3 q))=(fun q=>qlv lf x1 x2 x3 (fun q=>Az20 g lf 21 [n] (qb8 x1 x2 x3 q)) lf q) from funext fun q=>q08 g lf x1 x2 x3 n lf q),(show (fun q=>Az20 g lf 21 [n] (qb8 x1 x2 x3 q))=(fun q=>qkh lf x1 x2 x3 n q) from funext ih)];rfl
def qo2(lf:Nat)(x1:(List qab))(x2:(List qab))(x3:(List qaa)):Nat->(Int)->Option qal:=qas fun K p=>qmv lf x1 x2 x3 (fun q=>qli lf x1 x2 x3 K lf q) (fun q=>qkh lf x1 x2 x3 lf q) p
theorem q0b(g:gz20)(lf:Nat)(x1:(List qab))(x2:(List qab))(x3:(List qaa)):∀(n:Nat) (p:Int),Az20 g lf 7 [n] (qd5 x1 x2 x3 p)=qo2 lf x1 x2 x3 n p
 | 0,p=>qax 7 [0] rfl _
 | n+1,p=>by
  have ih:=q0b g lf x1 x2 x3 n;refine(qau (qaq 20 _) qft qfq 7 [n+1] [n] rfl _).trans ((znr g (Az20 g lf) lf x1 x2 x3 n p).trans ?_);rw[(show (fun q=>Az20 g lf 10 [n,lf] (qha x1 x2 x3 q))=(fun q=>qli lf x1 x2 x3 (fun q=>Az20 g lf 7 [n] (qd5 x1 x2 x3 q)) lf q) from funext fun q=>q1d g lf x1 x2 x3 n lf q),(show (fun q=>Az20 g lf 21 [lf] (qb8 x1 x2 x3 q))=(fun q=>qkh lf x1 x2 x3 lf q) from funext fun q=>q3w g lf x1 x2 x3 lf q),(show (fun q=>Az20 g lf 7 [n] (qd5 x1 x2 x3 q))=(fun q=>qo2 lf x1 x2 x3 n q) from funext ih)];rfl
def Fz20(lf:Nat)(x1:(List qab))(x2:(List qab))(x3:(List qaa)):Option qal:=qvg lf x1 x2 x3 (fun q=>qo2 lf x1 x2 x3 lf q)
theorem znf(g:gz20)(lf:Nat)(x1:(List qab))(x2:(List qab))(x3:(List qaa)):Ez20 g (Az20 g lf) lf x1 x2 x3=Fz20 lf x1 x2 x3:=by
  refine(zo3 g (Az20 g lf) lf x1 x2 x3).trans ?_;rw[(show (fun q=>Az20 g lf 7 [lf] (qd5 x1 x2 x3 q))=(fun q=>qo2 lf x1 x2 x3 lf q) from funext fun q=>q0b g lf x1 x2 x3 lf q)];rfl
theorem zm1:qbb Tryz.prog qxc:=trivial
theorem zbt{g:gz20}(hsm:SmOK Tryz.prog q61)(hg:∀(x:ElA [(.list cForm),(.list cForm),(.list cRule)]) (y:qal),WfA [(.list cForm),(.list cForm),(.list cRule)] x->g x=some y->∃lf,Fz20 lf x.1 x.2.1 x.2.2.1=some y):Con Tryz.prog 20 ⟨[(.list cForm),(.list cForm),(.list cRule)],[(false,qpk)],g⟩ :=
 conV (st:=qi7) (fun lf x=>Fz20 lf x.1 x.2.1 x.2.2.1) cm3 zaw zm1 qft qfq (fun lf x=>znf g lf x.1 x.2.1 x.2.2.1) hsm hg
end Go.Proofs.YtcnhjofpmpipfaaGreat
end
