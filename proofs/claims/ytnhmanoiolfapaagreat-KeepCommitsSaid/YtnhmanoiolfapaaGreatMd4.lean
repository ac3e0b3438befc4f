/- Texts: Jcc, Jcd, Jce, Jcf, Kss, Kst, Ksu, Ksv, Ksl, Ksm, Jhx, Kl3, Kl1, Kg5, Jcg, Jch, Jci, Jcj, Jck, Jcp, Jcm, Kg4, Kg2, Kg1, Kg0, Jcl, Kp0, Kp1, Kw1, Kw2, Kw3, Kp2. -/
import Derived.Test.YtnhmanoiolfapaaGreatMd3
set_option linter.unusedVariables false
section
namespace Go.Jx
open Go Go.Sx Go.RowKit
universe u

structure SmR where
 ps:List PK
 rts:List (Bool × TC)
 f:ElP ps->Option (ElR rts × ElP (refs ps))
def RetB(B:Nat)(T:TW)(E:Env)(S:IS)(r:Res):Ending->World->Prop:=fun e w'=>∃u E',e=.returned u/\E'.w=w'/\VR E' r.v u/\PostB B T E S E' r.S
def newO(s:SmR)(y:ElR s.rts)(z:ElP (refs s.ps)):List IObj:=qb8 (refs s.ps) z++resO s.rts y
def ScB(s:SmR)(y:ElR s.rts)(z:ElP (refs s.ps)):IS:=addO (qaq (refs s.ps) idN (mP s.ps) z++newO s y z) S0
def vB(s:SmR)(base:Nat)(y:ElR s.rts):IV:=tupI (resV s.rts (base+nP (refs s.ps)) y)
structure ConR (P:Program) (f:Nat) (s:SmR):Prop where
 callable:qaf P f
 calls:∀(E:Env) (x:ElP s.ps) (us:List Value) (y:ElR s.rts) (z:ElP (refs s.ps)),s.f x=some (y,z)->Pre T0 E (Sc s.ps x)->VRs E (qap s.ps idN 0 x) us ->
  CallsIn Fence.wide 0 P f us.toArray E.w (RetB (mP s.ps) T0 E (Sc s.ps x) ⟨vB s (mP s.ps) y,ScB s y z,0,0⟩)
theorem qbw:∀l:List PK,mP (refs l)=mP l
 | []=>rfl
 | .dat _::l=>qbw l
 | .fn _::l=>qbw l
 | .ref _::l=>by simp only[refs,mP,qbw l]
def qby:List Nat->Nat
 | []=>0
 | id::l=>2 ^ id ||| qby l
theorem qzb{T:Nat->Prop}:∀{l:List Nat},tin T (qby l)->∀id∈l,T id
 | [],_,id,h=>by cases h
 | i::l,ht,id,h=>by
  obtain⟨h1,h2⟩:=qan ht;rcases ja1.1 h with h|h
  ·rw[h];exact qah h1
  ·exact qzb h2 id h
theorem zd6:∀{l:List Nat} {id:Nat},id∈l->(qby l).testBit id=true
 | [],id,h=>by cases h
 | i::l,id,h=>by
  simp only[qby,jck,jed];rcases ja1.1 h with h|h
  ·rw[h];exact .inl (jdx)
  ·exact .inr (zd6 h)
def qes:List Nat->IS->IS
 | [],S=>S
 | id::l,S=>qes l (S.set id .dead)
def setL:List Nat->List IObj->IS->IS
 | id::l,o::os,S=>setL l os (S.set id o)
 | _,_,S=>S
theorem qru:∀(l:List Nat) (S:IS),(qes l S).next=S.next
 | [],S=>rfl
 | id::l,S=>qru l _
theorem qp7:∀(l:List Nat) (os:List IObj) (S:IS),(setL l os S).next=S.next
 | [],os,S=>rfl
 | _::_,[],S=>rfl
 | id::l,o::os,S=>qp7 l os _
theorem qmv:∀{l:List Nat} {S:IS} {k:Nat},k ∉ l->(qes l S).H k=S.H k
 | [],S,k,h=>rfl
 | id::l,S,k,h=>by
  simp only[ja1,not_or] at h;unfold qes;rw[qmv h.2,IS.H_set,up_ne _ _ h.1]
theorem qxx:∀{l:List Nat} {S:IS} {k:Nat},k∈l->(qes l S).H k=some .dead
 | [],S,k,h=>by cases h
 | id::l,S,k,h=>by
  unfold qes;by_cases hk:k∈l
  ·exact qxx hk
  ·rw[qmv hk,IS.H_set];rcases ja1.1 h with h|h
   ·rw[h,qai]
   ·exact absurd h hk
theorem qhh:∀{l:List Nat} {os:List IObj} {S:IS} {k:Nat},k ∉ l->(setL l os S).H k=S.H k
 | [],os,S,k,h=>rfl
 | _::_,[],S,k,h=>rfl
 | id::l,o::os,S,k,h=>by
  simp only[ja1,not_or] at h;unfold setL;rw[qhh h.2,IS.H_set,up_ne _ _ h.1]
theorem qyz:∀{l:List Nat} {os:List IObj} {S:IS} {j k:Nat},l.Nodup->os.length=l.length->l[j]?=some k->(setL l os S).H k=os[j]?
 | [],os,S,j,k,hn,hl,h=>by simp at h
 | _::_,[],S,j,k,hn,hl,h=>by simp at hl
 | id::l,o::os,S,j,k,hn,hl,h=>by
  obtain⟨h1,h2⟩:=jcr.1 hn;unfold setL;cases j with
  | zero =>
   simp only[jaq,jbg] at h;subst h;rw[qhh h1,IS.H_set,qai];rfl
  | succ j =>
   rw[ja2] at h ⊢;exact qyz h2 (by simpa using hl) h
def qb0(s:SmR)(n:Nat)(rows subs:List Nat)(y:ElR s.rts)(z:ElP (refs s.ps))(S:IS):IS :=
 addO (newO s y z) (setL rows (qaq (refs s.ps) (fun k=>n+(k-mP s.ps)) (mP s.ps) z) (qes subs S))
def exR(s:SmR)(vs:List IV)(S:IS):Option Res :=
 match rdP s.ps S vs with
 | none=>none
 | some (x0,rows,subs,S1,w)=>cond (ndB (rows++subs)) (match fiP s.ps rows subs S1 x0 with
  | none=>none
  | some x=>match s.f x with
   | none=>none
   | some (y,z)=>some ⟨vB s S1.next y,qb0 s S1.next rows subs y z S1,0,(w ||| qby (rows++subs)) ||| cond (Nat.blt 0 rows.length) 0 (2 ^ S1.next)⟩) none
theorem qvl:∀(l:List PK) (x:ElP l) (o:IObj),o∈qb8 l x->datO o=true:=by
 have hr:∀(r:List CT) (x:qcg r) (o:IObj),o∈subR r x->datO o=true:=by
  intro r;induction r with
  | nil=>intro x o h;cases h
  | cons c cs ih =>
   intro x o h;rcases jbv.1 h with h|h
   ·cases c with
    | dat c=>cases h
    | arr c=>rw[jcj.1 h];rfl
    | map k v=>rw[jcj.1 h];rfl
    | fn f=>cases h
   ·exact ih x.2 o h
 intro l;induction l with
 | nil=>intro x o h;cases h
 | cons p l ih =>
  intro x o h;cases p with
  | dat c=>exact ih x.2 o h
  | fn f=>exact ih x o h
  | ref r =>
   rcases jbv.1 h with h|h
   ·cases r with
    | box r=>exact hr r x.1 o h
    | sl c=>cases h
    | mp k v=>cases h
   ·exact ih x.2 o h
theorem qz1{s:SmR}{y:ElR s.rts}{z:ElP (refs s.ps)}{o:IObj}(h:o∈newO s y z):datO o=true:=by
 rcases jbv.1 h with h|h
 ·exact qvl _ _ o h
 ·obtain⟨c,l,rfl⟩:=qmj _ _ _ h;rfl
theorem qxf{E E':Env}(hm:∀b,b∈E'.m->b∈E.m)(hw:E'.w=E.w):∀(cs:List (Bool × TC)) {k k':Nat} {y:ElR cs} {us:List Value},(∀j,qci E E' (k+j) (k'+j))->VRs E (resV cs k y) us->VRs E' (resV cs k' y) us
 | [],k,k',y,us,hn,h=>by have:=h.1;cases us with|nil=>exact VRs.nil|cons _ _=>simp [resV] at this
 | (true,c)::cs,k,k',y,us,hn,h=>by
  obtain⟨u,us,rfl,a1,a2⟩:=VRs.inv (v:=.arr k) (cs:=resV cs (k+1) y.2) h;refine VRs.cons ?_ (qxf hm hw cs (fun j=>?_) a2)
  ·cases a1 with
   | arr hA hh =>
    obtain⟨b1,b2,b3,b4,b5⟩:=hn 0 hA;exact .arr b1 (b4.trans hh)
  ·have:=hn (j+1)
   rwa [show k+(j+1)=k+1+j by omega,show k'+(j+1)=k'+1+j by omega] at this
 | (false,c)::cs,k,k',y,us,hn,h=>by
  obtain⟨u,us,rfl,a1,a2⟩:=VRs.inv (v:=asIV c y.1) (cs:=resV cs k y.2) h;exact VRs.cons (qf6 hm hw a1) (qxf hm hw cs hn a2)
theorem qlb:∀(cs:List (Bool × TC)) (i:Nat) (y:ElR cs),(resV cs i y).length=cs.length
 | [],_,_=>rfl
 | (true,_)::cs,i,y=>by simp only[resV,jar,qlb cs]
 | (false,_)::cs,i,y=>by simp only[resV,jar,qlb cs]
theorem zod{E E':Env}{vs ws:List IV}{u:Value}(h:∀us,VRs E vs us->VRs E' ws us)(hl:vs.length=ws.length)(hu:VR E (tupI vs) u):VR E' (tupI ws) u:=by
 match vs,ws,hl with
 | [],[],_ =>
  cases hu with
  | tup hl hh=>have:=h _ ⟨hl,hh⟩;exact .tup this.1 this.2
 | [v],[w],_ =>
  have:=h [u] (VRs.cons hu VRs.nil);exact this.2 0 (by simp) (by simp)
 | v1::v2::vs,w1::w2::ws,_ =>
  cases hu with
  | tup hl hh=>have:=h _ ⟨hl,hh⟩;exact .tup this.1 this.2
section
variable {P : Program} {T : TW} {E : Env} {S : IS}
theorem zv1{f:Nat}{s:SmR}(hc:ConR P f s){vs:List IV}{r:Res}(h:exR s vs S=some r){us:List Value}(p:Pre T E S)(hwr:tin T.w r.wr)(hv:VRs E vs us) :
  qaf P f/\CallsIn Fence.wide 0 P f us.toArray E.w (RetE T E S r):=by
 refine⟨hc.callable,?_⟩;unfold exR at h;split at h
 ·cases h
 rename_i x0 rows subs S1 w hrd;cases hb1:ndB (rows++subs) with
 | false=>rw[hb1] at h;cases h
 | true =>
 rw[hb1,jaa] at h;split at h
 ·cases h
 rename_i x hfi;split at h
 ·cases h
 rename_i y z hf;cases h;obtain⟨g1,g2⟩:=qan (qan hwr).1;obtain⟨E1,e1,q1,f1,l1,l2,A2,b2,b3⟩:=qe9 s.ps hrd p g1 hv;have p1:=q1.pre p;obtain⟨_,c2,c3⟩:=qex s.ps hfi l2;have hnd:=qkj hb1;have hT:=qzb g2;generalize hq:rows++subs=q at hnd hT;have hql:q.length=mP s.ps+nP s.ps:=by rw[<- hq,jah,l1,l2]
 have hnq:Nums (ol 0 q) 0 q:=fun j id hj=>by
  rw[jbp];unfold ol;rw[jan (by omega),jdi,jai,hj];rfl
 have hnr:Nums (ol 0 q) 0 rows:=by rw[<- hq] at hnq ⊢;exact hnq.fst
 have hns:Nums (ol 0 q) (mP s.ps) subs:=by
  have:=hnq;rw[<- hq] at this;have:=this.snd
  rwa [jbp,l1,hq] at this
 have hTr:∀id∈rows,T.r id:=fun id hid=>T.sub _ (hT id (by rw[<- hq];exact jb5 _ hid));have hrows:=qyi hfi l2 p1 hTr (b3 _ _ hns);have hrk:∀k,k<mP s.ps->rows[k]?=some (ol 0 q k):=fun k hk=>by
  have h1:k<rows.length:=by omega
  rw[jac h1,<- hnr k _ (jac h1),jbp]
 have hsk:∀k,mP s.ps<=k->k<q.length->subs[k-mP s.ps]?=some (ol 0 q k):=fun k h1 h2=>by
  have h3:k-mP s.ps<subs.length:=by omega
  rw[jac h3,<- hns _ _ (jac h3),Nat.add_sub_cancel' h1]
 have hrowA:∀k,k<mP s.ps->∃r nj xj,(∀ι,(qaq s.ps ι (mP s.ps) x)[k]?=some (objK r ι nj xj))/\mP s.ps<=nj/\nj+nK r<=q.length/\E1.A (ol 0 q k)/\((objK r (ol 0 q) nj xj).blk=true->E1.hb (ol 0 q k)=true)/\OR E1 (ol 0 q k) (objK r (ol 0 q) nj xj)/\((objK r (ol 0 q) nj xj).live=true->∃o0,S1.H (ol 0 q k)=some o0/\o0.live=true):=fun k hk=>by
  have h1:k<(qaq s.ps (ol 0 q) (mP s.ps) x).length:=by rw[qa9];exact hk
  obtain⟨r,nj,xj,d1,d2,d3,d4⟩:=qff s.ps (ol 0 q) (mP s.ps) x k _ (jac h1);obtain⟨id,i1,i2,i3,i4,i5⟩:=hrows k _ (d4 (ol 0 q));rw[hrk k hk] at i1;cases i1;exact⟨r,nj,xj,d4,d2,by omega,i2,i3,i4,i5⟩
 have hA:∀id∈q,E1.A id:=fun id hid=>by
  rw[<- hq] at hid;rcases jbv.1 hid with hid|hid
  ·obtain⟨k,hk,rfl⟩:=jcx.1 hid;obtain⟨_,_,_,_,_,_,i2,_,_⟩:=hrowA k (by omega);have:=hrk k (by omega);rw[jac hk,jbg] at this;rw[this];exact i2
  ·exact A2 id hid
 have hnum:∀k,k<q.length->qci E1 (renE 0 q E1) (ol 0 q k) k:=fun k hk hA=>⟨⟨by omega,hA⟩,rfl,rfl,rfl,rfl⟩;have hobj:∀k o,k<q.length->E1.A (ol 0 q k)->(Sc s.ps x).H k=some o->ObjTo E1 S1 (renE 0 q E1) (ol 0 q k) k o:=fun k o hk hAk ho=>by
  unfold Sc at ho;rw[qhf] at ho;by_cases hkm:k<mP s.ps
  ·rw[jay (by rw[qa9];exact hkm)] at ho;obtain⟨r,nj,xj,d1,d2,d3,d4,d5,d6,d7⟩:=hrowA k hkm;rw[d1 idN] at ho;cases ho;exact⟨OR.objK_to (E:=E1) (E':=renE 0 q E1) (fun _ h=>h) rfl hAk (hnum k hk) (fun j a b=>hnum j (by omega)) d6,fun hl=>d7 (qss.trans hl),fun hb=>d5 (qkh.trans hb)⟩
  ·rw[ja6 (by rw[qa9];omega),qa9] at ho;have hd:=qvl _ _ _ (jb0 ho);rw[c3,hsk k (by omega) hk] at ho;have hid:=(qb4 hk).1;exact⟨OR.dat_to (E:=E1) (E':=renE 0 q E1) (fun _ h=>h) rfl hAk (hnum k hk) hd (p1.st.objs _ (T.sub _ (hT _ hid)) hAk _ ho),fun hl=>⟨_,ho,hl⟩,fun hbk=>p1.st.blk _ (T.sub _ (hT _ hid)) hAk _ ho hbk⟩
 have hpre:Pre T0 (renE 0 q E1) (Sc s.ps x):=Pre.re p1 hnd (fun id h=>T.sub _ (hT id h)) (by rw[qhj,hql]) hobj;have hargs:VRs (renE 0 q E1) (qap s.ps idN 0 x) us:=argsP_env (E:=E1) (E':=renE 0 q E1) (ρ:=ol 0 q) (fun _ h=>h) rfl s.ps (fun j a b=>hnum j (by omega)) (by rw[c2];exact b2 _ _ hnr);have hcall:=hc.calls _ x us y z hf hpre hargs;rw[show (renE 0 q E1).w=E.w from e1] at hcall;refine hcall.mono fun e w' hR=>?_;obtain⟨u,Er,rfl,rfl,k1,k2⟩:=hR;have hlt:∀id,id∈q->id<S1.next:=fun id h=>p1.bnd id (hA id h)
 have hsb:∀k,k<q.length->Live (renE 0 q E1) (Sc s.ps x).H k->Live E1 S1.H (ol 0 q k):=fun k hk ⟨h0,o,h1,h2⟩=>⟨h0,(hobj k o hk (hA _ (qb4 hk).1) h1).live h2⟩;have hbn:(setL rows (qaq (refs s.ps) (fun k=>S1.next+(k-mP s.ps)) (mP s.ps) z) (qes subs S1)).next=S1.next:=by rw[qp7,qru]
 have hndr:rows.Nodup:=by rw[<- hq] at hnd;exact(jc4.1 hnd).1
 have hrs:∀id,id∈rows->id ∉ subs:=fun id h1 h2=>by
  rw[<- hq] at hnd;exact(jc4.1 hnd).2.2 id h1 id h2 rfl
 have hScB:∀k,(ScB s y z).H k=(qaq (refs s.ps) idN (mP s.ps) z++newO s y z)[k]?:=fun k=>qhf _ k;have hEA:∀k,k<mP s.ps->Er.A k/\Er.ρ k=E1.ρ (ol 0 q k)/\Er.κ k=E1.κ (ol 0 q k)/\Er.hd k=E1.hd (ol 0 q k)/\Er.hb k=E1.hb (ol 0 q k):=fun k hk=>by
  obtain⟨a1,a2,a3,a4,a5⟩:=k2.alw k hk ⟨by omega,hA _ (qb4 (by omega)).1⟩;exact⟨a1,a2,a3,a4,a5⟩
 obtain⟨m1,m2⟩:=zd0 (n:=S1.next) (m:=mP s.ps) (S':=qb0 s S1.next rows subs y z S1) p1 hnd hT hA (by omega) rfl hsb k2 (by
   unfold qb0 ScB;rw[qcz,qcz,hbn,jah,qa9,qbw];have:S0.next=0:=rfl
   omega) (fun id hid hnq=>by
   unfold qb0;rw[qcc,hbn,jao hid,qhh (fun h=>hnq (by rw[<- hq];exact jb5 _ h)),qmv (fun h=>hnq (by rw[<- hq];exact jcf _ h))]) (fun k o hk ho=>by
   unfold qb0 at ho;have hin:=(qb4 (q:=q) (k:=k) (by omega)).1;rw[qcc,hbn,jao (hlt _ hin),qyz hndr (by rw[qa9,qbw,l1]) (hrk k hk)] at ho;obtain⟨r,nj,xj,rfl,d2,d3,d4⟩:=qff _ _ _ _ _ _ ho;have hsr:(ScB s y z).H k=some (objK r idN nj xj):=by
    rw[hScB,jay (by rw[qa9,qbw];exact hk)];exact d4 idN
   obtain⟨a1,a2,a3,a4,a5⟩:=hEA k hk;obtain⟨o1,o2,o3,o4⟩:=qd0 (E:=E1) (Er:=Er) (n:=S1.next) (m:=mP s.ps) (hlt _ hin);obtain⟨_,_,_,_,_,_,i2,_⟩:=hrowA k hk;exact⟨OR.objK_to (E:=Er) (E':=mrgR E1 Er S1.next (mP s.ps)) (fun _ h=>h) rfl a1 (fun _=>⟨.inl ⟨hlt _ hin,i2⟩,o1.trans a2.symm,o2.trans a3.symm,o3.trans a4.symm,o4.trans a5.symm⟩) (fun j a b hAj=>by
    obtain⟨r1,r2,r3,r4,r5⟩:=qi9 (E:=E1) (Er:=Er) (n:=S1.next) (m:=mP s.ps) (k:=j) (by omega);exact⟨r5 hAj,r1,r2,r3,r4⟩) (k2.st.objs k trivial a1 _ hsr),fun hl=>⟨_,hsr,qss.trans hl⟩,fun hb=>(o4.trans a5.symm).trans (k2.st.blk k trivial a1 _ hsr (qkh.trans hb))⟩) (fun k o h1 h2 ho=>by
   unfold qb0 at ho;have hin:=(qb4 (q:=q) (k:=k) h2).1;have hin2:=jb0 (hsk k h1 h2);rw[qcc,hbn,jao (hlt _ hin),qhh (fun h=>hrs _ h hin2),qxx hin2] at ho;cases ho;rfl) (fun k o h1 hAk ho=>by
   unfold qb0 at ho;have hkb:=k2.bnd k hAk;unfold ScB at hkb;rw[qcz,jah,qa9,qbw] at hkb;have e0:S0.next=0:=rfl
   rw[qcc,hbn,jan (by omega),jao (by omega),ja5] at ho;have hd:=qz1 (jb0 ho);have hsr:(ScB s y z).H k=some o:=by
    rw[hScB,ja6 (by rw[qa9,qbw];exact h1),qa9,qbw];exact ho
   obtain⟨r1,r2,r3,r4,r5⟩:=qi9 (E:=E1) (Er:=Er) (n:=S1.next) (m:=mP s.ps) (k:=k) h1;exact⟨OR.dat_to (E:=Er) (E':=mrgR E1 Er S1.next (mP s.ps)) (fun _ h=>h) rfl hAk (fun hA=>⟨r5 hA,r1,r2,r3,r4⟩) hd (k2.st.objs k trivial hAk _ hsr),fun hl=>⟨_,hsr,hl⟩,fun hbk=>r4.trans (k2.st.blk k trivial hAk _ hsr hbk)⟩)
 refine⟨u,mrgR E1 Er S1.next (mP s.ps),rfl,rfl,?_,Post.trans p q1 f1 m1,f1.trans m2 q1.le⟩;refine zod (E:=Er) (E':=mrgR E1 Er S1.next (mP s.ps)) (fun us h=>qxf (E:=Er) (E':=mrgR E1 Er S1.next (mP s.ps)) (fun _ h=>h) rfl s.rts (fun j hAj=>?_) h) (by rw[qlb,qlb]) k1;obtain⟨r1,r2,r3,r4,r5⟩:=qi9 (E:=E1) (Er:=Er) (n:=S1.next) (m:=mP s.ps) (k:=mP s.ps+nP (refs s.ps)+j) (by omega);have e:S1.next+(mP s.ps+nP (refs s.ps)+j-mP s.ps)=S1.next+nP (refs s.ps)+j:=by omega
 rw[e] at r1 r2 r3 r4 r5;exact⟨r5 hAj,r1,r2,r3,r4⟩
end
end Go.Jx
end

section
namespace Go.Jx
open Go Go.Sx Go.RowKit
universe u

def exRK{R:Type}(s:SmR)(vs:List IV)(S:IS)(kk:Res->Option R):Option R :=
 match rdP s.ps S vs with
 | none=>none
 | some (x0,rows,subs,S1,w)=>cond (ndB (rows++subs)) (match fiP s.ps rows subs S1 x0 with
  | none=>none
  | some x=>match s.f x with
   | none=>none
   | some (y,z)=>kk ⟨vB s S1.next y,qb0 s S1.next rows subs y z S1,0,(w ||| qby (rows++subs)) ||| cond (Nat.blt 0 rows.length) 0 (2 ^ S1.next)⟩) none
theorem zxo{R:Type}(s:SmR)(vs:List IV)(S:IS)(kk:Res->Option R):exRK s vs S kk=ob (exR s vs S) kk:=by
 simp only[exRK,exR];cases rdP s.ps S vs with
 | none=>rfl
 | some q =>
  obtain⟨x0,rows,subs,S1,w⟩:=q;simp only[qbm];cases fiP s.ps rows subs S1 x0 with
  | none=>rfl
  | some x =>
   simp only;cases s.f x with
   | none=>rfl
   | some q=>rfl
def hxR(s:SmR):Hx:=⟨fun _ vs S=>exR s vs S,fun _ _ vs S kk=>exRK s vs S kk,fun _ _ _ _ vs S kk=>zxo s vs S kk⟩
theorem z0q{S S':IS}:∀(c:CT) {cs:List IV} {x:ElC c} {ids:List Nat} {r:List IV} {w:Nat},rdC c S cs=some (x,ids,r,S',w)->FrX S S' w
 | .dat c,cs,x,ids,r,w,h=>by
  simp only[rdC] at h;split at h<;>cases h;rename_i h1;obtain⟨a1,a2⟩:=qew c _ _ _ _ _ _ h1;exact⟨jdq a1.symm,fun id _ hb=>a2 id hb⟩
 | .arr c,cs,x,ids,r,w,h=>by
  cases cs with
  | nil=>cases h
  | cons v cs =>
  simp only[rdC] at h;split at h<;>cases h;rename_i h1;exact qsc h1
 | .map k v,cs,x,ids,r,w,h=>by
  cases cs with
  | nil=>cases h
  | cons u cs =>
  cases u<;>try (cases h;done)
  simp only[rdC] at h;split at h<;>cases h;rename_i h1;exact qpf h1
 | .fn f,cs,x,ids,r,w,h=>by
  simp only[rdC] at h;split at h<;>try cases h
  rename_i g cs;cases hb:Nat.beq g f with
  | false=>rw[hb] at h;cases h
  | true =>
  rw[hb] at h;cases h;exact FrX.refl _ _
theorem q5c:∀(c:List CT) {S S':IS} {cs:List IV} {x:qcg c} {ids:List Nat} {r:List IV} {w:Nat},rdR c S cs=some (x,ids,r,S',w)->FrX S S' w
 | [],S,S',cs,x,ids,r,w,h=>by cases h;exact FrX.refl _ _
 | c::l,S,S',cs,x,ids,r,w,h=>by
  simp only[rdR] at h;split at h
  ·cases h
  rename_i h1;split at h<;>cases h;rename_i h2;exact(z0q c h1).trans (q5c l h2)
theorem zpx{S S':IS}{c:TC}{v:IV}{id w:Nat}(h:rdS c S v=some (id,S',w)):FrX S S' w:=by
 unfold rdS at h;split at h
 ·cases h;exact FrX.refl _ _
 ·split at h<;>cases h;rename_i h1;exact qsc h1
theorem zfi{kc vc:TC}{S S':IS}{v:IV}{id w:Nat}(h:rdM kc vc S v=some (id,S',w)):FrX S S' w:=by
 unfold rdM at h;split at h<;>try cases h
 split at h<;>cases h;rename_i h1;exact qpf h1
theorem qe2:∀(l:List PK) {S S':IS} {vs:List IV} {x:ElP l} {q1 q2:List Nat} {w:Nat},rdP l S vs=some (x,q1,q2,S',w)->FrX S S' w
 | [],S,S',vs,x,q1,q2,w,h=>by
  cases vs with
  | cons v vs=>cases h
  | nil=>cases h;exact FrX.refl _ _
 | .dat c::l,S,S',vs,x,q1,q2,w,h=>by
  cases vs with
  | nil=>cases h
  | cons v vs =>
  simp only[rdP] at h;cases hb:fitV c v with
  | false=>rw[hb] at h;cases h
  | true =>
  rw[hb,jaa] at h;split at h<;>try cases h
  rename_i h1;split at h<;>cases h;rename_i h2;obtain⟨a1,a2⟩:=qew c _ _ _ _ _ _ h1;exact FrX.trans ⟨jdq a1.symm,fun id _ hb=>a2 id hb⟩ (qe2 l h2)
 | .fn f::l,S,S',vs,x,q1,q2,w,h=>by
  simp only[rdP] at h;split at h<;>try cases h
  rename_i g vs;cases hb:Nat.beq g f with
  | false=>rw[hb] at h;cases h
  | true =>
  rw[hb] at h;have h:rdP l S vs=some (x,q1,q2,S',w):=h;exact qe2 l h
 | .ref (.sl c)::l,S,S',vs,x,q1,q2,w,h=>by
  cases vs with
  | nil=>cases h
  | cons v vs =>
  simp only[rdP] at h;split at h<;>try cases h
  rename_i h1;split at h<;>cases h;rename_i h2;exact(zpx h1).trans (qe2 l h2)
 | .ref (.mp kc vc)::l,S,S',vs,x,q1,q2,w,h=>by
  cases vs with
  | nil=>cases h
  | cons v vs =>
  simp only[rdP] at h;split at h<;>try cases h
  rename_i h1;split at h<;>cases h;rename_i h2;exact(zfi h1).trans (qe2 l h2)
 | .ref (.box r)::l,S,S',vs,x,q1,q2,w,h=>by
  cases vs with
  | nil=>cases h
  | cons v vs =>
  cases v<;>try (cases h;done)
  rename_i id off;cases off with
  | succ _=>cases h
  | zero =>
  simp only[rdP] at h;split at h<;>try cases h
  split at h<;>try cases h
  rename_i h1;split at h<;>cases h;rename_i h2;have:=(FrX.refl S (2 ^ id)).trans ((q5c r h1).trans (qe2 l h2));exact this
theorem qva:∀(l:List Nat) (S:IS),FrX S (qes l S) (qby l)
 | [],S=>FrX.refl _ _
 | id::l,S=>(FrX.set S id .dead).trans (qva l _)
theorem qvn:∀(l:List Nat) (os:List IObj) (S:IS),FrX S (setL l os S) (qby l)
 | [],os,S=>FrX.refl _ _
 | _::_,[],S=>FrX.refl _ _
 | id::l,o::os,S=>(FrX.set S id o).trans (qvn l os _)
theorem qv6:∀(a b:List Nat),qby (a++b)=qby a ||| qby b
 | [],b=>by simp[qby]
 | x::a,b=>by simp only[jc9,qby,qv6 a,Nat.or_assoc]
theorem zvz{s:SmR}{vs:List IV}{S:IS}:FrO S (exR s vs S):=fun r h=>by
 unfold exR at h;split at h
 ·cases h
 rename_i x0 rows subs S1 w hrd;cases hb:ndB (rows++subs) with
 | false=>rw[hb] at h;cases h
 | true =>
 rw[hb,jaa] at h;split at h
 ·cases h
 split at h
 ·cases h
 rename_i y z hf;cases h;have h1:=qe2 _ hrd;have h2:=(qva subs S1).trans ((qvn rows (qaq (refs s.ps) (fun k=>S1.next+(k-mP s.ps)) (mP s.ps) z) _).trans (qts (newO s y z) _ 0));have h3:=h1.trans h2;rw[jfo,Nat.or_comm (qby subs),<- qv6] at h3;have h4:=h3.trans (FrX.refl _ (cond (Nat.blt 0 rows.length) 0 (2 ^ S1.next)));exact h4
theorem zva{s:SmR}{vs:List IV}{S:IS}{r:Res}(h:exR s vs S=some r)(hw:r.wr=0):False:=by
 unfold exR at h;split at h
 ·cases h
 rename_i x0 rows subs S1 w hrd;cases hb:ndB (rows++subs) with
 | false=>rw[hb] at h;cases h
 | true =>
 rw[hb,jaa] at h;split at h
 ·cases h
 split at h
 ·cases h
 cases h;have h2:qby (rows++subs)=0:=(or_zero (or_zero hw).1).2;cases rows with
 | nil =>
  have h3:2 ^ S1.next=0:=(or_zero hw).2
  have:=jfg (n:=S1.next);omega
 | cons id rows =>
  have:=zd6 (l:=id::rows++subs) (id:=id) (by simp);rw[h2] at this;simp at this
theorem qf3{P:Program}{f:Nat}{s:SmR}(hc:ConR P f s):HxOK P f (hxR s).f :=
 ⟨fun cl _ _ _ vs S r h T E us p _ hw hv=>zv1 hc h p hw hv,fun cl _ vs S=>zvz,fun cl _ vs S r h hw _=>(zva h hw).elim⟩

def ptrP:List PK->Nat->List IV
 | [],_=>[]
 | .dat _::l,k=>ptrP l k
 | .fn _::l,k=>ptrP l k
 | .ref r::l,k=>argK r k::ptrP l (k+1)
theorem qn6:∀(l:List PK) (k:Nat) (z:ElP (refs l)),qap (refs l) idN k z=ptrP l k
 | [],_,_=>rfl
 | .dat _::l,k,z=>qn6 l k z
 | .fn _::l,k,z=>qn6 l k z
 | .ref r::l,k,z=>by
  show argK r (idN k)::qap (refs l) idN (k+1) z.2=_;rw[qn6 l];rfl
theorem qpq{E E':Env}:∀(l:List PK) {k:Nat} {us:List Value},(∀j,j<mP l->qci E E' (k+j) (k+j))->VRs E (ptrP l k) us->VRs E' (ptrP l k) us
 | [],k,us,hn,h=>by have:=h.1;cases us with|nil=>exact VRs.nil|cons _ _=>simp [ptrP] at this
 | .dat _::l,k,us,hn,h=>qpq l hn h
 | .fn _::l,k,us,hn,h=>qpq l hn h
 | .ref r::l,k,us,hn,h=>by
  obtain⟨u,us,rfl,a1,a2⟩:=VRs.inv (v:=argK r k) (cs:=ptrP l (k+1)) h;refine VRs.cons (zdn (hn 0 (by simp only[mP];omega)) a1) (qpq l (fun j hj=>?_) a2);have:=hn (j+1) (by simp only[mP];omega)
  rwa [show k+(j+1)=k+1+j by omega] at this
theorem qg0:∀(l:List PK) {k:Nat} {S S':IS} {x:ElP (refs l)} {q1 q2:List Nat} {w:Nat},rdP (refs l) S (ptrP l k)=some (x,q1,q2,S',w)->∀j,j<mP l->q1[j]?=some (k+j)
 | [],k,S,S',x,q1,q2,w,h,j,hj=>by simp[mP] at hj
 | .dat _::l,k,S,S',x,q1,q2,w,h,j,hj=>qg0 l h j hj
 | .fn _::l,k,S,S',x,q1,q2,w,h,j,hj=>qg0 l h j hj
 | .ref (.sl c)::l,k,S,S',x,q1,q2,w,h,j,hj=>by
  simp only[refs,ptrP,argK,rdP,rdS] at h;split at h<;>cases h;rename_i h2;cases j with
  | zero=>rfl
  | succ j =>
   have:=qg0 l h2 j (by simp only[mP] at hj;omega);rw[ja2,this];congr 1;omega
 | .ref (.mp kc vc)::l,k,S,S',x,q1,q2,w,h,j,hj=>by
  simp only[refs,ptrP,argK,rdP,rdM] at h;split at h<;>try cases h
  rename_i h1;split at h1<;>cases h1;split at h<;>cases h;rename_i h2;cases j with
  | zero=>rfl
  | succ j =>
   have:=qg0 l h2 j (by simp only[mP] at hj;omega);rw[ja2,this];congr 1;omega
 | .ref (.box r)::l,k,S,S',x,q1,q2,w,h,j,hj=>by
  simp only[refs,ptrP,argK,rdP] at h;split at h<;>try cases h
  split at h<;>try cases h
  split at h<;>cases h;rename_i h2;cases j with
  | zero=>rfl
  | succ j =>
   have:=qg0 l h2 j (by simp only[mP] at hj;omega);rw[ja2,this];congr 1;omega
def lowN:Nat->Nat->List Nat
 | 0,_=>[]
 | m+1,k=>k::lowN m (k+1)
theorem q25:∀(m k:Nat),(lowN m k).length=m
 | 0,_=>rfl
 | m+1,k=>jav (·+1) (q25 m (k+1))
theorem zc8:∀(m k j:Nat),j<m->(lowN m k)[j]?=some (k+j)
 | 0,k,j,h=>absurd h (Nat.not_lt_zero j)
 | m+1,k,0,h=>rfl
 | m+1,k,j+1,h=>by
  have:=zc8 m (k+1) j (by omega);unfold lowN;rw[ja2,this];congr 1;omega
def runQ(s:SmR)(r:Res):Option (ElR s.rts × ElP (refs s.ps)) :=
 match qmm s.rts.length r.v with
 | none=>none
 | some vs=>match clR s.rts r.S vs with
  | none=>none
  | some (a,S2,_)=>match rdP (refs s.ps) S2 (ptrP s.ps 0) with
   | none=>none
   | some (b,_,subs,S3,_)=>cond (ndB (subs++idsQ s.rts a)&&(subs++idsQ s.rts a).all (Nat.ble (mP s.ps))) (match qdd s.rts a S3 with
    | none=>none
    | some y=>match fiP (refs s.ps) (lowN (mP s.ps) 0) subs S3 b with
     | none=>none
     | some z=>some (y,z)) none
theorem qzu{E E':Env}(hm:∀b,b∈E'.m->b∈E.m)(hw:E'.w=E.w):∀(cs:List (Bool × TC)) {a:ElQ cs} {S:IS} {y:ElR cs} {k:Nat} {us:List Value},qdd cs a S=some y->(∀(j id:Nat),(idsQ cs a)[j]?=some id->qci E E' id (k+j))->VRs E (valQ cs a) us->VRs E' (resV cs k y) us
 | [],a,S,y,k,us,h,hn,hv=>by have:=hv.1;cases us with|nil=>exact VRs.nil|cons _ _=>simp [valQ] at this
 | (true,c)::cs,a,S,y,k,us,h,hn,hv=>by
  obtain⟨u,us,rfl,a1,a2⟩:=VRs.inv (v:=.arr a.1) (cs:=valQ cs a.2) hv;simp only[qdd] at h;split at h<;>try cases h
  split at h<;>try cases h
  split at h<;>cases h;rename_i y' hy;refine VRs.cons ?_ (qzu hm hw cs hy (fun j id hj=>?_) a2)
  ·cases a1 with
   | arr hA hh =>
    obtain⟨b1,b2,b3,b4,b5⟩:=hn 0 a.1 rfl hA;exact .arr b1 (b4.trans hh)
  ·have:=hn (j+1) id (by simp only[idsQ,ja2];exact hj)
   rwa [show k+(j+1)=k+1+j by omega] at this
 | (false,c)::cs,a,S,y,k,us,h,hn,hv=>by
  obtain⟨u,us,rfl,a1,a2⟩:=VRs.inv (v:=asIV c a.1) (cs:=valQ cs a.2) hv;simp only[qdd] at h;split at h<;>cases h;rename_i y' hy;exact VRs.cons (qf6 hm hw a1) (qzu hm hw cs hy hn a2)
theorem zoo{n:Nat}{v:IV}{vs:List IV}{E:Env}{u:Value}(h:qmm n v=some vs)(hv:VR E v u):∃us:List Value,VRs E vs us/\∀(E':Env) (ws:List IV),ws.length=n->VRs E' ws us->VR E' (tupI ws) u:=by
 unfold qmm at h;cases hone:Nat.beq n 1 with
 | true =>
  rw[hone,jaa] at h;cases h;have hlen:=jak hone;exact⟨[u],VRs.cons hv VRs.nil,fun E' ws hl hw=>by
   rw[hlen] at hl;match ws,hl with
   | [a],_=>exact hw.2 0 (by simp) (by simp)⟩
 | false =>
  rw[hone,jad] at h;split at h<;>try cases h
  rename_i ws0;cases hb:Nat.beq ws0.length n with
  | false=>rw[hb] at h;cases h
  | true =>
  rw[hb,jaa] at h;cases h;cases hv with
  | tup hl hh =>
  refine⟨_,⟨hl,hh⟩,fun E' ws hl' hw=>?_⟩;match ws,hl' with
  | [],_=>exact .tup hw.1 hw.2
  | [a],hl'=>rw[<- hl'] at hone;cases hone
  | a::b::ws,_=>exact .tup hw.1 hw.2
theorem zcc{s:SmR}{r:Res}{x:ElP s.ps}{y:ElR s.rts}{z:ElP (refs s.ps)}{E E1:Env}{us:List Value}{u:Value}(h:runQ s r=some (y,z))(p0:Pre T0 E (Sc s.ps x))(hargs:VRs E (qap s.ps idN 0 x) us)
   (hpb:PostB (mP s.ps) T0 E (Sc s.ps x) E1 r.S) (hv:VR E1 r.v u):∃E',E'.w=E1.w/\VR E' (vB s (mP s.ps) y) u/\PostB (mP s.ps) T0 E (Sc s.ps x) E' (ScB s y z):=by
 have hT:∀id,mP s.ps<=id->T0.w id:=fun _ _=>trivial;have p1:=hpb.pre hT p0;unfold runQ at h;split at h
 · cases h
 rename_i vs hvs;split at h
 · cases h
 rename_i a S2 w2 ha;split at h
 · cases h
 rename_i b rows subs S3 w3 hb;cases hc:(ndB (subs++idsQ s.rts a)&&(subs++idsQ s.rts a).all (Nat.ble (mP s.ps))) with
 | false=>rw[hc] at h;cases h
 | true =>
 rw[hc,jaa] at h;simp only[jae] at hc;obtain⟨hc1,hc2⟩:=hc;split at h
 · cases h
 rename_i y' hy;split at h<;>cases h;rename_i hz;obtain⟨us1,hus,hfin⟩:=zoo hvs hv;obtain⟨E2,e2,q2,f2,hv2⟩:=qpl s.rts ha p1 (fun _ _=>trivial) hus;have p2:=q2.pre p1
 -- the pointers
 have hA0:∀k,k<mP s.ps->E.A k:=by
   have key:∀(l:List PK) (k:Nat) (x:ElP l) (us:List Value),VRs E (qap l idN k x) us->∀j,j<mP l->E.A (k+j):=by
     intro l;induction l with
     | nil=>intro k x us _ j hj;simp [mP] at hj
     | cons pk l ih =>
       intro k x us hv j hj;cases pk with
       | dat c =>
         obtain⟨u,us,rfl,a1,a2⟩:=VRs.inv (v:=asIV c x.1) (cs:=qap l idN k x.2) hv;exact ih k x.2 us a2 j hj
       | fn f =>
         obtain⟨u,us,rfl,a1,a2⟩:=VRs.inv (v:=.fn f []) (cs:=qap l idN k x) hv;exact ih k x us a2 j hj
       | ref r =>
         obtain⟨u,us,rfl,a1,a2⟩:=VRs.inv (v:=argK r (idN k)) (cs:=qap l idN (k+1) x.2) hv;cases j with
         | zero=>exact q24 a1
         | succ j =>
           have:=ih (k+1) x.2 us a2 j (by simp only[mP] at hj;omega)
           rwa [show k+(j+1)=k+1+j by omega]
   intro k hk;have:=key s.ps 0 x us hargs k hk
   rwa [jbp] at this
 have hptr:∃us',VRs E2 (ptrP s.ps 0) us':=by
   obtain⟨us',h'⟩:=qsf s.ps b hargs;rw[qn6] at h';refine⟨us',qpq s.ps (fun j hj hA=>?_) h'⟩;rw[jbp] at hA ⊢;obtain⟨a1,a2,a3,a4,a5⟩:=hpb.alw j hj hA;obtain⟨b1,b2,b3,b4,b5⟩:=(q2.env p1).alw _ a1;exact⟨b1,b2.trans a2,b3.trans a3,b4.trans a4,b5.trans a5⟩
 obtain⟨us',hptr⟩:=hptr;obtain⟨E3,e3,q3,f3,l1,l2,A3,b2,b3⟩:=qe9 (refs s.ps) hb p2 (fun _ _=>trivial) hptr;have p3:=q3.pre p2;obtain⟨_,c2,c3⟩:=qex (refs s.ps) hz l2;obtain⟨g1,g2⟩:=qoc s.rts hy;have hnd:=qkj hc1;have hqB:∀id∈subs++idsQ s.rts a,mP s.ps<=id:=fun id hi=>jam ((jbj.1 hc2) id hi);have hnew:∀j:Nat,(newO s y z)[j]?=((subs++idsQ s.rts a)[j]?).bind fun id=>S3.heap.get id:=quh (by rw[qil,l2]) c3 g2;have hlen:(newO s y z).length=(subs++idsQ s.rts a).length:=by
   unfold newO;rw[jah,jah,qil,l2,g1]
 generalize hq:subs++idsQ s.rts a=q at hnd hqB hnew hlen;have hlow:∀k,k<mP s.ps->ol (mP s.ps) q k=k:=fun k hk=>jao hk;have hhigh:∀k,mP s.ps<=k->k<mP s.ps+q.length->q[k-mP s.ps]?=some (ol (mP s.ps) q k):=fun k h1 h2=>by
   have h3:k-mP s.ps<q.length:=by omega
   unfold ol;rw[jan (by omega),jai,jac h3];rfl
 have hnum:∀k,k<mP s.ps+q.length->qci E3 (renE (mP s.ps) q E3) (ol (mP s.ps) q k) k:=fun k hk hA=>⟨⟨hk,hA⟩,rfl,rfl,rfl,rfl⟩;have hns:Nums (ol (mP s.ps) q) (mP s.ps) subs:=fun j id hj=>by
   have h1:j<subs.length:=(jbc.1 hj).1;have h2:=hhigh (mP s.ps+j) (by omega) (by rw[<- hq,jah];omega);rw[ja5,<- hq,jay h1,hj,hq] at h2;exact(jb8 h2).symm
 have hlr:rows=lowN (mP s.ps) 0:=jde fun j=>by
   by_cases hj:j<mP s.ps
   · rw[qg0 s.ps hb j hj,zc8 _ _ _ hj]
   · rw[jbx (by rw[l1,qbw];omega),jbx (by rw[q25];omega)]
 rw[<- hlr] at hz;have hrows:=qyi hz l2 p3 (fun _ _=>trivial) (b3 _ _ hns);have hScB:∀k,(ScB s y z).H k=(qaq (refs s.ps) idN (mP s.ps) z++newO s y z)[k]?:=fun k=>qhf _ k;have hsl:nP (refs s.ps)<=q.length:=by rw[<- hq,jah,l2];omega
 have hre:=PostB.re (T:=T0) (B:=mP s.ps) (q:=q) (S':=ScB s y z) p3 hT hnd hqB (by
     unfold ScB;rw[qcz,jah,qa9,qbw,hlen];have:S0.next=0:=rfl
     omega) (fun k o hk hAk ho=>by
     rw[hScB] at ho;by_cases hkm:k<mP s.ps
     · rw[jay (by rw[qa9,qbw];exact hkm)] at ho;obtain⟨r',nj,xj,rfl,d2,d3,d4⟩:=qff _ _ _ _ _ _ ho;obtain⟨id,i1,i2,i3,i4,i5⟩:=hrows k _ (d4 _);have:=qg0 s.ps hb k hkm;rw[jbp,i1] at this;cases this;have e:=hlow k hkm;rw[e];refine⟨OR.objK_to (E:=E3) (E':=renE (mP s.ps) q E3) (fun _ h=>h) rfl i2 (by have:=hnum k hk;rwa [e] at this) (fun j a b=>hnum j (by omega)) i4,fun hl=>i5 (qss.trans hl),fun hb=>?_⟩;show E3.hb (ol (mP s.ps) q k)=true;rw[e];exact i3 (qkh.trans hb)
     · rw[ja6 (by rw[qa9,qbw];omega),qa9,qbw] at ho;have hd:=qz1 (jb0 ho);rw[hnew,hhigh k (by omega) hk] at ho;exact⟨OR.dat_to (E:=E3) (E':=renE (mP s.ps) q E3) (fun _ h=>h) rfl hAk (hnum k hk) hd (p3.st.objs _ trivial hAk _ ho),fun hl=>⟨_,ho,hl⟩,fun hbk=>p3.st.blk _ trivial hAk _ ho hbk⟩)
 have hpost:=Post.trans p1 q2 f2 q3;have hfr:=f2.trans f3 q2.le;refine⟨renE (mP s.ps) q E3,e3.trans e2,?_,(hpb.trans (PostB.of hpb.le hT hpost hfr)).trans hre⟩;refine hfin _ _ (qlb _ _ _) (qzu (E:=E3) (E':=renE (mP s.ps) q E3) (fun _ h=>h) rfl s.rts hy (fun j id hj=>?_) (hv2.mono (q3.env p2)));have h1:j<(idsQ s.rts a).length:=(jbc.1 hj).1;have h2:mP s.ps+nP (refs s.ps)+j<mP s.ps+q.length:=by rw[<- hq,jah,l2];omega
 have h3:=hhigh _ (by omega) h2;rw[show mP s.ps+nP (refs s.ps)+j-mP s.ps=subs.length+j by omega,<- hq,ja6 (by omega),ja5,hj,hq] at h3;have h4:=jb8 h3;have:=hnum _ h2
 rwa [<- h4] at this
end Go.Jx
end

section
namespace Go.Jx
open Go Go.Sx Go.RowKit
universe u

def WfC:(c:CT)->ElC c->Prop
 | .dat c=>fun x=>WfE c x
 | .arr c=>fun(l:List (El c))=>l.length*bsz c<=140737488355328/\∀x∈l,WfE c x
 | .map k v=>fun(es:List (El k × El v))=>∀e∈es,WfE k e.1/\WfE v e.2
 | .fn _=>fun _=>True
def WfR:(r:List CT)->qcg r->Prop
 | [],_=>True
 | c::cs,x=>WfC c x.1/\WfR cs x.2
def WfK:(r:RK)->ElK r->Prop
 | .box r,x=>WfR r x
 | .sl c,x=>match x with
  | some l=>l.length*bsz c<=140737488355328/\∀y∈l,WfE c y
  | none=>True
 | .mp k v,x=>match x with
  | some (es:List (El k × El v))=>∀e∈es,WfE k e.1/\WfE v e.2
  | none=>True
def WfP:(l:List PK)->ElP l->Prop
 | [],_=>True
 | .dat c::l,x=>WfE c x.1/\WfP l x.2
 | .fn _::l,x=>WfP l x
 | .ref r::l,x=>WfK r x.1/\WfP l x.2
section
variable {E : Env}
theorem zhj{c:TC}{x:El c}{us:List Value}(h:VRs E (cel c x) us):WfE c x :=
 wf_cells (E:=E) c x (fun j=>us.getD j .nilFunc) fun j hj=>by
  have hj2:j<us.length:=by rw[<- h.1];exact hj
  show VR E _ (us.getD j .nilFunc);rw[jai,jac hj2];exact h.2 j hj hj2
theorem ze8{k v:TC}{id:Nat}{x:List (El k × El v)}(h:OR E id (.tmap k v x)):∀e∈x,WfE k e.1/\WfE v e.2:=by
 obtain⟨ents,cl,h1,h2,h3,_⟩:=h;intro e he;obtain⟨i,hi,rfl⟩:=jcx.1 he;have hl:(tmEs k v x).length=List.length x:=jb9 _;have hi1:i<((tmEs k v x).map (·.1)).length:=by rw[jb9,hl];exact hi
 have hi2:i<((tmEs k v x).map (·.2)).length:=by rw[jb9,hl];exact hi
 have q1:=h2.2 i hi1 (by rw[<- h2.1];exact hi1);have q2:=h3.2 i hi2 (by rw[<- h3.1];exact hi2);have e:(tmEs k v x)[i]'(by rw[hl];exact hi)=(asIV k (List.get x ⟨i,hi⟩).1,asIV v (List.get x ⟨i,hi⟩).2):=jci _;rw[jci,e] at q1;rw[jci,e] at q2;exact⟨qr8 q1,qr8 q2⟩
theorem wfC{H:Nat->Option IObj}{ι:Nat->Nat}(hH:∀id o,E.A id->H id=some o->OR E id o):∀(c:CT) {n:Nat} {x:ElC c} {us:List Value},VRs E (qde c ι n x) us->(∀j:Nat,j<nC c->H (ι (n+j))=(subC c x)[j]?)->WfC c x
 | .dat c,n,x,us,h,_=>zhj h
 | .arr c,n,x,us,h,hs=>by
  obtain⟨u,us,rfl,a1,a2⟩:=VRs.inv (v:=.arr (ι n)) (cs:=[]) h;have hA:E.A (ι n):=by cases a1;assumption
  have h0:=hs 0 (Nat.one_pos);rw[jb7] at h0;obtain⟨a,cap,h1,h2,h3,h4,h5⟩:=hH _ (.arr c x) hA h0;refine⟨h4,fun y hy=>?_⟩;obtain⟨i,hi,rfl⟩:=jcx.1 hy;rcases h5 with ⟨_,h5,_⟩|⟨_,_,cells,t,_,_,us,_,h6⟩
  ·omega
  ·exact wf_cells c _ (us i) (h6 i hi)
 | .map k v,n,x,us,h,hs=>by
  obtain⟨u,us,rfl,a1,a2⟩:=VRs.inv (v:=.map (ι n)) (cs:=[]) h;have hA:E.A (ι n):=by cases a1;assumption
  have h0:=hs 0 (Nat.one_pos);rw[jb7] at h0;exact ze8 (hH _ (.tmap k v x) hA h0)
 | .fn _,n,x,us,h,hs=>trivial
theorem z0f{c:TC}{id:Nat}{l:List (El c)}(h:OR E id (.arr c l)):l.length*bsz c<=140737488355328/\∀y∈l,WfE c y:=by
 obtain⟨a,cap,h1,h2,h3,h4,h5⟩:=h;refine⟨h4,fun y hy=>?_⟩;obtain⟨i,hi,rfl⟩:=jcx.1 hy;rcases h5 with ⟨_,h5,_⟩|⟨_,_,cells,t,_,_,us,_,h6⟩
 ·omega
 ·exact wf_cells c _ (us i) (h6 i hi)
theorem wfR{H:Nat->Option IObj}{ι:Nat->Nat}(hH:∀id o,E.A id->H id=some o->OR E id o):∀(r:List CT) {n:Nat} {x:qcg r} {us:List Value},VRs E (qbx r ι n x) us->(∀j:Nat,j<nR r->H (ι (n+j))=(subR r x)[j]?)->WfR r x
 | [],n,x,us,h,hs=>trivial
 | c::cs,n,x,us,h,hs=>by
  obtain⟨us1,us2,rfl,h1,h2⟩:=VRs.split (cs:=qde c ι n x.1) (ds:=qbx cs ι (n+nC c) x.2) h;refine⟨wfC hH c h1 fun j hj=>?_,wfR hH cs h2 fun j hj=>?_⟩
  ·rw[hs j (by simp only[nR];omega)];simp only[subR];rw[jay (by rw[qlt];exact hj)]
  ·have:=hs (nC c+j) (by simp only[nR];omega);rw[<- jc2] at this;rw[this];simp only[subR];rw[ja6 (by rw[qlt];omega),qlt,ja5]
theorem wfP{H:Nat->Option IObj}(hH:∀id o,E.A id->H id=some o->OR E id o):∀(l:List PK) {k n:Nat} {x:ElP l} {us:List Value},VRs E (qap l idN k x) us ->
  (∀j:Nat,j<mP l->H (k+j)=(qaq l idN n x)[j]?)->(∀j:Nat,j<nP l->H (n+j)=(qb8 l x)[j]?)->WfP l x
 | [],k,n,x,us,h,_,_=>trivial
 | .dat c::l,k,n,x,us,h,h1,h2=>by
  obtain⟨u,us,rfl,a1,a2⟩:=VRs.inv (v:=asIV c x.1) (cs:=qap l idN k x.2) h;exact⟨qr8 a1,wfP hH l a2 h1 h2⟩
 | .fn f::l,k,n,x,us,h,h1,h2=>by
  obtain⟨u,us,rfl,a1,a2⟩:=VRs.inv (v:=.fn f []) (cs:=qap l idN k x) h;exact wfP (x:=x) hH l a2 h1 h2
 | .ref r::l,k,n,x,us,h,h1,h2=>by
  obtain⟨u,us,rfl,a1,a2⟩:=VRs.inv (v:=argK r (idN k)) (cs:=qap l idN (k+1) x.2) h;have hA:E.A k:=q24 a1;have h0:=h1 0 (by simp only[mP];omega);rw[jb7] at h0;have h0:H k=some (objK r idN n x.1):=h0;refine⟨?_,wfP hH l (n:=n+nK r) a2 (fun j hj=>?_) fun j hj=>?_⟩
  ·match r,x,h0,h2 with
   | .box r,x,h0,h2 =>
    obtain⟨cells,t,k1,k2,k3,k4⟩:=hH k _ hA (h0.trans (show _=some (.row (qbx r idN n x.1)) from rfl));refine wfR (ι:=idN) hH r k4 fun j hj=>?_;have:=h2 j (by simp only[nP,nK];omega);show H (n+j)=_;rw[this];exact jay (l₂:=qb8 l x.2) (jfe hj (qpp r x.1).symm)
   | .sl c,(some l,x),h0,h2=>exact z0f (c:=c) (l:=l) (hH k _ hA (h0.trans rfl))
   | .sl c,(none,x),h0,h2=>trivial
   | .mp kc vc,(some l,x),h0,h2=>exact ze8 (k:=kc) (v:=vc) (x:=l) (hH k _ hA (h0.trans rfl))
   | .mp kc vc,(none,x),h0,h2=>trivial
  ·have:=h1 (j+1) (by simp only[mP];omega);rw[show k+1+j=k+(j+1) by omega,this];simp only[qaq,ja2]
  ·have:=h2 (nK r+j) (by simp only[nP];omega);rw[<- jc2] at this;rw[this];simp only[qb8];rw[ja6 (by rw[qw9];omega),qw9,ja5]
end
theorem znn{l:List PK}{x:ElP l}{E:Env}{us:List Value}(p:Pre T0 E (Sc l x))(h:VRs E (qap l idN 0 x) us):WfP l x:=by
 refine wfP (H:=(Sc l x).H) (n:=mP l) (fun id o hA ho=>p.st.objs id trivial hA o ho) l h (fun j hj=>?_) fun j hj=>?_
 ·unfold Sc;rw[jbp,qhf,jay (by rw[qa9];exact hj)]
 ·unfold Sc;rw[qhf,ja6 (by rw[qa9];omega),qa9,ja5]

def qec(tt:Nat->Option TI)(fi:FI)(s:SmR)(r:CRes):Option (ElR s.rts × ElP (refs s.ps)) :=
 cond r.e.leaves (match qf7 r.ds r.S with
  | none=>none
  | some (S',_)=>match ires tt fi.nt r.fr S' fi.res with
   | none=>none
   | some (vs,_)=>runQ s ⟨tupI vs,S',0,0⟩) none
section
variable {P : Program} {tt : Nat -> Option TI} {ft : Nat -> Option FI}
theorem zfy{fi:FI}{f:Nat}{nm:Nat->Option Nm}{cl:Cl}{lf:Nat}{s:SmR}{x:ElP s.ps}{y:ElR s.rts}{z:ElP (refs s.ps)}{r1:CRes}(hm:P.follows .mixedOrders=true)(htt:TT P tt)
  (hfi:∃fn,P.funcs[f]?=some fn/\fn.body=some fi.body/\fn.ntmps=fi.nt/\fn.results=fi.res.toArray/\(fn.name == "runtime.NumGoroutine") = false/\qba fi.body=true) (hcl:ClOK P cl) (hfr:ClFr cl)
  (hb:Nat.ble (qap s.ps idN 0 x).length fi.nt=true) (hr1:qaj P tt nm (mP s.ps) fi.nt cl lf none fi.body (qat (qap s.ps idN 0 x) 0 .leaf) (Sc s.ps x) []=some r1) (h:qec tt fi s r1=some (y,z))
  {E:Env} {us:List Value} (p:Pre T0 E (Sc s.ps x)) (hv:VRs E (qap s.ps idN 0 x) us) :
  CallsIn Fence.wide 0 P f us.toArray E.w (RetB (mP s.ps) T0 E (Sc s.ps x) ⟨vB s (mP s.ps) y,ScB s y z,0,0⟩):=by
 unfold qec at h;cases hl:r1.e.leaves with
 | false=>rw[hl] at h;cases h
 | true =>
 rw[hl,jaa] at h;split at h
 ·cases h
 rename_i S' wr hmk;split at h
 ·cases h
 rename_i vs' rd' hres;obtain⟨fn,f1,f2,f3,f4,f5,f6⟩:=hfi;refine callsIn_of_wp_marks f1 f2 trivial ?_;refine qh6 (T:=T0) (E:=E) (S:=Sc s.ps x) (ds:=[]) (round:=none) (B:=mP s.ps) (fun _ _=>trivial) hm rfl hcl hfr htt fi.body f6 p (by rw[qhj];omega) (fun _ _=>trivial) ?_ (DS.nil (N:=E.w.heap.size) (jas _)) (fun _=>rfl) hr1 (fun _ _=>trivial) (fun _ _=>trivial) ?_
 ·have:=FR.enter (nt:=fi.nt) hv (jam hb);rw[f3];exact this
 intro E1 a1 k1 k2 kB;have p1:=kB.pre (fun _ _=>trivial) p;have hlv:LeavesInM Fence.wide 0 P fn a1.tmps (RetB (mP s.ps) T0 E (Sc s.ps x) ⟨vB s (mP s.ps) y,ScB s y z,0,0⟩) a1.defers .returning E1.w:=by
  refine qwb (E0:=E) (S0':=Sc s.ps x) (B:=mP s.ps) (jas _) (fun _ _=>trivial) p1 k2 kB hmk (fun _ _=>trivial) fun E2 hq0 p2 hv2=>?_;obtain⟨us',h1,h2⟩:=qrt htt p2 ⟨k1.size,fun t ht=>hv2 _ _ (k1.get t ht)⟩ hres (fun _ _=>trivial);have h3:=q4x (P:=P) (w:=E2.w) f4 h1;refine⟨qih us',h3,?_⟩;have hq:=hq0;obtain⟨E3,e3,v3,q3⟩:=zcc (r:=⟨tupI vs',S',0,0⟩) h p hv hq (q8j h2);exact⟨_,E3,rfl,e3,v3,q3⟩
 cases he:r1.e with
 | normal=>rw[he] at *;exact hlv
 | ret=>exact hlv
 | exit i=>rw[he] at hl;cases hl
 | goto l=>rw[he] at hl;cases hl
theorem conTR{sml:List (Nat × Sm)}{hxl:List (Nat × Hx)}{f:Nat}{s:SmR}{fi:FI}{nmf:Nat->Option Nm}{st hd:Nat->Bool}(n:Nat)(hm:P.follows .mixedOrders=true)(htt:TT P tt)(hft:FT P ft)(hsm:SmOK P sml)
  (hhx:qa3 P hxl) (hC:qaf P f) (h3:ft f=some fi) (h4:∀x,Nat.ble (qap s.ps idN 0 x).length fi.nt=true) (hn:(regs fi.body).Nodup) (hl:okC nmf st hd fi.body none=true)
  (hrun:∀(x:ElP s.ps) (y:ElR s.rts) (z:ElP (refs s.ps)),WfP s.ps x->s.f x=some (y,z)->∃lf,
   qca P tt nmf (mP s.ps) fi.nt (qa0 P tt ft (fun _ _=>none) (smL sml) (hxL hxl) lf n (ElR s.rts × ElP (refs s.ps))) lf st
    (atNB P tt nmf (mP s.ps) fi.nt fi.body (qa0 P tt ft (fun _ _=>none) (smL sml) (hxL hxl) lf n (ElR s.rts × ElP (refs s.ps))) lf hd (qec tt fi s)) fi.body [] (qat (qap s.ps idN 0 x) 0 .leaf) (Sc s.ps x) [] (qec tt fi s)=some (y,z))
  (hz:frzF nmf=true:=by rfl):ConR P f s:=by
 have hB0:mB nmf (mP s.ps)=0:=by unfold mB;rw[hz];rfl
 have hex:ExOK P (exH (smL sml) (hxL hxl)):=zbq (qv2 hsm) (qzc hhx);refine⟨hC,fun E x us y z hy p hv=>?_⟩;obtain⟨lf,hr⟩:=hrun x y z (znn p hv) hy;rw[<- zce hB0 (qaz n _) hn hl,qe1 (qaz n _)] at hr;cases hr1:qaj P tt nmf (mP s.ps) fi.nt (qch P tt ft (fun _ _=>none) (exH (smL sml) (hxL hxl)) lf n) lf none fi.body (qat (qap s.ps idN 0 x) 0 .leaf) (Sc s.ps x) [] with
 | none=>rw[hr1] at hr;cases hr
 | some r1 =>
  rw[hr1] at hr;exact zfy hm htt (hft f fi h3) (qkz hm htt hft hex n) (qg2 hex n) (h4 x) hr1 hr p hv
end
end Go.Jx
end

section
namespace Go.Jx
open Go Go.Sx Go.RowKit
universe u

section
variable {P : Program} {tt : Nat -> Option TI} {nm : Nat -> Option Nm} {lf : Nat} {st hd : Nat -> Bool} {cl : Cl}
def atQ(P:Program)(tt:Nat->Option TI)(nm:Nat->Option Nm)(fi:FI)(s:SmR)(clK:ClK (ElR s.rts × ElP (refs s.ps)))(lf:Nat)(hd:Nat->Bool)(k:Nat)(ns:List Nat)(x:NRes):Option (ElR s.rts × ElP (refs s.ps)) :=
 atNB P tt nm (mP s.ps) fi.nt fi.body clK lf hd (qec tt fi s) k ns x
theorem zl7{B:Nat}(hz:frzF nm=true):mB nm B=0:=by unfold mB;rw[hz];rfl
theorem q5i(hz:frzF nm=true){fi:FI}{s:SmR}{clK:ClK (ElR s.rts × ElP (refs s.ps))}(h:ClEq cl clK)(hn:(regs fi.body).Nodup)(hl:okC nm st hd fi.body none=true)(k:Nat)(ns ns':List Nat)(hd':dn (hd k) ns=some ns')(x:NRes) :
  atQ P tt nm fi s clK lf hd k ns x=qcb P tt nm (mP s.ps) fi.nt clK lf st (atQ P tt nm fi s clK lf hd) k fi.body [] ns' x (qec tt fi s):=zdk (zl7 hz) h hn hl k ns ns' hd' x
theorem q1j{fi:FI}{s:SmR}{clK:ClK (ElR s.rts × ElP (refs s.ps))}(k:Nat)(ns:List Nat)(hd':dn (hd k) ns=none)(x:NRes):atQ P tt nm fi s clK lf hd k ns x=none:=za5 k ns hd' x
end
end Go.Jx
end

noncomputable section
set_option maxRecDepth 100000
namespace Go.Proofs.YtnhmanoiolfapaaGreat
open Go Go.Sx Go.RowKit Go.Jx
def qkc:Sm:=⟨[.list .str],[(true,.str)],fun x=>some (x.1,())⟩
def q07:Sm:=⟨[.list cPut],[(true,cPut)],fun x=>some (x.1,())⟩
def qiw:Sm:=⟨[.list .str,.int .i64],[(false,.list .str)],fun x=>cond (decide (x.1.length=1)&&S.inI x.2.1 0 1000) (some (List.replicate x.2.1.toNat (x.1.getD 0 S.none_),())) none⟩
def qg5:Sm:=⟨[.int .i64,.int .i64,.int .i64],[(false,.bool)],fun x=>some (S.inI x.1 x.2.1 x.2.2.1,())⟩
def qll:Sm:=⟨[.int .i64,.int .i64,.int .i64],[(false,.bool)],fun x=>some (S.inI x.1 x.2.1 x.2.2.1,())⟩
def qt1:Sm:=⟨[],[(false,.str)],fun _=>some (S.blank,())⟩
def qy2:Sm:=⟨[.str],[(false,.bool)],fun x=>some (S.short x.1,())⟩
def q68:Sm:=⟨[.int .i64],[(false,qag),(false,.int .i64)],fun x=>some ((S.newDisk x.1).1,(S.newDisk x.1).2,())⟩
def qh7:Sm:=⟨[qag],[(false,.int .i64)],fun x=>some (S.checkDisk x.1,())⟩
def qyd:Sm:=⟨[qag],[(false,.int .i64)],fun x=>some (S.checkDisk x.1,())⟩
def S.fitP(l:List ByteArray)(q:List DPut):Bool:=q.all fun p=>!S.badPut l.length p
def q7f:Sm:=⟨[.list .str,.list cPut],[(true,.str)],fun x=>cond (S.fitP x.1 x.2.1) (some (S.settled x.1 x.2.1,())) none⟩
def qvu:Sm:=⟨[qag,.list cAct],[(false,qag),(false,.int .i64)],fun x=>some ((S.doD x.1 x.2.1).1,(S.doD x.1 x.2.1).2,())⟩
def zbm:Sm:=⟨[qag,.list cAct],[(false,qvk)],fun x=>some (S.doD x.1 x.2.1,())⟩
def zuy:Sm:=⟨[qag,.list (.int .i64)],[(false,qag),(false,.int .i64)],fun x=>some ((S.crash x.1 x.2.1).1,(S.crash x.1 x.2.1).2,())⟩
def qs0:Sm:=⟨[.int .i64],[(false,.str)],fun x=>cond (S.inI x.1 0 64) (some (qae (List.replicate x.1.toNat 0),())) none⟩
def q7y:Sm:=⟨[.int .i64],[(true,.int .i64)],fun x=>cond (S.inI x.1 0 4000) (some (List.replicate x.1.toNat (64:Int),())) none⟩
def S.anyShort(l:List ByteArray):Bool:=l.any S.short
def S.fitN(q:List DPut)(m:List Int):Bool:=decide (m.length=q.length)&&m.all fun n=>S.inI n 0 64
def q1v:Sm:=⟨[.list .str,.list cPut,.list (.int .i64)],[(true,.str)],fun x=>cond (S.fitP x.1 x.2.1&&(!S.anyShort x.1&&(S.fitN x.2.1 x.2.2.1&&Nat.ble x.1.length 1000))) (some (S.crashGo x.2.1 x.2.2.1 x.1,())) none⟩
def S.pk(l:List qaa):Bool:=S.okC l&&Nat.ble l.length 250
def qvv:Sm:=⟨[.int .i64],[(false,.str)],fun x=>cond (S.inI x.1 0 16777215) (some (qae (S.two x.1.toNat),())) none⟩
def q6j:Sm:=⟨[.list cCell],[(false,.str)],fun x=>cond (S.pk x.1) (some (qae (S.body x.1),())) none⟩
def qnl:Sm:=⟨[.list cCell],[(true,.str)],fun x=>cond (S.pk x.1) (some (S.packed x.1 1,())) none⟩
def qyq:Sm:=⟨[.str],[(false,.str)],fun x=>cond (decide (x.1.size=64)) (some (qae (0::(qab x.1).drop 1),())) none⟩
def qj7:Sm:=⟨[.int .i64,.int .i64],[(false,q0x)],fun x=>cond (S.inI x.1 0 1000) (some (S.half x.1.toNat x.2.1,())) none⟩
def qy7:Sm:=⟨[qag,.int .i64],[(false,.int .i64),(false,.int .i64)],fun x=>cond (Nat.ble x.1.1.length 1000&&decide (x.1.1.length % 2=0)) (some ((S.half x.1.1.length x.2.1).1,(S.half x.1.1.length x.2.1).2,())) none⟩
def q3h:Sm:=⟨[.int .i64,.int .i64],[(false,.str)],fun x=>cond (S.inI x.1 0 16777215&&S.inI x.2.1 0 3) (some (qae (S.numB x.1.toNat x.2.1.toNat),())) none⟩
def S.pkm(l:List qaa)(m:Int):Bool:=S.pk l&&S.inI m 0 1
def qwn:Sm:=⟨[.list cCell,.int .i64],[(true,.str)],fun x=>cond (S.pkm x.1 x.2.1) (some (S.packed x.1 x.2.1,())) none⟩
def q2v:Sm:=⟨[.int .i64,.str],[(false,cAct)],fun x=>some (S.put x.1 x.2.1,())⟩
def q6e:Sm:=⟨[],[(false,cAct)],fun x=>some (S.sync,())⟩
def S.laid(l:List qaa)(at_ e:Int)(b:Bool):List DAct:=S.puts at_ (S.packed l 0)++(cond (b&&decide (at_+(S.packed l 1).length<e)) [S.put (at_+(S.packed l 1).length) S.blank] []++[S.sync,S.put at_ ((S.packed l 1).getD 0 S.none_),S.sync])
def q66:Sm:=⟨[.list cCell,.int .i64,.int .i64,.bool],[(true,cAct)],fun x=>cond (S.pk x.1&&(S.inI x.2.1 0 1000000&&S.inI x.2.2.1 0 1000000)) (some (S.laid x.1 x.2.1 x.2.2.1 x.2.2.2.1,())) none⟩
def q9a:Sm:=⟨[qag],[(true,cAct),(false,.int .i64)],fun x=>some ((S.format x.1).1,(S.format x.1).2,())⟩
def S.lenA(a:List DAct):Nat:=a.length
def S.app(a b:List DAct):List DAct:=a++b
def spz8:SmR:=⟨[.ref (.box [.arr cAct]),.dat (.int .i64),.dat (.list .str)],[],fun x=>cond (S.inI x.2.1 0 1000000&&(Nat.ble x.2.2.1.length 1000000&&Nat.ble (S.lenA x.1.1) 1000000)) (some ((),((S.app x.1.1 (S.puts x.2.1 x.2.2.1),()),()))) none⟩
def spz9:SmR:=⟨[.ref (.box [.arr cAct])],[],fun x=>cond (Nat.ble (S.lenA x.1.1) 4000000) (some ((),((S.app x.1.1 [S.sync],()),()))) none⟩
def S.chg(b:ByteArray):List qaa × Bool:=match S.changes (b.size+1) (qab b) (-1) with
 | some l=>(l,true)
 | none=>([],false)
def spz2:Sm:=⟨[.str],[(true,cCell),(false,.bool)],fun x=>cond (Nat.ble x.1.size 1000000) (some ((S.chg x.1).1,(S.chg x.1).2,())) none⟩
def S.readK(l:List ByteArray):qfi :=
 if ¬(qab (l.getD 0 S.none_)).getD 0 0=1\/l.length<S.recM (qab (l.getD 0 S.none_)) then ([],0,true)
 else match S.changes (S.recN (qab (l.getD 0 S.none_))+1) ((((l.take (S.recM (qab (l.getD 0 S.none_)))).flatMap qab).drop 4).take (S.recN (qab (l.getD 0 S.none_)))) (-1) with
  | some c=>(c,(S.recM (qab (l.getD 0 S.none_)):Int),!((((l.take (S.recM (qab (l.getD 0 S.none_)))).flatMap qab).drop (4+S.recN (qab (l.getD 0 S.none_)))).all fun b=>decide (b=0)))
  | none=>([],(S.recM (qab (l.getD 0 S.none_)):Int),true)
def S.secs(l:List ByteArray):Bool:=Nat.ble l.length 1000&&!S.anyShort l
def S.secs1(l:List ByteArray):Bool:=Nat.ble 1 l.length&&S.secs l
def spz3:Sm:=⟨[.list .str],[(false,cKeepRecord)],fun x=>cond (S.secs1 x.1) (some (S.readK x.1,())) none⟩
def S.val(b:ByteArray):Int:=(qab b).foldl (fun n b=>256*n+b) 0
def spz4:Sm:=⟨[.str],[(false,.int .i64)],fun x=>cond (Nat.ble x.1.size 3) (some (S.val x.1,())) none⟩
def S.recAt(d:qac)(at_ e:Int):q0c :=
 if (qab (d.1.getD at_.toNat S.none_)).getD 0 0=0 then ([],0,true,true)
 else match S.readR ((d.1.take e.toNat).drop at_.toNat) with
  | some x=>(x.1,(x.2:Int),false,true)
  | none=>([],0,false,false)
def S.recG(d:qac)(at_ e:Int):Bool:=S.secs d.1&&(S.inI at_ 0 (e-1)&&S.inI e 0 d.1.length)
def spz5:Sm:=⟨[qag,.int .i64,.int .i64],[(false,qy3)],fun x=>cond (S.recG x.1 x.2.1 x.2.2.1) (some (S.recAt x.1 x.2.1 x.2.2.1,())) none⟩
def S.srt(l:List qaa):Bool:=S.okC l&&!l.any (·.2.2)
def S.mrg(a b:List qaa):Bool:=S.srt a&&S.okC b
def spz6:Sm:=⟨[.list cCell,.list cCell],[(true,cCell)],fun x=>cond (S.mrg x.1 x.2.1) (some (S.changed x.1 x.2.1,())) none⟩
def spz7:Sm:=⟨[qag],[(false,qhd)],fun x=>some (S.open_ x.1,())⟩
def S.sameC(a b:List qaa):Bool:=decide (a=b)
def S.sameD(a b:qac):Bool:=decide (a=b)
def S.sameJ(a b:qad):Bool:=decide (a=b)
def S.sameA(a b:List DAct):Bool:=decide (a=b)
def zdv:Sm:=⟨[.list cCell,.list cCell],[(false,.bool)],fun x=>some (S.sameC x.1 x.2.1,())⟩
def q23:Sm:=⟨[qag,qag],[(false,.bool)],fun x=>some (S.sameD x.1 x.2.1,())⟩
def qvz:Sm:=⟨[cJournal,cJournal],[(false,.bool)],fun x=>some (S.sameJ x.1 x.2.1,())⟩
def zbh:Sm:=⟨[.list cAct,.list cAct],[(false,.bool)],fun x=>some (S.sameA x.1 x.2.1,())⟩
def qn5:Sm:=⟨[cJournal],[(false,.bool)],fun x=>some (S.right x.1,())⟩
def qu7:Sm:=⟨[.list cCell],[(false,.int .i64),(false,.int .i64)],fun x=>some ((S.size x.1).1,(S.size x.1).2,())⟩
def qo1:Sm:=⟨[.list cCell],[(false,.int .i64),(false,.int .i64)],fun x=>some ((S.size x.1).1,(S.size x.1).2,())⟩
def q1y:Sm:=⟨[cJournal,.int .i64],[(false,.str),(false,.bool),(false,.int .i64)],fun x=>some ((S.value x.1 x.2.1).1,(S.value x.1 x.2.1).2.1,(S.value x.1 x.2.1).2.2,())⟩
def S.smallJ(j:qad):Bool:=Nat.ble j.1.1.length 1000&&(decide (j.1.1.length % 2=0)&&S.inI j.2.2.1 (-1000) 1000)
def S.roomR(j:qad):Int:=((j.1.1.length / 2:Nat):Int)-1-j.2.2.1
def qym:Sm:=⟨[cJournal],[(false,.int .i64)],fun x=>cond (S.smallJ x.1) (some (S.roomR x.1,())) none⟩
def qu9:Sm:=⟨[cJournal],[(false,.int .i64)],fun x=>cond (S.smallJ x.1) (some (S.roomOf x.1,())) none⟩
def q81:Sm:=⟨[cJournal],[(false,.int .i64),(false,.int .i64)],fun x=>some ((S.room x.1).1,(S.room x.1).2,())⟩
def qzx:Sm:=⟨[cJournal,.list cCell],[(false,qg6)],fun x=>some (S.plan x.1 x.2.1,())⟩
def S.behindA(j:qad)(a:qnj):qlz:=if a.2=0 then S.behind j a.1 else (S.noJ,a.2)
def zbu:Sm:=⟨[cJournal,qg6],[(false,qhd)],fun x=>some (S.behindA x.1 x.2.1,())⟩
def q80:Sm:=⟨[cJournal,.list cCell],[(false,qhd)],fun x=>some (S.commitJ x.1 x.2.1,())⟩
def q3g:Sm:=⟨[],[(false,.str)],fun _=>some (qae (List.replicate 64 0),())⟩
def za9:Sm:=⟨[.list cCell,.list cCell],[(false,.bool)],fun x=>some (S.sameC x.1 x.2.1,())⟩
def za4:Sm:=⟨[qag],[(false,cJournal),(false,.int .i64)],fun x=>some ((S.open_ x.1).1,(S.open_ x.1).2,())⟩
def S.openedJ(d:qac):qad × Bool:=match S.opened d.1 with
 | some (h,u,c)=>(((d.1,[]),h,(u:Int),c),true)
 | none=>(S.noJ,false)
def S.okL(d:qac):Bool:=S.secs d.1&&(Nat.ble 8 d.1.length&&decide (d.1.length % 2=0))
def qg8:Sm:=⟨[qag],[(false,cJournal),(false,.bool)],fun x=>cond (S.okL x.1) (some ((S.openedJ x.1).1,(S.openedJ x.1).2,())) none⟩
def S.errR(j:qad):Int:=if S.right j=true then 0 else 1
def qlw:Sm:=⟨[cJournal],[(false,.int .i64)],fun x=>some (S.errR x.1,())⟩
def q96:Sm:=⟨[cJournal,.int .i64],[(false,.str),(false,.bool),(false,.int .i64)],fun x=>some ((S.value x.1 x.2.1).1,(S.value x.1 x.2.1).2.1,(S.value x.1 x.2.1).2.2,())⟩
def q1k:Sm:=⟨[cJournal],[(false,.int .i64),(false,.int .i64)],fun x=>some ((S.room x.1).1,(S.room x.1).2,())⟩
def S.asked(j:qad)(l:List qaa):Int:=if S.right j=true then (S.size l).2 else 1
def q9c:Sm:=⟨[cJournal,.list cCell],[(false,.int .i64)],fun x=>some (S.asked x.1 x.2.1,())⟩
def S.comG(j:qad)(l:List qaa):Bool:=S.smallJ j&&(S.pk l&&S.inI j.2.2.1 0 1000)
def S.actsB(o:Option (List DAct)):List DAct × Bool:=match o with
 | some a=>(a,true)
 | none=>([],false)
def zb3:Sm:=⟨[cJournal,.list cCell],[(true,cAct),(false,.bool)],fun x=>cond (S.comG x.1 x.2.1) (some ((S.actsB (S.commit x.1 x.2.1)).1,(S.actsB (S.commit x.1 x.2.1)).2,())) none⟩
def S.turG(j:qad):Bool:=S.smallJ j&&(S.pk j.2.2.2&&(S.inI j.2.1 0 1&&Nat.ble 8 j.1.1.length))
def q9u:Sm:=⟨[cJournal],[(true,cAct),(false,.bool)],fun x=>cond (S.turG x.1) (some ((S.actsB (S.turn x.1)).1,(S.actsB (S.turn x.1)).2,())) none⟩
def S.behG(j:qad)(a:List DAct):Bool:=decide ((S.behind j a).2=0)&&decide ((S.doD j.1 a).2=0)
def q0f:Sm:=⟨[cJournal,.list cAct],[(false,cJournal)],fun x=>cond (S.behG x.1 x.2.1) (some ((S.behind x.1 x.2.1).1,())) none⟩
def qvw:Sm:=⟨[cJournal,.list cCell],[(true,cAct),(false,.int .i64)],fun x=>some ((S.plan x.1 x.2.1).1,(S.plan x.1 x.2.1).2,())⟩
def q77:Sm:=⟨[cJournal,.list cCell],[(false,cJournal),(false,.int .i64)],fun x=>some ((S.commitJ x.1 x.2.1).1,(S.commitJ x.1 x.2.1).2,())⟩
def q3z:Sm:=⟨[cJournal],[(true,cAct),(false,.int .i64)],fun x=>some ((S.planTurn x.1).1,(S.planTurn x.1).2,())⟩
def zz7:Sm:=⟨[cJournal],[(false,cJournal),(false,.int .i64)],fun x=>some ((S.turnJ x.1).1,(S.turnJ x.1).2,())⟩
def S.oneN(s:ByteArray)(n:Int):Bool:=keqS s (S.lit [0])&&decide (n=64)
def zdh:Sm:=⟨[.str,.int .i64],[(false,.str)],fun x=>cond (S.oneN x.1 x.2.1) (some (S.blank,())) none⟩
def S.applied(m:List (Int × ByteArray))(l:List qaa):List (Int × ByteArray):=l.foldl (fun m c=>cond c.2.2 (mdel (vc:=.str) (.int .i64) c.1 m) (mset (vc:=.str) (.int .i64) c.1 c.2.1 m)) m
def qq5:SmR:=⟨[.ref (.mp (.int .i64) .str),.dat (.list cCell)],[],fun x=>match x.1 with
 | some m=>some ((),(some (S.applied m x.2.1),()))
 | none=>none⟩
def S.few(d:qac):Bool:=(Nat.ble d.1.length 40||(Nat.blt 1000 d.1.length&&Nat.ble d.1.length 1100))&&(Nat.ble d.2.length 80||(Nat.blt 4000 d.2.length&&Nat.ble d.2.length 4100))
def S.shortL(l:List qaa):Bool:=l.all (fun c=>Nat.ble c.2.1.size 6000)&&(Nat.ble l.length 12||(Nat.blt 60 l.length&&Nat.ble l.length 100))
def S.madeD:qac:=(S.doD (S.newDisk 8).1 (S.format (S.newDisk 8).1).1).1
def S.madeJ:qad:=(S.open_ S.madeD).1
def q8y:Sm:=⟨[qag],[(false,.bool)],fun x=>some (S.few x.1,())⟩
def spz1:Sm:=⟨[.list cCell],[(false,.bool)],fun x=>some (S.shortL x.1,())⟩
def q2i:Sm:=⟨[.int .i64],[(false,cJournal),(false,.bool)],fun x=>cond (S.inI x.1 8 8) (some (S.madeJ,true,())) none⟩
def q3e:Sm:=⟨[],[(false,.bool)],fun _=>some (true,())⟩
def S.ten:ByteArray:=S.lit [48,49,50,51,52,53,54,55,56,57]
def S.hC:List qaa:=[(5,S.ten,false)]
def S.hL:List DAct:=(S.plan S.madeJ S.hC).1
def S.hD:qac:=(S.doD S.madeJ.1 (S.hL.take 4)).1
def S.hLost:qac:=(S.crash S.hD [0]).1
def S.hKept:qac:=(S.crash S.hD [1]).1
def S.hX:qad:=(S.open_ S.hLost).1
def S.hY:qad:=(S.open_ S.hKept).1
def S.hG:List qaa:=[(5,S.none_,true)]
def S.hZ:qad:=(S.commitJ S.hY S.hG).1
def S.hT:qad:=(S.turnJ S.hZ).1
def S.gPlan(j:qad)(l:List qaa):Bool:=S.sameJ j S.madeJ&&S.sameC l S.hC
def S.gDo(d:qac)(l:List DAct):Bool:=S.sameD d S.madeJ.1&&S.sameA l (S.hL.take 4)
def S.isZ(k:List Int):Bool:=decide (k=[0])
def S.gCrash(d:qac)(k:List Int):Bool:=S.sameD d S.hD&&(decide (k=[0])||decide (k=[1]))
def S.hCr(k:List Int):qac:=cond (S.isZ k) S.hLost S.hKept
def S.gOpen(d:qac):Bool:=S.sameD d S.hLost||S.sameD d S.hKept
def S.hOp(d:qac):qad:=cond (S.sameD d S.hLost) S.hX S.hY
def S.gCom(j:qad)(l:List qaa):Bool:=S.sameJ j S.hY&&S.sameC l S.hG
def S.gZ(j:qad):Bool:=S.sameJ j S.hZ
def q3v:Sm:=⟨[cJournal,.list cCell],[(true,cAct),(false,.int .i64)],fun x=>cond (S.gPlan x.1 x.2.1) (some (S.hL,(0:Int),())) none⟩
def q08:Sm:=⟨[qag,.list cAct],[(false,qag),(false,.int .i64)],fun x=>cond (S.gDo x.1 x.2.1) (some (S.hD,(0:Int),())) none⟩
def q2b:Sm:=⟨[qag,.list (.int .i64)],[(false,qag),(false,.int .i64)],fun x=>cond (S.gCrash x.1 x.2.1) (some (S.hCr x.2.1,(0:Int),())) none⟩
def q8t:Sm:=⟨[qag],[(false,cJournal),(false,.int .i64)],fun x=>cond (S.gOpen x.1) (some (S.hOp x.1,(0:Int),())) none⟩
def q06:Sm:=⟨[cJournal,.list cCell],[(false,cJournal),(false,.int .i64)],fun x=>cond (S.gCom x.1 x.2.1) (some (S.hZ,(0:Int),())) none⟩
def q14:Sm:=⟨[cJournal],[(false,.int .i64),(false,.int .i64)],fun x=>cond (S.gZ x.1) (some ((0:Int),(0:Int),())) none⟩
def zbb:Sm:=⟨[cJournal],[(false,cJournal),(false,.int .i64)],fun x=>cond (S.gZ x.1) (some (S.hT,(0:Int),())) none⟩
theorem zpk:IdxFacts Tryz.prog ttT.get (.int .i64) qx4 (cL qkn) (cL (cL (cR qkn))) (cB (cB (cR (cL (cR qkn))))) (cR (cR qkn)) :=
 ⟨by kernel_rfl,by kernel_rfl,fun mr=>by kernel_rfl,fun R clK B0 mr lf l g caps S kk=>by kernel_rfl,fun R clK B0 mr lf l g caps S kk=>by kernel_rfl,fun R clK B0 mr lf l g caps S i kk=>by kernel_rfl,fun R clK B0 mr lf fr S kk=>by kernel_rfl,by kernel_rfl,by kernel_rfl,fun mr=>by kernel_rfl⟩
theorem zkc:HxOK Tryz.prog 103 (idxF (.int .i64)):=qpt zpk mixed ttOK zej
theorem zwj:IdxFacts Tryz.prog ttT.get cPut qy4 (cL qnv) (cL (cL (cR qnv))) (cB (cB (cR (cL (cR qnv))))) (cR (cR qnv)) :=
 ⟨by kernel_rfl,by kernel_rfl,fun mr=>by kernel_rfl,fun R clK B0 mr lf l g caps S kk=>by kernel_rfl,fun R clK B0 mr lf l g caps S kk=>by kernel_rfl,fun R clK B0 mr lf l g caps S i kk=>by kernel_rfl,fun R clK B0 mr lf fr S kk=>by kernel_rfl,by kernel_rfl,by kernel_rfl,fun mr=>by kernel_rfl⟩
theorem zoy:HxOK Tryz.prog 104 (idxF cPut):=qpt zwj mixed ttOK zd7
theorem zzn:IdxFacts Tryz.prog ttT.get .str qvf (cL qln) (cL (cL (cR qln))) (cB (cB (cR (cL (cR qln))))) (cR (cR qln)) :=
 ⟨by kernel_rfl,by kernel_rfl,fun mr=>by kernel_rfl,fun R clK B0 mr lf l g caps S kk=>by kernel_rfl,fun R clK B0 mr lf l g caps S kk=>by kernel_rfl,fun R clK B0 mr lf l g caps S i kk=>by kernel_rfl,fun R clK B0 mr lf fr S kk=>by kernel_rfl,by kernel_rfl,by kernel_rfl,fun mr=>by kernel_rfl⟩
theorem z09:HxOK Tryz.prog 105 (idxF .str):=qpt zzn mixed ttOK q3d
theorem zjb:IdxFacts Tryz.prog ttT.get cCell qww (cL qkv) (cL (cL (cR qkv))) (cB (cB (cR (cL (cR qkv))))) (cR (cR qkv)) :=
 ⟨by kernel_rfl,by kernel_rfl,fun mr=>by kernel_rfl,fun R clK B0 mr lf l g caps S kk=>by kernel_rfl,fun R clK B0 mr lf l g caps S kk=>by kernel_rfl,fun R clK B0 mr lf l g caps S i kk=>by kernel_rfl,fun R clK B0 mr lf fr S kk=>by kernel_rfl,by kernel_rfl,by kernel_rfl,fun mr=>by kernel_rfl⟩
theorem zh7:HxOK Tryz.prog 113 (idxF cCell):=qpt zjb mixed ttOK zef
abbrev qpn:Type:=Bool × Unit
abbrev zl4:Nat:=9
def zm9(lf:Nat):Option qpn:=(match (cond (S.inI (Int.ofNat 8) (Int.ofNat 8) (Int.ofNat 8)) (some (S.madeJ,(true,()))) none) with|none=>none|some v0=>(cond (Bool.not v0.2.1) (some (false,())) (match (cond (S.gPlan ((v0.1.1.1,v0.1.1.2),(v0.1.2.1,(v0.1.2.2.1,v0.1.2.2.2))) (List.cons ((Int.ofNat 5),((S.lit [48,49,50,51,52,53,54,55,56,57]),false)) [])) (some (S.hL,((Int.ofNat 0),()))) none) with|none=>none|some v1=>(cond (Bool.not (ieqI v1.2.1 (Int.ofNat 0))) (some (false,())) (cond (Bool.not (ieqI (Int.ofNat v1.1.length) (Int.ofNat 5))) (some (false,())) (match (jget v1.1 (Int.ofNat 0)) with|none=>none|some v2=>(match (GetElem?.getElem? v1.1 0) with|none=>none|some v3=>(cond (Bool.not (ieqI v3.2.1 (Int.ofNat 2))) (some (false,())) (match (jget v1.1 (Int.ofNat 1)) with|none=>none|some v4=>(match (GetElem?.getElem? v1.1 1) with|none=>none|some v5=>(cond (Bool.not (ieqI v5.2.1 (Int.ofNat 3))) (some (false,())) (match (jget v1.1 (Int.ofNat 2)) with|none=>none|some v6=>(match (GetElem?.getElem? v1.1 2) with|none=>none|some v7=>(cond (Bool.not v7.1) (some (false,())) (match (jget v1.1 (Int.ofNat 3)) with|none=>none|some v8=>(match (GetElem?.getElem? v1.1 3) with|none=>none|some v9=>(cond (Bool.not (ieqI v9.2.1 (Int.ofNat 2))) (some (false,())) (cond (Bool.not (ieqI v0.1.2.1 (Int.ofNat 0))) (some (false,())) (cond (Bool.not (ieqI v0.1.2.2.1 (Int.ofNat 1))) (some (false,())) (cond (Bool.not (ieqI (Int.ofNat v0.1.2.2.2.length) (Int.ofNat 0))) (some (false,())) (cond (lchk (Int.ofNat 0) (Int.ofNat 4) (Int.ofNat v1.1.length) (Int.ofNat v1.1.length)) (match (cond (S.gDo (v0.1.1.1,v0.1.1.2) (lsub v1.1 (Int.ofNat 0) (Int.ofNat 4))) (some (S.hD,((Int.ofNat 0),()))) none) with|none=>none|some v10=>(match (cond (S.gCrash (v10.1.1,v10.1.2) [(Int.ofNat 0)]) (some ((S.hCr [(Int.ofNat 0)]),((Int.ofNat 0),()))) none) with|none=>none|some v11=>(match (cond (S.gCrash (v10.1.1,v10.1.2) [(Int.ofNat 1)]) (some ((S.hCr [(Int.ofNat 1)]),((Int.ofNat 0),()))) none) with|none=>none|some v12=>(match (cond (S.gOpen (v11.1.1,v11.1.2)) (some ((S.hOp (v11.1.1,v11.1.2)),((Int.ofNat 0),()))) none) with|none=>none|some v13=>(match (cond (S.gOpen (v12.1.1,v12.1.2)) (some ((S.hOp (v12.1.1,v12.1.2)),((Int.ofNat 0),()))) none) with|none=>none|some v14=>(cond (Bool.not (ieqI v10.2.1 (Int.ofNat 0))) (some (false,())) (cond (Bool.not (ieqI v11.2.1 (Int.ofNat 0))) (some (false,())) (cond (Bool.not (ieqI v12.2.1 (Int.ofNat 0))) (some (false,())) (cond (Bool.not (ieqI v13.2.1 (Int.ofNat 0))) (some (false,())) (cond (Bool.not (ieqI v14.2.1 (Int.ofNat 0))) (some (false,())) (cond (Bool.not (ieqI (Int.ofNat v13.1.2.2.2.length) (Int.ofNat 0))) (some (false,())) (cond (Bool.not (ieqI (Int.ofNat v14.1.2.2.2.length) (Int.ofNat 1))) (some (false,())) (match (jget v14.1.2.2.2 (Int.ofNat 0)) with|none=>none|some v15=>(cond (Bool.not (keqS v15.2.1 (S.lit [48,49,50,51,52,53,54,55,56,57]))) (some (false,())) (match (cond (S.gCom ((v14.1.1.1,v14.1.1.2),(v14.1.2.1,(v14.1.2.2.1,v14.1.2.2.2))) (List.cons ((Int.ofNat 5),((S.lit []),true)) [])) (some (S.hZ,((Int.ofNat 0),()))) none) with|none=>none|some v16=>(match (cond (S.gZ ((v16.1.1.1,v16.1.1.2),(v16.1.2.1,(v16.1.2.2.1,v16.1.2.2.2)))) (some ((Int.ofNat 0),((Int.ofNat 0),()))) none) with|none=>none|some v17=>(match (cond (S.gZ ((v16.1.1.1,v16.1.1.2),(v16.1.2.1,(v16.1.2.2.1,v16.1.2.2.2)))) (some (S.hT,((Int.ofNat 0),()))) none) with|none=>none|some v18=>(cond (ieqI v16.2.1 (Int.ofNat 0)) (cond (ieqI v17.2.1 (Int.ofNat 0)) (cond (ieqI v18.2.1 (Int.ofNat 0)) (cond (ieqI v17.1 (Int.ofNat 0)) (cond (ieqI v18.1.2.1 (Int.ofNat 1)) (cond (ieqI v18.1.2.2.1 (Int.ofNat 1)) (some ((ieqI (Int.ofNat v18.1.2.2.2.length) (Int.ofNat 0)),())) (some (false,()))) (some (false,()))) (some (false,()))) (some (false,()))) (some (false,()))) (some (false,())))))))))))))))))))) none)))))))))))))))))))))
def qvc(lf:Nat):Option qpn:=zm9 lf
theorem zig{g:ElA []->Option qpn}(hsm:SmOK Tryz.prog [(52,q2i),(22,qo1),(24,q3v),(32,q08),(34,q2b),(13,q8t),(26,q06),(20,q14),(41,zbb)])(hg:∀(x:ElA []) (y:qpn),WfA [] x->g x=some y->∃lf,qvc lf=some y):Con Tryz.prog 9 ⟨[],[(false,.bool)],g⟩ :=
 conU (fi:=fi9) (hxl:=[]) (fun lf x=>qvc lf) cm3 cal9 trivial hsm hg
abbrev qsa:Type:=Bool × Unit
abbrev zja:Nat:=10
def q9i(lf:Nat)(x1:qac):Option qsa:=(cond (Bool.not (iltI (Int.ofNat 40) (Int.ofNat x1.1.length))) (cond (Bool.not (iltI (Int.ofNat 80) (Int.ofNat x1.2.length))) (some (true,())) (cond (iltI (Int.ofNat 4000) (Int.ofNat x1.2.length)) (some ((Bool.not (iltI (Int.ofNat 4100) (Int.ofNat x1.2.length))),())) (some (false,())))) (cond (iltI (Int.ofNat 1000) (Int.ofNat x1.1.length)) (cond (Bool.not (iltI (Int.ofNat 1100) (Int.ofNat x1.1.length))) (cond (Bool.not (iltI (Int.ofNat 80) (Int.ofNat x1.2.length))) (some (true,())) (cond (iltI (Int.ofNat 4000) (Int.ofNat x1.2.length)) (some ((Bool.not (iltI (Int.ofNat 4100) (Int.ofNat x1.2.length))),())) (some (false,())))) (some (false,()))) (some (false,()))))
def qoa(lf:Nat)(x1:qac):Option qsa:=q9i lf x1
theorem zmt{g:ElA [qag]->Option qsa}(hsm:SmOK Tryz.prog [])(hg:∀(x:ElA [qag]) (y:qsa),WfA [qag] x->g x=some y->∃lf,qoa lf x.1=some y):Con Tryz.prog 10 ⟨[qag],[(false,.bool)],g⟩ :=
 conU (fi:=fi10) (hxl:=[]) (fun lf x=>qoa lf x.1) cm3 zut trivial hsm hg
def nmz1:Nat->Option Nm:=fun k=>cond (Nat.beq k 2) (some ⟨[0,3],[],[],[],[],0,0,false⟩) (none)
def stz1:Nat->Bool:=fun k=>cond (Nat.beq k 2) true (false)
def hdz1:=stz1
abbrev Rtz1:Type:=Bool × Unit
def q8n:List (Nat × Sm):=[]
def q17:List (Nat × Hx):=[]
def clz1(R:Type)(lf:Nat):ClK R:=qa0 Tryz.prog ttT.get ftT.get (nm1 17 nmz1) (smL q8n) (hxL q17) lf 20 R
abbrev idz1:Nat:=17
def qjt(x1:(List qaa))(p:Int):NRes:=(NRes.mk (.node (some (IV.lst cCell x1)) (.node none (.node (some (IV.int .i64 p)) .leaf .leaf) .leaf) .leaf) (IS.mk .leaf 0) [] 0)
def quj(lf:Nat)(x1:(List qaa))(L2:Int->Option Rtz1):Option Rtz1:=(L2 (Int.ofNat 0))
def ql5(lf:Nat)(x1:(List qaa))(L2:Int->Option Rtz1)(p:Int):Option Rtz1:=(cond (iltI p (Int.ofNat x1.length)) (match (jget x1 p) with|none=>none|some v0=>(cond (iltI (Int.ofNat 6000) (Int.ofNat v0.2.1.size)) (some (false,())) (L2 (IntKind.i64.wrap (Int.add p (Int.ofNat 1)))))) (cond (Bool.not (iltI (Int.ofNat 12) (Int.ofNat x1.length))) (some (true,())) (cond (iltI (Int.ofNat 60) (Int.ofNat x1.length)) (some ((Bool.not (iltI (Int.ofNat 100) (Int.ofNat x1.length))),())) (some (false,())))))
abbrev gz1:Type:=ElA [(.list cCell)]->Option Rtz1
abbrev sz1(g:gz1):Sm:=⟨[(.list cCell)],[(false,.bool)],g⟩
abbrev Ez1(g:gz1)(J:JT Rtz1)(lf:Nat)(x1:(List qaa)):=qbf Tryz.prog ttT.get nmz1 fi17.nt (clz1 _ lf) lf stz1 J fi17.body [] (qat (argV [(.list cCell)] (x1,())) 0 .leaf) S0 [] (qam ttT.get fi17 (sz1 g))
abbrev Bz1(g:gz1)(J:JT Rtz1)(lf k:Nat)(ms:List Nat)(q:NRes):=qbl Tryz.prog ttT.get nmz1 fi17.nt (clz1 _ lf) lf stz1 J k fi17.body [] ms q (qam ttT.get fi17 (sz1 g))
theorem inz1(g:gz1)(J:JT Rtz1)(lf:Nat)(x1:(List qaa)):Ez1 g J lf x1=quj lf x1 (fun q=>J 2 [lf] (qjt x1 q)):=by kernel_rfl
theorem z1d(g:gz1)(J:JT Rtz1)(lf:Nat)(x1:(List qaa))(m1:Nat)(p:Int):Bz1 g J lf 2 [m1] (qjt x1 p)=ql5 lf x1 (fun q=>J 2 [m1] (qjt x1 q)) p:=by kernel_rfl
theorem ndz1:(regs fi17.body).Nodup:=by decide +kernel
theorem okz1:okC nmz1 stz1 hdz1 fi17.body none=true:=by kernel_rfl
def Az1(g:gz1)(lf:Nat):JT Rtz1:=atN Tryz.prog ttT.get nmz1 fi17 (sz1 g) (clz1 _ lf) lf hdz1
def qqn(lf:Nat)(x1:(List qaa)):Nat->(Int)->Option Rtz1:=qav fun K p=>ql5 lf x1 K p
theorem q2c(g:gz1)(lf:Nat)(x1:(List qaa)):∀(n:Nat) (p:Int),Az1 g lf 2 [n] (qjt x1 p)=qqn lf x1 n p
 | 0,p=>qa7 2 [0] rfl _
 | n+1,p=>by
  have ih:=q2c g lf x1 n;refine(qa8 (qaz 20 _) ndz1 okz1 2 [n+1] [n] rfl _).trans ((z1d g (Az1 g lf) lf x1 n p).trans ?_);rw[(show (fun q=>Az1 g lf 2 [n] (qjt x1 q))=(fun q=>qqn lf x1 n q) from funext ih)];rfl
def Fz1(lf:Nat)(x1:(List qaa)):Option Rtz1:=quj lf x1 (fun q=>qqn lf x1 lf q)
theorem zst(g:gz1)(lf:Nat)(x1:(List qaa)):Ez1 g (Az1 g lf) lf x1=Fz1 lf x1:=by
  refine(inz1 g (Az1 g lf) lf x1).trans ?_;rw[(show (fun q=>Az1 g lf 2 [lf] (qjt x1 q))=(fun q=>qqn lf x1 lf q) from funext fun q=>q2c g lf x1 lf q)];rfl
theorem z16:qa3 Tryz.prog q17:=trivial
theorem mkz1{g:gz1}(hsm:SmOK Tryz.prog q8n)(hg:∀(x:ElA [(.list cCell)]) (y:Rtz1),WfA [(.list cCell)] x->g x=some y->∃lf,Fz1 lf x.1=some y):Con Tryz.prog 17 ⟨[(.list cCell)],[(false,.bool)],g⟩ :=
 conV (st:=stz1) (fun lf x=>Fz1 lf x.1) cm3 zue z16 ndz1 okz1 (fun lf x=>zst g lf x.1) hsm hg
abbrev qpr:Type:=qad × Bool × Unit
abbrev zzh:Nat:=52
def q6q(lf:Nat)(x1:Int):Option qpr:=(cond (ieqI (S.newDisk x1).2 (Int.ofNat 0)) (cond (ieqI (S.format ((S.newDisk x1).1.1,(S.newDisk x1).1.2)).2 (Int.ofNat 0)) (cond (ieqI (S.doD ((S.newDisk x1).1.1,(S.newDisk x1).1.2) (S.format ((S.newDisk x1).1.1,(S.newDisk x1).1.2)).1).2 (Int.ofNat 0)) (some ((((S.open_ ((S.doD ((S.newDisk x1).1.1,(S.newDisk x1).1.2) (S.format ((S.newDisk x1).1.1,(S.newDisk x1).1.2)).1).1.1,(S.doD ((S.newDisk x1).1.1,(S.newDisk x1).1.2) (S.format ((S.newDisk x1).1.1,(S.newDisk x1).1.2)).1).1.2)).1.1.1,(S.open_ ((S.doD ((S.newDisk x1).1.1,(S.newDisk x1).1.2) (S.format ((S.newDisk x1).1.1,(S.newDisk x1).1.2)).1).1.1,(S.doD ((S.newDisk x1).1.1,(S.newDisk x1).1.2) (S.format ((S.newDisk x1).1.1,(S.newDisk x1).1.2)).1).1.2)).1.1.2),((S.open_ ((S.doD ((S.newDisk x1).1.1,(S.newDisk x1).1.2) (S.format ((S.newDisk x1).1.1,(S.newDisk x1).1.2)).1).1.1,(S.doD ((S.newDisk x1).1.1,(S.newDisk x1).1.2) (S.format ((S.newDisk x1).1.1,(S.newDisk x1).1.2)).1).1.2)).1.2.1,((S.open_ ((S.doD ((S.newDisk x1).1.1,(S.newDisk x1).1.2) (S.format ((S.newDisk x1).1.1,(S.newDisk x1).1.2)).1).1.1,(S.doD ((S.newDisk x1).1.1,(S.newDisk x1).1.2) (S.format ((S.newDisk x1).1.1,(S.newDisk x1).1.2)).1).1.2)).1.2.2.1,(S.open_ ((S.doD ((S.newDisk x1).1.1,(S.newDisk x1).1.2) (S.format ((S.newDisk x1).1.1,(S.newDisk x1).1.2)).1).1.1,(S.doD ((S.newDisk x1).1.1,(S.newDisk x1).1.2) (S.format ((S.newDisk x1).1.1,(S.newDisk x1).1.2)).1).1.2)).1.2.2.2))),((ieqI (S.open_ ((S.doD ((S.newDisk x1).1.1,(S.newDisk x1).1.2) (S.format ((S.newDisk x1).1.1,(S.newDisk x1).1.2)).1).1.1,(S.doD ((S.newDisk x1).1.1,(S.newDisk x1).1.2) (S.format ((S.newDisk x1).1.1,(S.newDisk x1).1.2)).1).1.2)).2 (Int.ofNat 0)),()))) (some ((((S.open_ ((S.doD ((S.newDisk x1).1.1,(S.newDisk x1).1.2) (S.format ((S.newDisk x1).1.1,(S.newDisk x1).1.2)).1).1.1,(S.doD ((S.newDisk x1).1.1,(S.newDisk x1).1.2) (S.format ((S.newDisk x1).1.1,(S.newDisk x1).1.2)).1).1.2)).1.1.1,(S.open_ ((S.doD ((S.newDisk x1).1.1,(S.newDisk x1).1.2) (S.format ((S.newDisk x1).1.1,(S.newDisk x1).1.2)).1).1.1,(S.doD ((S.newDisk x1).1.1,(S.newDisk x1).1.2) (S.format ((S.newDisk x1).1.1,(S.newDisk x1).1.2)).1).1.2)).1.1.2),((S.open_ ((S.doD ((S.newDisk x1).1.1,(S.newDisk x1).1.2) (S.format ((S.newDisk x1).1.1,(S.newDisk x1).1.2)).1).1.1,(S.doD ((S.newDisk x1).1.1,(S.newDisk x1).1.2) (S.format ((S.newDisk x1).1.1,(S.newDisk x1).1.2)).1).1.2)).1.2.1,((S.open_ ((S.doD ((S.newDisk x1).1.1,(S.newDisk x1).1.2) (S.format ((S.newDisk x1).1.1,(S.newDisk x1).1.2)).1).1.1,(S.doD ((S.newDisk x1).1.1,(S.newDisk x1).1.2) (S.format ((S.newDisk x1).1.1,(S.newDisk x1).1.2)).1).1.2)).1.2.2.1,(S.open_ ((S.doD ((S.newDisk x1).1.1,(S.newDisk x1).1.2) (S.format ((S.newDisk x1).1.1,(S.newDisk x1).1.2)).1).1.1,(S.doD ((S.newDisk x1).1.1,(S.newDisk x1).1.2) (S.format ((S.newDisk x1).1.1,(S.newDisk x1).1.2)).1).1.2)).1.2.2.2))),(false,())))) (some ((((S.open_ ((S.doD ((S.newDisk x1).1.1,(S.newDisk x1).1.2) (S.format ((S.newDisk x1).1.1,(S.newDisk x1).1.2)).1).1.1,(S.doD ((S.newDisk x1).1.1,(S.newDisk x1).1.2) (S.format ((S.newDisk x1).1.1,(S.newDisk x1).1.2)).1).1.2)).1.1.1,(S.open_ ((S.doD ((S.newDisk x1).1.1,(S.newDisk x1).1.2) (S.format ((S.newDisk x1).1.1,(S.newDisk x1).1.2)).1).1.1,(S.doD ((S.newDisk x1).1.1,(S.newDisk x1).1.2) (S.format ((S.newDisk x1).1.1,(S.newDisk x1).1.2)).1).1.2)).1.1.2),((S.open_ ((S.doD ((S.newDisk x1).1.1,(S.newDisk x1).1.2) (S.format ((S.newDisk x1).1.1,(S.newDisk x1).1.2)).1).1.1,(S.doD ((S.newDisk x1).1.1,(S.newDisk x1).1.2) (S.format ((S.newDisk x1).1.1,(S.newDisk x1).1.2)).1).1.2)).1.2.1,((S.open_ ((S.doD ((S.newDisk x1).1.1,(S.newDisk x1).1.2) (S.format ((S.newDisk x1).1.1,(S.newDisk x1).1.2)).1).1.1,(S.doD ((S.newDisk x1).1.1,(S.newDisk x1).1.2) (S.format ((S.newDisk x1).1.1,(S.newDisk x1).1.2)).1).1.2)).1.2.2.1,(S.open_ ((S.doD ((S.newDisk x1).1.1,(S.newDisk x1).1.2) (S.format ((S.newDisk x1).1.1,(S.newDisk x1).1.2)).1).1.1,(S.doD ((S.newDisk x1).1.1,(S.newDisk x1).1.2) (S.format ((S.newDisk x1).1.1,(S.newDisk x1).1.2)).1).1.2)).1.2.2.2))),(false,())))) (some ((((S.open_ ((S.doD ((S.newDisk x1).1.1,(S.newDisk x1).1.2) (S.format ((S.newDisk x1).1.1,(S.newDisk x1).1.2)).1).1.1,(S.doD ((S.newDisk x1).1.1,(S.newDisk x1).1.2) (S.format ((S.newDisk x1).1.1,(S.newDisk x1).1.2)).1).1.2)).1.1.1,(S.open_ ((S.doD ((S.newDisk x1).1.1,(S.newDisk x1).1.2) (S.format ((S.newDisk x1).1.1,(S.newDisk x1).1.2)).1).1.1,(S.doD ((S.newDisk x1).1.1,(S.newDisk x1).1.2) (S.format ((S.newDisk x1).1.1,(S.newDisk x1).1.2)).1).1.2)).1.1.2),((S.open_ ((S.doD ((S.newDisk x1).1.1,(S.newDisk x1).1.2) (S.format ((S.newDisk x1).1.1,(S.newDisk x1).1.2)).1).1.1,(S.doD ((S.newDisk x1).1.1,(S.newDisk x1).1.2) (S.format ((S.newDisk x1).1.1,(S.newDisk x1).1.2)).1).1.2)).1.2.1,((S.open_ ((S.doD ((S.newDisk x1).1.1,(S.newDisk x1).1.2) (S.format ((S.newDisk x1).1.1,(S.newDisk x1).1.2)).1).1.1,(S.doD ((S.newDisk x1).1.1,(S.newDisk x1).1.2) (S.format ((S.newDisk x1).1.1,(S.newDisk x1).1.2)).1).1.2)).1.2.2.1,(S.open_ ((S.doD ((S.newDisk x1).1.1,(S.newDisk x1).1.2) (S.format ((S.newDisk x1).1.1,(S.newDisk x1).1.2)).1).1.1,(S.doD ((S.newDisk x1).1.1,(S.newDisk x1).1.2) (S.format ((S.newDisk x1).1.1,(S.newDisk x1).1.2)).1).1.2)).1.2.2.2))),(false,()))))
def qqu(lf:Nat)(x1:Int):Option qpr:=q6q lf x1
theorem zxp{g:ElA [(.int .i64)]->Option qpr}(hsm:SmOK Tryz.prog [(28,q68),(11,q9a),(32,qvu),(13,za4)])(hg:∀(x:ElA [(.int .i64)]) (y:qpr),WfA [(.int .i64)] x->g x=some y->∃lf,qqu lf x.1=some y):Con Tryz.prog 52 ⟨[(.int .i64)],[(false,cJournal),(false,.bool)],g⟩ :=
 conU (fi:=fi52) (hxl:=[]) (fun lf x=>qqu lf x.1) cm3 ztu trivial hsm hg
abbrev qp8:Type:=Bool × Unit
abbrev zes:Nat:=4
def q95(lf:Nat)(x1:qad)(x2:Int)(x3:(List qaa)):Option qp8:=(cond (Bool.not (S.few (x1.1.1,x1.1.2))) (some (true,())) (cond (Bool.not (S.shortL x3)) (some (true,())) (cond (iltI (Int.ofNat 300) (Int.ofNat x1.2.2.2.length)) (some (true,())) (cond (S.sameA (S.plan ((x1.1.1,x1.1.2),(x1.2.1,(x1.2.2.1,x1.2.2.2))) x3).1 (S.plan ((x1.1.1,x1.1.2),(x1.2.1,(x1.2.2.1,x1.2.2.2))) x3).1) (cond (S.sameJ (((S.commitJ ((x1.1.1,x1.1.2),(x1.2.1,(x1.2.2.1,x1.2.2.2))) x3).1.1.1,(S.commitJ ((x1.1.1,x1.1.2),(x1.2.1,(x1.2.2.1,x1.2.2.2))) x3).1.1.2),((S.commitJ ((x1.1.1,x1.1.2),(x1.2.1,(x1.2.2.1,x1.2.2.2))) x3).1.2.1,((S.commitJ ((x1.1.1,x1.1.2),(x1.2.1,(x1.2.2.1,x1.2.2.2))) x3).1.2.2.1,(S.commitJ ((x1.1.1,x1.1.2),(x1.2.1,(x1.2.2.1,x1.2.2.2))) x3).1.2.2.2))) (((S.commitJ ((x1.1.1,x1.1.2),(x1.2.1,(x1.2.2.1,x1.2.2.2))) x3).1.1.1,(S.commitJ ((x1.1.1,x1.1.2),(x1.2.1,(x1.2.2.1,x1.2.2.2))) x3).1.1.2),((S.commitJ ((x1.1.1,x1.1.2),(x1.2.1,(x1.2.2.1,x1.2.2.2))) x3).1.2.1,((S.commitJ ((x1.1.1,x1.1.2),(x1.2.1,(x1.2.2.1,x1.2.2.2))) x3).1.2.2.1,(S.commitJ ((x1.1.1,x1.1.2),(x1.2.1,(x1.2.2.1,x1.2.2.2))) x3).1.2.2.2)))) (cond (keqS (S.value ((x1.1.1,x1.1.2),(x1.2.1,(x1.2.2.1,x1.2.2.2))) x2).1 (S.value ((x1.1.1,x1.1.2),(x1.2.1,(x1.2.2.1,x1.2.2.2))) x2).1) (cond (Decidable.decide (Eq (S.value ((x1.1.1,x1.1.2),(x1.2.1,(x1.2.2.1,x1.2.2.2))) x2).2.1 (S.value ((x1.1.1,x1.1.2),(x1.2.1,(x1.2.2.1,x1.2.2.2))) x2).2.1)) (cond (ieqI (S.value ((x1.1.1,x1.1.2),(x1.2.1,(x1.2.2.1,x1.2.2.2))) x2).2.2 (S.value ((x1.1.1,x1.1.2),(x1.2.1,(x1.2.2.1,x1.2.2.2))) x2).2.2) (cond (ieqI (S.room ((x1.1.1,x1.1.2),(x1.2.1,(x1.2.2.1,x1.2.2.2)))).1 (S.room ((x1.1.1,x1.1.2),(x1.2.1,(x1.2.2.1,x1.2.2.2)))).1) (cond (ieqI (S.room ((x1.1.1,x1.1.2),(x1.2.1,(x1.2.2.1,x1.2.2.2)))).2 (S.room ((x1.1.1,x1.1.2),(x1.2.1,(x1.2.2.1,x1.2.2.2)))).2) (cond (ieqI (S.size x3).1 (S.size x3).1) (cond (ieqI (S.size x3).2 (S.size x3).2) (cond (ieqI (S.plan ((x1.1.1,x1.1.2),(x1.2.1,(x1.2.2.1,x1.2.2.2))) x3).2 (S.plan ((x1.1.1,x1.1.2),(x1.2.1,(x1.2.2.1,x1.2.2.2))) x3).2) (some ((ieqI (S.commitJ ((x1.1.1,x1.1.2),(x1.2.1,(x1.2.2.1,x1.2.2.2))) x3).2 (S.commitJ ((x1.1.1,x1.1.2),(x1.2.1,(x1.2.2.1,x1.2.2.2))) x3).2),())) (some (false,()))) (some (false,()))) (some (false,()))) (some (false,()))) (some (false,()))) (some (false,()))) (some (false,()))) (some (false,()))) (some (false,()))) (some (false,()))))))
def qqa(lf:Nat)(x1:qad)(x2:Int)(x3:(List qaa)):Option qp8:=q95 lf x1 x2 x3
theorem zgp{g:ElA [cJournal,(.int .i64),(.list cCell)]->Option qp8}(hsm:SmOK Tryz.prog [(9,q3e),(10,q8y),(17,spz1),(18,q96),(19,q1y),(20,q1k),(21,q81),(22,qo1),(23,qu7),(24,qvw),(25,qzx),(26,q77),(27,q80),(15,zbh),(16,qvz)])(hg:∀(x:ElA [cJournal,(.int .i64),(.list cCell)]) (y:qp8),WfA [cJournal,(.int .i64),(.list cCell)] x->g x=some y->∃lf,qqa lf x.1 x.2.1 x.2.2.1=some y):Con Tryz.prog 4 ⟨[cJournal,(.int .i64),(.list cCell)],[(false,.bool)],g⟩ :=
 conU (fi:=fi4) (hxl:=[]) (fun lf x=>qqa lf x.1 x.2.1 x.2.2.1) cm3 cal4 trivial hsm hg
def nmz2:Nat->Option Nm:=fun k=>cond (Nat.beq k 2) (some ⟨[0,4],[(4,cCell)],[],[],[],0,0,false⟩) (none)
def stz2:Nat->Bool:=fun k=>cond (Nat.beq k 2) true (false)
def hdz2:=stz2
abbrev Rtz2:Type:=(List qaa) × Bool × Unit
def zdr:List (Nat × Sm):=[]
def zer:List (Nat × Hx):=[]
def clz2(R:Type)(lf:Nat):ClK R:=qa0 Tryz.prog ttT.get ftT.get (nm1 121 nmz2) (smL zdr) (hxL zer) lf 20 R
abbrev idz2:Nat:=121
def qh2(x1:ByteArray)(p:ByteArray × (List qaa)):NRes:=(NRes.mk (.node (some (IV.str p.1)) .leaf (.node none (.node (some (IV.arr 0)) .leaf .leaf) .leaf)) (IS.mk (.node (some (IObj.arr cCell p.2)) .leaf .leaf) 1) [] 0)
def qvx(lf:Nat)(x1:ByteArray)(L2:(ByteArray × (List qaa))->Option Rtz2):Option Rtz2:=(L2 (x1,[]))
def qoh(lf:Nat)(x1:ByteArray)(L2:(ByteArray × (List qaa))->Option Rtz2)(p:ByteArray × (List qaa)):Option Rtz2:=(cond (iltI (Int.ofNat 0) (Int.ofNat p.1.size)) (cond (iltI (Int.ofNat p.1.size) (Int.ofNat 3)) (some ([],(false,()))) (match (jget (qab p.1) (Int.ofNat 0)) with|none=>none|some v0=>(match (jget (qab p.1) (Int.ofNat 1)) with|none=>none|some v1=>(match (jget (qab p.1) (Int.ofNat 2)) with|none=>none|some v2=>(cond (lchk (Int.ofNat 3) (Int.ofNat p.1.size) (Int.ofNat p.1.size) (Int.ofNat p.1.size)) (cond (iltI (Int.ofNat 199) (IntKind.i64.wrap v0)) (some ([],(false,()))) (cond (iltI (Int.ofNat 0) (Int.ofNat p.2.length)) (match (jget p.2 (IntKind.i64.wrap (Int.sub (Int.ofNat p.2.length) (Int.ofNat 1)))) with|none=>none|some v3=>(match (GetElem?.getElem? p.2 (Int.toNat (IntKind.i64.wrap (Int.sub (Int.ofNat p.2.length) (Int.ofNat 1))))) with|none=>none|some v4=>(cond (Bool.not (iltI v4.1 (IntKind.i64.wrap v0))) (some ([],(false,()))) (cond (iltI (IntKind.i64.wrap (Int.ofNat (Nat.add (ByteArray.size (ByteArray.extract p.1 3 (Int.toNat (Int.ofNat p.1.size)))) 1))) (IntKind.i64.wrap (Int.add (IntKind.i64.wrap (Int.mul (IntKind.i64.wrap v1) (Int.ofNat 256))) (IntKind.i64.wrap v2)))) (some ([],(false,()))) (cond (iltI (Int.ofNat 4001) (IntKind.i64.wrap (Int.add (IntKind.i64.wrap (Int.mul (IntKind.i64.wrap v1) (Int.ofNat 256))) (IntKind.i64.wrap v2)))) (some ([],(false,()))) (cond (ieqI (IntKind.i64.wrap (Int.add (IntKind.i64.wrap (Int.mul (IntKind.i64.wrap v1) (Int.ofNat 256))) (IntKind.i64.wrap v2))) (Int.ofNat 0)) (cond (Nat.ble (Nat.mul (Nat.add p.2.length 1) 32) 140737488355328) (L2 ((ByteArray.extract p.1 3 (Int.toNat (Int.ofNat p.1.size))),(List.append p.2 (List.cons ((IntKind.i64.wrap v0),((S.lit []),true)) [])))) none) (cond (lchk (Int.ofNat 0) (IntKind.i64.wrap (Int.sub (IntKind.i64.wrap (Int.add (IntKind.i64.wrap (Int.mul (IntKind.i64.wrap v1) (Int.ofNat 256))) (IntKind.i64.wrap v2))) (Int.ofNat 1))) (Int.ofNat (ByteArray.size (ByteArray.extract p.1 3 (Int.toNat (Int.ofNat p.1.size))))) (Int.ofNat (ByteArray.size (ByteArray.extract p.1 3 (Int.toNat (Int.ofNat p.1.size)))))) (cond (lchk (IntKind.i64.wrap (Int.sub (IntKind.i64.wrap (Int.add (IntKind.i64.wrap (Int.mul (IntKind.i64.wrap v1) (Int.ofNat 256))) (IntKind.i64.wrap v2))) (Int.ofNat 1))) (Int.ofNat (ByteArray.size (ByteArray.extract p.1 3 (Int.toNat (Int.ofNat p.1.size))))) (Int.ofNat (ByteArray.size (ByteArray.extract p.1 3 (Int.toNat (Int.ofNat p.1.size))))) (Int.ofNat (ByteArray.size (ByteArray.extract p.1 3 (Int.toNat (Int.ofNat p.1.size)))))) (cond (Nat.ble (Nat.mul (Nat.add p.2.length 1) 32) 140737488355328) (L2 ((ByteArray.extract (ByteArray.extract p.1 3 (Int.toNat (Int.ofNat p.1.size))) (Int.toNat (IntKind.i64.wrap (Int.sub (IntKind.i64.wrap (Int.add (IntKind.i64.wrap (Int.mul (IntKind.i64.wrap v1) (Int.ofNat 256))) (IntKind.i64.wrap v2))) (Int.ofNat 1)))) (Int.toNat (Int.ofNat (ByteArray.size (ByteArray.extract p.1 3 (Int.toNat (Int.ofNat p.1.size))))))),(List.append p.2 (List.cons ((IntKind.i64.wrap v0),((ByteArray.extract (ByteArray.extract p.1 3 (Int.toNat (Int.ofNat p.1.size))) 0 (Int.toNat (IntKind.i64.wrap (Int.sub (IntKind.i64.wrap (Int.add (IntKind.i64.wrap (Int.mul (IntKind.i64.wrap v1) (Int.ofNat 256))) (IntKind.i64.wrap v2))) (Int.ofNat 1))))),false)) [])))) none) none) none))))))) (cond (iltI (IntKind.i64.wrap (Int.ofNat (Nat.add (ByteArray.size (ByteArray.extract p.1 3 (Int.toNat (Int.ofNat p.1.size)))) 1))) (IntKind.i64.wrap (Int.add (IntKind.i64.wrap (Int.mul (IntKind.i64.wrap v1) (Int.ofNat 256))) (IntKind.i64.wrap v2)))) (some ([],(false,()))) (cond (iltI (Int.ofNat 4001) (IntKind.i64.wrap (Int.add (IntKind.i64.wrap (Int.mul (IntKind.i64.wrap v1) (Int.ofNat 256))) (IntKind.i64.wrap v2)))) (some ([],(false,()))) (cond (ieqI (IntKind.i64.wrap (Int.add (IntKind.i64.wrap (Int.mul (IntKind.i64.wrap v1) (Int.ofNat 256))) (IntKind.i64.wrap v2))) (Int.ofNat 0)) (cond (Nat.ble (Nat.mul (Nat.add p.2.length 1) 32) 140737488355328) (L2 ((ByteArray.extract p.1 3 (Int.toNat (Int.ofNat p.1.size))),(List.append p.2 (List.cons ((IntKind.i64.wrap v0),((S.lit []),true)) [])))) none) (cond (lchk (Int.ofNat 0) (IntKind.i64.wrap (Int.sub (IntKind.i64.wrap (Int.add (IntKind.i64.wrap (Int.mul (IntKind.i64.wrap v1) (Int.ofNat 256))) (IntKind.i64.wrap v2))) (Int.ofNat 1))) (Int.ofNat (ByteArray.size (ByteArray.extract p.1 3 (Int.toNat (Int.ofNat p.1.size))))) (Int.ofNat (ByteArray.size (ByteArray.extract p.1 3 (Int.toNat (Int.ofNat p.1.size)))))) (cond (lchk (IntKind.i64.wrap (Int.sub (IntKind.i64.wrap (Int.add (IntKind.i64.wrap (Int.mul (IntKind.i64.wrap v1) (Int.ofNat 256))) (IntKind.i64.wrap v2))) (Int.ofNat 1))) (Int.ofNat (ByteArray.size (ByteArray.extract p.1 3 (Int.toNat (Int.ofNat p.1.size))))) (Int.ofNat (ByteArray.size (ByteArray.extract p.1 3 (Int.toNat (Int.ofNat p.1.size))))) (Int.ofNat (ByteArray.size (ByteArray.extract p.1 3 (Int.toNat (Int.ofNat p.1.size)))))) (cond (Nat.ble (Nat.mul (Nat.add p.2.length 1) 32) 140737488355328) (L2 ((ByteArray.extract (ByteArray.extract p.1 3 (Int.toNat (Int.ofNat p.1.size))) (Int.toNat (IntKind.i64.wrap (Int.sub (IntKind.i64.wrap (Int.add (IntKind.i64.wrap (Int.mul (IntKind.i64.wrap v1) (Int.ofNat 256))) (IntKind.i64.wrap v2))) (Int.ofNat 1)))) (Int.toNat (Int.ofNat (ByteArray.size (ByteArray.extract p.1 3 (Int.toNat (Int.ofNat p.1.size))))))),(List.append p.2 (List.cons ((IntKind.i64.wrap v0),((ByteArray.extract (ByteArray.extract p.1 3 (Int.toNat (Int.ofNat p.1.size))) 0 (Int.toNat (IntKind.i64.wrap (Int.sub (IntKind.i64.wrap (Int.add (IntKind.i64.wrap (Int.mul (IntKind.i64.wrap v1) (Int.ofNat 256))) (IntKind.i64.wrap v2))) (Int.ofNat 1))))),false)) [])))) none) none) none)))))) none))))) (some (p.2,(true,()))))
abbrev gz2:Type:=ElA [.str]->Option Rtz2
abbrev sz2(g:gz2):Sm:=⟨[.str],[(true,cCell),(false,.bool)],g⟩
abbrev Ez2(g:gz2)(J:JT Rtz2)(lf:Nat)(x1:ByteArray):=qbf Tryz.prog ttT.get nmz2 qeg.nt (clz2 _ lf) lf stz2 J qeg.body [] (qat (argV [.str] (x1,())) 0 .leaf) S0 [] (qam ttT.get qeg (sz2 g))
abbrev Bz2(g:gz2)(J:JT Rtz2)(lf k:Nat)(ms:List Nat)(q:NRes):=qbl Tryz.prog ttT.get nmz2 qeg.nt (clz2 _ lf) lf stz2 J k qeg.body [] ms q (qam ttT.get qeg (sz2 g))
theorem inz2(g:gz2)(J:JT Rtz2)(lf:Nat)(x1:ByteArray):Ez2 g J lf x1=qvx lf x1 (fun q=>J 2 [lf] (qh2 x1 q)):=by kernel_rfl
theorem zq6(g:gz2)(J:JT Rtz2)(lf:Nat)(x1:ByteArray)(m1:Nat)(p:ByteArray × (List qaa)):Bz2 g J lf 2 [m1] (qh2 x1 p)=qoh lf x1 (fun q=>J 2 [m1] (qh2 x1 q)) p:=by kernel_rfl
theorem ndz2:(regs qeg.body).Nodup:=by decide +kernel
theorem okz2:okC nmz2 stz2 hdz2 qeg.body none=true:=by kernel_rfl
def Az2(g:gz2)(lf:Nat):JT Rtz2:=atN Tryz.prog ttT.get nmz2 qeg (sz2 g) (clz2 _ lf) lf hdz2
def qi4(lf:Nat)(x1:ByteArray):Nat->(ByteArray × (List qaa))->Option Rtz2:=qav fun K p=>qoh lf x1 K p
theorem q2z(g:gz2)(lf:Nat)(x1:ByteArray):∀(n:Nat) (p:ByteArray × (List qaa)),Az2 g lf 2 [n] (qh2 x1 p)=qi4 lf x1 n p
 | 0,p=>qa7 2 [0] rfl _
 | n+1,p=>by
  have ih:=q2z g lf x1 n;refine(qa8 (qaz 20 _) ndz2 okz2 2 [n+1] [n] rfl _).trans ((zq6 g (Az2 g lf) lf x1 n p).trans ?_);rw[(show (fun q=>Az2 g lf 2 [n] (qh2 x1 q))=(fun q=>qi4 lf x1 n q) from funext ih)];rfl
def Fz2(lf:Nat)(x1:ByteArray):Option Rtz2:=qvx lf x1 (fun q=>qi4 lf x1 lf q)
theorem zyq(g:gz2)(lf:Nat)(x1:ByteArray):Ez2 g (Az2 g lf) lf x1=Fz2 lf x1:=by
  refine(inz2 g (Az2 g lf) lf x1).trans ?_;rw[(show (fun q=>Az2 g lf 2 [lf] (qh2 x1 q))=(fun q=>qi4 lf x1 lf q) from funext fun q=>q2z g lf x1 lf q)];rfl
theorem zzj:qa3 Tryz.prog zer:=trivial
theorem mkz2{g:gz2}(hsm:SmOK Tryz.prog zdr)(hg:∀(x:ElA [.str]) (y:Rtz2),WfA [.str] x->g x=some y->∃lf,Fz2 lf x.1=some y):Con Tryz.prog 121 ⟨[.str],[(true,cCell),(false,.bool)],g⟩ :=
 conV (st:=stz2) (fun lf x=>Fz2 lf x.1) cm3 zhe zzj ndz2 okz2 (fun lf x=>zyq g lf x.1) hsm hg
def nmz3:Nat->Option Nm:=fun k=>cond (Nat.beq k 8) (some ⟨[2,4,5,6,46,47,48],[],[],[],[],0,0,false⟩) (cond (Nat.beq k 14) (some ⟨[2,5,6,9,10,11],[(9,cCell)],[],[],[],0,0,false⟩) (none))
def stz3:Nat->Bool:=fun k=>cond (Nat.beq k 8) true (cond (Nat.beq k 14) true (false))
def hdz3:=stz3
abbrev Rtz3:Type:=qfi × Unit
def zeh:List (Nat × Sm):=[(121,spz2)]
def za0:List (Nat × Hx):=[]
def clz3(R:Type)(lf:Nat):ClK R:=qa0 Tryz.prog ttT.get ftT.get (nm1 112 nmz3) (smL zeh) (hxL za0) lf 20 R
abbrev idz3:Nat:=112
def qiv(x1:(List ByteArray))(p:Int × Int × ByteArray):NRes:=(NRes.mk (.node none (.node none (.node none (.node none (.node none .leaf (.node (some (IV.int .i64 (Int.ofNat (List.length (lsub x1 (Int.ofNat 0) (IntKind.i64.wrap (Int.tdiv (IntKind.i64.wrap (Int.sub (IntKind.i64.wrap (Int.add (IntKind.i64.wrap (Int.add p.1 (Int.ofNat 4))) (Int.ofNat 64))) (Int.ofNat 1))) (Int.ofNat 64)))))))) .leaf .leaf)) .leaf) .leaf) (.node (some (IV.int .i64 (IntKind.i64.wrap (Int.tdiv (IntKind.i64.wrap (Int.sub (IntKind.i64.wrap (Int.add (IntKind.i64.wrap (Int.add p.1 (Int.ofNat 4))) (Int.ofNat 64))) (Int.ofNat 1))) (Int.ofNat 64))))) .leaf .leaf)) (.node (some (IV.ptr 0 0)) (.node (some (IV.int .i64 p.1)) (.node none (.node none .leaf (.node (some (IV.int .i64 p.2.1)) .leaf .leaf)) .leaf) .leaf) (.node (some (IV.str p.2.2)) .leaf (.node none .leaf (.node none (.node (some (IV.lst TC.str (lsub x1 (Int.ofNat 0) (IntKind.i64.wrap (Int.tdiv (IntKind.i64.wrap (Int.sub (IntKind.i64.wrap (Int.add (IntKind.i64.wrap (Int.add p.1 (Int.ofNat 4))) (Int.ofNat 64))) (Int.ofNat 1))) (Int.ofNat 64)))))) .leaf .leaf) .leaf))))) (IS.mk (.node (some (IObj.row (List.cons IV.nilsl (List.cons (IV.int .i64 (Int.ofNat 0)) [(IV.bool false)])))) .leaf .leaf) 1) [] 0)
def qi0(x1:(List ByteArray))(p:(List qaa) × Bool × Int × Int × ByteArray):NRes:=(NRes.mk (.node none (.node none (.node none .leaf (.node (some (IV.int .i64 p.2.2.1)) .leaf .leaf)) (.node (some (IV.int .i64 p.2.2.2.1)) (.node (some (IV.arr 1)) .leaf .leaf) .leaf)) (.node (some (IV.ptr 0 0)) .leaf (.node (some (IV.str p.2.2.2.2)) (.node (some (IV.bool p.2.1)) .leaf .leaf) .leaf))) (IS.mk (.node (some (IObj.row (List.cons IV.nilsl (List.cons (IV.int .i64 (Int.ofNat 0)) [(IV.bool false)])))) (.node (some (IObj.arr cCell p.1)) .leaf .leaf) .leaf) 2) [] 0)
def qwc(lf:Nat)(x1:(List ByteArray))(L8:(Int × Int × ByteArray)->Option Rtz3):Option Rtz3:=(match (jget x1 (Int.ofNat 0)) with|none=>none|some v0=>(match (jget (qab v0) (Int.ofNat 1)) with|none=>none|some v1=>(match (jget (qab v0) (Int.ofNat 2)) with|none=>none|some v2=>(match (jget (qab v0) (Int.ofNat 3)) with|none=>none|some v3=>(match (jget (qab v0) (Int.ofNat 0)) with|none=>none|some v4=>(cond (Bool.not (ieqI v4 (Int.ofNat 1))) (some (([],((Int.ofNat 0),true)),())) (cond (iltI (Int.ofNat x1.length) (IntKind.i64.wrap (Int.tdiv (IntKind.i64.wrap (Int.sub (IntKind.i64.wrap (Int.add (IntKind.i64.wrap (Int.add (IntKind.i64.wrap (Int.add (IntKind.i64.wrap (Int.add (IntKind.i64.wrap (Int.mul (IntKind.i64.wrap v1) (Int.ofNat 65536))) (IntKind.i64.wrap (Int.mul (IntKind.i64.wrap v2) (Int.ofNat 256))))) (IntKind.i64.wrap v3))) (Int.ofNat 4))) (Int.ofNat 64))) (Int.ofNat 1))) (Int.ofNat 64)))) (some (([],((Int.ofNat 0),true)),())) (cond (lchk (Int.ofNat 0) (IntKind.i64.wrap (Int.tdiv (IntKind.i64.wrap (Int.sub (IntKind.i64.wrap (Int.add (IntKind.i64.wrap (Int.add (IntKind.i64.wrap (Int.add (IntKind.i64.wrap (Int.add (IntKind.i64.wrap (Int.mul (IntKind.i64.wrap v1) (Int.ofNat 65536))) (IntKind.i64.wrap (Int.mul (IntKind.i64.wrap v2) (Int.ofNat 256))))) (IntKind.i64.wrap v3))) (Int.ofNat 4))) (Int.ofNat 64))) (Int.ofNat 1))) (Int.ofNat 64))) (IntKind.i64.wrap (Int.tdiv (IntKind.i64.wrap (Int.sub (IntKind.i64.wrap (Int.add (IntKind.i64.wrap (Int.add (IntKind.i64.wrap (Int.add (IntKind.i64.wrap (Int.add (IntKind.i64.wrap (Int.mul (IntKind.i64.wrap v1) (Int.ofNat 65536))) (IntKind.i64.wrap (Int.mul (IntKind.i64.wrap v2) (Int.ofNat 256))))) (IntKind.i64.wrap v3))) (Int.ofNat 4))) (Int.ofNat 64))) (Int.ofNat 1))) (Int.ofNat 64))) (Int.ofNat x1.length)) (L8 ((IntKind.i64.wrap (Int.add (IntKind.i64.wrap (Int.add (IntKind.i64.wrap (Int.mul (IntKind.i64.wrap v1) (Int.ofNat 65536))) (IntKind.i64.wrap (Int.mul (IntKind.i64.wrap v2) (Int.ofNat 256))))) (IntKind.i64.wrap v3))),(Int.ofNat 0),(S.lit []))) none))))))))
def ql4(lf:Nat)(x1:(List ByteArray))(L8:(Int × Int × ByteArray)->Option Rtz3)(L14:((List qaa) × Bool × Int × Int × ByteArray)->Option Rtz3)(p:Int × Int × ByteArray):Option Rtz3:=(cond (iltI p.2.1 (Int.ofNat (List.length (lsub x1 (Int.ofNat 0) (IntKind.i64.wrap (Int.tdiv (IntKind.i64.wrap (Int.sub (IntKind.i64.wrap (Int.add (IntKind.i64.wrap (Int.add p.1 (Int.ofNat 4))) (Int.ofNat 64))) (Int.ofNat 1))) (Int.ofNat 64))))))) (match (jget (lsub x1 (Int.ofNat 0) (IntKind.i64.wrap (Int.tdiv (IntKind.i64.wrap (Int.sub (IntKind.i64.wrap (Int.add (IntKind.i64.wrap (Int.add p.1 (Int.ofNat 4))) (Int.ofNat 64))) (Int.ofNat 1))) (Int.ofNat 64)))) p.2.1) with|none=>none|some v0=>(cond (Nat.ble (Nat.succ (Nat.add p.2.2.size v0.size)) 9223372036854775808) (L8 (p.1,(IntKind.i64.wrap (Int.add p.2.1 (Int.ofNat 1))),(ByteArray.append p.2.2 v0))) none)) (cond (lchk (Int.ofNat 4) (IntKind.i64.wrap (Int.add (Int.ofNat 4) p.1)) (Int.ofNat p.2.2.size) (Int.ofNat p.2.2.size)) (match (cond (Nat.ble (ByteArray.size (ByteArray.extract p.2.2 4 (Int.toNat (IntKind.i64.wrap (Int.add (Int.ofNat 4) p.1))))) 1000000) (some ((S.chg (ByteArray.extract p.2.2 4 (Int.toNat (IntKind.i64.wrap (Int.add (Int.ofNat 4) p.1))))).1,((S.chg (ByteArray.extract p.2.2 4 (Int.toNat (IntKind.i64.wrap (Int.add (Int.ofNat 4) p.1))))).2,()))) none) with|none=>none|some v127=>(L14 (v127.1,v127.2.1,(IntKind.i64.wrap (Int.add (Int.ofNat 4) p.1)),(IntKind.i64.wrap (Int.tdiv (IntKind.i64.wrap (Int.sub (IntKind.i64.wrap (Int.add (IntKind.i64.wrap (Int.add p.1 (Int.ofNat 4))) (Int.ofNat 64))) (Int.ofNat 1))) (Int.ofNat 64))),p.2.2))) none))
def qje(lf:Nat)(x1:(List ByteArray))(L14:((List qaa) × Bool × Int × Int × ByteArray)->Option Rtz3)(p:(List qaa) × Bool × Int × Int × ByteArray):Option Rtz3:=(cond (iltI p.2.2.1 (Int.ofNat p.2.2.2.2.size)) (cond p.2.1 (match (jget (qab p.2.2.2.2) p.2.2.1) with|none=>none|some v0=>(L14 (p.1,(ieqI v0 (Int.ofNat 0)),(IntKind.i64.wrap (Int.add p.2.2.1 (Int.ofNat 1))),p.2.2.2.1,p.2.2.2.2))) (L14 (p.1,false,(IntKind.i64.wrap (Int.add p.2.2.1 (Int.ofNat 1))),p.2.2.2.1,p.2.2.2.2))) (some ((p.1,(p.2.2.2.1,(Bool.not p.2.1))),())))
abbrev gz3:Type:=ElA [(.list .str)]->Option Rtz3
abbrev sz3(g:gz3):Sm:=⟨[(.list .str)],[(false,cKeepRecord)],g⟩
abbrev Ez3(g:gz3)(J:JT Rtz3)(lf:Nat)(x1:(List ByteArray)):=qbf Tryz.prog ttT.get nmz3 qd8.nt (clz3 _ lf) lf stz3 J qd8.body [] (qat (argV [(.list .str)] (x1,())) 0 .leaf) S0 [] (qam ttT.get qd8 (sz3 g))
abbrev Bz3(g:gz3)(J:JT Rtz3)(lf k:Nat)(ms:List Nat)(q:NRes):=qbl Tryz.prog ttT.get nmz3 qd8.nt (clz3 _ lf) lf stz3 J k qd8.body [] ms q (qam ttT.get qd8 (sz3 g))
theorem inz3(g:gz3)(J:JT Rtz3)(lf:Nat)(x1:(List ByteArray)):Ez3 g J lf x1=qwc lf x1 (fun q=>J 8 [lf] (qiv x1 q)):=by kernel_rfl
theorem zfz(g:gz3)(J:JT Rtz3)(lf:Nat)(x1:(List ByteArray))(m1:Nat)(p:Int × Int × ByteArray):Bz3 g J lf 8 [m1] (qiv x1 p)=ql4 lf x1 (fun q=>J 8 [m1] (qiv x1 q)) (fun q=>J 14 [lf] (qi0 x1 q)) p:=by kernel_rfl
theorem zm1(g:gz3)(J:JT Rtz3)(lf:Nat)(x1:(List ByteArray))(m1:Nat)(p:(List qaa) × Bool × Int × Int × ByteArray):Bz3 g J lf 14 [m1] (qi0 x1 p)=qje lf x1 (fun q=>J 14 [m1] (qi0 x1 q)) p:=by kernel_rfl
theorem ndz3:(regs qd8.body).Nodup:=by decide +kernel
theorem okz3:okC nmz3 stz3 hdz3 qd8.body none=true:=by kernel_rfl
def Az3(g:gz3)(lf:Nat):JT Rtz3:=atN Tryz.prog ttT.get nmz3 qd8 (sz3 g) (clz3 _ lf) lf hdz3
def qft(lf:Nat)(x1:(List ByteArray)):Nat->((List qaa) × Bool × Int × Int × ByteArray)->Option Rtz3:=qav fun K p=>qje lf x1 K p
theorem q7w(g:gz3)(lf:Nat)(x1:(List ByteArray)):∀(n:Nat) (p:(List qaa) × Bool × Int × Int × ByteArray),Az3 g lf 14 [n] (qi0 x1 p)=qft lf x1 n p
 | 0,p=>qa7 14 [0] rfl _
 | n+1,p=>by
  have ih:=q7w g lf x1 n;refine(qa8 (qaz 20 _) ndz3 okz3 14 [n+1] [n] rfl _).trans ((zm1 g (Az3 g lf) lf x1 n p).trans ?_);rw[(show (fun q=>Az3 g lf 14 [n] (qi0 x1 q))=(fun q=>qft lf x1 n q) from funext ih)];rfl
def qsb(lf:Nat)(x1:(List ByteArray)):Nat->(Int × Int × ByteArray)->Option Rtz3:=qav fun K p=>ql4 lf x1 K (fun q=>qft lf x1 lf q) p
theorem zee(g:gz3)(lf:Nat)(x1:(List ByteArray)):∀(n:Nat) (p:Int × Int × ByteArray),Az3 g lf 8 [n] (qiv x1 p)=qsb lf x1 n p
 | 0,p=>qa7 8 [0] rfl _
 | n+1,p=>by
  have ih:=zee g lf x1 n;refine(qa8 (qaz 20 _) ndz3 okz3 8 [n+1] [n] rfl _).trans ((zfz g (Az3 g lf) lf x1 n p).trans ?_);rw[(show (fun q=>Az3 g lf 14 [lf] (qi0 x1 q))=(fun q=>qft lf x1 lf q) from funext fun q=>q7w g lf x1 lf q),(show (fun q=>Az3 g lf 8 [n] (qiv x1 q))=(fun q=>qsb lf x1 n q) from funext ih)];rfl
def Fz3(lf:Nat)(x1:(List ByteArray)):Option Rtz3:=qwc lf x1 (fun q=>qsb lf x1 lf q)
theorem zmg(g:gz3)(lf:Nat)(x1:(List ByteArray)):Ez3 g (Az3 g lf) lf x1=Fz3 lf x1:=by
  refine(inz3 g (Az3 g lf) lf x1).trans ?_;rw[(show (fun q=>Az3 g lf 8 [lf] (qiv x1 q))=(fun q=>qsb lf x1 lf q) from funext fun q=>zee g lf x1 lf q)];rfl
theorem zu7:qa3 Tryz.prog za0:=trivial
theorem mkz3{g:gz3}(hsm:SmOK Tryz.prog zeh)(hg:∀(x:ElA [(.list .str)]) (y:Rtz3),WfA [(.list .str)] x->g x=some y->∃lf,Fz3 lf x.1=some y):Con Tryz.prog 112 ⟨[(.list .str)],[(false,cKeepRecord)],g⟩ :=
 conV (st:=stz3) (fun lf x=>Fz3 lf x.1) cm3 q44 zu7 ndz3 okz3 (fun lf x=>zmg g lf x.1) hsm hg
def nmz4:Nat->Option Nm:=fun k=>cond (Nat.beq k 3) (some ⟨[0,3,4],[],[],[],[],0,0,false⟩) (none)
def stz4:Nat->Bool:=fun k=>cond (Nat.beq k 3) true (false)
def hdz4:=stz4
abbrev Rtz4:Type:=Int × Unit
def q90:List (Nat × Sm):=[]
def zc9:List (Nat × Hx):=[]
def clz4(R:Type)(lf:Nat):ClK R:=qa0 Tryz.prog ttT.get ftT.get (nm1 99 nmz4) (smL q90) (hxL zc9) lf 20 R
abbrev idz4:Nat:=99
def qjm(x1:ByteArray)(p:Int × Int):NRes:=(NRes.mk (.node (some (IV.str x1)) (.node none (.node (some (IV.int .i64 p.1)) .leaf .leaf) .leaf) (.node none (.node (some (IV.int .i64 p.2)) .leaf .leaf) .leaf)) (IS.mk .leaf 0) [] 0)
def qye(lf:Nat)(x1:ByteArray)(L3:(Int × Int)->Option Rtz4):Option Rtz4:=(L3 ((Int.ofNat 0),(Int.ofNat 0)))
def qrq(lf:Nat)(x1:ByteArray)(L3:(Int × Int)->Option Rtz4)(p:Int × Int):Option Rtz4:=(cond (iltI p.2 (Int.ofNat x1.size)) (match (jget (qab x1) p.2) with|none=>none|some v0=>(L3 ((IntKind.i64.wrap (Int.add (IntKind.i64.wrap (Int.mul (Int.ofNat 256) p.1)) (IntKind.i64.wrap v0))),(IntKind.i64.wrap (Int.add p.2 (Int.ofNat 1)))))) (some (p.1,())))
abbrev gz4:Type:=ElA [.str]->Option Rtz4
abbrev sz4(g:gz4):Sm:=⟨[.str],[(false,(.int .i64))],g⟩
abbrev Ez4(g:gz4)(J:JT Rtz4)(lf:Nat)(x1:ByteArray):=qbf Tryz.prog ttT.get nmz4 fi99.nt (clz4 _ lf) lf stz4 J fi99.body [] (qat (argV [.str] (x1,())) 0 .leaf) S0 [] (qam ttT.get fi99 (sz4 g))
abbrev Bz4(g:gz4)(J:JT Rtz4)(lf k:Nat)(ms:List Nat)(q:NRes):=qbl Tryz.prog ttT.get nmz4 fi99.nt (clz4 _ lf) lf stz4 J k fi99.body [] ms q (qam ttT.get fi99 (sz4 g))
theorem inz4(g:gz4)(J:JT Rtz4)(lf:Nat)(x1:ByteArray):Ez4 g J lf x1=qye lf x1 (fun q=>J 3 [lf] (qjm x1 q)):=by kernel_rfl
theorem zym(g:gz4)(J:JT Rtz4)(lf:Nat)(x1:ByteArray)(m1:Nat)(p:Int × Int):Bz4 g J lf 3 [m1] (qjm x1 p)=qrq lf x1 (fun q=>J 3 [m1] (qjm x1 q)) p:=by kernel_rfl
theorem ndz4:(regs fi99.body).Nodup:=by decide +kernel
theorem okz4:okC nmz4 stz4 hdz4 fi99.body none=true:=by kernel_rfl
def Az4(g:gz4)(lf:Nat):JT Rtz4:=atN Tryz.prog ttT.get nmz4 fi99 (sz4 g) (clz4 _ lf) lf hdz4
def qp0(lf:Nat)(x1:ByteArray):Nat->(Int × Int)->Option Rtz4:=qav fun K p=>qrq lf x1 K p
theorem q4l(g:gz4)(lf:Nat)(x1:ByteArray):∀(n:Nat) (p:Int × Int),Az4 g lf 3 [n] (qjm x1 p)=qp0 lf x1 n p
 | 0,p=>qa7 3 [0] rfl _
 | n+1,p=>by
  have ih:=q4l g lf x1 n;refine(qa8 (qaz 20 _) ndz4 okz4 3 [n+1] [n] rfl _).trans ((zym g (Az4 g lf) lf x1 n p).trans ?_);rw[(show (fun q=>Az4 g lf 3 [n] (qjm x1 q))=(fun q=>qp0 lf x1 n q) from funext ih)];rfl
def Fz4(lf:Nat)(x1:ByteArray):Option Rtz4:=qye lf x1 (fun q=>qp0 lf x1 lf q)
theorem zob(g:gz4)(lf:Nat)(x1:ByteArray):Ez4 g (Az4 g lf) lf x1=Fz4 lf x1:=by
  refine(inz4 g (Az4 g lf) lf x1).trans ?_;rw[(show (fun q=>Az4 g lf 3 [lf] (qjm x1 q))=(fun q=>qp0 lf x1 lf q) from funext fun q=>q4l g lf x1 lf q)];rfl
theorem zp9:qa3 Tryz.prog zc9:=trivial
theorem mkz4{g:gz4}(hsm:SmOK Tryz.prog q90)(hg:∀(x:ElA [.str]) (y:Rtz4),WfA [.str] x->g x=some y->∃lf,Fz4 lf x.1=some y):Con Tryz.prog 99 ⟨[.str],[(false,(.int .i64))],g⟩ :=
 conV (st:=stz4) (fun lf x=>Fz4 lf x.1) cm3 zhw zp9 ndz4 okz4 (fun lf x=>zob g lf x.1) hsm hg
def nmz5:Nat->Option Nm:=fun k=>cond (Nat.beq k 12) (some ⟨[1,3,6,8,9,10,11],[],[],[],[],0,0,false⟩) (cond (Nat.beq k 16) (some ⟨[6,8,9,10,12],[],[],[],[],0,0,false⟩) (cond (Nat.beq k 23) (some ⟨[6,8,10,13,14,15],[],[(13,0,cCell)],[],[],0,0,false⟩) (none)))
def stz5:Nat->Bool:=fun k=>cond (Nat.beq k 12) true (cond (Nat.beq k 16) true (cond (Nat.beq k 23) true (false)))
def hdz5:=stz5
abbrev Rtz5:Type:=q0c × Unit
def q9s:List (Nat × Sm):=[(99,spz4)]
def zeo:List (Nat × Hx):=[]
def clz5(R:Type)(lf:Nat):ClK R:=qa0 Tryz.prog ttT.get ftT.get (nm1 63 nmz5) (smL q9s) (hxL zeo) lf 20 R
abbrev idz5:Nat:=63
def qjn(x1:qac)(x2:Int)(x3:Int)(p:Int × Int × ByteArray):NRes:=(NRes.mk (.node none (.node (some (IV.int .i64 x2)) (.node (some (IV.ptr 0 0)) .leaf (.node (some (IV.int .i64 p.2.1)) .leaf .leaf)) (.node none (.node (some (IV.int .i64 (IntKind.i64.wrap (Int.tdiv (IntKind.i64.wrap (Int.sub (IntKind.i64.wrap (Int.add p.1 (Int.ofNat 64))) (Int.ofNat 1))) (Int.ofNat 64))))) .leaf .leaf) .leaf)) (.node none (.node none (.node (some (IV.int .i64 p.1)) .leaf .leaf) .leaf) (.node (some (IV.ptr 1 0)) (.node (some (IV.str p.2.2)) .leaf .leaf) .leaf))) (IS.mk (.node (some (IObj.row (List.cons (IV.lst TC.str x1.1) [(IV.lst cPut x1.2)]))) (.node (some (IObj.row (List.cons IV.nilsl (List.cons (IV.int .i64 (Int.ofNat 0)) (List.cons (IV.bool false) [(IV.bool false)]))))) .leaf .leaf) .leaf) 2) [] 0)
def qhl(x1:qac)(x2:Int)(x3:Int)(p:Int × ByteArray × Int):NRes:=(NRes.mk (.node none (.node none .leaf (.node none (.node (some (IV.int .i64 (IntKind.i64.wrap (Int.tdiv (IntKind.i64.wrap (Int.sub (IntKind.i64.wrap (Int.add p.1 (Int.ofNat 64))) (Int.ofNat 1))) (Int.ofNat 64))))) .leaf .leaf) .leaf)) (.node none (.node none (.node (some (IV.int .i64 p.1)) .leaf .leaf) (.node (some (IV.int .i64 p.2.2)) .leaf .leaf)) (.node (some (IV.ptr 0 0)) (.node (some (IV.str p.2.1)) .leaf .leaf) .leaf))) (IS.mk (.node (some (IObj.row (List.cons IV.nilsl (List.cons (IV.int .i64 (Int.ofNat 0)) (List.cons (IV.bool false) [(IV.bool false)]))))) .leaf .leaf) 1) [] 0)
def qjd(x1:qac)(x2:Int)(x3:Int)(p:ByteArray × Int × Int × Int × (List qaa)):NRes:=(NRes.mk (.node none (.node none (.node none (.node none (.node (some (IV.int .i64 p.2.2.1)) .leaf .leaf) .leaf) .leaf) (.node none .leaf (.node (some (IV.ptr 1 0)) .leaf .leaf))) (.node none (.node none (.node (some (IV.int .i64 p.2.1)) .leaf .leaf) .leaf) (.node (some (IV.ptr 0 0)) (.node (some (IV.str p.1)) .leaf .leaf) (.node (some (IV.int .i64 p.2.2.2.1)) .leaf .leaf)))) (IS.mk (.node (some (IObj.row (List.cons IV.nilsl (List.cons (IV.int .i64 (Int.ofNat 0)) (List.cons (IV.bool false) [(IV.bool false)]))))) (.node (some (IObj.row (List.cons (IV.arr 2) (List.cons (IV.int .i64 (IntKind.i64.wrap (Int.tdiv (IntKind.i64.wrap (Int.sub (IntKind.i64.wrap (Int.add p.2.1 (Int.ofNat 64))) (Int.ofNat 1))) (Int.ofNat 64)))) (List.cons (IV.bool false) [(IV.bool true)]))))) .leaf .leaf) (.node (some (IObj.arr cCell p.2.2.2.2)) .leaf .leaf)) 3) [] 0)
def qt6(lf:Nat)(x1:qac)(x2:Int)(x3:Int)(L12:(Int × Int × ByteArray)->Option Rtz5):Option Rtz5:=(match (jget x1.1 x2) with|none=>none|some v0=>(match (jget (qab v0) (Int.ofNat 0)) with|none=>none|some v1=>(cond (ieqI v1 (Int.ofNat 0)) (some (([],((Int.ofNat 0),(true,true))),())) (match (jget (qab v0) (Int.ofNat 0)) with|none=>none|some v2=>(cond (Bool.not (ieqI v2 (Int.ofNat 1))) (some (([],((Int.ofNat 0),(false,false))),())) (cond (lchk (Int.ofNat 1) (Int.ofNat 4) (Int.ofNat v0.size) (Int.ofNat v0.size)) (match (cond (Nat.ble (ByteArray.size (ByteArray.extract v0 1 4)) 3) (some ((S.val (ByteArray.extract v0 1 4)),())) none) with|none=>none|some v3=>(cond (iltI x3 (IntKind.i64.wrap (Int.add x2 (IntKind.i64.wrap (Int.tdiv (IntKind.i64.wrap (Int.sub (IntKind.i64.wrap (Int.add (IntKind.i64.wrap (Int.add (Int.ofNat 4) v3.1)) (Int.ofNat 64))) (Int.ofNat 1))) (Int.ofNat 64)))))) (some (([],((Int.ofNat 0),(false,false))),())) (L12 ((IntKind.i64.wrap (Int.add (Int.ofNat 4) v3.1)),(Int.ofNat 0),(S.lit []))))) none))))))
def qmt(lf:Nat)(x1:qac)(x2:Int)(x3:Int)(L12:(Int × Int × ByteArray)->Option Rtz5)(L16:(Int × ByteArray × Int)->Option Rtz5)(p:Int × Int × ByteArray):Option Rtz5:=(cond (iltI p.2.1 (IntKind.i64.wrap (Int.tdiv (IntKind.i64.wrap (Int.sub (IntKind.i64.wrap (Int.add p.1 (Int.ofNat 64))) (Int.ofNat 1))) (Int.ofNat 64)))) (match (jget x1.1 (IntKind.i64.wrap (Int.add x2 p.2.1))) with|none=>none|some v0=>(cond (Nat.ble (Nat.succ (Nat.add p.2.2.size v0.size)) 9223372036854775808) (L12 (p.1,(IntKind.i64.wrap (Int.add p.2.1 (Int.ofNat 1))),(ByteArray.append p.2.2 v0))) none)) (L16 (p.1,p.2.2,p.1)))
def qjx(lf:Nat)(x1:qac)(x2:Int)(x3:Int)(L16:(Int × ByteArray × Int)->Option Rtz5)(L23:(ByteArray × Int × Int × Int × (List qaa))->Option Rtz5)(p:Int × ByteArray × Int):Option Rtz5:=(cond (iltI p.2.2 (Int.ofNat p.2.1.size)) (match (jget (qab p.2.1) p.2.2) with|none=>none|some v0=>(cond (Bool.not (ieqI v0 (Int.ofNat 0))) (some (([],((Int.ofNat 0),(false,false))),())) (L16 (p.1,p.2.1,(IntKind.i64.wrap (Int.add p.2.2 (Int.ofNat 1))))))) (L23 (p.2.1,p.1,(Int.ofNat 4),(Int.negSucc 0),[])))
def qor(lf:Nat)(x1:qac)(x2:Int)(x3:Int)(L23:(ByteArray × Int × Int × Int × (List qaa))->Option Rtz5)(p:ByteArray × Int × Int × Int × (List qaa)):Option Rtz5:=(cond (iltI p.2.2.1 p.2.1) (cond (iltI p.2.1 (IntKind.i64.wrap (Int.add p.2.2.1 (Int.ofNat 3)))) (some (([],((Int.ofNat 0),(false,false))),())) (match (jget (qab p.1) p.2.2.1) with|none=>none|some v0=>(cond (lchk (IntKind.i64.wrap (Int.add p.2.2.1 (Int.ofNat 1))) (IntKind.i64.wrap (Int.add p.2.2.1 (Int.ofNat 3))) (Int.ofNat p.1.size) (Int.ofNat p.1.size)) (match (cond (Nat.ble (ByteArray.size (ByteArray.extract p.1 (Int.toNat (IntKind.i64.wrap (Int.add p.2.2.1 (Int.ofNat 1)))) (Int.toNat (IntKind.i64.wrap (Int.add p.2.2.1 (Int.ofNat 3)))))) 3) (some ((S.val (ByteArray.extract p.1 (Int.toNat (IntKind.i64.wrap (Int.add p.2.2.1 (Int.ofNat 1)))) (Int.toNat (IntKind.i64.wrap (Int.add p.2.2.1 (Int.ofNat 3)))))),())) none) with|none=>none|some v1=>(cond (ieqI v1.1 (Int.ofNat 0)) (cond (Bool.not (iltI p.2.2.2.1 (IntKind.i64.wrap v0))) (some (([],((Int.ofNat 0),(false,false))),())) (cond (iltI (Int.ofNat 199) (IntKind.i64.wrap v0)) (some (([],((Int.ofNat 0),(false,false))),())) (cond (Nat.ble (Nat.mul (Nat.add p.2.2.2.2.length 1) 32) 140737488355328) (L23 (p.1,p.2.1,(IntKind.i64.wrap (Int.add p.2.2.1 (Int.ofNat 3))),(IntKind.i64.wrap v0),(List.append p.2.2.2.2 (List.cons ((IntKind.i64.wrap v0),((S.lit []),true)) [])))) none))) (cond (iltI (Int.ofNat 4000) (IntKind.i64.wrap (Int.sub v1.1 (Int.ofNat 1)))) (some (([],((Int.ofNat 0),(false,false))),())) (cond (iltI p.2.1 (IntKind.i64.wrap (Int.sub (IntKind.i64.wrap (Int.add (IntKind.i64.wrap (Int.add p.2.2.1 (Int.ofNat 3))) v1.1)) (Int.ofNat 1)))) (some (([],((Int.ofNat 0),(false,false))),())) (cond (lchk (IntKind.i64.wrap (Int.add p.2.2.1 (Int.ofNat 3))) (IntKind.i64.wrap (Int.sub (IntKind.i64.wrap (Int.add (IntKind.i64.wrap (Int.add p.2.2.1 (Int.ofNat 3))) v1.1)) (Int.ofNat 1))) (Int.ofNat p.1.size) (Int.ofNat p.1.size)) (cond (Bool.not (iltI p.2.2.2.1 (IntKind.i64.wrap v0))) (some (([],((Int.ofNat 0),(false,false))),())) (cond (iltI (Int.ofNat 199) (IntKind.i64.wrap v0)) (some (([],((Int.ofNat 0),(false,false))),())) (cond (Nat.ble (Nat.mul (Nat.add p.2.2.2.2.length 1) 32) 140737488355328) (L23 (p.1,p.2.1,(IntKind.i64.wrap (Int.add (IntKind.i64.wrap (Int.add p.2.2.1 (Int.ofNat 3))) (IntKind.i64.wrap (Int.sub v1.1 (Int.ofNat 1))))),(IntKind.i64.wrap v0),(List.append p.2.2.2.2 (List.cons ((IntKind.i64.wrap v0),((ByteArray.extract p.1 (Int.toNat (IntKind.i64.wrap (Int.add p.2.2.1 (Int.ofNat 3)))) (Int.toNat (IntKind.i64.wrap (Int.sub (IntKind.i64.wrap (Int.add (IntKind.i64.wrap (Int.add p.2.2.1 (Int.ofNat 3))) v1.1)) (Int.ofNat 1))))),false)) [])))) none))) none))))) none))) (some ((p.2.2.2.2,((IntKind.i64.wrap (Int.tdiv (IntKind.i64.wrap (Int.sub (IntKind.i64.wrap (Int.add p.2.1 (Int.ofNat 64))) (Int.ofNat 1))) (Int.ofNat 64))),(false,true))),())))
abbrev gz5:Type:=ElA [qag,(.int .i64),(.int .i64)]->Option Rtz5
abbrev sz5(g:gz5):Sm:=⟨[qag,(.int .i64),(.int .i64)],[(false,qy3)],g⟩
abbrev Ez5(g:gz5)(J:JT Rtz5)(lf:Nat)(x1:qac)(x2:Int)(x3:Int):=qbf Tryz.prog ttT.get nmz5 fi63.nt (clz5 _ lf) lf stz5 J fi63.body [] (qat (argV [qag,(.int .i64),(.int .i64)] (x1,x2,x3,())) 0 .leaf) S0 [] (qam ttT.get fi63 (sz5 g))
abbrev Bz5(g:gz5)(J:JT Rtz5)(lf k:Nat)(ms:List Nat)(q:NRes):=qbl Tryz.prog ttT.get nmz5 fi63.nt (clz5 _ lf) lf stz5 J k fi63.body [] ms q (qam ttT.get fi63 (sz5 g))
theorem inz5(g:gz5)(J:JT Rtz5)(lf:Nat)(x1:qac)(x2:Int)(x3:Int):Ez5 g J lf x1 x2 x3=qt6 lf x1 x2 x3 (fun q=>J 12 [lf] (qjn x1 x2 x3 q)):=by kernel_rfl
theorem zke(g:gz5)(J:JT Rtz5)(lf:Nat)(x1:qac)(x2:Int)(x3:Int)(m1:Nat)(p:Int × Int × ByteArray):Bz5 g J lf 12 [m1] (qjn x1 x2 x3 p)=qmt lf x1 x2 x3 (fun q=>J 12 [m1] (qjn x1 x2 x3 q)) (fun q=>J 16 [lf] (qhl x1 x2 x3 q)) p:=by kernel_rfl
theorem zo4(g:gz5)(J:JT Rtz5)(lf:Nat)(x1:qac)(x2:Int)(x3:Int)(m1:Nat)(p:Int × ByteArray × Int):Bz5 g J lf 16 [m1] (qhl x1 x2 x3 p)=qjx lf x1 x2 x3 (fun q=>J 16 [m1] (qhl x1 x2 x3 q)) (fun q=>J 23 [lf] (qjd x1 x2 x3 q)) p:=by kernel_rfl
theorem zjn(g:gz5)(J:JT Rtz5)(lf:Nat)(x1:qac)(x2:Int)(x3:Int)(m1:Nat)(p:ByteArray × Int × Int × Int × (List qaa)):Bz5 g J lf 23 [m1] (qjd x1 x2 x3 p)=qor lf x1 x2 x3 (fun q=>J 23 [m1] (qjd x1 x2 x3 q)) p:=by kernel_rfl
theorem ndz5:(regs fi63.body).Nodup:=by decide +kernel
theorem okz5:okC nmz5 stz5 hdz5 fi63.body none=true:=by kernel_rfl
def Az5(g:gz5)(lf:Nat):JT Rtz5:=atN Tryz.prog ttT.get nmz5 fi63 (sz5 g) (clz5 _ lf) lf hdz5
def qev(lf:Nat)(x1:qac)(x2:Int)(x3:Int):Nat->(ByteArray × Int × Int × Int × (List qaa))->Option Rtz5:=qav fun K p=>qor lf x1 x2 x3 K p
theorem zd4(g:gz5)(lf:Nat)(x1:qac)(x2:Int)(x3:Int):∀(n:Nat) (p:ByteArray × Int × Int × Int × (List qaa)),Az5 g lf 23 [n] (qjd x1 x2 x3 p)=qev lf x1 x2 x3 n p
 | 0,p=>qa7 23 [0] rfl _
 | n+1,p=>by
  have ih:=zd4 g lf x1 x2 x3 n;refine(qa8 (qaz 20 _) ndz5 okz5 23 [n+1] [n] rfl _).trans ((zjn g (Az5 g lf) lf x1 x2 x3 n p).trans ?_);rw[(show (fun q=>Az5 g lf 23 [n] (qjd x1 x2 x3 q))=(fun q=>qev lf x1 x2 x3 n q) from funext ih)];rfl
def qfl(lf:Nat)(x1:qac)(x2:Int)(x3:Int):Nat->(Int × ByteArray × Int)->Option Rtz5:=qav fun K p=>qjx lf x1 x2 x3 K (fun q=>qev lf x1 x2 x3 lf q) p
theorem ze3(g:gz5)(lf:Nat)(x1:qac)(x2:Int)(x3:Int):∀(n:Nat) (p:Int × ByteArray × Int),Az5 g lf 16 [n] (qhl x1 x2 x3 p)=qfl lf x1 x2 x3 n p
 | 0,p=>qa7 16 [0] rfl _
 | n+1,p=>by
  have ih:=ze3 g lf x1 x2 x3 n;refine(qa8 (qaz 20 _) ndz5 okz5 16 [n+1] [n] rfl _).trans ((zo4 g (Az5 g lf) lf x1 x2 x3 n p).trans ?_);rw[(show (fun q=>Az5 g lf 23 [lf] (qjd x1 x2 x3 q))=(fun q=>qev lf x1 x2 x3 lf q) from funext fun q=>zd4 g lf x1 x2 x3 lf q),(show (fun q=>Az5 g lf 16 [n] (qhl x1 x2 x3 q))=(fun q=>qfl lf x1 x2 x3 n q) from funext ih)];rfl
def qse(lf:Nat)(x1:qac)(x2:Int)(x3:Int):Nat->(Int × Int × ByteArray)->Option Rtz5:=qav fun K p=>qmt lf x1 x2 x3 K (fun q=>qfl lf x1 x2 x3 lf q) p
theorem zap(g:gz5)(lf:Nat)(x1:qac)(x2:Int)(x3:Int):∀(n:Nat) (p:Int × Int × ByteArray),Az5 g lf 12 [n] (qjn x1 x2 x3 p)=qse lf x1 x2 x3 n p
 | 0,p=>qa7 12 [0] rfl _
 | n+1,p=>by
  have ih:=zap g lf x1 x2 x3 n;refine(qa8 (qaz 20 _) ndz5 okz5 12 [n+1] [n] rfl _).trans ((zke g (Az5 g lf) lf x1 x2 x3 n p).trans ?_);rw[(show (fun q=>Az5 g lf 16 [lf] (qhl x1 x2 x3 q))=(fun q=>qfl lf x1 x2 x3 lf q) from funext fun q=>ze3 g lf x1 x2 x3 lf q),(show (fun q=>Az5 g lf 12 [n] (qjn x1 x2 x3 q))=(fun q=>qse lf x1 x2 x3 n q) from funext ih)];rfl
def Fz5(lf:Nat)(x1:qac)(x2:Int)(x3:Int):Option Rtz5:=qt6 lf x1 x2 x3 (fun q=>qse lf x1 x2 x3 lf q)
theorem zsx(g:gz5)(lf:Nat)(x1:qac)(x2:Int)(x3:Int):Ez5 g (Az5 g lf) lf x1 x2 x3=Fz5 lf x1 x2 x3:=by
  refine(inz5 g (Az5 g lf) lf x1 x2 x3).trans ?_;rw[(show (fun q=>Az5 g lf 12 [lf] (qjn x1 x2 x3 q))=(fun q=>qse lf x1 x2 x3 lf q) from funext fun q=>zap g lf x1 x2 x3 lf q)];rfl
theorem zsu:qa3 Tryz.prog zeo:=trivial
theorem mkz5{g:gz5}(hsm:SmOK Tryz.prog q9s)(hg:∀(x:ElA [qag,(.int .i64),(.int .i64)]) (y:Rtz5),WfA [qag,(.int .i64),(.int .i64)] x->g x=some y->∃lf,Fz5 lf x.1 x.2.1 x.2.2.1=some y):Con Tryz.prog 63 ⟨[qag,(.int .i64),(.int .i64)],[(false,qy3)],g⟩ :=
 conV (st:=stz5) (fun lf x=>Fz5 lf x.1 x.2.1 x.2.2.1) cm3 zw2 zsu ndz5 okz5 (fun lf x=>zsx g lf x.1 x.2.1 x.2.2.1) hsm hg
def nmz6:Nat->Option Nm:=fun k=>cond (Nat.beq k 4) (some ⟨[0,1,5,6,7],[(5,cCell)],[],[],[],0,0,false⟩) (none)
def stz6:Nat->Bool:=fun k=>cond (Nat.beq k 4) true (false)
def hdz6:=stz6
abbrev Rtz6:Type:=(List qaa) × Unit
def q6r:List (Nat × Sm):=[]
def q82:List (Nat × Hx):=[]
def clz6(R:Type)(lf:Nat):ClK R:=qa0 Tryz.prog ttT.get ftT.get (nm1 64 nmz6) (smL q6r) (hxL q82) lf 20 R
abbrev idz6:Nat:=64
def qjo(x1:(List qaa))(x2:(List qaa))(p:Int × (List qaa) × Int):NRes:=(NRes.mk (.node (some (IV.lst cCell x1)) (.node (some (IV.lst cCell x2)) (.node none (.node (some (IV.int .i64 p.1)) .leaf .leaf) .leaf) (.node (some (IV.arr 0)) .leaf .leaf)) (.node none .leaf (.node (some (IV.int .i64 p.2.2)) .leaf .leaf))) (IS.mk (.node (some (IObj.arr cCell p.2.1)) .leaf .leaf) 1) [] 0)
def qzz(lf:Nat)(x1:(List qaa))(x2:(List qaa))(L4:(Int × (List qaa) × Int)->Option Rtz6):Option Rtz6:=(L4 ((Int.ofNat 0),[],(Int.ofNat 0)))
def qe5(lf:Nat)(x1:(List qaa))(x2:(List qaa))(L4:(Int × (List qaa) × Int)->Option Rtz6)(p:Int × (List qaa) × Int):Option Rtz6:=(cond (iltI p.2.2 (Int.ofNat x1.length)) (cond (ieqI p.1 (Int.ofNat x2.length)) (match (jget x1 p.2.2) with|none=>none|some v0=>(cond (Nat.ble (Nat.mul (Nat.add p.2.1.length 1) 32) 140737488355328) (L4 (p.1,(List.append p.2.1 [(v0.1,(v0.2.1,v0.2.2))]),(IntKind.i64.wrap (Int.add p.2.2 (Int.ofNat 1))))) none)) (cond (iltI p.2.2 (Int.ofNat x1.length)) (match (jget x1 p.2.2) with|none=>none|some v26=>(match (jget x2 p.1) with|none=>none|some v27=>(cond (iltI v26.1 v27.1) (match (jget x1 p.2.2) with|none=>none|some v28=>(cond (Nat.ble (Nat.mul (Nat.add p.2.1.length 1) 32) 140737488355328) (L4 (p.1,(List.append p.2.1 [(v28.1,(v28.2.1,v28.2.2))]),(IntKind.i64.wrap (Int.add p.2.2 (Int.ofNat 1))))) none)) (cond (iltI p.2.2 (Int.ofNat x1.length)) (match (jget x1 p.2.2) with|none=>none|some v30=>(match (jget x2 p.1) with|none=>none|some v31=>(cond (ieqI v30.1 v31.1) (match (jget x2 p.1) with|none=>none|some v32=>(cond (Bool.not v32.2.2) (match (jget x2 p.1) with|none=>none|some v33=>(cond (Nat.ble (Nat.mul (Nat.add p.2.1.length 1) 32) 140737488355328) (L4 ((IntKind.i64.wrap (Int.add p.1 (Int.ofNat 1))),(List.append p.2.1 [(v33.1,(v33.2.1,v33.2.2))]),(IntKind.i64.wrap (Int.add p.2.2 (Int.ofNat 1))))) none)) (L4 ((IntKind.i64.wrap (Int.add p.1 (Int.ofNat 1))),p.2.1,(IntKind.i64.wrap (Int.add p.2.2 (Int.ofNat 1))))))) (match (jget x2 p.1) with|none=>none|some v58=>(cond (Bool.not v58.2.2) (match (jget x2 p.1) with|none=>none|some v59=>(cond (Nat.ble (Nat.mul (Nat.add p.2.1.length 1) 32) 140737488355328) (L4 ((IntKind.i64.wrap (Int.add p.1 (Int.ofNat 1))),(List.append p.2.1 [(v59.1,(v59.2.1,v59.2.2))]),p.2.2)) none)) (L4 ((IntKind.i64.wrap (Int.add p.1 (Int.ofNat 1))),p.2.1,p.2.2))))))) (match (jget x2 p.1) with|none=>none|some v61=>(cond (Bool.not v61.2.2) (match (jget x2 p.1) with|none=>none|some v62=>(cond (Nat.ble (Nat.mul (Nat.add p.2.1.length 1) 32) 140737488355328) (L4 ((IntKind.i64.wrap (Int.add p.1 (Int.ofNat 1))),(List.append p.2.1 [(v62.1,(v62.2.1,v62.2.2))]),p.2.2)) none)) (L4 ((IntKind.i64.wrap (Int.add p.1 (Int.ofNat 1))),p.2.1,p.2.2)))))))) (cond (iltI p.2.2 (Int.ofNat x1.length)) (match (jget x1 p.2.2) with|none=>none|some v64=>(match (jget x2 p.1) with|none=>none|some v65=>(cond (ieqI v64.1 v65.1) (match (jget x2 p.1) with|none=>none|some v66=>(cond (Bool.not v66.2.2) (match (jget x2 p.1) with|none=>none|some v67=>(cond (Nat.ble (Nat.mul (Nat.add p.2.1.length 1) 32) 140737488355328) (L4 ((IntKind.i64.wrap (Int.add p.1 (Int.ofNat 1))),(List.append p.2.1 [(v67.1,(v67.2.1,v67.2.2))]),(IntKind.i64.wrap (Int.add p.2.2 (Int.ofNat 1))))) none)) (L4 ((IntKind.i64.wrap (Int.add p.1 (Int.ofNat 1))),p.2.1,(IntKind.i64.wrap (Int.add p.2.2 (Int.ofNat 1))))))) (match (jget x2 p.1) with|none=>none|some v69=>(cond (Bool.not v69.2.2) (match (jget x2 p.1) with|none=>none|some v70=>(cond (Nat.ble (Nat.mul (Nat.add p.2.1.length 1) 32) 140737488355328) (L4 ((IntKind.i64.wrap (Int.add p.1 (Int.ofNat 1))),(List.append p.2.1 [(v70.1,(v70.2.1,v70.2.2))]),p.2.2)) none)) (L4 ((IntKind.i64.wrap (Int.add p.1 (Int.ofNat 1))),p.2.1,p.2.2))))))) (match (jget x2 p.1) with|none=>none|some v72=>(cond (Bool.not v72.2.2) (match (jget x2 p.1) with|none=>none|some v73=>(cond (Nat.ble (Nat.mul (Nat.add p.2.1.length 1) 32) 140737488355328) (L4 ((IntKind.i64.wrap (Int.add p.1 (Int.ofNat 1))),(List.append p.2.1 [(v73.1,(v73.2.1,v73.2.2))]),p.2.2)) none)) (L4 ((IntKind.i64.wrap (Int.add p.1 (Int.ofNat 1))),p.2.1,p.2.2))))))) (cond (iltI p.1 (Int.ofNat x2.length)) (cond (ieqI p.1 (Int.ofNat x2.length)) (match (jget x1 p.2.2) with|none=>none|some v75=>(cond (Nat.ble (Nat.mul (Nat.add p.2.1.length 1) 32) 140737488355328) (L4 (p.1,(List.append p.2.1 [(v75.1,(v75.2.1,v75.2.2))]),(IntKind.i64.wrap (Int.add p.2.2 (Int.ofNat 1))))) none)) (cond (iltI p.2.2 (Int.ofNat x1.length)) (match (jget x1 p.2.2) with|none=>none|some v77=>(match (jget x2 p.1) with|none=>none|some v78=>(cond (iltI v77.1 v78.1) (match (jget x1 p.2.2) with|none=>none|some v79=>(cond (Nat.ble (Nat.mul (Nat.add p.2.1.length 1) 32) 140737488355328) (L4 (p.1,(List.append p.2.1 [(v79.1,(v79.2.1,v79.2.2))]),(IntKind.i64.wrap (Int.add p.2.2 (Int.ofNat 1))))) none)) (cond (iltI p.2.2 (Int.ofNat x1.length)) (match (jget x1 p.2.2) with|none=>none|some v81=>(match (jget x2 p.1) with|none=>none|some v82=>(cond (ieqI v81.1 v82.1) (match (jget x2 p.1) with|none=>none|some v83=>(cond (Bool.not v83.2.2) (match (jget x2 p.1) with|none=>none|some v84=>(cond (Nat.ble (Nat.mul (Nat.add p.2.1.length 1) 32) 140737488355328) (L4 ((IntKind.i64.wrap (Int.add p.1 (Int.ofNat 1))),(List.append p.2.1 [(v84.1,(v84.2.1,v84.2.2))]),(IntKind.i64.wrap (Int.add p.2.2 (Int.ofNat 1))))) none)) (L4 ((IntKind.i64.wrap (Int.add p.1 (Int.ofNat 1))),p.2.1,(IntKind.i64.wrap (Int.add p.2.2 (Int.ofNat 1))))))) (match (jget x2 p.1) with|none=>none|some v86=>(cond (Bool.not v86.2.2) (match (jget x2 p.1) with|none=>none|some v87=>(cond (Nat.ble (Nat.mul (Nat.add p.2.1.length 1) 32) 140737488355328) (L4 ((IntKind.i64.wrap (Int.add p.1 (Int.ofNat 1))),(List.append p.2.1 [(v87.1,(v87.2.1,v87.2.2))]),p.2.2)) none)) (L4 ((IntKind.i64.wrap (Int.add p.1 (Int.ofNat 1))),p.2.1,p.2.2))))))) (match (jget x2 p.1) with|none=>none|some v89=>(cond (Bool.not v89.2.2) (match (jget x2 p.1) with|none=>none|some v90=>(cond (Nat.ble (Nat.mul (Nat.add p.2.1.length 1) 32) 140737488355328) (L4 ((IntKind.i64.wrap (Int.add p.1 (Int.ofNat 1))),(List.append p.2.1 [(v90.1,(v90.2.1,v90.2.2))]),p.2.2)) none)) (L4 ((IntKind.i64.wrap (Int.add p.1 (Int.ofNat 1))),p.2.1,p.2.2)))))))) (cond (iltI p.2.2 (Int.ofNat x1.length)) (match (jget x1 p.2.2) with|none=>none|some v92=>(match (jget x2 p.1) with|none=>none|some v93=>(cond (ieqI v92.1 v93.1) (match (jget x2 p.1) with|none=>none|some v94=>(cond (Bool.not v94.2.2) (match (jget x2 p.1) with|none=>none|some v95=>(cond (Nat.ble (Nat.mul (Nat.add p.2.1.length 1) 32) 140737488355328) (L4 ((IntKind.i64.wrap (Int.add p.1 (Int.ofNat 1))),(List.append p.2.1 [(v95.1,(v95.2.1,v95.2.2))]),(IntKind.i64.wrap (Int.add p.2.2 (Int.ofNat 1))))) none)) (L4 ((IntKind.i64.wrap (Int.add p.1 (Int.ofNat 1))),p.2.1,(IntKind.i64.wrap (Int.add p.2.2 (Int.ofNat 1))))))) (match (jget x2 p.1) with|none=>none|some v97=>(cond (Bool.not v97.2.2) (match (jget x2 p.1) with|none=>none|some v98=>(cond (Nat.ble (Nat.mul (Nat.add p.2.1.length 1) 32) 140737488355328) (L4 ((IntKind.i64.wrap (Int.add p.1 (Int.ofNat 1))),(List.append p.2.1 [(v98.1,(v98.2.1,v98.2.2))]),p.2.2)) none)) (L4 ((IntKind.i64.wrap (Int.add p.1 (Int.ofNat 1))),p.2.1,p.2.2))))))) (match (jget x2 p.1) with|none=>none|some v100=>(cond (Bool.not v100.2.2) (match (jget x2 p.1) with|none=>none|some v101=>(cond (Nat.ble (Nat.mul (Nat.add p.2.1.length 1) 32) 140737488355328) (L4 ((IntKind.i64.wrap (Int.add p.1 (Int.ofNat 1))),(List.append p.2.1 [(v101.1,(v101.2.1,v101.2.2))]),p.2.2)) none)) (L4 ((IntKind.i64.wrap (Int.add p.1 (Int.ofNat 1))),p.2.1,p.2.2))))))) (some (p.2.1,()))))
abbrev gz6:Type:=ElA [(.list cCell),(.list cCell)]->Option Rtz6
abbrev sz6(g:gz6):Sm:=⟨[(.list cCell),(.list cCell)],[(true,cCell)],g⟩
abbrev Ez6(g:gz6)(J:JT Rtz6)(lf:Nat)(x1:(List qaa))(x2:(List qaa)):=qbf Tryz.prog ttT.get nmz6 fi64.nt (clz6 _ lf) lf stz6 J fi64.body [] (qat (argV [(.list cCell),(.list cCell)] (x1,x2,())) 0 .leaf) S0 [] (qam ttT.get fi64 (sz6 g))
abbrev Bz6(g:gz6)(J:JT Rtz6)(lf k:Nat)(ms:List Nat)(q:NRes):=qbl Tryz.prog ttT.get nmz6 fi64.nt (clz6 _ lf) lf stz6 J k fi64.body [] ms q (qam ttT.get fi64 (sz6 g))
theorem inz6(g:gz6)(J:JT Rtz6)(lf:Nat)(x1:(List qaa))(x2:(List qaa)):Ez6 g J lf x1 x2=qzz lf x1 x2 (fun q=>J 4 [lf] (qjo x1 x2 q)):=by kernel_rfl
theorem zhn(g:gz6)(J:JT Rtz6)(lf:Nat)(x1:(List qaa))(x2:(List qaa))(m1:Nat)(p:Int × (List qaa) × Int):Bz6 g J lf 4 [m1] (qjo x1 x2 p)=qe5 lf x1 x2 (fun q=>J 4 [m1] (qjo x1 x2 q)) p:=by kernel_rfl
theorem ndz6:(regs fi64.body).Nodup:=by decide +kernel
theorem okz6:okC nmz6 stz6 hdz6 fi64.body none=true:=by kernel_rfl
def Az6(g:gz6)(lf:Nat):JT Rtz6:=atN Tryz.prog ttT.get nmz6 fi64 (sz6 g) (clz6 _ lf) lf hdz6
def qjq(lf:Nat)(x1:(List qaa))(x2:(List qaa)):Nat->(Int × (List qaa) × Int)->Option Rtz6:=qav fun K p=>qe5 lf x1 x2 K p
theorem q9g(g:gz6)(lf:Nat)(x1:(List qaa))(x2:(List qaa)):∀(n:Nat) (p:Int × (List qaa) × Int),Az6 g lf 4 [n] (qjo x1 x2 p)=qjq lf x1 x2 n p
 | 0,p=>qa7 4 [0] rfl _
 | n+1,p=>by
  have ih:=q9g g lf x1 x2 n;refine(qa8 (qaz 20 _) ndz6 okz6 4 [n+1] [n] rfl _).trans ((zhn g (Az6 g lf) lf x1 x2 n p).trans ?_);rw[(show (fun q=>Az6 g lf 4 [n] (qjo x1 x2 q))=(fun q=>qjq lf x1 x2 n q) from funext ih)];rfl
def Fz6(lf:Nat)(x1:(List qaa))(x2:(List qaa)):Option Rtz6:=qzz lf x1 x2 (fun q=>qjq lf x1 x2 lf q)
theorem zux(g:gz6)(lf:Nat)(x1:(List qaa))(x2:(List qaa)):Ez6 g (Az6 g lf) lf x1 x2=Fz6 lf x1 x2:=by
  refine(inz6 g (Az6 g lf) lf x1 x2).trans ?_;rw[(show (fun q=>Az6 g lf 4 [lf] (qjo x1 x2 q))=(fun q=>qjq lf x1 x2 lf q) from funext fun q=>q9g g lf x1 x2 lf q)];rfl
theorem zx0:qa3 Tryz.prog q82:=trivial
theorem mkz6{g:gz6}(hsm:SmOK Tryz.prog q6r)(hg:∀(x:ElA [(.list cCell),(.list cCell)]) (y:Rtz6),WfA [(.list cCell),(.list cCell)] x->g x=some y->∃lf,Fz6 lf x.1 x.2.1=some y):Con Tryz.prog 64 ⟨[(.list cCell),(.list cCell)],[(true,cCell)],g⟩ :=
 conV (st:=stz6) (fun lf x=>Fz6 lf x.1 x.2.1) cm3 zl3 zx0 ndz6 okz6 (fun lf x=>zux g lf x.1 x.2.1) hsm hg
def nmz7:Nat->Option Nm:=fun k=>cond (Nat.beq k 12) (some ⟨[1,2,5,6,7,8],[],[(5,4,cCell)],[],[],0,0,false⟩) (cond (Nat.beq k 18) (some ⟨[1,2,5,6,7,8,9,10],[],[(5,4,cCell)],[],[],0,0,false⟩) (none))
def stz7:Nat->Bool:=fun k=>cond (Nat.beq k 12) true (cond (Nat.beq k 18) true (false))
def hdz7:=stz7
abbrev Rtz7:Type:=qlz × Unit
def q6w:List (Nat × Sm):=[(38,qyd),(57,qs0),(62,qy7),(63,spz5),(64,spz6)]
def q9q:List (Nat × Hx):=[]
def clz7(R:Type)(lf:Nat):ClK R:=qa0 Tryz.prog ttT.get ftT.get (nm1 14 nmz7) (smL q6w) (hxL q9q) lf 20 R
abbrev idz7:Nat:=14
def qe3(x1:qac)(p:Int × Int × Int × Int × (List qaa)):NRes:=(NRes.mk (.node none (.node (some (IV.ptr 0 0)) (.node none (.node (some (IV.int .i64 p.2.2.1)) .leaf .leaf) .leaf) (.node (some (IV.ptr 2 0)) .leaf .leaf)) (.node (some (IV.ptr 1 0)) (.node none (.node (some (IV.int .i64 p.1)) .leaf .leaf) .leaf) (.node (some (IV.int .i64 p.2.2.2.1)) .leaf .leaf))) (IS.mk (.node (some (IObj.row (List.cons (IV.lst TC.str x1.1) [(IV.lst cPut x1.2)]))) (.node (some (IObj.row (List.cons IV.nilsl (List.cons IV.nilsl (List.cons (IV.int .i64 (Int.ofNat 0)) (List.cons (IV.int .i64 (Int.ofNat 0)) (List.cons IV.nilsl [(IV.int .i64 (Int.ofNat 0))]))))))) (.node (some (IObj.arr cCell p.2.2.2.2)) .leaf .leaf) .leaf) (.node (some (IObj.row (List.cons (IV.lst TC.str x1.1) (List.cons (IV.lst cPut x1.2) (List.cons (IV.int .i64 p.2.1) (List.cons (IV.int .i64 (Int.ofNat 0)) [(IV.arr 3)])))))) .leaf .leaf)) 4) [] 0)
def qjb(x1:qac)(p:Int × Int × Int × (List qaa) × Int × Bool × Bool × Int × Int × (List qaa)):NRes:=(NRes.mk (.node none (.node (some (IV.ptr 0 0)) (.node none (.node (some (IV.int .i64 p.2.1)) .leaf .leaf) .leaf) (.node (some (IV.ptr 2 0)) (.node (some (IV.ptr 3 0)) .leaf .leaf) .leaf)) (.node (some (IV.ptr 1 0)) (.node none (.node (some (IV.int .i64 p.2.2.1)) .leaf .leaf) .leaf) (.node (some (IV.int .i64 p.2.2.2.2.2.2.2.2.1)) (.node (some (IV.int .i64 p.2.2.2.2.2.2.2.1)) .leaf .leaf) .leaf))) (IS.mk (.node (some (IObj.row (List.cons (IV.lst TC.str x1.1) [(IV.lst cPut x1.2)]))) (.node (some (IObj.row (List.cons IV.nilsl (List.cons IV.nilsl (List.cons (IV.int .i64 (Int.ofNat 0)) (List.cons (IV.int .i64 (Int.ofNat 0)) (List.cons IV.nilsl [(IV.int .i64 (Int.ofNat 0))]))))))) (.node (some (IObj.row (List.cons (IV.lst cCell p.2.2.2.1) (List.cons (IV.int .i64 p.2.2.2.2.1) (List.cons (IV.bool p.2.2.2.2.2.1) [(IV.bool p.2.2.2.2.2.2.1)]))))) .leaf .leaf) .leaf) (.node (some (IObj.row (List.cons (IV.lst TC.str x1.1) (List.cons (IV.lst cPut x1.2) (List.cons (IV.int .i64 p.1) (List.cons (IV.int .i64 (Int.ofNat 0)) [(IV.arr 4)])))))) (.node (some (IObj.arr cCell p.2.2.2.2.2.2.2.2.2)) .leaf .leaf) .leaf)) 5) [] 0)
def qx7(lf:Nat)(x1:qac)(L12:(Int × Int × Int × Int × (List qaa))->Option Rtz7):Option Rtz7:=(cond (ieqI (S.checkDisk (x1.1,x1.2)) (Int.ofNat 0)) (cond (iltI (Int.ofNat 0) (Int.ofNat x1.2.length)) (some (((([],[]),((Int.ofNat 0),((Int.ofNat 0),[]))),(Int.ofNat 12)),())) (cond (Bool.not (ieqI (S.checkDisk (x1.1,x1.2)) (Int.ofNat 0))) (some (((([],[]),((Int.ofNat 0),((Int.ofNat 0),[]))),(S.checkDisk (x1.1,x1.2))),())) (match (jget x1.1 (Int.ofNat 0)) with|none=>none|some v0=>(match (jget (qab v0) (Int.ofNat 0)) with|none=>none|some v1=>(cond (iltI (Int.ofNat 1) v1) (some (((([],[]),((Int.ofNat 0),((Int.ofNat 0),[]))),(Int.ofNat 15)),())) (cond (lchk (Int.ofNat 1) (Int.ofNat v0.size) (Int.ofNat v0.size) (Int.ofNat v0.size)) (match (cond (S.inI (Int.ofNat 63) (Int.ofNat 0) (Int.ofNat 64)) (some ((S.lit [0,0,0,0,0,0,0,0,0,0,0,0,0,0,0,0,0,0,0,0,0,0,0,0,0,0,0,0,0,0,0,0,0,0,0,0,0,0,0,0,0,0,0,0,0,0,0,0,0,0,0,0,0,0,0,0,0,0,0,0,0,0,0]),())) none) with|none=>none|some v2=>(cond (Bool.not (keqS (ByteArray.extract v0 1 (Int.toNat (Int.ofNat v0.size))) v2.1)) (some (((([],[]),((Int.ofNat 0),((Int.ofNat 0),[]))),(Int.ofNat 15)),())) (match (jget (qab v0) (Int.ofNat 0)) with|none=>none|some v3=>(match (cond (Bool.and (Nat.ble x1.1.length 1000) (Decidable.decide (Eq (Nat.mod x1.1.length 2) 0))) (some ((S.half x1.1.length (IntKind.i64.wrap v3)).1,((S.half x1.1.length (IntKind.i64.wrap v3)).2,()))) none) with|none=>none|some v4=>(L12 (v4.1,(IntKind.i64.wrap v3),v4.2.1,v4.1,[])))))) none)))))) (cond (Bool.not (ieqI (S.checkDisk (x1.1,x1.2)) (Int.ofNat 0))) (some (((([],[]),((Int.ofNat 0),((Int.ofNat 0),[]))),(S.checkDisk (x1.1,x1.2))),())) (match (jget x1.1 (Int.ofNat 0)) with|none=>none|some v26=>(match (jget (qab v26) (Int.ofNat 0)) with|none=>none|some v27=>(cond (iltI (Int.ofNat 1) v27) (some (((([],[]),((Int.ofNat 0),((Int.ofNat 0),[]))),(Int.ofNat 15)),())) (cond (lchk (Int.ofNat 1) (Int.ofNat v26.size) (Int.ofNat v26.size) (Int.ofNat v26.size)) (match (cond (S.inI (Int.ofNat 63) (Int.ofNat 0) (Int.ofNat 64)) (some ((S.lit [0,0,0,0,0,0,0,0,0,0,0,0,0,0,0,0,0,0,0,0,0,0,0,0,0,0,0,0,0,0,0,0,0,0,0,0,0,0,0,0,0,0,0,0,0,0,0,0,0,0,0,0,0,0,0,0,0,0,0,0,0,0,0]),())) none) with|none=>none|some v28=>(cond (Bool.not (keqS (ByteArray.extract v26 1 (Int.toNat (Int.ofNat v26.size))) v28.1)) (some (((([],[]),((Int.ofNat 0),((Int.ofNat 0),[]))),(Int.ofNat 15)),())) (match (jget (qab v26) (Int.ofNat 0)) with|none=>none|some v29=>(match (cond (Bool.and (Nat.ble x1.1.length 1000) (Decidable.decide (Eq (Nat.mod x1.1.length 2) 0))) (some ((S.half x1.1.length (IntKind.i64.wrap v29)).1,((S.half x1.1.length (IntKind.i64.wrap v29)).2,()))) none) with|none=>none|some v30=>(L12 (v30.1,(IntKind.i64.wrap v29),v30.2.1,v30.1,[])))))) none))))))
def qsz(lf:Nat)(x1:qac)(L18:(Int × Int × Int × (List qaa) × Int × Bool × Bool × Int × Int × (List qaa))->Option Rtz7)(p:Int × Int × Int × Int × (List qaa)):Option Rtz7:=(cond (iltI p.2.2.2.1 p.2.2.1) (match (cond (S.recG (x1.1,x1.2) p.2.2.2.1 p.2.2.1) (some ((S.recAt (x1.1,x1.2) p.2.2.2.1 p.2.2.1),())) none) with|none=>none|some v0=>(cond (Bool.not v0.1.2.2.2) (some (((([],[]),((Int.ofNat 0),((Int.ofNat 0),[]))),(Int.ofNat 15)),())) (cond v0.1.2.2.1 (cond (ieqI p.2.2.2.1 p.1) (some (((([],[]),((Int.ofNat 0),((Int.ofNat 0),[]))),(Int.ofNat 15)),())) (cond v0.1.2.2.1 (some ((((x1.1,x1.2),(p.2.1,((IntKind.i64.wrap (Int.sub p.2.2.2.1 p.1)),p.2.2.2.2))),(Int.ofNat 0)),())) (L18 (p.2.1,p.2.2.1,p.1,v0.1.1,v0.1.2.1,v0.1.2.2.1,v0.1.2.2.2,(Int.ofNat 0),p.2.2.2.1,p.2.2.2.2)))) (cond v0.1.2.2.1 (some ((((x1.1,x1.2),(p.2.1,((IntKind.i64.wrap (Int.sub p.2.2.2.1 p.1)),p.2.2.2.2))),(Int.ofNat 0)),())) (L18 (p.2.1,p.2.2.1,p.1,v0.1.1,v0.1.2.1,v0.1.2.2.1,v0.1.2.2.2,(Int.ofNat 0),p.2.2.2.1,p.2.2.2.2)))))) (some ((((x1.1,x1.2),(p.2.1,((IntKind.i64.wrap (Int.sub p.2.2.2.1 p.1)),p.2.2.2.2))),(Int.ofNat 0)),())))
def qq6(lf:Nat)(x1:qac)(L18:(Int × Int × Int × (List qaa) × Int × Bool × Bool × Int × Int × (List qaa))->Option Rtz7)(L12:(Int × Int × Int × Int × (List qaa))->Option Rtz7)(p:Int × Int × Int × (List qaa) × Int × Bool × Bool × Int × Int × (List qaa)):Option Rtz7:=(cond (iltI p.2.2.2.2.2.2.2.1 (Int.ofNat p.2.2.2.1.length)) (cond (ieqI p.2.2.2.2.2.2.2.2.1 p.2.2.1) (match (jget p.2.2.2.1 p.2.2.2.2.2.2.2.1) with|none=>none|some v0=>(cond v0.2.2 (some (((([],[]),((Int.ofNat 0),((Int.ofNat 0),[]))),(Int.ofNat 15)),())) (L18 (p.1,p.2.1,p.2.2.1,p.2.2.2.1,p.2.2.2.2.1,p.2.2.2.2.2.1,p.2.2.2.2.2.2.1,(IntKind.i64.wrap (Int.add p.2.2.2.2.2.2.2.1 (Int.ofNat 1))),p.2.2.2.2.2.2.2.2.1,p.2.2.2.2.2.2.2.2.2)))) (match (cond (S.mrg p.2.2.2.2.2.2.2.2.2 p.2.2.2.1) (some ((S.changed p.2.2.2.2.2.2.2.2.2 p.2.2.2.1),())) none) with|none=>none|some v24=>(L12 (p.2.2.1,p.1,p.2.1,(IntKind.i64.wrap (Int.add p.2.2.2.2.2.2.2.2.1 p.2.2.2.2.1)),v24.1)))) (match (cond (S.mrg p.2.2.2.2.2.2.2.2.2 p.2.2.2.1) (some ((S.changed p.2.2.2.2.2.2.2.2.2 p.2.2.2.1),())) none) with|none=>none|some v48=>(L12 (p.2.2.1,p.1,p.2.1,(IntKind.i64.wrap (Int.add p.2.2.2.2.2.2.2.2.1 p.2.2.2.2.1)),v48.1))))
abbrev gz7:Type:=ElA [qag]->Option Rtz7
abbrev sz7(g:gz7):Sm:=⟨[qag],[(false,qhd)],g⟩
abbrev Ez7(g:gz7)(J:JT Rtz7)(lf:Nat)(x1:qac):=qbf Tryz.prog ttT.get nmz7 fi14.nt (clz7 _ lf) lf stz7 J fi14.body [] (qat (argV [qag] (x1,())) 0 .leaf) S0 [] (qam ttT.get fi14 (sz7 g))
abbrev Bz7(g:gz7)(J:JT Rtz7)(lf k:Nat)(ms:List Nat)(q:NRes):=qbl Tryz.prog ttT.get nmz7 fi14.nt (clz7 _ lf) lf stz7 J k fi14.body [] ms q (qam ttT.get fi14 (sz7 g))
theorem inz7(g:gz7)(J:JT Rtz7)(lf:Nat)(x1:qac):Ez7 g J lf x1=qx7 lf x1 (fun q=>J 12 [lf] (qe3 x1 q)):=by kernel_rfl
theorem zil(g:gz7)(J:JT Rtz7)(lf:Nat)(x1:qac)(m1:Nat)(p:Int × Int × Int × Int × (List qaa)):Bz7 g J lf 12 [m1] (qe3 x1 p)=qsz lf x1 (fun q=>J 18 [m1,lf] (qjb x1 q)) p:=by kernel_rfl
theorem zf6(g:gz7)(J:JT Rtz7)(lf:Nat)(x1:qac)(m1:Nat)(m2:Nat)(p:Int × Int × Int × (List qaa) × Int × Bool × Bool × Int × Int × (List qaa)):Bz7 g J lf 18 [m1,m2] (qjb x1 p)=qq6 lf x1 (fun q=>J 18 [m1,m2] (qjb x1 q)) (fun q=>J 12 [m1] (qe3 x1 q)) p:=by kernel_rfl
theorem ndz7:(regs fi14.body).Nodup:=by decide +kernel
theorem okz7:okC nmz7 stz7 hdz7 fi14.body none=true:=by kernel_rfl
def Az7(g:gz7)(lf:Nat):JT Rtz7:=atN Tryz.prog ttT.get nmz7 fi14 (sz7 g) (clz7 _ lf) lf hdz7
def qgq(lf:Nat)(x1:qac)(K12:(Int × Int × Int × Int × (List qaa))->Option Rtz7):Nat->(Int × Int × Int × (List qaa) × Int × Bool × Bool × Int × Int × (List qaa))->Option Rtz7:=qav fun K p=>qq6 lf x1 K K12 p
theorem zaa(g:gz7)(lf:Nat)(x1:qac)(m1:Nat):∀(n:Nat) (p:Int × Int × Int × (List qaa) × Int × Bool × Bool × Int × Int × (List qaa)),Az7 g lf 18 [m1,n] (qjb x1 p)=qgq lf x1 (fun q=>Az7 g lf 12 [m1] (qe3 x1 q)) n p
 | 0,p=>qa7 18 [m1,0] rfl _
 | n+1,p=>by
  have ih:=zaa g lf x1 m1 n;refine(qa8 (qaz 20 _) ndz7 okz7 18 [m1,n+1] [m1,n] rfl _).trans ((zf6 g (Az7 g lf) lf x1 m1 n p).trans ?_);rw[(show (fun q=>Az7 g lf 18 [m1,n] (qjb x1 q))=(fun q=>qgq lf x1 (fun q=>Az7 g lf 12 [m1] (qe3 x1 q)) n q) from funext ih)];rfl
def qic(lf:Nat)(x1:qac):Nat->(Int × Int × Int × Int × (List qaa))->Option Rtz7:=qav fun K p=>qsz lf x1 (fun q=>qgq lf x1 K lf q) p
theorem q75(g:gz7)(lf:Nat)(x1:qac):∀(n:Nat) (p:Int × Int × Int × Int × (List qaa)),Az7 g lf 12 [n] (qe3 x1 p)=qic lf x1 n p
 | 0,p=>qa7 12 [0] rfl _
 | n+1,p=>by
  have ih:=q75 g lf x1 n;refine(qa8 (qaz 20 _) ndz7 okz7 12 [n+1] [n] rfl _).trans ((zil g (Az7 g lf) lf x1 n p).trans ?_);rw[(show (fun q=>Az7 g lf 18 [n,lf] (qjb x1 q))=(fun q=>qgq lf x1 (fun q=>Az7 g lf 12 [n] (qe3 x1 q)) lf q) from funext fun q=>zaa g lf x1 n lf q),(show (fun q=>Az7 g lf 12 [n] (qe3 x1 q))=(fun q=>qic lf x1 n q) from funext ih)];rfl
def Fz7(lf:Nat)(x1:qac):Option Rtz7:=qx7 lf x1 (fun q=>qic lf x1 lf q)
theorem zfm(g:gz7)(lf:Nat)(x1:qac):Ez7 g (Az7 g lf) lf x1=Fz7 lf x1:=by
  refine(inz7 g (Az7 g lf) lf x1).trans ?_;rw[(show (fun q=>Az7 g lf 12 [lf] (qe3 x1 q))=(fun q=>qic lf x1 lf q) from funext fun q=>q75 g lf x1 lf q)];rfl
theorem zqg:qa3 Tryz.prog q9q:=trivial
theorem mkz7{g:gz7}(hsm:SmOK Tryz.prog q6w)(hg:∀(x:ElA [qag]) (y:Rtz7),WfA [qag] x->g x=some y->∃lf,Fz7 lf x.1=some y):Con Tryz.prog 14 ⟨[qag],[(false,qhd)],g⟩ :=
 conV (st:=stz7) (fun lf x=>Fz7 lf x.1) cm3 zr2 zqg ndz7 okz7 (fun lf x=>zfm g lf x.1) hsm hg
end Go.Proofs.YtnhmanoiolfapaaGreat
end

section
namespace Go.Jx
open Go Go.Sx Go.RowKit
universe u

def updP:(l:List PK)->ElP l->ElP (refs l)->ElP l
 | [],_,_=>()
 | .dat _::l,x,z=>(x.1,updP l x.2 z)
 | .fn _::l,x,z=>updP l x z
 | .ref _::l,x,z=>(z.1,updP l x.2 z.2)
theorem qpj:∀(l:List PK) (ι:Nat->Nat) (n:Nat) (x:ElP l) (z:ElP (refs l)),qaq l ι n (updP l x z)=qaq (refs l) ι n z
 | [],_,_,_,_=>rfl
 | .dat _::l,ι,n,x,z=>qpj l ι n x.2 z
 | .fn _::l,ι,n,x,z=>qpj l ι n x z
 | .ref r::l,ι,n,x,z=>by
  show objK r ι n z.1::qaq l ι (n+nK r) (updP l x.2 z.2)=_;rw[qpj l];rfl
theorem qoj:∀(l:List PK) (x:ElP l) (z:ElP (refs l)),qb8 l (updP l x z)=qb8 (refs l) z
 | [],_,_=>rfl
 | .dat _::l,x,z=>qoj l x.2 z
 | .fn _::l,x,z=>qoj l x z
 | .ref r::l,x,z=>by
  show subK r z.1++qb8 l (updP l x.2 z.2)=_;rw[qoj l];rfl
theorem qq1:∀(l:List PK) (ρ:Nat->Nat) (k:Nat) (x:ElP l) (z:ElP (refs l)),qap l ρ k (updP l x z)=qap l ρ k x
 | [],_,_,_,_=>rfl
 | .dat c::l,ρ,k,x,z=>jav (fun q=>asIV c x.1::q) (qq1 l ρ k x.2 z)
 | .fn f::l,ρ,k,x,z=>jav (fun q=>IV.fn f []::q) (qq1 l ρ k x z)
 | .ref r::l,ρ,k,x,z=>jav (fun q=>argK r (ρ k)::q) (qq1 l ρ (k+1) x.2 z.2)
def sQ(l:List PK):SmR:=⟨l,[],fun _=>none⟩
theorem zcz(l:List PK)(x:ElP l)(z:ElP (refs l)):ScB (sQ l) () z=Sc l (updP l x z):=by
 unfold ScB Sc newO;rw[qpj,qoj];show addO (qaq (refs l) idN (mP l) z++(qb8 (refs l) z++[])) S0=_;rw[jbo]
structure Held (T:TW) (E:Env) (S:IS) (l:List PK) (x:ElP l) (rows subs:List Nat):Prop where
 l1:rows.length=mP l
 l2:subs.length=nP l
 nd:(rows++subs).Nodup
 w:∀id∈rows++subs,T.w id
 A:∀id∈subs,E.A id
 at_:∀ι,Nums ι (mP l) subs->qtk E rows (qaq l ι (mP l) x)
 row:∀id∈rows,∃cs,S.H id=some (.row cs)
 sub:∀j:Nat,(qb8 l x)[j]?=(subs[j]?).bind fun id=>S.heap.get id
section
variable {T : TW} {E : Env} {S : IS} {l : List PK} {x : ElP l} {rows subs : List Nat}
theorem Held.num(h:Held T E S l x rows subs):Nums (ol 0 (rows++subs)) 0 rows/\Nums (ol 0 (rows++subs)) (mP l) subs:=by
 have hnq:Nums (ol 0 (rows++subs)) 0 (rows++subs):=fun j id hj=>by
  rw[jbp];unfold ol;rw[jan (by omega),jdi,jai,hj];rfl
 refine⟨hnq.fst,?_⟩;have:=hnq.snd
 rwa [jbp,h.l1] at this
theorem Held.len(h:Held T E S l x rows subs):(rows++subs).length=mP l+nP l:=by rw[jah,h.l1,h.l2]
theorem Held.rk(h:Held T E S l x rows subs){k:Nat}(hk:k<mP l):rows[k]?=some (ol 0 (rows++subs) k):=by
 have h1:k<rows.length:=by rw[h.l1];exact hk
 rw[jac h1,<- h.num.1 k _ (jac h1),jbp]
theorem Held.sk(h:Held T E S l x rows subs){k:Nat}(h1:mP l<=k)(h2:k<(rows++subs).length):subs[k-mP l]?=some (ol 0 (rows++subs) k):=by
 have h3:k-mP l<subs.length:=by rw[h.len] at h2;rw[h.l2];omega
 rw[jac h3,<- h.num.2 _ _ (jac h3),Nat.add_sub_cancel' h1]
theorem Held.rowA(h:Held T E S l x rows subs){k:Nat}(hk:k<mP l):∃r nj xj,(∀ι,(qaq l ι (mP l) x)[k]?=some (objK r ι nj xj))/\mP l<=nj/\nj+nK r<=(rows++subs).length/\E.A (ol 0 (rows++subs) k)/\((objK r (ol 0 (rows++subs)) nj xj).blk=true->E.hb (ol 0 (rows++subs) k)=true)/\OR E (ol 0 (rows++subs) k) (objK r (ol 0 (rows++subs)) nj xj):=by
 have h1:k<(qaq l (ol 0 (rows++subs)) (mP l) x).length:=by rw[qa9];exact hk
 obtain⟨r,nj,xj,d1,d2,d3,d4⟩:=qff l (ol 0 (rows++subs)) (mP l) x k _ (jac h1);obtain⟨id,i1,i2,i3,i4⟩:=h.at_ _ h.num.2 k _ (d4 (ol 0 (rows++subs)));rw[h.rk hk] at i1;cases i1;exact⟨r,nj,xj,d4,d2,by rw[h.len];omega,i2,i3,i4⟩
theorem Held.allA(h:Held T E S l x rows subs):∀id∈rows++subs,E.A id:=fun id hid=>by
 rcases jbv.1 hid with hid|hid
 ·obtain⟨k,hk,rfl⟩:=jcx.1 hid;obtain⟨_,_,_,_,_,_,i2,_,_⟩:=h.rowA (k:=k) (by rw[<- h.l1];exact hk);have:=h.rk (k:=k) (by rw[<- h.l1];exact hk);rw[jac hk,jbg] at this;rw[this];exact i2
 ·exact h.A id hid
theorem Held.numTo(E:Env)(q:List Nat){k:Nat}(hk:k<q.length):qci E (renE 0 q E) (ol 0 q k) k:=fun hA=>⟨⟨by omega,hA⟩,rfl,rfl,rfl,rfl⟩
theorem Held.obj(h:Held T E S l x rows subs)(p:Pre T E S){k:Nat}{o:IObj}(hk:k<(rows++subs).length)(hAk:E.A (ol 0 (rows++subs) k))(ho:(Sc l x).H k=some o):ObjTo E S (renE 0 (rows++subs) E) (ol 0 (rows++subs) k) k o:=by
 unfold Sc at ho;rw[qhf] at ho;have hnum:∀j,j<(rows++subs).length->qci E (renE 0 (rows++subs) E) (ol 0 (rows++subs) j) j:=fun j hj=>Held.numTo E _ hj;by_cases hkm:k<mP l
 ·rw[jay (by rw[qa9];exact hkm)] at ho;obtain⟨r,nj,xj,d1,d2,d3,d4,d5,d6⟩:=h.rowA hkm;rw[d1 idN] at ho;cases ho;obtain⟨cs,hcs⟩:=h.row _ (jb0 (h.rk hkm));exact⟨OR.objK_to (E:=E) (E':=renE 0 (rows++subs) E) (fun _ h=>h) rfl hAk (hnum k hk) (fun j a b=>hnum j (by omega)) d6,fun _=>⟨_,hcs,rfl⟩,fun hb=>d5 (qkh.trans hb)⟩
 ·rw[ja6 (by rw[qa9];omega),qa9] at ho;have hd:=qvl _ _ _ (jb0 ho);rw[h.sub,h.sk (by omega) hk] at ho;have hid:=(qb4 hk).1;exact⟨OR.dat_to (E:=E) (E':=renE 0 (rows++subs) E) (fun _ h=>h) rfl hAk (hnum k hk) hd (p.st.objs _ (T.sub _ (h.w _ hid)) hAk _ ho),fun hl=>⟨_,ho,hl⟩,fun hbk=>p.st.blk _ (T.sub _ (h.w _ hid)) hAk _ ho hbk⟩
theorem Held.pre(h:Held T E S l x rows subs)(p:Pre T E S):Pre T0 (renE 0 (rows++subs) E) (Sc l x) :=
 Pre.re p h.nd (fun id hi=>T.sub _ (h.w id hi)) (by rw[qhj,h.len]) fun k o hk hAk ho=>h.obj p hk hAk ho
theorem Held.back{s:SmR}{x:ElP s.ps}{y:ElR s.rts}{z:ElP (refs s.ps)}{Er:Env}(h:Held T E S s.ps x rows subs)(p:Pre T E S)(k2:PostB (mP s.ps) T0 (renE 0 (rows++subs) E) (Sc s.ps x) Er (ScB s y z)) :
  Post T E S (mrgR E Er S.next (mP s.ps)) (qb0 s S.next rows subs y z S)/\Fresh E S (mrgR E Er S.next (mP s.ps)):=by
 have hA:=h.allA;have hlt:∀id,id∈rows++subs->id<S.next:=fun id hi=>p.bnd id (hA id hi)
 have hsb:∀k,k<(rows++subs).length->Live (renE 0 (rows++subs) E) (Sc s.ps x).H k->Live E S.H (ol 0 (rows++subs) k):=fun k hk ⟨h0,o,h1,h2⟩=>⟨h0,(h.obj p hk (hA _ (qb4 hk).1) h1).live h2⟩;have hbn:(setL rows (qaq (refs s.ps) (fun k=>S.next+(k-mP s.ps)) (mP s.ps) z) (qes subs S)).next=S.next:=by rw[qp7,qru]
 have hndr:rows.Nodup:=(jc4.1 h.nd).1;have hrs:∀id,id∈rows->id ∉ subs:=fun id h1 h2=>(jc4.1 h.nd).2.2 id h1 id h2 rfl;have hScB:∀k,(ScB s y z).H k=(qaq (refs s.ps) idN (mP s.ps) z++newO s y z)[k]?:=fun k=>qhf _ k;have hql:=h.len;have l1:=h.l1;have hrk:=fun k (hk:k<mP s.ps)=>h.rk hk;have hsk:=fun k (h1:mP s.ps<=k) (h2:k<(rows++subs).length)=>h.sk h1 h2;have hrowA:=fun k (hk:k<mP s.ps)=>h.rowA hk;have hnd:=h.nd;have hT:=h.w;have hinr:∀id,id∈rows->id∈rows++subs:=fun id h=>jb5 _ h;have hins:∀id,id∈subs->id∈rows++subs:=fun id h=>jcf _ h;generalize hq:rows++subs=q at *;have hEA:∀k,k<mP s.ps->Er.A k/\Er.ρ k=E.ρ (ol 0 q k)/\Er.κ k=E.κ (ol 0 q k)/\Er.hd k=E.hd (ol 0 q k)/\Er.hb k=E.hb (ol 0 q k):=fun k hk=>by
  obtain⟨a1,a2,a3,a4,a5⟩:=k2.alw k hk ⟨by omega,hA _ (qb4 (by omega)).1⟩;exact⟨a1,a2,a3,a4,a5⟩
 exact zd0 (n:=S.next) (m:=mP s.ps) (S':=qb0 s S.next rows subs y z S) p hnd hT hA (by omega) rfl hsb k2 (by
   unfold qb0 ScB;rw[qcz,qcz,hbn,jah,qa9,qbw];have:S0.next=0:=rfl
   omega) (fun id hid hnq=>by
   unfold qb0;rw[qcc,hbn,jao hid,qhh (fun h=>hnq (hinr _ h)),qmv (fun h=>hnq (hins _ h))]) (fun k o hk ho=>by
   unfold qb0 at ho;have hin:=(qb4 (q:=q) (k:=k) (by omega)).1;rw[qcc,hbn,jao (hlt _ hin),qyz hndr (by rw[qa9,qbw,l1]) (hrk k hk)] at ho;obtain⟨r,nj,xj,rfl,d2,d3,d4⟩:=qff _ _ _ _ _ _ ho;have hsr:(ScB s y z).H k=some (objK r idN nj xj):=by
    rw[hScB,jay (by rw[qa9,qbw];exact hk)];exact d4 idN
   obtain⟨a1,a2,a3,a4,a5⟩:=hEA k hk;obtain⟨o1,o2,o3,o4⟩:=qd0 (E:=E) (Er:=Er) (n:=S.next) (m:=mP s.ps) (hlt _ hin);obtain⟨_,_,_,_,_,_,i2,_⟩:=hrowA k hk;exact⟨OR.objK_to (E:=Er) (E':=mrgR E Er S.next (mP s.ps)) (fun _ h=>h) rfl a1 (fun _=>⟨.inl ⟨hlt _ hin,i2⟩,o1.trans a2.symm,o2.trans a3.symm,o3.trans a4.symm,o4.trans a5.symm⟩) (fun j a b hAj=>by
    obtain⟨r1,r2,r3,r4,r5⟩:=qi9 (E:=E) (Er:=Er) (n:=S.next) (m:=mP s.ps) (k:=j) (by omega);exact⟨r5 hAj,r1,r2,r3,r4⟩) (k2.st.objs k trivial a1 _ hsr),fun hl=>⟨_,hsr,qss.trans hl⟩,fun hb=>(o4.trans a5.symm).trans (k2.st.blk k trivial a1 _ hsr (qkh.trans hb))⟩) (fun k o h1 h2 ho=>by
   unfold qb0 at ho;have hin:=(qb4 (q:=q) (k:=k) h2).1;have hin2:=jb0 (hsk k h1 h2);rw[qcc,hbn,jao (hlt _ hin),qhh (fun h=>hrs _ h hin2),qxx hin2] at ho;cases ho;rfl) (fun k o h1 hAk ho=>by
   unfold qb0 at ho;have hkb:=k2.bnd k hAk;unfold ScB at hkb;rw[qcz,jah,qa9,qbw] at hkb;have e0:S0.next=0:=rfl
   rw[qcc,hbn,jan (by omega),jao (by omega),ja5] at ho;have hd:=qz1 (jb0 ho);have hsr:(ScB s y z).H k=some o:=by
    rw[hScB,ja6 (by rw[qa9,qbw];exact h1),qa9,qbw];exact ho
   obtain⟨r1,r2,r3,r4,r5⟩:=qi9 (E:=E) (Er:=Er) (n:=S.next) (m:=mP s.ps) (k:=k) h1;exact⟨OR.dat_to (E:=Er) (E':=mrgR E Er S.next (mP s.ps)) (fun _ h=>h) rfl hAk (fun hA=>⟨r5 hA,r1,r2,r3,r4⟩) hd (k2.st.objs k trivial hAk _ hsr),fun hl=>⟨_,hsr,hl⟩,fun hbk=>r4.trans (k2.st.blk k trivial hAk _ hsr hbk)⟩)
end
end Go.Jx
end

section
namespace Go.Jx
open Go Go.Sx Go.RowKit
universe u

structure Beside (b:Nat) (w w':World):Prop where
 os:w'.os=w.os
 tape:w'.tape=w.tape
 output:w'.output=w.output
 size:w'.heap.size=w.heap.size
 same:∀x,x≠b->w'.heap[x]?=w.heap[x]?
theorem Beside.put(w:World)(b:Nat)(o:Obj):Beside b w (w.putObj b o):=⟨rfl,rfl,rfl,by simp,fun x hx=>jcc hx⟩
theorem Beside.symm{b:Nat}{w w':World}(h:Beside b w w'):Beside b w' w:=⟨h.os.symm,h.tape.symm,h.output.symm,h.size.symm,fun x hx=>(h.same x hx).symm⟩
theorem Beside.upd{b:Nat}{w w':World}(h:Beside b w w'):Upd [b] w w':=⟨h.os,h.tape,h.output,by rw[h.size];exact jas _,fun x _ hx=>h.same x (by simpa using hx)⟩
def qc2(E:Env)(S:IS)(b:Nat):Prop:=b∈E.m/\∀id,E.A id->Live E S.H id->E.ρ id≠b
section
variable {E E' : Env} {S S' : IS} {b : Nat} {w w' : World}
theorem Pre.beside(p:Pre T0 E S)(hb:qc2 E S b)(h:Beside b E.w w):E.Le (E.at_ w)/\Pre T0 (E.at_ w) S/\qc2 (E.at_ w) S b:=by
 have hle:E.Le (E.at_ w):=⟨fun _ h=>⟨h,rfl,rfl,rfl,rfl⟩,⟨fun x hx hm=>⟨hm,h.same x fun e=>hm (e▸hb.1)⟩⟩⟩
 refine⟨hle,⟨⟨fun id ht ha o ho=>(p.st.objs id ht ha o ho).mono hle ha (p.st.blk id ht ha o ho) fun hl hhb=>h.same _ (hb.2 id ha ⟨hhb,o,ho,hl⟩),fun id ht ha o ho hbk=>p.st.blk id ht ha o ho hbk,fun id ht ha hl=>p.st.own id ht ha hl,
  fun i j a b' c d e f g=>p.st.inj i j a b' c d e f g,fun x hx=>?_⟩,p.bnd,p.nw,p.gl.mono hle.tr⟩,hb⟩
 show x<w.heap.size;rw[h.size];exact p.st.lo x hx
theorem PostB.apart{B:Nat}(k:PostB B T0 E S E' S')(p:Pre T0 E S)(hb:qc2 E S b):qc2 E' S' b:=by
 have hlt:=p.st.lo b hb.1;refine⟨?_,fun id ha hl e=>?_⟩
 ·rcases k.mem b hb.1 hlt with h|⟨id,_,h1,h2,h3⟩
  ·exact h
  ·exact absurd h3 (hb.2 id h1 h2)
 ·rcases jb2 id B with h|h
  ·have hA:=k.fr id h ha;exact hb.2 id hA (k.old id h trivial hA hl) ((k.alw id h hA).2.1.symm.trans e)
  ·rcases k.new id h ha hl with h1|⟨j,_,j1,j2,j3⟩
   ·omega
   ·exact hb.2 j j1 j2 (j3.symm.trans e)
theorem PostB.at_same{B:Nat}(k:PostB B T0 E S E' S')(p:Pre T0 E S)(hb:qc2 E S b):E'.w.heap[b]?=E.w.heap[b]?:=k.same b (p.st.lo b hb.1) fun id _ ha hl=>hb.2 id ha hl
theorem PostB.beside{B:Nat}(k:PostB B T0 E S E' S')(p:Pre T0 E S)(hb:qc2 E S b)(h1:Beside b E.w w)(h2:Beside b E'.w w')(h3:w'.heap[b]?=w.heap[b]?):PostB B T0 (E.at_ w) S (E'.at_ w') S':=by
 have p':Pre T0 E' S':=k.pre (fun _ _=>trivial) p;obtain⟨_,p2,_⟩:=p'.beside (k.apart p hb) h2;have es:(E.at_ w).w.heap.size=E.w.heap.size:=h1.size;refine⟨p2.st,h2.os.trans (k.os.trans h1.os.symm),h2.tape.trans (k.tape.trans h1.tape.symm),h2.output.trans (k.output.trans h1.output.symm),?_,fun x hx hn=>?_,k.alw,fun id hB ha hl=>?_,k.old,fun x hx=>?_,fun x hx hlt=>k.mem x hx (by rw[es] at hlt;exact hlt),k.bnd,k.le,k.fr⟩
 ·show w.heap.size<=w'.heap.size;rw[h1.size,h2.size];exact k.size
 ·show w'.heap[x]?=w.heap[x]?;by_cases e:x=b
  ·rw[e];exact h3
  ·rw[h2.same x e,h1.same x e];exact k.same x (by rw[es] at hx;exact hx) hn
 ·rw[es];exact k.new id hB ha hl
 ·rw[es];exact k.memo x hx
end
end Go.Jx
end

section
namespace Go.Jx
open Go Go.Sx Go.RowKit
universe u

structure LpC where
 ls:List Nat
 lp:List PK
 nm:Nat->Option Nm
def putL:List Nat->List IV->PT IV->PT IV
 | t::ts,v::vs,fr=>putL ts vs (fr.set v t)
 | _,_,fr=>fr
theorem q2g:∀{ls:List Nat} {vs:List IV} {us:List Value} {E:Env} {nt:Nat} {fr:PT IV} {tmps:Array Value},VRs E vs us->us=ls.map (fun t=>tmps.getD t undef)->FR E nt fr tmps->FR E nt (putL ls vs fr) tmps
 | [],vs,us,E,nt,fr,tmps,hv,hu,hf=>by simpa [putL] using hf
 | t::ls,[],us,E,nt,fr,tmps,hv,hu,hf=>by simpa [putL] using hf
 | t::ls,v::vs,us,E,nt,fr,tmps,hv,hu,hf=>by
  obtain⟨u,us,rfl,a1,a2⟩:=hv.inv;simp only[jdj,jdy] at hu;show FR E nt (putL ls vs (fr.set v t)) tmps;refine q2g a2 hu.2 ⟨hf.size,fun k hk=>?_⟩;rw[qea];by_cases e:k=t
  ·subst e;rw[jao rfl,<- hu.1];exact a1
  ·rw[jan e];exact hf.get k hk
section
variable (P : Program) (tt : Nat -> Option TI)
def qey(cfg:LpC)(c:TC)(nt lf:Nat)(cl:Cl)(pr:Nat)(assign body:Code)(d:ElP cfg.lp)(z:ElP (refs cfg.lp))(x:El c):Option (ElP (refs cfg.lp) × Option Code) :=
 match qaj P tt cfg.nm (mP cfg.lp) nt cl lf none assign (qd1 [pr] [asIV c x] (putL cfg.ls (qap cfg.lp idN 0 d) .leaf)) (Sc cfg.lp (updP cfg.lp d z)) [] with
 | none=>none
 | some r1=>match r1.e with
  | .normal=>match r1.ds with
   | []=>match qaj P tt cfg.nm (mP cfg.lp) nt cl lf none body r1.fr r1.S [] with
    | none=>none
    | some r2=>match r2.ds with
     | []=>match runQ (sQ cfg.lp) ⟨.tup [],r2.S,0,0⟩ with
      | none=>none
      | some y=>some (y.2,qd2 r2.e)
     | _=>none
   | _=>none
  | _=>none
end
def foldB{D α:Type}(g:D->α->Option (D × Option Code)):List α->D->Option (D × Option Code)
 | [],d=>some (d,none)
 | x::xs,d=>match g d x with
  | none=>none
  | some (d',none)=>foldB g xs d'
  | some (d',some e)=>some (d',some e)
section
variable {P : Program} {tt : Nat -> Option TI}
theorem z07{cfg:LpC}{c:TC}{nt lf:Nat}{cl:Cl}{pr:Nat}{assign body:Code}{d:ElP cfg.lp}{z z':ElP (refs cfg.lp)}{x:El c}{e:Option Code}(hm:P.follows .mixedOrders=true)(hcl:ClOK P cl)(hfr:ClFr cl)(htt:TT P tt)
  (h:qey P tt cfg c nt lf cl pr assign body d z x=some (z',e)) (hok:qba assign=true/\qba body=true) (hrf:qbz assign=false/\qbz body=false)
  {E:Env} {b:Nat} {rec:Loop} (p:Pre T0 E (Sc cfg.lp (updP cfg.lp d z))) (hb:qc2 E (Sc cfg.lp (updP cfg.lp d z)) b) (hl:E.w.heap[b]?=some (.loop rec)) (hr:rec.state=.ready/\rec.pending=none/\rec.params=#[pr]/\rec.assign=assign/\rec.body=body/\rec.tmps.size=nt)
  (hargs:VRs E (qap cfg.lp idN 0 d) (cfg.ls.map fun t=>rec.tmps.getD t undef)) {u:Value} (hu:VR E (asIV c x) u) :
  YieldAt Fence.wide 0 P b #[u] E.w fun en B=>∃E',PostB (mP cfg.lp) T0 E (Sc cfg.lp (updP cfg.lp d z)) E' (Sc cfg.lp (updP cfg.lp d z')) /\
   ((e=none/\en=.returned (.bool true)/\B=E'.w)\/∃cd,e=some cd/\en=.returned (.bool false)/\Upd [b] E'.w B/\B.heap[b]?=some (.loop { rec with state:=.done,pending:=some cd })):=by
 obtain⟨hr1,hr2,hr3,hr4,hr5,hr6⟩:=hr;unfold qey at h;split at h
 ·cases h
 rename_i r1 hrun1;split at h<;>try cases h
 rename_i he1;split at h<;>try cases h
 rename_i hds1;split at h
 ·cases h
 rename_i r2 hrun2;split at h<;>try cases h
 rename_i hds2;split at h
 ·cases h
 rename_i y hq;cases h;have hblt:b<E.w.heap.size:=qar hl;have hy:=run_yield (P:=P) (args:=#[u]) hl (by rw[hr3];rfl);refine⟨_,_,_,_,hy,roundIn_of_wpIn trivial ?_⟩;have hFp:(Fence.wide.inRound b).plain=Fence.wide:=rfl;have hfr0:FR E nt (PT.leaf) rec.tmps:=⟨hr6,fun t ht=>.unk _⟩;have hfr1:FR E nt (qd1 [pr] [asIV c x] (putL cfg.ls (qap cfg.lp idN 0 d) .leaf)) ((rec.params.zip #[u]).foldl (fun tmps (t,a)=>tmps.setIfInBounds t a) rec.tmps):=by
  have:=qum (ps:=[pr]) (VRs.cons hu VRs.nil) (q2g hargs rfl hfr0);rw[hr3];simpa [List.zip] using this
 rw[hr4];refine qh6 (T:=T0) (E:=E) (a:={ tmps:=_,defers:=[] }) (S:=Sc cfg.lp (updP cfg.lp d z)) (ds:=[]) (round:=none) (B:=mP cfg.lp) (fun _ _=>trivial) hm hFp hcl hfr htt assign hok.1 p (by rw[qhj];omega) (fun _ _=>trivial) hfr1 (DS.nil (N:=0) (jcd _)) (fun h=>by rw[hrf.1] at h;cases h) hrun1 (fun _ _=>trivial) (fun _ _=>trivial) ?_;intro E1 a1 k1 k2 kB;rw[he1];have hb1:=kB.apart p hb;have hl1:E1.w.heap[b]?=some (.loop rec):=(kB.at_same p hb).trans hl;have p1:Pre T0 E1 r1.S:=kB.pre (fun _ _=>trivial) p;have hbg:=run_beginRound (P:=P) hl1 hr1;refine⟨_,hbg,?_⟩;generalize hW:(E1.w.putObj b (.loop { rec with state:=.busy }))=W1;have hs1:Beside b E1.w W1:=by rw[<- hW];exact Beside.put _ _ _
 have hW1:W1.heap[b]?=some (.loop { rec with state:=.busy }):=by rw[<- hW];exact jbs (qar hl1)
 obtain⟨hle2,p2,hb2⟩:=p1.beside hb1 hs1;have hs0:Beside b E.w (E.w.putObj b (.loop { rec with state:=.busy })):=Beside.put _ _ _;obtain⟨hle0,p0,hb0⟩:=p.beside hb hs0;have hw0:(E.w.putObj b (.loop { rec with state:=.busy })).heap[b]?=some (.loop { rec with state:=.busy }):=jbs hblt;have kB2:=kB.beside p hb hs0 hs1 (by rw[hW1,hw0]);rw[hr5];show body.wpIn _ 0 P _ a1 (E1.at_ W1).w;rw[hds1] at k2;refine qh6 (T:=T0) (E:=E1.at_ W1) (a:=a1) (S:=r1.S) (ds:=[]) (round:=none) (B:=mP cfg.lp) (fun _ _=>trivial) hm hFp hcl hfr htt body hok.2 p2 kB.le (fun _ _=>trivial) (k1.mono hle2) (k2.mono hle2 (by show E1.w.heap.size<=W1.heap.size;rw[<- hW];simp)) (fun h=>by rw[hrf.2] at h;cases h) hrun2 (fun _ _=>trivial) (fun _ _=>trivial) ?_;intro E3 a3 m1 m2 mB;have hall:=kB2.trans mB;have hargs0:VRs (E.at_ (E.w.putObj b (.loop { rec with state:=.busy }))) (qap (sQ cfg.lp).ps idN 0 (updP cfg.lp d z)) (cfg.ls.map fun t=>rec.tmps.getD t undef):=by
  show VRs _ (qap cfg.lp idN 0 (updP cfg.lp d z)) _;rw[qq1];exact hargs.mono hle0
 obtain⟨E4,e4,_,q4⟩:=zcc (s:=sQ cfg.lp) (r:=⟨.tup [],r2.S,0,0⟩) (x:=updP cfg.lp d z) (y:=y.1) (z:=y.2) (u:=.tuple #[]) hq p0 hargs0 hall (.tup (us:=[]) rfl (fun i h=>by simp at h));have hb4:=q4.apart p0 hb0;have hl4:E4.w.heap[b]?=some (.loop { rec with state:=.busy }):=(q4.at_same p0 hb0).trans hw0;have hend:=fun j=>run_endRound (P:=P) j hl4;have hs4:Beside b E4.w (E4.w.putObj b (.loop rec)):=Beside.put _ _ _;have hback:=q4.beside p0 hb0 hs0.symm hs4 (by rw[jbs (qar hl4)];exact hl.symm);have hfin:PostB (mP cfg.lp) T0 E (Sc cfg.lp (updP cfg.lp d z)) (E4.at_ (E4.w.putObj b (.loop rec))) (Sc cfg.lp (updP cfg.lp d y.2)):=by
  have e1:ScB (sQ cfg.lp) y.1 y.2=Sc cfg.lp (updP cfg.lp d y.2):=zcz cfg.lp d y.2;rw[e1] at hback;exact hback
 rw[<- e4];have hrec:({ rec with state:=.ready,pending:=none }:Loop)=rec:=by
  cases rec;cases hr1;cases hr2;rfl
 have hstop:∀cd,∃v w',(Instr.endRound b (some cd)).run P E4.w=.ok v w'/\∃E',PostB (mP cfg.lp) T0 E (Sc cfg.lp (updP cfg.lp d z)) E' (Sc cfg.lp (updP cfg.lp d y.2)) /\
   ((some cd=none/\Ending.returned v=.returned (.bool true)/\w'=E'.w)\/∃cd',some cd=some cd'/\Ending.returned v=.returned (.bool false)/\Upd [b] E'.w w'/\w'.heap[b]?=some (.loop { rec with state:=.done,pending:=some cd' })):=fun cd=>by
  refine⟨_,_,hend (some cd),E4.at_ (E4.w.putObj b (.loop rec)),hfin,.inr ⟨cd,rfl,rfl,?_,?_⟩⟩
  ·exact hs4.symm.upd.trans ((Beside.put E4.w b _).upd)
  ·exact jbs (qar hl4)
 cases he:r2.e with
 | normal =>
  refine⟨_,_,hend none,E4.at_ (E4.w.putObj b (.loop rec)),hfin,.inl ⟨rfl,rfl,?_⟩⟩;show E4.w.putObj b (.loop { rec with state:=.ready,pending:=none })=E4.w.putObj b (.loop rec);rw[hrec]
 | ret =>
  obtain⟨v,w',g1,E',g2,g3⟩:=hstop .ret;refine⟨v,w',g1,E',g2,?_⟩;rcases g3 with ⟨g3,_⟩|⟨cd,g3,g4,g5,g6⟩
  ·cases g3
  ·exact .inr ⟨cd,g3,g4,g5,by rw[hr4,hr5] at g6;exact g6⟩
 | exit i =>
  obtain⟨v,w',g1,E',g2,g3⟩:=hstop (.exit i);refine⟨v,w',g1,E',g2,?_⟩;rcases g3 with ⟨g3,_⟩|⟨cd,g3,g4,g5,g6⟩
  ·cases g3
  ·exact .inr ⟨cd,g3,g4,g5,by rw[hr4,hr5] at g6;exact g6⟩
 | goto l =>
  obtain⟨v,w',g1,E',g2,g3⟩:=hstop (.goto l);refine⟨v,w',g1,E',g2,?_⟩;rcases g3 with ⟨g3,_⟩|⟨cd,g3,g4,g5,g6⟩
  ·cases g3
  ·exact .inr ⟨cd,g3,g4,g5,by rw[hr4,hr5] at g6;exact g6⟩
end
end Go.Jx
end

section
namespace Go.Jx
open Go Go.Sx Go.RowKit
universe u

def qeq(P:Program)(gf:Nat)(us:List Value)(Rd:World->Prop){α:Type}(V:α->Value->World->World->Prop)(xs:List α):Prop :=
 ∀(l:Nat) (J:List α->World->Prop) (K:World->Prop) (W:World),(∀s A B,J s A->Upd [] A B->J s B)->(∀A B,K A->Upd [] A B->K B)->(∀s A,J s A->Rd A) ->
  (∀pre x post A0 A u,xs=pre++x::post->J pre A0->Upd [] A0 A->V x u A0 A->YieldAt Fence.wide 0 P l #[u] A fun e B=>(∀b,A0.heap.size<=b->b<A.heap.size->B.heap[b]?=A.heap[b]?)/\((e=.returned (.bool true)/\J (pre++[x]) B)\/(e=.returned (.bool false)/\K B))) ->
  J [] W->CallsIn Fence.wide 0 P gf (#[.func (.yield l) #[] #[]]++us.toArray) W fun e B=>e=.returned (.tuple #[])/\(J xs B\/K B)
structure SmI where
 ips:List PK
 c:TC
 xs:ElP ips->Option (List (El c))
def qw5(E:Env)(s:SmI)(x:ElP s.ips)(us:List Value)(rows:List Nat):Prop :=
 (∀ρ k,Nums ρ k rows->VRs E (qap s.ips ρ k x) us)/\qtk E rows (qaq s.ips idN 0 x)
structure ConI (P:Program) (f:Nat) (s:SmI):Prop where
 callable:qaf P f
 ns:nP s.ips=0
 it:∀(E:Env) (x:ElP s.ips) (us:List Value) (rows:List Nat) (l:List (El s.c)),s.xs x=some l->Gl E.m E.w->qw5 E s x us rows ->
  qeq P f us (fun W=>E.Le (E.at_ W)/\∀id∈rows,W.heap[E.ρ id]?=E.w.heap[E.ρ id]?) (fun x u A0 A=>∀E:Env,E.w=A->(∀b∈E.m,b<A0.heap.size)->VR E (asIV s.c x) u) l
def qdi:(l:List PK)->ElP l->ElP (refs l)
 | [],_=>()
 | .dat _::l,x=>qdi l x.2
 | .fn _::l,x=>qdi l x
 | .ref _::l,x=>(x.1,qdi l x.2)
theorem qq4:∀(l:List PK) (x:ElP l),updP l x (qdi l x)=x
 | [],_=>rfl
 | .dat c::l,x=>jav (fun q=>(x.1,q)) (qq4 l x.2)
 | .fn _::l,x=>qq4 l x
 | .ref r::l,x=>jav (fun q=>(x.1,q)) (qq4 l x.2)
theorem qqm{D α:Type}(g:D->α->Option (D × Option Code)):∀(pre post:List α) (z z':D),foldB g pre z=some (z',none)->foldB g (pre++post) z=foldB g post z'
 | [],post,z,z',h=>by cases h;rfl
 | x::pre,post,z,z',h=>by
  simp only[foldB,jc9] at h ⊢;cases hg:g z x with
  | none=>rw[hg] at h;cases h
  | some q =>
   obtain⟨z1,e⟩:=q;rw[hg] at h;cases e with
   | none=>exact qqm g pre post z1 z' h
   | some e=>cases h
section
variable (P : Program) (tt : Nat -> Option TI)
def itB(S2:IS)(cfg:LpC)(id nt:Nat)(irows rows subs:List Nat)(w2:Nat)(assign body:Code):Bool :=
 ndB (id::(irows++(rows++subs)))&&(irows.all (rowB S2)&&(rows.all (rowB S2)&&(qba assign&&(qba body&&(!qbz assign&&(!qbz body&&(cfg.ls.all (fun t=>Nat.blt t nt)&&!w2.testBit id)))))))
end
section
variable {P : Program} {tt : Nat -> Option TI}
end
end Go.Jx
end

section
namespace Go.Jx
open Go Go.Sx Go.RowKit
universe u

section
variable {P : Program} {tt : Nat -> Option TI}
end
end Go.Jx
end

section
namespace Go.Jx
open Go Go.Sx Go.RowKit
universe u

section
variable (P : Program) (tt : Nat -> Option TI)
end
section
variable {P : Program} {tt : Nat -> Option TI}
def z18:Nat->Option Nm:=fun k=>cond (Nat.beq k 999999) (some ⟨[],[],[],[],[],0,0,false⟩) none
end
end Go.Jx
end

section
namespace Go.Jx
open Go Go.Sx Go.RowKit
universe u

section
variable {P : Program} {tt : Nat -> Option TI} {ft : Nat -> Option FI}
end
end Go.Jx
end

noncomputable section
set_option maxRecDepth 100000
namespace Go.Proofs.YtnhmanoiolfapaaGreat
open Go Go.Sx Go.RowKit Go.Jx
def nmz8:Nat->Option Nm:=fun k=>cond (Nat.beq k 1) (some ⟨[0,1,8,9,10],[],[],[],[],0,0,false⟩) (cond (Nat.beq k 999999) (some ⟨[],[],[],[],[],0,0,false⟩) none)
def stz8:Nat->Bool:=fun k=>cond (Nat.beq k 1) true (false)
def hdz8:=stz8
abbrev Rtz8:Type:=(Unit) × ((List DAct) × Unit) × Unit
def qxp:List (Nat × Sm):=[]
def qx3:List (Nat × Hx):=[]
def clz8(R:Type)(lf:Nat):ClK R:=qa0 Tryz.prog ttT.get ftT.get (fun _ _=>none) (smL qxp) (hxL qx3) lf 20 R
abbrev idz8:Nat:=53
def qio(x1:(List DAct))(x2:Int)(x3:(List ByteArray))(p:Int × (List DAct)):NRes:=(NRes.mk (.node (some (IV.ptr 0 0)) (.node (some (IV.int .i64 x2)) .leaf (.node none (.node (some (IV.int .i64 (Int.ofNat x3.length))) .leaf .leaf) .leaf)) (.node none (.node none (.node (some (IV.lst TC.str x3)) .leaf .leaf) .leaf) (.node none (.node (some (IV.int .i64 p.1)) .leaf .leaf) .leaf))) (IS.mk (.node (some (IObj.row [(IV.arr 1)])) (.node (some (IObj.arr cAct p.2)) .leaf .leaf) .leaf) 2) [] 0)
def qzn(lf:Nat)(x1:(List DAct))(x2:Int)(x3:(List ByteArray))(L1:(Int × (List DAct))->Option Rtz8):Option Rtz8:=(L1 ((Int.ofNat 0),x1))
def qhy(lf:Nat)(x1:(List DAct))(x2:Int)(x3:(List ByteArray))(L1:(Int × (List DAct))->Option Rtz8)(p:Int × (List DAct)):Option Rtz8:=(cond (iltI p.1 (Int.ofNat x3.length)) (match (jget x3 p.1) with|none=>none|some v0=>(cond (Nat.ble (Nat.mul (Nat.add p.2.length 1) 32) 140737488355328) (L1 ((IntKind.i64.wrap (Int.add p.1 (Int.ofNat 1))),(List.append p.2 (List.cons (false,((IntKind.i64.wrap (Int.add x2 p.1)),v0)) [])))) none)) (some ((),((p.2,()),()))))
abbrev gz8:Type:=ElP [.ref (.box [.arr cAct]),.dat (.int .i64),.dat (.list .str)]->Option Rtz8
abbrev sz8(g:gz8):SmR:=⟨[.ref (.box [.arr cAct]),.dat (.int .i64),.dat (.list .str)],[],g⟩
abbrev Ez8(g:gz8)(J:JT Rtz8)(lf:Nat)(x1:(List DAct))(x2:Int)(x3:(List ByteArray)):=qca Tryz.prog ttT.get nmz8 (mP [.ref (.box [.arr cAct]),.dat (.int .i64),.dat (.list .str)]) fi53.nt (clz8 _ lf) lf stz8 J fi53.body [] (qat (qap [.ref (.box [.arr cAct]),.dat (.int .i64),.dat (.list .str)] idN 0 ((x1,()),x2,x3,())) 0 .leaf) (Sc [.ref (.box [.arr cAct]),.dat (.int .i64),.dat (.list .str)] ((x1,()),x2,x3,())) [] (qec ttT.get fi53 (sz8 g))
abbrev Bz8(g:gz8)(J:JT Rtz8)(lf k:Nat)(ms:List Nat)(q:NRes):=qcb Tryz.prog ttT.get nmz8 (mP [.ref (.box [.arr cAct]),.dat (.int .i64),.dat (.list .str)]) fi53.nt (clz8 _ lf) lf stz8 J k fi53.body [] ms q (qec ttT.get fi53 (sz8 g))
theorem inz8(g:gz8)(J:JT Rtz8)(lf:Nat)(x1:(List DAct))(x2:Int)(x3:(List ByteArray)):Ez8 g J lf x1 x2 x3=qzn lf x1 x2 x3 (fun q=>J 1 [lf] (qio x1 x2 x3 q)):=by kernel_rfl
theorem zuz(g:gz8)(J:JT Rtz8)(lf:Nat)(x1:(List DAct))(x2:Int)(x3:(List ByteArray))(m1:Nat)(p:Int × (List DAct)):Bz8 g J lf 1 [m1] (qio x1 x2 x3 p)=qhy lf x1 x2 x3 (fun q=>J 1 [m1] (qio x1 x2 x3 q)) p:=by kernel_rfl
theorem ndz8:(regs fi53.body).Nodup:=by decide +kernel
theorem okz8:okC nmz8 stz8 hdz8 fi53.body none=true:=by kernel_rfl
def Az8(g:gz8)(lf:Nat):JT Rtz8:=atQ Tryz.prog ttT.get nmz8 fi53 (sz8 g) (clz8 _ lf) lf hdz8
def qg7(lf:Nat)(x1:(List DAct))(x2:Int)(x3:(List ByteArray)):Nat->(Int × (List DAct))->Option Rtz8:=qav fun K p=>qhy lf x1 x2 x3 K p
theorem zex(g:gz8)(lf:Nat)(x1:(List DAct))(x2:Int)(x3:(List ByteArray)):∀(n:Nat) (p:Int × (List DAct)),Az8 g lf 1 [n] (qio x1 x2 x3 p)=qg7 lf x1 x2 x3 n p
 | 0,p=>q1j 1 [0] rfl _
 | n+1,p=>by
  have ih:=zex g lf x1 x2 x3 n;refine(q5i rfl (qaz 20 _) ndz8 okz8 1 [n+1] [n] rfl _).trans ((zuz g (Az8 g lf) lf x1 x2 x3 n p).trans ?_);rw[(show (fun q=>Az8 g lf 1 [n] (qio x1 x2 x3 q))=(fun q=>qg7 lf x1 x2 x3 n q) from funext ih)];rfl
def Fz8(lf:Nat)(x1:(List DAct))(x2:Int)(x3:(List ByteArray)):Option Rtz8:=qzn lf x1 x2 x3 (fun q=>qg7 lf x1 x2 x3 lf q)
theorem zzf(g:gz8)(lf:Nat)(x1:(List DAct))(x2:Int)(x3:(List ByteArray)):Ez8 g (Az8 g lf) lf x1 x2 x3=Fz8 lf x1 x2 x3:=by
  refine(inz8 g (Az8 g lf) lf x1 x2 x3).trans ?_;rw[(show (fun q=>Az8 g lf 1 [lf] (qio x1 x2 x3 q))=(fun q=>qg7 lf x1 x2 x3 lf q) from funext fun q=>zex g lf x1 x2 x3 lf q)];rfl
theorem zr7:qa3 Tryz.prog qx3:=trivial
theorem mkz8{g:gz8}(hsm:SmOK Tryz.prog qxp)(hg:∀(x:ElP [.ref (.box [.arr cAct]),.dat (.int .i64),.dat (.list .str)]) (y:Rtz8),WfP [.ref (.box [.arr cAct]),.dat (.int .i64),.dat (.list .str)] x->g x=some y->∃lf,Fz8 lf x.1.1 x.2.1 x.2.2.1=some y):ConR Tryz.prog 53 ⟨[.ref (.box [.arr cAct]),.dat (.int .i64),.dat (.list .str)],[],g⟩ :=
 conTR (nmf:=nmz8) (sml:=qxp) (hxl:=qx3) (st:=stz8) (hd:=hdz8) 20 mixed ttOK ftOK hsm zr7 zmu (by kernel_rfl) (fun x=>by kernel_rfl) ndz8 okz8 fun x y z hx hy=>by
  obtain⟨lf,h⟩:=hg x (y,z) hx hy;exact⟨lf,(zzf g lf x.1.1 x.2.1 x.2.2.1).trans h⟩
def nmz9:Nat->Option Nm:=fun k=>cond (Nat.beq k 999999) (some ⟨[],[],[],[],[],0,0,false⟩) none
def stz9:Nat->Bool:=fun k=>false
def hdz9:=stz9
abbrev Rtz9:Type:=(Unit) × ((List DAct) × Unit) × Unit
def qx2:List (Nat × Sm):=[]
def qxt:List (Nat × Hx):=[]
def clz9(R:Type)(lf:Nat):ClK R:=qa0 Tryz.prog ttT.get ftT.get (fun _ _=>none) (smL qx2) (hxL qxt) lf 20 R
abbrev idz9:Nat:=55
def qzt(lf:Nat)(x1:(List DAct)):Option Rtz9:=(cond (Nat.ble (Nat.mul (Nat.add x1.length 1) 32) 140737488355328) (some ((),(((List.append x1 (List.cons (true,((Int.ofNat 0),(S.lit []))) [])),()),()))) none)
abbrev gz9:Type:=ElP [.ref (.box [.arr cAct])]->Option Rtz9
abbrev sz9(g:gz9):SmR:=⟨[.ref (.box [.arr cAct])],[],g⟩
abbrev Ez9(g:gz9)(J:JT Rtz9)(lf:Nat)(x1:(List DAct)):=qca Tryz.prog ttT.get nmz9 (mP [.ref (.box [.arr cAct])]) fi55.nt (clz9 _ lf) lf stz9 J fi55.body [] (qat (qap [.ref (.box [.arr cAct])] idN 0 ((x1,()),())) 0 .leaf) (Sc [.ref (.box [.arr cAct])] ((x1,()),())) [] (qec ttT.get fi55 (sz9 g))
theorem inz9(g:gz9)(J:JT Rtz9)(lf:Nat)(x1:(List DAct)):Ez9 g J lf x1=qzt lf x1:=by kernel_rfl
theorem ndz9:(regs fi55.body).Nodup:=by decide +kernel
theorem okz9:okC nmz9 stz9 hdz9 fi55.body none=true:=by kernel_rfl
def Az9(g:gz9)(lf:Nat):JT Rtz9:=atQ Tryz.prog ttT.get nmz9 fi55 (sz9 g) (clz9 _ lf) lf hdz9
def Fz9(lf:Nat)(x1:(List DAct)):Option Rtz9:=qzt lf x1
theorem zou(g:gz9)(lf:Nat)(x1:(List DAct)):Ez9 g (Az9 g lf) lf x1=Fz9 lf x1:=by
  refine(inz9 g (Az9 g lf) lf x1).trans ?_;rfl
theorem zml:qa3 Tryz.prog qxt:=trivial
theorem mkz9{g:gz9}(hsm:SmOK Tryz.prog qx2)(hg:∀(x:ElP [.ref (.box [.arr cAct])]) (y:Rtz9),WfP [.ref (.box [.arr cAct])] x->g x=some y->∃lf,Fz9 lf x.1.1=some y):ConR Tryz.prog 55 ⟨[.ref (.box [.arr cAct])],[],g⟩ :=
 conTR (nmf:=nmz9) (sml:=qx2) (hxl:=qxt) (st:=stz9) (hd:=hdz9) 20 mixed ttOK ftOK hsm zml zk3 (by kernel_rfl) (fun x=>by kernel_rfl) ndz9 okz9 fun x y z hx hy=>by
  obtain⟨lf,h⟩:=hg x (y,z) hx hy;exact⟨lf,(zou g lf x.1.1).trans h⟩
def q2o:List (Nat × Hx):=[(53,hxR spz8),(55,hxR spz9)]
abbrev qqi:Type:=(List DAct) × Int × Unit
abbrev zhc:Nat:=11
def zdo(lf:Nat)(x1:qac):Option qqi:=(cond (Bool.not (ieqI (S.checkDisk (x1.1,x1.2)) (Int.ofNat 0))) (some ([],((S.checkDisk (x1.1,x1.2)),()))) (cond (iltI (Int.ofNat 0) (Int.ofNat x1.2.length)) (some ([],((Int.ofNat 12),()))) (match (cond true (some ((),(((S.app (S.app [] (S.puts (Int.ofNat 1) (List.cons S.blank [S.blank]))) [S.sync]),()),()))) none) with|none=>none|some v0=>(match (cond (S.pk []) (some ((S.packed [] (Int.ofNat 1)),())) none) with|none=>none|some v1=>(match (cond (Bool.and (S.inI (Int.ofNat 1) (Int.ofNat 0) (Int.ofNat 1000000)) (Bool.and (Nat.ble v1.1.length 1000000) (Nat.ble (S.lenA v0.2.1.1) 1000000))) (some ((),(((S.app v0.2.1.1 (S.puts (Int.ofNat 1) v1.1)),()),()))) none) with|none=>none|some v2=>(match (cond (Nat.ble (S.lenA v2.2.1.1) 4000000) (some ((),(((S.app v2.2.1.1 [S.sync]),()),()))) none) with|none=>none|some v3=>(match (cond (Bool.and (S.inI (Int.ofNat 0) (Int.ofNat 0) (Int.ofNat 1000000)) (Nat.ble (S.lenA v3.2.1.1) 1000000)) (some ((),(((S.app v3.2.1.1 (S.puts (Int.ofNat 0) [S.blank])),()),()))) none) with|none=>none|some v4=>(match (cond (Nat.ble (S.lenA v4.2.1.1) 4000000) (some ((),(((S.app v4.2.1.1 [S.sync]),()),()))) none) with|none=>none|some v5=>(some (v5.2.1.1,((Int.ofNat 0),())))))))))))
def qtf(lf:Nat)(x1:qac):Option qqi:=zdo lf x1
theorem zmf(hrz8:ConR Tryz.prog 53 spz8)(hrz9:ConR Tryz.prog 55 spz9):qa3 Tryz.prog q2o:=⟨qf3 hrz8,⟨qf3 hrz9,trivial⟩⟩
theorem zi0{g:ElA [qag]->Option qqi}(hsm:SmOK Tryz.prog [(37,qh7),(54,qt1),(56,qnl)])(hrz8:ConR Tryz.prog 53 spz8)(hrz9:ConR Tryz.prog 55 spz9)(hg:∀(x:ElA [qag]) (y:qqi),WfA [qag] x->g x=some y->∃lf,qtf lf x.1=some y):Con Tryz.prog 11 ⟨[qag],[(true,cAct),(false,(.int .i64))],g⟩ :=
 conU (fi:=fi11) (hxl:=q2o) (fun lf x=>qtf lf x.1) cm3 z08 (zmf hrz8 hrz9) hsm hg
def qj5:Nat->Option Nm:=fun k=>cond (Nat.beq k 4) (some ⟨[0,1,2,3,9,10,11],[(9,cAct),(10,.str)],[],[],[],0,0,false⟩) (none)
def qnc:Nat->Bool:=fun k=>cond (Nat.beq k 4) true (false)
def zdp:=qnc
abbrev qdn:Type:=(List DAct) × Unit
def zdd:List (Nat × Sm):=[(60,qwn),(58,q2v),(59,q6e),(57,qs0)]
def zcp:List (Nat × Hx):=[]
def q0b(R:Type)(lf:Nat):ClK R:=qa0 Tryz.prog ttT.get ftT.get (nm1 73 qj5) (smL zdd) (hxL zcp) lf 20 R
abbrev zwd:Nat:=73
def qhk(x1:(List qaa))(x2:Int)(x3:Int)(x4:Bool)(p:(List ByteArray) × Int × (List DAct)):NRes:=(NRes.mk (.node (some (IV.lst cCell x1)) (.node (some (IV.int .i64 x2)) (.node (some (IV.bool x4)) .leaf (.node (some (IV.int .i64 p.2.1)) .leaf .leaf)) (.node none (.node (some (IV.arr 0)) .leaf .leaf) .leaf)) (.node (some (IV.int .i64 x3)) .leaf (.node none (.node (some (IV.arr 1)) .leaf .leaf) .leaf))) (IS.mk (.node (some (IObj.arr cAct p.2.2)) (.node (some (IObj.arr TC.str p.1)) .leaf .leaf) .leaf) 2) [] 0)
def qzj(lf:Nat)(x1:(List qaa))(x2:Int)(x3:Int)(x4:Bool)(L4:((List ByteArray) × Int × (List DAct))->Option qdn):Option qdn:=(match (cond (S.pkm x1 (Int.ofNat 0)) (some ((S.packed x1 (Int.ofNat 0)),())) none) with|none=>none|some v0=>(L4 (v0.1,(Int.ofNat 0),[])))
def qid(lf:Nat)(x1:(List qaa))(x2:Int)(x3:Int)(x4:Bool)(L4:((List ByteArray) × Int × (List DAct))->Option qdn)(p:(List ByteArray) × Int × (List DAct)):Option qdn:=(cond (iltI p.2.1 (Int.ofNat p.1.length)) (match (jget p.1 p.2.1) with|none=>none|some v0=>(match (GetElem?.getElem? p.1 (Int.toNat p.2.1)) with|none=>none|some v1=>(cond (Nat.ble (Nat.mul (Nat.add p.2.2.length 1) 32) 140737488355328) (L4 (p.1,(IntKind.i64.wrap (Int.add p.2.1 (Int.ofNat 1))),(List.append p.2.2 (List.cons ((S.put (IntKind.i64.wrap (Int.add x2 p.2.1)) v1).1,((S.put (IntKind.i64.wrap (Int.add x2 p.2.1)) v1).2.1,(S.put (IntKind.i64.wrap (Int.add x2 p.2.1)) v1).2.2)) [])))) none))) (cond x4 (cond (iltI (IntKind.i64.wrap (Int.add x2 (Int.ofNat p.1.length))) x3) (match (cond (S.inI (Int.ofNat 64) (Int.ofNat 0) (Int.ofNat 64)) (some ((S.lit [0,0,0,0,0,0,0,0,0,0,0,0,0,0,0,0,0,0,0,0,0,0,0,0,0,0,0,0,0,0,0,0,0,0,0,0,0,0,0,0,0,0,0,0,0,0,0,0,0,0,0,0,0,0,0,0,0,0,0,0,0,0,0,0]),())) none) with|none=>none|some v50=>(cond (Nat.ble (Nat.mul (Nat.add p.2.2.length 1) 32) 140737488355328) (match (cond (S.pkm x1 (Int.ofNat 1)) (some ((S.packed x1 (Int.ofNat 1)),())) none) with|none=>none|some v51=>(match (jget v51.1 (Int.ofNat 0)) with|none=>none|some v52=>(match (GetElem?.getElem? v51.1 0) with|none=>none|some v53=>(cond (Nat.ble (Nat.mul (Nat.add (List.length (List.append p.2.2 (List.cons ((S.put (IntKind.i64.wrap (Int.add x2 (Int.ofNat p.1.length))) v50.1).1,((S.put (IntKind.i64.wrap (Int.add x2 (Int.ofNat p.1.length))) v50.1).2.1,(S.put (IntKind.i64.wrap (Int.add x2 (Int.ofNat p.1.length))) v50.1).2.2)) []))) 3) 32) 140737488355328) (some ((List.append (List.append p.2.2 (List.cons ((S.put (IntKind.i64.wrap (Int.add x2 (Int.ofNat p.1.length))) v50.1).1,((S.put (IntKind.i64.wrap (Int.add x2 (Int.ofNat p.1.length))) v50.1).2.1,(S.put (IntKind.i64.wrap (Int.add x2 (Int.ofNat p.1.length))) v50.1).2.2)) [])) (List.cons (S.sync.1,(S.sync.2.1,S.sync.2.2)) (List.cons ((S.put x2 v53).1,((S.put x2 v53).2.1,(S.put x2 v53).2.2)) [(S.sync.1,(S.sync.2.1,S.sync.2.2))]))),())) none)))) none)) (match (cond (S.pkm x1 (Int.ofNat 1)) (some ((S.packed x1 (Int.ofNat 1)),())) none) with|none=>none|some v54=>(match (jget v54.1 (Int.ofNat 0)) with|none=>none|some v55=>(match (GetElem?.getElem? v54.1 0) with|none=>none|some v56=>(cond (Nat.ble (Nat.mul (Nat.add p.2.2.length 3) 32) 140737488355328) (some ((List.append p.2.2 (List.cons (S.sync.1,(S.sync.2.1,S.sync.2.2)) (List.cons ((S.put x2 v56).1,((S.put x2 v56).2.1,(S.put x2 v56).2.2)) [(S.sync.1,(S.sync.2.1,S.sync.2.2))]))),())) none))))) (match (cond (S.pkm x1 (Int.ofNat 1)) (some ((S.packed x1 (Int.ofNat 1)),())) none) with|none=>none|some v57=>(match (jget v57.1 (Int.ofNat 0)) with|none=>none|some v58=>(match (GetElem?.getElem? v57.1 0) with|none=>none|some v59=>(cond (Nat.ble (Nat.mul (Nat.add p.2.2.length 3) 32) 140737488355328) (some ((List.append p.2.2 (List.cons (S.sync.1,(S.sync.2.1,S.sync.2.2)) (List.cons ((S.put x2 v59).1,((S.put x2 v59).2.1,(S.put x2 v59).2.2)) [(S.sync.1,(S.sync.2.1,S.sync.2.2))]))),())) none))))))
abbrev gz10:Type:=ElA [(.list cCell),(.int .i64),(.int .i64),.bool]->Option qdn
abbrev sz10(g:gz10):Sm:=⟨[(.list cCell),(.int .i64),(.int .i64),.bool],[(true,cAct)],g⟩
abbrev Ez10(g:gz10)(J:JT qdn)(lf:Nat)(x1:(List qaa))(x2:Int)(x3:Int)(x4:Bool):=qbf Tryz.prog ttT.get qj5 fi73.nt (q0b _ lf) lf qnc J fi73.body [] (qat (argV [(.list cCell),(.int .i64),(.int .i64),.bool] (x1,x2,x3,x4,())) 0 .leaf) S0 [] (qam ttT.get fi73 (sz10 g))
abbrev Bz10(g:gz10)(J:JT qdn)(lf k:Nat)(ms:List Nat)(q:NRes):=qbl Tryz.prog ttT.get qj5 fi73.nt (q0b _ lf) lf qnc J k fi73.body [] ms q (qam ttT.get fi73 (sz10 g))
theorem z00(g:gz10)(J:JT qdn)(lf:Nat)(x1:(List qaa))(x2:Int)(x3:Int)(x4:Bool):Ez10 g J lf x1 x2 x3 x4=qzj lf x1 x2 x3 x4 (fun q=>J 4 [lf] (qhk x1 x2 x3 x4 q)):=by kernel_rfl
theorem zt2(g:gz10)(J:JT qdn)(lf:Nat)(x1:(List qaa))(x2:Int)(x3:Int)(x4:Bool)(m1:Nat)(p:(List ByteArray) × Int × (List DAct)):Bz10 g J lf 4 [m1] (qhk x1 x2 x3 x4 p)=qid lf x1 x2 x3 x4 (fun q=>J 4 [m1] (qhk x1 x2 x3 x4 q)) p:=by kernel_rfl
theorem q8k:(regs fi73.body).Nodup:=by decide +kernel
theorem q59:okC qj5 qnc zdp fi73.body none=true:=by kernel_rfl
def Az10(g:gz10)(lf:Nat):JT qdn:=atN Tryz.prog ttT.get qj5 fi73 (sz10 g) (q0b _ lf) lf zdp
def qha(lf:Nat)(x1:(List qaa))(x2:Int)(x3:Int)(x4:Bool):Nat->((List ByteArray) × Int × (List DAct))->Option qdn:=qav fun K p=>qid lf x1 x2 x3 x4 K p
theorem q6y(g:gz10)(lf:Nat)(x1:(List qaa))(x2:Int)(x3:Int)(x4:Bool):∀(n:Nat) (p:(List ByteArray) × Int × (List DAct)),Az10 g lf 4 [n] (qhk x1 x2 x3 x4 p)=qha lf x1 x2 x3 x4 n p
 | 0,p=>qa7 4 [0] rfl _
 | n+1,p=>by
  have ih:=q6y g lf x1 x2 x3 x4 n;refine(qa8 (qaz 20 _) q8k q59 4 [n+1] [n] rfl _).trans ((zt2 g (Az10 g lf) lf x1 x2 x3 x4 n p).trans ?_);rw[(show (fun q=>Az10 g lf 4 [n] (qhk x1 x2 x3 x4 q))=(fun q=>qha lf x1 x2 x3 x4 n q) from funext ih)];rfl
def Fz10(lf:Nat)(x1:(List qaa))(x2:Int)(x3:Int)(x4:Bool):Option qdn:=qzj lf x1 x2 x3 x4 (fun q=>qha lf x1 x2 x3 x4 lf q)
theorem znd(g:gz10)(lf:Nat)(x1:(List qaa))(x2:Int)(x3:Int)(x4:Bool):Ez10 g (Az10 g lf) lf x1 x2 x3 x4=Fz10 lf x1 x2 x3 x4:=by
  refine(z00 g (Az10 g lf) lf x1 x2 x3 x4).trans ?_;rw[(show (fun q=>Az10 g lf 4 [lf] (qhk x1 x2 x3 x4 q))=(fun q=>qha lf x1 x2 x3 x4 lf q) from funext fun q=>q6y g lf x1 x2 x3 x4 lf q)];rfl
theorem zii:qa3 Tryz.prog zcp:=trivial
theorem zfj{g:gz10}(hsm:SmOK Tryz.prog zdd)(hg:∀(x:ElA [(.list cCell),(.int .i64),(.int .i64),.bool]) (y:qdn),WfA [(.list cCell),(.int .i64),(.int .i64),.bool] x->g x=some y->∃lf,Fz10 lf x.1 x.2.1 x.2.2.1 x.2.2.2.1=some y):Con Tryz.prog 73 ⟨[(.list cCell),(.int .i64),(.int .i64),.bool],[(true,cAct)],g⟩ :=
 conV (st:=qnc) (fun lf x=>Fz10 lf x.1 x.2.1 x.2.2.1 x.2.2.2.1) cm3 zy1 zii q8k q59 (fun lf x=>znd g lf x.1 x.2.1 x.2.2.1 x.2.2.2.1) hsm hg
def qmn:Nat->Option Nm:=fun k=>cond (Nat.beq k 6) (some ⟨[4,7,23,24,25],[],[(7,0,.str),(7,1,cPut)],[],[],0,0,false⟩) (none)
def qk4:Nat->Bool:=fun k=>cond (Nat.beq k 6) true (false)
def q00:=qk4
abbrev qc8:Type:=qac × Int × Unit
def zcx:List (Nat × Sm):=[(37,qh7),(66,qg5),(79,qy2),(80,q7f),(77,qkc),(78,q07)]
def zch:List (Nat × Hx):=[]
def qxv(R:Type)(lf:Nat):ClK R:=qa0 Tryz.prog ttT.get ftT.get (nm1 32 qmn) (smL zcx) (hxL zch) lf 20 R
abbrev zro:Nat:=32
def qif(x1:qac)(x2:qqw)(p:Int × (List DPut) × (List ByteArray)):NRes:=(NRes.mk (.node none (.node none (.node none (.node (some (IV.ptr 1 0)) .leaf (.node (some (IV.lst cAct x2)) .leaf .leaf)) .leaf) (.node none (.node none .leaf (.node (some (IV.int .i64 p.1)) .leaf .leaf)) .leaf)) (.node none (.node (some (IV.ptr 0 0)) (.node none .leaf (.node (some (IV.int .i64 (Int.ofNat x2.length))) .leaf .leaf)) .leaf) .leaf)) (IS.mk (.node (some (IObj.row (List.cons IV.nilsl [IV.nilsl]))) (.node (some (IObj.row (List.cons (IV.arr 2) [(IV.arr 3)]))) (.node (some (IObj.arr cPut p.2.1)) .leaf .leaf) .leaf) (.node (some (IObj.arr TC.str p.2.2)) .leaf .leaf)) 4) [] 0)
def q0t(lf:Nat)(x1:qac)(x2:(List DAct))(L6:(Int × (List DPut) × (List ByteArray))->Option qc8):Option qc8:=(cond (Bool.not (ieqI (S.checkDisk (x1.1,x1.2)) (Int.ofNat 0))) (some (([],[]),((S.checkDisk (x1.1,x1.2)),()))) (L6 ((Int.ofNat 0),x1.2,x1.1)))
def qpk(lf:Nat)(x1:qac)(x2:(List DAct))(L6:(Int × (List DPut) × (List ByteArray))->Option qc8)(p:Int × (List DPut) × (List ByteArray)):Option qc8:=(cond (iltI p.1 (Int.ofNat x2.length)) (match (jget x2 p.1) with|none=>none|some v0=>(cond v0.1 (cond (Bool.not (Bool.and (keqI v0.2.1 (Int.ofNat 0)) (Bool.and (keqS v0.2.2 (S.lit [])) true))) (cond (Bool.not (Bool.and (keqI v0.2.1 (Int.ofNat 0)) (Bool.and (keqS v0.2.2 (S.lit [])) true))) (some (([],[]),((Int.ofNat 1),()))) (cond v0.1 (match (cond (S.fitP p.2.2 p.2.1) (some ((S.settled p.2.2 p.2.1),())) none) with|none=>none|some v1=>(L6 ((IntKind.i64.wrap (Int.add p.1 (Int.ofNat 1))),[],v1.1))) (cond (ieqI (Int.ofNat p.2.1.length) (Int.ofNat 4000)) (some (([],[]),((Int.ofNat 3),()))) (cond (Nat.ble (Nat.mul (Nat.add p.2.1.length 1) 24) 140737488355328) (L6 ((IntKind.i64.wrap (Int.add p.1 (Int.ofNat 1))),(List.append p.2.1 [(v0.2.1,v0.2.2)]),p.2.2)) none)))) (cond (Bool.not v0.1) (cond (S.short v0.2.2) (some (([],[]),((Int.ofNat 1),()))) (cond (Bool.not (S.inI v0.2.1 (Int.ofNat 0) (IntKind.i64.wrap (Int.sub (Int.ofNat p.2.2.length) (Int.ofNat 1))))) (some (([],[]),((Int.ofNat 1),()))) (cond v0.1 (match (cond (S.fitP p.2.2 p.2.1) (some ((S.settled p.2.2 p.2.1),())) none) with|none=>none|some v27=>(L6 ((IntKind.i64.wrap (Int.add p.1 (Int.ofNat 1))),[],v27.1))) (cond (ieqI (Int.ofNat p.2.1.length) (Int.ofNat 4000)) (some (([],[]),((Int.ofNat 3),()))) (cond (Nat.ble (Nat.mul (Nat.add p.2.1.length 1) 24) 140737488355328) (L6 ((IntKind.i64.wrap (Int.add p.1 (Int.ofNat 1))),(List.append p.2.1 [(v0.2.1,v0.2.2)]),p.2.2)) none))))) (cond v0.1 (match (cond (S.fitP p.2.2 p.2.1) (some ((S.settled p.2.2 p.2.1),())) none) with|none=>none|some v28=>(L6 ((IntKind.i64.wrap (Int.add p.1 (Int.ofNat 1))),[],v28.1))) (cond (ieqI (Int.ofNat p.2.1.length) (Int.ofNat 4000)) (some (([],[]),((Int.ofNat 3),()))) (cond (Nat.ble (Nat.mul (Nat.add p.2.1.length 1) 24) 140737488355328) (L6 ((IntKind.i64.wrap (Int.add p.1 (Int.ofNat 1))),(List.append p.2.1 [(v0.2.1,v0.2.2)]),p.2.2)) none))))) (cond (Bool.not v0.1) (cond (S.short v0.2.2) (some (([],[]),((Int.ofNat 1),()))) (cond (Bool.not (S.inI v0.2.1 (Int.ofNat 0) (IntKind.i64.wrap (Int.sub (Int.ofNat p.2.2.length) (Int.ofNat 1))))) (some (([],[]),((Int.ofNat 1),()))) (cond v0.1 (match (cond (S.fitP p.2.2 p.2.1) (some ((S.settled p.2.2 p.2.1),())) none) with|none=>none|some v29=>(L6 ((IntKind.i64.wrap (Int.add p.1 (Int.ofNat 1))),[],v29.1))) (cond (ieqI (Int.ofNat p.2.1.length) (Int.ofNat 4000)) (some (([],[]),((Int.ofNat 3),()))) (cond (Nat.ble (Nat.mul (Nat.add p.2.1.length 1) 24) 140737488355328) (L6 ((IntKind.i64.wrap (Int.add p.1 (Int.ofNat 1))),(List.append p.2.1 [(v0.2.1,v0.2.2)]),p.2.2)) none))))) (cond v0.1 (match (cond (S.fitP p.2.2 p.2.1) (some ((S.settled p.2.2 p.2.1),())) none) with|none=>none|some v30=>(L6 ((IntKind.i64.wrap (Int.add p.1 (Int.ofNat 1))),[],v30.1))) (cond (ieqI (Int.ofNat p.2.1.length) (Int.ofNat 4000)) (some (([],[]),((Int.ofNat 3),()))) (cond (Nat.ble (Nat.mul (Nat.add p.2.1.length 1) 24) 140737488355328) (L6 ((IntKind.i64.wrap (Int.add p.1 (Int.ofNat 1))),(List.append p.2.1 [(v0.2.1,v0.2.2)]),p.2.2)) none)))))) (some ((p.2.2,p.2.1),((Int.ofNat 0),()))))
abbrev gz11:Type:=ElA [qag,(.list cAct)]->Option qc8
abbrev sz11(g:gz11):Sm:=⟨[qag,(.list cAct)],[(false,qag),(false,(.int .i64))],g⟩
abbrev Ez11(g:gz11)(J:JT qc8)(lf:Nat)(x1:qac)(x2:(List DAct)):=qbf Tryz.prog ttT.get qmn fi32.nt (qxv _ lf) lf qk4 J fi32.body [] (qat (argV [qag,(.list cAct)] (x1,x2,())) 0 .leaf) S0 [] (qam ttT.get fi32 (sz11 g))
abbrev Bz11(g:gz11)(J:JT qc8)(lf k:Nat)(ms:List Nat)(q:NRes):=qbl Tryz.prog ttT.get qmn fi32.nt (qxv _ lf) lf qk4 J k fi32.body [] ms q (qam ttT.get fi32 (sz11 g))
theorem zkk(g:gz11)(J:JT qc8)(lf:Nat)(x1:qac)(x2:(List DAct)):Ez11 g J lf x1 x2=q0t lf x1 x2 (fun q=>J 6 [lf] (qif x1 x2 q)):=by kernel_rfl
theorem zqx(g:gz11)(J:JT qc8)(lf:Nat)(x1:qac)(x2:(List DAct))(m1:Nat)(p:Int × (List DPut) × (List ByteArray)):Bz11 g J lf 6 [m1] (qif x1 x2 p)=qpk lf x1 x2 (fun q=>J 6 [m1] (qif x1 x2 q)) p:=by kernel_rfl
theorem ze6:(regs fi32.body).Nodup:=by decide +kernel
theorem q35:okC qmn qk4 q00 fi32.body none=true:=by kernel_rfl
def Az11(g:gz11)(lf:Nat):JT qc8:=atN Tryz.prog ttT.get qmn fi32 (sz11 g) (qxv _ lf) lf q00
def qtj(lf:Nat)(x1:qac)(x2:(List DAct)):Nat->(Int × (List DPut) × (List ByteArray))->Option qc8:=qav fun K p=>qpk lf x1 x2 K p
theorem zaw(g:gz11)(lf:Nat)(x1:qac)(x2:(List DAct)):∀(n:Nat) (p:Int × (List DPut) × (List ByteArray)),Az11 g lf 6 [n] (qif x1 x2 p)=qtj lf x1 x2 n p
 | 0,p=>qa7 6 [0] rfl _
 | n+1,p=>by
  have ih:=zaw g lf x1 x2 n;refine(qa8 (qaz 20 _) ze6 q35 6 [n+1] [n] rfl _).trans ((zqx g (Az11 g lf) lf x1 x2 n p).trans ?_);rw[(show (fun q=>Az11 g lf 6 [n] (qif x1 x2 q))=(fun q=>qtj lf x1 x2 n q) from funext ih)];rfl
def Fz11(lf:Nat)(x1:qac)(x2:(List DAct)):Option qc8:=q0t lf x1 x2 (fun q=>qtj lf x1 x2 lf q)
theorem zgo(g:gz11)(lf:Nat)(x1:qac)(x2:(List DAct)):Ez11 g (Az11 g lf) lf x1 x2=Fz11 lf x1 x2:=by
  refine(zkk g (Az11 g lf) lf x1 x2).trans ?_;rw[(show (fun q=>Az11 g lf 6 [lf] (qif x1 x2 q))=(fun q=>qtj lf x1 x2 lf q) from funext fun q=>zaw g lf x1 x2 lf q)];rfl
theorem zr4:qa3 Tryz.prog zch:=trivial
theorem zle{g:gz11}(hsm:SmOK Tryz.prog zcx)(hg:∀(x:ElA [qag,(.list cAct)]) (y:qc8),WfA [qag,(.list cAct)] x->g x=some y->∃lf,Fz11 lf x.1 x.2.1=some y):Con Tryz.prog 32 ⟨[qag,(.list cAct)],[(false,qag),(false,(.int .i64))],g⟩ :=
 conV (st:=qk4) (fun lf x=>Fz11 lf x.1 x.2.1) cm3 z15 zr4 ze6 q35 (fun lf x=>zgo g lf x.1 x.2.1) hsm hg
def qmq:Nat->Option Nm:=fun k=>cond (Nat.beq k 8) (some ⟨[2,4,7,32,33,34],[],[(7,0,.str)],[],[],0,0,false⟩) (none)
def qlu:Nat->Bool:=fun k=>cond (Nat.beq k 8) true (false)
def q03:=qlu
abbrev qc1:Type:=qac × Int × Unit
def zec:List (Nat × Sm):=[(37,qh7),(66,qg5),(77,qkc)]
def q74:List (Nat × Hx):=[(103,qrs (.int .i64))]
def qyp(R:Type)(lf:Nat):ClK R:=qa0 Tryz.prog ttT.get ftT.get (nm1 34 qmq) (smL zec) (hxL q74) lf 20 R
abbrev zi9:Nat:=34
def qjz(x1:qac)(x2:(List Int))(p:Int × (List ByteArray)):NRes:=(NRes.mk (.node none (.node none (.node none (.node (some (IV.ptr 2 0)) .leaf .leaf) .leaf) (.node none (.node none (.node none (.node (some (IV.int .i64 (Int.ofNat x2.length))) .leaf .leaf) .leaf) .leaf) .leaf)) (.node (some (IV.ptr 0 0)) (.node (some (IV.ptr 1 0)) (.node none (.node none (.node (some (IV.lst (TC.int .i64) x2)) .leaf .leaf) .leaf) .leaf) .leaf) (.node none (.node none (.node none (.node (some (IV.int .i64 p.1)) .leaf .leaf) .leaf) .leaf) .leaf))) (IS.mk (.node (some (IObj.row (List.cons (IV.lst TC.str x1.1) [(IV.lst cPut x1.2)]))) (.node (some (IObj.row (List.cons IV.nilsl [IV.nilsl]))) (.node (some (IObj.arr TC.str p.2)) .leaf .leaf) .leaf) (.node (some (IObj.row (List.cons (IV.arr 3) [IV.nilsl]))) .leaf .leaf)) 4) [] 0)
def qv4(lf:Nat)(x1:qac)(x2:(List Int))(L8:(Int × (List ByteArray))->Option qc1):Option qc1:=(cond (Bool.not (ieqI (S.checkDisk (x1.1,x1.2)) (Int.ofNat 0))) (some (([],[]),((S.checkDisk (x1.1,x1.2)),()))) (cond (iltI (Int.ofNat x1.2.length) (Int.ofNat x2.length)) (some (([],[]),((Int.ofNat 1),()))) (match (idxO (fun v0=>(some (Bool.not (S.inI v0 (Int.ofNat 0) (Int.ofNat 64))))) x2 0) with|none=>none|some v1=>(cond (Bool.not (iltI v1 (Int.ofNat 0))) (some (([],[]),((Int.ofNat 1),()))) (L8 ((Int.ofNat 0),x1.1))))))
def qtd(lf:Nat)(x1:qac)(x2:(List Int))(L8:(Int × (List ByteArray))->Option qc1)(p:Int × (List ByteArray)):Option qc1:=(cond (iltI p.1 (Int.ofNat x2.length)) (match (jget x2 p.1) with|none=>none|some v0=>(match (jget x1.2 p.1) with|none=>none|some v1=>(cond (lchk (Int.ofNat 0) v0 (Int.ofNat v1.2.size) (Int.ofNat v1.2.size)) (match (jget p.2 v1.1) with|none=>none|some v2=>(match (GetElem?.getElem? p.2 (Int.toNat v1.1)) with|none=>none|some v3=>(cond (lchk v0 (Int.ofNat v3.size) (Int.ofNat v3.size) (Int.ofNat v3.size)) (cond (Nat.ble (Nat.succ (Nat.add (ByteArray.size (ByteArray.extract v1.2 0 (Int.toNat v0))) (ByteArray.size (ByteArray.extract v3 (Int.toNat v0) (Int.toNat (Int.ofNat v3.size)))))) 9223372036854775808) (match (jget p.2 v1.1) with|none=>none|some v4=>(match (GetElem?.getElem? p.2 (Int.toNat v1.1)) with|none=>none|some v5=>(L8 ((IntKind.i64.wrap (Int.add p.1 (Int.ofNat 1))),(List.set p.2 (Int.toNat v1.1) (ByteArray.append (ByteArray.extract v1.2 0 (Int.toNat v0)) (ByteArray.extract v3 (Int.toNat v0) (Int.toNat (Int.ofNat v3.size))))))))) none) none))) none))) (some ((p.2,[]),((Int.ofNat 0),()))))
abbrev gz12:Type:=ElA [qag,(.list (.int .i64))]->Option qc1
abbrev sz12(g:gz12):Sm:=⟨[qag,(.list (.int .i64))],[(false,qag),(false,(.int .i64))],g⟩
abbrev Ez12(g:gz12)(J:JT qc1)(lf:Nat)(x1:qac)(x2:(List Int)):=qbf Tryz.prog ttT.get qmq fi34.nt (qyp _ lf) lf qlu J fi34.body [] (qat (argV [qag,(.list (.int .i64))] (x1,x2,())) 0 .leaf) S0 [] (qam ttT.get fi34 (sz12 g))
abbrev Bz12(g:gz12)(J:JT qc1)(lf k:Nat)(ms:List Nat)(q:NRes):=qbl Tryz.prog ttT.get qmq fi34.nt (qyp _ lf) lf qlu J k fi34.body [] ms q (qam ttT.get fi34 (sz12 g))
theorem zj2(g:gz12)(J:JT qc1)(lf:Nat)(x1:qac)(x2:(List Int)):Ez12 g J lf x1 x2=qv4 lf x1 x2 (fun q=>J 8 [lf] (qjz x1 x2 q)):=by kernel_rfl
theorem zp4(g:gz12)(J:JT qc1)(lf:Nat)(x1:qac)(x2:(List Int))(m1:Nat)(p:Int × (List ByteArray)):Bz12 g J lf 8 [m1] (qjz x1 x2 p)=qtd lf x1 x2 (fun q=>J 8 [m1] (qjz x1 x2 q)) p:=by kernel_rfl
theorem q1z:(regs fi34.body).Nodup:=by decide +kernel
theorem zev:okC qmq qlu q03 fi34.body none=true:=by kernel_rfl
def Az12(g:gz12)(lf:Nat):JT qc1:=atN Tryz.prog ttT.get qmq fi34 (sz12 g) (qyp _ lf) lf q03
def qrf(lf:Nat)(x1:qac)(x2:(List Int)):Nat->(Int × (List ByteArray))->Option qc1:=qav fun K p=>qtd lf x1 x2 K p
theorem q4o(g:gz12)(lf:Nat)(x1:qac)(x2:(List Int)):∀(n:Nat) (p:Int × (List ByteArray)),Az12 g lf 8 [n] (qjz x1 x2 p)=qrf lf x1 x2 n p
 | 0,p=>qa7 8 [0] rfl _
 | n+1,p=>by
  have ih:=q4o g lf x1 x2 n;refine(qa8 (qaz 20 _) q1z zev 8 [n+1] [n] rfl _).trans ((zp4 g (Az12 g lf) lf x1 x2 n p).trans ?_);rw[(show (fun q=>Az12 g lf 8 [n] (qjz x1 x2 q))=(fun q=>qrf lf x1 x2 n q) from funext ih)];rfl
def Fz12(lf:Nat)(x1:qac)(x2:(List Int)):Option qc1:=qv4 lf x1 x2 (fun q=>qrf lf x1 x2 lf q)
theorem zj1(g:gz12)(lf:Nat)(x1:qac)(x2:(List Int)):Ez12 g (Az12 g lf) lf x1 x2=Fz12 lf x1 x2:=by
  refine(zj2 g (Az12 g lf) lf x1 x2).trans ?_;rw[(show (fun q=>Az12 g lf 8 [lf] (qjz x1 x2 q))=(fun q=>qrf lf x1 x2 lf q) from funext fun q=>q4o g lf x1 x2 lf q)];rfl
theorem zf1:qa3 Tryz.prog q74:=⟨zkc,trivial⟩
theorem zpj{g:gz12}(hsm:SmOK Tryz.prog zec)(hg:∀(x:ElA [qag,(.list (.int .i64))]) (y:qc1),WfA [qag,(.list (.int .i64))] x->g x=some y->∃lf,Fz12 lf x.1 x.2.1=some y):Con Tryz.prog 34 ⟨[qag,(.list (.int .i64))],[(false,qag),(false,(.int .i64))],g⟩ :=
 conV (st:=qlu) (fun lf x=>Fz12 lf x.1 x.2.1) cm3 zoh zf1 q1z zev (fun lf x=>zj1 g lf x.1 x.2.1) hsm hg
def qkd:Nat->Option Nm:=fun k=>cond (Nat.beq k 3) (some ⟨[1,2,7,8],[(7,.str)],[],[],[],0,0,false⟩) (none)
def qli:Nat->Bool:=fun k=>cond (Nat.beq k 3) true (false)
def q76:=qli
abbrev qcx:Type:=(List ByteArray) × Unit
def q5j:List (Nat × Sm):=[]
def zay:List (Nat × Hx):=[]
def qun(R:Type)(lf:Nat):ClK R:=qa0 Tryz.prog ttT.get ftT.get (nm1 81 qkd) (smL q5j) (hxL zay) lf 20 R
abbrev z06:Nat:=81
def qjv(x1:(List ByteArray))(x2:(List DPut))(x3:(List Int))(p:Int × (List ByteArray)):NRes:=(NRes.mk (.node none (.node (some (IV.lst cPut x2)) (.node none (.node (some (IV.arr 0)) .leaf .leaf) .leaf) .leaf) (.node (some (IV.lst (TC.int .i64) x3)) (.node none (.node (some (IV.int .i64 p.1)) .leaf .leaf) .leaf) .leaf)) (IS.mk (.node (some (IObj.arr TC.str p.2)) .leaf .leaf) 1) [] 0)
def qyw(lf:Nat)(x1:(List ByteArray))(x2:(List DPut))(x3:(List Int))(L3:(Int × (List ByteArray))->Option qcx):Option qcx:=(cond (Nat.ble (Nat.mul (Nat.add 0 x1.length) 16) 140737488355328) (L3 ((Int.ofNat 0),x1)) none)
def qn4(lf:Nat)(x1:(List ByteArray))(x2:(List DPut))(x3:(List Int))(L3:(Int × (List ByteArray))->Option qcx)(p:Int × (List ByteArray)):Option qcx:=(cond (iltI p.1 (Int.ofNat x2.length)) (match (jget x3 p.1) with|none=>none|some v0=>(match (jget x2 p.1) with|none=>none|some v1=>(match (jget x2 p.1) with|none=>none|some v2=>(cond (lchk (Int.ofNat 0) v0 (Int.ofNat v2.2.size) (Int.ofNat v2.2.size)) (match (jget p.2 v1.1) with|none=>none|some v3=>(match (GetElem?.getElem? p.2 (Int.toNat v1.1)) with|none=>none|some v4=>(cond (lchk v0 (Int.ofNat v4.size) (Int.ofNat v4.size) (Int.ofNat v4.size)) (cond (Nat.ble (Nat.succ (Nat.add (ByteArray.size (ByteArray.extract v2.2 0 (Int.toNat v0))) (ByteArray.size (ByteArray.extract v4 (Int.toNat v0) (Int.toNat (Int.ofNat v4.size)))))) 9223372036854775808) (match (jget p.2 v1.1) with|none=>none|some v5=>(match (GetElem?.getElem? p.2 (Int.toNat v1.1)) with|none=>none|some v6=>(L3 ((IntKind.i64.wrap (Int.add p.1 (Int.ofNat 1))),(List.set p.2 (Int.toNat v1.1) (ByteArray.append (ByteArray.extract v2.2 0 (Int.toNat v0)) (ByteArray.extract v4 (Int.toNat v0) (Int.toNat (Int.ofNat v4.size))))))))) none) none))) none)))) (some (p.2,())))
abbrev gz13:Type:=ElA [(.list .str),(.list cPut),(.list (.int .i64))]->Option qcx
abbrev sz13(g:gz13):Sm:=⟨[(.list .str),(.list cPut),(.list (.int .i64))],[(true,.str)],g⟩
abbrev Ez13(g:gz13)(J:JT qcx)(lf:Nat)(x1:(List ByteArray))(x2:(List DPut))(x3:(List Int)):=qbf Tryz.prog ttT.get qkd fi81.nt (qun _ lf) lf qli J fi81.body [] (qat (argV [(.list .str),(.list cPut),(.list (.int .i64))] (x1,x2,x3,())) 0 .leaf) S0 [] (qam ttT.get fi81 (sz13 g))
abbrev Bz13(g:gz13)(J:JT qcx)(lf k:Nat)(ms:List Nat)(q:NRes):=qbl Tryz.prog ttT.get qkd fi81.nt (qun _ lf) lf qli J k fi81.body [] ms q (qam ttT.get fi81 (sz13 g))
theorem zu0(g:gz13)(J:JT qcx)(lf:Nat)(x1:(List ByteArray))(x2:(List DPut))(x3:(List Int)):Ez13 g J lf x1 x2 x3=qyw lf x1 x2 x3 (fun q=>J 3 [lf] (qjv x1 x2 x3 q)):=by kernel_rfl
theorem zr5(g:gz13)(J:JT qcx)(lf:Nat)(x1:(List ByteArray))(x2:(List DPut))(x3:(List Int))(m1:Nat)(p:Int × (List ByteArray)):Bz13 g J lf 3 [m1] (qjv x1 x2 x3 p)=qn4 lf x1 x2 x3 (fun q=>J 3 [m1] (qjv x1 x2 x3 q)) p:=by kernel_rfl
theorem q7i:(regs fi81.body).Nodup:=by decide +kernel
theorem q2d:okC qkd qli q76 fi81.body none=true:=by kernel_rfl
def Az13(g:gz13)(lf:Nat):JT qcx:=atN Tryz.prog ttT.get qkd fi81 (sz13 g) (qun _ lf) lf q76
def qok(lf:Nat)(x1:(List ByteArray))(x2:(List DPut))(x3:(List Int)):Nat->(Int × (List ByteArray))->Option qcx:=qav fun K p=>qn4 lf x1 x2 x3 K p
theorem q19(g:gz13)(lf:Nat)(x1:(List ByteArray))(x2:(List DPut))(x3:(List Int)):∀(n:Nat) (p:Int × (List ByteArray)),Az13 g lf 3 [n] (qjv x1 x2 x3 p)=qok lf x1 x2 x3 n p
 | 0,p=>qa7 3 [0] rfl _
 | n+1,p=>by
  have ih:=q19 g lf x1 x2 x3 n;refine(qa8 (qaz 20 _) q7i q2d 3 [n+1] [n] rfl _).trans ((zr5 g (Az13 g lf) lf x1 x2 x3 n p).trans ?_);rw[(show (fun q=>Az13 g lf 3 [n] (qjv x1 x2 x3 q))=(fun q=>qok lf x1 x2 x3 n q) from funext ih)];rfl
def Fz13(lf:Nat)(x1:(List ByteArray))(x2:(List DPut))(x3:(List Int)):Option qcx:=qyw lf x1 x2 x3 (fun q=>qok lf x1 x2 x3 lf q)
theorem zgi(g:gz13)(lf:Nat)(x1:(List ByteArray))(x2:(List DPut))(x3:(List Int)):Ez13 g (Az13 g lf) lf x1 x2 x3=Fz13 lf x1 x2 x3:=by
  refine(zu0 g (Az13 g lf) lf x1 x2 x3).trans ?_;rw[(show (fun q=>Az13 g lf 3 [lf] (qjv x1 x2 x3 q))=(fun q=>qok lf x1 x2 x3 lf q) from funext fun q=>q19 g lf x1 x2 x3 lf q)];rfl
theorem zz3:qa3 Tryz.prog zay:=trivial
theorem zpc{g:gz13}(hsm:SmOK Tryz.prog q5j)(hg:∀(x:ElA [(.list .str),(.list cPut),(.list (.int .i64))]) (y:qcx),WfA [(.list .str),(.list cPut),(.list (.int .i64))] x->g x=some y->∃lf,Fz13 lf x.1 x.2.1 x.2.2.1=some y):Con Tryz.prog 81 ⟨[(.list .str),(.list cPut),(.list (.int .i64))],[(true,.str)],g⟩ :=
 conV (st:=qli) (fun lf x=>Fz13 lf x.1 x.2.1 x.2.2.1) cm3 znp zz3 q7i q2d (fun lf x=>zgi g lf x.1 x.2.1 x.2.2.1) hsm hg
def qj9:Nat->Option Nm:=fun k=>cond (Nat.beq k 3) (some ⟨[0,3,4],[(3,(.int .i64))],[],[],[],0,0,false⟩) (none)
def ql9:Nat->Bool:=fun k=>cond (Nat.beq k 3) true (false)
def q7o:=ql9
abbrev qcy:Type:=(List Int) × Unit
def q4h:List (Nat × Sm):=[]
def q3c:List (Nat × Hx):=[]
def qwf(R:Type)(lf:Nat):ClK R:=qa0 Tryz.prog ttT.get ftT.get (nm1 82 qj9) (smL q4h) (hxL q3c) lf 20 R
abbrev zxy:Nat:=82
def qim(x1:Int)(p:Int × (List Int)):NRes:=(NRes.mk (.node (some (IV.int .i64 x1)) (.node none (.node (some (IV.arr 0)) .leaf .leaf) .leaf) (.node none (.node (some (IV.int .i64 p.1)) .leaf .leaf) .leaf)) (IS.mk (.node (some (IObj.arr (TC.int .i64) p.2)) .leaf .leaf) 1) [] 0)
def zbw(lf:Nat)(x1:Int)(L3:(Int × (List Int))->Option qcy):Option qcy:=(L3 ((Int.ofNat 0),[]))
def qoz(lf:Nat)(x1:Int)(L3:(Int × (List Int))->Option qcy)(p:Int × (List Int)):Option qcy:=(cond (iltI p.1 x1) (cond (Nat.ble (Nat.mul (Nat.add p.2.length 1) 8) 140737488355328) (L3 ((IntKind.i64.wrap (Int.add p.1 (Int.ofNat 1))),(List.append p.2 [(Int.ofNat 64)]))) none) (some (p.2,())))
abbrev gz14:Type:=ElA [(.int .i64)]->Option qcy
abbrev sz14(g:gz14):Sm:=⟨[(.int .i64)],[(true,(.int .i64))],g⟩
abbrev Ez14(g:gz14)(J:JT qcy)(lf:Nat)(x1:Int):=qbf Tryz.prog ttT.get qj9 fi82.nt (qwf _ lf) lf ql9 J fi82.body [] (qat (argV [(.int .i64)] (x1,())) 0 .leaf) S0 [] (qam ttT.get fi82 (sz14 g))
abbrev Bz14(g:gz14)(J:JT qcy)(lf k:Nat)(ms:List Nat)(q:NRes):=qbl Tryz.prog ttT.get qj9 fi82.nt (qwf _ lf) lf ql9 J k fi82.body [] ms q (qam ttT.get fi82 (sz14 g))
theorem zhl(g:gz14)(J:JT qcy)(lf:Nat)(x1:Int):Ez14 g J lf x1=zbw lf x1 (fun q=>J 3 [lf] (qim x1 q)):=by kernel_rfl
theorem zlv(g:gz14)(J:JT qcy)(lf:Nat)(x1:Int)(m1:Nat)(p:Int × (List Int)):Bz14 g J lf 3 [m1] (qim x1 p)=qoz lf x1 (fun q=>J 3 [m1] (qim x1 q)) p:=by kernel_rfl
theorem q71:(regs fi82.body).Nodup:=by decide +kernel
theorem q5n:okC qj9 ql9 q7o fi82.body none=true:=by kernel_rfl
def Az14(g:gz14)(lf:Nat):JT qcy:=atN Tryz.prog ttT.get qj9 fi82 (sz14 g) (qwf _ lf) lf q7o
def qps(lf:Nat)(x1:Int):Nat->(Int × (List Int))->Option qcy:=qav fun K p=>qoz lf x1 K p
theorem q2s(g:gz14)(lf:Nat)(x1:Int):∀(n:Nat) (p:Int × (List Int)),Az14 g lf 3 [n] (qim x1 p)=qps lf x1 n p
 | 0,p=>qa7 3 [0] rfl _
 | n+1,p=>by
  have ih:=q2s g lf x1 n;refine(qa8 (qaz 20 _) q71 q5n 3 [n+1] [n] rfl _).trans ((zlv g (Az14 g lf) lf x1 n p).trans ?_);rw[(show (fun q=>Az14 g lf 3 [n] (qim x1 q))=(fun q=>qps lf x1 n q) from funext ih)];rfl
def Fz14(lf:Nat)(x1:Int):Option qcy:=zbw lf x1 (fun q=>qps lf x1 lf q)
theorem zws(g:gz14)(lf:Nat)(x1:Int):Ez14 g (Az14 g lf) lf x1=Fz14 lf x1:=by
  refine(zhl g (Az14 g lf) lf x1).trans ?_;rw[(show (fun q=>Az14 g lf 3 [lf] (qim x1 q))=(fun q=>qps lf x1 lf q) from funext fun q=>q2s g lf x1 lf q)];rfl
theorem zge:qa3 Tryz.prog q3c:=trivial
theorem zog{g:gz14}(hsm:SmOK Tryz.prog q4h)(hg:∀(x:ElA [(.int .i64)]) (y:qcy),WfA [(.int .i64)] x->g x=some y->∃lf,Fz14 lf x.1=some y):Con Tryz.prog 82 ⟨[(.int .i64)],[(true,(.int .i64))],g⟩ :=
 conV (st:=ql9) (fun lf x=>Fz14 lf x.1) cm3 zhf zge q71 q5n (fun lf x=>zws g lf x.1) hsm hg
def qke:Nat->Option Nm:=fun k=>cond (Nat.beq k 6) (some ⟨[1,4,6,7],[],[(6,0,.str),(6,1,cPut)],[],[],0,0,false⟩) (none)
def ql1:Nat->Bool:=fun k=>cond (Nat.beq k 6) true (false)
def zby:=ql1
abbrev qc7:Type:=zgq × Unit
def q2e:List (Nat × Sm):=[(38,qyd),(68,qll),(81,q1v),(82,q7y)]
def q7u:List (Nat × Hx):=[]
def qwt(R:Type)(lf:Nat):ClK R:=qa0 Tryz.prog ttT.get ftT.get (nm1 33 qke) (smL q2e) (hxL q7u) lf 20 R
abbrev zi2:Nat:=33
def qjj(x1:qac)(x2:qqw)(p:Int × (List DPut) × (List ByteArray)):NRes:=(NRes.mk (.node none (.node (some (IV.lst cAct x2)) (.node none (.node (some (IV.int .i64 p.1)) .leaf .leaf) .leaf) .leaf) (.node none (.node (some (IV.ptr 0 0)) .leaf .leaf) (.node (some (IV.ptr 1 0)) .leaf .leaf))) (IS.mk (.node (some (IObj.row (List.cons IV.nilsl (List.cons IV.nilsl [(IV.int .i64 (Int.ofNat 0))])))) (.node (some (IObj.row (List.cons (IV.arr 2) [(IV.arr 3)]))) (.node (some (IObj.arr cPut p.2.1)) .leaf .leaf) .leaf) (.node (some (IObj.arr TC.str p.2.2)) .leaf .leaf)) 4) [] 0)
def qzh(lf:Nat)(x1:qac)(x2:(List DAct))(L6:(Int × (List DPut) × (List ByteArray))->Option qc7):Option qc7:=(cond (Bool.not (ieqI (S.checkDisk (x1.1,x1.2)) (Int.ofNat 0))) (some ((([],[]),(S.checkDisk (x1.1,x1.2))),())) (cond (Nat.ble (Nat.mul (Nat.add 0 x1.1.length) 16) 140737488355328) (cond (Nat.ble (Nat.mul (Nat.add 0 x1.2.length) 24) 140737488355328) (L6 ((Int.ofNat 0),x1.2,x1.1)) none) none))
def qsg(lf:Nat)(x1:qac)(x2:(List DAct))(L6:(Int × (List DPut) × (List ByteArray))->Option qc7)(p:Int × (List DPut) × (List ByteArray)):Option qc7:=(cond (iltI p.1 (Int.ofNat x2.length)) (match (jget x2 p.1) with|none=>none|some v0=>(cond v0.1 (cond (Bool.not (ieqI v0.2.1 (Int.ofNat 0))) (some ((([],[]),(Int.ofNat 1)),())) (cond (Bool.not (keqS v0.2.2 (S.lit []))) (some ((([],[]),(Int.ofNat 1)),())) (match (cond (S.inI (Int.ofNat p.2.1.length) (Int.ofNat 0) (Int.ofNat 4000)) (some ((List.replicate (Int.toNat (Int.ofNat p.2.1.length)) (Int.ofNat 64)),())) none) with|none=>none|some v1=>(match (cond (Bool.and (S.fitP p.2.2 p.2.1) (Bool.and (Bool.not (S.anyShort p.2.2)) (Bool.and (S.fitN p.2.1 v1.1) (Nat.ble p.2.2.length 1000)))) (some ((S.crashGo p.2.1 v1.1 p.2.2),())) none) with|none=>none|some v2=>(L6 ((IntKind.i64.wrap (Int.add p.1 (Int.ofNat 1))),[],v2.1)))))) (cond (Bool.not (S.inI v0.2.1 (Int.ofNat 0) (IntKind.i64.wrap (Int.sub (Int.ofNat p.2.2.length) (Int.ofNat 1))))) (some ((([],[]),(Int.ofNat 1)),())) (cond (Bool.not (ieqI (Int.ofNat v0.2.2.size) (Int.ofNat 64))) (some ((([],[]),(Int.ofNat 1)),())) (cond (ieqI (Int.ofNat p.2.1.length) (Int.ofNat 4000)) (some ((([],[]),(Int.ofNat 3)),())) (cond (Nat.ble (Nat.mul (Nat.add p.2.1.length 1) 24) 140737488355328) (L6 ((IntKind.i64.wrap (Int.add p.1 (Int.ofNat 1))),(List.append p.2.1 [(v0.2.1,v0.2.2)]),p.2.2)) none)))))) (some (((p.2.2,p.2.1),(Int.ofNat 0)),())))
abbrev gz15:Type:=ElA [qag,(.list cAct)]->Option qc7
abbrev sz15(g:gz15):Sm:=⟨[qag,(.list cAct)],[(false,qvk)],g⟩
abbrev Ez15(g:gz15)(J:JT qc7)(lf:Nat)(x1:qac)(x2:(List DAct)):=qbf Tryz.prog ttT.get qke fi33.nt (qwt _ lf) lf ql1 J fi33.body [] (qat (argV [qag,(.list cAct)] (x1,x2,())) 0 .leaf) S0 [] (qam ttT.get fi33 (sz15 g))
abbrev Bz15(g:gz15)(J:JT qc7)(lf k:Nat)(ms:List Nat)(q:NRes):=qbl Tryz.prog ttT.get qke fi33.nt (qwt _ lf) lf ql1 J k fi33.body [] ms q (qam ttT.get fi33 (sz15 g))
theorem zmm(g:gz15)(J:JT qc7)(lf:Nat)(x1:qac)(x2:(List DAct)):Ez15 g J lf x1 x2=qzh lf x1 x2 (fun q=>J 6 [lf] (qjj x1 x2 q)):=by kernel_rfl
theorem zp6(g:gz15)(J:JT qc7)(lf:Nat)(x1:qac)(x2:(List DAct))(m1:Nat)(p:Int × (List DPut) × (List ByteArray)):Bz15 g J lf 6 [m1] (qjj x1 x2 p)=qsg lf x1 x2 (fun q=>J 6 [m1] (qjj x1 x2 q)) p:=by kernel_rfl
theorem q27:(regs fi33.body).Nodup:=by decide +kernel
theorem zfb:okC qke ql1 zby fi33.body none=true:=by kernel_rfl
def Az15(g:gz15)(lf:Nat):JT qc7:=atN Tryz.prog ttT.get qke fi33 (sz15 g) (qwt _ lf) lf zby
def qoi(lf:Nat)(x1:qac)(x2:(List DAct)):Nat->(Int × (List DPut) × (List ByteArray))->Option qc7:=qav fun K p=>qsg lf x1 x2 K p
theorem zb9(g:gz15)(lf:Nat)(x1:qac)(x2:(List DAct)):∀(n:Nat) (p:Int × (List DPut) × (List ByteArray)),Az15 g lf 6 [n] (qjj x1 x2 p)=qoi lf x1 x2 n p
 | 0,p=>qa7 6 [0] rfl _
 | n+1,p=>by
  have ih:=zb9 g lf x1 x2 n;refine(qa8 (qaz 20 _) q27 zfb 6 [n+1] [n] rfl _).trans ((zp6 g (Az15 g lf) lf x1 x2 n p).trans ?_);rw[(show (fun q=>Az15 g lf 6 [n] (qjj x1 x2 q))=(fun q=>qoi lf x1 x2 n q) from funext ih)];rfl
def Fz15(lf:Nat)(x1:qac)(x2:(List DAct)):Option qc7:=qzh lf x1 x2 (fun q=>qoi lf x1 x2 lf q)
theorem zww(g:gz15)(lf:Nat)(x1:qac)(x2:(List DAct)):Ez15 g (Az15 g lf) lf x1 x2=Fz15 lf x1 x2:=by
  refine(zmm g (Az15 g lf) lf x1 x2).trans ?_;rw[(show (fun q=>Az15 g lf 6 [lf] (qjj x1 x2 q))=(fun q=>qoi lf x1 x2 lf q) from funext fun q=>zb9 g lf x1 x2 lf q)];rfl
theorem z1s:qa3 Tryz.prog q7u:=trivial
theorem z1p{g:gz15}(hsm:SmOK Tryz.prog q2e)(hg:∀(x:ElA [qag,(.list cAct)]) (y:qc7),WfA [qag,(.list cAct)] x->g x=some y->∃lf,Fz15 lf x.1 x.2.1=some y):Con Tryz.prog 33 ⟨[qag,(.list cAct)],[(false,qvk)],g⟩ :=
 conV (st:=ql1) (fun lf x=>Fz15 lf x.1 x.2.1) cm3 zks z1s q27 zfb (fun lf x=>zww g lf x.1 x.2.1) hsm hg
abbrev qst:Type:=Bool × Unit
abbrev znb:Nat:=66
def q8s(lf:Nat)(x1:Int)(x2:Int)(x3:Int):Option qst:=(cond (Bool.not (iltI x1 x2)) (some ((Bool.not (iltI x3 x1)),())) (some (false,())))
def qq2(lf:Nat)(x1:Int)(x2:Int)(x3:Int):Option qst:=q8s lf x1 x2 x3
theorem zsq{g:ElA [(.int .i64),(.int .i64),(.int .i64)]->Option qst}(hsm:SmOK Tryz.prog [])(hg:∀(x:ElA [(.int .i64),(.int .i64),(.int .i64)]) (y:qst),WfA [(.int .i64),(.int .i64),(.int .i64)] x->g x=some y->∃lf,qq2 lf x.1 x.2.1 x.2.2.1=some y):Con Tryz.prog 66 ⟨[(.int .i64),(.int .i64),(.int .i64)],[(false,.bool)],g⟩ :=
 conU (fi:=fi66) (hxl:=[]) (fun lf x=>qq2 lf x.1 x.2.1 x.2.2.1) cm3 zx8 trivial hsm hg
abbrev qtu:Type:=Bool × Unit
abbrev zoa:Nat:=68
def q21(lf:Nat)(x1:Int)(x2:Int)(x3:Int):Option qtu:=(cond (Bool.not (iltI x1 x2)) (some ((Bool.not (iltI x3 x1)),())) (some (false,())))
def qn0(lf:Nat)(x1:Int)(x2:Int)(x3:Int):Option qtu:=q21 lf x1 x2 x3
theorem zjd{g:ElA [(.int .i64),(.int .i64),(.int .i64)]->Option qtu}(hsm:SmOK Tryz.prog [])(hg:∀(x:ElA [(.int .i64),(.int .i64),(.int .i64)]) (y:qtu),WfA [(.int .i64),(.int .i64),(.int .i64)] x->g x=some y->∃lf,qn0 lf x.1 x.2.1 x.2.2.1=some y):Con Tryz.prog 68 ⟨[(.int .i64),(.int .i64),(.int .i64)],[(false,.bool)],g⟩ :=
 conU (fi:=fi68) (hxl:=[]) (fun lf x=>qn0 lf x.1 x.2.1 x.2.2.1) cm3 znf trivial hsm hg
abbrev qo9:Type:=Bool × Unit
abbrev zxh:Nat:=79
def q1t(lf:Nat)(x1:ByteArray):Option qo9:=(some ((Bool.not (ieqI (Int.ofNat x1.size) (Int.ofNat 64))),()))
def qpd(lf:Nat)(x1:ByteArray):Option qo9:=q1t lf x1
theorem zo7{g:ElA [.str]->Option qo9}(hsm:SmOK Tryz.prog [])(hg:∀(x:ElA [.str]) (y:qo9),WfA [.str] x->g x=some y->∃lf,qpd lf x.1=some y):Con Tryz.prog 79 ⟨[.str],[(false,.bool)],g⟩ :=
 conU (fi:=fi79) (hxl:=[]) (fun lf x=>qpd lf x.1) cm3 zwk trivial hsm hg
abbrev qp5:Type:=qac × Int × Unit
abbrev zlk:Nat:=28
def q8q(lf:Nat)(x1:Int):Option qp5:=(cond (Bool.not (S.inI x1 (Int.ofNat 8) (Int.ofNat 1000))) (some (([],[]),((Int.ofNat 1),()))) (cond (Bool.not (ieqI (Int.tmod x1 (Int.ofNat 2)) (Int.ofNat 0))) (some (([],[]),((Int.ofNat 1),()))) (match (cond (S.inI x1 (Int.ofNat 0) (Int.ofNat 1000)) (some ((List.replicate (Int.toNat x1) S.blank),())) none) with|none=>none|some v0=>(some ((v0.1,[]),((Int.ofNat 0),()))))))
def qrm(lf:Nat)(x1:Int):Option qp5:=q8q lf x1
theorem zzp{g:ElA [(.int .i64)]->Option qp5}(hsm:SmOK Tryz.prog [(66,qg5),(54,qt1),(76,qiw)])(hg:∀(x:ElA [(.int .i64)]) (y:qp5),WfA [(.int .i64)] x->g x=some y->∃lf,qrm lf x.1=some y):Con Tryz.prog 28 ⟨[(.int .i64)],[(false,qag),(false,(.int .i64))],g⟩ :=
 conU (fi:=fi28) (hxl:=[]) (fun lf x=>qrm lf x.1) cm3 ztq trivial hsm hg
abbrev qn7:Type:=ByteArray × Unit
abbrev zph:Nat:=57
def q8u(lf:Nat)(x1:Int):Option qn7:=(cond (iltI x1 (Int.ofNat 0)) none (cond (Nat.ble (Nat.mul (Int.toNat x1) 1) 140737488355328) (some ((qae (S.rep x1 (Int.ofNat 0))),())) none))
def qr6(lf:Nat)(x1:Int):Option qn7:=q8u lf x1
theorem zyr{g:ElA [(.int .i64)]->Option qn7}(hsm:SmOK Tryz.prog [])(hg:∀(x:ElA [(.int .i64)]) (y:qn7),WfA [(.int .i64)] x->g x=some y->∃lf,qr6 lf x.1=some y):Con Tryz.prog 57 ⟨[(.int .i64)],[(false,.str)],g⟩ :=
 conU (fi:=fi57) (hxl:=[]) (fun lf x=>qr6 lf x.1) cm3 z1m trivial hsm hg
abbrev qrv:Type:=Int × Unit
abbrev zq8:Nat:=37
def zdq(lf:Nat)(x1:qac):Option qrv:=(cond (iltI (Int.ofNat 1000) (Int.ofNat x1.1.length)) (some ((Int.ofNat 3),())) (cond (iltI (Int.ofNat 4000) (Int.ofNat x1.2.length)) (some ((Int.ofNat 3),())) (match (idxO (fun v0=>(cond (S.short v0.2) (some true) (some (Bool.not (S.inI v0.1 (Int.ofNat 0) (IntKind.i64.wrap (Int.sub (Int.ofNat x1.1.length) (Int.ofNat 1)))))))) x1.2 0) with|none=>none|some v1=>(cond (iltI (Int.ofNat x1.1.length) (Int.ofNat 8)) (some ((Int.ofNat 1),())) (cond (Bool.not (ieqI (Int.ofNat (Nat.mod x1.1.length 2)) (Int.ofNat 0))) (some ((Int.ofNat 1),())) (cond (Bool.not (iltI v1 (Int.ofNat 0))) (some ((Int.ofNat 1),())) (match (idxO (fun v2=>(some (S.short v2))) x1.1 0) with|none=>none|some v3=>(cond (Bool.not (iltI v3 (Int.ofNat 0))) (some ((Int.ofNat 1),())) (some ((Int.ofNat 0),()))))))))))
def qon(lf:Nat)(x1:qac):Option qrv:=zdq lf x1
theorem zov{g:ElA [qag]->Option qrv}(hsm:SmOK Tryz.prog [(79,qy2),(66,qg5)])(hg:∀(x:ElA [qag]) (y:qrv),WfA [qag] x->g x=some y->∃lf,qon lf x.1=some y):Con Tryz.prog 37 ⟨[qag],[(false,(.int .i64))],g⟩ :=
 conU (fi:=fi37) (hxl:=[(104,qrs cPut),(105,qrs .str)]) (fun lf x=>qon lf x.1) cm3 zu5 ⟨zoy,⟨z09,trivial⟩⟩ hsm hg
def qk6:Nat->Option Nm:=fun k=>cond (Nat.beq k 7) (some ⟨[1,3,4],[],[],[],[],0,0,false⟩) (cond (Nat.beq k 12) (some ⟨[1,3,5],[],[],[],[],0,0,false⟩) (none))
def qmy:Nat->Bool:=fun k=>cond (Nat.beq k 7) true (cond (Nat.beq k 12) true (false))
def q1m:=qmy
abbrev qb5:Type:=Int × Unit
def zal:List (Nat × Sm):=[(68,qll)]
def zcn:List (Nat × Hx):=[]
def qyk(R:Type)(lf:Nat):ClK R:=qa0 Tryz.prog ttT.get ftT.get (nm1 38 qk6) (smL zal) (hxL zcn) lf 20 R
abbrev zzg:Nat:=38
def qh0(x1:qac)(p:Int):NRes:=(NRes.mk (.node none (.node (some (IV.ptr 0 0)) (.node (some (IV.int .i64 (Int.ofNat x1.1.length))) .leaf .leaf) .leaf) (.node none (.node (some (IV.int .i64 p)) .leaf .leaf) .leaf)) (IS.mk (.node (some (IObj.row (List.cons (IV.lst TC.str x1.1) [(IV.lst cPut x1.2)]))) .leaf .leaf) 1) [] 0)
def qi8(x1:qac)(p:Int):NRes:=(NRes.mk (.node none (.node (some (IV.ptr 0 0)) (.node (some (IV.int .i64 (Int.ofNat x1.1.length))) .leaf .leaf) (.node (some (IV.int .i64 p)) .leaf .leaf)) .leaf) (IS.mk (.node (some (IObj.row (List.cons (IV.lst TC.str x1.1) [(IV.lst cPut x1.2)]))) .leaf .leaf) 1) [] 0)
def qxa(lf:Nat)(x1:qac)(L7:Int->Option qb5):Option qb5:=(cond (iltI (Int.ofNat 1000) (Int.ofNat x1.1.length)) (some ((Int.ofNat 3),())) (cond (iltI (Int.ofNat 4000) (Int.ofNat x1.2.length)) (some ((Int.ofNat 3),())) (cond (iltI (Int.ofNat x1.1.length) (Int.ofNat 8)) (some ((Int.ofNat 1),())) (cond (Bool.not (ieqI (Int.ofNat (Nat.mod x1.1.length 2)) (Int.ofNat 0))) (some ((Int.ofNat 1),())) (L7 (Int.ofNat 0))))))
def qqf(lf:Nat)(x1:qac)(L7:Int->Option qb5)(L12:Int->Option qb5)(p:Int):Option qb5:=(cond (iltI p (Int.ofNat x1.1.length)) (match (jget x1.1 p) with|none=>none|some v0=>(cond (Bool.not (ieqI (Int.ofNat v0.size) (Int.ofNat 64))) (some ((Int.ofNat 1),())) (L7 (IntKind.i64.wrap (Int.add p (Int.ofNat 1)))))) (L12 (Int.ofNat 0)))
def qo6(lf:Nat)(x1:qac)(L12:Int->Option qb5)(p:Int):Option qb5:=(cond (iltI p (Int.ofNat x1.2.length)) (match (jget x1.2 p) with|none=>none|some v0=>(cond (Bool.not (S.inI v0.1 (Int.ofNat 0) (IntKind.i64.wrap (Int.sub (Int.ofNat x1.1.length) (Int.ofNat 1))))) (some ((Int.ofNat 1),())) (cond (Bool.not (ieqI (Int.ofNat v0.2.size) (Int.ofNat 64))) (some ((Int.ofNat 1),())) (L12 (IntKind.i64.wrap (Int.add p (Int.ofNat 1))))))) (some ((Int.ofNat 0),())))
abbrev gz16:Type:=ElA [qag]->Option qb5
abbrev sz16(g:gz16):Sm:=⟨[qag],[(false,(.int .i64))],g⟩
abbrev Ez16(g:gz16)(J:JT qb5)(lf:Nat)(x1:qac):=qbf Tryz.prog ttT.get qk6 fi38.nt (qyk _ lf) lf qmy J fi38.body [] (qat (argV [qag] (x1,())) 0 .leaf) S0 [] (qam ttT.get fi38 (sz16 g))
abbrev Bz16(g:gz16)(J:JT qb5)(lf k:Nat)(ms:List Nat)(q:NRes):=qbl Tryz.prog ttT.get qk6 fi38.nt (qyk _ lf) lf qmy J k fi38.body [] ms q (qam ttT.get fi38 (sz16 g))
theorem z2d(g:gz16)(J:JT qb5)(lf:Nat)(x1:qac):Ez16 g J lf x1=qxa lf x1 (fun q=>J 7 [lf] (qh0 x1 q)):=by kernel_rfl
theorem zr1(g:gz16)(J:JT qb5)(lf:Nat)(x1:qac)(m1:Nat)(p:Int):Bz16 g J lf 7 [m1] (qh0 x1 p)=qqf lf x1 (fun q=>J 7 [m1] (qh0 x1 q)) (fun q=>J 12 [lf] (qi8 x1 q)) p:=by kernel_rfl
theorem zol(g:gz16)(J:JT qb5)(lf:Nat)(x1:qac)(m1:Nat)(p:Int):Bz16 g J lf 12 [m1] (qi8 x1 p)=qo6 lf x1 (fun q=>J 12 [m1] (qi8 x1 q)) p:=by kernel_rfl
theorem quw:(regs fi38.body).Nodup:=by decide +kernel
theorem qw2:okC qk6 qmy q1m fi38.body none=true:=by kernel_rfl
def Az16(g:gz16)(lf:Nat):JT qb5:=atN Tryz.prog ttT.get qk6 fi38 (sz16 g) (qyk _ lf) lf q1m
def qng(lf:Nat)(x1:qac):Nat->(Int)->Option qb5:=qav fun K p=>qo6 lf x1 K p
theorem zd2(g:gz16)(lf:Nat)(x1:qac):∀(n:Nat) (p:Int),Az16 g lf 12 [n] (qi8 x1 p)=qng lf x1 n p
 | 0,p=>qa7 12 [0] rfl _
 | n+1,p=>by
  have ih:=zd2 g lf x1 n;refine(qa8 (qaz 20 _) quw qw2 12 [n+1] [n] rfl _).trans ((zol g (Az16 g lf) lf x1 n p).trans ?_);rw[(show (fun q=>Az16 g lf 12 [n] (qi8 x1 q))=(fun q=>qng lf x1 n q) from funext ih)];rfl
def qj3(lf:Nat)(x1:qac):Nat->(Int)->Option qb5:=qav fun K p=>qqf lf x1 K (fun q=>qng lf x1 lf q) p
theorem zai(g:gz16)(lf:Nat)(x1:qac):∀(n:Nat) (p:Int),Az16 g lf 7 [n] (qh0 x1 p)=qj3 lf x1 n p
 | 0,p=>qa7 7 [0] rfl _
 | n+1,p=>by
  have ih:=zai g lf x1 n;refine(qa8 (qaz 20 _) quw qw2 7 [n+1] [n] rfl _).trans ((zr1 g (Az16 g lf) lf x1 n p).trans ?_);rw[(show (fun q=>Az16 g lf 12 [lf] (qi8 x1 q))=(fun q=>qng lf x1 lf q) from funext fun q=>zd2 g lf x1 lf q),(show (fun q=>Az16 g lf 7 [n] (qh0 x1 q))=(fun q=>qj3 lf x1 n q) from funext ih)];rfl
def Fz16(lf:Nat)(x1:qac):Option qb5:=qxa lf x1 (fun q=>qj3 lf x1 lf q)
theorem zkj(g:gz16)(lf:Nat)(x1:qac):Ez16 g (Az16 g lf) lf x1=Fz16 lf x1:=by
  refine(z2d g (Az16 g lf) lf x1).trans ?_;rw[(show (fun q=>Az16 g lf 7 [lf] (qh0 x1 q))=(fun q=>qj3 lf x1 lf q) from funext fun q=>zai g lf x1 lf q)];rfl
theorem zl5:qa3 Tryz.prog zcn:=trivial
theorem zgk{g:gz16}(hsm:SmOK Tryz.prog zal)(hg:∀(x:ElA [qag]) (y:qb5),WfA [qag] x->g x=some y->∃lf,Fz16 lf x.1=some y):Con Tryz.prog 38 ⟨[qag],[(false,(.int .i64))],g⟩ :=
 conV (st:=qmy) (fun lf x=>Fz16 lf x.1) cm3 zj5 zl5 quw qw2 (fun lf x=>zkj g lf x.1) hsm hg
def qme:Nat->Option Nm:=fun k=>cond (Nat.beq k 3) (some ⟨[5,10,11,12],[],[],[],[],0,0,false⟩) (none)
def ql0:Nat->Bool:=fun k=>cond (Nat.beq k 3) true (false)
def q4d:=ql0
abbrev qc0:Type:=(List ByteArray) × Unit
def q62:List (Nat × Sm):=[(77,qkc)]
def zff:List (Nat × Hx):=[]
def qu1(R:Type)(lf:Nat):ClK R:=qa0 Tryz.prog ttT.get ftT.get (nm1 80 qme) (smL q62) (hxL zff) lf 20 R
abbrev zlh:Nat:=80
def qhq(x1:(List ByteArray))(x2:(List DPut))(p:Int × (List ByteArray)):NRes:=(NRes.mk (.node none (.node none (.node none .leaf (.node (some (IV.int .i64 (Int.ofNat x2.length))) .leaf .leaf)) (.node (some (IV.arr 0)) .leaf .leaf)) (.node none (.node none .leaf (.node (some (IV.int .i64 p.1)) .leaf .leaf)) (.node none (.node (some (IV.lst cPut x2)) .leaf .leaf) .leaf))) (IS.mk (.node (some (IObj.arr TC.str p.2)) .leaf .leaf) 1) [] 0)
def zar(lf:Nat)(x1:(List ByteArray))(x2:(List DPut))(L3:(Int × (List ByteArray))->Option qc0):Option qc0:=(L3 ((Int.ofNat 0),x1))
def qqj(lf:Nat)(x1:(List ByteArray))(x2:(List DPut))(L3:(Int × (List ByteArray))->Option qc0)(p:Int × (List ByteArray)):Option qc0:=(cond (iltI p.1 (Int.ofNat x2.length)) (match (jget x2 p.1) with|none=>none|some v0=>(match (jget p.2 v0.1) with|none=>none|some v1=>(match (GetElem?.getElem? p.2 (Int.toNat v0.1)) with|none=>none|some v2=>(L3 ((IntKind.i64.wrap (Int.add p.1 (Int.ofNat 1))),(List.set p.2 (Int.toNat v0.1) v0.2)))))) (some (p.2,())))
abbrev gz17:Type:=ElA [(.list .str),(.list cPut)]->Option qc0
abbrev sz17(g:gz17):Sm:=⟨[(.list .str),(.list cPut)],[(true,.str)],g⟩
abbrev Ez17(g:gz17)(J:JT qc0)(lf:Nat)(x1:(List ByteArray))(x2:(List DPut)):=qbf Tryz.prog ttT.get qme fi80.nt (qu1 _ lf) lf ql0 J fi80.body [] (qat (argV [(.list .str),(.list cPut)] (x1,x2,())) 0 .leaf) S0 [] (qam ttT.get fi80 (sz17 g))
abbrev Bz17(g:gz17)(J:JT qc0)(lf k:Nat)(ms:List Nat)(q:NRes):=qbl Tryz.prog ttT.get qme fi80.nt (qu1 _ lf) lf ql0 J k fi80.body [] ms q (qam ttT.get fi80 (sz17 g))
theorem z1e(g:gz17)(J:JT qc0)(lf:Nat)(x1:(List ByteArray))(x2:(List DPut)):Ez17 g J lf x1 x2=zar lf x1 x2 (fun q=>J 3 [lf] (qhq x1 x2 q)):=by kernel_rfl
theorem ztz(g:gz17)(J:JT qc0)(lf:Nat)(x1:(List ByteArray))(x2:(List DPut))(m1:Nat)(p:Int × (List ByteArray)):Bz17 g J lf 3 [m1] (qhq x1 x2 p)=qqj lf x1 x2 (fun q=>J 3 [m1] (qhq x1 x2 q)) p:=by kernel_rfl
theorem q4g:(regs fi80.body).Nodup:=by decide +kernel
theorem zdz:okC qme ql0 q4d fi80.body none=true:=by kernel_rfl
def Az17(g:gz17)(lf:Nat):JT qc0:=atN Tryz.prog ttT.get qme fi80 (sz17 g) (qu1 _ lf) lf q4d
def qtp(lf:Nat)(x1:(List ByteArray))(x2:(List DPut)):Nat->(Int × (List ByteArray))->Option qc0:=qav fun K p=>qqj lf x1 x2 K p
theorem zd1(g:gz17)(lf:Nat)(x1:(List ByteArray))(x2:(List DPut)):∀(n:Nat) (p:Int × (List ByteArray)),Az17 g lf 3 [n] (qhq x1 x2 p)=qtp lf x1 x2 n p
 | 0,p=>qa7 3 [0] rfl _
 | n+1,p=>by
  have ih:=zd1 g lf x1 x2 n;refine(qa8 (qaz 20 _) q4g zdz 3 [n+1] [n] rfl _).trans ((ztz g (Az17 g lf) lf x1 x2 n p).trans ?_);rw[(show (fun q=>Az17 g lf 3 [n] (qhq x1 x2 q))=(fun q=>qtp lf x1 x2 n q) from funext ih)];rfl
def Fz17(lf:Nat)(x1:(List ByteArray))(x2:(List DPut)):Option qc0:=zar lf x1 x2 (fun q=>qtp lf x1 x2 lf q)
theorem zm7(g:gz17)(lf:Nat)(x1:(List ByteArray))(x2:(List DPut)):Ez17 g (Az17 g lf) lf x1 x2=Fz17 lf x1 x2:=by
  refine(z1e g (Az17 g lf) lf x1 x2).trans ?_;rw[(show (fun q=>Az17 g lf 3 [lf] (qhq x1 x2 q))=(fun q=>qtp lf x1 x2 lf q) from funext fun q=>zd1 g lf x1 x2 lf q)];rfl
theorem zzu:qa3 Tryz.prog zff:=trivial
theorem zlb{g:gz17}(hsm:SmOK Tryz.prog q62)(hg:∀(x:ElA [(.list .str),(.list cPut)]) (y:qc0),WfA [(.list .str),(.list cPut)] x->g x=some y->∃lf,Fz17 lf x.1 x.2.1=some y):Con Tryz.prog 80 ⟨[(.list .str),(.list cPut)],[(true,.str)],g⟩ :=
 conV (st:=ql0) (fun lf x=>Fz17 lf x.1 x.2.1) cm3 zzr zzu q4g zdz (fun lf x=>zm7 g lf x.1 x.2.1) hsm hg
abbrev qpz:Type:=(List ByteArray) × Unit
abbrev zky:Nat:=77
def q02(lf:Nat)(x1:(List ByteArray)):Option qpz:=(match x1 with|.nil  => none|.cons v0 v1=>(cond (Nat.ble (Nat.mul (Nat.add 0 x1.length) 16) 140737488355328) (some (x1,())) none))
def qyj(lf:Nat)(x1:(List ByteArray)):Option qpz:=q02 lf x1
theorem z1w{g:ElA [(.list .str)]->Option qpz}(hsm:SmOK Tryz.prog [])(hg:∀(x:ElA [(.list .str)]) (y:qpz),WfA [(.list .str)] x->g x=some y->∃lf,qyj lf x.1=some y):Con Tryz.prog 77 ⟨[(.list .str)],[(true,.str)],g⟩ :=
 conU (fi:=fi77) (hxl:=[]) (fun lf x=>qyj lf x.1) cm3 zfh trivial hsm hg
abbrev qrl:Type:=(List DPut) × Unit
abbrev zij:Nat:=78
def q0u(lf:Nat)(x1:(List DPut)):Option qrl:=(match x1 with|.nil  => none|.cons v0 v1=>(cond (Nat.ble (Nat.mul (Nat.add 0 x1.length) 24) 140737488355328) (some (x1,())) none))
def qy8(lf:Nat)(x1:(List DPut)):Option qrl:=q0u lf x1
theorem zl2{g:ElA [(.list cPut)]->Option qrl}(hsm:SmOK Tryz.prog [])(hg:∀(x:ElA [(.list cPut)]) (y:qrl),WfA [(.list cPut)] x->g x=some y->∃lf,qy8 lf x.1=some y):Con Tryz.prog 78 ⟨[(.list cPut)],[(true,cPut)],g⟩ :=
 conU (fi:=fi78) (hxl:=[]) (fun lf x=>qy8 lf x.1) cm3 q3l trivial hsm hg
end Go.Proofs.YtnhmanoiolfapaaGreat
end

section
namespace Go.Jx
open Go Go.Sx Go.RowKit
universe u
inductive NoD (n:Nat):Type
instance (n:Nat):Dat (NoD n) where
 sz:=n
 enc _ _ _ x:=nomatch x
 len {_ _ _ x} _:=nomatch x
 mono {_ _ _ _ _ x} _ _:=nomatch x
 ones {_ _ _ x} _:=nomatch x
theorem q9k{E:Env}{c:TC}{u:Value}(h:VR E (.lst c []) u):∃a cap,u=.slice a 0 cap/\cap<9223372036854775808:=by
 cases h with
 | lst0 hc=>exact⟨_,_,rfl,hc⟩
 | lst us h1 h2 h3 hb hh hc hu=>exact⟨_,_,rfl,h2⟩
theorem ze4{M:List Nat}{w w':World}{c:TC}{n:Nat}{e:Ending}(hn:n=csz c)(hu:¬c=.int .u8)(hM:∀b∈M,b<w.heap.size)(h:Ret (fun v w'=>∃a' c' m',v=.slice a' 0 c'/\Go.Sx.Own m' M w' a' c' ([]:List (NoD n))/\Evo [] w m' w') e w') :
  RetE T0 (EM M w) S0 ⟨.arr 0,addO [.arr c []] S0,0,0⟩ e w':=by
 cases e with
 | returned v =>
  obtain⟨a,k,m,rfl,ho,ev⟩:=h;have hH:∀id o,(addO [IObj.arr c []] S0).H id=some o->id=0/\o=.arr c []:=fun id o ho=>by
   rw[qcc] at ho;have e0:S0.next=0:=rfl
   rw[e0,jan (by omega)] at ho;split at ho
   ·rename_i h1;have h1:id<1:=by simpa using h1
    obtain rfl:id=0:=by omega
    exact⟨rfl,by simpa using ho.symm⟩
   ·cases ho
  have key:∃(E':Env),E'.w=w'/\E'.A=(fun id=>id=0)/\E'.hd 0=.slice a 0 k/\(∀b∈E'.m,b∈M\/w.heap.size<=b)/\(∀b∈M,b∈E'.m)/\(∀b∈E'.m,b<w'.heap.size)/\OR E' 0 (.arr c [])/\(E'.hb 0=true->E'.ρ 0∈E'.m/\w.heap.size<=E'.ρ 0):=by
   rcases ho with ⟨rfl,rfl,_⟩|⟨g,cells,rfl,g1,g2,g3,g4,g5,g6⟩
   ·exact⟨⟨fun _=>0,fun _=>0,fun _=>.slice none 0 0,fun _=>false,fun id=>id=0,M,w'⟩,rfl,rfl,rfl,fun b hb=>.inl hb,fun b hb=>hb,fun b hb=>jbi (hM b hb) ev.size,⟨none,0,rfl,jas _,by omega,by simp,.inl ⟨rfl,rfl,fun _=>rfl⟩⟩,fun h=>by cases h⟩
   ·have hg:w.heap.size<=g:=by
     rcases ev.own g g1 with h|h
     ·cases h
     ·exact h
    obtain⟨t,g3⟩:=g3;refine⟨⟨fun _=>g,fun _=>0,fun _=>.slice (some ⟨g,0,none⟩) 0 k,fun _=>true,fun id=>id=0,g::M,w'⟩,rfl,rfl,rfl,fun b hb=>?_,fun b hb=>ja7 _ hb,fun b hb=>?_,⟨some ⟨g,0,none⟩,k,rfl,jcd _,g5.2,by simp,.inr ⟨rfl,rfl,cells.toArray,t,g3,⟨?_,fun e=>absurd e hu⟩,fun _ _=>.nilFunc,fun i hi=>absurd hi (by simp),fun i hi=>absurd hi (by simp)⟩⟩,fun _=>⟨jb3,hg⟩⟩
    ·rcases ja1.1 hb with h|h
     ·exact .inr (h▸hg)
     ·exact .inl h
    ·rcases ja1.1 hb with h|h
     ·rw[h];exact qar g3
     ·exact jbi (hM b h) ev.size
    ·have e2:Dat.sz (NoD n)=csz c:=hn;rw[e2] at g4;simp[g4]
  obtain⟨E',rfl,hA,hd,k1,k2,k3,k4,k5⟩:=key;have hL:∀id,E'.A id->Live E' (addO [IObj.arr c []] S0).H id->id=0/\E'.ρ 0∈E'.m/\w.heap.size<=E'.ρ 0:=fun id hid ⟨h1,_⟩=>by
   rw[hA] at hid;have hid:id=0:=hid;subst hid;exact⟨rfl,k5 h1⟩
  refine⟨_,E',rfl,rfl,.arr (by rw[hA]) hd,⟨⟨fun id _ hid o ho=>?_,fun id _ hid o ho hb=>?_,fun id _ hid hl=>?_,fun i j _ _ hi hj _ _ _=>?_,k3⟩,⟨ev.os,ev.tape,ev.output,ev.size,fun b hb _=>ev.same b hb (by simp),fun id h=>h.elim,fun id h _ hl=>?_,fun id _ h=>h.elim,k1,fun b hb _=>.inl (k2 b hb)⟩,fun id hid=>?_,jcd _⟩,⟨fun id _ _=>jcd _⟩⟩
  ·obtain⟨rfl,rfl⟩:=hH id o ho;exact k4
  ·obtain⟨rfl,rfl⟩:=hH id o ho;cases hb
  ·obtain⟨rfl,h1,_⟩:=hL id hid hl;exact h1
  ·rw[hA] at hi hj;have hi:i=0:=hi;have hj:j=0:=hj;rw[hi,hj]
  ·obtain⟨rfl,_,h2⟩:=hL id h hl;exact .inl h2
  ·rw[hA] at hid;have hid:id=0:=hid;subst hid;exact Nat.one_pos
 | panicked c=>exact h.elim
 | outgrown=>exact h.elim
end Go.Jx
end

noncomputable section
set_option maxRecDepth 100000
namespace Go.Proofs.YtnhmanoiolfapaaGreat
open Go Go.Sx Go.RowKit Go.Jx
theorem ztk{M:List Nat}{w:World}{a:Option Addr}{cap:Nat}(hM:Lo M w)(hc:cap<9223372036854775808):Calls Tryz.prog 77 #[.slice a 0 cap] w (Ret fun v w'=>∃a' c' m',v=.slice a' 0 c'/\Go.Sx.Own m' M w' a' c' ([]:List (NoD 1))/\Evo [] w m' w'):=by
 have hS:SL M w a cap ([]:List (NoD 1)):=⟨⟨jcd _,hc⟩,.inl rfl⟩;refine enter (l:=[.slice a 0 cap]) Tryz.func77 rfl Tryz.ntmps77 rfl ?_;refine qak fun KhK1 hK1=>?_;refine qau ?_;refine qa6 (v:=.slice none 0 0) rfl rfl rfl ?_;refine jbf ?_;refine hK1 _ _ ?_;refine qak fun KhK2 hK2=>?_;refine qak fun KhK3 hK3=>?_;refine qau ?_;refine qaw (v:=.slice a 0 cap) rfl rfl rfl ?_;refine quk ty22 rfl rfl rfl rfl ?_;refine jbf ?_;refine hK3 _ _ ?_;refine qq7 rfl rfl (fun hb4=>?_) (fun hb4=>?_)
 ·refine qak fun KhK5 hK5=>?_;refine qau ?_;refine qa6 (v:=.slice none 0 0) rfl rfl rfl ?_;refine jbf ?_;refine hK5 _ _ ?_;refine je8 ?_;exact ret1 Tryz.results77 rfl ⟨none,0,[],rfl,Go.Sx.Own.nil,Evo.refl [] w⟩
 ·refine je6 ?_;refine hK2 _ _ ?_;refine qak fun KhK7 hK7=>?_;refine qau ?_;refine qxm (α:=NoD 1) (m:=[]) (M:=M) ty22 ty9 rfl (hM.mono (Evo.refl [] w).size) fun β14 w15 hβ16 u17 hz18 ho19=>?_;have e20:=u17.evoN (m:=[]) hβ16 hz18;refine qaw (v:=.slice a 0 cap) rfl rfl rfl ?_;refine qr7 ty22 ty22 ty9 rfl rfl rfl rfl rfl rfl rfl ho19 (hS.mono (e20.tr M)) (hM.mono e20.size) (by simp) fun a22 c23 w24 m25 ho26 e27 u28 hbk29 hsub30=>?_;refine qa6 (v:=.slice a22 (([]:List (NoD 1))++[]).length c23) rfl rfl rfl ?_;refine jbf ?_;refine hK7 _ _ ?_;refine je8 ?_;exact ret1 Tryz.results77 rfl ⟨a22,c23,m25,rfl,ho26,e20.trans e27⟩
theorem zmv:Con Tryz.prog 77 ⟨[.list .str],[(true,.str)],fun x=>match x.1 with|[]=>none|v::l=>some (x.1,())⟩:=z1w trivial fun x y hx h=>⟨0,by
 obtain⟨l,_⟩:=x;have hl:=qb1 hx.1;have hb:=hx.1.1;cases l with
 | nil=>cases h
 | cons v l =>
  cases h;simp only[qyj,q02];exact Eq.trans (jav (fun b=>cond b (some (v::l,())) none) (jau (jbl (jdq (jav (fun z=>Nat.mul z 16) (jbp _))) hb))) rfl⟩
theorem qry:Con Tryz.prog zky qkc:=by
 refine⟨zfh,fun M w x us y hy hM hg hv=>?_⟩;obtain⟨l,_⟩:=x;cases l with
 | cons v l=>exact zmv.calls M w (v::l,()) us y hy hM hg hv
 | nil =>
  cases hy;obtain⟨u,us2,rfl,h1,h2⟩:=hv.inv;obtain rfl:us2=[]:=ja4.1 h2.1.symm;obtain⟨a,cap,rfl,hc⟩:=q9k h1;refine jdl.2 ((ztk (M:=M) hM hc).mono fun e w' hR=>?_);exact ze4 rfl (fun e=>by cases e) hM hR

theorem zq2{M:List Nat}{w:World}{a:Option Addr}{cap:Nat}(hM:Lo M w)(hc:cap<9223372036854775808):Calls Tryz.prog 78 #[.slice a 0 cap] w (Ret fun v w'=>∃a' c' m',v=.slice a' 0 c'/\Go.Sx.Own m' M w' a' c' ([]:List (NoD 2))/\Evo [] w m' w'):=by
 have hS:SL M w a cap ([]:List (NoD 2)):=⟨⟨jcd _,hc⟩,.inl rfl⟩;refine enter (l:=[.slice a 0 cap]) Tryz.func78 rfl Tryz.ntmps78 rfl ?_;refine qak fun KhK1 hK1=>?_;refine qau ?_;refine qa6 (v:=.slice none 0 0) rfl rfl rfl ?_;refine jbf ?_;refine hK1 _ _ ?_;refine qak fun KhK2 hK2=>?_;refine qak fun KhK3 hK3=>?_;refine qau ?_;refine qaw (v:=.slice a 0 cap) rfl rfl rfl ?_;refine quk ty23 rfl rfl rfl rfl ?_;refine jbf ?_;refine hK3 _ _ ?_;refine qq7 rfl rfl (fun hb4=>?_) (fun hb4=>?_)
 ·refine qak fun KhK5 hK5=>?_;refine qau ?_;refine qa6 (v:=.slice none 0 0) rfl rfl rfl ?_;refine jbf ?_;refine hK5 _ _ ?_;refine je8 ?_;exact ret1 Tryz.results78 rfl ⟨none,0,[],rfl,Go.Sx.Own.nil,Evo.refl [] w⟩
 ·refine je6 ?_;refine hK2 _ _ ?_;refine qak fun KhK7 hK7=>?_;refine qau ?_;refine qxm (α:=NoD 2) (m:=[]) (M:=M) ty23 ty94 rfl (hM.mono (Evo.refl [] w).size) fun β14 w15 hβ16 u17 hz18 ho19=>?_;have e20:=u17.evoN (m:=[]) hβ16 hz18;refine qaw (v:=.slice a 0 cap) rfl rfl rfl ?_;refine qr7 ty23 ty23 ty94 rfl rfl rfl rfl rfl rfl rfl ho19 (hS.mono (e20.tr M)) (hM.mono e20.size) (by simp) fun a22 c23 w24 m25 ho26 e27 u28 hbk29 hsub30=>?_;refine qa6 (v:=.slice a22 (([]:List (NoD 2))++[]).length c23) rfl rfl rfl ?_;refine jbf ?_;refine hK7 _ _ ?_;refine je8 ?_;exact ret1 Tryz.results78 rfl ⟨a22,c23,m25,rfl,ho26,e20.trans e27⟩
theorem zui:Con Tryz.prog 78 ⟨[.list cPut],[(true,cPut)],fun x=>match x.1 with|[]=>none|v::l=>some (x.1,())⟩:=zl2 trivial fun x y hx h=>⟨0,by
 obtain⟨l,_⟩:=x;have hl:=qb1 hx.1;have hb:=hx.1.1;cases l with
 | nil=>cases h
 | cons v l =>
  cases h;simp only[qy8,q0u];exact Eq.trans (jav (fun b=>cond b (some (v::l,())) none) (jau (jbl (jdq (jav (fun z=>Nat.mul z 24) (jbp _))) hb))) rfl⟩
theorem zhz:Con Tryz.prog zij q07:=by
 refine⟨q3l,fun M w x us y hy hM hg hv=>?_⟩;obtain⟨l,_⟩:=x;cases l with
 | cons v l=>exact zui.calls M w (v::l,()) us y hy hM hg hv
 | nil =>
  cases hy;obtain⟨u,us2,rfl,h1,h2⟩:=hv.inv;obtain rfl:us2=[]:=ja4.1 h2.1.symm;obtain⟨a,cap,rfl,hc⟩:=q9k h1;refine jdl.2 ((zq2 (M:=M) hM hc).mono fun e w' hR=>?_);exact ze4 rfl (fun e=>by cases e) hM hR
theorem q0q(a b:Int):decide (a<=b)=!decide (b<a):=by
 by_cases h:b<a
 ·rw[jaj h,jal (by omega)];rfl
 ·rw[jal h,jaj (by omega)];rfl
theorem q5e(n lo hi:Int):S.inI n lo hi=(!iltI n lo&&!iltI hi n):=by unfold S.inI;rw[q0q,q0q,qbu,qbu]
theorem qay{n lo hi:Int}:S.inI n lo hi=true↔lo<=n/\n<=hi:=by unfold S.inI;rw[jae,jdn,jdn]
theorem zy0(a:Int):ieqI a a=true:=qbe rfl
theorem qa5{α:Type}{b:Bool}{x y:α}(h:cond b (some x) none=some y):b=true/\x=y:=by
 cases b
 ·cases h
 ·exact⟨rfl,jb8 h⟩
theorem wrap_in{n:Int}(h:-9223372036854775808<=n/\n<9223372036854775808):IntKind.i64.wrap n=n:=qfv h
theorem qa2{n:Nat}(h:n<9223372036854775808):IntKind.i64.wrap (Int.ofNat n)=Int.ofNat n:=qfv (by show -_<=(n:Int)/\(n:Int)<_;omega)
theorem qrg{n:Nat}(h:n<LF):IntKind.i64.wrap (Int.sub (Int.ofNat n) (Int.ofNat 1))=(n:Int)-1:=by
 unfold LF at h;exact qfv (by show -9223372036854775808<=(n:Int)-1/\(n:Int)-1<9223372036854775808;omega)
theorem zn7(lf:Nat)(n lo hi:Int):qq2 lf n lo hi=some (S.inI n lo hi,()):=by
 simp only[qq2,q8s];rw[q5e];cases iltI n lo<;>rfl
theorem qh3:Con Tryz.prog znb qg5:=zsq trivial fun x y hx h=>⟨0,(zn7 0 _ _ _).trans h⟩
theorem zrk(lf:Nat)(n lo hi:Int):qn0 lf n lo hi=some (S.inI n lo hi,()):=by
 simp only[qn0,q21];rw[q5e];cases iltI n lo<;>rfl
theorem qqk:Con Tryz.prog zoa qll:=zjd trivial fun x y hx h=>⟨0,(zrk 0 _ _ _).trans h⟩
theorem qta(s:ByteArray):S.short s=!ieqI (Int.ofNat s.size) (Int.ofNat 64):=by
 unfold S.short;rw[qfh]
theorem ziw(lf:Nat)(s:ByteArray):qpd lf s=some (S.short s,()):=by
 simp only[qpd,q1t];rw[qta]
theorem zco:Con Tryz.prog zxh qy2:=zo7 trivial fun x y hx h=>⟨0,(ziw 0 x.1).trans h⟩
theorem zvd{n:Int}(h:0<=n):Int.tmod n (Int.ofNat 2)=n % 2:=Int.tmod_eq_emod_of_nonneg h
theorem zzt(lf:Nat)(n:Int):qrm lf n=some ((S.newDisk n).1,(S.newDisk n).2,()):=by
 simp only[qrm,q8q,S.newDisk];by_cases h1:S.inI n 8 1000=true
 ·obtain⟨h2,h3⟩:=qay.1 h1;rw[show S.inI n (Int.ofNat 8) (Int.ofNat 1000)=true from h1,jaw,jad,zvd (by omega)];by_cases h4:n % 2=0
  ·rw[qbe (show n % 2=Int.ofNat 0 from h4),jaw,jad,show S.inI n (Int.ofNat 0) (Int.ofNat 1000)=true from qay.2 ⟨by show (0:Int)<=n;omega,h3⟩,jaa,jao ⟨h1,h4⟩];rfl
  ·rw[qbb (show ¬n % 2=Int.ofNat 0 from h4),jat,jaa,jan (fun e=>h4 e.2)];rfl
 ·rw[show S.inI n (Int.ofNat 8) (Int.ofNat 1000)=false from jca.2 h1,jat,jaa,jan (fun e=>h1 e.1)];rfl
theorem z0o(lf:Nat)(n:Int)(h1:S.inI n 0 64=true):qr6 lf n=some (qae (List.replicate n.toNat 0),()):=by
 obtain⟨h3,h4⟩:=qay.1 h1;simp only[qr6,q8u];rw[qdv (show ¬n<Int.ofNat 0 by show ¬n<0;omega),jad,jau (by show n.toNat*1<=_;omega)];rfl
theorem qwa:Con Tryz.prog zph qs0:=zyr trivial fun x y hx h=>⟨0,by
 obtain⟨h1,h2⟩:=qa5 (show cond (S.inI x.1 0 64) (some (qae (List.replicate (Int.toNat x.1) 0),())) none=some y from h);exact(z0o 0 x.1 h1).trans (jav some h2)⟩
theorem zbv:S.lit [0,0,0,0,0,0,0,0,0,0,0,0,0,0,0,0,0,0,0,0,0,0,0,0,0,0,0,0,0,0,0,0,0,0,0,0,0,0,0,0,0,0,0,0,0,0,0,0,0,0,0,0,0,0,0,0,0,0,0,0,0,0,0,0]=S.blank:=by kernel_rfl
theorem zgf{σ A R:Type}{T:(A->Option R)->A->Option R}(n:Nat)(mk:Int->σ->A)(I:Nat->σ->Prop)(g:Nat->σ->Option R)(hn:n<LF)
  (h0:∀K s,I n s->T K (mk (Int.ofNat n) s)=g 0 s)
  (h1:∀K i s,I i s->i<n->IntKind.i64.wrap (Int.add (Int.ofNat i) (Int.ofNat 1))=Int.ofNat (i+1)->(∀s',I (i+1) s'->K (mk (Int.ofNat (i+1)) s')=g (n-(i+1)) s')->T K (mk (Int.ofNat i) s)=g (n-i) s)
  (s:σ) (hI:I 0 s):qav T LF (mk (Int.ofNat 0) s)=g n s:=by
 have hl:(List.replicate n ()).length=n:=ja9;have:=range0 (T:=T) (List.replicate n ()) mk I (fun rest _ s=>g rest.length s) (by rw[hl];exact hn) (fun K s h=>by rw[hl] at h ⊢;exact h0 K s h) (fun K i v rest s h r hk=>by
  have hi:=r.lt;rw[hl] at hi;have e1:rest.length=n-(i+1):=by
   have:=jav List.length r.tail;rw[jax,hl] at this;exact this.symm
  have e2:(v::rest).length=n-i:=by rw[jar,e1];omega
  rw[e2];rw[e1] at hk;exact h1 K i s h hi r.next hk) s hI
 rw[this,hl]
theorem qr9{α:Type}(p:α->Bool)(l:List α):(!iltI (Go.Jx.S.idx p l) (Int.ofNat 0))=l.any p:=by
 cases h:l.any p with
 | true=>rw[qdv (by have:=(Go.Jx.S.idx_nonneg p l).2 h;show ¬_<(0:Int);omega)];rfl
 | false =>
  rw[qdj (by
   show _<(0:Int);refine Int.not_le.1 fun e=>?_;rw[(Go.Jx.S.idx_nonneg p l).1 e] at h;cases h)];rfl
theorem zio(lf:Nat)(d:qac)(hl:d.1.length<LF):qon lf d=some (S.checkDisk d,()):=by
 have e1:idxO (fun v0:DPut=>(cond (S.short v0.2) (some true) (some (!(S.inI v0.1 (Int.ofNat 0) (IntKind.i64.wrap (Int.sub (Int.ofNat d.1.length) (Int.ofNat 1)))))))) d.2 0=some (Go.Jx.S.idx (S.badPut d.1.length) d.2):=qpw (S.badPut d.1.length) fun x _=>by
  rw[qrg hl];unfold S.badPut;cases S.short x.2<;>rfl
 have e2:idxO (fun v2:ByteArray=>(some (S.short v2))) d.1 0=some (Go.Jx.S.idx S.short d.1):=qpw S.short fun _ _=>rfl;simp only[qon,zdq,S.checkDisk,qa4];rw[e1];simp only[qr9];rw[e2];simp only[qr9];by_cases h1:1000<d.1.length
 ·rw[jaj h1,jaa,jao (.inl h1)];rfl
 rw[jal h1,jad];by_cases h2:4000<d.2.length
 ·rw[jaj h2,jaa,jao (.inr h2)];rfl
 rw[jal h2,jad,jan (by omega)];by_cases h3:d.1.length<8
 ·rw[jaj h3,jaa,jao (.inl h3)];rfl
 rw[jal h3,jad];by_cases h4:d.1.length % 2=0
 ·rw[qbe (show Int.ofNat (Nat.mod d.1.length 2)=Int.ofNat 0 from jav Int.ofNat h4),jaw,jad];cases h5:d.2.any (S.badPut d.1.length) with
  | true=>rw[jaa,jao (.inr (.inr (.inl rfl)))];rfl
  | false =>
   rw[jad];cases h6:d.1.any S.short with
   | true=>rw[jaa,jao (.inr (.inr (.inr rfl)))];rfl
   | false=>rw[jad,jan (by simp[h3,h4])];rfl
 ·rw[qbb (show ¬Int.ofNat (Nat.mod d.1.length 2)=Int.ofNat 0 from fun e=>h4 (jdg e)),jat,jaa,jao (.inr (.inl h4))];rfl
theorem qm8:Con Tryz.prog zq8 qh7:=zov ⟨zco,qh3,trivial⟩ fun x y hx h=>⟨0,(zio 0 x.1 (qb1 (c:=.str) hx.1.1)).trans h⟩
theorem zj0(d:qac)(hl:d.1.length<LF)(hl2:d.2.length<LF):Fz16 LF d=some (S.checkDisk d,()):=by
 have g12:qng LF d LF (Int.ofNat 0)=some (cond (d.2.any (S.badPut d.1.length)) 1 0,()):=by
  refine qhn d.2 (fun rest _=>some (cond (rest.any (S.badPut d.1.length)) 1 0,())) hl2 (fun K=>?_) (fun K i v rest r h=>?_)
  ·simp only[qo6,qbt,jad];rfl
  ·simp only[qo6,r.ilt,r.get,r.next,jaa,qrg hl,List.any_cons,<- qta];unfold S.badPut;show cond (!S.inI v.1 0 _) _ _=_;cases S.inI v.1 0 ((d.1.length:Int)-1)<;>cases S.short v.2<;>first|rfl|exact h
 have g7:qj3 LF d LF (Int.ofNat 0)=some (cond (d.1.any S.short) 1 (cond (d.2.any (S.badPut d.1.length)) 1 0),()):=by
  refine qhn d.1 (fun rest _=>some (cond (rest.any S.short) 1 (cond (d.2.any (S.badPut d.1.length)) 1 0),())) hl (fun K=>?_) (fun K i v rest r h=>?_)
  ·simp only[qqf,qbt,jad];exact g12
  ·simp only[qqf,r.ilt,r.get,r.next,jaa,List.any_cons,<- qta];cases S.short v with
   | true=>rfl
   | false=>exact h
 simp only[Fz16,qxa,S.checkDisk,qa4];rw[g7];by_cases h1:1000<d.1.length
 ·rw[jaj h1,jaa,jao (.inl h1)];rfl
 rw[jal h1,jad];by_cases h2:4000<d.2.length
 ·rw[jaj h2,jaa,jao (.inr h2)];rfl
 rw[jal h2,jad,jan (by omega)];by_cases h3:d.1.length<8
 ·rw[jaj h3,jaa,jao (.inl h3)];rfl
 rw[jal h3,jad];by_cases h4:d.1.length % 2=0
 ·rw[qbe (show Int.ofNat (Nat.mod d.1.length 2)=Int.ofNat 0 from jav Int.ofNat h4),jaw,jad];cases h5:d.2.any (S.badPut d.1.length) with
  | true=>rw[jaa,jao (.inr (.inr (.inl rfl)))];cases d.1.any S.short<;>rfl
  | false =>
   rw[jad];cases h6:d.1.any S.short with
   | true=>rw[jaa,jao (.inr (.inr (.inr rfl)))]
   | false=>rw[jad,jan (by simp[h3,h4])]
 ·rw[qbb (show ¬Int.ofNat (Nat.mod d.1.length 2)=Int.ofNat 0 from fun e=>h4 (jdg e)),jat,jaa,jao (.inr (.inl h4))];rfl
theorem q45:Con Tryz.prog zzg qyd:=zgk ⟨qqk,trivial⟩ fun x y hx h=>⟨LF,(zj0 x.1 (qb1 (c:=.str) hx.1.1) (qb1 (c:=cPut) hx.1.2)).trans h⟩
theorem qj2{α:Type}{l:List α}{i:Int}{d:α}(h0:0<=i)(h1:i<l.length):jget l i=some (l.getD i.toNat d):=by
 obtain⟨x,h2,h3,_⟩:=qpc h0 h1;rw[h2,jai,h3];rfl
theorem qtz{n:Int}{p:DPut}:S.badPut n p=false↔p.2.size=64/\0<=p.1/\p.1<n:=by
 unfold S.badPut S.short;rw[jcl,jet,jet,jdn,qay];omega
theorem zjv(l:List ByteArray)(q:List DPut)(hq:q.length<LF)(hf:S.fitP l q=true):Fz17 LF l q=some (S.settled l q,()):=by
 have hf:=jbj.1 hf;refine range0 (σ:=List ByteArray) (R:=qc0) q (fun i s=>(i,s)) (fun _ s=>s.length=l.length) (fun rest _ s=>some (S.settled s rest,())) hq (fun K s _=>?_) (fun K i v rest s hs r h=>?_) l rfl
 ·simp only[qqj,qbt,jad];rfl
 ·have hv:=hf v r.mem;rw[jb4] at hv;obtain⟨_,h1,h2⟩:=qtz.1 hv;obtain⟨x,h3,h4,_⟩:=qpc (l:=s) h1 (by omega);simp only[qqj,r.ilt,r.get,r.next,jaa,h3,h4];exact h _ (by rw[jcq];exact hs)
theorem zxc:Con Tryz.prog zlh q7f:=zlb ⟨qry,trivial⟩ fun x y hx h=>⟨LF,by
 obtain⟨h1,h2⟩:=qa5 (show cond (S.fitP x.1 x.2.1) (some (S.settled x.1 x.2.1,())) none=some y from h);exact(zjv x.1 x.2.1 (qb1 (c:=cPut) hx.2.1) h1).trans (jav some h2)⟩
def rng(l:List Int):Prop:=∀b∈l,0<=b/\b<256
theorem qf2{a b:List Int}(h:rng a)(k:rng b):rng (a++b):=fun x hx=>(jbv.1 hx).elim (h x) (k x)
theorem qfr(n:Nat):rng (List.replicate n 0):=fun b h=>by rw[(jeu.1 h).2];decide
theorem qda(s:ByteArray):rng (qab s):=fun b h=>zm3 h
theorem qee{a:List Int}(h:rng a)(n:Nat):rng (a.take n):=fun x hx=>h x (jb6 hx)
theorem qcu{a:List Int}(h:rng a)(n:Nat):rng (a.drop n):=fun x hx=>h x (jdo hx)
theorem qyb(n:Nat):rng (S.two n):=fun b h=>by
 unfold S.two at h;simp only[ja1,jek,jfp] at h;rcases h with rfl|rfl<;>omega
theorem qa1(l:List Int):(qae l).size=l.length:=by
 unfold qae;simp[ByteArray.size]
theorem qfu(f:Nat){b:List Int}(h:0<b.length):S.chunks (f+1) b=qae (b.take 64++List.replicate (64-b.length) 0)::S.chunks f (b.drop 64):=by
 cases b with
 | nil=>cases h
 | cons x b=>rfl
theorem zr9(f:Nat):S.chunks f []=[]:=by cases f<;>rfl
theorem q1c:∀(f:Nat) (b:List Int),b.length<=f->(S.chunks f b).length=(b.length+63) / 64
 | 0,b,h=>by
  have:b=[]:=ja4.1 (by omega);subst this;rfl
 | f+1,b,h=>by
  by_cases hb:0<b.length
  ·rw[qfu f hb,jar,q1c f _ (by rw[jax];omega),jax];omega
  ·have:b=[]:=ja4.1 (by omega);subst this;rfl
theorem q4s:∀(f:Nat) (b:List Int),∀s∈S.chunks f b,s.size=64
 | 0,b,s,h=>by cases h
 | f+1,b,s,h=>by
  by_cases hb:0<b.length
  ·rw[qfu f hb] at h;rcases ja1.1 h with rfl|h
   ·rw[qa1,jah,jba,ja9];omega
   ·exact q4s f _ s h
  ·have:b=[]:=ja4.1 (by omega);subst this;cases h
theorem q6h:∀(f:Nat) (b:List Int),rng b->b.length<=f->(S.chunks f b).flatMap qab=b++List.replicate (64*((b.length+63) / 64)-b.length) 0
 | 0,b,_,h=>by
  have:b=[]:=ja4.1 (by omega);subst this;rfl
 | f+1,b,hr,h=>by
  by_cases hb:0<b.length
  ·rw[qfu f hb,List.flatMap_cons,q6h f _ (qcu hr 64) (by rw[jax];omega),qbi (qf2 (qee hr 64) (qfr _)),jax];by_cases h64:64<=b.length
   ·rw[show 64-b.length=0 by omega,jfc,jbo,<- jaz,jcm,show 64*((b.length-64+63) / 64)-(b.length-64)=64*((b.length+63) / 64)-b.length by omega]
   ·rw[jbm (by omega),jbn (by omega),jc0,jaz,List.replicate_append_replicate];rw[show 64-b.length+(64*((b.length-64+63) / 64)-(b.length-64))=64*((b.length+63) / 64)-b.length by omega]
  ·have:b=[]:=ja4.1 (by omega);subst this;rfl
theorem qbq{c:qaa}{l:List qaa}{last:Int}:S.okGo (c::l) last=true↔(0<=c.1/\c.1<=199)/\c.2.1.size<=4000/\(c.2.2=true->c.2.1=S.none_)/\last<c.1/\S.okGo l c.1=true:=by
 have hz:∀s:ByteArray,s.size=0↔s=S.none_:=fun s=>⟨fun h=>qej (by
  have h1:=qce s;rw[h] at h1;rw[ja4.1 h1];rfl),fun h=>by rw[h];rfl⟩
 show (S.inI c.1 0 199&&(decide (c.2.1.size<=4000)&&(!(c.2.2&&!decide (c.2.1.size=0))&&(decide (last<c.1)&&S.okGo l c.1))))=true↔_;simp only[S.inI,jae,jdn,jb4,Bool.and_eq_false_iff,jet,<- hz];constructor
 ·rintro⟨h1,h2,h3,h4,h5⟩;refine⟨h1,h2,fun h=>?_,h4,h5⟩;rcases h3 with h3|h3
  ·rw[h] at h3;cases h3
  ·exact h3
 ·rintro⟨h1,h2,h3,h4,h5⟩;refine⟨h1,h2,?_,h4,h5⟩;cases hc:c.2.2 with
  | false=>exact .inl rfl
  | true=>exact .inr (h3 hc)
theorem qto(c:qaa):(S.cellB c).length=3+cond c.2.2 0 c.2.1.size:=by
 unfold S.cellB;cases c.2.2 with
 | true=>rfl
 | false =>
  rw[jad,jad,jar,jah,qce];show 2+_+1=_;omega
theorem zrv(c:qaa):rng (S.cellB c):=fun b h=>by
 unfold S.cellB at h;rcases ja1.1 h with rfl|h
 ·omega
 ·cases hc:c.2.2 with
  | true=>rw[hc] at h;exact qyb 0 b h
  | false=>rw[hc] at h;exact qf2 (qyb _) (qda _) b h
theorem zq9(l:List qaa):rng (S.body l):=fun b h=>by
 obtain⟨c,_,h⟩:=List.mem_flatMap.1 h;exact zrv c b h
theorem qsp(c:qaa)(l:List qaa):S.body (c::l)=S.cellB c++S.body l:=rfl
theorem qnf(f:Nat)(k a b:Int)(r:List Int)(last:Int):S.changes (f+1) (k::a::b::r) last =
  if 199<k\/k<=last\/(r.length:Int)+1<a*256+b\/4001<a*256+b then none
  else if a*256+b=0 then (match S.changes f r k with
    | some l=>some ((k,S.none_,true)::l)
    | none=>none)
  else (match S.changes f (r.drop (a*256+b-1).toNat) k with
    | some l=>some ((k,qae (r.take (a*256+b-1).toNat),false)::l)
    | none=>none):=rfl
theorem qzw:∀(l:List qaa) (last:Int) (f:Nat),S.okGo l last=true->(S.body l).length<f->S.changes f (S.body l) last=some l
 | [],last,f,_,hf=>by
  cases f with
  | zero=>cases hf
  | succ f=>rfl
 | c::l,last,f,h,hf=>by
  obtain⟨⟨h1,h2⟩,h3,h4,h5,h6⟩:=qbq.1 h;rw[qsp] at hf ⊢;rw[jah,qto] at hf;cases f with
  | zero=>omega
  | succ f =>
  have hk:c.1 % 256=c.1:=by omega
  have hc:S.cellB c=c.1::cond c.2.2 (S.two 0) (S.two (c.2.1.size+1)++qab c.2.1):=by unfold S.cellB;rw[hk]
  obtain⟨k,s,g⟩:=c;simp only at h1 h2 h3 h4 h5 h6 hf hc;rw[hc];cases g with
  | true =>
   obtain rfl:=h4 rfl;simp only[jaa] at hf ⊢;show S.changes (f+1) (k::0::0::S.body l) last=_;rw[qnf,jan (by omega),jao (by decide),qzw l k f h6 (by omega)]
  | false =>
   simp only[jad] at hf ⊢;show S.changes (f+1) (k::(((s.size+1) / 256 % 256:Nat):Int)::(((s.size+1) % 256:Nat):Int)::(qab s++S.body l)) last=_;have hn:(((s.size+1) / 256 % 256:Nat):Int)*256+(((s.size+1) % 256:Nat):Int)=((s.size+1:Nat):Int):=by omega
   have hl:(qab s++S.body l).length=s.size+(S.body l).length:=by rw[jah,qce]
   rw[qnf,hn,jan (by rw[hl];omega),jan (by omega),show (((s.size+1:Nat):Int)-1).toNat=(qab s).length by rw[qce];omega,jfj,jfi,qzw l k f h6 (by omega),qfd]
theorem qve:∀(f:Nat) (b:List Int) (last:Int) {l:List qaa},rng b->S.changes f b last=some l->S.okGo l last=true/\(S.body l).length=b.length
 | 0,b,last,l,_,h=>by cases h
 | f+1,[],last,l,_,h=>by cases h;exact⟨rfl,rfl⟩
 | f+1,[k],last,l,_,h=>by cases h
 | f+1,[k,a],last,l,_,h=>by cases h
 | f+1,k::a::b::r,last,l,hr,h=>by
  rw[qnf] at h;obtain⟨k0,k1⟩:=hr k (by simp);have hr':rng r:=fun x hx=>hr x (by simp[hx]);split at h
  ·cases h
  ·rename_i hn;split at h
   ·rename_i h0;split at h<;>cases h;rename_i l' hl;obtain⟨i1,i2⟩:=qve f r k hr' hl;refine⟨qbq.2 ⟨⟨k0,by omega⟩,jcd _,fun _=>rfl,by show last<k;omega,i1⟩,?_⟩;rw[qsp,jah,qto,i2];simp only[jaa,jar];omega
   ·rename_i h0;obtain⟨a0,a1⟩:=hr a (by simp);obtain⟨b0,b1⟩:=hr b (by simp);split at h<;>cases h;rename_i l' hl;obtain⟨i1,i2⟩:=qve f _ k (qcu hr' _) hl;have ht:(r.take (a*256+b-1).toNat).length=(a*256+b-1).toNat:=by rw[jba];omega
    refine⟨qbq.2 ⟨⟨k0,by omega⟩,by rw[qa1,ht];omega,fun h=>(by cases h),by show last<k;omega,i1⟩,?_⟩;rw[qsp,jah,qto,i2];simp only[jad,jar,qa1,ht,jax];omega
theorem qei(l:List qaa)(m:Int):(S.recB l m).length=(S.body l).length+4:=rfl
theorem qiy(l:List qaa){m:Int}(hm:0<=m/\m<256):rng (S.recB l m):=fun b h=>by
 unfold S.recB at h;rcases ja1.1 h with rfl|h
 ·exact hm
 rcases ja1.1 h with rfl|h
 ·omega
 ·exact qf2 (qyb _) (zq9 l) b h
theorem qc5(l:List qaa)(m:Int):(S.packed l m).length=((S.body l).length+67) / 64:=by
 unfold S.packed;rw[q1c _ _ (jas _),qei]
theorem qel(l:List qaa)(m:Int):1<=(S.packed l m).length:=by rw[qc5];omega
theorem zb4(l:List qaa){m:Int}(hm:0<=m/\m<256):∃r,(qab ((S.packed l m).getD 0 S.none_))=m::(((S.body l).length / 65536 % 256:Nat):Int)::(((S.body l).length / 256 % 256:Nat):Int)::(((S.body l).length % 256:Nat):Int)::r:=by
 unfold S.packed;rw[qei,qfu _ (by rw[qei];omega),jeq,qbi (qf2 (qee (qiy l hm) 64) (qfr _))];exact⟨_,rfl⟩
theorem zci{α:Type}{a b:List α}(d:α)(h:0<a.length):(a++b).getD 0 d=a.getD 0 d:=by
 cases a with
 | nil=>cases h
 | cons x a=>rfl
theorem zxb(l:List qaa)(rest:List ByteArray)(h:S.okC l=true)(hb:(S.body l).length<16777216):S.readR (S.packed l 1++rest)=some (l,(S.packed l 1).length):=by
 have hm:(0:Int)<=1/\(1:Int)<256:=by decide
 obtain⟨r,hr⟩:=zb4 l hm;have hn:S.recN (qab ((S.packed l 1).getD 0 S.none_))=(S.body l).length:=by
  rw[hr];unfold S.recN;simp only[List.getD_cons_succ,jeq];omega
 have hM:S.recM (qab ((S.packed l 1).getD 0 S.none_))=(S.packed l 1).length:=by
  unfold S.recM;rw[hn,qc5]
 have hfl:(S.packed l 1).flatMap qab=S.recB l 1++List.replicate (64*(((S.body l).length+4+63) / 64)-((S.body l).length+4)) 0:=by
  have:=q6h (S.recB l 1).length (S.recB l 1) (qiy l hm) (jas _);rw[qei] at this;exact this
 have hd4:∀z:List Int,(S.recB l 1++z).drop 4=S.body l++z:=fun z=>rfl;unfold S.readR;rw[zci _ (qel l 1),hM,hn,jan (by rw[jah,hr];simp),jfi,hfl,hd4,jfi,qzw l (-1) _ h (by omega)];simp only;rw[show (4+(S.body l).length)=(S.recB l 1).length by rw[qei];omega,jfj];have hz:(List.replicate (64*(((S.body l).length+4+63) / 64)-((S.body l).length+4)) (0:Int)).all (fun b=>decide (b=0))=true:=jbj.2 fun b hb=>by rw[(jeu.1 hb).2];rfl
 rw[hz,jaa]
theorem quc{l l':List ByteArray}{m:Nat}(h:l'.take m=l.take m)(hm:1<=m):l'.getD 0 S.none_=l.getD 0 S.none_:=by
 have:=jav (fun x:List ByteArray=>x[0]?) h;simp only[ja3] at this;rw[jao (by omega),jao (by omega)] at this;rw[jai,jai,this]
theorem qq3:∀(l:List ByteArray),(∀s∈l,s.size=64)->(l.flatMap qab).length=64*l.length
 | [],_=>rfl
 | s::l,h=>by
  rw[List.flatMap_cons,jah,qce,h s (by simp),qq3 l fun t ht=>h t (by simp[ht]),jar];omega
theorem qwl(l:List ByteArray):rng (l.flatMap qab):=fun b h=>by
 obtain⟨s,_,h⟩:=List.mem_flatMap.1 h;exact qda s b h
theorem qro{l:List Int}(h:rng l)(i:Nat):0<=l.getD i 0/\l.getD i 0<256:=by
 rw[jai];cases hi:l[i]? with
 | none=>decide
 | some b=>exact h b (jb0 hi)
theorem qp4{l:List ByteArray}{x:List qaa × Nat}(hs:∀s∈l,s.size=64)(h:S.readR l=some x):1<=x.2/\x.2<=l.length/\S.okC x.1=true/\x.2=(S.packed x.1 1).length/\(S.body x.1).length<16777216/\∀l',l'.take x.2=l.take x.2->S.readR l'=some x:=by
 have h':=h;unfold S.readR at h;split at h
 ·cases h
 rename_i hc;obtain⟨N,hN⟩:∃N,S.recN (qab (l.getD 0 S.none_))=N:=⟨_,rfl⟩;obtain⟨M,hM⟩:∃M,S.recM (qab (l.getD 0 S.none_))=M:=⟨_,rfl⟩;have hMN:M=(N+67) / 64:=by rw[<- hM,<- hN];rfl
 have hNlt:N<16777216:=by
  rw[<- hN];unfold S.recN;have:=qro (qda (l.getD 0 S.none_)) 1;have:=qro (qda (l.getD 0 S.none_)) 2;have:=qro (qda (l.getD 0 S.none_)) 3;omega
 rw[hN,hM] at h;have hle:M<=l.length:=by rw[hM] at hc;omega
 split at h
 ·rename_i c hch;cases hz:(((l.take M).flatMap qab).drop (4+N)).all (fun b=>decide (b=0)) with
  | false=>rw[hz] at h;cases h
  | true =>
  rw[hz] at h;cases h;obtain⟨k1,k2⟩:=qve _ _ _ (qee (qcu (qwl _) 4) N) hch;have hfl:((l.take M).flatMap qab).length=64*M:=by
   rw[qq3 _ fun s h=>hs s (jb6 h),jba,jb1 hle]
  rw[jba,jax,hfl,jb1 (by omega)] at k2;refine⟨by show 1<=M;omega,hle,k1,by show M=(S.packed c 1).length;rw[qc5,k2];exact hMN,by show (S.body c).length<_;omega,fun l' ht=>?_⟩;have ht:l'.take M=l.take M:=ht;have h0:=quc ht (by omega);have hl:M<=l'.length:=by
   have:=jav List.length ht;rw[jba,jba] at this;omega
  unfold S.readR at h' ⊢;rw[h0,hM,hN,ht];rw[hM,hN] at h';rw[jan (fun e=>by rcases e with e|e;exact hc (.inl e);omega)];rw[jan (fun e=>by rcases e with e|e;exact hc (.inl e);omega)] at h';exact h'
 ·cases h
def okS(l:List qaa)(last:Int):Prop:=S.okGo l last=true/\∀c∈l,c.2.2=false
theorem qx0{α:Type}(l:List α)(n i:Nat)(d:α):(l.drop n).getD i d=l.getD (n+i) d:=by simp[jai]
theorem q41{α:Type}(l:List α){n i:Nat}(d:α)(h:i<n):(l.take n).getD i d=l.getD i d:=by simp[jai,h]
theorem zkn:∀{l:List qaa} {a b:Int},S.okGo l a=true->b<=a->S.okGo l b=true
 | [],_,_,_,_=>rfl
 | c::l,a,b,h,hb=>by
  obtain⟨h1,h2,h3,h4,h5⟩:=qbq.1 h;exact qbq.2 ⟨h1,h2,h3,by omega,h5⟩
theorem qqe(c:qaa)(hc:(0<=c.1/\c.1<=199)/\c.2.1.size<=4000):∀{l:List qaa} {last:Int},okS l last->last<c.1->okS (S.ins1 c l) last
 | [],last,h,hl=>by
  show okS (cond c.2.2 [] [c]) last;cases hg:c.2.2 with
  | true=>exact⟨rfl,fun x hx=>by cases hx⟩
  | false=>exact⟨qbq.2 ⟨hc.1,hc.2,fun h=>(by rw[hg] at h;cases h),hl,rfl⟩,fun x hx=>by rw[jcj.1 hx];exact hg⟩
 | a::r,last,⟨h,hn⟩,hl=>by
  obtain⟨h1,h2,h3,h4,h5⟩:=qbq.1 h;have hr:okS r a.1:=⟨h5,fun x hx=>hn x (ja7 _ hx)⟩;show okS (if a.1<c.1 then a::S.ins1 c r else if a.1=c.1 then cond c.2.2 r (c::r) else cond c.2.2 (a::r) (c::a::r)) last;by_cases q1:a.1<c.1
  ·rw[jao q1];obtain⟨i1,i2⟩:=qqe c hc hr q1;exact⟨qbq.2 ⟨h1,h2,h3,h4,i1⟩,fun x hx=>(ja1.1 hx).elim (fun e=>by rw[e];exact hn a (by simp)) (i2 x)⟩
  ·rw[jan q1];by_cases q2:a.1=c.1
   ·rw[jao q2];cases hg:c.2.2 with
    | true=>exact⟨zkn h5 (by omega),fun x hx=>hn x (ja7 _ hx)⟩
    | false=>exact⟨qbq.2 ⟨hc.1,hc.2,fun h=>(by rw[hg] at h;cases h),hl,by rw[<- q2];exact h5⟩,fun x hx=>(ja1.1 hx).elim (fun e=>by rw[e];exact hg) fun hx=>hn x (ja7 _ hx)⟩
   ·rw[jan q2];cases hg:c.2.2 with
    | true=>exact⟨h,hn⟩
    | false=>exact⟨qbq.2 ⟨hc.1,hc.2,fun h=>(by rw[hg] at h;cases h),hl,qbq.2 ⟨h1,h2,h3,by omega,h5⟩⟩,fun x hx=>(ja1.1 hx).elim (fun e=>by rw[e];exact hg) (hn x)⟩
theorem qzp:∀{l m:List qaa} {last:Int},okS m (-1)->S.okGo l last=true->okS (S.changed m l) (-1)
 | [],m,_,h,_=>h
 | c::l,m,last,h,hl=>by
  obtain⟨h1,h2,h3,h4,h5⟩:=qbq.1 hl;exact qzp (l:=l) (qqe c ⟨h1,h2⟩ h (by omega)) h5
theorem qfc(f:Nat)(s:ByteArray)(r:List ByteArray)(c:List qaa)(u:Nat):S.recs (f+1) (s::r) c u=if (qab s).getD 0 0=0 then some (c,u) else match S.readR (s::r) with
   | none=>none
   | some x=>cond (decide (u=0)&&x.1.any (·.2.2)) none (S.recs f ((s::r).drop x.2) (S.changed c x.1) (u+x.2)):=rfl
def szS(l:List ByteArray):Prop:=∀s∈l,s.size=64
theorem szS.drop{l:List ByteArray}(h:szS l)(n:Nat):szS (l.drop n):=fun s hs=>h s (jdo hs)
theorem szS.take{l:List ByteArray}(h:szS l)(n:Nat):szS (l.take n):=fun s hs=>h s (jb6 hs)
theorem q3n:∀(f:Nat) {l:List ByteArray} {c:List qaa} {u:Nat} {R:List qaa × Nat},szS l->S.recs f l c u=some R->∀f',l.length<f'->S.recs f' l c u=some R
 | 0,l,c,u,R,_,h,_,_=>by cases h
 | f+1,l,c,u,R,hs,h,0,hf=>by omega
 | f+1,[],c,u,R,hs,h,f'+1,hf=>h
 | f+1,s::r,c,u,R,hs,h,f'+1,hf=>by
  rw[qfc] at h ⊢;by_cases h0:(qab s).getD 0 0=0
  ·rw[jao h0] at h ⊢;exact h
  ·rw[jan h0] at h ⊢;cases hr:S.readR (s::r) with
   | none=>rw[hr] at h;cases h
   | some x =>
    rw[hr] at h;simp only at h ⊢;obtain⟨k1,k2,_⟩:=qp4 hs hr;cases hb:(decide (u=0)&&x.1.any (·.2.2)) with
    | true=>rw[hb] at h;cases h
    | false =>
     rw[hb,jad] at h;rw[jad];exact q3n f (hs.drop x.2) h f' (by rw[jax];omega)
theorem q7r(f:Nat)(l:List qaa)(rest:List ByteArray)(c:List qaa)(u:Nat)(h:S.okC l=true)(hb:(S.body l).length<16777216) :
  S.recs (f+1) (S.packed l 1++rest) c u=cond (decide (u=0)&&l.any (·.2.2)) none (S.recs f rest (S.changed c l) (u+(S.packed l 1).length)):=by
 have hr:=zxb l rest h hb;have hd:(S.packed l 1++rest).drop (S.packed l 1).length=rest:=jfj ..;obtain⟨r,hh⟩:=zb4 l (m:=1) (by decide);have hp:=qel l 1;cases hl:S.packed l 1++rest with
 | nil=>rw[List.append_eq_nil_iff.1 hl |>.1] at hp;cases hp
 | cons s q =>
  have hs:s=(S.packed l 1).getD 0 S.none_:=by
   rw[<- zci (b:=rest) S.none_ hp,hl];rfl
  rw[qfc,hs,hh,<- hs,<- hl,hr];rw[jan (by simp)];show cond _ none (S.recs f ((S.packed l 1++rest).drop (S.packed l 1).length) _ _)=_;rw[hd]
theorem qxg:∀(f:Nat) {l:List ByteArray} {c c':List qaa} {u u':Nat},szS l->S.recs f l c u=some (c',u') ->
  u<=u'/\u'-u<=l.length/\(l.length=u'-u\/(qab (l.getD (u'-u) S.none_)).getD 0 0=0)/\(okS c (-1)->okS c' (-1)) /\
  ∀l2,szS l2->l2.take (u'-u)=l.take (u'-u)->∀f2 R,S.recs f2 (l2.drop (u'-u)) c' u'=some R->∃f3,S.recs f3 l2 c u=some R
 | 0,l,c,c',u,u',_,h=>by cases h
 | f+1,[],c,c',u,u',_,h=>by
  cases h;refine⟨jas _,by omega,.inl (by simp),fun h=>h,fun l2 _ _ f2 R h=>⟨f2,?_⟩⟩;rw[jdz,jdk] at h;exact h
 | f+1,s::r,c,c',u,u',hs,h=>by
  rw[qfc] at h;by_cases h0:(qab s).getD 0 0=0
  ·rw[jao h0] at h;cases h;refine⟨jas _,by omega,.inr (by rw[jdz];exact h0),fun h=>h,fun l2 _ _ f2 R h=>⟨f2,?_⟩⟩;rw[jdz,jdk] at h;exact h
  ·rw[jan h0] at h;cases hr:S.readR (s::r) with
   | none=>rw[hr] at h;cases h
   | some x =>
    rw[hr] at h;simp only at h;obtain⟨k1,k2,k3,k4,k5,k6⟩:=qp4 hs hr;cases hb:(decide (u=0)&&x.1.any (·.2.2)) with
    | true=>rw[hb] at h;cases h
    | false =>
     rw[hb,jad] at h;obtain⟨i1,i2,i3,i4,i5⟩:=qxg f (hs.drop x.2) h;rw[jax] at i2 i3;have e:u'-u=x.2+(u'-(u+x.2)):=by omega
     refine⟨by omega,by omega,?_,fun hc=>i4 (qzp hc k3),fun l2 h2 ht f2 R hR=>?_⟩
     ·rcases i3 with i3|i3
      ·exact .inl (by omega)
      ·refine .inr ?_;rw[qx0,<- e] at i3;exact i3
     ·have ht1:l2.take x.2=(s::r).take x.2:=by
       have:=jav (List.take x.2) ht
       rwa [jdw,jdw,jb1 (by omega)] at this
      obtain⟨f3,h3⟩:=i5 (l2.drop x.2) (h2.drop _) (by
       have:=jav (List.drop x.2) ht
       rwa [jd8,jd8,show u'-u-x.2=u'-(u+x.2) by omega] at this) f2 R (by rw[jcv,<- e];exact hR)
      have hr2:=k6 l2 ht1;have hhd:=quc ht1 k1;cases l2 with
      | nil =>
       have:=jav List.length ht1;rw[jba,jba] at this;simp at this;omega
      | cons s2 r2 =>
       have hhd:s2=s:=hhd;refine⟨f3+1,?_⟩;rw[qfc,hhd,jan h0,<- hhd,hr2];simp only;rw[hb,jad];exact h3
def over(L:List ByteArray)(a:Nat)(ss:List ByteArray):List ByteArray:=L.take a++(ss++L.drop (a+ss.length))
def qqq:Nat->List ByteArray->List DPut
 | _,[]=>[]
 | a,s::ss=>((a:Int),s)::qqq (a+1) ss
theorem qvh(a:Nat)(s:ByteArray)(ss:List ByteArray):S.puts (a:Int) (s::ss)=S.put (a:Int) s::S.puts ((a+1:Nat):Int) ss:=rfl
theorem qwe:∀(a:Nat) (x y:List ByteArray),S.puts (a:Int) (x++y)=S.puts (a:Int) x++S.puts ((a+x.length:Nat):Int) y
 | a,[],y=>rfl
 | a,s::x,y=>by
  rw[jc9,qvh,qvh,qwe (a+1) x y,jc9,jar,show a+(x.length+1)=a+1+x.length by omega]
theorem qkp:∀(a:Nat) (x:List ByteArray),(S.puts (a:Int) x).length=x.length
 | _,[]=>rfl
 | a,s::x=>jav (·+1) (qkp (a+1) x)
theorem zid(L:List ByteArray)(a:Nat):over L a []=L:=by
 unfold over;rw[jc0,ja0,jb7,jcm]
theorem qga{L:List ByteArray}{a:Nat}{ss:List ByteArray}(h:a+ss.length<=L.length):(over L a ss).length=L.length:=by
 unfold over;rw[jah,jah,jba,jax];omega
theorem zeu{L:List ByteArray}{a:Nat}{ss:List ByteArray}(h:a+ss.length<=L.length):(over L a ss).take a=L.take a:=by
 unfold over;rw[jd6 (by rw[jba];omega),jdw,Nat.min_self]
theorem qog{L:List ByteArray}{a:Nat}{ss:List ByteArray}(h:a+ss.length<=L.length):(over L a ss).drop a=ss++L.drop (a+ss.length):=by
 unfold over;rw[jd7 (by rw[jba];omega),jbn (by rw[jba];omega),jc0]
theorem zpf{L:List ByteArray}{a:Nat}{ss:List ByteArray}(hL:szS L)(hs:szS ss):szS (over L a ss):=fun s h=>by
 unfold over at h;rcases jbv.1 h with h|h
 ·exact hL s (jb6 h)
 rcases jbv.1 h with h|h
 ·exact hs s h
 ·exact hL s (jdo h)
theorem qlo:∀(ss:List ByteArray) (a:Nat) (L:List ByteArray),a+ss.length<=L.length->S.settled L (qqq a ss)=over L a ss
 | [],a,L,_=>(zid L a).symm
 | s::ss,a,L,h=>by
  rw[jar] at h;show S.settled (L.set (a:Int).toNat s) (qqq (a+1) ss)=_;rw[jch,qlo ss (a+1) _ (by rw[jcq];omega)];unfold over;rw[jar,List.drop_set_of_lt (by omega),List.take_set];have:(L.take (a+1)).set a s=L.take a++[s]:=by
   rw[jew (by omega),List.set_append_right _ _ (by rw[jba];omega)];rw[jba,jb1 (by omega),jdz];rfl
  rw[this,jaz,jc9,jc0,show a+1+ss.length=a+(ss.length+1) by omega];rfl
theorem zk7{n a:Nat}{s:ByteArray}(hs:s.size=64)(h:a<n):S.badPut (n:Int) ((a:Int),s)=false:=by
 unfold S.badPut S.short S.inI;rw[jaj hs,jaj (show (0:Int)<=(a:Int) by omega),jaj (show (a:Int)<=(n:Int)-1 by omega)];rfl
theorem qzy{L:List ByteArray}{a:Nat}{s:ByteArray}{q:List DPut}{r:List DAct}(hs:s.size=64)(h:a<L.length)(hq:q.length<4000):S.doGo (S.put (a:Int) s::r) L q=S.doGo r L (q++[((a:Int),s)]):=by
 show cond false _ (cond (S.badPut (L.length:Int) ((a:Int),s)) _ (if q.length=4000 then _ else _))=_;rw[zk7 hs h,jad,jad,jan (by omega)];rfl
theorem qw7:∀(ss:List ByteArray) (a:Nat) (r:List DAct) (L:List ByteArray) (q:List DPut),szS ss->a+ss.length<=L.length->q.length+ss.length<=4000 ->
  S.doGo (S.puts (a:Int) ss++r) L q=S.doGo r L (q++qqq a ss)
 | [],a,r,L,q,_,_,_=>by
  show S.doGo r L q=S.doGo r L (q++[]);rw[jbo]
 | s::ss,a,r,L,q,hs,h,hq=>by
  rw[jar] at h hq;rw[qvh,jc9,qzy (hs s (by simp)) (by omega) (by omega),qw7 ss (a+1) r L _ (fun t ht=>hs t (by simp[ht])) (by omega) (by rw[jah];simp only[jar,ja0];omega),jaz];rfl
theorem qo8(L:List ByteArray)(q:List DPut)(r:List DAct):S.doGo (S.sync::r) L q=S.doGo r (S.settled L q) []:=rfl
theorem q04(L:List ByteArray)(q:List DPut):S.doGo [] L q=((L,q),0):=rfl
theorem q7c{s p:ByteArray}{n:Nat}(hs:s.size=64)(hp:p.size=64)(hn:n<=64):(S.tear s p n).size=64:=by
 unfold S.tear;rw[qa1,jah,jba,jax,qce,qce];omega
theorem zvs(s p:ByteArray)(n:Nat):rng ((qab p).take n++(qab s).drop n):=qf2 (qee (qda p) n) (qcu (qda s) n)
theorem qhx{n:Nat}(h2:n % 2=0)(h8:8<=n){h:Int}(hh:h=0\/h=1):∃a:Nat,S.half n h=((a:Int),((a+(n / 2-1):Nat):Int))/\1<=a/\a+(n / 2-1)<n/\(h=0->a=1)/\(h=1->a=n / 2):=by
 rcases hh with rfl|rfl
 ·refine⟨1,?_,by omega,by omega,fun _=>rfl,fun h=>(by cases h)⟩;unfold S.half;rw[jao rfl];exact Prod.ext rfl (by show ((n / 2:Nat):Int)=((1+(n / 2-1):Nat):Int);omega)
 ·refine⟨n / 2,?_,by omega,by omega,fun h=>(by cases h),fun _=>rfl⟩;unfold S.half;rw[jan (by decide)];exact Prod.ext rfl (by show (n:Int)-1=((n / 2+(n / 2-1):Nat):Int);omega)
structure Dk (L:List ByteArray):Prop where
 sz:szS L
 ge:8<=L.length
 le:L.length<=1000
 ev:L.length % 2=0
theorem Dk.check{L:List ByteArray}(h:Dk L):S.checkDisk (L,[])=0:=by
 unfold S.checkDisk;have h1:=h.ge;have h2:=h.le;have h3:L.any S.short=false:=by
  rw[jca];intro e;obtain⟨s,hs,e⟩:=jd5.1 e;unfold S.short at e;rw[jaj (h.sz s hs)] at e;cases e
 rw[jan (show ¬(1000<L.length\/4000<([]:List DPut).length) by simp;omega),jan];have:=h.ev;rintro(e|e|e|e)
 ·exact absurd e (show ¬L.length<8 by omega)
 ·exact e this
 ·cases e
 ·rw[show ((L,([]:List DPut)).1).any S.short=L.any S.short from rfl,h3] at e;cases e
def topB(h:Int):List Int:=h::List.replicate 63 0
structure Jn (L:List ByteArray) (h:Int) (a u:Nat) (c:List qaa):Prop where
 dk:Dk L
 hh:h=0\/h=1
 top:qab (L.getD 0 S.none_)=topB h
 fr:S.half L.length h=((a:Int),((a+(L.length / 2-1):Nat):Int))
 a1:1<=a
 to_:a+(L.length / 2-1)<L.length
 rc:∃f,S.recs f ((L.drop a).take (L.length / 2-1)) [] 0=some (c,u)
 u1:1<=u
theorem q09{L:List ByteArray}{h:Int}{a K:Nat}(hf:S.half L.length h=((a:Int),((a+K:Nat):Int))):S.halfS L h=(L.drop a).take K:=by
 unfold S.halfS;rw[hf];simp only[jch];rw[jd8,ja5]
theorem Jn.open_{L:List ByteArray}{h:Int}{a u:Nat}{c:List qaa}(j:Jn L h a u c):S.opened L=some (h,u,c):=by
 obtain⟨f,hf⟩:=j.rc;have h0:(qab (L.getD 0 S.none_)).getD 0 0=h:=by rw[j.top];rfl
 have hd:(qab (L.getD 0 S.none_)).drop 1=List.replicate 63 0:=by rw[j.top];rfl
 unfold S.opened;rw[h0,hd,jan (show ¬(1<h\/¬List.replicate 63 (0:Int)=List.replicate 63 0) from fun e=>by rcases e with e|e;(rcases j.hh with rfl|rfl<;>omega);exact e rfl),q09 j.fr];rw[q3n f ((j.dk.sz.drop a).take _) hf (L.length+1) (by rw[jba,jax];omega)];have:=j.u1;simp only;rw[jan (by omega)]
theorem zh3{L:List ByteArray}(d:Dk L){h:Int}{u:Nat}{c:List qaa}(ho:S.opened L=some (h,u,c)):∃a,Jn L h a u c:=by
 unfold S.opened at ho;split at ho
 ·cases ho
 rename_i hn;have hz:(L.getD 0 S.none_).size=64:=by
  have:=d.ge;rw[jai,jac (by omega)];exact d.sz _ (jbk _)
 have hb:(qab (L.getD 0 S.none_)).length=64:=by rw[qce,hz]
 have h0:=qro (qda (L.getD 0 S.none_)) 0;have ht:qab (L.getD 0 S.none_)=topB ((qab (L.getD 0 S.none_)).getD 0 0):=by
  cases hl:qab (L.getD 0 S.none_) with
  | nil=>rw[hl] at hb;cases hb
  | cons x r =>
   have:r=List.replicate 63 0:=by
    refine jco fun e=>hn (.inr ?_);rw[hl];exact e
   rw[this];rfl
 split at ho
 ·rename_i c' u' hr;split at ho
  ·cases ho
  rename_i hu;cases ho;have hh:(qab (L.getD 0 S.none_)).getD 0 0=0\/(qab (L.getD 0 S.none_)).getD 0 0=1:=by omega
  obtain⟨a,e1,e2,e3,_,_⟩:=qhx d.ev d.ge hh;exact⟨a,d,hh,ht,e1,e2,e3,⟨_,by rw[<- q09 e1];exact hr⟩,by omega⟩
 ·cases ho
theorem Jn.kept{L L':List ByteArray}{h:Int}{a u:Nat}{c:List qaa}(j:Jn L h a u c)(d:Dk L')(hl:L'.length=L.length)(ht:L'.take (a+u)=L.take (a+u))(hu:u<=L.length / 2-1){c':List qaa}{v f:Nat}(hv:1<=v)
  (hr:S.recs f ((L'.drop (a+u)).take (L.length / 2-1-u)) c u=some (c',v)):Jn L' h a v c':=by
 obtain⟨f0,h0⟩:=j.rc;obtain⟨k1,k2,k3,k4,k5⟩:=qxg f0 ((j.dk.sz.drop a).take _) h0;rw[jdi] at k2 k3 k5;have hto:=j.to_;have ha1:=j.a1;have h2:((L'.drop a).take (L.length / 2-1)).take u=((L.drop a).take (L.length / 2-1)).take u:=by
  rw[jdw,jdw,jb1 hu];have:=jav (List.drop a) ht
  rwa [jd8,jd8,ja5] at this
 obtain⟨f3,h3⟩:=k5 ((L'.drop a).take (L.length / 2-1)) ((d.sz.drop a).take _) h2 f (c',v) (by
  rw[jd8,jcv];exact hr)
 refine⟨d,j.hh,?_,by rw[hl];exact j.fr,j.a1,by rw[hl];exact j.to_,⟨f3,by rw[hl];exact h3⟩,hv⟩;rw[quc ht (by omega)];exact j.top
theorem Jn.le{L:List ByteArray}{h:Int}{a u:Nat}{c:List qaa}(j:Jn L h a u c):u<=L.length / 2-1/\okS c (-1)/\(u=L.length / 2-1\/(qab (L.getD (a+u) S.none_)).getD 0 0=0):=by
 obtain⟨f0,h0⟩:=j.rc;obtain⟨k1,k2,k3,k4,k5⟩:=qxg f0 ((j.dk.sz.drop a).take _) h0;have hto:=j.to_;have hl:((L.drop a).take (L.length / 2-1)).length=L.length / 2-1:=by rw[jba,jax];omega
 rw[jdi,hl] at k2 k3;refine⟨k2,k4 ⟨rfl,fun x hx=>by cases hx⟩,?_⟩;rcases k3 with k3|k3
 ·exact .inl k3.symm
 ·by_cases e:u=L.length / 2-1
  ·exact .inl e
  ·refine .inr ?_;rw[q41 _ _ (by omega),qx0] at k3;exact k3
theorem Jn.more{L L':List ByteArray}{h:Int}{a u:Nat}{c:List qaa}(j:Jn L h a u c)(d:Dk L')(hl:L'.length=L.length)(ht:L'.take (a+u)=L.take (a+u)){l:List qaa}(hc:S.okC l=true)(hb:(S.body l).length<16777216)
  (hn:u+(S.packed l 1).length<=L.length / 2-1) {rest:List ByteArray} (hr:L'.drop (a+u)=S.packed l 1++rest) (h0:u+(S.packed l 1).length=L.length / 2-1\/(qab (rest.getD 0 S.none_)).getD 0 0=0):Jn L' h a (u+(S.packed l 1).length) (S.changed c l):=by
 have hu:=j.u1;refine j.kept d hl ht (by omega) (f:=2) (by omega) ?_;rw[hr,List.take_append,jbm (by omega),q7r 1 l _ c u hc hb,show decide (u=0)=false from jal (by omega),jcb,jad];cases hz:rest.take (L.length / 2-1-u-(S.packed l 1).length) with
 | nil=>rfl
 | cons s r =>
  rw[qfc];rcases h0 with h0|h0
  ·rw[show L.length / 2-1-u-(S.packed l 1).length=0 by omega,je2] at hz;cases hz
  ·have:s=rest.getD 0 S.none_:=by
    cases rest with
    | nil=>rw[List.take_nil] at hz;cases hz
    | cons s' r' =>
     cases hk:L.length / 2-1-u-(S.packed l 1).length with
     | zero=>rw[hk] at hz;cases hz
     | succ k=>rw[hk,List.take_succ_cons] at hz;cases hz;rfl
   rw[this,jao h0]
theorem Jn.same{L L':List ByteArray}{h:Int}{a u:Nat}{c:List qaa}(j:Jn L h a u c)(d:Dk L')(hl:L'.length=L.length)(ht:L'.take (a+u)=L.take (a+u))(h0:u=L.length / 2-1\/(qab (L'.getD (a+u) S.none_)).getD 0 0=0):Jn L' h a u c:=by
 have hu:=j.le.1;have hto:=j.to_;refine j.kept d hl ht hu (f:=1) j.u1 ?_;rcases h0 with h0|h0
 ·rw[show L.length / 2-1-u=0 by omega,je2];rfl
 ·cases hz:(L'.drop (a+u)).take (L.length / 2-1-u) with
  | nil=>rfl
  | cons s r =>
   have:s=L'.getD (a+u) S.none_:=by
    have:=jav (fun x:List ByteArray=>x[0]?) hz;simp only[ja3,jbz,jb7,jaq] at this;split at this
    ·rw[jai,this];rfl
    ·cases this
   rw[qfc,this,jao h0]
structure OkD (l:List ByteArray) (q:List DPut):Prop where
 sz:szS l
 le:l.length<=1000
 fit:S.fitP l q=true
 many:q.length<=4000
theorem qxc{l:List ByteArray}:S.anyShort l=false↔szS l:=by
 unfold S.anyShort S.short szS;rw[jca];constructor
 ·intro h s hs;refine jco fun e=>h (jd5.2 ⟨s,hs,by rw[jal e];rfl⟩)
 ·intro h e;obtain⟨s,hs,e⟩:=jd5.1 e;rw[jaj (h s hs)] at e;cases e
theorem qfy{l:List ByteArray}{q:List DPut}:S.fitP l q=true↔∀p∈q,p.2.size=64/\0<=p.1/\p.1<l.length:=by
 unfold S.fitP;rw[jbj];constructor
 ·intro h p hp;have:=h p hp;rw[jb4] at this;exact qtz.1 this
 ·intro h p hp;rw[jb4];exact qtz.2 (h p hp)
theorem qhu{d:qac}(h:S.checkDisk d=0):OkD d.1 d.2/\8<=d.1.length/\d.1.length % 2=0:=by
 unfold S.checkDisk at h;split at h
 ·cases h
 rename_i h1;split at h
 ·cases h
 rename_i h2;have h3:d.1.any S.short=false:=by rw[jca];exact fun e=>h2 (.inr (.inr (.inr e)))
 have h4:d.2.any (S.badPut d.1.length)=false:=by rw[jca];exact fun e=>h2 (.inr (.inr (.inl e)))
 refine⟨⟨qxc.1 h3,by omega,?_,by omega⟩,by omega,jco fun e=>h2 (.inr (.inl e))⟩;unfold S.fitP;rw[jbj];intro p hp;rw[jb4,jca];intro e;rw[jc5] at h4;exact h4 p hp e
theorem q5z:∀(q:List DPut) {l:List ByteArray},S.fitP l q=true->szS l->(S.settled l q).length=l.length/\szS (S.settled l q)
 | [],l,_,h=>⟨rfl,h⟩
 | p::q,l,hf,h=>by
  have hf:=qfy.1 hf;have hp:=hf p (by simp);obtain⟨i1,i2⟩:=q5z q (l:=l.set p.1.toNat p.2) (qfy.2 fun x hx=>by rw[jcq];exact hf x (by simp[hx])) fun s hs=>by
   rcases List.mem_or_eq_of_mem_set hs with hs|rfl
   ·exact h s hs
   ·exact hp.1
  exact⟨i1.trans (jcq ..),i2⟩
theorem OkD.sync{l:List ByteArray}{q:List DPut}(h:OkD l q):OkD (S.settled l q) []:=by
 obtain⟨h1,h2⟩:=q5z q h.fit h.sz;exact⟨h2,by rw[h1];exact h.le,rfl,jcd _⟩
theorem OkD.put{l:List ByteArray}{q:List DPut}{p:DPut}(h:OkD l q)(hp:S.badPut l.length p=false)(hq:¬q.length=4000):OkD l (q++[p]):=by
 refine⟨h.sz,h.le,qfy.2 fun x hx=>?_,?_⟩
 ·rcases jbv.1 hx with hx|hx
  ·exact qfy.1 h.fit x hx
  ·rw[jcj.1 hx];exact qtz.1 hp
 ·have:=h.many;rw[jah];simp only[jar,ja0];omega
theorem qtl{s:ByteArray}:s.size=0↔s=S.lit []:=⟨fun h=>qej (by
  have h1:=qce s;rw[h] at h1;rw[ja4.1 h1];rfl),fun h=>by rw[h];rfl⟩
theorem z1h(v:DAct):(Bool.and (keqI v.2.1 (Int.ofNat 0)) (Bool.and (keqS v.2.2 (S.lit [])) true))=decide (v.2.1=0/\v.2.2.size=0):=by
 have e1:keqI v.2.1 (Int.ofNat 0)=decide (v.2.1=0):=rfl;have e2:keqS v.2.2 (S.lit [])=decide (v.2.2.size=0):=by
  show decide (v.2.2=S.lit [])=_;exact jdh.2 qtl.symm
 rw[e1,e2,jfq,Bool.decide_and]
theorem q1s(a:DAct)(r:List DAct)(l:List ByteArray)(q:List DPut):S.doGo (a::r) l q=cond a.1 (if a.2.1=0/\a.2.2.size=0 then S.doGo r (S.settled l q) [] else (([],[]),1))
  (cond (S.badPut l.length a.2) (([],[]),1) (if q.length=4000 then (([],[]),3) else S.doGo r l (q++[a.2]))):=rfl
theorem zr0(d:qac)(l:List DAct)(hl:l.length<LF):Fz11 LF d l=some ((S.doD d l).1,(S.doD d l).2,()):=by
 simp only[Fz11,q0t];show cond (!ieqI (S.checkDisk d) (Int.ofNat 0)) _ _=_;unfold S.doD;by_cases h0:S.checkDisk d=0
 ·rw[qbe (show _=Int.ofNat 0 from h0),jaw,jad,jao h0];refine range0 (σ:=List DPut × List ByteArray) (R:=qc8) l (fun i s=>(i,s.1,s.2)) (fun _ s=>OkD s.2 s.1) (fun rest _ s=>some ((S.doGo rest s.2 s.1).1,(S.doGo rest s.2 s.1).2,())) hl (fun K s _=>?_) (fun K i v rest s hs r h=>?_) (d.2,d.1) (qhu h0).1
  ·simp only[qpk,qbt,jad];rfl
  ·obtain⟨q,t⟩:=s;simp only at hs h;have hle:=hs.le;have hm:=hs.many;have r1:Nat.ble (Nat.mul (Nat.add q.length 1) 24) 140737488355328=true:=jau (by show (q.length+1)*24<=_;omega);have hw:=qrg (n:=t.length) (by unfold LF;omega);have hb:∀p:DPut,S.badPut t.length p=(S.short p.2||!S.inI p.1 (Int.ofNat 0) ((t.length:Int)-1)):=fun _=>rfl;simp only[qpk,r.ilt,r.get,r.next,jaa,hw,r1,hs.fit,z1h];rw[q1s];obtain⟨sy,p1,p2⟩:=v;simp only;rw[hb];cases sy with
   | true =>
    simp only[jaa,jad,jaw];by_cases hz:p1=0/\p2.size=0
    ·rw[jaj hz,jao hz];exact h ([],S.settled t q) hs.sync
    ·rw[jal hz,jan hz];rfl
   | false =>
    simp only[jaa,jad,jat];cases hsh:S.short p2 with
    | true=>rfl
    | false =>
     cases hin:S.inI p1 (Int.ofNat 0) ((t.length:Int)-1) with
     | false=>rfl
     | true =>
      simp only[jaa,jad,jaw,Bool.or_false];by_cases h4:q.length=4000
      ·rw[qbe (show Int.ofNat q.length=Int.ofNat 4000 from jav Int.ofNat h4),jaa,jao h4];rfl
      ·rw[qbb (show ¬Int.ofNat q.length=Int.ofNat 4000 from fun e=>h4 (jdg e)),jad,jan h4];exact h (q++[(p1,p2)],t) (hs.put (by rw[hb,hsh,hin];rfl) h4)
 ·rw[qbb (show ¬_=Int.ofNat 0 from h0),jat,jaa,jan h0]
theorem quv:Con Tryz.prog zro qvu:=zle ⟨qm8,qh3,zco,zxc,qry,zhz,trivial⟩ fun x y hx h=>⟨LF,(zr0 x.1 x.2.1 (qb1 (c:=cAct) hx.2.1)).trans h⟩
theorem zrg(s p:ByteArray)(n:Nat):ByteArray.append (ByteArray.extract p 0 n) (ByteArray.extract s n s.size)=S.tear s p n:=by
 unfold S.tear;refine qej ?_;rw[qbi (zvs s p n)];show qab (p.extract 0 n++s.extract n s.size)=_;rw[zkd,q6k,q4a s n s.size (jas _)]
theorem qus(p:DPut)(q:List DPut)(n:Int)(r:List Int)(l:List ByteArray):S.crashGo (p::q) (n::r) l=S.crashGo q r (l.set p.1.toNat (S.tear (l.getD p.1.toNat S.none_) p.2 n.toNat)):=rfl
theorem qxe{l:List ByteArray}(h:szS l){i:Nat}{s:ByteArray}(hs:s.size=64):szS (l.set i s):=fun t ht=>by
 rcases List.mem_or_eq_of_mem_set ht with ht|rfl
 ·exact h t ht
 ·exact hs
theorem zb0{s p:ByteArray}{n:Int}(hs:s.size=64)(hp:p.size=64)(h0:0<=n)(h1:n<=64) :
  lchk (Int.ofNat 0) n (Int.ofNat p.size) (Int.ofNat p.size)=true/\lchk n (Int.ofNat s.size) (Int.ofNat s.size) (Int.ofNat s.size)=true /\
  Nat.ble (Nat.succ (Nat.add (ByteArray.size (ByteArray.extract p 0 (Int.toNat n))) (ByteArray.size (ByteArray.extract s (Int.toNat n) (Int.toNat (Int.ofNat s.size)))))) 9223372036854775808=true /\
  ByteArray.append (ByteArray.extract p 0 (Int.toNat n)) (ByteArray.extract s (Int.toNat n) (Int.toNat (Int.ofNat s.size)))=S.tear s p n.toNat:=by
 rw[hs,hp];refine⟨qbv.2 ⟨jbq _,h0,h1,jbq _⟩,qbv.2 ⟨h0,h1,jbq _,jbq _⟩,jau ?_,?_⟩
 ·rw[jey,jey];show _+_+1<=_;omega
 ·have:=zrg s p n.toNat;rw[hs] at this;exact this
theorem z0w(d:qac)(l:List Int)(hl:l.length<LF):Fz12 LF d l=some ((S.crash d l).1,(S.crash d l).2,()):=by
 have e1:idxO (fun v0:Int=>(some (!(S.inI v0 (Int.ofNat 0) (Int.ofNat 64))))) l 0=some (Go.Jx.S.idx (fun n=>!S.inI n 0 64) l):=qpw _ fun x _=>rfl;simp only[Fz12,qv4,qa4];show cond (!ieqI (S.checkDisk d) (Int.ofNat 0)) _ _=_;unfold S.crash;by_cases h0:S.checkDisk d=0
 ·rw[qbe (show _=Int.ofNat 0 from h0),jaw,jad,jao h0];by_cases h1:d.2.length<l.length
  ·rw[jaj h1,jaa,jao (.inl h1)];rfl
  rw[jal h1,jad,e1];simp only[qr9];cases h2:l.any (fun n=>!S.inI n 0 64) with
  | true=>rw[jaa,jao (.inr rfl)];rfl
  | false =>
  rw[jad,jan (by simp[h1])];have hk:∀n∈l,0<=n/\n<=64:=fun n hn=>by
   rw[jc5] at h2;have:=h2 n hn;rw[Bool.not_eq_true,jet] at this;exact qay.1 this
  have hf:=qfy.1 (qhu h0).1.fit;refine(range0 (σ:=List ByteArray) (R:=qc1) l (fun i s=>(i,s)) (fun _ s=>szS s/\s.length=d.1.length) (fun rest i s=>some ((S.crashGo (d.2.drop i) rest s,[]),0,())) hl (fun K s _=>?_) (fun K i v rest s hs r h=>?_) d.1 ⟨(qhu h0).1.sz,rfl⟩).trans ?_
  ·simp only[qtd,qbt,jad];have:S.crashGo (d.2.drop l.length) [] s=s:=by cases d.2.drop l.length<;>rfl
   rw[this];rfl
  ·have hi:=r.lt;have hip:i<d.2.length:=by omega
   have hg:d.2[i]?=some d.2[i]:=jac hip;obtain⟨z1,z2,z3⟩:=hf d.2[i] (jbk hip);have hd:d.2.drop i=d.2[i]::d.2.drop (i+1):=jby hip;obtain⟨x,y1,y2,y3⟩:=qpc (l:=s) z2 (by rw[hs.2];exact z3);have hx:=hs.1 x y3;obtain⟨v0,v1⟩:=hk v r.mem;obtain⟨w1,w2,w3,w4⟩:=zb0 hx z1 v0 v1;simp only[qtd,r.ilt,r.get,r.next,jaa,qbp,hg,y1,y2,w1,w2,w3,w4];rw[hd,qus,jai,y2];exact h _ ⟨qxe hs.1 (q7c hx z1 (by omega)),by rw[jcq];exact hs.2⟩
  ·rfl
 ·rw[qbb (show ¬_=Int.ofNat 0 from h0),jat,jaa,jan h0]
theorem zo6:Con Tryz.prog zi9 zuy:=zpj ⟨qm8,qh3,qry,trivial⟩ fun x y hx h=>⟨LF,(z0w x.1 x.2.1 (qb1 (c:=.int .i64) hx.2.1)).trans h⟩
theorem zqt(n:Int)(h1:S.inI n 0 4000=true):Fz14 LF n=some (List.replicate n.toNat (64:Int),()):=by
 obtain⟨h2,h3⟩:=qay.1 h1;obtain⟨k,rfl⟩:∃k:Nat,n=Int.ofNat k:=⟨n.toNat,by show n=((n.toNat:Nat):Int);omega⟩;have hk:k<=4000:=by have:(k:Int)<=4000:=h3;omega
 refine zgf (σ:=List Int) (R:=qcy) k (fun i q=>(i,q)) (fun i q=>q=List.replicate i (64:Int)) (fun _ _=>some (List.replicate k (64:Int),())) (by unfold LF;omega) (fun K q hq=>?_) (fun K i q hq hi hw hk=>?_) [] rfl
 ·simp only[qoz,qbt,jad];rw[hq]
 ·simp only[qoz];rw[qdj (show Int.ofNat i<Int.ofNat k by show (i:Int)<(k:Int);omega),jaa];rw[hq,jau (by show ((List.replicate i (64:Int)).length+1)*8<=_;rw[ja9];omega),jaa,hw];exact hk _ (by show List.replicate i (64:Int)++[64]=_;rw[List.replicate_succ'])
theorem zoz:Con Tryz.prog zxy q7y:=zog trivial fun x y hx h=>⟨LF,by
 obtain⟨h1,h2⟩:=qa5 (show cond (S.inI x.1 0 4000) (some (List.replicate (Int.toNat x.1) (64:Int),())) none=some y from h);exact(zqt x.1 h1).trans (jav some h2)⟩
theorem q70{q:List DPut}{m:List Int}:S.fitN q m=true↔m.length=q.length/\∀n∈m,0<=n/\n<=64:=by
 unfold S.fitN;rw[jae,jdn,jbj];exact and_congr_right fun _=>⟨fun h n hn=>qay.1 (h n hn),fun h n hn=>qay.2 (h n hn)⟩
theorem zqm(l:List ByteArray)(q:List DPut)(m:List Int)(hf:S.fitP l q=true)(hs:szS l)(hn:S.fitN q m=true)(hl:l.length<=1000)(hq:q.length<LF):Fz13 LF l q m=some (S.crashGo q m l,()):=by
 have hf:=qfy.1 hf;obtain⟨hn1,hn2⟩:=q70.1 hn;simp only[Fz13,qyw];rw[jau (by show (0+l.length)*16<=_;omega),jaa];refine(range0 (σ:=List ByteArray) (R:=qcx) q (fun i s=>(i,s)) (fun _ s=>szS s/\s.length=l.length) (fun rest i s=>some (S.crashGo rest (m.drop i) s,())) hq (fun K s _=>?_) (fun K i v rest s hs r h=>?_) l ⟨hs,rfl⟩).trans ?_
 ·simp only[qn4,qbt,jad];rfl
 ·have hi:=r.lt;have him:i<m.length:=by omega
  have hg:m[i]?=some m[i]:=jac him;obtain⟨v0,v1⟩:=hn2 m[i] (jbk him);have hd:m.drop i=m[i]::m.drop (i+1):=jby him;obtain⟨z1,z2,z3⟩:=hf v r.mem;obtain⟨x,y1,y2,y3⟩:=qpc (l:=s) z2 (by rw[hs.2];exact z3);have hx:=hs.1 x y3;obtain⟨w1,w2,w3,w4⟩:=zb0 hx z1 v0 v1;have hgm:jget m (Int.ofNat i)=some m[i]:=qbp.trans hg;simp only[qn4,r.ilt,r.get,r.next,jaa,hgm,y1,y2,w1,w2,w3,w4];rw[hd,qus,jai,y2];exact h _ ⟨qxe hs.1 (q7c hx z1 (by omega)),by rw[jcq];exact hs.2⟩
 ·rfl
theorem zu4:Con Tryz.prog z06 q1v:=zpc trivial fun x y hx h=>⟨LF,by
 obtain⟨h1,h2⟩:=qa5 (show cond (S.fitP x.1 x.2.1&&(!S.anyShort x.1&&(S.fitN x.2.1 x.2.2.1&&Nat.ble x.1.length 1000))) (some (S.crashGo x.2.1 x.2.2.1 x.1,())) none=some y from h);simp only[jae,jb4] at h1;exact(zqm x.1 x.2.1 x.2.2.1 h1.1 (qxc.1 h1.2.1) h1.2.2.1 (jam h1.2.2.2) (qb1 (c:=cPut) hx.2.1)).trans (jav some h2)⟩
theorem zjx{s p:ByteArray}(hs:s.size=64)(hp:p.size=64):S.tear s p 64=p:=by
 unfold S.tear;rw[jbm (by rw[qce];omega),jbn (by rw[qce];omega),jbo,qfd]
theorem q58:∀(q:List DPut) {l:List ByteArray},S.fitP l q=true->szS l->S.crashGo q (List.replicate q.length (64:Int)) l=S.settled l q
 | [],l,_,_=>rfl
 | p::q,l,hf,h=>by
  have hf:=qfy.1 hf;obtain⟨z1,z2,z3⟩:=hf p (by simp);rw[jar,jfd,qus];have hx:(l.getD p.1.toNat S.none_).size=64:=by
   rw[jai,jac (by omega)];exact h _ (jbk _)
  rw[show ((64:Int)).toNat=64 from rfl,zjx hx z1];exact q58 q (qfy.2 fun x hx=>by rw[jcq];exact hf x (by simp[hx])) (qxe h z1)
theorem z0c(d:qac)(l:List DAct)(hl:l.length<LF):Fz15 LF d l=some (S.doD d l,()):=by
 simp only[Fz15,qzh];show cond (!ieqI (S.checkDisk d) (Int.ofNat 0)) _ _=_;unfold S.doD;by_cases h0:S.checkDisk d=0
 ·rw[qbe (show _=Int.ofNat 0 from h0),jaw,jad,jao h0];have hc:=(qhu h0).1;have:=hc.le;have:=hc.many;rw[jau (by show (0+d.1.length)*16<=_;omega),jaa,jau (by show (0+d.2.length)*24<=_;omega),jaa];refine range0 (σ:=List DPut × List ByteArray) (R:=qc7) l (fun i s=>(i,s.1,s.2)) (fun _ s=>OkD s.2 s.1) (fun rest _ s=>some (S.doGo rest s.2 s.1,())) hl (fun K s _=>?_) (fun K i v rest s hs r h=>?_) (d.2,d.1) hc
  ·simp only[qsg,qbt,jad];rfl
  ·obtain⟨q,t⟩:=s;simp only at hs h;have hle:=hs.le;have hm:=hs.many;have r1:Nat.ble (Nat.mul (Nat.add q.length 1) 24) 140737488355328=true:=jau (by show (q.length+1)*24<=_;omega);have hw:=qrg (n:=t.length) (by unfold LF;omega);have hb:∀p:DPut,S.badPut t.length p=(S.short p.2||!S.inI p.1 (Int.ofNat 0) ((t.length:Int)-1)):=fun _=>rfl;have hin4:S.inI (Int.ofNat q.length) (Int.ofNat 0) (Int.ofNat 4000)=true:=qay.2 ⟨jbe _,by show (q.length:Int)<=4000;omega⟩;have hfn:S.fitN q (List.replicate q.length (Int.ofNat 64))=true:=q70.2 ⟨ja9,fun n hn=>by rw[(jeu.1 hn).2];decide⟩;have hca:S.crashGo q (List.replicate q.length (Int.ofNat 64)) t=S.settled t q:=q58 q hs.fit hs.sz;have htn:Int.toNat (Int.ofNat q.length)=q.length:=rfl;simp only[qsg,r.ilt,r.get,r.next,jaa,hw,r1,hin4,htn,hs.fit,qxc.2 hs.sz,hfn,jau hle,hca,jat,jfq,<- qta];rw[q1s];obtain⟨sy,p1,p2⟩:=v;simp only;rw[hb];cases sy with
   | true =>
    simp only[jaa];by_cases hz1:p1=0
    ·rw[qbe (show p1=Int.ofNat 0 from hz1),jaw,jad];by_cases hz2:p2.size=0
     ·rw[show keqS p2 (S.lit [])=true from jaj (qtl.1 hz2),jaw,jad,jao ⟨hz1,hz2⟩];exact h ([],S.settled t q) hs.sync
     ·rw[show keqS p2 (S.lit [])=false from jal (fun e=>hz2 (qtl.2 e)),jat,jaa,jan (fun e=>hz2 e.2)];rfl
    ·rw[qbb (show ¬p1=Int.ofNat 0 from hz1),jat,jaa,jan (fun e=>hz1 e.1)];rfl
   | false =>
    simp only[jad];cases hin:S.inI p1 (Int.ofNat 0) ((t.length:Int)-1) with
    | false=>rw[jat,jaa,Bool.or_true];rfl
    | true =>
     simp only[jaa,jad,jaw,Bool.or_false];cases hsh:S.short p2 with
     | true=>rfl
     | false =>
      rw[jad,jad];by_cases h4:q.length=4000
      ·rw[qbe (show Int.ofNat q.length=Int.ofNat 4000 from jav Int.ofNat h4),jaa,jao h4];rfl
      ·rw[qbb (show ¬Int.ofNat q.length=Int.ofNat 4000 from fun e=>h4 (jdg e)),jad,jan h4];exact h (q++[(p1,p2)],t) (hs.put (by rw[hb,hsh,hin];rfl) h4)
 ·rw[qbb (show ¬_=Int.ofNat 0 from h0),jat,jaa,jan h0]
theorem zne:Con Tryz.prog zi2 zbm:=z1p ⟨q45,qqk,zu4,zoz,trivial⟩ fun x y hx h=>⟨LF,(z0c x.1 x.2.1 (qb1 (c:=cAct) hx.2.1)).trans h⟩
end Go.Proofs.YtnhmanoiolfapaaGreat
end
