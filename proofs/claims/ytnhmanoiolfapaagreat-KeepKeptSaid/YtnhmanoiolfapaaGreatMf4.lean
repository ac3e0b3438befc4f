/- Texts: Jcd, Jce, Jcf, Kss, Kst, Ksu, Ksv, Ksl, Klb, Jhx, Kgc, Jcg, Jch, Jci, Jcj, Jck, Jcp, Jcm, Kg7, Kg4, Kg2, Kg1, Kg0, Jcl, Kp0, Kp1, Kw1, Kw2, Kw3, Kp2, Kg3, Kp3, Kp4, Xhs, Xhg, Kg8, Kg6, Kg5, Kp6, Kp5, Kp7, Kp8, Kp9. -/
import Derived.Test.YtnhmanoiolfapaaGreatMf3
set_option linter.unusedVariables false
section
namespace Go.Jx
open Go Go.Sx Go.RowKit
universe u

def exRK{R:Type}(s:SmR)(vs:List IV)(S:IS)(kk:Res->Option R):Option R :=
 match rdP s.ps S vs with
 | none=>none
 | some (x0,rows,subs,S1,w)=>cond (ndB (rows++subs)) (match fiP s.ps rows subs S1 x0 with
  | none=>none
  | some x=>match s.f x with
   | none=>none
   | some (y,z)=>kk ⟨vB s S1.next y,qbw s S1.next rows subs y z S1,0,(w ||| qbs (rows++subs)) ||| cond (Nat.blt 0 rows.length) 0 (2 ^ S1.next)⟩) none
theorem zoi{R:Type}(s:SmR)(vs:List IV)(S:IS)(kk:Res->Option R):exRK s vs S kk=ob (exR s vs S) kk:=by
 simp only[exRK,exR];cases rdP s.ps S vs with
 | none=>rfl
 | some q =>
  obtain⟨x0,rows,subs,S1,w⟩:=q;simp only[qbd];cases fiP s.ps rows subs S1 x0 with
  | none=>rfl
  | some x =>
   simp only;cases s.f x with
   | none=>rfl
   | some q=>rfl
def hxR(s:SmR):Hx:=⟨fun _ vs S=>exR s vs S,fun _ _ vs S kk=>exRK s vs S kk,fun _ _ _ _ vs S kk=>zoi s vs S kk⟩
theorem zmm{S S':IS}:∀(c:CT) {cs:List IV} {x:ElC c} {ids:List Nat} {r:List IV} {w:Nat},rdC c S cs=some (x,ids,r,S',w)->FrX S S' w
 | .dat c,cs,x,ids,r,w,h=>by
  simp only[rdC] at h;split at h<;>cases h;rename_i h1;obtain⟨a1,a2⟩:=qes c _ _ _ _ _ _ h1;exact⟨jdl a1.symm,fun id _ hb=>a2 id hb⟩
 | .arr c,cs,x,ids,r,w,h=>by
  cases cs with
  | nil=>cases h
  | cons v cs =>
  simp only[rdC] at h;split at h<;>cases h;rename_i h1;exact qqf h1
 | .map k v,cs,x,ids,r,w,h=>by
  cases cs with
  | nil=>cases h
  | cons u cs =>
  cases u<;>try (cases h;done)
  simp only[rdC] at h;split at h<;>cases h;rename_i h1;exact qq2 h1
 | .fn f,cs,x,ids,r,w,h=>by
  simp only[rdC] at h;split at h<;>try cases h
  rename_i g cs;cases hb:Nat.beq g f with
  | false=>rw[hb] at h;cases h
  | true =>
  rw[hb] at h;cases h;exact FrX.refl _ _
theorem q10:∀(c:List CT) {S S':IS} {cs:List IV} {x:qb8 c} {ids:List Nat} {r:List IV} {w:Nat},rdR c S cs=some (x,ids,r,S',w)->FrX S S' w
 | [],S,S',cs,x,ids,r,w,h=>by cases h;exact FrX.refl _ _
 | c::l,S,S',cs,x,ids,r,w,h=>by
  simp only[rdR] at h;split at h
  ·cases h
  rename_i h1;split at h<;>cases h;rename_i h2;exact(zmm c h1).trans (q10 l h2)
theorem zag{S S':IS}{c:TC}{v:IV}{id w:Nat}(h:rdS c S v=some (id,S',w)):FrX S S' w:=by
 unfold rdS at h;split at h
 ·cases h;exact FrX.refl _ _
 ·split at h<;>cases h;rename_i h1;exact qqf h1
theorem zgt{kc vc:TC}{S S':IS}{v:IV}{id w:Nat}(h:rdM kc vc S v=some (id,S',w)):FrX S S' w:=by
 unfold rdM at h;split at h<;>try cases h
 split at h<;>cases h;rename_i h1;exact qq2 h1
theorem qex:∀(l:List PK) {S S':IS} {vs:List IV} {x:ElP l} {q1 q2:List Nat} {w:Nat},rdP l S vs=some (x,q1,q2,S',w)->FrX S S' w
 | [],S,S',vs,x,q1,q2,w,h=>by
  cases vs with
  | cons v vs=>cases h
  | nil=>cases h;exact FrX.refl _ _
 | .dat c::l,S,S',vs,x,q1,q2,w,h=>by
  cases vs with
  | nil=>cases h
  | cons v vs =>
  simp only[rdP] at h;cases hb:fitV c v with
  | false=>rw[hb] at h;cases h
  | true =>
  rw[hb,jaa] at h;split at h<;>try cases h
  rename_i h1;split at h<;>cases h;rename_i h2;obtain⟨a1,a2⟩:=qes c _ _ _ _ _ _ h1;exact FrX.trans ⟨jdl a1.symm,fun id _ hb=>a2 id hb⟩ (qex l h2)
 | .fn f::l,S,S',vs,x,q1,q2,w,h=>by
  simp only[rdP] at h;split at h<;>try cases h
  rename_i g vs;cases hb:Nat.beq g f with
  | false=>rw[hb] at h;cases h
  | true =>
  rw[hb] at h;have h:rdP l S vs=some (x,q1,q2,S',w):=h;exact qex l h
 | .ref (.sl c)::l,S,S',vs,x,q1,q2,w,h=>by
  cases vs with
  | nil=>cases h
  | cons v vs =>
  simp only[rdP] at h;split at h<;>try cases h
  rename_i h1;split at h<;>cases h;rename_i h2;exact(zag h1).trans (qex l h2)
 | .ref (.mp kc vc)::l,S,S',vs,x,q1,q2,w,h=>by
  cases vs with
  | nil=>cases h
  | cons v vs =>
  simp only[rdP] at h;split at h<;>try cases h
  rename_i h1;split at h<;>cases h;rename_i h2;exact(zgt h1).trans (qex l h2)
 | .ref (.box r)::l,S,S',vs,x,q1,q2,w,h=>by
  cases vs with
  | nil=>cases h
  | cons v vs =>
  cases v<;>try (cases h;done)
  rename_i id off;cases off with
  | succ _=>cases h
  | zero =>
  simp only[rdP] at h;split at h<;>try cases h
  split at h<;>try cases h
  rename_i h1;split at h<;>cases h;rename_i h2;have:=(FrX.refl S (2 ^ id)).trans ((q10 r h1).trans (qex l h2));exact this
theorem qrs:∀(l:List Nat) (S:IS),FrX S (qeg l S) (qbs l)
 | [],S=>FrX.refl _ _
 | id::l,S=>(FrX.set S id .dead).trans (qrs l _)
theorem qs7:∀(l:List Nat) (os:List IObj) (S:IS),FrX S (setL l os S) (qbs l)
 | [],os,S=>FrX.refl _ _
 | _::_,[],S=>FrX.refl _ _
 | id::l,o::os,S=>(FrX.set S id o).trans (qs7 l os _)
theorem qtg:∀(a b:List Nat),qbs (a++b)=qbs a ||| qbs b
 | [],b=>by simp[qbs]
 | x::a,b=>by simp only[jc4,qbs,qtg a,Nat.or_assoc]
theorem ze3{s:SmR}{vs:List IV}{S:IS}:FrO S (exR s vs S):=fun r h=>by
 unfold exR at h;split at h
 ·cases h
 rename_i x0 rows subs S1 w hrd;cases hb:ndB (rows++subs) with
 | false=>rw[hb] at h;cases h
 | true =>
 rw[hb,jaa] at h;split at h
 ·cases h
 split at h
 ·cases h
 rename_i y z hf;cases h;have h1:=qex _ hrd;have h2:=(qrs subs S1).trans ((qs7 rows (qar (refs s.ps) (fun k=>S1.next+(k-mP s.ps)) (mP s.ps) z) _).trans (qql (newO s y z) _ 0));have h3:=h1.trans h2;rw[jfr,Nat.or_comm (qbs subs),<- qtg] at h3;have h4:=h3.trans (FrX.refl _ (cond (Nat.blt 0 rows.length) 0 (2 ^ S1.next)));exact h4
theorem zi4{s:SmR}{vs:List IV}{S:IS}{r:Res}(h:exR s vs S=some r)(hw:r.wr=0):False:=by
 unfold exR at h;split at h
 ·cases h
 rename_i x0 rows subs S1 w hrd;cases hb:ndB (rows++subs) with
 | false=>rw[hb] at h;cases h
 | true =>
 rw[hb,jaa] at h;split at h
 ·cases h
 split at h
 ·cases h
 cases h;have h2:qbs (rows++subs)=0:=(or_zero (or_zero hw).1).2;cases rows with
 | nil =>
  have h3:2 ^ S1.next=0:=(or_zero hw).2
  have:=jfg (n:=S1.next);omega
 | cons id rows =>
  have:=qzg (l:=id::rows++subs) (id:=id) (by simp);rw[h2] at this;simp at this
theorem qfx{P:Program}{f:Nat}{s:SmR}(hc:ConR P f s):HxOK P f (hxR s).f :=
 ⟨fun cl _ _ _ vs S r h T E us p _ hw hv=>zmq hc h p hw hv,fun cl _ vs S=>ze3,fun cl _ vs S r h hw _=>(zi4 h hw).elim⟩

def ptrP:List PK->Nat->List IV
 | [],_=>[]
 | .dat _::l,k=>ptrP l k
 | .fn _::l,k=>ptrP l k
 | .ref r::l,k=>argK r k::ptrP l (k+1)
theorem qpl:∀(l:List PK) (k:Nat) (z:ElP (refs l)),qaq (refs l) idN k z=ptrP l k
 | [],_,_=>rfl
 | .dat _::l,k,z=>qpl l k z
 | .fn _::l,k,z=>qpl l k z
 | .ref r::l,k,z=>by
  show argK r (idN k)::qaq (refs l) idN (k+1) z.2=_;rw[qpl l];rfl
theorem qq9{E E':Env}:∀(l:List PK) {k:Nat} {us:List Value},(∀j,j<mP l->qcg E E' (k+j) (k+j))->VRs E (ptrP l k) us->VRs E' (ptrP l k) us
 | [],k,us,hn,h=>by have:=h.1;cases us with|nil=>exact VRs.nil|cons _ _=>simp [ptrP] at this
 | .dat _::l,k,us,hn,h=>qq9 l hn h
 | .fn _::l,k,us,hn,h=>qq9 l hn h
 | .ref r::l,k,us,hn,h=>by
  obtain⟨u,us,rfl,a1,a2⟩:=VRs.inv (v:=argK r k) (cs:=ptrP l (k+1)) h;refine VRs.cons (qx2 (hn 0 (by simp only[mP];omega)) a1) (qq9 l (fun j hj=>?_) a2);have:=hn (j+1) (by simp only[mP];omega)
  rwa [show k+(j+1)=k+1+j by omega] at this
theorem qgf:∀(l:List PK) {k:Nat} {S S':IS} {x:ElP (refs l)} {q1 q2:List Nat} {w:Nat},rdP (refs l) S (ptrP l k)=some (x,q1,q2,S',w)->∀j,j<mP l->q1[j]?=some (k+j)
 | [],k,S,S',x,q1,q2,w,h,j,hj=>by simp[mP] at hj
 | .dat _::l,k,S,S',x,q1,q2,w,h,j,hj=>qgf l h j hj
 | .fn _::l,k,S,S',x,q1,q2,w,h,j,hj=>qgf l h j hj
 | .ref (.sl c)::l,k,S,S',x,q1,q2,w,h,j,hj=>by
  simp only[refs,ptrP,argK,rdP,rdS] at h;split at h<;>cases h;rename_i h2;cases j with
  | zero=>rfl
  | succ j =>
   have:=qgf l h2 j (by simp only[mP] at hj;omega);rw[jaw,this];congr 1;omega
 | .ref (.mp kc vc)::l,k,S,S',x,q1,q2,w,h,j,hj=>by
  simp only[refs,ptrP,argK,rdP,rdM] at h;split at h<;>try cases h
  rename_i h1;split at h1<;>cases h1;split at h<;>cases h;rename_i h2;cases j with
  | zero=>rfl
  | succ j =>
   have:=qgf l h2 j (by simp only[mP] at hj;omega);rw[jaw,this];congr 1;omega
 | .ref (.box r)::l,k,S,S',x,q1,q2,w,h,j,hj=>by
  simp only[refs,ptrP,argK,rdP] at h;split at h<;>try cases h
  split at h<;>try cases h
  split at h<;>cases h;rename_i h2;cases j with
  | zero=>rfl
  | succ j =>
   have:=qgf l h2 j (by simp only[mP] at hj;omega);rw[jaw,this];congr 1;omega
def lowN:Nat->Nat->List Nat
 | 0,_=>[]
 | m+1,k=>k::lowN m (k+1)
theorem qzu:∀(m k:Nat),(lowN m k).length=m
 | 0,_=>rfl
 | m+1,k=>jav (·+1) (qzu m (k+1))
theorem q08:∀(m k j:Nat),j<m->(lowN m k)[j]?=some (k+j)
 | 0,k,j,h=>absurd h (Nat.not_lt_zero j)
 | m+1,k,0,h=>rfl
 | m+1,k,j+1,h=>by
  have:=q08 m (k+1) j (by omega);unfold lowN;rw[jaw,this];congr 1;omega
def runQ(s:SmR)(r:Res):Option (ElR s.rts × ElP (refs s.ps)) :=
 match qlg s.rts.length r.v with
 | none=>none
 | some vs=>match clR s.rts r.S vs with
  | none=>none
  | some (a,S2,_)=>match rdP (refs s.ps) S2 (ptrP s.ps 0) with
   | none=>none
   | some (b,_,subs,S3,_)=>cond (ndB (subs++idsQ s.rts a)&&(subs++idsQ s.rts a).all (Nat.ble (mP s.ps))) (match qc1 s.rts a S3 with
    | none=>none
    | some y=>match fiP (refs s.ps) (lowN (mP s.ps) 0) subs S3 b with
     | none=>none
     | some z=>some (y,z)) none
theorem qwl{E E':Env}(hm:∀b,b∈E'.m->b∈E.m)(hw:E'.w=E.w):∀(cs:List (Bool × TC)) {a:ElQ cs} {S:IS} {y:ElR cs} {k:Nat} {us:List Value},qc1 cs a S=some y->(∀(j id:Nat),(idsQ cs a)[j]?=some id->qcg E E' id (k+j))->VRs E (valQ cs a) us->VRs E' (resV cs k y) us
 | [],a,S,y,k,us,h,hn,hv=>by have:=hv.1;cases us with|nil=>exact VRs.nil|cons _ _=>simp [valQ] at this
 | (true,c)::cs,a,S,y,k,us,h,hn,hv=>by
  obtain⟨u,us,rfl,a1,a2⟩:=VRs.inv (v:=.arr a.1) (cs:=valQ cs a.2) hv;simp only[qc1] at h;split at h<;>try cases h
  split at h<;>try cases h
  split at h<;>cases h;rename_i y' hy;refine VRs.cons ?_ (qwl hm hw cs hy (fun j id hj=>?_) a2)
  ·cases a1 with
   | arr hA hh =>
    obtain⟨b1,b2,b3,b4,b5⟩:=hn 0 a.1 rfl hA;exact .arr b1 (b4.trans hh)
  ·have:=hn (j+1) id (by simp only[idsQ,jaw];exact hj)
   rwa [show k+(j+1)=k+1+j by omega] at this
 | (false,c)::cs,a,S,y,k,us,h,hn,hv=>by
  obtain⟨u,us,rfl,a1,a2⟩:=VRs.inv (v:=asIV c a.1) (cs:=valQ cs a.2) hv;simp only[qc1] at h;split at h<;>cases h;rename_i y' hy;exact VRs.cons (qfs hm hw a1) (qwl hm hw cs hy hn a2)
theorem zbt{n:Nat}{v:IV}{vs:List IV}{E:Env}{u:Value}(h:qlg n v=some vs)(hv:VR E v u):∃us:List Value,VRs E vs us/\∀(E':Env) (ws:List IV),ws.length=n->VRs E' ws us->VR E' (tupI ws) u:=by
 unfold qlg at h;cases hone:Nat.beq n 1 with
 | true =>
  rw[hone,jaa] at h;cases h;have hlen:=jaj hone;exact⟨[u],VRs.cons hv VRs.nil,fun E' ws hl hw=>by
   rw[hlen] at hl;match ws,hl with
   | [a],_=>exact hw.2 0 (by simp) (by simp)⟩
 | false =>
  rw[hone,jag] at h;split at h<;>try cases h
  rename_i ws0;cases hb:Nat.beq ws0.length n with
  | false=>rw[hb] at h;cases h
  | true =>
  rw[hb,jaa] at h;cases h;cases hv with
  | tup hl hh =>
  refine⟨_,⟨hl,hh⟩,fun E' ws hl' hw=>?_⟩;match ws,hl' with
  | [],_=>exact .tup hw.1 hw.2
  | [a],hl'=>rw[<- hl'] at hone;cases hone
  | a::b::ws,_=>exact .tup hw.1 hw.2
theorem q8p{s:SmR}{r:Res}{x:ElP s.ps}{y:ElR s.rts}{z:ElP (refs s.ps)}{E E1:Env}{us:List Value}{u:Value}(h:runQ s r=some (y,z))(p0:Pre T0 E (Sc s.ps x))(hargs:VRs E (qaq s.ps idN 0 x) us)
   (hpb:PostB (mP s.ps) T0 E (Sc s.ps x) E1 r.S) (hv:VR E1 r.v u):∃E',E'.w=E1.w/\VR E' (vB s (mP s.ps) y) u/\PostB (mP s.ps) T0 E (Sc s.ps x) E' (ScB s y z):=by
 have hT:∀id,mP s.ps<=id->T0.w id:=fun _ _=>trivial;have p1:=hpb.pre hT p0;unfold runQ at h;split at h
 · cases h
 rename_i vs hvs;split at h
 · cases h
 rename_i a S2 w2 ha;split at h
 · cases h
 rename_i b rows subs S3 w3 hb;cases hc:(ndB (subs++idsQ s.rts a)&&(subs++idsQ s.rts a).all (Nat.ble (mP s.ps))) with
 | false=>rw[hc] at h;cases h
 | true =>
 rw[hc,jaa] at h;simp only[jae] at hc;obtain⟨hc1,hc2⟩:=hc;split at h
 · cases h
 rename_i y' hy;split at h<;>cases h;rename_i hz;obtain⟨us1,hus,hfin⟩:=zbt hvs hv;obtain⟨E2,e2,q2,f2,hv2⟩:=qms s.rts ha p1 (fun _ _=>trivial) hus;have p2:=q2.pre p1
 -- the pointers
 have hA0:∀k,k<mP s.ps->E.A k:=by
   have key:∀(l:List PK) (k:Nat) (x:ElP l) (us:List Value),VRs E (qaq l idN k x) us->∀j,j<mP l->E.A (k+j):=by
     intro l;induction l with
     | nil=>intro k x us _ j hj;simp [mP] at hj
     | cons pk l ih =>
       intro k x us hv j hj;cases pk with
       | dat c =>
         obtain⟨u,us,rfl,a1,a2⟩:=VRs.inv (v:=asIV c x.1) (cs:=qaq l idN k x.2) hv;exact ih k x.2 us a2 j hj
       | fn f =>
         obtain⟨u,us,rfl,a1,a2⟩:=VRs.inv (v:=.fn f []) (cs:=qaq l idN k x) hv;exact ih k x us a2 j hj
       | ref r =>
         obtain⟨u,us,rfl,a1,a2⟩:=VRs.inv (v:=argK r (idN k)) (cs:=qaq l idN (k+1) x.2) hv;cases j with
         | zero=>exact q5k a1
         | succ j =>
           have:=ih (k+1) x.2 us a2 j (by simp only[mP] at hj;omega)
           rwa [show k+(j+1)=k+1+j by omega]
   intro k hk;have:=key s.ps 0 x us hargs k hk
   rwa [jbk] at this
 have hptr:∃us',VRs E2 (ptrP s.ps 0) us':=by
   obtain⟨us',h'⟩:=qqs s.ps b hargs;rw[qpl] at h';refine⟨us',qq9 s.ps (fun j hj hA=>?_) h'⟩;rw[jbk] at hA ⊢;obtain⟨a1,a2,a3,a4,a5⟩:=hpb.alw j hj hA;obtain⟨b1,b2,b3,b4,b5⟩:=(q2.env p1).alw _ a1;exact⟨b1,b2.trans a2,b3.trans a3,b4.trans a4,b5.trans a5⟩
 obtain⟨us',hptr⟩:=hptr;obtain⟨E3,e3,q3,f3,l1,l2,A3,b2,b3⟩:=qe1 (refs s.ps) hb p2 (fun _ _=>trivial) hptr;have p3:=q3.pre p2;obtain⟨_,c2,c3⟩:=qej (refs s.ps) hz l2;obtain⟨g1,g2⟩:=qn7 s.rts hy;have hnd:=qk7 hc1;have hqB:∀id∈subs++idsQ s.rts a,mP s.ps<=id:=fun id hi=>jal ((jbg.1 hc2) id hi);have hnew:∀j:Nat,(newO s y z)[j]?=((subs++idsQ s.rts a)[j]?).bind fun id=>S3.heap.get id:=qxi (by rw[qil,l2]) c3 g2;have hlen:(newO s y z).length=(subs++idsQ s.rts a).length:=by
   unfold newO;rw[jah,jah,qil,l2,g1]
 generalize hq:subs++idsQ s.rts a=q at hnd hqB hnew hlen;have hlow:∀k,k<mP s.ps->ol (mP s.ps) q k=k:=fun k hk=>jao hk;have hhigh:∀k,mP s.ps<=k->k<mP s.ps+q.length->q[k-mP s.ps]?=some (ol (mP s.ps) q k):=fun k h1 h2=>by
   have h3:k-mP s.ps<q.length:=by omega
   unfold ol;rw[jan (by omega),jai,jac h3];rfl
 have hnum:∀k,k<mP s.ps+q.length->qcg E3 (renE (mP s.ps) q E3) (ol (mP s.ps) q k) k:=fun k hk hA=>⟨⟨hk,hA⟩,rfl,rfl,rfl,rfl⟩;have hns:Nums (ol (mP s.ps) q) (mP s.ps) subs:=fun j id hj=>by
   have h1:j<subs.length:=(jba.1 hj).1;have h2:=hhigh (mP s.ps+j) (by omega) (by rw[<- hq,jah];omega);rw[ja5,<- hq,jas h1,hj,hq] at h2;exact(jb2 h2).symm
 have hlr:rows=lowN (mP s.ps) 0:=jda fun j=>by
   by_cases hj:j<mP s.ps
   · rw[qgf s.ps hb j hj,q08 _ _ _ hj]
   · rw[jbt (by rw[l1,qbr];omega),jbt (by rw[qzu];omega)]
 rw[<- hlr] at hz;have hrows:=qwg hz l2 p3 (fun _ _=>trivial) (b3 _ _ hns);have hScB:∀k,(ScB s y z).H k=(qar (refs s.ps) idN (mP s.ps) z++newO s y z)[k]?:=fun k=>qf6 _ k;have hsl:nP (refs s.ps)<=q.length:=by rw[<- hq,jah,l2];omega
 have hre:=PostB.re (T:=T0) (B:=mP s.ps) (q:=q) (S':=ScB s y z) p3 hT hnd hqB (by
     unfold ScB;rw[qc0,jah,qa4,qbr,hlen];have:S0.next=0:=rfl
     omega) (fun k o hk hAk ho=>by
     rw[hScB] at ho;by_cases hkm:k<mP s.ps
     · rw[jas (by rw[qa4,qbr];exact hkm)] at ho;obtain⟨r',nj,xj,rfl,d2,d3,d4⟩:=qfr _ _ _ _ _ _ ho;obtain⟨id,i1,i2,i3,i4,i5⟩:=hrows k _ (d4 _);have:=qgf s.ps hb k hkm;rw[jbk,i1] at this;cases this;have e:=hlow k hkm;rw[e];refine⟨OR.objK_to (E:=E3) (E':=renE (mP s.ps) q E3) (fun _ h=>h) rfl i2 (by have:=hnum k hk;rwa [e] at this) (fun j a b=>hnum j (by omega)) i4,fun hl=>i5 (qqo.trans hl),fun hb=>?_⟩;show E3.hb (ol (mP s.ps) q k)=true;rw[e];exact i3 (ql0.trans hb)
     · rw[ja4 (by rw[qa4,qbr];omega),qa4,qbr] at ho;have hd:=qww (jbu ho);rw[hnew,hhigh k (by omega) hk] at ho;exact⟨OR.dat_to (E:=E3) (E':=renE (mP s.ps) q E3) (fun _ h=>h) rfl hAk (hnum k hk) hd (p3.st.objs _ trivial hAk _ ho),fun hl=>⟨_,ho,hl⟩,fun hbk=>p3.st.blk _ trivial hAk _ ho hbk⟩)
 have hpost:=Post.trans p1 q2 f2 q3;have hfr:=f2.trans f3 q2.le;refine⟨renE (mP s.ps) q E3,e3.trans e2,?_,(hpb.trans (PostB.of hpb.le hT hpost hfr)).trans hre⟩;refine hfin _ _ (qlq _ _ _) (qwl (E:=E3) (E':=renE (mP s.ps) q E3) (fun _ h=>h) rfl s.rts hy (fun j id hj=>?_) (hv2.mono (q3.env p2)));have h1:j<(idsQ s.rts a).length:=(jba.1 hj).1;have h2:mP s.ps+nP (refs s.ps)+j<mP s.ps+q.length:=by rw[<- hq,jah,l2];omega
 have h3:=hhigh _ (by omega) h2;rw[show mP s.ps+nP (refs s.ps)+j-mP s.ps=subs.length+j by omega,<- hq,ja4 (by omega),ja5,hj,hq] at h3;have h4:=jb2 h3;have:=hnum _ h2
 rwa [<- h4] at this
end Go.Jx
end

section
namespace Go.Jx
open Go Go.Sx Go.RowKit
universe u

def WfC:(c:CT)->ElC c->Prop
 | .dat c=>fun x=>WfE c x
 | .arr c=>fun(l:List (El c))=>l.length*bsz c<=140737488355328/\∀x∈l,WfE c x
 | .map k v=>fun(es:List (El k × El v))=>∀e∈es,WfE k e.1/\WfE v e.2
 | .fn _=>fun _=>True
def WfR:(r:List CT)->qb8 r->Prop
 | [],_=>True
 | c::cs,x=>WfC c x.1/\WfR cs x.2
def WfK:(r:RK)->ElK r->Prop
 | .box r,x=>WfR r x
 | .sl c,x=>match x with
  | some l=>l.length*bsz c<=140737488355328/\∀y∈l,WfE c y
  | none=>True
 | .mp k v,x=>match x with
  | some (es:List (El k × El v))=>∀e∈es,WfE k e.1/\WfE v e.2
  | none=>True
def WfP:(l:List PK)->ElP l->Prop
 | [],_=>True
 | .dat c::l,x=>WfE c x.1/\WfP l x.2
 | .fn _::l,x=>WfP l x
 | .ref r::l,x=>WfK r x.1/\WfP l x.2
section
variable {E : Env}
theorem zey{c:TC}{x:El c}{us:List Value}(h:VRs E (cel c x) us):WfE c x :=
 wf_cells (E:=E) c x (fun j=>us.getD j .nilFunc) fun j hj=>by
  have hj2:j<us.length:=by rw[<- h.1];exact hj
  show VR E _ (us.getD j .nilFunc);rw[jai,jac hj2];exact h.2 j hj hj2
theorem q2g{k v:TC}{id:Nat}{x:List (El k × El v)}(h:OR E id (.tmap k v x)):∀e∈x,WfE k e.1/\WfE v e.2:=by
 obtain⟨ents,cl,h1,h2,h3,_⟩:=h;intro e he;obtain⟨i,hi,rfl⟩:=jcq.1 he;have hl:(tmEs k v x).length=List.length x:=jb3 _;have hi1:i<((tmEs k v x).map (·.1)).length:=by rw[jb3,hl];exact hi
 have hi2:i<((tmEs k v x).map (·.2)).length:=by rw[jb3,hl];exact hi
 have q1:=h2.2 i hi1 (by rw[<- h2.1];exact hi1);have q2:=h3.2 i hi2 (by rw[<- h3.1];exact hi2);have e:(tmEs k v x)[i]'(by rw[hl];exact hi)=(asIV k (List.get x ⟨i,hi⟩).1,asIV v (List.get x ⟨i,hi⟩).2):=jcb _;rw[jcb,e] at q1;rw[jcb,e] at q2;exact⟨qmt q1,qmt q2⟩
theorem wfC{H:Nat->Option IObj}{ι:Nat->Nat}(hH:∀id o,E.A id->H id=some o->OR E id o):∀(c:CT) {n:Nat} {x:ElC c} {us:List Value},VRs E (qdh c ι n x) us->(∀j:Nat,j<nC c->H (ι (n+j))=(subC c x)[j]?)->WfC c x
 | .dat c,n,x,us,h,_=>zey h
 | .arr c,n,x,us,h,hs=>by
  obtain⟨u,us,rfl,a1,a2⟩:=VRs.inv (v:=.arr (ι n)) (cs:=[]) h;have hA:E.A (ι n):=by cases a1;assumption
  have h0:=hs 0 (Nat.one_pos);rw[jb6] at h0;obtain⟨a,cap,h1,h2,h3,h4,h5⟩:=hH _ (.arr c x) hA h0;refine⟨h4,fun y hy=>?_⟩;obtain⟨i,hi,rfl⟩:=jcq.1 hy;rcases h5 with ⟨_,h5,_⟩|⟨_,_,cells,t,_,_,us,_,h6⟩
  ·omega
  ·exact wf_cells c _ (us i) (h6 i hi)
 | .map k v,n,x,us,h,hs=>by
  obtain⟨u,us,rfl,a1,a2⟩:=VRs.inv (v:=.map (ι n)) (cs:=[]) h;have hA:E.A (ι n):=by cases a1;assumption
  have h0:=hs 0 (Nat.one_pos);rw[jb6] at h0;exact q2g (hH _ (.tmap k v x) hA h0)
 | .fn _,n,x,us,h,hs=>trivial
theorem zs8{c:TC}{id:Nat}{l:List (El c)}(h:OR E id (.arr c l)):l.length*bsz c<=140737488355328/\∀y∈l,WfE c y:=by
 obtain⟨a,cap,h1,h2,h3,h4,h5⟩:=h;refine⟨h4,fun y hy=>?_⟩;obtain⟨i,hi,rfl⟩:=jcq.1 hy;rcases h5 with ⟨_,h5,_⟩|⟨_,_,cells,t,_,_,us,_,h6⟩
 ·omega
 ·exact wf_cells c _ (us i) (h6 i hi)
theorem wfR{H:Nat->Option IObj}{ι:Nat->Nat}(hH:∀id o,E.A id->H id=some o->OR E id o):∀(r:List CT) {n:Nat} {x:qb8 r} {us:List Value},VRs E (qbt r ι n x) us->(∀j:Nat,j<nR r->H (ι (n+j))=(subR r x)[j]?)->WfR r x
 | [],n,x,us,h,hs=>trivial
 | c::cs,n,x,us,h,hs=>by
  obtain⟨us1,us2,rfl,h1,h2⟩:=VRs.split (cs:=qdh c ι n x.1) (ds:=qbt cs ι (n+nC c) x.2) h;refine⟨wfC hH c h1 fun j hj=>?_,wfR hH cs h2 fun j hj=>?_⟩
  ·rw[hs j (by simp only[nR];omega)];simp only[subR];rw[jas (by rw[qj3];exact hj)]
  ·have:=hs (nC c+j) (by simp only[nR];omega);rw[<- jcx] at this;rw[this];simp only[subR];rw[ja4 (by rw[qj3];omega),qj3,ja5]
theorem wfP{H:Nat->Option IObj}(hH:∀id o,E.A id->H id=some o->OR E id o):∀(l:List PK) {k n:Nat} {x:ElP l} {us:List Value},VRs E (qaq l idN k x) us ->
  (∀j:Nat,j<mP l->H (k+j)=(qar l idN n x)[j]?)->(∀j:Nat,j<nP l->H (n+j)=(qby l x)[j]?)->WfP l x
 | [],k,n,x,us,h,_,_=>trivial
 | .dat c::l,k,n,x,us,h,h1,h2=>by
  obtain⟨u,us,rfl,a1,a2⟩:=VRs.inv (v:=asIV c x.1) (cs:=qaq l idN k x.2) h;exact⟨qmt a1,wfP hH l a2 h1 h2⟩
 | .fn f::l,k,n,x,us,h,h1,h2=>by
  obtain⟨u,us,rfl,a1,a2⟩:=VRs.inv (v:=.fn f []) (cs:=qaq l idN k x) h;exact wfP (x:=x) hH l a2 h1 h2
 | .ref r::l,k,n,x,us,h,h1,h2=>by
  obtain⟨u,us,rfl,a1,a2⟩:=VRs.inv (v:=argK r (idN k)) (cs:=qaq l idN (k+1) x.2) h;have hA:E.A k:=q5k a1;have h0:=h1 0 (by simp only[mP];omega);rw[jb6] at h0;have h0:H k=some (objK r idN n x.1):=h0;refine⟨?_,wfP hH l (n:=n+nK r) a2 (fun j hj=>?_) fun j hj=>?_⟩
  ·match r,x,h0,h2 with
   | .box r,x,h0,h2 =>
    obtain⟨cells,t,k1,k2,k3,k4⟩:=hH k _ hA (h0.trans (show _=some (.row (qbt r idN n x.1)) from rfl));refine wfR (ι:=idN) hH r k4 fun j hj=>?_;have:=h2 j (by simp only[nP,nK];omega);show H (n+j)=_;rw[this];exact jas (l₂:=qby l x.2) (jfe hj (qpy r x.1).symm)
   | .sl c,(some l,x),h0,h2=>exact zs8 (c:=c) (l:=l) (hH k _ hA (h0.trans rfl))
   | .sl c,(none,x),h0,h2=>trivial
   | .mp kc vc,(some l,x),h0,h2=>exact q2g (k:=kc) (v:=vc) (x:=l) (hH k _ hA (h0.trans rfl))
   | .mp kc vc,(none,x),h0,h2=>trivial
  ·have:=h1 (j+1) (by simp only[mP];omega);rw[show k+1+j=k+(j+1) by omega,this];simp only[qar,jaw]
  ·have:=h2 (nK r+j) (by simp only[nP];omega);rw[<- jcx] at this;rw[this];simp only[qby];rw[ja4 (by rw[qt4];omega),qt4,ja5]
end
theorem zl0{l:List PK}{x:ElP l}{E:Env}{us:List Value}(p:Pre T0 E (Sc l x))(h:VRs E (qaq l idN 0 x) us):WfP l x:=by
 refine wfP (H:=(Sc l x).H) (n:=mP l) (fun id o hA ho=>p.st.objs id trivial hA o ho) l h (fun j hj=>?_) fun j hj=>?_
 ·unfold Sc;rw[jbk,qf6,jas (by rw[qa4];exact hj)]
 ·unfold Sc;rw[qf6,ja4 (by rw[qa4];omega),qa4,ja5]

def qdz(tt:Nat->Option TI)(fi:FI)(s:SmR)(r:CRes):Option (ElR s.rts × ElP (refs s.ps)) :=
 cond r.e.leaves (match qfu r.ds r.S with
  | none=>none
  | some (S',_)=>match ires tt fi.nt r.fr S' fi.res with
   | none=>none
   | some (vs,_)=>runQ s ⟨tupI vs,S',0,0⟩) none
section
variable {P : Program} {tt : Nat -> Option TI} {ft : Nat -> Option FI}
theorem zbr{fi:FI}{f:Nat}{nm:Nat->Option Nm}{cl:Cl}{lf:Nat}{s:SmR}{x:ElP s.ps}{y:ElR s.rts}{z:ElP (refs s.ps)}{r1:CRes}(hm:P.follows .mixedOrders=true)(htt:TT P tt)
  (hfi:∃fn,P.funcs[f]?=some fn/\fn.body=some fi.body/\fn.ntmps=fi.nt/\fn.results=fi.res.toArray/\(fn.name == "runtime.NumGoroutine") = false/\qa3 fi.body=true) (hcl:ClOK P cl) (hfr:ClFr cl)
  (hb:Nat.ble (qaq s.ps idN 0 x).length fi.nt=true) (hr1:qak P tt nm (mP s.ps) fi.nt cl lf none fi.body (qaz (qaq s.ps idN 0 x) 0 .leaf) (Sc s.ps x) []=some r1) (h:qdz tt fi s r1=some (y,z))
  {E:Env} {us:List Value} (p:Pre T0 E (Sc s.ps x)) (hv:VRs E (qaq s.ps idN 0 x) us) :
  CallsIn Fence.wide 0 P f us.toArray E.w (RetB (mP s.ps) T0 E (Sc s.ps x) ⟨vB s (mP s.ps) y,ScB s y z,0,0⟩):=by
 unfold qdz at h;cases hl:r1.e.leaves with
 | false=>rw[hl] at h;cases h
 | true =>
 rw[hl,jaa] at h;split at h
 ·cases h
 rename_i S' wr hmk;split at h
 ·cases h
 rename_i vs' rd' hres;obtain⟨fn,f1,f2,f3,f4,f5,f6⟩:=hfi;refine callsIn_of_wp_marks f1 f2 trivial ?_;refine qif (T:=T0) (E:=E) (S:=Sc s.ps x) (ds:=[]) (round:=none) (B:=mP s.ps) (fun _ _=>trivial) hm rfl hcl hfr htt fi.body f6 p (by rw[qig];omega) (fun _ _=>trivial) ?_ (DS.nil (N:=E.w.heap.size) (jar _)) (fun _=>rfl) hr1 (fun _ _=>trivial) (fun _ _=>trivial) ?_
 ·have:=FR.enter (nt:=fi.nt) hv (jal hb);rw[f3];exact this
 intro E1 a1 k1 k2 kB;have p1:=kB.pre (fun _ _=>trivial) p;have hlv:LeavesInM Fence.wide 0 P fn a1.tmps (RetB (mP s.ps) T0 E (Sc s.ps x) ⟨vB s (mP s.ps) y,ScB s y z,0,0⟩) a1.defers .returning E1.w:=by
  refine qu3 (E0:=E) (S0':=Sc s.ps x) (B:=mP s.ps) (jar _) (fun _ _=>trivial) p1 k2 kB hmk (fun _ _=>trivial) fun E2 hq0 p2 hv2=>?_;obtain⟨us',h1,h2⟩:=qm1 htt p2 ⟨k1.size,fun t ht=>hv2 _ _ (k1.get t ht)⟩ hres (fun _ _=>trivial);have h3:=q3k (P:=P) (w:=E2.w) f4 h1;refine⟨qhy us',h3,?_⟩;have hq:=hq0;obtain⟨E3,e3,v3,q3⟩:=q8p (r:=⟨tupI vs',S',0,0⟩) h p hv hq (q0v h2);exact⟨_,E3,rfl,e3,v3,q3⟩
 cases he:r1.e with
 | normal=>rw[he] at *;exact hlv
 | ret=>exact hlv
 | exit i=>rw[he] at hl;cases hl
 | goto l=>rw[he] at hl;cases hl
theorem conTR{sml:List (Nat × Sm)}{hxl:List (Nat × Hx)}{f:Nat}{s:SmR}{fi:FI}{nmf:Nat->Option Nm}{st hd:Nat->Bool}(n:Nat)(hm:P.follows .mixedOrders=true)(htt:TT P tt)(hft:FT P ft)(hsm:SmOK P sml)
  (hhx:qa9 P hxl) (hC:qai P f) (h3:ft f=some fi) (h4:∀x,Nat.ble (qaq s.ps idN 0 x).length fi.nt=true) (hn:(regs fi.body).Nodup) (hl:okC nmf st hd fi.body none=true)
  (hrun:∀(x:ElP s.ps) (y:ElR s.rts) (z:ElP (refs s.ps)),WfP s.ps x->s.f x=some (y,z)->∃lf,
   qbx P tt nmf (mP s.ps) fi.nt (qa2 P tt ft (fun _ _=>none) (smL sml) (hxL hxl) lf n (ElR s.rts × ElP (refs s.ps))) lf st
    (atNB P tt nmf (mP s.ps) fi.nt fi.body (qa2 P tt ft (fun _ _=>none) (smL sml) (hxL hxl) lf n (ElR s.rts × ElP (refs s.ps))) lf hd (qdz tt fi s)) fi.body [] (qaz (qaq s.ps idN 0 x) 0 .leaf) (Sc s.ps x) [] (qdz tt fi s)=some (y,z))
  (hz:frzF nmf=true:=by rfl):ConR P f s:=by
 have hB0:mB nmf (mP s.ps)=0:=by unfold mB;rw[hz];rfl
 have hex:ExOK P (exH (smL sml) (hxL hxl)):=qyt (qu6 hsm) (qts hhx);refine⟨hC,fun E x us y z hy p hv=>?_⟩;obtain⟨lf,hr⟩:=hrun x y z (zl0 p hv) hy;rw[<- q20 hB0 (qa5 n _) hn hl,qen (qa5 n _)] at hr;cases hr1:qak P tt nmf (mP s.ps) fi.nt (qcc P tt ft (fun _ _=>none) (exH (smL sml) (hxL hxl)) lf n) lf none fi.body (qaz (qaq s.ps idN 0 x) 0 .leaf) (Sc s.ps x) [] with
 | none=>rw[hr1] at hr;cases hr
 | some r1 =>
  rw[hr1] at hr;exact zbr hm htt (hft f fi h3) (qmb hm htt hft hex n) (qgd hex n) (h4 x) hr1 hr p hv
end
end Go.Jx
end

section
namespace Go.Jx
open Go Go.Sx Go.RowKit
universe u

section
variable {P : Program} {tt : Nat -> Option TI} {nm : Nat -> Option Nm} {lf : Nat} {st hd : Nat -> Bool} {cl : Cl}
def atQ(P:Program)(tt:Nat->Option TI)(nm:Nat->Option Nm)(fi:FI)(s:SmR)(clK:ClK (ElR s.rts × ElP (refs s.ps)))(lf:Nat)(hd:Nat->Bool)(k:Nat)(ns:List Nat)(x:NRes):Option (ElR s.rts × ElP (refs s.ps)) :=
 atNB P tt nm (mP s.ps) fi.nt fi.body clK lf hd (qdz tt fi s) k ns x
theorem zmu{B:Nat}(hz:frzF nm=true):mB nm B=0:=by unfold mB;rw[hz];rfl
theorem qz3(hz:frzF nm=true){fi:FI}{s:SmR}{clK:ClK (ElR s.rts × ElP (refs s.ps))}(h:ClEq cl clK)(hn:(regs fi.body).Nodup)(hl:okC nm st hd fi.body none=true)(k:Nat)(ns ns':List Nat)(hd':dn (hd k) ns=some ns')(x:NRes) :
  atQ P tt nm fi s clK lf hd k ns x=qb9 P tt nm (mP s.ps) fi.nt clK lf st (atQ P tt nm fi s clK lf hd) k fi.body [] ns' x (qdz tt fi s):=q1g (zmu hz) h hn hl k ns ns' hd' x
theorem q88{fi:FI}{s:SmR}{clK:ClK (ElR s.rts × ElP (refs s.ps))}(k:Nat)(ns:List Nat)(hd':dn (hd k) ns=none)(x:NRes):atQ P tt nm fi s clK lf hd k ns x=none:=qyd k ns hd' x
end
end Go.Jx
end

noncomputable section
set_option maxRecDepth 100000
namespace Go.Proofs.YtnhmanoiolfapaaGreat
open Go Go.Sx Go.RowKit Go.Jx
def qlv:Sm:=⟨[.list .str],[(true,.str)],fun x=>some (x.1,())⟩
def qy7:Sm:=⟨[.list cPut],[(true,cPut)],fun x=>some (x.1,())⟩
def qip:Sm:=⟨[.list .str,.int .i64],[(false,.list .str)],fun x=>cond (decide (x.1.length=1)&&S.inI x.2.1 0 1000) (some (List.replicate x.2.1.toNat (x.1.getD 0 S.none_),())) none⟩
def qg0:Sm:=⟨[.int .i64,.int .i64,.int .i64],[(false,.bool)],fun x=>some (S.inI x.1 x.2.1 x.2.2.1,())⟩
def qm4:Sm:=⟨[],[(false,.str)],fun _=>some (S.blank,())⟩
def qs3:Sm:=⟨[.str],[(false,.bool)],fun x=>some (S.short x.1,())⟩
def q6g:Sm:=⟨[.int .i64],[(false,qam),(false,.int .i64)],fun x=>some ((S.newDisk x.1).1,(S.newDisk x.1).2,())⟩
def qhi:Sm:=⟨[qam],[(false,.int .i64)],fun x=>some (S.checkDisk x.1,())⟩
def S.fitP(l:List ByteArray)(q:List DPut):Bool:=q.all fun p=>!S.badPut l.length p
def q9b:Sm:=⟨[.list .str,.list cPut],[(true,.str)],fun x=>cond (S.fitP x.1 x.2.1) (some (S.settled x.1 x.2.1,())) none⟩
def qvx:Sm:=⟨[qam,.list cAct],[(false,qam),(false,.int .i64)],fun x=>some ((S.doD x.1 x.2.1).1,(S.doD x.1 x.2.1).2,())⟩
def zqd:Sm:=⟨[qam,.list (.int .i64)],[(false,qam),(false,.int .i64)],fun x=>some ((S.crash x.1 x.2.1).1,(S.crash x.1 x.2.1).2,())⟩
def S.anyShort(l:List ByteArray):Bool:=l.any S.short
def S.pk(l:List qaa):Bool:=S.okC l&&Nat.ble l.length 250
def qr0:Sm:=⟨[.int .i64],[(false,.str)],fun x=>cond (S.inI x.1 0 16777215) (some (qag (S.two x.1.toNat),())) none⟩
def q0f:Sm:=⟨[.list qac],[(false,.str)],fun x=>cond (S.pk x.1) (some (qag (S.body x.1),())) none⟩
def qjo:Sm:=⟨[.list qac],[(true,.str)],fun x=>cond (S.pk x.1) (some (S.packed x.1 1,())) none⟩
def qsm:Sm:=⟨[.str],[(false,.str)],fun x=>cond (decide (x.1.size=64)) (some (qag (0::(qab x.1).drop 1),())) none⟩
def qja:Sm:=⟨[.int .i64,.int .i64],[(false,q1y)],fun x=>cond (S.inI x.1 0 1000) (some (S.half x.1.toNat x.2.1,())) none⟩
def S.laid(l:List qaa)(at_ e:Int)(b:Bool):List DAct:=S.puts at_ (S.packed l 0)++(cond (b&&decide (at_+(S.packed l 1).length<e)) [S.put (at_+(S.packed l 1).length) S.blank] []++[S.sync,S.put at_ ((S.packed l 1).getD 0 S.none_),S.sync])
def qz5:Sm:=⟨[qam],[(true,cAct),(false,.int .i64)],fun x=>some ((S.format x.1).1,(S.format x.1).2,())⟩
def S.lenA(a:List DAct):Nat:=a.length
def S.app(a b:List DAct):List DAct:=a++b
def spz8:SmR:=⟨[.ref (.box [.arr cAct]),.dat (.int .i64),.dat (.list .str)],[],fun x=>cond (S.inI x.2.1 0 1000000&&(Nat.ble x.2.2.1.length 1000000&&Nat.ble (S.lenA x.1.1) 1000000)) (some ((),((S.app x.1.1 (S.puts x.2.1 x.2.2.1),()),()))) none⟩
def spz9:SmR:=⟨[.ref (.box [.arr cAct])],[],fun x=>cond (Nat.ble (S.lenA x.1.1) 4000000) (some ((),((S.app x.1.1 [S.sync],()),()))) none⟩
def S.chg(b:ByteArray):List qaa × Bool:=match S.changes (b.size+1) (qab b) (-1) with
 | some l=>(l,true)
 | none=>([],false)
def qyz:Sm:=⟨[.str],[(true,qac),(false,.bool)],fun x=>cond (Nat.ble x.1.size 1000000) (some ((S.chg x.1).1,(S.chg x.1).2,())) none⟩
def S.readK(l:List ByteArray):qfv :=
 if ¬(qab (l.getD 0 S.none_)).getD 0 0=1\/l.length<S.recM (qab (l.getD 0 S.none_)) then ([],0,true)
 else match S.changes (S.recN (qab (l.getD 0 S.none_))+1) ((((l.take (S.recM (qab (l.getD 0 S.none_)))).flatMap qab).drop 4).take (S.recN (qab (l.getD 0 S.none_)))) (-1) with
  | some c=>(c,(S.recM (qab (l.getD 0 S.none_)):Int),!((((l.take (S.recM (qab (l.getD 0 S.none_)))).flatMap qab).drop (4+S.recN (qab (l.getD 0 S.none_)))).all fun b=>decide (b=0)))
  | none=>([],(S.recM (qab (l.getD 0 S.none_)):Int),true)
def S.secs(l:List ByteArray):Bool:=Nat.ble l.length 1000&&!S.anyShort l
def S.secs1(l:List ByteArray):Bool:=Nat.ble 1 l.length&&S.secs l
def zqv:Sm:=⟨[.list .str],[(false,cKeepRecord)],fun x=>cond (S.secs1 x.1) (some (S.readK x.1,())) none⟩
def S.val(b:ByteArray):Int:=(qab b).foldl (fun n b=>256*n+b) 0
def S.srt(l:List qaa):Bool:=S.okC l&&!l.any (·.2.2)
def S.mrg(a b:List qaa):Bool:=S.srt a&&S.okC b
def S.sameC(a b:List qaa):Bool:=decide (a=b)
def S.sameD(a b:qaf):Bool:=decide (a=b)
def S.sameJ(a b:qad):Bool:=decide (a=b)
def S.sameA(a b:List DAct):Bool:=decide (a=b)
def quh:Sm:=⟨[.list qac,.list qac],[(false,.bool)],fun x=>some (S.sameC x.1 x.2.1,())⟩
def q0c:Sm:=⟨[qam,qam],[(false,.bool)],fun x=>some (S.sameD x.1 x.2.1,())⟩
def qz7:Sm:=⟨[qae,qae],[(false,.bool)],fun x=>some (S.sameJ x.1 x.2.1,())⟩
def spz6:Sm:=⟨[.list qac],[(false,.int .i64),(false,.int .i64)],fun x=>some ((S.size x.1).1,(S.size x.1).2,())⟩
def S.smallJ(j:qad):Bool:=Nat.ble j.1.1.length 1000&&(decide (j.1.1.length % 2=0)&&S.inI j.2.2.1 (-1000) 1000)
def S.roomR(j:qad):Int:=((j.1.1.length / 2:Nat):Int)-1-j.2.2.1
def qwt:Sm:=⟨[qae],[(false,.int .i64)],fun x=>cond (S.smallJ x.1) (some (S.roomOf x.1,())) none⟩
def qxx:Sm:=⟨[],[(false,.str)],fun _=>some (qag (List.replicate 64 0),())⟩
def q0j:Sm:=⟨[.list qac,.list qac],[(false,.bool)],fun x=>some (S.sameC x.1 x.2.1,())⟩
def q3r:Sm:=⟨[qam],[(false,qae),(false,.int .i64)],fun x=>some ((S.open_ x.1).1,(S.open_ x.1).2,())⟩
def S.openedJ(d:qaf):qad × Bool:=match S.opened d.1 with
 | some (h,u,c)=>(((d.1,[]),h,(u:Int),c),true)
 | none=>(S.noJ,false)
def S.okL(d:qaf):Bool:=S.secs d.1&&(Nat.ble 8 d.1.length&&decide (d.1.length % 2=0))
def qgw:Sm:=⟨[qam],[(false,qae),(false,.bool)],fun x=>cond (S.okL x.1) (some ((S.openedJ x.1).1,(S.openedJ x.1).2,())) none⟩
def S.errR(j:qad):Int:=if S.right j=true then 0 else 1
def ql9:Sm:=⟨[qae],[(false,.int .i64)],fun x=>some (S.errR x.1,())⟩
def spz7:Sm:=⟨[qae,.int .i64],[(false,.str),(false,.bool),(false,.int .i64)],fun x=>some ((S.value x.1 x.2.1).1,(S.value x.1 x.2.1).2.1,(S.value x.1 x.2.1).2.2,())⟩
def zqn:Sm:=⟨[qae],[(false,.int .i64),(false,.int .i64)],fun x=>some ((S.room x.1).1,(S.room x.1).2,())⟩
def S.asked(j:qad)(l:List qaa):Int:=if S.right j=true then (S.size l).2 else 1
def qwh:Sm:=⟨[qae,.list qac],[(false,.int .i64)],fun x=>some (S.asked x.1 x.2.1,())⟩
def S.comG(j:qad)(l:List qaa):Bool:=S.smallJ j&&(S.pk l&&S.inI j.2.2.1 0 1000)
def S.actsB(o:Option (List DAct)):List DAct × Bool:=match o with
 | some a=>(a,true)
 | none=>([],false)
def qt8:Sm:=⟨[qae,.list qac],[(true,cAct),(false,.bool)],fun x=>cond (S.comG x.1 x.2.1) (some ((S.actsB (S.commit x.1 x.2.1)).1,(S.actsB (S.commit x.1 x.2.1)).2,())) none⟩
def S.turG(j:qad):Bool:=S.smallJ j&&(S.pk j.2.2.2&&(S.inI j.2.1 0 1&&Nat.ble 8 j.1.1.length))
def qt0:Sm:=⟨[qae],[(true,cAct),(false,.bool)],fun x=>cond (S.turG x.1) (some ((S.actsB (S.turn x.1)).1,(S.actsB (S.turn x.1)).2,())) none⟩
def S.behG(j:qad)(a:List DAct):Bool:=decide ((S.behind j a).2=0)&&decide ((S.doD j.1 a).2=0)
def qpw:Sm:=⟨[qae,.list cAct],[(false,qae)],fun x=>cond (S.behG x.1 x.2.1) (some ((S.behind x.1 x.2.1).1,())) none⟩
def q05:Sm:=⟨[qae,.list qac],[(true,cAct),(false,.int .i64)],fun x=>some ((S.plan x.1 x.2.1).1,(S.plan x.1 x.2.1).2,())⟩
def zma:Sm:=⟨[qae,.list qac],[(false,qae),(false,.int .i64)],fun x=>some ((S.commitJ x.1 x.2.1).1,(S.commitJ x.1 x.2.1).2,())⟩
def q40:Sm:=⟨[qae],[(true,cAct),(false,.int .i64)],fun x=>some ((S.planTurn x.1).1,(S.planTurn x.1).2,())⟩
def zmy:Sm:=⟨[qae],[(false,qae),(false,.int .i64)],fun x=>some ((S.turnJ x.1).1,(S.turnJ x.1).2,())⟩
def q94:Sm:=⟨[qae,.list qac],[(false,qae),(false,.int .i64)],fun x=>some ((S.save x.1 x.2.1).1,(S.save x.1 x.2.1).2,())⟩
def S.oneN(s:ByteArray)(n:Int):Bool:=keqS s (S.lit [0])&&decide (n=64)
def q8l:Sm:=⟨[.str,.int .i64],[(false,.str)],fun x=>cond (S.oneN x.1 x.2.1) (some (S.blank,())) none⟩
def S.applied(m:List (Int × ByteArray))(l:List qaa):List (Int × ByteArray):=l.foldl (fun m c=>cond c.2.2 (mdel (vc:=.str) (.int .i64) c.1 m) (mset (vc:=.str) (.int .i64) c.1 c.2.1 m)) m
def qn0:SmR:=⟨[.ref (.mp (.int .i64) .str),.dat (.list qac)],[],fun x=>match x.1 with
 | some m=>some ((),(some (S.applied m x.2.1),()))
 | none=>none⟩
def S.madeD:qaf:=(S.doD (S.newDisk 8).1 (S.format (S.newDisk 8).1).1).1
def S.madeJ:qad:=(S.open_ S.madeD).1
def q4r:Sm:=⟨[.int .i64],[(false,qae),(false,.bool)],fun x=>cond (S.inI x.1 8 8) (some (S.madeJ,true,())) none⟩
def qyr:Sm:=⟨[],[(false,.bool)],fun _=>some (true,())⟩
abbrev DChg:Type:=qav
abbrev cChg:TC:=cCosignerlaw23Change
namespace S
def namesC(l:List qaa)(k:Int):Bool:=l.any fun c=>decide (c.1=k)
def brief(l:List (List DChg)):Bool:=l.all (fun x=>Nat.ble x.length 10)&&Nat.ble l.length 12
def cellOf(k:Nat)(c:DChg):qaa:=((k:Int),cond c.2.2.2 none_ (qag (List.replicate c.2.1.toNat c.2.2.1)),c.2.2.2)
def cells(l:List DChg):List qaa:=(List.range 25).filterMap fun(k:Nat)=>(l.reverse.find? fun c=>decide (c.1 % 25=(k:Int))).map (cellOf (k:Nat))
def afterK(was l:List qaa)(k:Nat):List qaa:=was.filter (fun c=>decide (c.1=(k:Int))&&!namesC l (k:Int))++l.filter fun c=>decide (c.1=(k:Int))&&!c.2.2
def after(was l:List qaa):List qaa:=(List.range 200).flatMap (afterK was l)
def evn(n:Int):Bool:=inI n 8 40&&decide (n % 2=0)
def madeD_(n:Int):qaf:=(doD (newDisk n).1 (format (newDisk n).1).1).1
def madeN(n:Int):qad:=(open_ (madeD_ n)).1
def playStep(j:qad)(l:List DChg):qad:=if (cells l).length=0 then j else if (save j (cells l)).2=0 then (save j (cells l)).1 else j
def played(s:Int)(l:List (List DChg)):qad:=l.foldl playStep (madeN (8+2*(s % 17)))
def cut(d:qaf)(l:List DAct)(m:Int)(k:List Int):qaf × Int:=crash (doD d (l.take m.toNat)).1 ((k.take (doD d (l.take m.toNat)).1.2.length).map (· % 65))
def saveO(j:qad)(l:List qaa):Option (qad × Int × Unit):=cond (sameJ j j) (some ((save j l).1,(save j l).2,())) none
def openO(d:qaf):Option (qad × Int × Unit):=cond (sameD d d) (some ((open_ d).1,(open_ d).2,())) none
def turnO(j:qad):Option (qad × Int × Unit):=cond (sameJ j j) (some ((turnJ j).1,(turnJ j).2,())) none
def roomO(j:qad):Option (Int × Int × Unit):=cond (sameJ j j) (some ((room j).1,(room j).2,())) none
def valueO(j:qad)(k:Int):Option (ByteArray × Bool × Int × Unit):=cond (sameJ j j) (some ((value j k).1,(value j k).2.1,(value j k).2.2,())) none
def afterO(was l:List qaa):Option (List qaa × Unit):=cond (mrg was l) (some (after was l,())) none
def playedO(s:Int)(l:List (List DChg)):Option (qad × Bool × Unit):=cond (brief l) (some (played s l,true,())) none
end S
def spz1:Sm:=⟨[.list qac,.int .i64],[(false,.bool)],fun x=>some (S.namesC x.1 x.2.1,())⟩
def spz2:Sm:=⟨[.list (.list cChg)],[(false,.bool)],fun x=>some (S.brief x.1,())⟩
def spz3:Sm:=⟨[.list cChg],[(true,qac)],fun x=>some (S.cells x.1,())⟩
def spz4:Sm:=⟨[.list qac,.list qac],[(true,qac)],fun x=>S.afterO x.1 x.2.1⟩
def q1d:Sm:=⟨[.int .i64],[(false,qae),(false,.bool)],fun x=>cond (S.evn x.1) (some (S.madeN x.1,true,())) none⟩
def spz5:Sm:=⟨[.int .u8,.list (.list cChg)],[(false,qae),(false,.bool)],fun x=>S.playedO x.1 x.2.1⟩
def qrv:Sm:=⟨[qae,.list qac],[(false,qae),(false,.int .i64)],fun x=>S.saveO x.1 x.2.1⟩
def q8y:Sm:=⟨[qam],[(false,qae),(false,.int .i64)],fun x=>S.openO x.1⟩
def qxm:Sm:=⟨[qae],[(false,qae),(false,.int .i64)],fun x=>S.turnO x.1⟩
def q8v:Sm:=⟨[qae],[(false,.int .i64),(false,.int .i64)],fun x=>S.roomO x.1⟩
def q6a:Sm:=⟨[qae,.int .i64],[(false,.str),(false,.bool),(false,.int .i64)],fun x=>S.valueO x.1 x.2.1⟩
def zc2:Sm:=⟨[.int .u8,.list (.list cChg),.list cChg,.list cChg,.int .u8],[(false,.bool)],fun _=>some (true,())⟩
theorem zcz:IdxFacts Tryz.prog ttT.get (.int .i64) qwn (cL qk4) (cL (cL (cR qk4))) (cB (cB (cR (cL (cR qk4))))) (cR (cR qk4)) :=
 ⟨by kernel_rfl,by kernel_rfl,fun mr=>by kernel_rfl,fun R clK B0 mr lf l g caps S kk=>by kernel_rfl,fun R clK B0 mr lf l g caps S kk=>by kernel_rfl,fun R clK B0 mr lf l g caps S i kk=>by kernel_rfl,fun R clK B0 mr lf fr S kk=>by kernel_rfl,by kernel_rfl,by kernel_rfl,fun mr=>by kernel_rfl⟩
theorem zg2:HxOK Tryz.prog 103 (idxF (.int .i64)):=qqk zcz mixed ttOK q5p
theorem zcn:IdxFacts Tryz.prog ttT.get cPut qtn (cL qke) (cL (cL (cR qke))) (cB (cB (cR (cL (cR qke))))) (cR (cR qke)) :=
 ⟨by kernel_rfl,by kernel_rfl,fun mr=>by kernel_rfl,fun R clK B0 mr lf l g caps S kk=>by kernel_rfl,fun R clK B0 mr lf l g caps S kk=>by kernel_rfl,fun R clK B0 mr lf l g caps S i kk=>by kernel_rfl,fun R clK B0 mr lf fr S kk=>by kernel_rfl,by kernel_rfl,by kernel_rfl,fun mr=>by kernel_rfl⟩
theorem zkf:HxOK Tryz.prog 104 (idxF cPut):=qqk zcn mixed ttOK q6f
theorem zb2:IdxFacts Tryz.prog ttT.get .str qtw (cL qkr) (cL (cL (cR qkr))) (cB (cB (cR (cL (cR qkr))))) (cR (cR qkr)) :=
 ⟨by kernel_rfl,by kernel_rfl,fun mr=>by kernel_rfl,fun R clK B0 mr lf l g caps S kk=>by kernel_rfl,fun R clK B0 mr lf l g caps S kk=>by kernel_rfl,fun R clK B0 mr lf l g caps S i kk=>by kernel_rfl,fun R clK B0 mr lf fr S kk=>by kernel_rfl,by kernel_rfl,by kernel_rfl,fun mr=>by kernel_rfl⟩
theorem zew:HxOK Tryz.prog 105 (idxF .str):=qqk zb2 mixed ttOK q9h
theorem zdn:IdxFacts Tryz.prog ttT.get qac qvo (cL qjz) (cL (cL (cR qjz))) (cB (cB (cR (cL (cR qjz))))) (cR (cR qjz)) :=
 ⟨by kernel_rfl,by kernel_rfl,fun mr=>by kernel_rfl,fun R clK B0 mr lf l g caps S kk=>by kernel_rfl,fun R clK B0 mr lf l g caps S kk=>by kernel_rfl,fun R clK B0 mr lf l g caps S i kk=>by kernel_rfl,fun R clK B0 mr lf fr S kk=>by kernel_rfl,by kernel_rfl,by kernel_rfl,fun mr=>by kernel_rfl⟩
theorem zn1:HxOK Tryz.prog 113 (idxF qac):=qqk zdn mixed ttOK q4p
def nmz1:Nat->Option Nm:=fun k=>cond (Nat.beq k 2) (some ⟨[0,1,5],[],[],[],[],0,0,false⟩) (none)
def stz1:Nat->Bool:=fun k=>cond (Nat.beq k 2) true (false)
def hdz1:=stz1
abbrev Rtz1:Type:=Bool × Unit
def q11:List (Nat × Sm):=[]
def qzs:List (Nat × Hx):=[]
def clz1(R:Type)(lf:Nat):ClK R:=qa2 Tryz.prog ttT.get ftT.get (nm1 51 nmz1) (smL q11) (hxL qzs) lf 20 R
abbrev idz1:Nat:=51
def qhs(x1:(List qaa))(x2:Int)(p:Int):NRes:=(NRes.mk (.node (some (IV.lst qac x1)) (.node (some (IV.int .i64 x2)) .leaf (.node (some (IV.int .i64 p)) .leaf .leaf)) .leaf) (IS.mk .leaf 0) [] 0)
def quw(lf:Nat)(x1:(List qaa))(x2:Int)(L2:Int->Option Rtz1):Option Rtz1:=(L2 (Int.ofNat 0))
def qle(lf:Nat)(x1:(List qaa))(x2:Int)(L2:Int->Option Rtz1)(p:Int):Option Rtz1:=(cond (iltI p (Int.ofNat x1.length)) (match (jget x1 p) with|none=>none|some v0=>(cond (ieqI v0.1 x2) (some (true,())) (L2 (IntKind.i64.wrap (Int.add p (Int.ofNat 1)))))) (some (false,())))
abbrev gz1:Type:=ElA [(.list qac),(.int .i64)]->Option Rtz1
abbrev sz1(g:gz1):Sm:=⟨[(.list qac),(.int .i64)],[(false,.bool)],g⟩
abbrev Ez1(g:gz1)(J:JT Rtz1)(lf:Nat)(x1:(List qaa))(x2:Int):=qbq Tryz.prog ttT.get nmz1 fi51.nt (clz1 _ lf) lf stz1 J fi51.body [] (qaz (argV [(.list qac),(.int .i64)] (x1,x2,())) 0 .leaf) S0 [] (qay ttT.get fi51 (sz1 g))
abbrev Bz1(g:gz1)(J:JT Rtz1)(lf k:Nat)(ms:List Nat)(q:NRes):=qb1 Tryz.prog ttT.get nmz1 fi51.nt (clz1 _ lf) lf stz1 J k fi51.body [] ms q (qay ttT.get fi51 (sz1 g))
theorem inz1(g:gz1)(J:JT Rtz1)(lf:Nat)(x1:(List qaa))(x2:Int):Ez1 g J lf x1 x2=quw lf x1 x2 (fun q=>J 2 [lf] (qhs x1 x2 q)):=by kernel_rfl
theorem zfb(g:gz1)(J:JT Rtz1)(lf:Nat)(x1:(List qaa))(x2:Int)(m1:Nat)(p:Int):Bz1 g J lf 2 [m1] (qhs x1 x2 p)=qle lf x1 x2 (fun q=>J 2 [m1] (qhs x1 x2 q)) p:=by kernel_rfl
theorem ndz1:(regs fi51.body).Nodup:=by decide +kernel
theorem okz1:okC nmz1 stz1 hdz1 fi51.body none=true:=by kernel_rfl
def Az1(g:gz1)(lf:Nat):JT Rtz1:=atN Tryz.prog ttT.get nmz1 fi51 (sz1 g) (clz1 _ lf) lf hdz1
def qnp(lf:Nat)(x1:(List qaa))(x2:Int):Nat->(Int)->Option Rtz1:=qa1 fun K p=>qle lf x1 x2 K p
theorem q60(g:gz1)(lf:Nat)(x1:(List qaa))(x2:Int):∀(n:Nat) (p:Int),Az1 g lf 2 [n] (qhs x1 x2 p)=qnp lf x1 x2 n p
 | 0,p=>qbn 2 [0] rfl _
 | n+1,p=>by
  have ih:=q60 g lf x1 x2 n;refine(qbp (qa5 20 _) ndz1 okz1 2 [n+1] [n] rfl _).trans ((zfb g (Az1 g lf) lf x1 x2 n p).trans ?_);rw[(show (fun q=>Az1 g lf 2 [n] (qhs x1 x2 q))=(fun q=>qnp lf x1 x2 n q) from funext ih)];rfl
def Fz1(lf:Nat)(x1:(List qaa))(x2:Int):Option Rtz1:=quw lf x1 x2 (fun q=>qnp lf x1 x2 lf q)
theorem zfz(g:gz1)(lf:Nat)(x1:(List qaa))(x2:Int):Ez1 g (Az1 g lf) lf x1 x2=Fz1 lf x1 x2:=by
  refine(inz1 g (Az1 g lf) lf x1 x2).trans ?_;rw[(show (fun q=>Az1 g lf 2 [lf] (qhs x1 x2 q))=(fun q=>qnp lf x1 x2 lf q) from funext fun q=>q60 g lf x1 x2 lf q)];rfl
theorem zkt:qa9 Tryz.prog qzs:=trivial
theorem mkz1{g:gz1}(hsm:SmOK Tryz.prog q11)(hg:∀(x:ElA [(.list qac),(.int .i64)]) (y:Rtz1),WfA [(.list qac),(.int .i64)] x->g x=some y->∃lf,Fz1 lf x.1 x.2.1=some y):Con Tryz.prog 51 ⟨[(.list qac),(.int .i64)],[(false,.bool)],g⟩ :=
 conV (st:=stz1) (fun lf x=>Fz1 lf x.1 x.2.1) cm3 zq7 zkt ndz1 okz1 (fun lf x=>zfz g lf x.1 x.2.1) hsm hg
def nmz2:Nat->Option Nm:=fun k=>cond (Nat.beq k 2) (some ⟨[0,3],[],[],[],[],0,0,false⟩) (none)
def stz2:Nat->Bool:=fun k=>cond (Nat.beq k 2) true (false)
def hdz2:=stz2
abbrev Rtz2:Type:=Bool × Unit
def q02:List (Nat × Sm):=[]
def q7d:List (Nat × Hx):=[]
def clz2(R:Type)(lf:Nat):ClK R:=qa2 Tryz.prog ttT.get ftT.get (nm1 45 nmz2) (smL q02) (hxL q7d) lf 20 R
abbrev idz2:Nat:=45
def qia(x1:(List (List qav)))(p:Int):NRes:=(NRes.mk (.node (some (IV.lst (TC.list cCosignerlaw23Change) x1)) (.node none (.node (some (IV.int .i64 p)) .leaf .leaf) .leaf) .leaf) (IS.mk .leaf 0) [] 0)
def qvn(lf:Nat)(x1:(List (List qav)))(L2:Int->Option Rtz2):Option Rtz2:=(L2 (Int.ofNat 0))
def qme(lf:Nat)(x1:(List (List qav)))(L2:Int->Option Rtz2)(p:Int):Option Rtz2:=(cond (iltI p (Int.ofNat x1.length)) (match (jget x1 p) with|none=>none|some v0=>(cond (iltI (Int.ofNat 10) (Int.ofNat v0.length)) (some (false,())) (L2 (IntKind.i64.wrap (Int.add p (Int.ofNat 1)))))) (some ((Bool.not (iltI (Int.ofNat 12) (Int.ofNat x1.length))),())))
abbrev gz2:Type:=ElA [(.list (.list cCosignerlaw23Change))]->Option Rtz2
abbrev sz2(g:gz2):Sm:=⟨[(.list (.list cCosignerlaw23Change))],[(false,.bool)],g⟩
abbrev Ez2(g:gz2)(J:JT Rtz2)(lf:Nat)(x1:(List (List qav))):=qbq Tryz.prog ttT.get nmz2 fi45.nt (clz2 _ lf) lf stz2 J fi45.body [] (qaz (argV [(.list (.list cCosignerlaw23Change))] (x1,())) 0 .leaf) S0 [] (qay ttT.get fi45 (sz2 g))
abbrev Bz2(g:gz2)(J:JT Rtz2)(lf k:Nat)(ms:List Nat)(q:NRes):=qb1 Tryz.prog ttT.get nmz2 fi45.nt (clz2 _ lf) lf stz2 J k fi45.body [] ms q (qay ttT.get fi45 (sz2 g))
theorem inz2(g:gz2)(J:JT Rtz2)(lf:Nat)(x1:(List (List qav))):Ez2 g J lf x1=qvn lf x1 (fun q=>J 2 [lf] (qia x1 q)):=by kernel_rfl
theorem zbu(g:gz2)(J:JT Rtz2)(lf:Nat)(x1:(List (List qav)))(m1:Nat)(p:Int):Bz2 g J lf 2 [m1] (qia x1 p)=qme lf x1 (fun q=>J 2 [m1] (qia x1 q)) p:=by kernel_rfl
theorem ndz2:(regs fi45.body).Nodup:=by decide +kernel
theorem okz2:okC nmz2 stz2 hdz2 fi45.body none=true:=by kernel_rfl
def Az2(g:gz2)(lf:Nat):JT Rtz2:=atN Tryz.prog ttT.get nmz2 fi45 (sz2 g) (clz2 _ lf) lf hdz2
def qp1(lf:Nat)(x1:(List (List qav))):Nat->(Int)->Option Rtz2:=qa1 fun K p=>qme lf x1 K p
theorem q2j(g:gz2)(lf:Nat)(x1:(List (List qav))):∀(n:Nat) (p:Int),Az2 g lf 2 [n] (qia x1 p)=qp1 lf x1 n p
 | 0,p=>qbn 2 [0] rfl _
 | n+1,p=>by
  have ih:=q2j g lf x1 n;refine(qbp (qa5 20 _) ndz2 okz2 2 [n+1] [n] rfl _).trans ((zbu g (Az2 g lf) lf x1 n p).trans ?_);rw[(show (fun q=>Az2 g lf 2 [n] (qia x1 q))=(fun q=>qp1 lf x1 n q) from funext ih)];rfl
def Fz2(lf:Nat)(x1:(List (List qav))):Option Rtz2:=qvn lf x1 (fun q=>qp1 lf x1 lf q)
theorem zji(g:gz2)(lf:Nat)(x1:(List (List qav))):Ez2 g (Az2 g lf) lf x1=Fz2 lf x1:=by
  refine(inz2 g (Az2 g lf) lf x1).trans ?_;rw[(show (fun q=>Az2 g lf 2 [lf] (qia x1 q))=(fun q=>qp1 lf x1 lf q) from funext fun q=>q2j g lf x1 lf q)];rfl
theorem zf1:qa9 Tryz.prog q7d:=trivial
theorem mkz2{g:gz2}(hsm:SmOK Tryz.prog q02)(hg:∀(x:ElA [(.list (.list cCosignerlaw23Change))]) (y:Rtz2),WfA [(.list (.list cCosignerlaw23Change))] x->g x=some y->∃lf,Fz2 lf x.1=some y):Con Tryz.prog 45 ⟨[(.list (.list cCosignerlaw23Change))],[(false,.bool)],g⟩ :=
 conV (st:=stz2) (fun lf x=>Fz2 lf x.1) cm3 zni zf1 ndz2 okz2 (fun lf x=>zji g lf x.1) hsm hg
def nmz3:Nat->Option Nm:=fun k=>cond (Nat.beq k 3) (some ⟨[0,3,4],[(3,qac)],[],[],[],0,0,false⟩) (cond (Nat.beq k 6) (some ⟨[0,3,4,5],[(3,qac)],[],[],[],0,0,false⟩) (cond (Nat.beq k 11) (some ⟨[0,3,4,5,6,7],[(3,qac)],[],[],[],0,0,false⟩) (none)))
def stz3:Nat->Bool:=fun k=>cond (Nat.beq k 3) true (cond (Nat.beq k 6) true (cond (Nat.beq k 11) true (false)))
def hdz3:=stz3
abbrev Rtz3:Type:=(List qaa) × Unit
def q7p:List (Nat × Sm):=[]
def q6w:List (Nat × Hx):=[]
def clz3(R:Type)(lf:Nat):ClK R:=qa2 Tryz.prog ttT.get ftT.get (nm1 47 nmz3) (smL q7p) (hxL q6w) lf 20 R
abbrev idz3:Nat:=47
def qdg(x1:(List qav))(p:Int × (List qaa)):NRes:=(NRes.mk (.node (some (IV.lst cCosignerlaw23Change x1)) (.node none (.node (some (IV.arr 0)) .leaf .leaf) .leaf) (.node none (.node (some (IV.int .i64 p.1)) .leaf .leaf) .leaf)) (IS.mk (.node (some (IObj.arr qac p.2)) .leaf .leaf) 1) [] 0)
def qe3(x1:(List qav))(p:Int × Int × (List qaa)):NRes:=(NRes.mk (.node (some (IV.lst cCosignerlaw23Change x1)) (.node none (.node (some (IV.arr 0)) .leaf .leaf) (.node (some (IV.int .i64 p.1)) .leaf .leaf)) (.node none (.node (some (IV.int .i64 p.2.1)) .leaf .leaf) .leaf)) (IS.mk (.node (some (IObj.arr qac p.2.2)) .leaf .leaf) 1) [] 0)
def qho(x1:(List qav))(p:Bool × Int × Int × ByteArray × Int × (List qaa) × Int):NRes:=(NRes.mk (.node (some (IV.lst cCosignerlaw23Change x1)) (.node none (.node (some (IV.arr 0)) (.node (some (IV.int .i64 p.2.2.1)) .leaf .leaf) .leaf) (.node (some (IV.int .i64 p.2.1)) .leaf .leaf)) (.node none (.node (some (IV.int .i64 p.2.2.2.2.1)) .leaf .leaf) (.node (some (IV.ptr 1 0)) .leaf .leaf))) (IS.mk (.node (some (IObj.arr qac p.2.2.2.2.2.1)) (.node (some (IObj.row (List.cons (IV.int .i64 p.2.2.2.2.2.2) (List.cons (IV.str p.2.2.2.1) [(IV.bool p.1)])))) .leaf .leaf) .leaf) 2) [] 0)
def qwe(lf:Nat)(x1:(List qav))(L3:(Int × (List qaa))->Option Rtz3):Option Rtz3:=(L3 ((Int.ofNat 0),[]))
def qoj(lf:Nat)(x1:(List qav))(L6:(Int × Int × (List qaa))->Option Rtz3)(p:Int × (List qaa)):Option Rtz3:=(cond (Bool.not (iltI (Int.ofNat 24) p.1)) (L6 ((IntKind.i64.wrap (Int.sub (Int.ofNat x1.length) (Int.ofNat 1))),p.1,p.2)) (some (p.2,())))
def qm8(lf:Nat)(x1:(List qav))(L6:(Int × Int × (List qaa))->Option Rtz3)(L11:(Bool × Int × Int × ByteArray × Int × (List qaa) × Int)->Option Rtz3)(L3:(Int × (List qaa))->Option Rtz3)(p:Int × Int × (List qaa)):Option Rtz3:=(cond (Bool.not (iltI p.1 (Int.ofNat 0))) (match (jget x1 p.1) with|none=>none|some v0=>(cond (Bool.not (ieqI (Int.tmod (IntKind.i64.wrap v0.1) (Int.ofNat 25)) p.2.1)) (L6 ((IntKind.i64.wrap (Int.sub p.1 (Int.ofNat 1))),p.2.1,p.2.2)) (match (jget x1 p.1) with|none=>none|some v26=>(L11 (v26.2.2.2,p.1,(Int.ofNat 0),(S.lit []),p.2.1,p.2.2,p.2.1))))) (L3 ((IntKind.i64.wrap (Int.add p.2.1 (Int.ofNat 1))),p.2.2)))
def qpj(lf:Nat)(x1:(List qav))(L11:(Bool × Int × Int × ByteArray × Int × (List qaa) × Int)->Option Rtz3)(L3:(Int × (List qaa))->Option Rtz3)(p:Bool × Int × Int × ByteArray × Int × (List qaa) × Int):Option Rtz3:=(match (jget x1 p.2.1) with|none=>none|some v0=>(cond (iltI p.2.2.1 (IntKind.i64.wrap v0.2.1)) (cond (Bool.not p.1) (match (jget x1 p.2.1) with|none=>none|some v1=>(cond (Nat.ble (Nat.succ (Nat.add p.2.2.2.1.size 1)) 9223372036854775808) (L11 (p.1,p.2.1,(IntKind.i64.wrap (Int.add p.2.2.1 (Int.ofNat 1))),(ByteArray.append p.2.2.2.1 (ByteArray.mk (Array.mk (List.cons (UInt8.ofBitVec (BitVec.ofFin (Fin.mk (Nat.mod (Int.toNat v1.2.2.1) 256) (jc1 (Int.toNat v1.2.2.1) (BitVec.ofNat._proof_1 (OfNat.ofNat 8)))))) [])))),p.2.2.2.2.1,p.2.2.2.2.2.1,p.2.2.2.2.2.2)) none)) (cond (Nat.ble (Nat.mul (Nat.add p.2.2.2.2.2.1.length 1) 32) 140737488355328) (L3 ((IntKind.i64.wrap (Int.add p.2.2.2.2.1 (Int.ofNat 1))),(List.append p.2.2.2.2.2.1 [(p.2.2.2.2.2.2,(p.2.2.2.1,p.1))]))) none)) (cond (Nat.ble (Nat.mul (Nat.add p.2.2.2.2.2.1.length 1) 32) 140737488355328) (L3 ((IntKind.i64.wrap (Int.add p.2.2.2.2.1 (Int.ofNat 1))),(List.append p.2.2.2.2.2.1 [(p.2.2.2.2.2.2,(p.2.2.2.1,p.1))]))) none)))
abbrev gz3:Type:=ElA [(.list cCosignerlaw23Change)]->Option Rtz3
abbrev sz3(g:gz3):Sm:=⟨[(.list cCosignerlaw23Change)],[(true,qac)],g⟩
abbrev Ez3(g:gz3)(J:JT Rtz3)(lf:Nat)(x1:(List qav)):=qbq Tryz.prog ttT.get nmz3 fi47.nt (clz3 _ lf) lf stz3 J fi47.body [] (qaz (argV [(.list cCosignerlaw23Change)] (x1,())) 0 .leaf) S0 [] (qay ttT.get fi47 (sz3 g))
abbrev Bz3(g:gz3)(J:JT Rtz3)(lf k:Nat)(ms:List Nat)(q:NRes):=qb1 Tryz.prog ttT.get nmz3 fi47.nt (clz3 _ lf) lf stz3 J k fi47.body [] ms q (qay ttT.get fi47 (sz3 g))
theorem inz3(g:gz3)(J:JT Rtz3)(lf:Nat)(x1:(List qav)):Ez3 g J lf x1=qwe lf x1 (fun q=>J 3 [lf] (qdg x1 q)):=by kernel_rfl
theorem zqm(g:gz3)(J:JT Rtz3)(lf:Nat)(x1:(List qav))(m1:Nat)(p:Int × (List qaa)):Bz3 g J lf 3 [m1] (qdg x1 p)=qoj lf x1 (fun q=>J 6 [m1,lf] (qe3 x1 q)) p:=by kernel_rfl
theorem zp3(g:gz3)(J:JT Rtz3)(lf:Nat)(x1:(List qav))(m1:Nat)(m2:Nat)(p:Int × Int × (List qaa)):Bz3 g J lf 6 [m1,m2] (qe3 x1 p)=qm8 lf x1 (fun q=>J 6 [m1,m2] (qe3 x1 q)) (fun q=>J 11 [m1,m2,lf] (qho x1 q)) (fun q=>J 3 [m1] (qdg x1 q)) p:=by kernel_rfl
theorem zk0(g:gz3)(J:JT Rtz3)(lf:Nat)(x1:(List qav))(m1:Nat)(m2:Nat)(m3:Nat)(p:Bool × Int × Int × ByteArray × Int × (List qaa) × Int):Bz3 g J lf 11 [m1,m2,m3] (qho x1 p)=qpj lf x1 (fun q=>J 11 [m1,m2,m3] (qho x1 q)) (fun q=>J 3 [m1] (qdg x1 q)) p:=by kernel_rfl
theorem ndz3:(regs fi47.body).Nodup:=by decide +kernel
theorem okz3:okC nmz3 stz3 hdz3 fi47.body none=true:=by kernel_rfl
def Az3(g:gz3)(lf:Nat):JT Rtz3:=atN Tryz.prog ttT.get nmz3 fi47 (sz3 g) (clz3 _ lf) lf hdz3
def qf5(lf:Nat)(x1:(List qav))(K3:(Int × (List qaa))->Option Rtz3)(K6:(Int × Int × (List qaa))->Option Rtz3):Nat->(Bool × Int × Int × ByteArray × Int × (List qaa) × Int)->Option Rtz3:=qa1 fun K p=>qpj lf x1 K K3 p
theorem q39(g:gz3)(lf:Nat)(x1:(List qav))(m1:Nat)(m2:Nat):∀(n:Nat) (p:Bool × Int × Int × ByteArray × Int × (List qaa) × Int),Az3 g lf 11 [m1,m2,n] (qho x1 p)=qf5 lf x1 (fun q=>Az3 g lf 3 [m1] (qdg x1 q)) (fun q=>Az3 g lf 6 [m1,m2] (qe3 x1 q)) n p
 | 0,p=>qbn 11 [m1,m2,0] rfl _
 | n+1,p=>by
  have ih:=q39 g lf x1 m1 m2 n;refine(qbp (qa5 20 _) ndz3 okz3 11 [m1,m2,n+1] [m1,m2,n] rfl _).trans ((zk0 g (Az3 g lf) lf x1 m1 m2 n p).trans ?_);rw[(show (fun q=>Az3 g lf 11 [m1,m2,n] (qho x1 q))=(fun q=>qf5 lf x1 (fun q=>Az3 g lf 3 [m1] (qdg x1 q)) (fun q=>Az3 g lf 6 [m1,m2] (qe3 x1 q)) n q) from funext ih)];rfl
def qfm(lf:Nat)(x1:(List qav))(K3:(Int × (List qaa))->Option Rtz3):Nat->(Int × Int × (List qaa))->Option Rtz3:=qa1 fun K p=>qm8 lf x1 K (fun q=>qf5 lf x1 K3 K lf q) K3 p
theorem q3t(g:gz3)(lf:Nat)(x1:(List qav))(m1:Nat):∀(n:Nat) (p:Int × Int × (List qaa)),Az3 g lf 6 [m1,n] (qe3 x1 p)=qfm lf x1 (fun q=>Az3 g lf 3 [m1] (qdg x1 q)) n p
 | 0,p=>qbn 6 [m1,0] rfl _
 | n+1,p=>by
  have ih:=q3t g lf x1 m1 n;refine(qbp (qa5 20 _) ndz3 okz3 6 [m1,n+1] [m1,n] rfl _).trans ((zp3 g (Az3 g lf) lf x1 m1 n p).trans ?_);rw[(show (fun q=>Az3 g lf 11 [m1,n,lf] (qho x1 q))=(fun q=>qf5 lf x1 (fun q=>Az3 g lf 3 [m1] (qdg x1 q)) (fun q=>Az3 g lf 6 [m1,n] (qe3 x1 q)) lf q) from funext fun q=>q39 g lf x1 m1 n lf q),(show (fun q=>Az3 g lf 6 [m1,n] (qe3 x1 q))=(fun q=>qfm lf x1 (fun q=>Az3 g lf 3 [m1] (qdg x1 q)) n q) from funext ih)];rfl
def qhx(lf:Nat)(x1:(List qav)):Nat->(Int × (List qaa))->Option Rtz3:=qa1 fun K p=>qoj lf x1 (fun q=>qfm lf x1 K lf q) p
theorem q5r(g:gz3)(lf:Nat)(x1:(List qav)):∀(n:Nat) (p:Int × (List qaa)),Az3 g lf 3 [n] (qdg x1 p)=qhx lf x1 n p
 | 0,p=>qbn 3 [0] rfl _
 | n+1,p=>by
  have ih:=q5r g lf x1 n;refine(qbp (qa5 20 _) ndz3 okz3 3 [n+1] [n] rfl _).trans ((zqm g (Az3 g lf) lf x1 n p).trans ?_);rw[(show (fun q=>Az3 g lf 6 [n,lf] (qe3 x1 q))=(fun q=>qfm lf x1 (fun q=>Az3 g lf 3 [n] (qdg x1 q)) lf q) from funext fun q=>q3t g lf x1 n lf q),(show (fun q=>Az3 g lf 3 [n] (qdg x1 q))=(fun q=>qhx lf x1 n q) from funext ih)];rfl
def Fz3(lf:Nat)(x1:(List qav)):Option Rtz3:=qwe lf x1 (fun q=>qhx lf x1 lf q)
theorem zmc(g:gz3)(lf:Nat)(x1:(List qav)):Ez3 g (Az3 g lf) lf x1=Fz3 lf x1:=by
  refine(inz3 g (Az3 g lf) lf x1).trans ?_;rw[(show (fun q=>Az3 g lf 3 [lf] (qdg x1 q))=(fun q=>qhx lf x1 lf q) from funext fun q=>q5r g lf x1 lf q)];rfl
theorem zpa:qa9 Tryz.prog q6w:=trivial
theorem mkz3{g:gz3}(hsm:SmOK Tryz.prog q7p)(hg:∀(x:ElA [(.list cCosignerlaw23Change)]) (y:Rtz3),WfA [(.list cCosignerlaw23Change)] x->g x=some y->∃lf,Fz3 lf x.1=some y):Con Tryz.prog 47 ⟨[(.list cCosignerlaw23Change)],[(true,qac)],g⟩ :=
 conV (st:=stz3) (fun lf x=>Fz3 lf x.1) cm3 zp4 zpa ndz3 okz3 (fun lf x=>zmc g lf x.1) hsm hg
def nmz4:Nat->Option Nm:=fun k=>cond (Nat.beq k 3) (some ⟨[0,1,5,6],[(5,qac)],[],[],[],0,0,false⟩) (cond (Nat.beq k 6) (some ⟨[0,1,5,6,7],[(5,qac)],[],[],[],0,0,false⟩) (cond (Nat.beq k 11) (some ⟨[0,1,5,6,8],[(5,qac)],[],[],[],0,0,false⟩) (none)))
def stz4:Nat->Bool:=fun k=>cond (Nat.beq k 3) true (cond (Nat.beq k 6) true (cond (Nat.beq k 11) true (false)))
def hdz4:=stz4
abbrev Rtz4:Type:=(List qaa) × Unit
def q4t:List (Nat × Sm):=[(51,spz1)]
def q0e:List (Nat × Hx):=[]
def clz4(R:Type)(lf:Nat):ClK R:=qa2 Tryz.prog ttT.get ftT.get (nm1 48 nmz4) (smL q4t) (hxL q0e) lf 20 R
abbrev idz4:Nat:=48
def qdi(x1:(List qaa))(x2:(List qaa))(p:Int × (List qaa)):NRes:=(NRes.mk (.node (some (IV.lst qac x1)) (.node (some (IV.lst qac x2)) .leaf (.node (some (IV.arr 0)) .leaf .leaf)) (.node none .leaf (.node (some (IV.int .i64 p.1)) .leaf .leaf))) (IS.mk (.node (some (IObj.arr qac p.2)) .leaf .leaf) 1) [] 0)
def qhb(x1:(List qaa))(x2:(List qaa))(p:Int × (List qaa) × Int):NRes:=(NRes.mk (.node (some (IV.lst qac x1)) (.node (some (IV.lst qac x2)) (.node none (.node (some (IV.int .i64 p.1)) .leaf .leaf) .leaf) (.node (some (IV.arr 0)) .leaf .leaf)) (.node none .leaf (.node (some (IV.int .i64 p.2.2)) .leaf .leaf))) (IS.mk (.node (some (IObj.arr qac p.2.1)) .leaf .leaf) 1) [] 0)
def qh7(x1:(List qaa))(x2:(List qaa))(p:(List qaa) × Int × Int):NRes:=(NRes.mk (.node (some (IV.lst qac x1)) (.node (some (IV.lst qac x2)) .leaf (.node (some (IV.arr 0)) .leaf .leaf)) (.node none (.node none (.node (some (IV.int .i64 p.2.1)) .leaf .leaf) .leaf) (.node (some (IV.int .i64 p.2.2)) .leaf .leaf))) (IS.mk (.node (some (IObj.arr qac p.1)) .leaf .leaf) 1) [] 0)
def qvw(lf:Nat)(x1:(List qaa))(x2:(List qaa))(L3:(Int × (List qaa))->Option Rtz4):Option Rtz4:=(L3 ((Int.ofNat 0),[]))
def qmn(lf:Nat)(x1:(List qaa))(x2:(List qaa))(L6:(Int × (List qaa) × Int)->Option Rtz4)(p:Int × (List qaa)):Option Rtz4:=(cond (Bool.not (iltI (Int.ofNat 199) p.1)) (L6 ((Int.ofNat 0),p.2,p.1)) (some (p.2,())))
def qlt(lf:Nat)(x1:(List qaa))(x2:(List qaa))(L6:(Int × (List qaa) × Int)->Option Rtz4)(L11:((List qaa) × Int × Int)->Option Rtz4)(p:Int × (List qaa) × Int):Option Rtz4:=(cond (iltI p.1 (Int.ofNat x1.length)) (match (jget x1 p.1) with|none=>none|some v0=>(cond (ieqI v0.1 p.2.2) (cond (Bool.not (S.namesC x2 p.2.2)) (match (jget x1 p.1) with|none=>none|some v1=>(cond (Nat.ble (Nat.mul (Nat.add p.2.1.length 1) 32) 140737488355328) (L6 ((IntKind.i64.wrap (Int.add p.1 (Int.ofNat 1))),(List.append p.2.1 [(v1.1,(v1.2.1,v1.2.2))]),p.2.2)) none)) (L6 ((IntKind.i64.wrap (Int.add p.1 (Int.ofNat 1))),p.2.1,p.2.2))) (L6 ((IntKind.i64.wrap (Int.add p.1 (Int.ofNat 1))),p.2.1,p.2.2)))) (L11 (p.2.1,(Int.ofNat 0),p.2.2)))
def qka(lf:Nat)(x1:(List qaa))(x2:(List qaa))(L11:((List qaa) × Int × Int)->Option Rtz4)(L3:(Int × (List qaa))->Option Rtz4)(p:(List qaa) × Int × Int):Option Rtz4:=(cond (iltI p.2.1 (Int.ofNat x2.length)) (match (jget x2 p.2.1) with|none=>none|some v0=>(cond (ieqI v0.1 p.2.2) (match (jget x2 p.2.1) with|none=>none|some v1=>(cond (Bool.not v1.2.2) (match (jget x2 p.2.1) with|none=>none|some v2=>(cond (Nat.ble (Nat.mul (Nat.add p.1.length 1) 32) 140737488355328) (L11 ((List.append p.1 [(v2.1,(v2.2.1,v2.2.2))]),(IntKind.i64.wrap (Int.add p.2.1 (Int.ofNat 1))),p.2.2)) none)) (L11 (p.1,(IntKind.i64.wrap (Int.add p.2.1 (Int.ofNat 1))),p.2.2)))) (L11 (p.1,(IntKind.i64.wrap (Int.add p.2.1 (Int.ofNat 1))),p.2.2)))) (L3 ((IntKind.i64.wrap (Int.add p.2.2 (Int.ofNat 1))),p.1)))
abbrev gz4:Type:=ElA [(.list qac),(.list qac)]->Option Rtz4
abbrev sz4(g:gz4):Sm:=⟨[(.list qac),(.list qac)],[(true,qac)],g⟩
abbrev Ez4(g:gz4)(J:JT Rtz4)(lf:Nat)(x1:(List qaa))(x2:(List qaa)):=qbq Tryz.prog ttT.get nmz4 fi48.nt (clz4 _ lf) lf stz4 J fi48.body [] (qaz (argV [(.list qac),(.list qac)] (x1,x2,())) 0 .leaf) S0 [] (qay ttT.get fi48 (sz4 g))
abbrev Bz4(g:gz4)(J:JT Rtz4)(lf k:Nat)(ms:List Nat)(q:NRes):=qb1 Tryz.prog ttT.get nmz4 fi48.nt (clz4 _ lf) lf stz4 J k fi48.body [] ms q (qay ttT.get fi48 (sz4 g))
theorem inz4(g:gz4)(J:JT Rtz4)(lf:Nat)(x1:(List qaa))(x2:(List qaa)):Ez4 g J lf x1 x2=qvw lf x1 x2 (fun q=>J 3 [lf] (qdi x1 x2 q)):=by kernel_rfl
theorem zkj(g:gz4)(J:JT Rtz4)(lf:Nat)(x1:(List qaa))(x2:(List qaa))(m1:Nat)(p:Int × (List qaa)):Bz4 g J lf 3 [m1] (qdi x1 x2 p)=qmn lf x1 x2 (fun q=>J 6 [m1,lf] (qhb x1 x2 q)) p:=by kernel_rfl
theorem zlm(g:gz4)(J:JT Rtz4)(lf:Nat)(x1:(List qaa))(x2:(List qaa))(m1:Nat)(m2:Nat)(p:Int × (List qaa) × Int):Bz4 g J lf 6 [m1,m2] (qhb x1 x2 p)=qlt lf x1 x2 (fun q=>J 6 [m1,m2] (qhb x1 x2 q)) (fun q=>J 11 [m1,lf] (qh7 x1 x2 q)) p:=by kernel_rfl
theorem zd4(g:gz4)(J:JT Rtz4)(lf:Nat)(x1:(List qaa))(x2:(List qaa))(m1:Nat)(m2:Nat)(p:(List qaa) × Int × Int):Bz4 g J lf 11 [m1,m2] (qh7 x1 x2 p)=qka lf x1 x2 (fun q=>J 11 [m1,m2] (qh7 x1 x2 q)) (fun q=>J 3 [m1] (qdi x1 x2 q)) p:=by kernel_rfl
theorem ndz4:(regs fi48.body).Nodup:=by decide +kernel
theorem okz4:okC nmz4 stz4 hdz4 fi48.body none=true:=by kernel_rfl
def Az4(g:gz4)(lf:Nat):JT Rtz4:=atN Tryz.prog ttT.get nmz4 fi48 (sz4 g) (clz4 _ lf) lf hdz4
def qg8(lf:Nat)(x1:(List qaa))(x2:(List qaa))(K3:(Int × (List qaa))->Option Rtz4):Nat->((List qaa) × Int × Int)->Option Rtz4:=qa1 fun K p=>qka lf x1 x2 K K3 p
theorem q7z(g:gz4)(lf:Nat)(x1:(List qaa))(x2:(List qaa))(m1:Nat):∀(n:Nat) (p:(List qaa) × Int × Int),Az4 g lf 11 [m1,n] (qh7 x1 x2 p)=qg8 lf x1 x2 (fun q=>Az4 g lf 3 [m1] (qdi x1 x2 q)) n p
 | 0,p=>qbn 11 [m1,0] rfl _
 | n+1,p=>by
  have ih:=q7z g lf x1 x2 m1 n;refine(qbp (qa5 20 _) ndz4 okz4 11 [m1,n+1] [m1,n] rfl _).trans ((zd4 g (Az4 g lf) lf x1 x2 m1 n p).trans ?_);rw[(show (fun q=>Az4 g lf 11 [m1,n] (qh7 x1 x2 q))=(fun q=>qg8 lf x1 x2 (fun q=>Az4 g lf 3 [m1] (qdi x1 x2 q)) n q) from funext ih)];rfl
def qh9(lf:Nat)(x1:(List qaa))(x2:(List qaa))(K3:(Int × (List qaa))->Option Rtz4):Nat->(Int × (List qaa) × Int)->Option Rtz4:=qa1 fun K p=>qlt lf x1 x2 K (fun q=>qg8 lf x1 x2 K3 lf q) p
theorem qye(g:gz4)(lf:Nat)(x1:(List qaa))(x2:(List qaa))(m1:Nat):∀(n:Nat) (p:Int × (List qaa) × Int),Az4 g lf 6 [m1,n] (qhb x1 x2 p)=qh9 lf x1 x2 (fun q=>Az4 g lf 3 [m1] (qdi x1 x2 q)) n p
 | 0,p=>qbn 6 [m1,0] rfl _
 | n+1,p=>by
  have ih:=qye g lf x1 x2 m1 n;refine(qbp (qa5 20 _) ndz4 okz4 6 [m1,n+1] [m1,n] rfl _).trans ((zlm g (Az4 g lf) lf x1 x2 m1 n p).trans ?_);rw[(show (fun q=>Az4 g lf 11 [m1,lf] (qh7 x1 x2 q))=(fun q=>qg8 lf x1 x2 (fun q=>Az4 g lf 3 [m1] (qdi x1 x2 q)) lf q) from funext fun q=>q7z g lf x1 x2 m1 lf q),(show (fun q=>Az4 g lf 6 [m1,n] (qhb x1 x2 q))=(fun q=>qh9 lf x1 x2 (fun q=>Az4 g lf 3 [m1] (qdi x1 x2 q)) n q) from funext ih)];rfl
def qg7(lf:Nat)(x1:(List qaa))(x2:(List qaa)):Nat->(Int × (List qaa))->Option Rtz4:=qa1 fun K p=>qmn lf x1 x2 (fun q=>qh9 lf x1 x2 K lf q) p
theorem q9x(g:gz4)(lf:Nat)(x1:(List qaa))(x2:(List qaa)):∀(n:Nat) (p:Int × (List qaa)),Az4 g lf 3 [n] (qdi x1 x2 p)=qg7 lf x1 x2 n p
 | 0,p=>qbn 3 [0] rfl _
 | n+1,p=>by
  have ih:=q9x g lf x1 x2 n;refine(qbp (qa5 20 _) ndz4 okz4 3 [n+1] [n] rfl _).trans ((zkj g (Az4 g lf) lf x1 x2 n p).trans ?_);rw[(show (fun q=>Az4 g lf 6 [n,lf] (qhb x1 x2 q))=(fun q=>qh9 lf x1 x2 (fun q=>Az4 g lf 3 [n] (qdi x1 x2 q)) lf q) from funext fun q=>qye g lf x1 x2 n lf q),(show (fun q=>Az4 g lf 3 [n] (qdi x1 x2 q))=(fun q=>qg7 lf x1 x2 n q) from funext ih)];rfl
def Fz4(lf:Nat)(x1:(List qaa))(x2:(List qaa)):Option Rtz4:=qvw lf x1 x2 (fun q=>qg7 lf x1 x2 lf q)
theorem zh3(g:gz4)(lf:Nat)(x1:(List qaa))(x2:(List qaa)):Ez4 g (Az4 g lf) lf x1 x2=Fz4 lf x1 x2:=by
  refine(inz4 g (Az4 g lf) lf x1 x2).trans ?_;rw[(show (fun q=>Az4 g lf 3 [lf] (qdi x1 x2 q))=(fun q=>qg7 lf x1 x2 lf q) from funext fun q=>q9x g lf x1 x2 lf q)];rfl
theorem zjh:qa9 Tryz.prog q0e:=trivial
theorem mkz4{g:gz4}(hsm:SmOK Tryz.prog q4t)(hg:∀(x:ElA [(.list qac),(.list qac)]) (y:Rtz4),WfA [(.list qac),(.list qac)] x->g x=some y->∃lf,Fz4 lf x.1 x.2.1=some y):Con Tryz.prog 48 ⟨[(.list qac),(.list qac)],[(true,qac)],g⟩ :=
 conV (st:=stz4) (fun lf x=>Fz4 lf x.1 x.2.1) cm3 zq6 zjh ndz4 okz4 (fun lf x=>zh3 g lf x.1 x.2.1) hsm hg
def nmz5:Nat->Option Nm:=fun k=>cond (Nat.beq k 3) (some ⟨[1,4,6,7,8],[],[],[],[],0,0,false⟩) (none)
def stz5:Nat->Bool:=fun k=>cond (Nat.beq k 3) true (false)
def hdz5:=stz5
abbrev Rtz5:Type:=qad × Bool × Unit
def q2b:List (Nat × Sm):=[(52,q1d),(47,spz3),(43,qrv)]
def q9i:List (Nat × Hx):=[]
def clz5(R:Type)(lf:Nat):ClK R:=qa2 Tryz.prog ttT.get ftT.get (nm1 46 nmz5) (smL q2b) (hxL q9i) lf 20 R
abbrev idz5:Nat:=46
def qi3(x1:Int)(x2:(List (List qav)))(p:Bool × (List DPut) × (List ByteArray) × Int × (List qaa) × Int × Int):NRes:=(NRes.mk (.node none (.node (some (IV.lst (TC.list cCosignerlaw23Change) x2)) (.node none (.node (some (IV.bool p.1)) .leaf .leaf) .leaf) .leaf) (.node none (.node (some (IV.ptr 0 0)) (.node (some (IV.int .i64 p.2.2.2.2.2.2)) .leaf .leaf) .leaf) (.node (some (IV.ptr 1 0)) .leaf .leaf))) (IS.mk (.node (some (IObj.row (List.cons IV.nilsl (List.cons IV.nilsl (List.cons (IV.int .i64 (Int.ofNat 0)) (List.cons (IV.int .i64 (Int.ofNat 0)) [IV.nilsl])))))) (.node (some (IObj.row (List.cons (IV.lst TC.str p.2.2.1) (List.cons (IV.lst cPut p.2.1) (List.cons (IV.int .i64 p.2.2.2.1) (List.cons (IV.int .i64 p.2.2.2.2.2.1) [(IV.lst qac p.2.2.2.2.1)])))))) .leaf .leaf) .leaf) 2) [] 0)
def qt3(lf:Nat)(x1:Int)(x2:(List (List qav)))(L3:(Bool × (List DPut) × (List ByteArray) × Int × (List qaa) × Int × Int)->Option Rtz5):Option Rtz5:=(match (cond (S.evn (IntKind.i64.wrap (Int.add (Int.ofNat 8) (IntKind.i64.wrap (Int.mul (Int.ofNat 2) (IntKind.i64.wrap (Int.tmod x1 (Int.ofNat 17)))))))) (some ((S.madeN (IntKind.i64.wrap (Int.add (Int.ofNat 8) (IntKind.i64.wrap (Int.mul (Int.ofNat 2) (IntKind.i64.wrap (Int.tmod x1 (Int.ofNat 17)))))))),(true,()))) none) with|none=>none|some v0=>(L3 (v0.2.1,v0.1.1.2,v0.1.1.1,v0.1.2.1,v0.1.2.2.2,v0.1.2.2.1,(Int.ofNat 0))))
def qlo(lf:Nat)(x1:Int)(x2:(List (List qav)))(L3:(Bool × (List DPut) × (List ByteArray) × Int × (List qaa) × Int × Int)->Option Rtz5)(p:Bool × (List DPut) × (List ByteArray) × Int × (List qaa) × Int × Int):Option Rtz5:=(cond (iltI p.2.2.2.2.2.2 (Int.ofNat x2.length)) (cond p.1 (match (jget x2 p.2.2.2.2.2.2) with|none=>none|some v0=>(cond (ieqI (Int.ofNat (List.length (S.cells v0))) (Int.ofNat 0)) (L3 (p.1,p.2.1,p.2.2.1,p.2.2.2.1,p.2.2.2.2.1,p.2.2.2.2.2.1,(IntKind.i64.wrap (Int.add p.2.2.2.2.2.2 (Int.ofNat 1))))) (match (S.saveO ((p.2.2.1,p.2.1),(p.2.2.2.1,(p.2.2.2.2.2.1,p.2.2.2.2.1))) (S.cells v0)) with|none=>none|some v24=>(cond (ieqI v24.2.1 (Int.ofNat 0)) (cond (ieqI v24.2.1 (Int.ofNat 0)) (L3 (true,v24.1.1.2,v24.1.1.1,v24.1.2.1,v24.1.2.2.2,v24.1.2.2.1,(IntKind.i64.wrap (Int.add p.2.2.2.2.2.2 (Int.ofNat 1))))) (L3 ((ieqI v24.2.1 (Int.ofNat 14)),v24.1.1.2,v24.1.1.1,v24.1.2.1,v24.1.2.2.2,v24.1.2.2.1,(IntKind.i64.wrap (Int.add p.2.2.2.2.2.2 (Int.ofNat 1)))))) (cond (ieqI v24.2.1 (Int.ofNat 0)) (L3 (true,p.2.1,p.2.2.1,p.2.2.2.1,p.2.2.2.2.1,p.2.2.2.2.2.1,(IntKind.i64.wrap (Int.add p.2.2.2.2.2.2 (Int.ofNat 1))))) (L3 ((ieqI v24.2.1 (Int.ofNat 14)),p.2.1,p.2.2.1,p.2.2.2.1,p.2.2.2.2.1,p.2.2.2.2.2.1,(IntKind.i64.wrap (Int.add p.2.2.2.2.2.2 (Int.ofNat 1)))))))))) (some (((p.2.2.1,p.2.1),(p.2.2.2.1,(p.2.2.2.2.2.1,p.2.2.2.2.1))),(p.1,())))) (some (((p.2.2.1,p.2.1),(p.2.2.2.1,(p.2.2.2.2.2.1,p.2.2.2.2.1))),(p.1,()))))
abbrev gz5:Type:=ElA [(.int .u8),(.list (.list cCosignerlaw23Change))]->Option Rtz5
abbrev sz5(g:gz5):Sm:=⟨[(.int .u8),(.list (.list cCosignerlaw23Change))],[(false,qae),(false,.bool)],g⟩
abbrev Ez5(g:gz5)(J:JT Rtz5)(lf:Nat)(x1:Int)(x2:(List (List qav))):=qbq Tryz.prog ttT.get nmz5 fi46.nt (clz5 _ lf) lf stz5 J fi46.body [] (qaz (argV [(.int .u8),(.list (.list cCosignerlaw23Change))] (x1,x2,())) 0 .leaf) S0 [] (qay ttT.get fi46 (sz5 g))
abbrev Bz5(g:gz5)(J:JT Rtz5)(lf k:Nat)(ms:List Nat)(q:NRes):=qb1 Tryz.prog ttT.get nmz5 fi46.nt (clz5 _ lf) lf stz5 J k fi46.body [] ms q (qay ttT.get fi46 (sz5 g))
theorem inz5(g:gz5)(J:JT Rtz5)(lf:Nat)(x1:Int)(x2:(List (List qav))):Ez5 g J lf x1 x2=qt3 lf x1 x2 (fun q=>J 3 [lf] (qi3 x1 x2 q)):=by kernel_rfl
theorem zps(g:gz5)(J:JT Rtz5)(lf:Nat)(x1:Int)(x2:(List (List qav)))(m1:Nat)(p:Bool × (List DPut) × (List ByteArray) × Int × (List qaa) × Int × Int):Bz5 g J lf 3 [m1] (qi3 x1 x2 p)=qlo lf x1 x2 (fun q=>J 3 [m1] (qi3 x1 x2 q)) p:=by kernel_rfl
theorem ndz5:(regs fi46.body).Nodup:=by decide +kernel
theorem okz5:okC nmz5 stz5 hdz5 fi46.body none=true:=by kernel_rfl
def Az5(g:gz5)(lf:Nat):JT Rtz5:=atN Tryz.prog ttT.get nmz5 fi46 (sz5 g) (clz5 _ lf) lf hdz5
def qqj(lf:Nat)(x1:Int)(x2:(List (List qav))):Nat->(Bool × (List DPut) × (List ByteArray) × Int × (List qaa) × Int × Int)->Option Rtz5:=qa1 fun K p=>qlo lf x1 x2 K p
theorem q9c(g:gz5)(lf:Nat)(x1:Int)(x2:(List (List qav))):∀(n:Nat) (p:Bool × (List DPut) × (List ByteArray) × Int × (List qaa) × Int × Int),Az5 g lf 3 [n] (qi3 x1 x2 p)=qqj lf x1 x2 n p
 | 0,p=>qbn 3 [0] rfl _
 | n+1,p=>by
  have ih:=q9c g lf x1 x2 n;refine(qbp (qa5 20 _) ndz5 okz5 3 [n+1] [n] rfl _).trans ((zps g (Az5 g lf) lf x1 x2 n p).trans ?_);rw[(show (fun q=>Az5 g lf 3 [n] (qi3 x1 x2 q))=(fun q=>qqj lf x1 x2 n q) from funext ih)];rfl
def Fz5(lf:Nat)(x1:Int)(x2:(List (List qav))):Option Rtz5:=qt3 lf x1 x2 (fun q=>qqj lf x1 x2 lf q)
theorem zjv(g:gz5)(lf:Nat)(x1:Int)(x2:(List (List qav))):Ez5 g (Az5 g lf) lf x1 x2=Fz5 lf x1 x2:=by
  refine(inz5 g (Az5 g lf) lf x1 x2).trans ?_;rw[(show (fun q=>Az5 g lf 3 [lf] (qi3 x1 x2 q))=(fun q=>qqj lf x1 x2 lf q) from funext fun q=>q9c g lf x1 x2 lf q)];rfl
theorem zrj:qa9 Tryz.prog q9i:=trivial
theorem mkz5{g:gz5}(hsm:SmOK Tryz.prog q2b)(hg:∀(x:ElA [(.int .u8),(.list (.list cCosignerlaw23Change))]) (y:Rtz5),WfA [(.int .u8),(.list (.list cCosignerlaw23Change))] x->g x=some y->∃lf,Fz5 lf x.1 x.2.1=some y):Con Tryz.prog 46 ⟨[(.int .u8),(.list (.list cCosignerlaw23Change))],[(false,qae),(false,.bool)],g⟩ :=
 conV (st:=stz5) (fun lf x=>Fz5 lf x.1 x.2.1) cm3 zsz zrj ndz5 okz5 (fun lf x=>zjv g lf x.1 x.2.1) hsm hg
end Go.Proofs.YtnhmanoiolfapaaGreat
end

section
namespace Go.Jx
open Go Go.Sx Go.RowKit
universe u

def updP:(l:List PK)->ElP l->ElP (refs l)->ElP l
 | [],_,_=>()
 | .dat _::l,x,z=>(x.1,updP l x.2 z)
 | .fn _::l,x,z=>updP l x z
 | .ref _::l,x,z=>(z.1,updP l x.2 z.2)
theorem qmq:∀(l:List PK) (ι:Nat->Nat) (n:Nat) (x:ElP l) (z:ElP (refs l)),qar l ι n (updP l x z)=qar (refs l) ι n z
 | [],_,_,_,_=>rfl
 | .dat _::l,ι,n,x,z=>qmq l ι n x.2 z
 | .fn _::l,ι,n,x,z=>qmq l ι n x z
 | .ref r::l,ι,n,x,z=>by
  show objK r ι n z.1::qar l ι (n+nK r) (updP l x.2 z.2)=_;rw[qmq l];rfl
theorem qo3:∀(l:List PK) (x:ElP l) (z:ElP (refs l)),qby l (updP l x z)=qby (refs l) z
 | [],_,_=>rfl
 | .dat _::l,x,z=>qo3 l x.2 z
 | .fn _::l,x,z=>qo3 l x z
 | .ref r::l,x,z=>by
  show subK r z.1++qby l (updP l x.2 z.2)=_;rw[qo3 l];rfl
theorem qol:∀(l:List PK) (ρ:Nat->Nat) (k:Nat) (x:ElP l) (z:ElP (refs l)),qaq l ρ k (updP l x z)=qaq l ρ k x
 | [],_,_,_,_=>rfl
 | .dat c::l,ρ,k,x,z=>jav (fun q=>asIV c x.1::q) (qol l ρ k x.2 z)
 | .fn f::l,ρ,k,x,z=>jav (fun q=>IV.fn f []::q) (qol l ρ k x z)
 | .ref r::l,ρ,k,x,z=>jav (fun q=>argK r (ρ k)::q) (qol l ρ (k+1) x.2 z.2)
def sQ(l:List PK):SmR:=⟨l,[],fun _=>none⟩
theorem qyp(l:List PK)(x:ElP l)(z:ElP (refs l)):ScB (sQ l) () z=Sc l (updP l x z):=by
 unfold ScB Sc newO;rw[qmq,qo3];show addO (qar (refs l) idN (mP l) z++(qby (refs l) z++[])) S0=_;rw[jbl]
structure Held (T:TW) (E:Env) (S:IS) (l:List PK) (x:ElP l) (rows subs:List Nat):Prop where
 l1:rows.length=mP l
 l2:subs.length=nP l
 nd:(rows++subs).Nodup
 w:∀id∈rows++subs,T.w id
 A:∀id∈subs,E.A id
 at_:∀ι,Nums ι (mP l) subs->qm0 E rows (qar l ι (mP l) x)
 row:∀id∈rows,∃cs,S.H id=some (.row cs)
 sub:∀j:Nat,(qby l x)[j]?=(subs[j]?).bind fun id=>S.heap.get id
section
variable {T : TW} {E : Env} {S : IS} {l : List PK} {x : ElP l} {rows subs : List Nat}
theorem Held.num(h:Held T E S l x rows subs):Nums (ol 0 (rows++subs)) 0 rows/\Nums (ol 0 (rows++subs)) (mP l) subs:=by
 have hnq:Nums (ol 0 (rows++subs)) 0 (rows++subs):=fun j id hj=>by
  rw[jbk];unfold ol;rw[jan (by omega),jde,jai,hj];rfl
 refine⟨hnq.fst,?_⟩;have:=hnq.snd
 rwa [jbk,h.l1] at this
theorem Held.len(h:Held T E S l x rows subs):(rows++subs).length=mP l+nP l:=by rw[jah,h.l1,h.l2]
theorem Held.rk(h:Held T E S l x rows subs){k:Nat}(hk:k<mP l):rows[k]?=some (ol 0 (rows++subs) k):=by
 have h1:k<rows.length:=by rw[h.l1];exact hk
 rw[jac h1,<- h.num.1 k _ (jac h1),jbk]
theorem Held.sk(h:Held T E S l x rows subs){k:Nat}(h1:mP l<=k)(h2:k<(rows++subs).length):subs[k-mP l]?=some (ol 0 (rows++subs) k):=by
 have h3:k-mP l<subs.length:=by rw[h.len] at h2;rw[h.l2];omega
 rw[jac h3,<- h.num.2 _ _ (jac h3),Nat.add_sub_cancel' h1]
theorem Held.rowA(h:Held T E S l x rows subs){k:Nat}(hk:k<mP l):∃r nj xj,(∀ι,(qar l ι (mP l) x)[k]?=some (objK r ι nj xj))/\mP l<=nj/\nj+nK r<=(rows++subs).length/\E.A (ol 0 (rows++subs) k)/\((objK r (ol 0 (rows++subs)) nj xj).blk=true->E.hb (ol 0 (rows++subs) k)=true)/\OR E (ol 0 (rows++subs) k) (objK r (ol 0 (rows++subs)) nj xj):=by
 have h1:k<(qar l (ol 0 (rows++subs)) (mP l) x).length:=by rw[qa4];exact hk
 obtain⟨r,nj,xj,d1,d2,d3,d4⟩:=qfr l (ol 0 (rows++subs)) (mP l) x k _ (jac h1);obtain⟨id,i1,i2,i3,i4⟩:=h.at_ _ h.num.2 k _ (d4 (ol 0 (rows++subs)));rw[h.rk hk] at i1;cases i1;exact⟨r,nj,xj,d4,d2,by rw[h.len];omega,i2,i3,i4⟩
theorem Held.allA(h:Held T E S l x rows subs):∀id∈rows++subs,E.A id:=fun id hid=>by
 rcases jbn.1 hid with hid|hid
 ·obtain⟨k,hk,rfl⟩:=jcq.1 hid;obtain⟨_,_,_,_,_,_,i2,_,_⟩:=h.rowA (k:=k) (by rw[<- h.l1];exact hk);have:=h.rk (k:=k) (by rw[<- h.l1];exact hk);rw[jac hk,jbd] at this;rw[this];exact i2
 ·exact h.A id hid
theorem Held.numTo(E:Env)(q:List Nat){k:Nat}(hk:k<q.length):qcg E (renE 0 q E) (ol 0 q k) k:=fun hA=>⟨⟨by omega,hA⟩,rfl,rfl,rfl,rfl⟩
theorem Held.obj(h:Held T E S l x rows subs)(p:Pre T E S){k:Nat}{o:IObj}(hk:k<(rows++subs).length)(hAk:E.A (ol 0 (rows++subs) k))(ho:(Sc l x).H k=some o):ObjTo E S (renE 0 (rows++subs) E) (ol 0 (rows++subs) k) k o:=by
 unfold Sc at ho;rw[qf6] at ho;have hnum:∀j,j<(rows++subs).length->qcg E (renE 0 (rows++subs) E) (ol 0 (rows++subs) j) j:=fun j hj=>Held.numTo E _ hj;by_cases hkm:k<mP l
 ·rw[jas (by rw[qa4];exact hkm)] at ho;obtain⟨r,nj,xj,d1,d2,d3,d4,d5,d6⟩:=h.rowA hkm;rw[d1 idN] at ho;cases ho;obtain⟨cs,hcs⟩:=h.row _ (jbu (h.rk hkm));exact⟨OR.objK_to (E:=E) (E':=renE 0 (rows++subs) E) (fun _ h=>h) rfl hAk (hnum k hk) (fun j a b=>hnum j (by omega)) d6,fun _=>⟨_,hcs,rfl⟩,fun hb=>d5 (ql0.trans hb)⟩
 ·rw[ja4 (by rw[qa4];omega),qa4] at ho;have hd:=qvs _ _ _ (jbu ho);rw[h.sub,h.sk (by omega) hk] at ho;have hid:=(qb6 hk).1;exact⟨OR.dat_to (E:=E) (E':=renE 0 (rows++subs) E) (fun _ h=>h) rfl hAk (hnum k hk) hd (p.st.objs _ (T.sub _ (h.w _ hid)) hAk _ ho),fun hl=>⟨_,ho,hl⟩,fun hbk=>p.st.blk _ (T.sub _ (h.w _ hid)) hAk _ ho hbk⟩
theorem Held.pre(h:Held T E S l x rows subs)(p:Pre T E S):Pre T0 (renE 0 (rows++subs) E) (Sc l x) :=
 Pre.re p h.nd (fun id hi=>T.sub _ (h.w id hi)) (by rw[qig,h.len]) fun k o hk hAk ho=>h.obj p hk hAk ho
theorem Held.back{s:SmR}{x:ElP s.ps}{y:ElR s.rts}{z:ElP (refs s.ps)}{Er:Env}(h:Held T E S s.ps x rows subs)(p:Pre T E S)(k2:PostB (mP s.ps) T0 (renE 0 (rows++subs) E) (Sc s.ps x) Er (ScB s y z)) :
  Post T E S (mrgR E Er S.next (mP s.ps)) (qbw s S.next rows subs y z S)/\Fresh E S (mrgR E Er S.next (mP s.ps)):=by
 have hA:=h.allA;have hlt:∀id,id∈rows++subs->id<S.next:=fun id hi=>p.bnd id (hA id hi)
 have hsb:∀k,k<(rows++subs).length->Live (renE 0 (rows++subs) E) (Sc s.ps x).H k->Live E S.H (ol 0 (rows++subs) k):=fun k hk ⟨h0,o,h1,h2⟩=>⟨h0,(h.obj p hk (hA _ (qb6 hk).1) h1).live h2⟩;have hbn:(setL rows (qar (refs s.ps) (fun k=>S.next+(k-mP s.ps)) (mP s.ps) z) (qeg subs S)).next=S.next:=by rw[qn5,qmm]
 have hndr:rows.Nodup:=(jcz.1 h.nd).1;have hrs:∀id,id∈rows->id ∉ subs:=fun id h1 h2=>(jcz.1 h.nd).2.2 id h1 id h2 rfl;have hScB:∀k,(ScB s y z).H k=(qar (refs s.ps) idN (mP s.ps) z++newO s y z)[k]?:=fun k=>qf6 _ k;have hql:=h.len;have l1:=h.l1;have hrk:=fun k (hk:k<mP s.ps)=>h.rk hk;have hsk:=fun k (h1:mP s.ps<=k) (h2:k<(rows++subs).length)=>h.sk h1 h2;have hrowA:=fun k (hk:k<mP s.ps)=>h.rowA hk;have hnd:=h.nd;have hT:=h.w;have hinr:∀id,id∈rows->id∈rows++subs:=fun id h=>jbv _ h;have hins:∀id,id∈subs->id∈rows++subs:=fun id h=>jb5 _ h;generalize hq:rows++subs=q at *;have hEA:∀k,k<mP s.ps->Er.A k/\Er.ρ k=E.ρ (ol 0 q k)/\Er.κ k=E.κ (ol 0 q k)/\Er.hd k=E.hd (ol 0 q k)/\Er.hb k=E.hb (ol 0 q k):=fun k hk=>by
  obtain⟨a1,a2,a3,a4,a5⟩:=k2.alw k hk ⟨by omega,hA _ (qb6 (by omega)).1⟩;exact⟨a1,a2,a3,a4,a5⟩
 exact q0m (n:=S.next) (m:=mP s.ps) (S':=qbw s S.next rows subs y z S) p hnd hT hA (by omega) rfl hsb k2 (by
   unfold qbw ScB;rw[qc0,qc0,hbn,jah,qa4,qbr];have:S0.next=0:=rfl
   omega) (fun id hid hnq=>by
   unfold qbw;rw[qb7,hbn,jao hid,qgb (fun h=>hnq (hinr _ h)),qj4 (fun h=>hnq (hins _ h))]) (fun k o hk ho=>by
   unfold qbw at ho;have hin:=(qb6 (q:=q) (k:=k) (by omega)).1;rw[qb7,hbn,jao (hlt _ hin),qtl hndr (by rw[qa4,qbr,l1]) (hrk k hk)] at ho;obtain⟨r,nj,xj,rfl,d2,d3,d4⟩:=qfr _ _ _ _ _ _ ho;have hsr:(ScB s y z).H k=some (objK r idN nj xj):=by
    rw[hScB,jas (by rw[qa4,qbr];exact hk)];exact d4 idN
   obtain⟨a1,a2,a3,a4,a5⟩:=hEA k hk;obtain⟨o1,o2,o3,o4⟩:=qds (E:=E) (Er:=Er) (n:=S.next) (m:=mP s.ps) (hlt _ hin);obtain⟨_,_,_,_,_,_,i2,_⟩:=hrowA k hk;exact⟨OR.objK_to (E:=Er) (E':=mrgR E Er S.next (mP s.ps)) (fun _ h=>h) rfl a1 (fun _=>⟨.inl ⟨hlt _ hin,i2⟩,o1.trans a2.symm,o2.trans a3.symm,o3.trans a4.symm,o4.trans a5.symm⟩) (fun j a b hAj=>by
    obtain⟨r1,r2,r3,r4,r5⟩:=qik (E:=E) (Er:=Er) (n:=S.next) (m:=mP s.ps) (k:=j) (by omega);exact⟨r5 hAj,r1,r2,r3,r4⟩) (k2.st.objs k trivial a1 _ hsr),fun hl=>⟨_,hsr,qqo.trans hl⟩,fun hb=>(o4.trans a5.symm).trans (k2.st.blk k trivial a1 _ hsr (ql0.trans hb))⟩) (fun k o h1 h2 ho=>by
   unfold qbw at ho;have hin:=(qb6 (q:=q) (k:=k) h2).1;have hin2:=jbu (hsk k h1 h2);rw[qb7,hbn,jao (hlt _ hin),qgb (fun h=>hrs _ h hin2),qwc hin2] at ho;cases ho;rfl) (fun k o h1 hAk ho=>by
   unfold qbw at ho;have hkb:=k2.bnd k hAk;unfold ScB at hkb;rw[qc0,jah,qa4,qbr] at hkb;have e0:S0.next=0:=rfl
   rw[qb7,hbn,jan (by omega),jao (by omega),ja5] at ho;have hd:=qww (jbu ho);have hsr:(ScB s y z).H k=some o:=by
    rw[hScB,ja4 (by rw[qa4,qbr];exact h1),qa4,qbr];exact ho
   obtain⟨r1,r2,r3,r4,r5⟩:=qik (E:=E) (Er:=Er) (n:=S.next) (m:=mP s.ps) (k:=k) h1;exact⟨OR.dat_to (E:=Er) (E':=mrgR E Er S.next (mP s.ps)) (fun _ h=>h) rfl hAk (fun hA=>⟨r5 hA,r1,r2,r3,r4⟩) hd (k2.st.objs k trivial hAk _ hsr),fun hl=>⟨_,hsr,hl⟩,fun hbk=>r4.trans (k2.st.blk k trivial hAk _ hsr hbk)⟩)
end
end Go.Jx
end

section
namespace Go.Jx
open Go Go.Sx Go.RowKit
universe u

structure Beside (b:Nat) (w w':World):Prop where
 os:w'.os=w.os
 tape:w'.tape=w.tape
 output:w'.output=w.output
 size:w'.heap.size=w.heap.size
 same:∀x,x≠b->w'.heap[x]?=w.heap[x]?
theorem Beside.put(w:World)(b:Nat)(o:Obj):Beside b w (w.putObj b o):=⟨rfl,rfl,rfl,by simp,fun x hx=>jb7 hx⟩
theorem Beside.symm{b:Nat}{w w':World}(h:Beside b w w'):Beside b w' w:=⟨h.os.symm,h.tape.symm,h.output.symm,h.size.symm,fun x hx=>(h.same x hx).symm⟩
theorem Beside.upd{b:Nat}{w w':World}(h:Beside b w w'):Upd [b] w w':=⟨h.os,h.tape,h.output,by rw[h.size];exact jar _,fun x _ hx=>h.same x (by simpa using hx)⟩
def qcw(E:Env)(S:IS)(b:Nat):Prop:=b∈E.m/\∀id,E.A id->Live E S.H id->E.ρ id≠b
section
variable {E E' : Env} {S S' : IS} {b : Nat} {w w' : World}
theorem Pre.beside(p:Pre T0 E S)(hb:qcw E S b)(h:Beside b E.w w):E.Le (E.at_ w)/\Pre T0 (E.at_ w) S/\qcw (E.at_ w) S b:=by
 have hle:E.Le (E.at_ w):=⟨fun _ h=>⟨h,rfl,rfl,rfl,rfl⟩,⟨fun x hx hm=>⟨hm,h.same x fun e=>hm (e▸hb.1)⟩⟩⟩
 refine⟨hle,⟨⟨fun id ht ha o ho=>(p.st.objs id ht ha o ho).mono hle ha (p.st.blk id ht ha o ho) fun hl hhb=>h.same _ (hb.2 id ha ⟨hhb,o,ho,hl⟩),fun id ht ha o ho hbk=>p.st.blk id ht ha o ho hbk,fun id ht ha hl=>p.st.own id ht ha hl,
  fun i j a b' c d e f g=>p.st.inj i j a b' c d e f g,fun x hx=>?_⟩,p.bnd,p.nw,p.gl.mono hle.tr⟩,hb⟩
 show x<w.heap.size;rw[h.size];exact p.st.lo x hx
theorem PostB.apart{B:Nat}(k:PostB B T0 E S E' S')(p:Pre T0 E S)(hb:qcw E S b):qcw E' S' b:=by
 have hlt:=p.st.lo b hb.1;refine⟨?_,fun id ha hl e=>?_⟩
 ·rcases k.mem b hb.1 hlt with h|⟨id,_,h1,h2,h3⟩
  ·exact h
  ·exact absurd h3 (hb.2 id h1 h2)
 ·rcases jbx id B with h|h
  ·have hA:=k.fr id h ha;exact hb.2 id hA (k.old id h trivial hA hl) ((k.alw id h hA).2.1.symm.trans e)
  ·rcases k.new id h ha hl with h1|⟨j,_,j1,j2,j3⟩
   ·omega
   ·exact hb.2 j j1 j2 (j3.symm.trans e)
theorem PostB.at_same{B:Nat}(k:PostB B T0 E S E' S')(p:Pre T0 E S)(hb:qcw E S b):E'.w.heap[b]?=E.w.heap[b]?:=k.same b (p.st.lo b hb.1) fun id _ ha hl=>hb.2 id ha hl
theorem PostB.beside{B:Nat}(k:PostB B T0 E S E' S')(p:Pre T0 E S)(hb:qcw E S b)(h1:Beside b E.w w)(h2:Beside b E'.w w')(h3:w'.heap[b]?=w.heap[b]?):PostB B T0 (E.at_ w) S (E'.at_ w') S':=by
 have p':Pre T0 E' S':=k.pre (fun _ _=>trivial) p;obtain⟨_,p2,_⟩:=p'.beside (k.apart p hb) h2;have es:(E.at_ w).w.heap.size=E.w.heap.size:=h1.size;refine⟨p2.st,h2.os.trans (k.os.trans h1.os.symm),h2.tape.trans (k.tape.trans h1.tape.symm),h2.output.trans (k.output.trans h1.output.symm),?_,fun x hx hn=>?_,k.alw,fun id hB ha hl=>?_,k.old,fun x hx=>?_,fun x hx hlt=>k.mem x hx (by rw[es] at hlt;exact hlt),k.bnd,k.le,k.fr⟩
 ·show w.heap.size<=w'.heap.size;rw[h1.size,h2.size];exact k.size
 ·show w'.heap[x]?=w.heap[x]?;by_cases e:x=b
  ·rw[e];exact h3
  ·rw[h2.same x e,h1.same x e];exact k.same x (by rw[es] at hx;exact hx) hn
 ·rw[es];exact k.new id hB ha hl
 ·rw[es];exact k.memo x hx
end
end Go.Jx
end

section
namespace Go.Jx
open Go Go.Sx Go.RowKit
universe u

structure LpC where
 ls:List Nat
 lp:List PK
 nm:Nat->Option Nm
def putL:List Nat->List IV->PT IV->PT IV
 | t::ts,v::vs,fr=>putL ts vs (fr.set v t)
 | _,_,fr=>fr
theorem q75:∀{ls:List Nat} {vs:List IV} {us:List Value} {E:Env} {nt:Nat} {fr:PT IV} {tmps:Array Value},VRs E vs us->us=ls.map (fun t=>tmps.getD t undef)->FR E nt fr tmps->FR E nt (putL ls vs fr) tmps
 | [],vs,us,E,nt,fr,tmps,hv,hu,hf=>by simpa [putL] using hf
 | t::ls,[],us,E,nt,fr,tmps,hv,hu,hf=>by simpa [putL] using hf
 | t::ls,v::vs,us,E,nt,fr,tmps,hv,hu,hf=>by
  obtain⟨u,us,rfl,a1,a2⟩:=hv.inv;simp only[jdf,jd0] at hu;show FR E nt (putL ls vs (fr.set v t)) tmps;refine q75 a2 hu.2 ⟨hf.size,fun k hk=>?_⟩;rw[qdx];by_cases e:k=t
  ·subst e;rw[jao rfl,<- hu.1];exact a1
  ·rw[jan e];exact hf.get k hk
section
variable (P : Program) (tt : Nat -> Option TI)
def qeq(cfg:LpC)(c:TC)(nt lf:Nat)(cl:Cl)(pr:Nat)(assign body:Code)(d:ElP cfg.lp)(z:ElP (refs cfg.lp))(x:El c):Option (ElP (refs cfg.lp) × Option Code) :=
 match qak P tt cfg.nm (mP cfg.lp) nt cl lf none assign (qdp [pr] [asIV c x] (putL cfg.ls (qaq cfg.lp idN 0 d) .leaf)) (Sc cfg.lp (updP cfg.lp d z)) [] with
 | none=>none
 | some r1=>match r1.e with
  | .normal=>match r1.ds with
   | []=>match qak P tt cfg.nm (mP cfg.lp) nt cl lf none body r1.fr r1.S [] with
    | none=>none
    | some r2=>match r2.ds with
     | []=>match runQ (sQ cfg.lp) ⟨.tup [],r2.S,0,0⟩ with
      | none=>none
      | some y=>some (y.2,qdl r2.e)
     | _=>none
   | _=>none
  | _=>none
end
def foldB{D α:Type}(g:D->α->Option (D × Option Code)):List α->D->Option (D × Option Code)
 | [],d=>some (d,none)
 | x::xs,d=>match g d x with
  | none=>none
  | some (d',none)=>foldB g xs d'
  | some (d',some e)=>some (d',some e)
section
variable {P : Program} {tt : Nat -> Option TI}
theorem zj9{cfg:LpC}{c:TC}{nt lf:Nat}{cl:Cl}{pr:Nat}{assign body:Code}{d:ElP cfg.lp}{z z':ElP (refs cfg.lp)}{x:El c}{e:Option Code}(hm:P.follows .mixedOrders=true)(hcl:ClOK P cl)(hfr:ClFr cl)(htt:TT P tt)
  (h:qeq P tt cfg c nt lf cl pr assign body d z x=some (z',e)) (hok:qa3 assign=true/\qa3 body=true) (hrf:qbu assign=false/\qbu body=false)
  {E:Env} {b:Nat} {rec:Loop} (p:Pre T0 E (Sc cfg.lp (updP cfg.lp d z))) (hb:qcw E (Sc cfg.lp (updP cfg.lp d z)) b) (hl:E.w.heap[b]?=some (.loop rec)) (hr:rec.state=.ready/\rec.pending=none/\rec.params=#[pr]/\rec.assign=assign/\rec.body=body/\rec.tmps.size=nt)
  (hargs:VRs E (qaq cfg.lp idN 0 d) (cfg.ls.map fun t=>rec.tmps.getD t undef)) {u:Value} (hu:VR E (asIV c x) u) :
  YieldAt Fence.wide 0 P b #[u] E.w fun en B=>∃E',PostB (mP cfg.lp) T0 E (Sc cfg.lp (updP cfg.lp d z)) E' (Sc cfg.lp (updP cfg.lp d z')) /\
   ((e=none/\en=.returned (.bool true)/\B=E'.w)\/∃cd,e=some cd/\en=.returned (.bool false)/\Upd [b] E'.w B/\B.heap[b]?=some (.loop { rec with state:=.done,pending:=some cd })):=by
 obtain⟨hr1,hr2,hr3,hr4,hr5,hr6⟩:=hr;unfold qeq at h;split at h
 ·cases h
 rename_i r1 hrun1;split at h<;>try cases h
 rename_i he1;split at h<;>try cases h
 rename_i hds1;split at h
 ·cases h
 rename_i r2 hrun2;split at h<;>try cases h
 rename_i hds2;split at h
 ·cases h
 rename_i y hq;cases h;have hblt:b<E.w.heap.size:=qas hl;have hy:=run_yield (P:=P) (args:=#[u]) hl (by rw[hr3];rfl);refine⟨_,_,_,_,hy,roundIn_of_wpIn trivial ?_⟩;have hFp:(Fence.wide.inRound b).plain=Fence.wide:=rfl;have hfr0:FR E nt (PT.leaf) rec.tmps:=⟨hr6,fun t ht=>.unk _⟩;have hfr1:FR E nt (qdp [pr] [asIV c x] (putL cfg.ls (qaq cfg.lp idN 0 d) .leaf)) ((rec.params.zip #[u]).foldl (fun tmps (t,a)=>tmps.setIfInBounds t a) rec.tmps):=by
  have:=qsx (ps:=[pr]) (VRs.cons hu VRs.nil) (q75 hargs rfl hfr0);rw[hr3];simpa [List.zip] using this
 rw[hr4];refine qif (T:=T0) (E:=E) (a:={ tmps:=_,defers:=[] }) (S:=Sc cfg.lp (updP cfg.lp d z)) (ds:=[]) (round:=none) (B:=mP cfg.lp) (fun _ _=>trivial) hm hFp hcl hfr htt assign hok.1 p (by rw[qig];omega) (fun _ _=>trivial) hfr1 (DS.nil (N:=0) (jb4 _)) (fun h=>by rw[hrf.1] at h;cases h) hrun1 (fun _ _=>trivial) (fun _ _=>trivial) ?_;intro E1 a1 k1 k2 kB;rw[he1];have hb1:=kB.apart p hb;have hl1:E1.w.heap[b]?=some (.loop rec):=(kB.at_same p hb).trans hl;have p1:Pre T0 E1 r1.S:=kB.pre (fun _ _=>trivial) p;have hbg:=run_beginRound (P:=P) hl1 hr1;refine⟨_,hbg,?_⟩;generalize hW:(E1.w.putObj b (.loop { rec with state:=.busy }))=W1;have hs1:Beside b E1.w W1:=by rw[<- hW];exact Beside.put _ _ _
 have hW1:W1.heap[b]?=some (.loop { rec with state:=.busy }):=by rw[<- hW];exact jbp (qas hl1)
 obtain⟨hle2,p2,hb2⟩:=p1.beside hb1 hs1;have hs0:Beside b E.w (E.w.putObj b (.loop { rec with state:=.busy })):=Beside.put _ _ _;obtain⟨hle0,p0,hb0⟩:=p.beside hb hs0;have hw0:(E.w.putObj b (.loop { rec with state:=.busy })).heap[b]?=some (.loop { rec with state:=.busy }):=jbp hblt;have kB2:=kB.beside p hb hs0 hs1 (by rw[hW1,hw0]);rw[hr5];show body.wpIn _ 0 P _ a1 (E1.at_ W1).w;rw[hds1] at k2;refine qif (T:=T0) (E:=E1.at_ W1) (a:=a1) (S:=r1.S) (ds:=[]) (round:=none) (B:=mP cfg.lp) (fun _ _=>trivial) hm hFp hcl hfr htt body hok.2 p2 kB.le (fun _ _=>trivial) (k1.mono hle2) (k2.mono hle2 (by show E1.w.heap.size<=W1.heap.size;rw[<- hW];simp)) (fun h=>by rw[hrf.2] at h;cases h) hrun2 (fun _ _=>trivial) (fun _ _=>trivial) ?_;intro E3 a3 m1 m2 mB;have hall:=kB2.trans mB;have hargs0:VRs (E.at_ (E.w.putObj b (.loop { rec with state:=.busy }))) (qaq (sQ cfg.lp).ps idN 0 (updP cfg.lp d z)) (cfg.ls.map fun t=>rec.tmps.getD t undef):=by
  show VRs _ (qaq cfg.lp idN 0 (updP cfg.lp d z)) _;rw[qol];exact hargs.mono hle0
 obtain⟨E4,e4,_,q4⟩:=q8p (s:=sQ cfg.lp) (r:=⟨.tup [],r2.S,0,0⟩) (x:=updP cfg.lp d z) (y:=y.1) (z:=y.2) (u:=.tuple #[]) hq p0 hargs0 hall (.tup (us:=[]) rfl (fun i h=>by simp at h));have hb4:=q4.apart p0 hb0;have hl4:E4.w.heap[b]?=some (.loop { rec with state:=.busy }):=(q4.at_same p0 hb0).trans hw0;have hend:=fun j=>run_endRound (P:=P) j hl4;have hs4:Beside b E4.w (E4.w.putObj b (.loop rec)):=Beside.put _ _ _;have hback:=q4.beside p0 hb0 hs0.symm hs4 (by rw[jbp (qas hl4)];exact hl.symm);have hfin:PostB (mP cfg.lp) T0 E (Sc cfg.lp (updP cfg.lp d z)) (E4.at_ (E4.w.putObj b (.loop rec))) (Sc cfg.lp (updP cfg.lp d y.2)):=by
  have e1:ScB (sQ cfg.lp) y.1 y.2=Sc cfg.lp (updP cfg.lp d y.2):=qyp cfg.lp d y.2;rw[e1] at hback;exact hback
 rw[<- e4];have hrec:({ rec with state:=.ready,pending:=none }:Loop)=rec:=by
  cases rec;cases hr1;cases hr2;rfl
 have hstop:∀cd,∃v w',(Instr.endRound b (some cd)).run P E4.w=.ok v w'/\∃E',PostB (mP cfg.lp) T0 E (Sc cfg.lp (updP cfg.lp d z)) E' (Sc cfg.lp (updP cfg.lp d y.2)) /\
   ((some cd=none/\Ending.returned v=.returned (.bool true)/\w'=E'.w)\/∃cd',some cd=some cd'/\Ending.returned v=.returned (.bool false)/\Upd [b] E'.w w'/\w'.heap[b]?=some (.loop { rec with state:=.done,pending:=some cd' })):=fun cd=>by
  refine⟨_,_,hend (some cd),E4.at_ (E4.w.putObj b (.loop rec)),hfin,.inr ⟨cd,rfl,rfl,?_,?_⟩⟩
  ·exact hs4.symm.upd.trans ((Beside.put E4.w b _).upd)
  ·exact jbp (qas hl4)
 cases he:r2.e with
 | normal =>
  refine⟨_,_,hend none,E4.at_ (E4.w.putObj b (.loop rec)),hfin,.inl ⟨rfl,rfl,?_⟩⟩;show E4.w.putObj b (.loop { rec with state:=.ready,pending:=none })=E4.w.putObj b (.loop rec);rw[hrec]
 | ret =>
  obtain⟨v,w',g1,E',g2,g3⟩:=hstop .ret;refine⟨v,w',g1,E',g2,?_⟩;rcases g3 with ⟨g3,_⟩|⟨cd,g3,g4,g5,g6⟩
  ·cases g3
  ·exact .inr ⟨cd,g3,g4,g5,by rw[hr4,hr5] at g6;exact g6⟩
 | exit i =>
  obtain⟨v,w',g1,E',g2,g3⟩:=hstop (.exit i);refine⟨v,w',g1,E',g2,?_⟩;rcases g3 with ⟨g3,_⟩|⟨cd,g3,g4,g5,g6⟩
  ·cases g3
  ·exact .inr ⟨cd,g3,g4,g5,by rw[hr4,hr5] at g6;exact g6⟩
 | goto l =>
  obtain⟨v,w',g1,E',g2,g3⟩:=hstop (.goto l);refine⟨v,w',g1,E',g2,?_⟩;rcases g3 with ⟨g3,_⟩|⟨cd,g3,g4,g5,g6⟩
  ·cases g3
  ·exact .inr ⟨cd,g3,g4,g5,by rw[hr4,hr5] at g6;exact g6⟩
end
end Go.Jx
end

section
namespace Go.Jx
open Go Go.Sx Go.RowKit
universe u

def qef(P:Program)(gf:Nat)(us:List Value)(Rd:World->Prop){α:Type}(V:α->Value->World->World->Prop)(xs:List α):Prop :=
 ∀(l:Nat) (J:List α->World->Prop) (K:World->Prop) (W:World),(∀s A B,J s A->Upd [] A B->J s B)->(∀A B,K A->Upd [] A B->K B)->(∀s A,J s A->Rd A) ->
  (∀pre x post A0 A u,xs=pre++x::post->J pre A0->Upd [] A0 A->V x u A0 A->YieldAt Fence.wide 0 P l #[u] A fun e B=>(∀b,A0.heap.size<=b->b<A.heap.size->B.heap[b]?=A.heap[b]?)/\((e=.returned (.bool true)/\J (pre++[x]) B)\/(e=.returned (.bool false)/\K B))) ->
  J [] W->CallsIn Fence.wide 0 P gf (#[.func (.yield l) #[] #[]]++us.toArray) W fun e B=>e=.returned (.tuple #[])/\(J xs B\/K B)
structure SmI where
 ips:List PK
 c:TC
 xs:ElP ips->Option (List (El c))
def qxh(E:Env)(s:SmI)(x:ElP s.ips)(us:List Value)(rows:List Nat):Prop :=
 (∀ρ k,Nums ρ k rows->VRs E (qaq s.ips ρ k x) us)/\qm0 E rows (qar s.ips idN 0 x)
structure ConI (P:Program) (f:Nat) (s:SmI):Prop where
 callable:qai P f
 ns:nP s.ips=0
 it:∀(E:Env) (x:ElP s.ips) (us:List Value) (rows:List Nat) (l:List (El s.c)),s.xs x=some l->Gl E.m E.w->qxh E s x us rows ->
  qef P f us (fun W=>E.Le (E.at_ W)/\∀id∈rows,W.heap[E.ρ id]?=E.w.heap[E.ρ id]?) (fun x u A0 A=>∀E:Env,E.w=A->(∀b∈E.m,b<A0.heap.size)->VR E (asIV s.c x) u) l
def qc7:(l:List PK)->ElP l->ElP (refs l)
 | [],_=>()
 | .dat _::l,x=>qc7 l x.2
 | .fn _::l,x=>qc7 l x
 | .ref _::l,x=>(x.1,qc7 l x.2)
theorem qn8:∀(l:List PK) (x:ElP l),updP l x (qc7 l x)=x
 | [],_=>rfl
 | .dat c::l,x=>jav (fun q=>(x.1,q)) (qn8 l x.2)
 | .fn _::l,x=>qn8 l x
 | .ref r::l,x=>jav (fun q=>(x.1,q)) (qn8 l x.2)
theorem qo5{D α:Type}(g:D->α->Option (D × Option Code)):∀(pre post:List α) (z z':D),foldB g pre z=some (z',none)->foldB g (pre++post) z=foldB g post z'
 | [],post,z,z',h=>by cases h;rfl
 | x::pre,post,z,z',h=>by
  simp only[foldB,jc4] at h ⊢;cases hg:g z x with
  | none=>rw[hg] at h;cases h
  | some q =>
   obtain⟨z1,e⟩:=q;rw[hg] at h;cases e with
   | none=>exact qo5 g pre post z1 z' h
   | some e=>cases h
section
variable (P : Program) (tt : Nat -> Option TI)
def itB(S2:IS)(cfg:LpC)(id nt:Nat)(irows rows subs:List Nat)(w2:Nat)(assign body:Code):Bool :=
 ndB (id::(irows++(rows++subs)))&&(irows.all (rowB S2)&&(rows.all (rowB S2)&&(qa3 assign&&(qa3 body&&(!qbu assign&&(!qbu body&&(cfg.ls.all (fun t=>Nat.blt t nt)&&!w2.testBit id)))))))
end
section
variable {P : Program} {tt : Nat -> Option TI}
end
end Go.Jx
end

section
namespace Go.Jx
open Go Go.Sx Go.RowKit
universe u

section
variable {P : Program} {tt : Nat -> Option TI}
end
end Go.Jx
end

section
namespace Go.Jx
open Go Go.Sx Go.RowKit
universe u

section
variable (P : Program) (tt : Nat -> Option TI)
end
section
variable {P : Program} {tt : Nat -> Option TI}
def zco:Nat->Option Nm:=fun k=>cond (Nat.beq k 999999) (some ⟨[],[],[],[],[],0,0,false⟩) none
end
end Go.Jx
end

section
namespace Go.Jx
open Go Go.Sx Go.RowKit
universe u

section
variable {P : Program} {tt : Nat -> Option TI} {ft : Nat -> Option FI}
end
end Go.Jx
end

noncomputable section
set_option maxRecDepth 100000
namespace Go.Proofs.YtnhmanoiolfapaaGreat
open Go Go.Sx Go.RowKit Go.Jx
abbrev qnn:Type:=Int × Unit
abbrev zap:Nat:=69
def q6c(lf:Nat)(x1:qad):Option qnn:=(match (cond (S.inI (Int.ofNat x1.1.1.length) (Int.ofNat 0) (Int.ofNat 1000)) (some ((S.half (Int.toNat (Int.ofNat x1.1.1.length)) x1.2.1),())) none) with|none=>none|some v0=>(some ((IntKind.i64.wrap (Int.sub (IntKind.i64.wrap (Int.sub v0.1.2 v0.1.1)) x1.2.2.1)),())))
def qpn(lf:Nat)(x1:qad):Option qnn:=q6c lf x1
theorem zj1{g:ElA [qae]->Option qnn}(hsm:SmOK Tryz.prog [(93,qja)])(hg:∀(x:ElA [qae]) (y:qnn),WfA [qae] x->g x=some y->∃lf,qpn lf x.1=some y):Con Tryz.prog 69 ⟨[qae],[(false,(.int .i64))],g⟩ :=
 conU (fi:=fi69) (hxl:=[]) (fun lf x=>qpn lf x.1) cm3 znz trivial hsm hg
def nmz6:Nat->Option Nm:=fun k=>cond (Nat.beq k 6) (some ⟨[0,12,13,14],[],[],[],[],0,0,false⟩) (none)
def stz6:Nat->Bool:=fun k=>cond (Nat.beq k 6) true (false)
def hdz6:=stz6
abbrev Rtz6:Type:=Int × Int × Unit
def qz4:List (Nat × Sm):=[(66,qg0),(56,qjo)]
def q67:List (Nat × Hx):=[]
def clz6(R:Type)(lf:Nat):ClK R:=qa2 Tryz.prog ttT.get ftT.get (nm1 22 nmz6) (smL qz4) (hxL q67) lf 20 R
abbrev idz6:Nat:=22
def qix(x1:(List qaa))(p:Int):NRes:=(NRes.mk (.node (some (IV.lst qac x1)) (.node none .leaf (.node none .leaf (.node (some (IV.int .i64 (Int.ofNat x1.length))) .leaf .leaf))) (.node none (.node none .leaf (.node (some (IV.lst qac x1)) .leaf .leaf)) (.node none .leaf (.node (some (IV.int .i64 p)) .leaf .leaf)))) (IS.mk .leaf 0) [] 0)
def qsz(lf:Nat)(x1:(List qaa))(L6:Int->Option Rtz6):Option Rtz6:=(cond (iltI (Int.ofNat 60) (Int.ofNat x1.length)) (some ((Int.ofNat 0),((Int.ofNat 3),()))) (cond (ieqI (Int.ofNat x1.length) (Int.ofNat 0)) (some ((Int.ofNat 0),((Int.ofNat 1),()))) (L6 (Int.ofNat 0))))
def qjv(lf:Nat)(x1:(List qaa))(L6:Int->Option Rtz6)(p:Int):Option Rtz6:=(cond (iltI p (Int.ofNat x1.length)) (match (jget x1 p) with|none=>none|some v0=>(cond (Bool.not (S.inI v0.1 (Int.ofNat 0) (Int.ofNat 199))) (some ((Int.ofNat 0),((Int.ofNat 1),()))) (cond (iltI (Int.ofNat 4000) (Int.ofNat v0.2.1.size)) (some ((Int.ofNat 0),((Int.ofNat 1),()))) (cond v0.2.2 (cond (Bool.not (keqS v0.2.1 (S.lit []))) (some ((Int.ofNat 0),((Int.ofNat 1),()))) (cond (iltI (Int.ofNat 0) p) (match (jget x1 (IntKind.i64.wrap (Int.sub p (Int.ofNat 1)))) with|none=>none|some v1=>(cond (Bool.not (iltI v1.1 v0.1)) (some ((Int.ofNat 0),((Int.ofNat 1),()))) (L6 (IntKind.i64.wrap (Int.add p (Int.ofNat 1)))))) (L6 (IntKind.i64.wrap (Int.add p (Int.ofNat 1)))))) (cond (iltI (Int.ofNat 0) p) (match (jget x1 (IntKind.i64.wrap (Int.sub p (Int.ofNat 1)))) with|none=>none|some v25=>(cond (Bool.not (iltI v25.1 v0.1)) (some ((Int.ofNat 0),((Int.ofNat 1),()))) (L6 (IntKind.i64.wrap (Int.add p (Int.ofNat 1)))))) (L6 (IntKind.i64.wrap (Int.add p (Int.ofNat 1))))))))) (match (cond (S.pk x1) (some ((S.packed x1 (Int.ofNat 1)),())) none) with|none=>none|some v26=>(some ((Int.ofNat v26.1.length),((Int.ofNat 0),())))))
abbrev gz6:Type:=ElA [(.list qac)]->Option Rtz6
abbrev sz6(g:gz6):Sm:=⟨[(.list qac)],[(false,(.int .i64)),(false,(.int .i64))],g⟩
abbrev Ez6(g:gz6)(J:JT Rtz6)(lf:Nat)(x1:(List qaa)):=qbq Tryz.prog ttT.get nmz6 fi22.nt (clz6 _ lf) lf stz6 J fi22.body [] (qaz (argV [(.list qac)] (x1,())) 0 .leaf) S0 [] (qay ttT.get fi22 (sz6 g))
abbrev Bz6(g:gz6)(J:JT Rtz6)(lf k:Nat)(ms:List Nat)(q:NRes):=qb1 Tryz.prog ttT.get nmz6 fi22.nt (clz6 _ lf) lf stz6 J k fi22.body [] ms q (qay ttT.get fi22 (sz6 g))
theorem inz6(g:gz6)(J:JT Rtz6)(lf:Nat)(x1:(List qaa)):Ez6 g J lf x1=qsz lf x1 (fun q=>J 6 [lf] (qix x1 q)):=by kernel_rfl
theorem znl(g:gz6)(J:JT Rtz6)(lf:Nat)(x1:(List qaa))(m1:Nat)(p:Int):Bz6 g J lf 6 [m1] (qix x1 p)=qjv lf x1 (fun q=>J 6 [m1] (qix x1 q)) p:=by kernel_rfl
theorem ndz6:(regs fi22.body).Nodup:=by decide +kernel
theorem okz6:okC nmz6 stz6 hdz6 fi22.body none=true:=by kernel_rfl
def Az6(g:gz6)(lf:Nat):JT Rtz6:=atN Tryz.prog ttT.get nmz6 fi22 (sz6 g) (clz6 _ lf) lf hdz6
def qpg(lf:Nat)(x1:(List qaa)):Nat->(Int)->Option Rtz6:=qa1 fun K p=>qjv lf x1 K p
theorem q3f(g:gz6)(lf:Nat)(x1:(List qaa)):∀(n:Nat) (p:Int),Az6 g lf 6 [n] (qix x1 p)=qpg lf x1 n p
 | 0,p=>qbn 6 [0] rfl _
 | n+1,p=>by
  have ih:=q3f g lf x1 n;refine(qbp (qa5 20 _) ndz6 okz6 6 [n+1] [n] rfl _).trans ((znl g (Az6 g lf) lf x1 n p).trans ?_);rw[(show (fun q=>Az6 g lf 6 [n] (qix x1 q))=(fun q=>qpg lf x1 n q) from funext ih)];rfl
def Fz6(lf:Nat)(x1:(List qaa)):Option Rtz6:=qsz lf x1 (fun q=>qpg lf x1 lf q)
theorem zc7(g:gz6)(lf:Nat)(x1:(List qaa)):Ez6 g (Az6 g lf) lf x1=Fz6 lf x1:=by
  refine(inz6 g (Az6 g lf) lf x1).trans ?_;rw[(show (fun q=>Az6 g lf 6 [lf] (qix x1 q))=(fun q=>qpg lf x1 lf q) from funext fun q=>q3f g lf x1 lf q)];rfl
theorem zro:qa9 Tryz.prog q67:=trivial
theorem mkz6{g:gz6}(hsm:SmOK Tryz.prog qz4)(hg:∀(x:ElA [(.list qac)]) (y:Rtz6),WfA [(.list qac)] x->g x=some y->∃lf,Fz6 lf x.1=some y):Con Tryz.prog 22 ⟨[(.list qac)],[(false,(.int .i64)),(false,(.int .i64))],g⟩ :=
 conV (st:=stz6) (fun lf x=>Fz6 lf x.1) cm3 zn8 zro ndz6 okz6 (fun lf x=>zc7 g lf x.1) hsm hg
abbrev qqn:Type:=Int × Unit
abbrev zgw:Nat:=65
def q5s(lf:Nat)(x1:qad):Option qqn:=(cond (Bool.not (ieqI (S.checkDisk (x1.1.1,x1.1.2)) (Int.ofNat 0))) (some ((Int.ofNat 1),())) (cond (iltI (Int.ofNat 0) (Int.ofNat x1.1.2.length)) (some ((Int.ofNat 1),())) (match (cond (S.okL (x1.1.1,x1.1.2)) (some ((S.openedJ (x1.1.1,x1.1.2)).1,((S.openedJ (x1.1.1,x1.1.2)).2,()))) none) with|none=>none|some v0=>(cond (Bool.not v0.2.1) (some ((Int.ofNat 1),())) (cond (Bool.not (ieqI v0.1.2.1 x1.2.1)) (some ((Int.ofNat 1),())) (cond (Bool.not (ieqI v0.1.2.2.1 x1.2.2.1)) (some ((Int.ofNat 1),())) (cond (Bool.not (S.sameC v0.1.2.2.2 x1.2.2.2)) (some ((Int.ofNat 1),())) (some ((Int.ofNat 0),())))))))))
def qmo(lf:Nat)(x1:qad):Option qqn:=q5s lf x1
theorem zsx{g:ElA [qae]->Option qqn}(hsm:SmOK Tryz.prog [(37,qhi),(61,qgw),(100,q0j)])(hg:∀(x:ElA [qae]) (y:qqn),WfA [qae] x->g x=some y->∃lf,qmo lf x.1=some y):Con Tryz.prog 65 ⟨[qae],[(false,(.int .i64))],g⟩ :=
 conU (fi:=fi65) (hxl:=[]) (fun lf x=>qmo lf x.1) cm3 zlt trivial hsm hg
def nmz7:Nat->Option Nm:=fun k=>cond (Nat.beq k 7) (some ⟨[1,19,20,21],[],[],[],[],0,0,false⟩) (none)
def stz7:Nat->Bool:=fun k=>cond (Nat.beq k 7) true (false)
def hdz7:=stz7
abbrev Rtz7:Type:=ByteArray × Bool × Int × Unit
def q1c:List (Nat × Sm):=[(65,ql9),(66,qg0)]
def q5e:List (Nat × Hx):=[]
def clz7(R:Type)(lf:Nat):ClK R:=qa2 Tryz.prog ttT.get ftT.get (nm1 18 nmz7) (smL q1c) (hxL q5e) lf 20 R
abbrev idz7:Nat:=18
def qi5(x1:qad)(x2:Int)(p:Int):NRes:=(NRes.mk (.node none (.node (some (IV.int .i64 x2)) (.node none .leaf (.node none (.node (some (IV.lst qac x1.2.2.2)) .leaf .leaf) .leaf)) (.node none .leaf (.node none (.node (some (IV.int .i64 p)) .leaf .leaf) .leaf))) (.node none (.node none .leaf (.node none (.node (some (IV.int .i64 (Int.ofNat x1.2.2.2.length))) .leaf .leaf) .leaf)) .leaf)) (IS.mk .leaf 0) [] 0)
def qsf(lf:Nat)(x1:qad)(x2:Int)(L7:Int->Option Rtz7):Option Rtz7:=(cond (Bool.not (ieqI (S.errR ((x1.1.1,x1.1.2),(x1.2.1,(x1.2.2.1,x1.2.2.2)))) (Int.ofNat 0))) (some ((S.lit []),(false,((S.errR ((x1.1.1,x1.1.2),(x1.2.1,(x1.2.2.1,x1.2.2.2)))),())))) (cond (Bool.not (S.inI x2 (Int.ofNat 0) (Int.ofNat 199))) (some ((S.lit []),(false,((Int.ofNat 1),())))) (L7 (Int.ofNat 0))))
def qkf(lf:Nat)(x1:qad)(x2:Int)(L7:Int->Option Rtz7)(p:Int):Option Rtz7:=(cond (iltI p (Int.ofNat x1.2.2.2.length)) (match (jget x1.2.2.2 p) with|none=>none|some v0=>(cond (ieqI v0.1 x2) (some (v0.2.1,(true,((Int.ofNat 0),())))) (L7 (IntKind.i64.wrap (Int.add p (Int.ofNat 1)))))) (some ((S.lit []),(false,((Int.ofNat 0),())))))
abbrev gz7:Type:=ElA [qae,(.int .i64)]->Option Rtz7
abbrev sz7(g:gz7):Sm:=⟨[qae,(.int .i64)],[(false,.str),(false,.bool),(false,(.int .i64))],g⟩
abbrev Ez7(g:gz7)(J:JT Rtz7)(lf:Nat)(x1:qad)(x2:Int):=qbq Tryz.prog ttT.get nmz7 fi18.nt (clz7 _ lf) lf stz7 J fi18.body [] (qaz (argV [qae,(.int .i64)] (x1,x2,())) 0 .leaf) S0 [] (qay ttT.get fi18 (sz7 g))
abbrev Bz7(g:gz7)(J:JT Rtz7)(lf k:Nat)(ms:List Nat)(q:NRes):=qb1 Tryz.prog ttT.get nmz7 fi18.nt (clz7 _ lf) lf stz7 J k fi18.body [] ms q (qay ttT.get fi18 (sz7 g))
theorem inz7(g:gz7)(J:JT Rtz7)(lf:Nat)(x1:qad)(x2:Int):Ez7 g J lf x1 x2=qsf lf x1 x2 (fun q=>J 7 [lf] (qi5 x1 x2 q)):=by kernel_rfl
theorem zk9(g:gz7)(J:JT Rtz7)(lf:Nat)(x1:qad)(x2:Int)(m1:Nat)(p:Int):Bz7 g J lf 7 [m1] (qi5 x1 x2 p)=qkf lf x1 x2 (fun q=>J 7 [m1] (qi5 x1 x2 q)) p:=by kernel_rfl
theorem ndz7:(regs fi18.body).Nodup:=by decide +kernel
theorem okz7:okC nmz7 stz7 hdz7 fi18.body none=true:=by kernel_rfl
def Az7(g:gz7)(lf:Nat):JT Rtz7:=atN Tryz.prog ttT.get nmz7 fi18 (sz7 g) (clz7 _ lf) lf hdz7
def qod(lf:Nat)(x1:qad)(x2:Int):Nat->(Int)->Option Rtz7:=qa1 fun K p=>qkf lf x1 x2 K p
theorem q6u(g:gz7)(lf:Nat)(x1:qad)(x2:Int):∀(n:Nat) (p:Int),Az7 g lf 7 [n] (qi5 x1 x2 p)=qod lf x1 x2 n p
 | 0,p=>qbn 7 [0] rfl _
 | n+1,p=>by
  have ih:=q6u g lf x1 x2 n;refine(qbp (qa5 20 _) ndz7 okz7 7 [n+1] [n] rfl _).trans ((zk9 g (Az7 g lf) lf x1 x2 n p).trans ?_);rw[(show (fun q=>Az7 g lf 7 [n] (qi5 x1 x2 q))=(fun q=>qod lf x1 x2 n q) from funext ih)];rfl
def Fz7(lf:Nat)(x1:qad)(x2:Int):Option Rtz7:=qsf lf x1 x2 (fun q=>qod lf x1 x2 lf q)
theorem zlx(g:gz7)(lf:Nat)(x1:qad)(x2:Int):Ez7 g (Az7 g lf) lf x1 x2=Fz7 lf x1 x2:=by
  refine(inz7 g (Az7 g lf) lf x1 x2).trans ?_;rw[(show (fun q=>Az7 g lf 7 [lf] (qi5 x1 x2 q))=(fun q=>qod lf x1 x2 lf q) from funext fun q=>q6u g lf x1 x2 lf q)];rfl
theorem ze0:qa9 Tryz.prog q5e:=trivial
theorem mkz7{g:gz7}(hsm:SmOK Tryz.prog q1c)(hg:∀(x:ElA [qae,(.int .i64)]) (y:Rtz7),WfA [qae,(.int .i64)] x->g x=some y->∃lf,Fz7 lf x.1 x.2.1=some y):Con Tryz.prog 18 ⟨[qae,(.int .i64)],[(false,.str),(false,.bool),(false,(.int .i64))],g⟩ :=
 conV (st:=stz7) (fun lf x=>Fz7 lf x.1 x.2.1) cm3 zb6 ze0 ndz7 okz7 (fun lf x=>zlx g lf x.1 x.2.1) hsm hg
abbrev qnh:Type:=Int × Int × Unit
abbrev zo0:Nat:=20
def q1t(lf:Nat)(x1:qad):Option qnh:=(cond (Bool.not (ieqI (S.errR ((x1.1.1,x1.1.2),(x1.2.1,(x1.2.2.1,x1.2.2.2)))) (Int.ofNat 0))) (some ((Int.ofNat 0),((S.errR ((x1.1.1,x1.1.2),(x1.2.1,(x1.2.2.1,x1.2.2.2)))),()))) (match (cond (S.smallJ ((x1.1.1,x1.1.2),(x1.2.1,(x1.2.2.1,x1.2.2.2)))) (some ((S.roomOf ((x1.1.1,x1.1.2),(x1.2.1,(x1.2.2.1,x1.2.2.2)))),())) none) with|none=>none|some v0=>(some (v0.1,((Int.ofNat 0),())))))
def qom(lf:Nat)(x1:qad):Option qnh:=q1t lf x1
theorem zo7{g:ElA [qae]->Option qnh}(hsm:SmOK Tryz.prog [(65,ql9),(69,qwt)])(hg:∀(x:ElA [qae]) (y:qnh),WfA [qae] x->g x=some y->∃lf,qom lf x.1=some y):Con Tryz.prog 20 ⟨[qae],[(false,(.int .i64)),(false,(.int .i64))],g⟩ :=
 conU (fi:=fi20) (hxl:=[]) (fun lf x=>qom lf x.1) cm3 zl1 trivial hsm hg
abbrev qo0:Type:=Int × Unit
abbrev zhu:Nat:=71
def q09(lf:Nat)(x1:qad)(x2:(List qaa)):Option qo0:=(cond (Bool.not (ieqI (S.errR ((x1.1.1,x1.1.2),(x1.2.1,(x1.2.2.1,x1.2.2.2)))) (Int.ofNat 0))) (some ((S.errR ((x1.1.1,x1.1.2),(x1.2.1,(x1.2.2.1,x1.2.2.2)))),())) (some ((S.size x2).2,())))
def qop(lf:Nat)(x1:qad)(x2:(List qaa)):Option qo0:=q09 lf x1 x2
theorem zdu{g:ElA [qae,(.list qac)]->Option qo0}(hsm:SmOK Tryz.prog [(65,ql9),(22,spz6)])(hg:∀(x:ElA [qae,(.list qac)]) (y:qo0),WfA [qae,(.list qac)] x->g x=some y->∃lf,qop lf x.1 x.2.1=some y):Con Tryz.prog 71 ⟨[qae,(.list qac)],[(false,(.int .i64))],g⟩ :=
 conU (fi:=fi71) (hxl:=[]) (fun lf x=>qop lf x.1 x.2.1) cm3 zk4 trivial hsm hg
def q14:List (Nat × Hx):=[(53,hxR spz8),(55,hxR spz9)]
abbrev qqe:Type:=(List DAct) × Bool × Unit
abbrev zhl:Nat:=72
def q5x(lf:Nat)(x1:qad)(x2:(List qaa)):Option qqe:=(match (cond (S.pk x2) (some ((S.packed x2 (Int.ofNat 1)),())) none) with|none=>none|some v0=>(match (cond (S.smallJ ((x1.1.1,x1.1.2),(x1.2.1,(x1.2.2.1,x1.2.2.2)))) (some ((S.roomOf ((x1.1.1,x1.1.2),(x1.2.1,(x1.2.2.1,x1.2.2.2)))),())) none) with|none=>none|some v1=>(cond (iltI v1.1 (Int.ofNat v0.1.length)) (some ([],(false,()))) (match (cond (S.inI (Int.ofNat x1.1.1.length) (Int.ofNat 0) (Int.ofNat 1000)) (some ((S.half (Int.toNat (Int.ofNat x1.1.1.length)) x1.2.1),())) none) with|none=>none|some v2=>(match (jget v0.1 (Int.ofNat 0)) with|none=>none|some v3=>(match (GetElem?.getElem? v0.1 0) with|none=>none|some v4=>(match (cond (Decidable.decide (Eq v4.size 64)) (some ((qag (List.cons (Int.ofNat 0) (List.drop 1 (qab v4)))),())) none) with|none=>none|some v5=>(match (cond (Bool.and (S.inI (IntKind.i64.wrap (Int.add v2.1.1 x1.2.2.1)) (Int.ofNat 0) (Int.ofNat 1000000)) true) (some ((),(((S.app [] (S.puts (IntKind.i64.wrap (Int.add v2.1.1 x1.2.2.1)) [v5.1])),()),()))) none) with|none=>none|some v6=>(cond (lchk (Int.ofNat 1) (Int.ofNat v0.1.length) (Int.ofNat v0.1.length) (Int.ofNat v0.1.length)) (match (cond (Bool.and (S.inI (IntKind.i64.wrap (Int.add (IntKind.i64.wrap (Int.add v2.1.1 x1.2.2.1)) (Int.ofNat 1))) (Int.ofNat 0) (Int.ofNat 1000000)) (Bool.and (Nat.ble (List.length (lsub v0.1 (Int.ofNat 1) (Int.ofNat v0.1.length))) 1000000) (Nat.ble (S.lenA v6.2.1.1) 1000000))) (some ((),(((S.app v6.2.1.1 (S.puts (IntKind.i64.wrap (Int.add (IntKind.i64.wrap (Int.add v2.1.1 x1.2.2.1)) (Int.ofNat 1))) (lsub v0.1 (Int.ofNat 1) (Int.ofNat v0.1.length)))),()),()))) none) with|none=>none|some v7=>(cond (iltI (IntKind.i64.wrap (Int.add (IntKind.i64.wrap (Int.add v2.1.1 x1.2.2.1)) (Int.ofNat v0.1.length))) v2.1.2) (match (cond (Bool.and (S.inI (IntKind.i64.wrap (Int.add (IntKind.i64.wrap (Int.add v2.1.1 x1.2.2.1)) (Int.ofNat v0.1.length))) (Int.ofNat 0) (Int.ofNat 1000000)) (Nat.ble (S.lenA v7.2.1.1) 1000000)) (some ((),(((S.app v7.2.1.1 (S.puts (IntKind.i64.wrap (Int.add (IntKind.i64.wrap (Int.add v2.1.1 x1.2.2.1)) (Int.ofNat v0.1.length))) [S.blank])),()),()))) none) with|none=>none|some v8=>(match (cond (Nat.ble (S.lenA v8.2.1.1) 4000000) (some ((),(((S.app v8.2.1.1 [S.sync]),()),()))) none) with|none=>none|some v9=>(match (jget v0.1 (Int.ofNat 0)) with|none=>none|some v10=>(match (cond (Bool.and (S.inI (IntKind.i64.wrap (Int.add v2.1.1 x1.2.2.1)) (Int.ofNat 0) (Int.ofNat 1000000)) (Nat.ble (S.lenA v9.2.1.1) 1000000)) (some ((),(((S.app v9.2.1.1 (S.puts (IntKind.i64.wrap (Int.add v2.1.1 x1.2.2.1)) [v10])),()),()))) none) with|none=>none|some v11=>(match (cond (Nat.ble (S.lenA v11.2.1.1) 4000000) (some ((),(((S.app v11.2.1.1 [S.sync]),()),()))) none) with|none=>none|some v12=>(some (v12.2.1.1,(true,())))))))) (match (cond (Nat.ble (S.lenA v7.2.1.1) 4000000) (some ((),(((S.app v7.2.1.1 [S.sync]),()),()))) none) with|none=>none|some v13=>(match (jget v0.1 (Int.ofNat 0)) with|none=>none|some v14=>(match (cond (Bool.and (S.inI (IntKind.i64.wrap (Int.add v2.1.1 x1.2.2.1)) (Int.ofNat 0) (Int.ofNat 1000000)) (Nat.ble (S.lenA v13.2.1.1) 1000000)) (some ((),(((S.app v13.2.1.1 (S.puts (IntKind.i64.wrap (Int.add v2.1.1 x1.2.2.1)) [v14])),()),()))) none) with|none=>none|some v15=>(match (cond (Nat.ble (S.lenA v15.2.1.1) 4000000) (some ((),(((S.app v15.2.1.1 [S.sync]),()),()))) none) with|none=>none|some v16=>(some (v16.2.1.1,(true,()))))))))) none)))))))))
def qn9(lf:Nat)(x1:qad)(x2:(List qaa)):Option qqe:=q5x lf x1 x2
theorem zd9(hrz8:ConR Tryz.prog 53 spz8)(hrz9:ConR Tryz.prog 55 spz9):qa9 Tryz.prog q14:=⟨qfx hrz8,⟨qfx hrz9,trivial⟩⟩
theorem zpk{g:ElA [qae,(.list qac)]->Option qqe}(hsm:SmOK Tryz.prog [(56,qjo),(69,qwt),(93,qja),(101,qsm),(54,qm4)])(hrz8:ConR Tryz.prog 53 spz8)(hrz9:ConR Tryz.prog 55 spz9)(hg:∀(x:ElA [qae,(.list qac)]) (y:qqe),WfA [qae,(.list qac)] x->g x=some y->∃lf,qn9 lf x.1 x.2.1=some y):Con Tryz.prog 72 ⟨[qae,(.list qac)],[(true,cAct),(false,.bool)],g⟩ :=
 conU (fi:=fi72) (hxl:=q14) (fun lf x=>qn9 lf x.1 x.2.1) cm3 q95 (zd9 hrz8 hrz9) hsm hg
abbrev qrj:Type:=qad × Unit
abbrev zo5:Nat:=74
def q4o(lf:Nat)(x1:qad)(x2:(List DAct)):Option qrj:=(match (cond (S.okL ((S.doD (x1.1.1,x1.1.2) x2).1.1,(S.doD (x1.1.1,x1.1.2) x2).1.2)) (some ((S.openedJ ((S.doD (x1.1.1,x1.1.2) x2).1.1,(S.doD (x1.1.1,x1.1.2) x2).1.2)).1,((S.openedJ ((S.doD (x1.1.1,x1.1.2) x2).1.1,(S.doD (x1.1.1,x1.1.2) x2).1.2)).2,()))) none) with|none=>none|some v0=>(some (((v0.1.1.1,v0.1.1.2),(v0.1.2.1,(v0.1.2.2.1,v0.1.2.2.2))),())))
def qpp(lf:Nat)(x1:qad)(x2:(List DAct)):Option qrj:=q4o lf x1 x2
theorem zh7{g:ElA [qae,(.list cAct)]->Option qrj}(hsm:SmOK Tryz.prog [(32,qvx),(61,qgw)])(hg:∀(x:ElA [qae,(.list cAct)]) (y:qrj),WfA [qae,(.list cAct)] x->g x=some y->∃lf,qpp lf x.1 x.2.1=some y):Con Tryz.prog 74 ⟨[qae,(.list cAct)],[(false,qae)],g⟩ :=
 conU (fi:=fi74) (hxl:=[]) (fun lf x=>qpp lf x.1 x.2.1) cm3 zod trivial hsm hg
abbrev qra:Type:=(List DAct) × Int × Unit
abbrev zo4:Nat:=24
def q78(lf:Nat)(x1:qad)(x2:(List qaa)):Option qra:=(cond (Bool.not (ieqI (S.asked ((x1.1.1,x1.1.2),(x1.2.1,(x1.2.2.1,x1.2.2.2))) x2) (Int.ofNat 0))) (some ([],((S.asked ((x1.1.1,x1.1.2),(x1.2.1,(x1.2.2.1,x1.2.2.2))) x2),()))) (match (cond (S.comG ((x1.1.1,x1.1.2),(x1.2.1,(x1.2.2.1,x1.2.2.2))) x2) (some ((S.actsB (S.commit ((x1.1.1,x1.1.2),(x1.2.1,(x1.2.2.1,x1.2.2.2))) x2)).1,((S.actsB (S.commit ((x1.1.1,x1.1.2),(x1.2.1,(x1.2.2.1,x1.2.2.2))) x2)).2,()))) none) with|none=>none|some v0=>(cond (Bool.not v0.2.1) (some ([],((Int.ofNat 14),()))) (some (v0.1,((Int.ofNat 0),()))))))
def qpv(lf:Nat)(x1:qad)(x2:(List qaa)):Option qra:=q78 lf x1 x2
theorem zkg{g:ElA [qae,(.list qac)]->Option qra}(hsm:SmOK Tryz.prog [(71,qwh),(72,qt8)])(hg:∀(x:ElA [qae,(.list qac)]) (y:qra),WfA [qae,(.list qac)] x->g x=some y->∃lf,qpv lf x.1 x.2.1=some y):Con Tryz.prog 24 ⟨[qae,(.list qac)],[(true,cAct),(false,(.int .i64))],g⟩ :=
 conU (fi:=fi24) (hxl:=[]) (fun lf x=>qpv lf x.1 x.2.1) cm3 za2 trivial hsm hg
abbrev qni:Type:=qad × Int × Unit
abbrev ztb:Nat:=26
def q8g(lf:Nat)(x1:qad)(x2:(List qaa)):Option qni:=(cond (Bool.not (ieqI (S.plan ((x1.1.1,x1.1.2),(x1.2.1,(x1.2.2.1,x1.2.2.2))) x2).2 (Int.ofNat 0))) (some ((([],[]),((Int.ofNat 0),((Int.ofNat 0),[]))),((S.plan ((x1.1.1,x1.1.2),(x1.2.1,(x1.2.2.1,x1.2.2.2))) x2).2,()))) (match (cond (S.behG ((x1.1.1,x1.1.2),(x1.2.1,(x1.2.2.1,x1.2.2.2))) (S.plan ((x1.1.1,x1.1.2),(x1.2.1,(x1.2.2.1,x1.2.2.2))) x2).1) (some ((S.behind ((x1.1.1,x1.1.2),(x1.2.1,(x1.2.2.1,x1.2.2.2))) (S.plan ((x1.1.1,x1.1.2),(x1.2.1,(x1.2.2.1,x1.2.2.2))) x2).1).1,())) none) with|none=>none|some v0=>(some (((v0.1.1.1,v0.1.1.2),(v0.1.2.1,(v0.1.2.2.1,v0.1.2.2.2))),((Int.ofNat 0),())))))
def qnd(lf:Nat)(x1:qad)(x2:(List qaa)):Option qni:=q8g lf x1 x2
theorem zb5{g:ElA [qae,(.list qac)]->Option qni}(hsm:SmOK Tryz.prog [(24,q05),(74,qpw)])(hg:∀(x:ElA [qae,(.list qac)]) (y:qni),WfA [qae,(.list qac)] x->g x=some y->∃lf,qnd lf x.1 x.2.1=some y):Con Tryz.prog 26 ⟨[qae,(.list qac)],[(false,qae),(false,(.int .i64))],g⟩ :=
 conU (fi:=fi26) (hxl:=[]) (fun lf x=>qnd lf x.1 x.2.1) cm3 zss trivial hsm hg
abbrev qor:Type:=(List DAct) × Int × Unit
abbrev zah:Nat:=39
def q7r(lf:Nat)(x1:qad):Option qor:=(cond (Bool.not (ieqI (S.errR ((x1.1.1,x1.1.2),(x1.2.1,(x1.2.2.1,x1.2.2.2)))) (Int.ofNat 0))) (some ([],((S.errR ((x1.1.1,x1.1.2),(x1.2.1,(x1.2.2.1,x1.2.2.2)))),()))) (match (cond (S.turG ((x1.1.1,x1.1.2),(x1.2.1,(x1.2.2.1,x1.2.2.2)))) (some ((S.actsB (S.turn ((x1.1.1,x1.1.2),(x1.2.1,(x1.2.2.1,x1.2.2.2))))).1,((S.actsB (S.turn ((x1.1.1,x1.1.2),(x1.2.1,(x1.2.2.1,x1.2.2.2))))).2,()))) none) with|none=>none|some v0=>(cond (Bool.not v0.2.1) (some ([],((Int.ofNat 14),()))) (some (v0.1,((Int.ofNat 0),()))))))
def qnu(lf:Nat)(x1:qad):Option qor:=q7r lf x1
theorem ze2{g:ElA [qae]->Option qor}(hsm:SmOK Tryz.prog [(65,ql9),(88,qt0)])(hg:∀(x:ElA [qae]) (y:qor),WfA [qae] x->g x=some y->∃lf,qnu lf x.1=some y):Con Tryz.prog 39 ⟨[qae],[(true,cAct),(false,(.int .i64))],g⟩ :=
 conU (fi:=fi39) (hxl:=[]) (fun lf x=>qnu lf x.1) cm3 zpm trivial hsm hg
abbrev qo8:Type:=qad × Int × Unit
abbrev zge:Nat:=41
def q8b(lf:Nat)(x1:qad):Option qo8:=(cond (Bool.not (ieqI (S.planTurn ((x1.1.1,x1.1.2),(x1.2.1,(x1.2.2.1,x1.2.2.2)))).2 (Int.ofNat 0))) (some ((([],[]),((Int.ofNat 0),((Int.ofNat 0),[]))),((S.planTurn ((x1.1.1,x1.1.2),(x1.2.1,(x1.2.2.1,x1.2.2.2)))).2,()))) (match (cond (S.behG ((x1.1.1,x1.1.2),(x1.2.1,(x1.2.2.1,x1.2.2.2))) (S.planTurn ((x1.1.1,x1.1.2),(x1.2.1,(x1.2.2.1,x1.2.2.2)))).1) (some ((S.behind ((x1.1.1,x1.1.2),(x1.2.1,(x1.2.2.1,x1.2.2.2))) (S.planTurn ((x1.1.1,x1.1.2),(x1.2.1,(x1.2.2.1,x1.2.2.2)))).1).1,())) none) with|none=>none|some v0=>(some (((v0.1.1.1,v0.1.1.2),(v0.1.2.1,(v0.1.2.2.1,v0.1.2.2.2))),((Int.ofNat 0),())))))
def qqv(lf:Nat)(x1:qad):Option qo8:=q8b lf x1
theorem zj7{g:ElA [qae]->Option qo8}(hsm:SmOK Tryz.prog [(39,q40),(74,qpw)])(hg:∀(x:ElA [qae]) (y:qo8),WfA [qae] x->g x=some y->∃lf,qqv lf x.1=some y):Con Tryz.prog 41 ⟨[qae],[(false,qae),(false,(.int .i64))],g⟩ :=
 conU (fi:=fi41) (hxl:=[]) (fun lf x=>qqv lf x.1) cm3 zn4 trivial hsm hg
abbrev qpd:Type:=qad × Int × Unit
abbrev zq3:Nat:=43
def q43(lf:Nat)(x1:qad)(x2:(List qaa)):Option qpd:=(cond (Bool.not (ieqI (S.asked ((x1.1.1,x1.1.2),(x1.2.1,(x1.2.2.1,x1.2.2.2))) x2) (Int.ofNat 0))) (some ((([],[]),((Int.ofNat 0),((Int.ofNat 0),[]))),((S.asked ((x1.1.1,x1.1.2),(x1.2.1,(x1.2.2.1,x1.2.2.2))) x2),()))) (match (cond (S.comG ((x1.1.1,x1.1.2),(x1.2.1,(x1.2.2.1,x1.2.2.2))) x2) (some ((S.actsB (S.commit ((x1.1.1,x1.1.2),(x1.2.1,(x1.2.2.1,x1.2.2.2))) x2)).1,((S.actsB (S.commit ((x1.1.1,x1.1.2),(x1.2.1,(x1.2.2.1,x1.2.2.2))) x2)).2,()))) none) with|none=>none|some v0=>(cond v0.2.1 (match (cond (S.behG ((x1.1.1,x1.1.2),(x1.2.1,(x1.2.2.1,x1.2.2.2))) v0.1) (some ((S.behind ((x1.1.1,x1.1.2),(x1.2.1,(x1.2.2.1,x1.2.2.2))) v0.1).1,())) none) with|none=>none|some v1=>(some (((v1.1.1.1,v1.1.1.2),(v1.1.2.1,(v1.1.2.2.1,v1.1.2.2.2))),((Int.ofNat 0),())))) (match (cond (S.turG ((x1.1.1,x1.1.2),(x1.2.1,(x1.2.2.1,x1.2.2.2)))) (some ((S.actsB (S.turn ((x1.1.1,x1.1.2),(x1.2.1,(x1.2.2.1,x1.2.2.2))))).1,((S.actsB (S.turn ((x1.1.1,x1.1.2),(x1.2.1,(x1.2.2.1,x1.2.2.2))))).2,()))) none) with|none=>none|some v2=>(cond (Bool.not v2.2.1) (some ((([],[]),((Int.ofNat 0),((Int.ofNat 0),[]))),((Int.ofNat 14),()))) (match (cond (S.behG ((x1.1.1,x1.1.2),(x1.2.1,(x1.2.2.1,x1.2.2.2))) v2.1) (some ((S.behind ((x1.1.1,x1.1.2),(x1.2.1,(x1.2.2.1,x1.2.2.2))) v2.1).1,())) none) with|none=>none|some v3=>(match (cond (S.comG ((v3.1.1.1,v3.1.1.2),(v3.1.2.1,(v3.1.2.2.1,v3.1.2.2.2))) x2) (some ((S.actsB (S.commit ((v3.1.1.1,v3.1.1.2),(v3.1.2.1,(v3.1.2.2.1,v3.1.2.2.2))) x2)).1,((S.actsB (S.commit ((v3.1.1.1,v3.1.1.2),(v3.1.2.1,(v3.1.2.2.1,v3.1.2.2.2))) x2)).2,()))) none) with|none=>none|some v4=>(cond (Bool.not v4.2.1) (some ((([],[]),((Int.ofNat 0),((Int.ofNat 0),[]))),((Int.ofNat 14),()))) (match (cond (S.behG ((v3.1.1.1,v3.1.1.2),(v3.1.2.1,(v3.1.2.2.1,v3.1.2.2.2))) v4.1) (some ((S.behind ((v3.1.1.1,v3.1.1.2),(v3.1.2.1,(v3.1.2.2.1,v3.1.2.2.2))) v4.1).1,())) none) with|none=>none|some v5=>(some (((v5.1.1.1,v5.1.1.2),(v5.1.2.1,(v5.1.2.2.1,v5.1.2.2.2))),((Int.ofNat 0),()))))))))))))
def qq8(lf:Nat)(x1:qad)(x2:(List qaa)):Option qpd:=q43 lf x1 x2
theorem zii{g:ElA [qae,(.list qac)]->Option qpd}(hsm:SmOK Tryz.prog [(71,qwh),(72,qt8),(88,qt0),(74,qpw)])(hg:∀(x:ElA [qae,(.list qac)]) (y:qpd),WfA [qae,(.list qac)] x->g x=some y->∃lf,qq8 lf x.1 x.2.1=some y):Con Tryz.prog 43 ⟨[qae,(.list qac)],[(false,qae),(false,(.int .i64))],g⟩ :=
 conU (fi:=fi43) (hxl:=[]) (fun lf x=>qq8 lf x.1 x.2.1) cm3 zkc trivial hsm hg
abbrev qps:Type:=qad × Int × Unit
abbrev zed:Nat:=13
def q5f(lf:Nat)(x1:qaf):Option qps:=(cond (Bool.not (ieqI (S.checkDisk (x1.1,x1.2)) (Int.ofNat 0))) (some ((([],[]),((Int.ofNat 0),((Int.ofNat 0),[]))),((S.checkDisk (x1.1,x1.2)),()))) (cond (iltI (Int.ofNat 0) (Int.ofNat x1.2.length)) (some ((([],[]),((Int.ofNat 0),((Int.ofNat 0),[]))),((Int.ofNat 12),()))) (match (cond (S.okL (x1.1,x1.2)) (some ((S.openedJ (x1.1,x1.2)).1,((S.openedJ (x1.1,x1.2)).2,()))) none) with|none=>none|some v0=>(cond (Bool.not v0.2.1) (some ((([],[]),((Int.ofNat 0),((Int.ofNat 0),[]))),((Int.ofNat 15),()))) (some (((v0.1.1.1,v0.1.1.2),(v0.1.2.1,(v0.1.2.2.1,v0.1.2.2.2))),((Int.ofNat 0),())))))))
def qqb(lf:Nat)(x1:qaf):Option qps:=q5f lf x1
theorem zn2{g:ElA [qam]->Option qps}(hsm:SmOK Tryz.prog [(37,qhi),(61,qgw)])(hg:∀(x:ElA [qam]) (y:qps),WfA [qam] x->g x=some y->∃lf,qqb lf x.1=some y):Con Tryz.prog 13 ⟨[qam],[(false,qae),(false,(.int .i64))],g⟩ :=
 conU (fi:=fi13) (hxl:=[]) (fun lf x=>qqb lf x.1) cm3 zbc trivial hsm hg
def nmz8:Nat->Option Nm:=fun k=>cond (Nat.beq k 1) (some ⟨[0,1,8,9,10],[],[],[],[],0,0,false⟩) (cond (Nat.beq k 999999) (some ⟨[],[],[],[],[],0,0,false⟩) none)
def stz8:Nat->Bool:=fun k=>cond (Nat.beq k 1) true (false)
def hdz8:=stz8
abbrev Rtz8:Type:=(Unit) × ((List DAct) × Unit) × Unit
def qr1:List (Nat × Sm):=[]
def qr3:List (Nat × Hx):=[]
def clz8(R:Type)(lf:Nat):ClK R:=qa2 Tryz.prog ttT.get ftT.get (fun _ _=>none) (smL qr1) (hxL qr3) lf 20 R
abbrev idz8:Nat:=53
def qim(x1:(List DAct))(x2:Int)(x3:(List ByteArray))(p:Int × (List DAct)):NRes:=(NRes.mk (.node (some (IV.ptr 0 0)) (.node (some (IV.int .i64 x2)) .leaf (.node none (.node (some (IV.int .i64 (Int.ofNat x3.length))) .leaf .leaf) .leaf)) (.node none (.node none (.node (some (IV.lst TC.str x3)) .leaf .leaf) .leaf) (.node none (.node (some (IV.int .i64 p.1)) .leaf .leaf) .leaf))) (IS.mk (.node (some (IObj.row [(IV.arr 1)])) (.node (some (IObj.arr cAct p.2)) .leaf .leaf) .leaf) 2) [] 0)
def qvp(lf:Nat)(x1:(List DAct))(x2:Int)(x3:(List ByteArray))(L1:(Int × (List DAct))->Option Rtz8):Option Rtz8:=(L1 ((Int.ofNat 0),x1))
def qi0(lf:Nat)(x1:(List DAct))(x2:Int)(x3:(List ByteArray))(L1:(Int × (List DAct))->Option Rtz8)(p:Int × (List DAct)):Option Rtz8:=(cond (iltI p.1 (Int.ofNat x3.length)) (match (jget x3 p.1) with|none=>none|some v0=>(cond (Nat.ble (Nat.mul (Nat.add p.2.length 1) 32) 140737488355328) (L1 ((IntKind.i64.wrap (Int.add p.1 (Int.ofNat 1))),(List.append p.2 (List.cons (false,((IntKind.i64.wrap (Int.add x2 p.1)),v0)) [])))) none)) (some ((),((p.2,()),()))))
abbrev gz8:Type:=ElP [.ref (.box [.arr cAct]),.dat (.int .i64),.dat (.list .str)]->Option Rtz8
abbrev sz8(g:gz8):SmR:=⟨[.ref (.box [.arr cAct]),.dat (.int .i64),.dat (.list .str)],[],g⟩
abbrev Ez8(g:gz8)(J:JT Rtz8)(lf:Nat)(x1:(List DAct))(x2:Int)(x3:(List ByteArray)):=qbx Tryz.prog ttT.get nmz8 (mP [.ref (.box [.arr cAct]),.dat (.int .i64),.dat (.list .str)]) fi53.nt (clz8 _ lf) lf stz8 J fi53.body [] (qaz (qaq [.ref (.box [.arr cAct]),.dat (.int .i64),.dat (.list .str)] idN 0 ((x1,()),x2,x3,())) 0 .leaf) (Sc [.ref (.box [.arr cAct]),.dat (.int .i64),.dat (.list .str)] ((x1,()),x2,x3,())) [] (qdz ttT.get fi53 (sz8 g))
abbrev Bz8(g:gz8)(J:JT Rtz8)(lf k:Nat)(ms:List Nat)(q:NRes):=qb9 Tryz.prog ttT.get nmz8 (mP [.ref (.box [.arr cAct]),.dat (.int .i64),.dat (.list .str)]) fi53.nt (clz8 _ lf) lf stz8 J k fi53.body [] ms q (qdz ttT.get fi53 (sz8 g))
theorem inz8(g:gz8)(J:JT Rtz8)(lf:Nat)(x1:(List DAct))(x2:Int)(x3:(List ByteArray)):Ez8 g J lf x1 x2 x3=qvp lf x1 x2 x3 (fun q=>J 1 [lf] (qim x1 x2 x3 q)):=by kernel_rfl
theorem ziq(g:gz8)(J:JT Rtz8)(lf:Nat)(x1:(List DAct))(x2:Int)(x3:(List ByteArray))(m1:Nat)(p:Int × (List DAct)):Bz8 g J lf 1 [m1] (qim x1 x2 x3 p)=qi0 lf x1 x2 x3 (fun q=>J 1 [m1] (qim x1 x2 x3 q)) p:=by kernel_rfl
theorem ndz8:(regs fi53.body).Nodup:=by decide +kernel
theorem okz8:okC nmz8 stz8 hdz8 fi53.body none=true:=by kernel_rfl
def Az8(g:gz8)(lf:Nat):JT Rtz8:=atQ Tryz.prog ttT.get nmz8 fi53 (sz8 g) (clz8 _ lf) lf hdz8
def qf8(lf:Nat)(x1:(List DAct))(x2:Int)(x3:(List ByteArray)):Nat->(Int × (List DAct))->Option Rtz8:=qa1 fun K p=>qi0 lf x1 x2 x3 K p
theorem q1r(g:gz8)(lf:Nat)(x1:(List DAct))(x2:Int)(x3:(List ByteArray)):∀(n:Nat) (p:Int × (List DAct)),Az8 g lf 1 [n] (qim x1 x2 x3 p)=qf8 lf x1 x2 x3 n p
 | 0,p=>q88 1 [0] rfl _
 | n+1,p=>by
  have ih:=q1r g lf x1 x2 x3 n;refine(qz3 rfl (qa5 20 _) ndz8 okz8 1 [n+1] [n] rfl _).trans ((ziq g (Az8 g lf) lf x1 x2 x3 n p).trans ?_);rw[(show (fun q=>Az8 g lf 1 [n] (qim x1 x2 x3 q))=(fun q=>qf8 lf x1 x2 x3 n q) from funext ih)];rfl
def Fz8(lf:Nat)(x1:(List DAct))(x2:Int)(x3:(List ByteArray)):Option Rtz8:=qvp lf x1 x2 x3 (fun q=>qf8 lf x1 x2 x3 lf q)
theorem zc4(g:gz8)(lf:Nat)(x1:(List DAct))(x2:Int)(x3:(List ByteArray)):Ez8 g (Az8 g lf) lf x1 x2 x3=Fz8 lf x1 x2 x3:=by
  refine(inz8 g (Az8 g lf) lf x1 x2 x3).trans ?_;rw[(show (fun q=>Az8 g lf 1 [lf] (qim x1 x2 x3 q))=(fun q=>qf8 lf x1 x2 x3 lf q) from funext fun q=>q1r g lf x1 x2 x3 lf q)];rfl
theorem zcr:qa9 Tryz.prog qr3:=trivial
theorem mkz8{g:gz8}(hsm:SmOK Tryz.prog qr1)(hg:∀(x:ElP [.ref (.box [.arr cAct]),.dat (.int .i64),.dat (.list .str)]) (y:Rtz8),WfP [.ref (.box [.arr cAct]),.dat (.int .i64),.dat (.list .str)] x->g x=some y->∃lf,Fz8 lf x.1.1 x.2.1 x.2.2.1=some y):ConR Tryz.prog 53 ⟨[.ref (.box [.arr cAct]),.dat (.int .i64),.dat (.list .str)],[],g⟩ :=
 conTR (nmf:=nmz8) (sml:=qr1) (hxl:=qr3) (st:=stz8) (hd:=hdz8) 20 mixed ttOK ftOK hsm zcr zbq (by kernel_rfl) (fun x=>by kernel_rfl) ndz8 okz8 fun x y z hx hy=>by
  obtain⟨lf,h⟩:=hg x (y,z) hx hy;exact⟨lf,(zc4 g lf x.1.1 x.2.1 x.2.2.1).trans h⟩
def nmz9:Nat->Option Nm:=fun k=>cond (Nat.beq k 999999) (some ⟨[],[],[],[],[],0,0,false⟩) none
def stz9:Nat->Bool:=fun k=>false
def hdz9:=stz9
abbrev Rtz9:Type:=(Unit) × ((List DAct) × Unit) × Unit
def qta:List (Nat × Sm):=[]
def qu4:List (Nat × Hx):=[]
def clz9(R:Type)(lf:Nat):ClK R:=qa2 Tryz.prog ttT.get ftT.get (fun _ _=>none) (smL qta) (hxL qu4) lf 20 R
abbrev idz9:Nat:=55
def qv2(lf:Nat)(x1:(List DAct)):Option Rtz9:=(cond (Nat.ble (Nat.mul (Nat.add x1.length 1) 32) 140737488355328) (some ((),(((List.append x1 (List.cons (true,((Int.ofNat 0),(S.lit []))) [])),()),()))) none)
abbrev gz9:Type:=ElP [.ref (.box [.arr cAct])]->Option Rtz9
abbrev sz9(g:gz9):SmR:=⟨[.ref (.box [.arr cAct])],[],g⟩
abbrev Ez9(g:gz9)(J:JT Rtz9)(lf:Nat)(x1:(List DAct)):=qbx Tryz.prog ttT.get nmz9 (mP [.ref (.box [.arr cAct])]) fi55.nt (clz9 _ lf) lf stz9 J fi55.body [] (qaz (qaq [.ref (.box [.arr cAct])] idN 0 ((x1,()),())) 0 .leaf) (Sc [.ref (.box [.arr cAct])] ((x1,()),())) [] (qdz ttT.get fi55 (sz9 g))
theorem inz9(g:gz9)(J:JT Rtz9)(lf:Nat)(x1:(List DAct)):Ez9 g J lf x1=qv2 lf x1:=by kernel_rfl
theorem ndz9:(regs fi55.body).Nodup:=by decide +kernel
theorem okz9:okC nmz9 stz9 hdz9 fi55.body none=true:=by kernel_rfl
def Az9(g:gz9)(lf:Nat):JT Rtz9:=atQ Tryz.prog ttT.get nmz9 fi55 (sz9 g) (clz9 _ lf) lf hdz9
def Fz9(lf:Nat)(x1:(List DAct)):Option Rtz9:=qv2 lf x1
theorem zr3(g:gz9)(lf:Nat)(x1:(List DAct)):Ez9 g (Az9 g lf) lf x1=Fz9 lf x1:=by
  refine(inz9 g (Az9 g lf) lf x1).trans ?_;rfl
theorem zhs:qa9 Tryz.prog qu4:=trivial
theorem mkz9{g:gz9}(hsm:SmOK Tryz.prog qta)(hg:∀(x:ElP [.ref (.box [.arr cAct])]) (y:Rtz9),WfP [.ref (.box [.arr cAct])] x->g x=some y->∃lf,Fz9 lf x.1.1=some y):ConR Tryz.prog 55 ⟨[.ref (.box [.arr cAct])],[],g⟩ :=
 conTR (nmf:=nmz9) (sml:=qta) (hxl:=qu4) (st:=stz9) (hd:=hdz9) 20 mixed ttOK ftOK hsm zhs zib (by kernel_rfl) (fun x=>by kernel_rfl) ndz9 okz9 fun x y z hx hy=>by
  obtain⟨lf,h⟩:=hg x (y,z) hx hy;exact⟨lf,(zr3 g lf x.1.1).trans h⟩
def qzd:List (Nat × Hx):=[(53,hxR spz8),(55,hxR spz9)]
abbrev qoo:Type:=(List DAct) × Int × Unit
abbrev zqb:Nat:=11
def q3g(lf:Nat)(x1:qaf):Option qoo:=(cond (Bool.not (ieqI (S.checkDisk (x1.1,x1.2)) (Int.ofNat 0))) (some ([],((S.checkDisk (x1.1,x1.2)),()))) (cond (iltI (Int.ofNat 0) (Int.ofNat x1.2.length)) (some ([],((Int.ofNat 12),()))) (match (cond true (some ((),(((S.app (S.app [] (S.puts (Int.ofNat 1) (List.cons S.blank [S.blank]))) [S.sync]),()),()))) none) with|none=>none|some v0=>(match (cond (S.pk []) (some ((S.packed [] (Int.ofNat 1)),())) none) with|none=>none|some v1=>(match (cond (Bool.and (S.inI (Int.ofNat 1) (Int.ofNat 0) (Int.ofNat 1000000)) (Bool.and (Nat.ble v1.1.length 1000000) (Nat.ble (S.lenA v0.2.1.1) 1000000))) (some ((),(((S.app v0.2.1.1 (S.puts (Int.ofNat 1) v1.1)),()),()))) none) with|none=>none|some v2=>(match (cond (Nat.ble (S.lenA v2.2.1.1) 4000000) (some ((),(((S.app v2.2.1.1 [S.sync]),()),()))) none) with|none=>none|some v3=>(match (cond (Bool.and (S.inI (Int.ofNat 0) (Int.ofNat 0) (Int.ofNat 1000000)) (Nat.ble (S.lenA v3.2.1.1) 1000000)) (some ((),(((S.app v3.2.1.1 (S.puts (Int.ofNat 0) [S.blank])),()),()))) none) with|none=>none|some v4=>(match (cond (Nat.ble (S.lenA v4.2.1.1) 4000000) (some ((),(((S.app v4.2.1.1 [S.sync]),()),()))) none) with|none=>none|some v5=>(some (v5.2.1.1,((Int.ofNat 0),())))))))))))
def qpo(lf:Nat)(x1:qaf):Option qoo:=q3g lf x1
theorem zeq(hrz8:ConR Tryz.prog 53 spz8)(hrz9:ConR Tryz.prog 55 spz9):qa9 Tryz.prog qzd:=⟨qfx hrz8,⟨qfx hrz9,trivial⟩⟩
theorem zoh{g:ElA [qam]->Option qoo}(hsm:SmOK Tryz.prog [(37,qhi),(54,qm4),(56,qjo)])(hrz8:ConR Tryz.prog 53 spz8)(hrz9:ConR Tryz.prog 55 spz9)(hg:∀(x:ElA [qam]) (y:qoo),WfA [qam] x->g x=some y->∃lf,qpo lf x.1=some y):Con Tryz.prog 11 ⟨[qam],[(true,cAct),(false,(.int .i64))],g⟩ :=
 conU (fi:=fi11) (hxl:=qzd) (fun lf x=>qpo lf x.1) cm3 zc0 (zeq hrz8 hrz9) hsm hg
def qkj:Nat->Option Nm:=fun k=>cond (Nat.beq k 6) (some ⟨[4,7,23,24,25],[],[(7,0,.str),(7,1,cPut)],[],[],0,0,false⟩) (none)
def ql8:Nat->Bool:=fun k=>cond (Nat.beq k 6) true (false)
def q4g:=ql8
abbrev qcv:Type:=qaf × Int × Unit
def q9g:List (Nat × Sm):=[(37,qhi),(66,qg0),(79,qs3),(80,q9b),(77,qlv),(78,qy7)]
def qy0:List (Nat × Hx):=[]
def qvh(R:Type)(lf:Nat):ClK R:=qa2 Tryz.prog ttT.get ftT.get (nm1 32 qkj) (smL q9g) (hxL qy0) lf 20 R
abbrev zi2:Nat:=32
def qhv(x1:qaf)(x2:zok)(p:Int × (List DPut) × (List ByteArray)):NRes:=(NRes.mk (.node none (.node none (.node none (.node (some (IV.ptr 1 0)) .leaf (.node (some (IV.lst cAct x2)) .leaf .leaf)) .leaf) (.node none (.node none .leaf (.node (some (IV.int .i64 p.1)) .leaf .leaf)) .leaf)) (.node none (.node (some (IV.ptr 0 0)) (.node none .leaf (.node (some (IV.int .i64 (Int.ofNat x2.length))) .leaf .leaf)) .leaf) .leaf)) (IS.mk (.node (some (IObj.row (List.cons IV.nilsl [IV.nilsl]))) (.node (some (IObj.row (List.cons (IV.arr 2) [(IV.arr 3)]))) (.node (some (IObj.arr cPut p.2.1)) .leaf .leaf) .leaf) (.node (some (IObj.arr TC.str p.2.2)) .leaf .leaf)) 4) [] 0)
def qrq(lf:Nat)(x1:qaf)(x2:(List DAct))(L6:(Int × (List DPut) × (List ByteArray))->Option qcv):Option qcv:=(cond (Bool.not (ieqI (S.checkDisk (x1.1,x1.2)) (Int.ofNat 0))) (some (([],[]),((S.checkDisk (x1.1,x1.2)),()))) (L6 ((Int.ofNat 0),x1.2,x1.1)))
def qo4(lf:Nat)(x1:qaf)(x2:(List DAct))(L6:(Int × (List DPut) × (List ByteArray))->Option qcv)(p:Int × (List DPut) × (List ByteArray)):Option qcv:=(cond (iltI p.1 (Int.ofNat x2.length)) (match (jget x2 p.1) with|none=>none|some v0=>(cond v0.1 (cond (Bool.not (Bool.and (keqI v0.2.1 (Int.ofNat 0)) (Bool.and (keqS v0.2.2 (S.lit [])) true))) (cond (Bool.not (Bool.and (keqI v0.2.1 (Int.ofNat 0)) (Bool.and (keqS v0.2.2 (S.lit [])) true))) (some (([],[]),((Int.ofNat 1),()))) (cond v0.1 (match (cond (S.fitP p.2.2 p.2.1) (some ((S.settled p.2.2 p.2.1),())) none) with|none=>none|some v1=>(L6 ((IntKind.i64.wrap (Int.add p.1 (Int.ofNat 1))),[],v1.1))) (cond (ieqI (Int.ofNat p.2.1.length) (Int.ofNat 4000)) (some (([],[]),((Int.ofNat 3),()))) (cond (Nat.ble (Nat.mul (Nat.add p.2.1.length 1) 24) 140737488355328) (L6 ((IntKind.i64.wrap (Int.add p.1 (Int.ofNat 1))),(List.append p.2.1 [(v0.2.1,v0.2.2)]),p.2.2)) none)))) (cond (Bool.not v0.1) (cond (S.short v0.2.2) (some (([],[]),((Int.ofNat 1),()))) (cond (Bool.not (S.inI v0.2.1 (Int.ofNat 0) (IntKind.i64.wrap (Int.sub (Int.ofNat p.2.2.length) (Int.ofNat 1))))) (some (([],[]),((Int.ofNat 1),()))) (cond v0.1 (match (cond (S.fitP p.2.2 p.2.1) (some ((S.settled p.2.2 p.2.1),())) none) with|none=>none|some v27=>(L6 ((IntKind.i64.wrap (Int.add p.1 (Int.ofNat 1))),[],v27.1))) (cond (ieqI (Int.ofNat p.2.1.length) (Int.ofNat 4000)) (some (([],[]),((Int.ofNat 3),()))) (cond (Nat.ble (Nat.mul (Nat.add p.2.1.length 1) 24) 140737488355328) (L6 ((IntKind.i64.wrap (Int.add p.1 (Int.ofNat 1))),(List.append p.2.1 [(v0.2.1,v0.2.2)]),p.2.2)) none))))) (cond v0.1 (match (cond (S.fitP p.2.2 p.2.1) (some ((S.settled p.2.2 p.2.1),())) none) with|none=>none|some v28=>(L6 ((IntKind.i64.wrap (Int.add p.1 (Int.ofNat 1))),[],v28.1))) (cond (ieqI (Int.ofNat p.2.1.length) (Int.ofNat 4000)) (some (([],[]),((Int.ofNat 3),()))) (cond (Nat.ble (Nat.mul (Nat.add p.2.1.length 1) 24) 140737488355328) (L6 ((IntKind.i64.wrap (Int.add p.1 (Int.ofNat 1))),(List.append p.2.1 [(v0.2.1,v0.2.2)]),p.2.2)) none))))) (cond (Bool.not v0.1) (cond (S.short v0.2.2) (some (([],[]),((Int.ofNat 1),()))) (cond (Bool.not (S.inI v0.2.1 (Int.ofNat 0) (IntKind.i64.wrap (Int.sub (Int.ofNat p.2.2.length) (Int.ofNat 1))))) (some (([],[]),((Int.ofNat 1),()))) (cond v0.1 (match (cond (S.fitP p.2.2 p.2.1) (some ((S.settled p.2.2 p.2.1),())) none) with|none=>none|some v29=>(L6 ((IntKind.i64.wrap (Int.add p.1 (Int.ofNat 1))),[],v29.1))) (cond (ieqI (Int.ofNat p.2.1.length) (Int.ofNat 4000)) (some (([],[]),((Int.ofNat 3),()))) (cond (Nat.ble (Nat.mul (Nat.add p.2.1.length 1) 24) 140737488355328) (L6 ((IntKind.i64.wrap (Int.add p.1 (Int.ofNat 1))),(List.append p.2.1 [(v0.2.1,v0.2.2)]),p.2.2)) none))))) (cond v0.1 (match (cond (S.fitP p.2.2 p.2.1) (some ((S.settled p.2.2 p.2.1),())) none) with|none=>none|some v30=>(L6 ((IntKind.i64.wrap (Int.add p.1 (Int.ofNat 1))),[],v30.1))) (cond (ieqI (Int.ofNat p.2.1.length) (Int.ofNat 4000)) (some (([],[]),((Int.ofNat 3),()))) (cond (Nat.ble (Nat.mul (Nat.add p.2.1.length 1) 24) 140737488355328) (L6 ((IntKind.i64.wrap (Int.add p.1 (Int.ofNat 1))),(List.append p.2.1 [(v0.2.1,v0.2.2)]),p.2.2)) none)))))) (some ((p.2.2,p.2.1),((Int.ofNat 0),()))))
abbrev gz10:Type:=ElA [qam,(.list cAct)]->Option qcv
abbrev sz10(g:gz10):Sm:=⟨[qam,(.list cAct)],[(false,qam),(false,(.int .i64))],g⟩
abbrev Ez10(g:gz10)(J:JT qcv)(lf:Nat)(x1:qaf)(x2:(List DAct)):=qbq Tryz.prog ttT.get qkj fi32.nt (qvh _ lf) lf ql8 J fi32.body [] (qaz (argV [qam,(.list cAct)] (x1,x2,())) 0 .leaf) S0 [] (qay ttT.get fi32 (sz10 g))
abbrev Bz10(g:gz10)(J:JT qcv)(lf k:Nat)(ms:List Nat)(q:NRes):=qb1 Tryz.prog ttT.get qkj fi32.nt (qvh _ lf) lf ql8 J k fi32.body [] ms q (qay ttT.get fi32 (sz10 g))
theorem zdc(g:gz10)(J:JT qcv)(lf:Nat)(x1:qaf)(x2:(List DAct)):Ez10 g J lf x1 x2=qrq lf x1 x2 (fun q=>J 6 [lf] (qhv x1 x2 q)):=by kernel_rfl
theorem zju(g:gz10)(J:JT qcv)(lf:Nat)(x1:qaf)(x2:(List DAct))(m1:Nat)(p:Int × (List DPut) × (List ByteArray)):Bz10 g J lf 6 [m1] (qhv x1 x2 p)=qo4 lf x1 x2 (fun q=>J 6 [m1] (qhv x1 x2 q)) p:=by kernel_rfl
theorem q7v:(regs fi32.body).Nodup:=by decide +kernel
theorem qy3:okC qkj ql8 q4g fi32.body none=true:=by kernel_rfl
def Az10(g:gz10)(lf:Nat):JT qcv:=atN Tryz.prog ttT.get qkj fi32 (sz10 g) (qvh _ lf) lf q4g
def qp5(lf:Nat)(x1:qaf)(x2:(List DAct)):Nat->(Int × (List DPut) × (List ByteArray))->Option qcv:=qa1 fun K p=>qo4 lf x1 x2 K p
theorem qzl(g:gz10)(lf:Nat)(x1:qaf)(x2:(List DAct)):∀(n:Nat) (p:Int × (List DPut) × (List ByteArray)),Az10 g lf 6 [n] (qhv x1 x2 p)=qp5 lf x1 x2 n p
 | 0,p=>qbn 6 [0] rfl _
 | n+1,p=>by
  have ih:=qzl g lf x1 x2 n;refine(qbp (qa5 20 _) q7v qy3 6 [n+1] [n] rfl _).trans ((zju g (Az10 g lf) lf x1 x2 n p).trans ?_);rw[(show (fun q=>Az10 g lf 6 [n] (qhv x1 x2 q))=(fun q=>qp5 lf x1 x2 n q) from funext ih)];rfl
def Fz10(lf:Nat)(x1:qaf)(x2:(List DAct)):Option qcv:=qrq lf x1 x2 (fun q=>qp5 lf x1 x2 lf q)
theorem zqo(g:gz10)(lf:Nat)(x1:qaf)(x2:(List DAct)):Ez10 g (Az10 g lf) lf x1 x2=Fz10 lf x1 x2:=by
  refine(zdc g (Az10 g lf) lf x1 x2).trans ?_;rw[(show (fun q=>Az10 g lf 6 [lf] (qhv x1 x2 q))=(fun q=>qp5 lf x1 x2 lf q) from funext fun q=>qzl g lf x1 x2 lf q)];rfl
theorem ze7:qa9 Tryz.prog qy0:=trivial
theorem zna{g:gz10}(hsm:SmOK Tryz.prog q9g)(hg:∀(x:ElA [qam,(.list cAct)]) (y:qcv),WfA [qam,(.list cAct)] x->g x=some y->∃lf,Fz10 lf x.1 x.2.1=some y):Con Tryz.prog 32 ⟨[qam,(.list cAct)],[(false,qam),(false,(.int .i64))],g⟩ :=
 conV (st:=ql8) (fun lf x=>Fz10 lf x.1 x.2.1) cm3 zev ze7 q7v qy3 (fun lf x=>zqo g lf x.1 x.2.1) hsm hg
def qkg:Nat->Option Nm:=fun k=>cond (Nat.beq k 8) (some ⟨[2,4,7,32,33,34],[],[(7,0,.str)],[],[],0,0,false⟩) (none)
def qlf:Nat->Bool:=fun k=>cond (Nat.beq k 8) true (false)
def q8q:=qlf
abbrev qct:Type:=qaf × Int × Unit
def q8t:List (Nat × Sm):=[(37,qhi),(66,qg0),(77,qlv)]
def q8h:List (Nat × Hx):=[(103,qoh (.int .i64))]
def qry(R:Type)(lf:Nat):ClK R:=qa2 Tryz.prog ttT.get ftT.get (nm1 34 qkg) (smL q8t) (hxL q8h) lf 20 R
abbrev zgn:Nat:=34
def qiy(x1:qaf)(x2:(List Int))(p:Int × (List ByteArray)):NRes:=(NRes.mk (.node none (.node none (.node none (.node (some (IV.ptr 2 0)) .leaf .leaf) .leaf) (.node none (.node none (.node none (.node (some (IV.int .i64 (Int.ofNat x2.length))) .leaf .leaf) .leaf) .leaf) .leaf)) (.node (some (IV.ptr 0 0)) (.node (some (IV.ptr 1 0)) (.node none (.node none (.node (some (IV.lst (TC.int .i64) x2)) .leaf .leaf) .leaf) .leaf) .leaf) (.node none (.node none (.node none (.node (some (IV.int .i64 p.1)) .leaf .leaf) .leaf) .leaf) .leaf))) (IS.mk (.node (some (IObj.row (List.cons (IV.lst TC.str x1.1) [(IV.lst cPut x1.2)]))) (.node (some (IObj.row (List.cons IV.nilsl [IV.nilsl]))) (.node (some (IObj.arr TC.str p.2)) .leaf .leaf) .leaf) (.node (some (IObj.row (List.cons (IV.arr 3) [IV.nilsl]))) .leaf .leaf)) 4) [] 0)
def qv8(lf:Nat)(x1:qaf)(x2:(List Int))(L8:(Int × (List ByteArray))->Option qct):Option qct:=(cond (Bool.not (ieqI (S.checkDisk (x1.1,x1.2)) (Int.ofNat 0))) (some (([],[]),((S.checkDisk (x1.1,x1.2)),()))) (cond (iltI (Int.ofNat x1.2.length) (Int.ofNat x2.length)) (some (([],[]),((Int.ofNat 1),()))) (match (idxO (fun v0=>(some (Bool.not (S.inI v0 (Int.ofNat 0) (Int.ofNat 64))))) x2 0) with|none=>none|some v1=>(cond (Bool.not (iltI v1 (Int.ofNat 0))) (some (([],[]),((Int.ofNat 1),()))) (L8 ((Int.ofNat 0),x1.1))))))
def qq4(lf:Nat)(x1:qaf)(x2:(List Int))(L8:(Int × (List ByteArray))->Option qct)(p:Int × (List ByteArray)):Option qct:=(cond (iltI p.1 (Int.ofNat x2.length)) (match (jget x2 p.1) with|none=>none|some v0=>(match (jget x1.2 p.1) with|none=>none|some v1=>(cond (lchk (Int.ofNat 0) v0 (Int.ofNat v1.2.size) (Int.ofNat v1.2.size)) (match (jget p.2 v1.1) with|none=>none|some v2=>(match (GetElem?.getElem? p.2 (Int.toNat v1.1)) with|none=>none|some v3=>(cond (lchk v0 (Int.ofNat v3.size) (Int.ofNat v3.size) (Int.ofNat v3.size)) (cond (Nat.ble (Nat.succ (Nat.add (ByteArray.size (ByteArray.extract v1.2 0 (Int.toNat v0))) (ByteArray.size (ByteArray.extract v3 (Int.toNat v0) (Int.toNat (Int.ofNat v3.size)))))) 9223372036854775808) (match (jget p.2 v1.1) with|none=>none|some v4=>(match (GetElem?.getElem? p.2 (Int.toNat v1.1)) with|none=>none|some v5=>(L8 ((IntKind.i64.wrap (Int.add p.1 (Int.ofNat 1))),(List.set p.2 (Int.toNat v1.1) (ByteArray.append (ByteArray.extract v1.2 0 (Int.toNat v0)) (ByteArray.extract v3 (Int.toNat v0) (Int.toNat (Int.ofNat v3.size))))))))) none) none))) none))) (some ((p.2,[]),((Int.ofNat 0),()))))
abbrev gz11:Type:=ElA [qam,(.list (.int .i64))]->Option qct
abbrev sz11(g:gz11):Sm:=⟨[qam,(.list (.int .i64))],[(false,qam),(false,(.int .i64))],g⟩
abbrev Ez11(g:gz11)(J:JT qct)(lf:Nat)(x1:qaf)(x2:(List Int)):=qbq Tryz.prog ttT.get qkg fi34.nt (qry _ lf) lf qlf J fi34.body [] (qaz (argV [qam,(.list (.int .i64))] (x1,x2,())) 0 .leaf) S0 [] (qay ttT.get fi34 (sz11 g))
abbrev Bz11(g:gz11)(J:JT qct)(lf k:Nat)(ms:List Nat)(q:NRes):=qb1 Tryz.prog ttT.get qkg fi34.nt (qry _ lf) lf qlf J k fi34.body [] ms q (qay ttT.get fi34 (sz11 g))
theorem zg3(g:gz11)(J:JT qct)(lf:Nat)(x1:qaf)(x2:(List Int)):Ez11 g J lf x1 x2=qv8 lf x1 x2 (fun q=>J 8 [lf] (qiy x1 x2 q)):=by kernel_rfl
theorem zj4(g:gz11)(J:JT qct)(lf:Nat)(x1:qaf)(x2:(List Int))(m1:Nat)(p:Int × (List ByteArray)):Bz11 g J lf 8 [m1] (qiy x1 x2 p)=qq4 lf x1 x2 (fun q=>J 8 [m1] (qiy x1 x2 q)) p:=by kernel_rfl
theorem q1l:(regs fi34.body).Nodup:=by decide +kernel
theorem q70:okC qkg qlf q8q fi34.body none=true:=by kernel_rfl
def Az11(g:gz11)(lf:Nat):JT qct:=atN Tryz.prog ttT.get qkg fi34 (sz11 g) (qry _ lf) lf q8q
def qnm(lf:Nat)(x1:qaf)(x2:(List Int)):Nat->(Int × (List ByteArray))->Option qct:=qa1 fun K p=>qq4 lf x1 x2 K p
theorem qzm(g:gz11)(lf:Nat)(x1:qaf)(x2:(List Int)):∀(n:Nat) (p:Int × (List ByteArray)),Az11 g lf 8 [n] (qiy x1 x2 p)=qnm lf x1 x2 n p
 | 0,p=>qbn 8 [0] rfl _
 | n+1,p=>by
  have ih:=qzm g lf x1 x2 n;refine(qbp (qa5 20 _) q1l q70 8 [n+1] [n] rfl _).trans ((zj4 g (Az11 g lf) lf x1 x2 n p).trans ?_);rw[(show (fun q=>Az11 g lf 8 [n] (qiy x1 x2 q))=(fun q=>qnm lf x1 x2 n q) from funext ih)];rfl
def Fz11(lf:Nat)(x1:qaf)(x2:(List Int)):Option qct:=qv8 lf x1 x2 (fun q=>qnm lf x1 x2 lf q)
theorem zq8(g:gz11)(lf:Nat)(x1:qaf)(x2:(List Int)):Ez11 g (Az11 g lf) lf x1 x2=Fz11 lf x1 x2:=by
  refine(zg3 g (Az11 g lf) lf x1 x2).trans ?_;rw[(show (fun q=>Az11 g lf 8 [lf] (qiy x1 x2 q))=(fun q=>qnm lf x1 x2 lf q) from funext fun q=>qzm g lf x1 x2 lf q)];rfl
theorem zpi:qa9 Tryz.prog q8h:=⟨zg2,trivial⟩
theorem zri{g:gz11}(hsm:SmOK Tryz.prog q8t)(hg:∀(x:ElA [qam,(.list (.int .i64))]) (y:qct),WfA [qam,(.list (.int .i64))] x->g x=some y->∃lf,Fz11 lf x.1 x.2.1=some y):Con Tryz.prog 34 ⟨[qam,(.list (.int .i64))],[(false,qam),(false,(.int .i64))],g⟩ :=
 conV (st:=qlf) (fun lf x=>Fz11 lf x.1 x.2.1) cm3 zb7 zpi q1l q70 (fun lf x=>zq8 g lf x.1 x.2.1) hsm hg
abbrev qpx:Type:=Bool × Unit
abbrev zi8:Nat:=66
def q2w(lf:Nat)(x1:Int)(x2:Int)(x3:Int):Option qpx:=(cond (Bool.not (iltI x1 x2)) (some ((Bool.not (iltI x3 x1)),())) (some (false,())))
def qp2(lf:Nat)(x1:Int)(x2:Int)(x3:Int):Option qpx:=q2w lf x1 x2 x3
theorem zfy{g:ElA [(.int .i64),(.int .i64),(.int .i64)]->Option qpx}(hsm:SmOK Tryz.prog [])(hg:∀(x:ElA [(.int .i64),(.int .i64),(.int .i64)]) (y:qpx),WfA [(.int .i64),(.int .i64),(.int .i64)] x->g x=some y->∃lf,qp2 lf x.1 x.2.1 x.2.2.1=some y):Con Tryz.prog 66 ⟨[(.int .i64),(.int .i64),(.int .i64)],[(false,.bool)],g⟩ :=
 conU (fi:=fi66) (hxl:=[]) (fun lf x=>qp2 lf x.1 x.2.1 x.2.2.1) cm3 zak trivial hsm hg
abbrev qoy:Type:=Bool × Unit
abbrev zqc:Nat:=79
def q34(lf:Nat)(x1:ByteArray):Option qoy:=(some ((Bool.not (ieqI (Int.ofNat x1.size) (Int.ofNat 64))),()))
def qml(lf:Nat)(x1:ByteArray):Option qoy:=q34 lf x1
theorem zlb{g:ElA [.str]->Option qoy}(hsm:SmOK Tryz.prog [])(hg:∀(x:ElA [.str]) (y:qoy),WfA [.str] x->g x=some y->∃lf,qml lf x.1=some y):Con Tryz.prog 79 ⟨[.str],[(false,.bool)],g⟩ :=
 conU (fi:=fi79) (hxl:=[]) (fun lf x=>qml lf x.1) cm3 zhn trivial hsm hg
abbrev qo2:Type:=qaf × Int × Unit
abbrev zbk:Nat:=28
def q12(lf:Nat)(x1:Int):Option qo2:=(cond (Bool.not (S.inI x1 (Int.ofNat 8) (Int.ofNat 1000))) (some (([],[]),((Int.ofNat 1),()))) (cond (Bool.not (ieqI (Int.tmod x1 (Int.ofNat 2)) (Int.ofNat 0))) (some (([],[]),((Int.ofNat 1),()))) (match (cond (S.inI x1 (Int.ofNat 0) (Int.ofNat 1000)) (some ((List.replicate (Int.toNat x1) S.blank),())) none) with|none=>none|some v0=>(some ((v0.1,[]),((Int.ofNat 0),()))))))
def qrk(lf:Nat)(x1:Int):Option qo2:=q12 lf x1
theorem zs9{g:ElA [(.int .i64)]->Option qo2}(hsm:SmOK Tryz.prog [(66,qg0),(54,qm4),(76,qip)])(hg:∀(x:ElA [(.int .i64)]) (y:qo2),WfA [(.int .i64)] x->g x=some y->∃lf,qrk lf x.1=some y):Con Tryz.prog 28 ⟨[(.int .i64)],[(false,qam),(false,(.int .i64))],g⟩ :=
 conU (fi:=fi28) (hxl:=[]) (fun lf x=>qrk lf x.1) cm3 zd5 trivial hsm hg
abbrev qqu:Type:=Int × Unit
abbrev zdq:Nat:=37
def q5c(lf:Nat)(x1:qaf):Option qqu:=(cond (iltI (Int.ofNat 1000) (Int.ofNat x1.1.length)) (some ((Int.ofNat 3),())) (cond (iltI (Int.ofNat 4000) (Int.ofNat x1.2.length)) (some ((Int.ofNat 3),())) (match (idxO (fun v0=>(cond (S.short v0.2) (some true) (some (Bool.not (S.inI v0.1 (Int.ofNat 0) (IntKind.i64.wrap (Int.sub (Int.ofNat x1.1.length) (Int.ofNat 1)))))))) x1.2 0) with|none=>none|some v1=>(cond (iltI (Int.ofNat x1.1.length) (Int.ofNat 8)) (some ((Int.ofNat 1),())) (cond (Bool.not (ieqI (Int.ofNat (Nat.mod x1.1.length 2)) (Int.ofNat 0))) (some ((Int.ofNat 1),())) (cond (Bool.not (iltI v1 (Int.ofNat 0))) (some ((Int.ofNat 1),())) (match (idxO (fun v2=>(some (S.short v2))) x1.1 0) with|none=>none|some v3=>(cond (Bool.not (iltI v3 (Int.ofNat 0))) (some ((Int.ofNat 1),())) (some ((Int.ofNat 0),()))))))))))
def qmj(lf:Nat)(x1:qaf):Option qqu:=q5c lf x1
theorem zla{g:ElA [qam]->Option qqu}(hsm:SmOK Tryz.prog [(79,qs3),(66,qg0)])(hg:∀(x:ElA [qam]) (y:qqu),WfA [qam] x->g x=some y->∃lf,qmj lf x.1=some y):Con Tryz.prog 37 ⟨[qam],[(false,(.int .i64))],g⟩ :=
 conU (fi:=fi37) (hxl:=[(104,qoh cPut),(105,qoh .str)]) (fun lf x=>qmj lf x.1) cm3 zel ⟨zkf,⟨zew,trivial⟩⟩ hsm hg
def qjn:Nat->Option Nm:=fun k=>cond (Nat.beq k 3) (some ⟨[5,10,11,12],[],[],[],[],0,0,false⟩) (none)
def qjb:Nat->Bool:=fun k=>cond (Nat.beq k 3) true (false)
def qy9:=qjb
abbrev qcr:Type:=(List ByteArray) × Unit
def qyh:List (Nat × Sm):=[(77,qlv)]
def qyv:List (Nat × Hx):=[]
def qvv(R:Type)(lf:Nat):ClK R:=qa2 Tryz.prog ttT.get ftT.get (nm1 80 qjn) (smL qyh) (hxL qyv) lf 20 R
abbrev zgr:Nat:=80
def qhr(x1:(List ByteArray))(x2:(List DPut))(p:Int × (List ByteArray)):NRes:=(NRes.mk (.node none (.node none (.node none .leaf (.node (some (IV.int .i64 (Int.ofNat x2.length))) .leaf .leaf)) (.node (some (IV.arr 0)) .leaf .leaf)) (.node none (.node none .leaf (.node (some (IV.int .i64 p.1)) .leaf .leaf)) (.node none (.node (some (IV.lst cPut x2)) .leaf .leaf) .leaf))) (IS.mk (.node (some (IObj.arr TC.str p.2)) .leaf .leaf) 1) [] 0)
def qyq(lf:Nat)(x1:(List ByteArray))(x2:(List DPut))(L3:(Int × (List ByteArray))->Option qcr):Option qcr:=(L3 ((Int.ofNat 0),x1))
def qpk(lf:Nat)(x1:(List ByteArray))(x2:(List DPut))(L3:(Int × (List ByteArray))->Option qcr)(p:Int × (List ByteArray)):Option qcr:=(cond (iltI p.1 (Int.ofNat x2.length)) (match (jget x2 p.1) with|none=>none|some v0=>(match (jget p.2 v0.1) with|none=>none|some v1=>(match (GetElem?.getElem? p.2 (Int.toNat v0.1)) with|none=>none|some v2=>(L3 ((IntKind.i64.wrap (Int.add p.1 (Int.ofNat 1))),(List.set p.2 (Int.toNat v0.1) v0.2)))))) (some (p.2,())))
abbrev gz12:Type:=ElA [(.list .str),(.list cPut)]->Option qcr
abbrev sz12(g:gz12):Sm:=⟨[(.list .str),(.list cPut)],[(true,.str)],g⟩
abbrev Ez12(g:gz12)(J:JT qcr)(lf:Nat)(x1:(List ByteArray))(x2:(List DPut)):=qbq Tryz.prog ttT.get qjn fi80.nt (qvv _ lf) lf qjb J fi80.body [] (qaz (argV [(.list .str),(.list cPut)] (x1,x2,())) 0 .leaf) S0 [] (qay ttT.get fi80 (sz12 g))
abbrev Bz12(g:gz12)(J:JT qcr)(lf k:Nat)(ms:List Nat)(q:NRes):=qb1 Tryz.prog ttT.get qjn fi80.nt (qvv _ lf) lf qjb J k fi80.body [] ms q (qay ttT.get fi80 (sz12 g))
theorem zn6(g:gz12)(J:JT qcr)(lf:Nat)(x1:(List ByteArray))(x2:(List DPut)):Ez12 g J lf x1 x2=qyq lf x1 x2 (fun q=>J 3 [lf] (qhr x1 x2 q)):=by kernel_rfl
theorem zgj(g:gz12)(J:JT qcr)(lf:Nat)(x1:(List ByteArray))(x2:(List DPut))(m1:Nat)(p:Int × (List ByteArray)):Bz12 g J lf 3 [m1] (qhr x1 x2 p)=qpk lf x1 x2 (fun q=>J 3 [m1] (qhr x1 x2 q)) p:=by kernel_rfl
theorem q5g:(regs fi80.body).Nodup:=by decide +kernel
theorem qy1:okC qjn qjb qy9 fi80.body none=true:=by kernel_rfl
def Az12(g:gz12)(lf:Nat):JT qcr:=atN Tryz.prog ttT.get qjn fi80 (sz12 g) (qvv _ lf) lf qy9
def qoz(lf:Nat)(x1:(List ByteArray))(x2:(List DPut)):Nat->(Int × (List ByteArray))->Option qcr:=qa1 fun K p=>qpk lf x1 x2 K p
theorem q17(g:gz12)(lf:Nat)(x1:(List ByteArray))(x2:(List DPut)):∀(n:Nat) (p:Int × (List ByteArray)),Az12 g lf 3 [n] (qhr x1 x2 p)=qoz lf x1 x2 n p
 | 0,p=>qbn 3 [0] rfl _
 | n+1,p=>by
  have ih:=q17 g lf x1 x2 n;refine(qbp (qa5 20 _) q5g qy1 3 [n+1] [n] rfl _).trans ((zgj g (Az12 g lf) lf x1 x2 n p).trans ?_);rw[(show (fun q=>Az12 g lf 3 [n] (qhr x1 x2 q))=(fun q=>qoz lf x1 x2 n q) from funext ih)];rfl
def Fz12(lf:Nat)(x1:(List ByteArray))(x2:(List DPut)):Option qcr:=qyq lf x1 x2 (fun q=>qoz lf x1 x2 lf q)
theorem zm2(g:gz12)(lf:Nat)(x1:(List ByteArray))(x2:(List DPut)):Ez12 g (Az12 g lf) lf x1 x2=Fz12 lf x1 x2:=by
  refine(zn6 g (Az12 g lf) lf x1 x2).trans ?_;rw[(show (fun q=>Az12 g lf 3 [lf] (qhr x1 x2 q))=(fun q=>qoz lf x1 x2 lf q) from funext fun q=>q17 g lf x1 x2 lf q)];rfl
theorem zgh:qa9 Tryz.prog qyv:=trivial
theorem zc8{g:gz12}(hsm:SmOK Tryz.prog qyh)(hg:∀(x:ElA [(.list .str),(.list cPut)]) (y:qcr),WfA [(.list .str),(.list cPut)] x->g x=some y->∃lf,Fz12 lf x.1 x.2.1=some y):Con Tryz.prog 80 ⟨[(.list .str),(.list cPut)],[(true,.str)],g⟩ :=
 conV (st:=qjb) (fun lf x=>Fz12 lf x.1 x.2.1) cm3 zda zgh q5g qy1 (fun lf x=>zm2 g lf x.1 x.2.1) hsm hg
abbrev qmr:Type:=(List ByteArray) × Unit
abbrev zgu:Nat:=77
def q62(lf:Nat)(x1:(List ByteArray)):Option qmr:=(match x1 with|.nil  => none|.cons v0 v1=>(cond (Nat.ble (Nat.mul (Nat.add 0 x1.length) 16) 140737488355328) (some (x1,())) none))
def qsp(lf:Nat)(x1:(List ByteArray)):Option qmr:=q62 lf x1
theorem zsr{g:ElA [(.list .str)]->Option qmr}(hsm:SmOK Tryz.prog [])(hg:∀(x:ElA [(.list .str)]) (y:qmr),WfA [(.list .str)] x->g x=some y->∃lf,qsp lf x.1=some y):Con Tryz.prog 77 ⟨[(.list .str)],[(true,.str)],g⟩ :=
 conU (fi:=fi77) (hxl:=[]) (fun lf x=>qsp lf x.1) cm3 q68 trivial hsm hg
abbrev qoe:Type:=(List DPut) × Unit
abbrev zmj:Nat:=78
def q2l(lf:Nat)(x1:(List DPut)):Option qoe:=(match x1 with|.nil  => none|.cons v0 v1=>(cond (Nat.ble (Nat.mul (Nat.add 0 x1.length) 24) 140737488355328) (some (x1,())) none))
def quj(lf:Nat)(x1:(List DPut)):Option qoe:=q2l lf x1
theorem zch{g:ElA [(.list cPut)]->Option qoe}(hsm:SmOK Tryz.prog [])(hg:∀(x:ElA [(.list cPut)]) (y:qoe),WfA [(.list cPut)] x->g x=some y->∃lf,quj lf x.1=some y):Con Tryz.prog 78 ⟨[(.list cPut)],[(true,cPut)],g⟩ :=
 conU (fi:=fi78) (hxl:=[]) (fun lf x=>quj lf x.1) cm3 qzt trivial hsm hg
end Go.Proofs.YtnhmanoiolfapaaGreat
end

section
namespace Go.Jx
open Go Go.Sx Go.RowKit
universe u
inductive NoD (n:Nat):Type
instance (n:Nat):Dat (NoD n) where
 sz:=n
 enc _ _ _ x:=nomatch x
 len {_ _ _ x} _:=nomatch x
 mono {_ _ _ _ _ x} _ _:=nomatch x
 ones {_ _ _ x} _:=nomatch x
theorem q73{E:Env}{c:TC}{u:Value}(h:VR E (.lst c []) u):∃a cap,u=.slice a 0 cap/\cap<9223372036854775808:=by
 cases h with
 | lst0 hc=>exact⟨_,_,rfl,hc⟩
 | lst us h1 h2 h3 hb hh hc hu=>exact⟨_,_,rfl,h2⟩
theorem q6m{M:List Nat}{w w':World}{c:TC}{n:Nat}{e:Ending}(hn:n=csz c)(hu:¬c=.int .u8)(hM:∀b∈M,b<w.heap.size)(h:Ret (fun v w'=>∃a' c' m',v=.slice a' 0 c'/\Go.Sx.Own m' M w' a' c' ([]:List (NoD n))/\Evo [] w m' w') e w') :
  RetE T0 (EM M w) S0 ⟨.arr 0,addO [.arr c []] S0,0,0⟩ e w':=by
 cases e with
 | returned v =>
  obtain⟨a,k,m,rfl,ho,ev⟩:=h;have hH:∀id o,(addO [IObj.arr c []] S0).H id=some o->id=0/\o=.arr c []:=fun id o ho=>by
   rw[qb7] at ho;have e0:S0.next=0:=rfl
   rw[e0,jan (by omega)] at ho;split at ho
   ·rename_i h1;have h1:id<1:=by simpa using h1
    obtain rfl:id=0:=by omega
    exact⟨rfl,by simpa using ho.symm⟩
   ·cases ho
  have key:∃(E':Env),E'.w=w'/\E'.A=(fun id=>id=0)/\E'.hd 0=.slice a 0 k/\(∀b∈E'.m,b∈M\/w.heap.size<=b)/\(∀b∈M,b∈E'.m)/\(∀b∈E'.m,b<w'.heap.size)/\OR E' 0 (.arr c [])/\(E'.hb 0=true->E'.ρ 0∈E'.m/\w.heap.size<=E'.ρ 0):=by
   rcases ho with ⟨rfl,rfl,_⟩|⟨g,cells,rfl,g1,g2,g3,g4,g5,g6⟩
   ·exact⟨⟨fun _=>0,fun _=>0,fun _=>.slice none 0 0,fun _=>false,fun id=>id=0,M,w'⟩,rfl,rfl,rfl,fun b hb=>.inl hb,fun b hb=>hb,fun b hb=>jbf (hM b hb) ev.size,⟨none,0,rfl,jar _,by omega,by simp,.inl ⟨rfl,rfl,fun _=>rfl⟩⟩,fun h=>by cases h⟩
   ·have hg:w.heap.size<=g:=by
     rcases ev.own g g1 with h|h
     ·cases h
     ·exact h
    obtain⟨t,g3⟩:=g3;refine⟨⟨fun _=>g,fun _=>0,fun _=>.slice (some ⟨g,0,none⟩) 0 k,fun _=>true,fun id=>id=0,g::M,w'⟩,rfl,rfl,rfl,fun b hb=>?_,fun b hb=>ja8 _ hb,fun b hb=>?_,⟨some ⟨g,0,none⟩,k,rfl,jb4 _,g5.2,by simp,.inr ⟨rfl,rfl,cells.toArray,t,g3,⟨?_,fun e=>absurd e hu⟩,fun _ _=>.nilFunc,fun i hi=>absurd hi (by simp),fun i hi=>absurd hi (by simp)⟩⟩,fun _=>⟨jbz,hg⟩⟩
    ·rcases jau.1 hb with h|h
     ·exact .inr (h▸hg)
     ·exact .inl h
    ·rcases jau.1 hb with h|h
     ·rw[h];exact qas g3
     ·exact jbf (hM b h) ev.size
    ·have e2:Dat.sz (NoD n)=csz c:=hn;rw[e2] at g4;simp[g4]
  obtain⟨E',rfl,hA,hd,k1,k2,k3,k4,k5⟩:=key;have hL:∀id,E'.A id->Live E' (addO [IObj.arr c []] S0).H id->id=0/\E'.ρ 0∈E'.m/\w.heap.size<=E'.ρ 0:=fun id hid ⟨h1,_⟩=>by
   rw[hA] at hid;have hid:id=0:=hid;subst hid;exact⟨rfl,k5 h1⟩
  refine⟨_,E',rfl,rfl,.arr (by rw[hA]) hd,⟨⟨fun id _ hid o ho=>?_,fun id _ hid o ho hb=>?_,fun id _ hid hl=>?_,fun i j _ _ hi hj _ _ _=>?_,k3⟩,⟨ev.os,ev.tape,ev.output,ev.size,fun b hb _=>ev.same b hb (by simp),fun id h=>h.elim,fun id h _ hl=>?_,fun id _ h=>h.elim,k1,fun b hb _=>.inl (k2 b hb)⟩,fun id hid=>?_,jb4 _⟩,⟨fun id _ _=>jb4 _⟩⟩
  ·obtain⟨rfl,rfl⟩:=hH id o ho;exact k4
  ·obtain⟨rfl,rfl⟩:=hH id o ho;cases hb
  ·obtain⟨rfl,h1,_⟩:=hL id hid hl;exact h1
  ·rw[hA] at hi hj;have hi:i=0:=hi;have hj:j=0:=hj;rw[hi,hj]
  ·obtain⟨rfl,_,h2⟩:=hL id h hl;exact .inl h2
  ·rw[hA] at hid;have hid:id=0:=hid;subst hid;exact Nat.one_pos
 | panicked c=>exact h.elim
 | outgrown=>exact h.elim
end Go.Jx
end

noncomputable section
set_option maxRecDepth 100000
namespace Go.Proofs.YtnhmanoiolfapaaGreat
open Go Go.Sx Go.RowKit Go.Jx
theorem zia{M:List Nat}{w:World}{a:Option Addr}{cap:Nat}(hM:Lo M w)(hc:cap<9223372036854775808):Calls Tryz.prog 77 #[.slice a 0 cap] w (Ret fun v w'=>∃a' c' m',v=.slice a' 0 c'/\Go.Sx.Own m' M w' a' c' ([]:List (NoD 1))/\Evo [] w m' w'):=by
 have hS:SL M w a cap ([]:List (NoD 1)):=⟨⟨jb4 _,hc⟩,.inl rfl⟩;refine enter (l:=[.slice a 0 cap]) Tryz.func77 rfl Tryz.ntmps77 rfl ?_;refine qal fun KhK1 hK1=>?_;refine qau ?_;refine qa0 (v:=.slice none 0 0) rfl rfl rfl ?_;refine jbc ?_;refine hK1 _ _ ?_;refine qal fun KhK2 hK2=>?_;refine qal fun KhK3 hK3=>?_;refine qau ?_;refine qaw (v:=.slice a 0 cap) rfl rfl rfl ?_;refine qt5 ty22 rfl rfl rfl rfl ?_;refine jbc ?_;refine hK3 _ _ ?_;refine qow rfl rfl (fun hb4=>?_) (fun hb4=>?_)
 ·refine qal fun KhK5 hK5=>?_;refine qau ?_;refine qa0 (v:=.slice none 0 0) rfl rfl rfl ?_;refine jbc ?_;refine hK5 _ _ ?_;refine je7 ?_;exact ret1 Tryz.results77 rfl ⟨none,0,[],rfl,Go.Sx.Own.nil,Evo.refl [] w⟩
 ·refine je4 ?_;refine hK2 _ _ ?_;refine qal fun KhK7 hK7=>?_;refine qau ?_;refine qsb (α:=NoD 1) (m:=[]) (M:=M) ty22 ty9 rfl (hM.mono (Evo.refl [] w).size) fun β14 w15 hβ16 u17 hz18 ho19=>?_;have e20:=u17.evoN (m:=[]) hβ16 hz18;refine qaw (v:=.slice a 0 cap) rfl rfl rfl ?_;refine qo6 ty22 ty22 ty9 rfl rfl rfl rfl rfl rfl rfl ho19 (hS.mono (e20.tr M)) (hM.mono e20.size) (by simp) fun a22 c23 w24 m25 ho26 e27 u28 hbk29 hsub30=>?_;refine qa0 (v:=.slice a22 (([]:List (NoD 1))++[]).length c23) rfl rfl rfl ?_;refine jbc ?_;refine hK7 _ _ ?_;refine je7 ?_;exact ret1 Tryz.results77 rfl ⟨a22,c23,m25,rfl,ho26,e20.trans e27⟩
theorem zr0:Con Tryz.prog 77 ⟨[.list .str],[(true,.str)],fun x=>match x.1 with|[]=>none|v::l=>some (x.1,())⟩:=zsr trivial fun x y hx h=>⟨0,by
 obtain⟨l,_⟩:=x;have hl:=qcj hx.1;have hb:=hx.1.1;cases l with
 | nil=>cases h
 | cons v l =>
  cases h;simp only[qsp,q62];exact Eq.trans (jav (fun b=>cond b (some (v::l,())) none) (ja2 (jbj (jdl (jav (fun z=>Nat.mul z 16) (jbk _))) hb))) rfl⟩
theorem qqr:Con Tryz.prog zgu qlv:=by
 refine⟨q68,fun M w x us y hy hM hg hv=>?_⟩;obtain⟨l,_⟩:=x;cases l with
 | cons v l=>exact zr0.calls M w (v::l,()) us y hy hM hg hv
 | nil =>
  cases hy;obtain⟨u,us2,rfl,h1,h2⟩:=hv.inv;obtain rfl:us2=[]:=jaz.1 h2.1.symm;obtain⟨a,cap,rfl,hc⟩:=q73 h1;refine jdh.2 ((zia (M:=M) hM hc).mono fun e w' hR=>?_);exact q6m rfl (fun e=>by cases e) hM hR

theorem ze8{M:List Nat}{w:World}{a:Option Addr}{cap:Nat}(hM:Lo M w)(hc:cap<9223372036854775808):Calls Tryz.prog 78 #[.slice a 0 cap] w (Ret fun v w'=>∃a' c' m',v=.slice a' 0 c'/\Go.Sx.Own m' M w' a' c' ([]:List (NoD 2))/\Evo [] w m' w'):=by
 have hS:SL M w a cap ([]:List (NoD 2)):=⟨⟨jb4 _,hc⟩,.inl rfl⟩;refine enter (l:=[.slice a 0 cap]) Tryz.func78 rfl Tryz.ntmps78 rfl ?_;refine qal fun KhK1 hK1=>?_;refine qau ?_;refine qa0 (v:=.slice none 0 0) rfl rfl rfl ?_;refine jbc ?_;refine hK1 _ _ ?_;refine qal fun KhK2 hK2=>?_;refine qal fun KhK3 hK3=>?_;refine qau ?_;refine qaw (v:=.slice a 0 cap) rfl rfl rfl ?_;refine qt5 ty23 rfl rfl rfl rfl ?_;refine jbc ?_;refine hK3 _ _ ?_;refine qow rfl rfl (fun hb4=>?_) (fun hb4=>?_)
 ·refine qal fun KhK5 hK5=>?_;refine qau ?_;refine qa0 (v:=.slice none 0 0) rfl rfl rfl ?_;refine jbc ?_;refine hK5 _ _ ?_;refine je7 ?_;exact ret1 Tryz.results78 rfl ⟨none,0,[],rfl,Go.Sx.Own.nil,Evo.refl [] w⟩
 ·refine je4 ?_;refine hK2 _ _ ?_;refine qal fun KhK7 hK7=>?_;refine qau ?_;refine qsb (α:=NoD 2) (m:=[]) (M:=M) ty23 ty94 rfl (hM.mono (Evo.refl [] w).size) fun β14 w15 hβ16 u17 hz18 ho19=>?_;have e20:=u17.evoN (m:=[]) hβ16 hz18;refine qaw (v:=.slice a 0 cap) rfl rfl rfl ?_;refine qo6 ty23 ty23 ty94 rfl rfl rfl rfl rfl rfl rfl ho19 (hS.mono (e20.tr M)) (hM.mono e20.size) (by simp) fun a22 c23 w24 m25 ho26 e27 u28 hbk29 hsub30=>?_;refine qa0 (v:=.slice a22 (([]:List (NoD 2))++[]).length c23) rfl rfl rfl ?_;refine jbc ?_;refine hK7 _ _ ?_;refine je7 ?_;exact ret1 Tryz.results78 rfl ⟨a22,c23,m25,rfl,ho26,e20.trans e27⟩
theorem zrw:Con Tryz.prog 78 ⟨[.list cPut],[(true,cPut)],fun x=>match x.1 with|[]=>none|v::l=>some (x.1,())⟩:=zch trivial fun x y hx h=>⟨0,by
 obtain⟨l,_⟩:=x;have hl:=qcj hx.1;have hb:=hx.1.1;cases l with
 | nil=>cases h
 | cons v l =>
  cases h;simp only[quj,q2l];exact Eq.trans (jav (fun b=>cond b (some (v::l,())) none) (ja2 (jbj (jdl (jav (fun z=>Nat.mul z 24) (jbk _))) hb))) rfl⟩
theorem zjw:Con Tryz.prog zmj qy7:=by
 refine⟨qzt,fun M w x us y hy hM hg hv=>?_⟩;obtain⟨l,_⟩:=x;cases l with
 | cons v l=>exact zrw.calls M w (v::l,()) us y hy hM hg hv
 | nil =>
  cases hy;obtain⟨u,us2,rfl,h1,h2⟩:=hv.inv;obtain rfl:us2=[]:=jaz.1 h2.1.symm;obtain⟨a,cap,rfl,hc⟩:=q73 h1;refine jdh.2 ((ze8 (M:=M) hM hc).mono fun e w' hR=>?_);exact q6m rfl (fun e=>by cases e) hM hR
theorem qtj(a b:Int):decide (a<=b)=!decide (b<a):=by
 by_cases h:b<a
 ·rw[jak h,jap (by omega)];rfl
 ·rw[jap h,jak (by omega)];rfl
theorem zsw(n lo hi:Int):S.inI n lo hi=(!iltI n lo&&!iltI hi n):=by unfold S.inI;rw[qtj,qtj,qbc,qbc]
theorem qbk{n lo hi:Int}:S.inI n lo hi=true↔lo<=n/\n<=hi:=by unfold S.inI;rw[jae,jd8,jd8]
theorem qba{α:Type}{b:Bool}{x y:α}(h:cond b (some x) none=some y):b=true/\x=y:=by
 cases b
 ·cases h
 ·exact⟨rfl,jb2 h⟩
theorem wrap_in{n:Int}(h:-9223372036854775808<=n/\n<9223372036854775808):IntKind.i64.wrap n=n:=qe6 h
theorem qbz{n:Nat}(h:n<9223372036854775808):IntKind.i64.wrap (Int.ofNat n)=Int.ofNat n:=qe6 (by show -_<=(n:Int)/\(n:Int)<_;omega)
theorem q0b{n:Nat}(h:n<LF):IntKind.i64.wrap (Int.sub (Int.ofNat n) (Int.ofNat 1))=(n:Int)-1:=by
 unfold LF at h;exact qe6 (by show -9223372036854775808<=(n:Int)-1/\(n:Int)-1<9223372036854775808;omega)
theorem za0(lf:Nat)(n lo hi:Int):qp2 lf n lo hi=some (S.inI n lo hi,()):=by
 simp only[qp2,q2w];rw[zsw];cases iltI n lo<;>rfl
theorem qg9:Con Tryz.prog zi8 qg0:=zfy trivial fun x y hx h=>⟨0,(za0 0 _ _ _).trans h⟩
theorem zp5(s:ByteArray):S.short s=!ieqI (Int.ofNat s.size) (Int.ofNat 64):=by
 unfold S.short;rw[q16]
theorem zix(lf:Nat)(s:ByteArray):qml lf s=some (S.short s,()):=by
 simp only[qml,q34];rw[zp5]
theorem q6d:Con Tryz.prog zqc qs3:=zlb trivial fun x y hx h=>⟨0,(zix 0 x.1).trans h⟩
theorem zmn{n:Int}(h:0<=n):Int.tmod n (Int.ofNat 2)=n % 2:=jdp h
theorem zay(lf:Nat)(n:Int):qrk lf n=some ((S.newDisk n).1,(S.newDisk n).2,()):=by
 simp only[qrk,q12,S.newDisk];by_cases h1:S.inI n 8 1000=true
 ·obtain⟨h2,h3⟩:=qbk.1 h1;rw[show S.inI n (Int.ofNat 8) (Int.ofNat 1000)=true from h1,jay,jag,zmn (by omega)];by_cases h4:n % 2=0
  ·rw[qbj (show n % 2=Int.ofNat 0 from h4),jay,jag,show S.inI n (Int.ofNat 0) (Int.ofNat 1000)=true from qbk.2 ⟨by show (0:Int)<=n;omega,h3⟩,jaa,jao ⟨h1,h4⟩];rfl
  ·rw[qbg (show ¬n % 2=Int.ofNat 0 from h4),jax,jaa,jan (fun e=>h4 e.2)];rfl
 ·rw[show S.inI n (Int.ofNat 8) (Int.ofNat 1000)=false from jci.2 h1,jax,jaa,jan (fun e=>h1 e.1)];rfl
theorem zp8:S.lit [0,0,0,0,0,0,0,0,0,0,0,0,0,0,0,0,0,0,0,0,0,0,0,0,0,0,0,0,0,0,0,0,0,0,0,0,0,0,0,0,0,0,0,0,0,0,0,0,0,0,0,0,0,0,0,0,0,0,0,0,0,0,0,0]=S.blank:=by kernel_rfl
theorem qnw{α:Type}(p:α->Bool)(l:List α):(!iltI (Go.Jx.S.idx p l) (Int.ofNat 0))=l.any p:=by
 cases h:l.any p with
 | true=>rw[qfp (by have:=(Go.Jx.S.idx_nonneg p l).2 h;show ¬_<(0:Int);omega)];rfl
 | false =>
  rw[qev (by
   show _<(0:Int);refine Int.not_le.1 fun e=>?_;rw[(Go.Jx.S.idx_nonneg p l).1 e] at h;cases h)];rfl
theorem zbj(lf:Nat)(d:qaf)(hl:d.1.length<LF):qmj lf d=some (S.checkDisk d,()):=by
 have e1:idxO (fun v0:DPut=>(cond (S.short v0.2) (some true) (some (!(S.inI v0.1 (Int.ofNat 0) (IntKind.i64.wrap (Int.sub (Int.ofNat d.1.length) (Int.ofNat 1)))))))) d.2 0=some (Go.Jx.S.idx (S.badPut d.1.length) d.2):=qn4 (S.badPut d.1.length) fun x _=>by
  rw[q0b hl];unfold S.badPut;cases S.short x.2<;>rfl
 have e2:idxO (fun v2:ByteArray=>(some (S.short v2))) d.1 0=some (Go.Jx.S.idx S.short d.1):=qn4 S.short fun _ _=>rfl;simp only[qmj,q5c,S.checkDisk,qce];rw[e1];simp only[qnw];rw[e2];simp only[qnw];by_cases h1:1000<d.1.length
 ·rw[jak h1,jaa,jao (.inl h1)];rfl
 rw[jap h1,jag];by_cases h2:4000<d.2.length
 ·rw[jak h2,jaa,jao (.inr h2)];rfl
 rw[jap h2,jag,jan (by omega)];by_cases h3:d.1.length<8
 ·rw[jak h3,jaa,jao (.inl h3)];rfl
 rw[jap h3,jag];by_cases h4:d.1.length % 2=0
 ·rw[qbj (show Int.ofNat (Nat.mod d.1.length 2)=Int.ofNat 0 from jav Int.ofNat h4),jay,jag];cases h5:d.2.any (S.badPut d.1.length) with
  | true=>rw[jaa,jao (.inr (.inr (.inl rfl)))];rfl
  | false =>
   rw[jag];cases h6:d.1.any S.short with
   | true=>rw[jaa,jao (.inr (.inr (.inr rfl)))];rfl
   | false=>rw[jag,jan (by simp[h3,h4])];rfl
 ·rw[qbg (show ¬Int.ofNat (Nat.mod d.1.length 2)=Int.ofNat 0 from fun e=>h4 (jdj e)),jax,jaa,jao (.inr (.inl h4))];rfl
theorem qk3:Con Tryz.prog zdq qhi:=zla ⟨q6d,qg9,trivial⟩ fun x y hx h=>⟨0,(zbj 0 x.1 (qcj (c:=.str) hx.1.1)).trans h⟩
theorem qu0{α:Type}{l:List α}{i:Int}{d:α}(h0:0<=i)(h1:i<l.length):jget l i=some (l.getD i.toNat d):=by
 obtain⟨x,h2,h3,_⟩:=qwu h0 h1;rw[h2,jai,h3];rfl
theorem qro{n:Int}{p:DPut}:S.badPut n p=false↔p.2.size=64/\0<=p.1/\p.1<n:=by
 unfold S.badPut S.short;rw[jce,jeu,jeu,jd8,qbk];omega
theorem zhe(l:List ByteArray)(q:List DPut)(hq:q.length<LF)(hf:S.fitP l q=true):Fz12 LF l q=some (S.settled l q,()):=by
 have hf:=jbg.1 hf;refine range0 (σ:=List ByteArray) (R:=qcr) q (fun i s=>(i,s)) (fun _ s=>s.length=l.length) (fun rest _ s=>some (S.settled s rest,())) hq (fun K s _=>?_) (fun K i v rest s hs r h=>?_) l rfl
 ·simp only[qpk,qca,jag];rfl
 ·have hv:=hf v r.mem;rw[jca] at hv;obtain⟨_,h1,h2⟩:=qro.1 hv;obtain⟨x,h3,h4,_⟩:=qwu (l:=s) h1 (by omega);simp only[qpk,r.ilt,r.get,r.next,jaa,h3,h4];exact h _ (by rw[jcv];exact hs)
theorem zq9:Con Tryz.prog zgr q9b:=zc8 ⟨qqr,trivial⟩ fun x y hx h=>⟨LF,by
 obtain⟨h1,h2⟩:=qba (show cond (S.fitP x.1 x.2.1) (some (S.settled x.1 x.2.1,())) none=some y from h);exact(zhe x.1 x.2.1 (qcj (c:=cPut) hx.2.1) h1).trans (jav some h2)⟩
def rng(l:List Int):Prop:=∀b∈l,0<=b/\b<256
theorem qfc{a b:List Int}(h:rng a)(k:rng b):rng (a++b):=fun x hx=>(jbn.1 hx).elim (h x) (k x)
theorem qg2(n:Nat):rng (List.replicate n 0):=fun b h=>by rw[(jfh.1 h).2];decide
theorem qd4(s:ByteArray):rng (qab s):=fun b h=>zmt h
theorem qer{a:List Int}(h:rng a)(n:Nat):rng (a.take n):=fun x hx=>h x (jch hx)
theorem qei{a:List Int}(h:rng a)(n:Nat):rng (a.drop n):=fun x hx=>h x (jdx hx)
theorem qsq(n:Nat):rng (S.two n):=fun b h=>by
 unfold S.two at h;simp only[jau,jfs,or_false] at h;rcases h with rfl|rfl<;>omega
theorem qbh(l:List Int):(qag l).size=l.length:=by
 unfold qag;simp[ByteArray.size]
theorem qgr(f:Nat){b:List Int}(h:0<b.length):S.chunks (f+1) b=qag (b.take 64++List.replicate (64-b.length) 0)::S.chunks f (b.drop 64):=by
 cases b with
 | nil=>cases h
 | cons x b=>rfl
theorem q66:∀(f:Nat) (b:List Int),b.length<=f->(S.chunks f b).length=(b.length+63) / 64
 | 0,b,h=>by
  have:b=[]:=jaz.1 (by omega);subst this;rfl
 | f+1,b,h=>by
  by_cases hb:0<b.length
  ·rw[qgr f hb,jat,q66 f _ (by rw[ja7];omega),ja7];omega
  ·have:b=[]:=jaz.1 (by omega);subst this;rfl
theorem q3u:∀(f:Nat) (b:List Int),∀s∈S.chunks f b,s.size=64
 | 0,b,s,h=>by cases h
 | f+1,b,s,h=>by
  by_cases hb:0<b.length
  ·rw[qgr f hb] at h;rcases jau.1 h with rfl|h
   ·rw[qbh,jah,jbm,jbb];omega
   ·exact q3u f _ s h
  ·have:b=[]:=jaz.1 (by omega);subst this;cases h
theorem q26:∀(f:Nat) (b:List Int),rng b->b.length<=f->(S.chunks f b).flatMap qab=b++List.replicate (64*((b.length+63) / 64)-b.length) 0
 | 0,b,_,h=>by
  have:b=[]:=jaz.1 (by omega);subst this;rfl
 | f+1,b,hr,h=>by
  by_cases hb:0<b.length
  ·rw[qgr f hb,jee,q26 f _ (qei hr 64) (by rw[ja7];omega),qb4 (qfc (qer hr 64) (qg2 _)),ja7];by_cases h64:64<=b.length
   ·rw[show 64-b.length=0 by omega,jfc,jbl,<- ja0,jc8,show 64*((b.length-64+63) / 64)-(b.length-64)=64*((b.length+63) / 64)-b.length by omega]
   ·rw[jbw (by omega),jcr (by omega),jcj,ja0,List.replicate_append_replicate];rw[show 64-b.length+(64*((b.length-64+63) / 64)-(b.length-64))=64*((b.length+63) / 64)-b.length by omega]
  ·have:b=[]:=jaz.1 (by omega);subst this;rfl
theorem qbm{c:qaa}{l:List qaa}{last:Int}:S.okGo (c::l) last=true↔(0<=c.1/\c.1<=199)/\c.2.1.size<=4000/\(c.2.2=true->c.2.1=S.none_)/\last<c.1/\S.okGo l c.1=true:=by
 have hz:∀s:ByteArray,s.size=0↔s=S.none_:=fun s=>⟨fun h=>qfo (by
  have h1:=qc4 s;rw[h] at h1;rw[jaz.1 h1];rfl),fun h=>by rw[h];rfl⟩
 show (S.inI c.1 0 199&&(decide (c.2.1.size<=4000)&&(!(c.2.2&&!decide (c.2.1.size=0))&&(decide (last<c.1)&&S.okGo l c.1))))=true↔_;simp only[S.inI,jae,jd8,jca,Bool.and_eq_false_iff,jeu,<- hz];constructor
 ·rintro⟨h1,h2,h3,h4,h5⟩;refine⟨h1,h2,fun h=>?_,h4,h5⟩;rcases h3 with h3|h3
  ·rw[h] at h3;cases h3
  ·exact h3
 ·rintro⟨h1,h2,h3,h4,h5⟩;refine⟨h1,h2,?_,h4,h5⟩;cases hc:c.2.2 with
  | false=>exact .inl rfl
  | true=>exact .inr (h3 hc)
theorem qnq(c:qaa):(S.cellB c).length=3+cond c.2.2 0 c.2.1.size:=by
 unfold S.cellB;cases c.2.2 with
 | true=>rfl
 | false =>
  rw[jag,jag,jat,jah,qc4];show 2+_+1=_;omega
theorem zk8(c:qaa):rng (S.cellB c):=fun b h=>by
 unfold S.cellB at h;rcases jau.1 h with rfl|h
 ·omega
 ·cases hc:c.2.2 with
  | true=>rw[hc] at h;exact qsq 0 b h
  | false=>rw[hc] at h;exact qfc (qsq _) (qd4 _) b h
theorem zth(l:List qaa):rng (S.body l):=fun b h=>by
 obtain⟨c,_,h⟩:=jft.1 h;exact zk8 c b h
theorem qqm(c:qaa)(l:List qaa):S.body (c::l)=S.cellB c++S.body l:=rfl
theorem qrd(f:Nat)(k a b:Int)(r:List Int)(last:Int):S.changes (f+1) (k::a::b::r) last =
  if 199<k\/k<=last\/(r.length:Int)+1<a*256+b\/4001<a*256+b then none
  else if a*256+b=0 then (match S.changes f r k with
    | some l=>some ((k,S.none_,true)::l)
    | none=>none)
  else (match S.changes f (r.drop (a*256+b-1).toNat) k with
    | some l=>some ((k,qag (r.take (a*256+b-1).toNat),false)::l)
    | none=>none):=rfl
theorem qwz:∀(l:List qaa) (last:Int) (f:Nat),S.okGo l last=true->(S.body l).length<f->S.changes f (S.body l) last=some l
 | [],last,f,_,hf=>by
  cases f with
  | zero=>cases hf
  | succ f=>rfl
 | c::l,last,f,h,hf=>by
  obtain⟨⟨h1,h2⟩,h3,h4,h5,h6⟩:=qbm.1 h;rw[qqm] at hf ⊢;rw[jah,qnq] at hf;cases f with
  | zero=>omega
  | succ f =>
  have hk:c.1 % 256=c.1:=by omega
  have hc:S.cellB c=c.1::cond c.2.2 (S.two 0) (S.two (c.2.1.size+1)++qab c.2.1):=by unfold S.cellB;rw[hk]
  obtain⟨k,s,g⟩:=c;simp only at h1 h2 h3 h4 h5 h6 hf hc;rw[hc];cases g with
  | true =>
   obtain rfl:=h4 rfl;simp only[jaa] at hf ⊢;show S.changes (f+1) (k::0::0::S.body l) last=_;rw[qrd,jan (by omega),jao (by decide),qwz l k f h6 (by omega)]
  | false =>
   simp only[jag] at hf ⊢;show S.changes (f+1) (k::(((s.size+1) / 256 % 256:Nat):Int)::(((s.size+1) % 256:Nat):Int)::(qab s++S.body l)) last=_;have hn:(((s.size+1) / 256 % 256:Nat):Int)*256+(((s.size+1) % 256:Nat):Int)=((s.size+1:Nat):Int):=by omega
   have hl:(qab s++S.body l).length=s.size+(S.body l).length:=by rw[jah,qc4]
   rw[qrd,hn,jan (by rw[hl];omega),jan (by omega),show (((s.size+1:Nat):Int)-1).toNat=(qab s).length by rw[qc4];omega,jfl,jfk,qwz l k f h6 (by omega),qhn]
theorem qw4:∀(f:Nat) (b:List Int) (last:Int) {l:List qaa},rng b->S.changes f b last=some l->S.okGo l last=true/\(S.body l).length=b.length
 | 0,b,last,l,_,h=>by cases h
 | f+1,[],last,l,_,h=>by cases h;exact⟨rfl,rfl⟩
 | f+1,[k],last,l,_,h=>by cases h
 | f+1,[k,a],last,l,_,h=>by cases h
 | f+1,k::a::b::r,last,l,hr,h=>by
  rw[qrd] at h;obtain⟨k0,k1⟩:=hr k (by simp);have hr':rng r:=fun x hx=>hr x (by simp[hx]);split at h
  ·cases h
  ·rename_i hn;split at h
   ·rename_i h0;split at h<;>cases h;rename_i l' hl;obtain⟨i1,i2⟩:=qw4 f r k hr' hl;refine⟨qbm.2 ⟨⟨k0,by omega⟩,jb4 _,fun _=>rfl,by show last<k;omega,i1⟩,?_⟩;rw[qqm,jah,qnq,i2];simp only[jaa,jat];omega
   ·rename_i h0;obtain⟨a0,a1⟩:=hr a (by simp);obtain⟨b0,b1⟩:=hr b (by simp);split at h<;>cases h;rename_i l' hl;obtain⟨i1,i2⟩:=qw4 f _ k (qei hr' _) hl;have ht:(r.take (a*256+b-1).toNat).length=(a*256+b-1).toNat:=by rw[jbm];omega
    refine⟨qbm.2 ⟨⟨k0,by omega⟩,by rw[qbh,ht];omega,fun h=>(by cases h),by show last<k;omega,i1⟩,?_⟩;rw[qqm,jah,qnq,i2];simp only[jag,jat,qbh,ht,ja7];omega
theorem qep(l:List qaa)(m:Int):(S.recB l m).length=(S.body l).length+4:=rfl
theorem qji(l:List qaa){m:Int}(hm:0<=m/\m<256):rng (S.recB l m):=fun b h=>by
 unfold S.recB at h;rcases jau.1 h with rfl|h
 ·exact hm
 rcases jau.1 h with rfl|h
 ·omega
 ·exact qfc (qsq _) (zth l) b h
theorem qcx(l:List qaa)(m:Int):(S.packed l m).length=((S.body l).length+67) / 64:=by
 unfold S.packed;rw[q66 _ _ (jar _),qep]
theorem qfe(l:List qaa)(m:Int):1<=(S.packed l m).length:=by rw[qcx];omega
theorem q57(l:List qaa){m:Int}(hm:0<=m/\m<256):∃r,(qab ((S.packed l m).getD 0 S.none_))=m::(((S.body l).length / 65536 % 256:Nat):Int)::(((S.body l).length / 256 % 256:Nat):Int)::(((S.body l).length % 256:Nat):Int)::r:=by
 unfold S.packed;rw[qep,qgr _ (by rw[qep];omega),jfd,qb4 (qfc (qer (qji l hm) 64) (qg2 _))];exact⟨_,rfl⟩
theorem q7w{α:Type}{a b:List α}(d:α)(h:0<a.length):(a++b).getD 0 d=a.getD 0 d:=by
 cases a with
 | nil=>cases h
 | cons x a=>rfl
theorem zic(l:List qaa)(rest:List ByteArray)(h:S.okC l=true)(hb:(S.body l).length<16777216):S.readR (S.packed l 1++rest)=some (l,(S.packed l 1).length):=by
 have hm:(0:Int)<=1/\(1:Int)<256:=by decide
 obtain⟨r,hr⟩:=q57 l hm;have hn:S.recN (qab ((S.packed l 1).getD 0 S.none_))=(S.body l).length:=by
  rw[hr];unfold S.recN;simp only[List.getD_cons_succ,jfd];omega
 have hM:S.recM (qab ((S.packed l 1).getD 0 S.none_))=(S.packed l 1).length:=by
  unfold S.recM;rw[hn,qcx]
 have hfl:(S.packed l 1).flatMap qab=S.recB l 1++List.replicate (64*(((S.body l).length+4+63) / 64)-((S.body l).length+4)) 0:=by
  have:=q26 (S.recB l 1).length (S.recB l 1) (qji l hm) (jar _);rw[qep] at this;exact this
 have hd4:∀z:List Int,(S.recB l 1++z).drop 4=S.body l++z:=fun z=>rfl;unfold S.readR;rw[q7w _ (qfe l 1),hM,hn,jan (by rw[jah,hr];simp),jfk,hfl,hd4,jfk,qwz l (-1) _ h (by omega)];simp only;rw[show (4+(S.body l).length)=(S.recB l 1).length by rw[qep];omega,jfl];have hz:(List.replicate (64*(((S.body l).length+4+63) / 64)-((S.body l).length+4)) (0:Int)).all (fun b=>decide (b=0))=true:=jbg.2 fun b hb=>by rw[(jfh.1 hb).2];rfl
 rw[hz,jaa]
theorem qu9{l l':List ByteArray}{m:Nat}(h:l'.take m=l.take m)(hm:1<=m):l'.getD 0 S.none_=l.getD 0 S.none_:=by
 have:=jav (fun x:List ByteArray=>x[0]?) h;simp only[ja3] at this;rw[jao (by omega),jao (by omega)] at this;rw[jai,jai,this]
theorem qsu:∀(l:List ByteArray),(∀s∈l,s.size=64)->(l.flatMap qab).length=64*l.length
 | [],_=>rfl
 | s::l,h=>by
  rw[jee,jah,qc4,h s (by simp),qsu l fun t ht=>h t (by simp[ht]),jat];omega
theorem q2e(l:List ByteArray):rng (l.flatMap qab):=fun b h=>by
 obtain⟨s,_,h⟩:=jft.1 h;exact qd4 s b h
theorem qqh{l:List Int}(h:rng l)(i:Nat):0<=l.getD i 0/\l.getD i 0<256:=by
 rw[jai];cases hi:l[i]? with
 | none=>decide
 | some b=>exact h b (jbu hi)
theorem qq5{l:List ByteArray}{x:List qaa × Nat}(hs:∀s∈l,s.size=64)(h:S.readR l=some x):1<=x.2/\x.2<=l.length/\S.okC x.1=true/\x.2=(S.packed x.1 1).length/\(S.body x.1).length<16777216/\∀l',l'.take x.2=l.take x.2->S.readR l'=some x:=by
 have h':=h;unfold S.readR at h;split at h
 ·cases h
 rename_i hc;obtain⟨N,hN⟩:∃N,S.recN (qab (l.getD 0 S.none_))=N:=⟨_,rfl⟩;obtain⟨M,hM⟩:∃M,S.recM (qab (l.getD 0 S.none_))=M:=⟨_,rfl⟩;have hMN:M=(N+67) / 64:=by rw[<- hM,<- hN];rfl
 have hNlt:N<16777216:=by
  rw[<- hN];unfold S.recN;have:=qqh (qd4 (l.getD 0 S.none_)) 1;have:=qqh (qd4 (l.getD 0 S.none_)) 2;have:=qqh (qd4 (l.getD 0 S.none_)) 3;omega
 rw[hN,hM] at h;have hle:M<=l.length:=by rw[hM] at hc;omega
 split at h
 ·rename_i c hch;cases hz:(((l.take M).flatMap qab).drop (4+N)).all (fun b=>decide (b=0)) with
  | false=>rw[hz] at h;cases h
  | true =>
  rw[hz] at h;cases h;obtain⟨k1,k2⟩:=qw4 _ _ _ (qer (qei (q2e _) 4) N) hch;have hfl:((l.take M).flatMap qab).length=64*M:=by
   rw[qsu _ fun s h=>hs s (jch h),jbm,jdd hle]
  rw[jbm,ja7,hfl,jdd (by omega)] at k2;refine⟨by show 1<=M;omega,hle,k1,by show M=(S.packed c 1).length;rw[qcx,k2];exact hMN,by show (S.body c).length<_;omega,fun l' ht=>?_⟩;have ht:l'.take M=l.take M:=ht;have h0:=qu9 ht (by omega);have hl:M<=l'.length:=by
   have:=jav List.length ht;rw[jbm,jbm] at this;omega
  unfold S.readR at h' ⊢;rw[h0,hM,hN,ht];rw[hM,hN] at h';rw[jan (fun e=>by rcases e with e|e;exact hc (.inl e);omega)];rw[jan (fun e=>by rcases e with e|e;exact hc (.inl e);omega)] at h';exact h'
 ·cases h
def okS(l:List qaa)(last:Int):Prop:=S.okGo l last=true/\∀c∈l,c.2.2=false
theorem q5m{α:Type}(l:List α)(n i:Nat)(d:α):(l.drop n).getD i d=l.getD (n+i) d:=by simp[jai]
theorem zly{α:Type}(l:List α){n i:Nat}(d:α)(h:i<n):(l.take n).getD i d=l.getD i d:=by simp[jai,h]
theorem q15:∀{l:List qaa} {a b:Int},S.okGo l a=true->b<=a->S.okGo l b=true
 | [],_,_,_,_=>rfl
 | c::l,a,b,h,hb=>by
  obtain⟨h1,h2,h3,h4,h5⟩:=qbm.1 h;exact qbm.2 ⟨h1,h2,h3,by omega,h5⟩
theorem qjy(c:qaa)(hc:(0<=c.1/\c.1<=199)/\c.2.1.size<=4000):∀{l:List qaa} {last:Int},okS l last->last<c.1->okS (S.ins1 c l) last
 | [],last,h,hl=>by
  show okS (cond c.2.2 [] [c]) last;cases hg:c.2.2 with
  | true=>exact⟨rfl,fun x hx=>by cases hx⟩
  | false=>exact⟨qbm.2 ⟨hc.1,hc.2,fun h=>(by rw[hg] at h;cases h),hl,rfl⟩,fun x hx=>by rw[jcc.1 hx];exact hg⟩
 | a::r,last,⟨h,hn⟩,hl=>by
  obtain⟨h1,h2,h3,h4,h5⟩:=qbm.1 h;have hr:okS r a.1:=⟨h5,fun x hx=>hn x (ja8 _ hx)⟩;show okS (if a.1<c.1 then a::S.ins1 c r else if a.1=c.1 then cond c.2.2 r (c::r) else cond c.2.2 (a::r) (c::a::r)) last;by_cases q1:a.1<c.1
  ·rw[jao q1];obtain⟨i1,i2⟩:=qjy c hc hr q1;exact⟨qbm.2 ⟨h1,h2,h3,h4,i1⟩,fun x hx=>(jau.1 hx).elim (fun e=>by rw[e];exact hn a (by simp)) (i2 x)⟩
  ·rw[jan q1];by_cases q2:a.1=c.1
   ·rw[jao q2];cases hg:c.2.2 with
    | true=>exact⟨q15 h5 (by omega),fun x hx=>hn x (ja8 _ hx)⟩
    | false=>exact⟨qbm.2 ⟨hc.1,hc.2,fun h=>(by rw[hg] at h;cases h),hl,by rw[<- q2];exact h5⟩,fun x hx=>(jau.1 hx).elim (fun e=>by rw[e];exact hg) fun hx=>hn x (ja8 _ hx)⟩
   ·rw[jan q2];cases hg:c.2.2 with
    | true=>exact⟨h,hn⟩
    | false=>exact⟨qbm.2 ⟨hc.1,hc.2,fun h=>(by rw[hg] at h;cases h),hl,qbm.2 ⟨h1,h2,h3,by omega,h5⟩⟩,fun x hx=>(jau.1 hx).elim (fun e=>by rw[e];exact hg) (hn x)⟩
theorem qiu:∀{l m:List qaa} {last:Int},okS m (-1)->S.okGo l last=true->okS (S.changed m l) (-1)
 | [],m,_,h,_=>h
 | c::l,m,last,h,hl=>by
  obtain⟨h1,h2,h3,h4,h5⟩:=qbm.1 hl;exact qiu (l:=l) (qjy c ⟨h1,h2⟩ h (by omega)) h5
theorem qe2(f:Nat)(s:ByteArray)(r:List ByteArray)(c:List qaa)(u:Nat):S.recs (f+1) (s::r) c u=if (qab s).getD 0 0=0 then some (c,u) else match S.readR (s::r) with
   | none=>none
   | some x=>cond (decide (u=0)&&x.1.any (·.2.2)) none (S.recs f ((s::r).drop x.2) (S.changed c x.1) (u+x.2)):=rfl
def szS(l:List ByteArray):Prop:=∀s∈l,s.size=64
theorem szS.drop{l:List ByteArray}(h:szS l)(n:Nat):szS (l.drop n):=fun s hs=>h s (jdx hs)
theorem szS.take{l:List ByteArray}(h:szS l)(n:Nat):szS (l.take n):=fun s hs=>h s (jch hs)
theorem qxn:∀(f:Nat) {l:List ByteArray} {c:List qaa} {u:Nat} {R:List qaa × Nat},szS l->S.recs f l c u=some R->∀f',l.length<f'->S.recs f' l c u=some R
 | 0,l,c,u,R,_,h,_,_=>by cases h
 | f+1,l,c,u,R,hs,h,0,hf=>by omega
 | f+1,[],c,u,R,hs,h,f'+1,hf=>h
 | f+1,s::r,c,u,R,hs,h,f'+1,hf=>by
  rw[qe2] at h ⊢;by_cases h0:(qab s).getD 0 0=0
  ·rw[jao h0] at h ⊢;exact h
  ·rw[jan h0] at h ⊢;cases hr:S.readR (s::r) with
   | none=>rw[hr] at h;cases h
   | some x =>
    rw[hr] at h;simp only at h ⊢;obtain⟨k1,k2,_⟩:=qq5 hs hr;cases hb:(decide (u=0)&&x.1.any (·.2.2)) with
    | true=>rw[hb] at h;cases h
    | false =>
     rw[hb,jag] at h;rw[jag];exact qxn f (hs.drop x.2) h f' (by rw[ja7];omega)
theorem q5t(f:Nat)(l:List qaa)(rest:List ByteArray)(c:List qaa)(u:Nat)(h:S.okC l=true)(hb:(S.body l).length<16777216) :
  S.recs (f+1) (S.packed l 1++rest) c u=cond (decide (u=0)&&l.any (·.2.2)) none (S.recs f rest (S.changed c l) (u+(S.packed l 1).length)):=by
 have hr:=zic l rest h hb;have hd:(S.packed l 1++rest).drop (S.packed l 1).length=rest:=jfl ..;obtain⟨r,hh⟩:=q57 l (m:=1) (by decide);have hp:=qfe l 1;cases hl:S.packed l 1++rest with
 | nil=>rw[List.append_eq_nil_iff.1 hl |>.1] at hp;cases hp
 | cons s q =>
  have hs:s=(S.packed l 1).getD 0 S.none_:=by
   rw[<- q7w (b:=rest) S.none_ hp,hl];rfl
  rw[qe2,hs,hh,<- hs,<- hl,hr];rw[jan (by simp)];show cond _ none (S.recs f ((S.packed l 1++rest).drop (S.packed l 1).length) _ _)=_;rw[hd]
theorem qxf:∀(f:Nat) {l:List ByteArray} {c c':List qaa} {u u':Nat},szS l->S.recs f l c u=some (c',u') ->
  u<=u'/\u'-u<=l.length/\(l.length=u'-u\/(qab (l.getD (u'-u) S.none_)).getD 0 0=0)/\(okS c (-1)->okS c' (-1)) /\
  ∀l2,szS l2->l2.take (u'-u)=l.take (u'-u)->∀f2 R,S.recs f2 (l2.drop (u'-u)) c' u'=some R->∃f3,S.recs f3 l2 c u=some R
 | 0,l,c,c',u,u',_,h=>by cases h
 | f+1,[],c,c',u,u',_,h=>by
  cases h;refine⟨jar _,by omega,.inl (by simp),fun h=>h,fun l2 _ _ f2 R h=>⟨f2,?_⟩⟩;rw[jed,jej] at h;exact h
 | f+1,s::r,c,c',u,u',hs,h=>by
  rw[qe2] at h;by_cases h0:(qab s).getD 0 0=0
  ·rw[jao h0] at h;cases h;refine⟨jar _,by omega,.inr (by rw[jed];exact h0),fun h=>h,fun l2 _ _ f2 R h=>⟨f2,?_⟩⟩;rw[jed,jej] at h;exact h
  ·rw[jan h0] at h;cases hr:S.readR (s::r) with
   | none=>rw[hr] at h;cases h
   | some x =>
    rw[hr] at h;simp only at h;obtain⟨k1,k2,k3,k4,k5,k6⟩:=qq5 hs hr;cases hb:(decide (u=0)&&x.1.any (·.2.2)) with
    | true=>rw[hb] at h;cases h
    | false =>
     rw[hb,jag] at h;obtain⟨i1,i2,i3,i4,i5⟩:=qxf f (hs.drop x.2) h;rw[ja7] at i2 i3;have e:u'-u=x.2+(u'-(u+x.2)):=by omega
     refine⟨by omega,by omega,?_,fun hc=>i4 (qiu hc k3),fun l2 h2 ht f2 R hR=>?_⟩
     ·rcases i3 with i3|i3
      ·exact .inl (by omega)
      ·refine .inr ?_;rw[q5m,<- e] at i3;exact i3
     ·have ht1:l2.take x.2=(s::r).take x.2:=by
       have:=jav (List.take x.2) ht
       rwa [jd7,jd7,jdd (by omega)] at this
      obtain⟨f3,h3⟩:=i5 (l2.drop x.2) (h2.drop _) (by
       have:=jav (List.drop x.2) ht
       rwa [jek,jek,show u'-u-x.2=u'-(u+x.2) by omega] at this) f2 R (by rw[jdv,<- e];exact hR)
      have hr2:=k6 l2 ht1;have hhd:=qu9 ht1 k1;cases l2 with
      | nil =>
       have:=jav List.length ht1;rw[jbm,jbm] at this;simp at this;omega
      | cons s2 r2 =>
       have hhd:s2=s:=hhd;refine⟨f3+1,?_⟩;rw[qe2,hhd,jan h0,<- hhd,hr2];simp only;rw[hb,jag];exact h3
def over(L:List ByteArray)(a:Nat)(ss:List ByteArray):List ByteArray:=L.take a++(ss++L.drop (a+ss.length))
def qpq:Nat->List ByteArray->List DPut
 | _,[]=>[]
 | a,s::ss=>((a:Int),s)::qpq (a+1) ss
theorem qw3(a:Nat)(s:ByteArray)(ss:List ByteArray):S.puts (a:Int) (s::ss)=S.put (a:Int) s::S.puts ((a+1:Nat):Int) ss:=rfl
theorem qw1:∀(a:Nat) (x y:List ByteArray),S.puts (a:Int) (x++y)=S.puts (a:Int) x++S.puts ((a+x.length:Nat):Int) y
 | a,[],y=>rfl
 | a,s::x,y=>by
  rw[jc4,qw3,qw3,qw1 (a+1) x y,jc4,jat,show a+(x.length+1)=a+1+x.length by omega]
theorem qlm:∀(a:Nat) (x:List ByteArray),(S.puts (a:Int) x).length=x.length
 | _,[]=>rfl
 | a,s::x=>jav (·+1) (qlm (a+1) x)
theorem zm1(L:List ByteArray)(a:Nat):over L a []=L:=by
 unfold over;rw[jcj,jbi,jb6,jc8]
theorem qgm{L:List ByteArray}{a:Nat}{ss:List ByteArray}(h:a+ss.length<=L.length):(over L a ss).length=L.length:=by
 unfold over;rw[jah,jah,jbm,ja7];omega
theorem qx8{L:List ByteArray}{a:Nat}{ss:List ByteArray}(h:a+ss.length<=L.length):(over L a ss).take a=L.take a:=by
 unfold over;rw[jd5 (by rw[jbm];omega),jd7,Nat.min_self]
theorem qm3{L:List ByteArray}{a:Nat}{ss:List ByteArray}(h:a+ss.length<=L.length):(over L a ss).drop a=ss++L.drop (a+ss.length):=by
 unfold over;rw[jd6 (by rw[jbm];omega),jcr (by rw[jbm];omega),jcj]
theorem zsl{L:List ByteArray}{a:Nat}{ss:List ByteArray}(hL:szS L)(hs:szS ss):szS (over L a ss):=fun s h=>by
 unfold over at h;rcases jbn.1 h with h|h
 ·exact hL s (jch h)
 rcases jbn.1 h with h|h
 ·exact hs s h
 ·exact hL s (jdx h)
theorem qjj:∀(ss:List ByteArray) (a:Nat) (L:List ByteArray),a+ss.length<=L.length->S.settled L (qpq a ss)=over L a ss
 | [],a,L,_=>(zm1 L a).symm
 | s::ss,a,L,h=>by
  rw[jat] at h;show S.settled (L.set (a:Int).toNat s) (qpq (a+1) ss)=_;rw[jcf,qjj ss (a+1) _ (by rw[jcv];omega)];unfold over;rw[jat,List.drop_set_of_lt (by omega),List.take_set];have:(L.take (a+1)).set a s=L.take a++[s]:=by
   rw[jdw (by omega),List.set_append_right _ _ (by rw[jbm];omega)];rw[jbm,jdd (by omega),jed];rfl
  rw[this,ja0,jc4,jcj,show a+1+ss.length=a+(ss.length+1) by omega];rfl
theorem zi6{n a:Nat}{s:ByteArray}(hs:s.size=64)(h:a<n):S.badPut (n:Int) ((a:Int),s)=false:=by
 unfold S.badPut S.short S.inI;rw[jak hs,jak (show (0:Int)<=(a:Int) by omega),jak (show (a:Int)<=(n:Int)-1 by omega)];rfl
theorem qsn{L:List ByteArray}{a:Nat}{s:ByteArray}{q:List DPut}{r:List DAct}(hs:s.size=64)(h:a<L.length)(hq:q.length<4000):S.doGo (S.put (a:Int) s::r) L q=S.doGo r L (q++[((a:Int),s)]):=by
 show cond false _ (cond (S.badPut (L.length:Int) ((a:Int),s)) _ (if q.length=4000 then _ else _))=_;rw[zi6 hs h,jag,jag,jan (by omega)];rfl
theorem quq:∀(ss:List ByteArray) (a:Nat) (r:List DAct) (L:List ByteArray) (q:List DPut),szS ss->a+ss.length<=L.length->q.length+ss.length<=4000 ->
  S.doGo (S.puts (a:Int) ss++r) L q=S.doGo r L (q++qpq a ss)
 | [],a,r,L,q,_,_,_=>by
  show S.doGo r L q=S.doGo r L (q++[]);rw[jbl]
 | s::ss,a,r,L,q,hs,h,hq=>by
  rw[jat] at h hq;rw[qw3,jc4,qsn (hs s (by simp)) (by omega) (by omega),quq ss (a+1) r L _ (fun t ht=>hs t (by simp[ht])) (by omega) (by rw[jah];simp only[jat,jbi];omega),ja0];rfl
theorem qmw(L:List ByteArray)(q:List DPut)(r:List DAct):S.doGo (S.sync::r) L q=S.doGo r (S.settled L q) []:=rfl
theorem q9e(L:List ByteArray)(q:List DPut):S.doGo [] L q=((L,q),0):=rfl
theorem zk1{s p:ByteArray}{n:Nat}(hs:s.size=64)(hp:p.size=64)(hn:n<=64):(S.tear s p n).size=64:=by
 unfold S.tear;rw[qbh,jah,jbm,ja7,qc4,qc4];omega
theorem zjx(s p:ByteArray)(n:Nat):rng ((qab p).take n++(qab s).drop n):=qfc (qer (qd4 p) n) (qei (qd4 s) n)
theorem qit{n:Nat}(h2:n % 2=0)(h8:8<=n){h:Int}(hh:h=0\/h=1):∃a:Nat,S.half n h=((a:Int),((a+(n / 2-1):Nat):Int))/\1<=a/\a+(n / 2-1)<n/\(h=0->a=1)/\(h=1->a=n / 2):=by
 rcases hh with rfl|rfl
 ·refine⟨1,?_,by omega,by omega,fun _=>rfl,fun h=>(by cases h)⟩;unfold S.half;rw[jao rfl];exact Prod.ext rfl (by show ((n / 2:Nat):Int)=((1+(n / 2-1):Nat):Int);omega)
 ·refine⟨n / 2,?_,by omega,by omega,fun h=>(by cases h),fun _=>rfl⟩;unfold S.half;rw[jan (by decide)];exact Prod.ext rfl (by show (n:Int)-1=((n / 2+(n / 2-1):Nat):Int);omega)
structure Dk (L:List ByteArray):Prop where
 sz:szS L
 ge:8<=L.length
 le:L.length<=1000
 ev:L.length % 2=0
theorem Dk.check{L:List ByteArray}(h:Dk L):S.checkDisk (L,[])=0:=by
 unfold S.checkDisk;have h1:=h.ge;have h2:=h.le;have h3:L.any S.short=false:=by
  rw[jci];intro e;obtain⟨s,hs,e⟩:=jdq.1 e;unfold S.short at e;rw[jak (h.sz s hs)] at e;cases e
 rw[jan (show ¬(1000<L.length\/4000<([]:List DPut).length) by simp;omega),jan];have:=h.ev;rintro(e|e|e|e)
 ·exact absurd e (show ¬L.length<8 by omega)
 ·exact e this
 ·cases e
 ·rw[show ((L,([]:List DPut)).1).any S.short=L.any S.short from rfl,h3] at e;cases e
def topB(h:Int):List Int:=h::List.replicate 63 0
structure Jn (L:List ByteArray) (h:Int) (a u:Nat) (c:List qaa):Prop where
 dk:Dk L
 hh:h=0\/h=1
 top:qab (L.getD 0 S.none_)=topB h
 fr:S.half L.length h=((a:Int),((a+(L.length / 2-1):Nat):Int))
 a1:1<=a
 to_:a+(L.length / 2-1)<L.length
 rc:∃f,S.recs f ((L.drop a).take (L.length / 2-1)) [] 0=some (c,u)
 u1:1<=u
theorem q7y{L:List ByteArray}{h:Int}{a K:Nat}(hf:S.half L.length h=((a:Int),((a+K:Nat):Int))):S.halfS L h=(L.drop a).take K:=by
 unfold S.halfS;rw[hf];simp only[jcf];rw[jek,ja5]
theorem Jn.open_{L:List ByteArray}{h:Int}{a u:Nat}{c:List qaa}(j:Jn L h a u c):S.opened L=some (h,u,c):=by
 obtain⟨f,hf⟩:=j.rc;have h0:(qab (L.getD 0 S.none_)).getD 0 0=h:=by rw[j.top];rfl
 have hd:(qab (L.getD 0 S.none_)).drop 1=List.replicate 63 0:=by rw[j.top];rfl
 unfold S.opened;rw[h0,hd,jan (show ¬(1<h\/¬List.replicate 63 (0:Int)=List.replicate 63 0) from fun e=>by rcases e with e|e;(rcases j.hh with rfl|rfl<;>omega);exact e rfl),q7y j.fr];rw[qxn f ((j.dk.sz.drop a).take _) hf (L.length+1) (by rw[jbm,ja7];omega)];have:=j.u1;simp only;rw[jan (by omega)]
theorem znb{L:List ByteArray}(d:Dk L){h:Int}{u:Nat}{c:List qaa}(ho:S.opened L=some (h,u,c)):∃a,Jn L h a u c:=by
 unfold S.opened at ho;split at ho
 ·cases ho
 rename_i hn;have hz:(L.getD 0 S.none_).size=64:=by
  have:=d.ge;rw[jai,jac (by omega)];exact d.sz _ (jbh _)
 have hb:(qab (L.getD 0 S.none_)).length=64:=by rw[qc4,hz]
 have h0:=qqh (qd4 (L.getD 0 S.none_)) 0;have ht:qab (L.getD 0 S.none_)=topB ((qab (L.getD 0 S.none_)).getD 0 0):=by
  cases hl:qab (L.getD 0 S.none_) with
  | nil=>rw[hl] at hb;cases hb
  | cons x r =>
   have:r=List.replicate 63 0:=by
    refine jcg fun e=>hn (.inr ?_);rw[hl];exact e
   rw[this];rfl
 split at ho
 ·rename_i c' u' hr;split at ho
  ·cases ho
  rename_i hu;cases ho;have hh:(qab (L.getD 0 S.none_)).getD 0 0=0\/(qab (L.getD 0 S.none_)).getD 0 0=1:=by omega
  obtain⟨a,e1,e2,e3,_,_⟩:=qit d.ev d.ge hh;exact⟨a,d,hh,ht,e1,e2,e3,⟨_,by rw[<- q7y e1];exact hr⟩,by omega⟩
 ·cases ho
theorem Jn.kept{L L':List ByteArray}{h:Int}{a u:Nat}{c:List qaa}(j:Jn L h a u c)(d:Dk L')(hl:L'.length=L.length)(ht:L'.take (a+u)=L.take (a+u))(hu:u<=L.length / 2-1){c':List qaa}{v f:Nat}(hv:1<=v)
  (hr:S.recs f ((L'.drop (a+u)).take (L.length / 2-1-u)) c u=some (c',v)):Jn L' h a v c':=by
 obtain⟨f0,h0⟩:=j.rc;obtain⟨k1,k2,k3,k4,k5⟩:=qxf f0 ((j.dk.sz.drop a).take _) h0;rw[jde] at k2 k3 k5;have hto:=j.to_;have ha1:=j.a1;have h2:((L'.drop a).take (L.length / 2-1)).take u=((L.drop a).take (L.length / 2-1)).take u:=by
  rw[jd7,jd7,jdd hu];have:=jav (List.drop a) ht
  rwa [jek,jek,ja5] at this
 obtain⟨f3,h3⟩:=k5 ((L'.drop a).take (L.length / 2-1)) ((d.sz.drop a).take _) h2 f (c',v) (by
  rw[jek,jdv];exact hr)
 refine⟨d,j.hh,?_,by rw[hl];exact j.fr,j.a1,by rw[hl];exact j.to_,⟨f3,by rw[hl];exact h3⟩,hv⟩;rw[qu9 ht (by omega)];exact j.top
theorem Jn.le{L:List ByteArray}{h:Int}{a u:Nat}{c:List qaa}(j:Jn L h a u c):u<=L.length / 2-1/\okS c (-1)/\(u=L.length / 2-1\/(qab (L.getD (a+u) S.none_)).getD 0 0=0):=by
 obtain⟨f0,h0⟩:=j.rc;obtain⟨k1,k2,k3,k4,k5⟩:=qxf f0 ((j.dk.sz.drop a).take _) h0;have hto:=j.to_;have hl:((L.drop a).take (L.length / 2-1)).length=L.length / 2-1:=by rw[jbm,ja7];omega
 rw[jde,hl] at k2 k3;refine⟨k2,k4 ⟨rfl,fun x hx=>by cases hx⟩,?_⟩;rcases k3 with k3|k3
 ·exact .inl k3.symm
 ·by_cases e:u=L.length / 2-1
  ·exact .inl e
  ·refine .inr ?_;rw[zly _ _ (by omega),q5m] at k3;exact k3
theorem Jn.more{L L':List ByteArray}{h:Int}{a u:Nat}{c:List qaa}(j:Jn L h a u c)(d:Dk L')(hl:L'.length=L.length)(ht:L'.take (a+u)=L.take (a+u)){l:List qaa}(hc:S.okC l=true)(hb:(S.body l).length<16777216)
  (hn:u+(S.packed l 1).length<=L.length / 2-1) {rest:List ByteArray} (hr:L'.drop (a+u)=S.packed l 1++rest) (h0:u+(S.packed l 1).length=L.length / 2-1\/(qab (rest.getD 0 S.none_)).getD 0 0=0):Jn L' h a (u+(S.packed l 1).length) (S.changed c l):=by
 have hu:=j.u1;refine j.kept d hl ht (by omega) (f:=2) (by omega) ?_;rw[hr,List.take_append,jbw (by omega),q5t 1 l _ c u hc hb,show decide (u=0)=false from jap (by omega),jcw,jag];cases hz:rest.take (L.length / 2-1-u-(S.packed l 1).length) with
 | nil=>rfl
 | cons s r =>
  rw[qe2];rcases h0 with h0|h0
  ·rw[show L.length / 2-1-u-(S.packed l 1).length=0 by omega,jfj] at hz;cases hz
  ·have:s=rest.getD 0 S.none_:=by
    cases rest with
    | nil=>rw[List.take_nil] at hz;cases hz
    | cons s' r' =>
     cases hk:L.length / 2-1-u-(S.packed l 1).length with
     | zero=>rw[hk] at hz;cases hz
     | succ k=>rw[hk,List.take_succ_cons] at hz;cases hz;rfl
   rw[this,jao h0]
theorem Jn.same{L L':List ByteArray}{h:Int}{a u:Nat}{c:List qaa}(j:Jn L h a u c)(d:Dk L')(hl:L'.length=L.length)(ht:L'.take (a+u)=L.take (a+u))(h0:u=L.length / 2-1\/(qab (L'.getD (a+u) S.none_)).getD 0 0=0):Jn L' h a u c:=by
 have hu:=j.le.1;have hto:=j.to_;refine j.kept d hl ht hu (f:=1) j.u1 ?_;rcases h0 with h0|h0
 ·rw[show L.length / 2-1-u=0 by omega,jfj];rfl
 ·cases hz:(L'.drop (a+u)).take (L.length / 2-1-u) with
  | nil=>rfl
  | cons s r =>
   have:s=L'.getD (a+u) S.none_:=by
    have:=jav (fun x:List ByteArray=>x[0]?) hz;simp only[ja3,jby,jb6,jaq] at this;split at this
    ·rw[jai,this];rfl
    ·cases this
   rw[qe2,this,jao h0]
structure OkD (l:List ByteArray) (q:List DPut):Prop where
 sz:szS l
 le:l.length<=1000
 fit:S.fitP l q=true
 many:q.length<=4000
theorem zaz{l:List ByteArray}:S.anyShort l=false↔szS l:=by
 unfold S.anyShort S.short szS;rw[jci];constructor
 ·intro h s hs;refine jcg fun e=>h (jdq.2 ⟨s,hs,by rw[jap e];rfl⟩)
 ·intro h e;obtain⟨s,hs,e⟩:=jdq.1 e;rw[jak (h s hs)] at e;cases e
theorem qj9{l:List ByteArray}{q:List DPut}:S.fitP l q=true↔∀p∈q,p.2.size=64/\0<=p.1/\p.1<l.length:=by
 unfold S.fitP;rw[jbg];constructor
 ·intro h p hp;have:=h p hp;rw[jca] at this;exact qro.1 this
 ·intro h p hp;rw[jca];exact qro.2 (h p hp)
theorem qq3{d:qaf}(h:S.checkDisk d=0):OkD d.1 d.2/\8<=d.1.length/\d.1.length % 2=0:=by
 unfold S.checkDisk at h;split at h
 ·cases h
 rename_i h1;split at h
 ·cases h
 rename_i h2;have h3:d.1.any S.short=false:=by rw[jci];exact fun e=>h2 (.inr (.inr (.inr e)))
 have h4:d.2.any (S.badPut d.1.length)=false:=by rw[jci];exact fun e=>h2 (.inr (.inr (.inl e)))
 refine⟨⟨zaz.1 h3,by omega,?_,by omega⟩,by omega,jcg fun e=>h2 (.inr (.inl e))⟩;unfold S.fitP;rw[jbg];intro p hp;rw[jca,jci];intro e;rw[jdb] at h4;exact h4 p hp e
theorem q2s:∀(q:List DPut) {l:List ByteArray},S.fitP l q=true->szS l->(S.settled l q).length=l.length/\szS (S.settled l q)
 | [],l,_,h=>⟨rfl,h⟩
 | p::q,l,hf,h=>by
  have hf:=qj9.1 hf;have hp:=hf p (by simp);obtain⟨i1,i2⟩:=q2s q (l:=l.set p.1.toNat p.2) (qj9.2 fun x hx=>by rw[jcv];exact hf x (by simp[hx])) fun s hs=>by
   rcases List.mem_or_eq_of_mem_set hs with hs|rfl
   ·exact h s hs
   ·exact hp.1
  exact⟨i1.trans (jcv ..),i2⟩
theorem OkD.sync{l:List ByteArray}{q:List DPut}(h:OkD l q):OkD (S.settled l q) []:=by
 obtain⟨h1,h2⟩:=q2s q h.fit h.sz;exact⟨h2,by rw[h1];exact h.le,rfl,jb4 _⟩
theorem OkD.put{l:List ByteArray}{q:List DPut}{p:DPut}(h:OkD l q)(hp:S.badPut l.length p=false)(hq:¬q.length=4000):OkD l (q++[p]):=by
 refine⟨h.sz,h.le,qj9.2 fun x hx=>?_,?_⟩
 ·rcases jbn.1 hx with hx|hx
  ·exact qj9.1 h.fit x hx
  ·rw[jcc.1 hx];exact qro.1 hp
 ·have:=h.many;rw[jah];simp only[jat,jbi];omega
theorem q0n{s:ByteArray}:s.size=0↔s=S.lit []:=⟨fun h=>qfo (by
  have h1:=qc4 s;rw[h] at h1;rw[jaz.1 h1];rfl),fun h=>by rw[h];rfl⟩
theorem zb0(v:DAct):(Bool.and (keqI v.2.1 (Int.ofNat 0)) (Bool.and (keqS v.2.2 (S.lit [])) true))=decide (v.2.1=0/\v.2.2.size=0):=by
 have e1:keqI v.2.1 (Int.ofNat 0)=decide (v.2.1=0):=rfl;have e2:keqS v.2.2 (S.lit [])=decide (v.2.2.size=0):=by
  show decide (v.2.2=S.lit [])=_;exact jdi.2 q0n.symm
 rw[e1,e2,Bool.and_true,Bool.decide_and]
theorem zac(a:DAct)(r:List DAct)(l:List ByteArray)(q:List DPut):S.doGo (a::r) l q=cond a.1 (if a.2.1=0/\a.2.2.size=0 then S.doGo r (S.settled l q) [] else (([],[]),1))
  (cond (S.badPut l.length a.2) (([],[]),1) (if q.length=4000 then (([],[]),3) else S.doGo r l (q++[a.2]))):=rfl
theorem zh5(d:qaf)(l:List DAct)(hl:l.length<LF):Fz10 LF d l=some ((S.doD d l).1,(S.doD d l).2,()):=by
 simp only[Fz10,qrq];show cond (!ieqI (S.checkDisk d) (Int.ofNat 0)) _ _=_;unfold S.doD;by_cases h0:S.checkDisk d=0
 ·rw[qbj (show _=Int.ofNat 0 from h0),jay,jag,jao h0];refine range0 (σ:=List DPut × List ByteArray) (R:=qcv) l (fun i s=>(i,s.1,s.2)) (fun _ s=>OkD s.2 s.1) (fun rest _ s=>some ((S.doGo rest s.2 s.1).1,(S.doGo rest s.2 s.1).2,())) hl (fun K s _=>?_) (fun K i v rest s hs r h=>?_) (d.2,d.1) (qq3 h0).1
  ·simp only[qo4,qca,jag];rfl
  ·obtain⟨q,t⟩:=s;simp only at hs h;have hle:=hs.le;have hm:=hs.many;have r1:Nat.ble (Nat.mul (Nat.add q.length 1) 24) 140737488355328=true:=ja2 (by show (q.length+1)*24<=_;omega);have hw:=q0b (n:=t.length) (by unfold LF;omega);have hb:∀p:DPut,S.badPut t.length p=(S.short p.2||!S.inI p.1 (Int.ofNat 0) ((t.length:Int)-1)):=fun _=>rfl;simp only[qo4,r.ilt,r.get,r.next,jaa,hw,r1,hs.fit,zb0];rw[zac];obtain⟨sy,p1,p2⟩:=v;simp only;rw[hb];cases sy with
   | true =>
    simp only[jaa,jag,jay];by_cases hz:p1=0/\p2.size=0
    ·rw[jak hz,jao hz];exact h ([],S.settled t q) hs.sync
    ·rw[jap hz,jan hz];rfl
   | false =>
    simp only[jaa,jag,jax];cases hsh:S.short p2 with
    | true=>rfl
    | false =>
     cases hin:S.inI p1 (Int.ofNat 0) ((t.length:Int)-1) with
     | false=>rfl
     | true =>
      simp only[jaa,jag,jay,Bool.or_false];by_cases h4:q.length=4000
      ·rw[qbj (show Int.ofNat q.length=Int.ofNat 4000 from jav Int.ofNat h4),jaa,jao h4];rfl
      ·rw[qbg (show ¬Int.ofNat q.length=Int.ofNat 4000 from fun e=>h4 (jdj e)),jag,jan h4];exact h (q++[(p1,p2)],t) (hs.put (by rw[hb,hsh,hin];rfl) h4)
 ·rw[qbg (show ¬_=Int.ofNat 0 from h0),jax,jaa,jan h0]
theorem qp0:Con Tryz.prog zi2 qvx:=zna ⟨qk3,qg9,q6d,zq9,qqr,zjw,trivial⟩ fun x y hx h=>⟨LF,(zh5 x.1 x.2.1 (qcj (c:=cAct) hx.2.1)).trans h⟩
theorem zlu(s p:ByteArray)(n:Nat):ByteArray.append (ByteArray.extract p 0 n) (ByteArray.extract s n s.size)=S.tear s p n:=by
 unfold S.tear;refine qfo ?_;rw[qb4 (zjx s p n)];show qab (p.extract 0 n++s.extract n s.size)=_;rw[zs7,qxp,q9f s n s.size (jar _)]
theorem zf6(p:DPut)(q:List DPut)(n:Int)(r:List Int)(l:List ByteArray):S.crashGo (p::q) (n::r) l=S.crashGo q r (l.set p.1.toNat (S.tear (l.getD p.1.toNat S.none_) p.2 n.toNat)):=rfl
theorem zaw{l:List ByteArray}(h:szS l){i:Nat}{s:ByteArray}(hs:s.size=64):szS (l.set i s):=fun t ht=>by
 rcases List.mem_or_eq_of_mem_set ht with ht|rfl
 ·exact h t ht
 ·exact hs
theorem zku{s p:ByteArray}{n:Int}(hs:s.size=64)(hp:p.size=64)(h0:0<=n)(h1:n<=64) :
  lchk (Int.ofNat 0) n (Int.ofNat p.size) (Int.ofNat p.size)=true/\lchk n (Int.ofNat s.size) (Int.ofNat s.size) (Int.ofNat s.size)=true /\
  Nat.ble (Nat.succ (Nat.add (ByteArray.size (ByteArray.extract p 0 (Int.toNat n))) (ByteArray.size (ByteArray.extract s (Int.toNat n) (Int.toNat (Int.ofNat s.size)))))) 9223372036854775808=true /\
  ByteArray.append (ByteArray.extract p 0 (Int.toNat n)) (ByteArray.extract s (Int.toNat n) (Int.toNat (Int.ofNat s.size)))=S.tear s p n.toNat:=by
 rw[hs,hp];refine⟨qb3.2 ⟨jbr _,h0,h1,jbr _⟩,qb3.2 ⟨h0,h1,jbr _,jbr _⟩,ja2 ?_,?_⟩
 ·rw[jey,jey];show _+_+1<=_;omega
 ·have:=zlu s p n.toNat;rw[hs] at this;exact this
theorem zrv(d:qaf)(l:List Int)(hl:l.length<LF):Fz11 LF d l=some ((S.crash d l).1,(S.crash d l).2,()):=by
 have e1:idxO (fun v0:Int=>(some (!(S.inI v0 (Int.ofNat 0) (Int.ofNat 64))))) l 0=some (Go.Jx.S.idx (fun n=>!S.inI n 0 64) l):=qn4 _ fun x _=>rfl;simp only[Fz11,qv8,qce];show cond (!ieqI (S.checkDisk d) (Int.ofNat 0)) _ _=_;unfold S.crash;by_cases h0:S.checkDisk d=0
 ·rw[qbj (show _=Int.ofNat 0 from h0),jay,jag,jao h0];by_cases h1:d.2.length<l.length
  ·rw[jak h1,jaa,jao (.inl h1)];rfl
  rw[jap h1,jag,e1];simp only[qnw];cases h2:l.any (fun n=>!S.inI n 0 64) with
  | true=>rw[jaa,jao (.inr rfl)];rfl
  | false =>
  rw[jag,jan (by simp[h1])];have hk:∀n∈l,0<=n/\n<=64:=fun n hn=>by
   rw[jdb] at h2;have:=h2 n hn;rw[Bool.not_eq_true,jeu] at this;exact qbk.1 this
  have hf:=qj9.1 (qq3 h0).1.fit;refine(range0 (σ:=List ByteArray) (R:=qct) l (fun i s=>(i,s)) (fun _ s=>szS s/\s.length=d.1.length) (fun rest i s=>some ((S.crashGo (d.2.drop i) rest s,[]),0,())) hl (fun K s _=>?_) (fun K i v rest s hs r h=>?_) d.1 ⟨(qq3 h0).1.sz,rfl⟩).trans ?_
  ·simp only[qq4,qca,jag];have:S.crashGo (d.2.drop l.length) [] s=s:=by cases d.2.drop l.length<;>rfl
   rw[this];rfl
  ·have hi:=r.lt;have hip:i<d.2.length:=by omega
   have hg:d.2[i]?=some d.2[i]:=jac hip;obtain⟨z1,z2,z3⟩:=hf d.2[i] (jbh hip);have hd:d.2.drop i=d.2[i]::d.2.drop (i+1):=jdg hip;obtain⟨x,y1,y2,y3⟩:=qwu (l:=s) z2 (by rw[hs.2];exact z3);have hx:=hs.1 x y3;obtain⟨v0,v1⟩:=hk v r.mem;obtain⟨w1,w2,w3,w4⟩:=zku hx z1 v0 v1;simp only[qq4,r.ilt,r.get,r.next,jaa,qdt,hg,y1,y2,w1,w2,w3,w4];rw[hd,zf6,jai,y2];exact h _ ⟨zaw hs.1 (zk1 hx z1 (by omega)),by rw[jcv];exact hs.2⟩
  ·rfl
 ·rw[qbg (show ¬_=Int.ofNat 0 from h0),jax,jaa,jan h0]
theorem zra:Con Tryz.prog zgn zqd:=zri ⟨qk3,qg9,qqr,trivial⟩ fun x y hx h=>⟨LF,(zrv x.1 x.2.1 (qcj (c:=.int .i64) hx.2.1)).trans h⟩
abbrev qn2:Type:=ByteArray × Unit
abbrev zb1:Nat:=92
def q1j(lf:Nat)(x1:Int):Option qn2:=(some ((ByteArray.mk (Array.mk (List.cons (UInt8.ofBitVec (BitVec.ofFin (Fin.mk (Nat.mod (Int.toNat (IntKind.u8.wrap (Int.fdiv x1 (Int.ofNat 256)))) 256) (jc1 (Int.toNat (IntKind.u8.wrap (Int.fdiv (x1,()).1 (HPow.hPow (OfNat.ofNat 2) (Min.min (Int.toNat (OfNat.ofNat 8)) (IntKind.bits IntKind.i64)))))) (BitVec.ofNat._proof_1 (OfNat.ofNat 8)))))) (List.cons (UInt8.ofBitVec (BitVec.ofFin (Fin.mk (Nat.mod (Int.toNat (IntKind.u8.wrap x1)) 256) (jc1 (Int.toNat (IntKind.u8.wrap (x1,()).1)) (BitVec.ofNat._proof_1 (OfNat.ofNat 8)))))) [])))),()))
def qnb(lf:Nat)(x1:Int):Option qn2:=q1j lf x1
theorem zqe{g:ElA [(.int .i64)]->Option qn2}(hsm:SmOK Tryz.prog [])(hg:∀(x:ElA [(.int .i64)]) (y:qn2),WfA [(.int .i64)] x->g x=some y->∃lf,qnb lf x.1=some y):Con Tryz.prog 92 ⟨[(.int .i64)],[(false,.str)],g⟩ :=
 conU (fi:=fi92) (hxl:=[]) (fun lf x=>qnb lf x.1) cm3 zka trivial hsm hg
def qj6:Nat->Option Nm:=fun k=>cond (Nat.beq k 3) (some ⟨[3,6,7,8],[],[],[],[],0,0,false⟩) (none)
def qkn:Nat->Bool:=fun k=>cond (Nat.beq k 3) true (false)
def q8a:=qkn
abbrev qcq:Type:=ByteArray × Unit
def q84:List (Nat × Sm):=[(92,qr0)]
def q48:List (Nat × Hx):=[]
def qs2(R:Type)(lf:Nat):ClK R:=qa2 Tryz.prog ttT.get ftT.get (nm1 91 qj6) (smL q84) (hxL q48) lf 20 R
abbrev zd1:Nat:=91
def qin(x1:(List qaa))(p:ByteArray × Int):NRes:=(NRes.mk (.node none (.node none (.node (some (IV.str p.1)) (.node (some (IV.int .i64 (Int.ofNat x1.length))) .leaf .leaf) .leaf) .leaf) (.node none (.node none (.node (some (IV.int .i64 p.2)) .leaf .leaf) .leaf) (.node (some (IV.lst qac x1)) .leaf .leaf))) (IS.mk .leaf 0) [] 0)
def q76(lf:Nat)(x1:(List qaa))(L3:(ByteArray × Int)->Option qcq):Option qcq:=(L3 ((S.lit []),(Int.ofNat 0)))
def qok(lf:Nat)(x1:(List qaa))(L3:(ByteArray × Int)->Option qcq)(p:ByteArray × Int):Option qcq:=(cond (iltI p.2 (Int.ofNat x1.length)) (match (jget x1 p.2) with|none=>none|some v0=>(cond (Nat.ble (Nat.succ (Nat.add p.1.size 1)) 9223372036854775808) (cond v0.2.2 (match (cond (S.inI (Int.ofNat 0) (Int.ofNat 0) (Int.ofNat 16777215)) (some ((S.lit [0,0]),())) none) with|none=>none|some v1=>(cond (Nat.ble (Nat.succ (Nat.add (ByteArray.size (ByteArray.append p.1 (ByteArray.mk (Array.mk (List.cons (UInt8.ofBitVec (BitVec.ofFin (Fin.mk (Nat.mod (Int.toNat (IntKind.u8.wrap v0.1)) 256) (jc1 (Int.toNat (IntKind.u8.wrap v0.1)) (BitVec.ofNat._proof_1 (OfNat.ofNat 8)))))) []))))) v1.1.size)) 9223372036854775808) (L3 ((ByteArray.append (ByteArray.append p.1 (ByteArray.mk (Array.mk (List.cons (UInt8.ofBitVec (BitVec.ofFin (Fin.mk (Nat.mod (Int.toNat (IntKind.u8.wrap v0.1)) 256) (jc1 (Int.toNat (IntKind.u8.wrap v0.1)) (BitVec.ofNat._proof_1 (OfNat.ofNat 8)))))) [])))) v1.1),(IntKind.i64.wrap (Int.add p.2 (Int.ofNat 1))))) none)) (match (cond (S.inI (IntKind.i64.wrap (Int.ofNat (Nat.add v0.2.1.size 1))) (Int.ofNat 0) (Int.ofNat 16777215)) (some ((qag (S.two (Int.toNat (IntKind.i64.wrap (Int.ofNat (Nat.add v0.2.1.size 1)))))),())) none) with|none=>none|some v37=>(cond (Nat.ble (Nat.succ (Nat.add v37.1.size v0.2.1.size)) 9223372036854775808) (cond (Nat.ble (Nat.succ (Nat.add (ByteArray.size (ByteArray.append p.1 (ByteArray.mk (Array.mk (List.cons (UInt8.ofBitVec (BitVec.ofFin (Fin.mk (Nat.mod (Int.toNat (IntKind.u8.wrap v0.1)) 256) (jc1 (Int.toNat (IntKind.u8.wrap v0.1)) (BitVec.ofNat._proof_1 (OfNat.ofNat 8)))))) []))))) (ByteArray.size (ByteArray.append v37.1 v0.2.1)))) 9223372036854775808) (L3 ((ByteArray.append (ByteArray.append p.1 (ByteArray.mk (Array.mk (List.cons (UInt8.ofBitVec (BitVec.ofFin (Fin.mk (Nat.mod (Int.toNat (IntKind.u8.wrap v0.1)) 256) (jc1 (Int.toNat (IntKind.u8.wrap v0.1)) (BitVec.ofNat._proof_1 (OfNat.ofNat 8)))))) [])))) (ByteArray.append v37.1 v0.2.1)),(IntKind.i64.wrap (Int.add p.2 (Int.ofNat 1))))) none) none))) none)) (some (p.1,())))
abbrev gz13:Type:=ElA [(.list qac)]->Option qcq
abbrev sz13(g:gz13):Sm:=⟨[(.list qac)],[(false,.str)],g⟩
abbrev Ez13(g:gz13)(J:JT qcq)(lf:Nat)(x1:(List qaa)):=qbq Tryz.prog ttT.get qj6 fi91.nt (qs2 _ lf) lf qkn J fi91.body [] (qaz (argV [(.list qac)] (x1,())) 0 .leaf) S0 [] (qay ttT.get fi91 (sz13 g))
abbrev Bz13(g:gz13)(J:JT qcq)(lf k:Nat)(ms:List Nat)(q:NRes):=qb1 Tryz.prog ttT.get qj6 fi91.nt (qs2 _ lf) lf qkn J k fi91.body [] ms q (qay ttT.get fi91 (sz13 g))
theorem zrz(g:gz13)(J:JT qcq)(lf:Nat)(x1:(List qaa)):Ez13 g J lf x1=q76 lf x1 (fun q=>J 3 [lf] (qin x1 q)):=by kernel_rfl
theorem zj2(g:gz13)(J:JT qcq)(lf:Nat)(x1:(List qaa))(m1:Nat)(p:ByteArray × Int):Bz13 g J lf 3 [m1] (qin x1 p)=qok lf x1 (fun q=>J 3 [m1] (qin x1 q)) p:=by kernel_rfl
theorem q8f:(regs fi91.body).Nodup:=by decide +kernel
theorem q5l:okC qj6 qkn q8a fi91.body none=true:=by kernel_rfl
def Az13(g:gz13)(lf:Nat):JT qcq:=atN Tryz.prog ttT.get qj6 fi91 (sz13 g) (qs2 _ lf) lf q8a
def qp3(lf:Nat)(x1:(List qaa)):Nat->(ByteArray × Int)->Option qcq:=qa1 fun K p=>qok lf x1 K p
theorem q52(g:gz13)(lf:Nat)(x1:(List qaa)):∀(n:Nat) (p:ByteArray × Int),Az13 g lf 3 [n] (qin x1 p)=qp3 lf x1 n p
 | 0,p=>qbn 3 [0] rfl _
 | n+1,p=>by
  have ih:=q52 g lf x1 n;refine(qbp (qa5 20 _) q8f q5l 3 [n+1] [n] rfl _).trans ((zj2 g (Az13 g lf) lf x1 n p).trans ?_);rw[(show (fun q=>Az13 g lf 3 [n] (qin x1 q))=(fun q=>qp3 lf x1 n q) from funext ih)];rfl
def Fz13(lf:Nat)(x1:(List qaa)):Option qcq:=q76 lf x1 (fun q=>qp3 lf x1 lf q)
theorem zg8(g:gz13)(lf:Nat)(x1:(List qaa)):Ez13 g (Az13 g lf) lf x1=Fz13 lf x1:=by
  refine(zrz g (Az13 g lf) lf x1).trans ?_;rw[(show (fun q=>Az13 g lf 3 [lf] (qin x1 q))=(fun q=>qp3 lf x1 lf q) from funext fun q=>q52 g lf x1 lf q)];rfl
theorem zjn:qa9 Tryz.prog q48:=trivial
theorem zqk{g:gz13}(hsm:SmOK Tryz.prog q84)(hg:∀(x:ElA [(.list qac)]) (y:qcq),WfA [(.list qac)] x->g x=some y->∃lf,Fz13 lf x.1=some y):Con Tryz.prog 91 ⟨[(.list qac)],[(false,.str)],g⟩ :=
 conV (st:=qkn) (fun lf x=>Fz13 lf x.1) cm3 zqz zjn q8f q5l (fun lf x=>zg8 g lf x.1) hsm hg
def ql3:Nat->Option Nm:=fun k=>cond (Nat.beq k 3) (some ⟨[4],[],[],[],[],0,0,false⟩) (cond (Nat.beq k 6) (some ⟨[4,5],[(5,.str)],[],[],[],0,0,false⟩) (none))
def qk6:Nat->Bool:=fun k=>cond (Nat.beq k 3) true (cond (Nat.beq k 6) true (false))
def q3p:=qk6
abbrev qb2:Type:=(List ByteArray) × Unit
def q2m:List (Nat × Sm):=[(91,q0f),(92,qr0)]
def q74:List (Nat × Hx):=[]
def qs0(R:Type)(lf:Nat):ClK R:=qa2 Tryz.prog ttT.get ftT.get (nm1 56 ql3) (smL q2m) (hxL q74) lf 20 R
abbrev zaa:Nat:=56
def qh8(x1:(List qaa))(p:ByteArray):NRes:=(NRes.mk (.node none .leaf (.node none (.node (some (IV.str p)) .leaf .leaf) .leaf)) (IS.mk .leaf 0) [] 0)
def qh1(x1:(List qaa))(p:ByteArray × (List ByteArray)):NRes:=(NRes.mk (.node none (.node none .leaf (.node (some (IV.arr 0)) .leaf .leaf)) (.node none (.node (some (IV.str p.1)) .leaf .leaf) .leaf)) (IS.mk (.node (some (IObj.arr TC.str p.2)) .leaf .leaf) 1) [] 0)
def qr6(lf:Nat)(x1:(List qaa))(L3:ByteArray->Option qb2):Option qb2:=(match (cond (S.pk x1) (some ((qag (S.body x1)),())) none) with|none=>none|some v0=>(match (cond (S.inI (Int.ofNat v0.1.size) (Int.ofNat 0) (Int.ofNat 16777215)) (some ((qag (S.two (Int.toNat (Int.ofNat v0.1.size)))),())) none) with|none=>none|some v1=>(cond (Nat.ble (Nat.succ (Nat.add 2 v1.1.size)) 9223372036854775808) (cond (Nat.ble (Nat.succ (Nat.add (ByteArray.size (ByteArray.append (ByteArray.mk (Array.mk (List.cons (UInt8.ofBitVec (BitVec.ofFin (Fin.mk 1 (jc1 (Int.toNat (OfNat.ofNat 1)) (BitVec.ofNat._proof_1 (OfNat.ofNat 8)))))) (List.cons (UInt8.ofBitVec (BitVec.ofFin (Fin.mk (Nat.mod (Int.toNat (IntKind.u8.wrap (Int.fdiv (Int.ofNat v0.1.size) (Int.ofNat 65536)))) 256) (jc1 (Int.toNat (IntKind.u8.wrap (Int.fdiv (Nat.cast v0.1.size) (HPow.hPow (OfNat.ofNat 2) (Min.min (Int.toNat (OfNat.ofNat 16)) (IntKind.bits IntKind.i64)))))) (BitVec.ofNat._proof_1 (OfNat.ofNat 8)))))) [])))) v1.1)) v0.1.size)) 9223372036854775808) (L3 (ByteArray.append (ByteArray.append (ByteArray.mk (Array.mk (List.cons (UInt8.ofBitVec (BitVec.ofFin (Fin.mk 1 (jc1 (Int.toNat (OfNat.ofNat 1)) (BitVec.ofNat._proof_1 (OfNat.ofNat 8)))))) (List.cons (UInt8.ofBitVec (BitVec.ofFin (Fin.mk (Nat.mod (Int.toNat (IntKind.u8.wrap (Int.fdiv (Int.ofNat v0.1.size) (Int.ofNat 65536)))) 256) (jc1 (Int.toNat (IntKind.u8.wrap (Int.fdiv (Nat.cast v0.1.size) (HPow.hPow (OfNat.ofNat 2) (Min.min (Int.toNat (OfNat.ofNat 16)) (IntKind.bits IntKind.i64)))))) (BitVec.ofNat._proof_1 (OfNat.ofNat 8)))))) [])))) v1.1) v0.1)) none) none)))
def qiv(lf:Nat)(x1:(List qaa))(L3:ByteArray->Option qb2)(L6:(ByteArray × (List ByteArray))->Option qb2)(p:ByteArray):Option qb2:=(cond (Bool.not (ieqI (Int.ofNat (Nat.mod p.size 64)) (Int.ofNat 0))) (cond (Nat.ble (Nat.succ (Nat.add p.size 1)) 9223372036854775808) (L3 (ByteArray.append p (S.lit [0]))) none) (L6 (p,[])))
def qhg(lf:Nat)(x1:(List qaa))(L6:(ByteArray × (List ByteArray))->Option qb2)(p:ByteArray × (List ByteArray)):Option qb2:=(cond (iltI (Int.ofNat 0) (Int.ofNat p.1.size)) (cond (lchk (Int.ofNat 0) (Int.ofNat 64) (Int.ofNat p.1.size) (Int.ofNat p.1.size)) (cond (Nat.ble (Nat.mul (Nat.add p.2.length 1) 16) 140737488355328) (cond (lchk (Int.ofNat 64) (Int.ofNat p.1.size) (Int.ofNat p.1.size) (Int.ofNat p.1.size)) (L6 ((ByteArray.extract p.1 64 (Int.toNat (Int.ofNat p.1.size))),(List.append p.2 [(ByteArray.extract p.1 0 64)]))) none) none) none) (some (p.2,())))
abbrev gz14:Type:=ElA [(.list qac)]->Option qb2
abbrev sz14(g:gz14):Sm:=⟨[(.list qac)],[(true,.str)],g⟩
abbrev Ez14(g:gz14)(J:JT qb2)(lf:Nat)(x1:(List qaa)):=qbq Tryz.prog ttT.get ql3 fi56.nt (qs0 _ lf) lf qk6 J fi56.body [] (qaz (argV [(.list qac)] (x1,())) 0 .leaf) S0 [] (qay ttT.get fi56 (sz14 g))
abbrev Bz14(g:gz14)(J:JT qb2)(lf k:Nat)(ms:List Nat)(q:NRes):=qb1 Tryz.prog ttT.get ql3 fi56.nt (qs0 _ lf) lf qk6 J k fi56.body [] ms q (qay ttT.get fi56 (sz14 g))
theorem ze5(g:gz14)(J:JT qb2)(lf:Nat)(x1:(List qaa)):Ez14 g J lf x1=qr6 lf x1 (fun q=>J 3 [lf] (qh8 x1 q)):=by kernel_rfl
theorem zdk(g:gz14)(J:JT qb2)(lf:Nat)(x1:(List qaa))(m1:Nat)(p:ByteArray):Bz14 g J lf 3 [m1] (qh8 x1 p)=qiv lf x1 (fun q=>J 3 [m1] (qh8 x1 q)) (fun q=>J 6 [lf] (qh1 x1 q)) p:=by kernel_rfl
theorem zop(g:gz14)(J:JT qb2)(lf:Nat)(x1:(List qaa))(m1:Nat)(p:ByteArray × (List ByteArray)):Bz14 g J lf 6 [m1] (qh1 x1 p)=qhg lf x1 (fun q=>J 6 [m1] (qh1 x1 q)) p:=by kernel_rfl
theorem qtu:(regs fi56.body).Nodup:=by decide +kernel
theorem qr4:okC ql3 qk6 q3p fi56.body none=true:=by kernel_rfl
def Az14(g:gz14)(lf:Nat):JT qb2:=atN Tryz.prog ttT.get ql3 fi56 (sz14 g) (qs0 _ lf) lf q3p
def qdo(lf:Nat)(x1:(List qaa)):Nat->(ByteArray × (List ByteArray))->Option qb2:=qa1 fun K p=>qhg lf x1 K p
theorem q6y(g:gz14)(lf:Nat)(x1:(List qaa)):∀(n:Nat) (p:ByteArray × (List ByteArray)),Az14 g lf 6 [n] (qh1 x1 p)=qdo lf x1 n p
 | 0,p=>qbn 6 [0] rfl _
 | n+1,p=>by
  have ih:=q6y g lf x1 n;refine(qbp (qa5 20 _) qtu qr4 6 [n+1] [n] rfl _).trans ((zop g (Az14 g lf) lf x1 n p).trans ?_);rw[(show (fun q=>Az14 g lf 6 [n] (qh1 x1 q))=(fun q=>qdo lf x1 n q) from funext ih)];rfl
def qf4(lf:Nat)(x1:(List qaa)):Nat->(ByteArray)->Option qb2:=qa1 fun K p=>qiv lf x1 K (fun q=>qdo lf x1 lf q) p
theorem q0l(g:gz14)(lf:Nat)(x1:(List qaa)):∀(n:Nat) (p:ByteArray),Az14 g lf 3 [n] (qh8 x1 p)=qf4 lf x1 n p
 | 0,p=>qbn 3 [0] rfl _
 | n+1,p=>by
  have ih:=q0l g lf x1 n;refine(qbp (qa5 20 _) qtu qr4 3 [n+1] [n] rfl _).trans ((zdk g (Az14 g lf) lf x1 n p).trans ?_);rw[(show (fun q=>Az14 g lf 6 [lf] (qh1 x1 q))=(fun q=>qdo lf x1 lf q) from funext fun q=>q6y g lf x1 lf q),(show (fun q=>Az14 g lf 3 [n] (qh8 x1 q))=(fun q=>qf4 lf x1 n q) from funext ih)];rfl
def Fz14(lf:Nat)(x1:(List qaa)):Option qb2:=qr6 lf x1 (fun q=>qf4 lf x1 lf q)
theorem zoe(g:gz14)(lf:Nat)(x1:(List qaa)):Ez14 g (Az14 g lf) lf x1=Fz14 lf x1:=by
  refine(ze5 g (Az14 g lf) lf x1).trans ?_;rw[(show (fun q=>Az14 g lf 3 [lf] (qh8 x1 q))=(fun q=>qf4 lf x1 lf q) from funext fun q=>q0l g lf x1 lf q)];rfl
theorem zie:qa9 Tryz.prog q74:=trivial
theorem znn{g:gz14}(hsm:SmOK Tryz.prog q2m)(hg:∀(x:ElA [(.list qac)]) (y:qb2),WfA [(.list qac)] x->g x=some y->∃lf,Fz14 lf x.1=some y):Con Tryz.prog 56 ⟨[(.list qac)],[(true,.str)],g⟩ :=
 conV (st:=qk6) (fun lf x=>Fz14 lf x.1) cm3 zgg zie qtu qr4 (fun lf x=>zoe g lf x.1) hsm hg
abbrev qqx:Type:=ByteArray × Unit
abbrev zos:Nat:=101
def q8j(lf:Nat)(x1:ByteArray):Option qqx:=(cond (lchk (Int.ofNat 1) (Int.ofNat x1.size) (Int.ofNat x1.size) (Int.ofNat x1.size)) (cond (Nat.ble (Nat.succ (Nat.add 1 (ByteArray.size (ByteArray.extract x1 1 (Int.toNat (Int.ofNat x1.size)))))) 9223372036854775808) (some ((ByteArray.append (S.lit [0]) (ByteArray.extract x1 1 (Int.toNat (Int.ofNat x1.size)))),())) none) none)
def qrb(lf:Nat)(x1:ByteArray):Option qqx:=q8j lf x1
theorem zej{g:ElA [.str]->Option qqx}(hsm:SmOK Tryz.prog [])(hg:∀(x:ElA [.str]) (y:qqx),WfA [.str] x->g x=some y->∃lf,qrb lf x.1=some y):Con Tryz.prog 101 ⟨[.str],[(false,.str)],g⟩ :=
 conU (fi:=qrt) (hxl:=[]) (fun lf x=>qrb lf x.1) cm3 zoa trivial hsm hg
abbrev qo1:Type:=zgl × Unit
abbrev zd7:Nat:=93
def q3m(lf:Nat)(x1:Int)(x2:Int):Option qo1:=(cond (ieqI x2 (Int.ofNat 0)) (some (((Int.ofNat 1),(IntKind.i64.wrap (Int.tdiv x1 (Int.ofNat 2)))),())) (some (((IntKind.i64.wrap (Int.tdiv x1 (Int.ofNat 2))),(IntKind.i64.wrap (Int.sub x1 (Int.ofNat 1)))),())))
def qqi(lf:Nat)(x1:Int)(x2:Int):Option qo1:=q3m lf x1 x2
theorem zmz{g:ElA [(.int .i64),(.int .i64)]->Option qo1}(hsm:SmOK Tryz.prog [])(hg:∀(x:ElA [(.int .i64),(.int .i64)]) (y:qo1),WfA [(.int .i64),(.int .i64)] x->g x=some y->∃lf,qqi lf x.1 x.2.1=some y):Con Tryz.prog 93 ⟨[(.int .i64),(.int .i64)],[(false,q1y)],g⟩ :=
 conU (fi:=fi93) (hxl:=[]) (fun lf x=>qqi lf x.1 x.2.1) cm3 zcg trivial hsm hg
theorem qkh(n:Int):IntKind.u8.wrap n=n % 256:=by
 unfold IntKind.wrap;simp[IntKind.signed,IntKind.bits]
theorem qv1(n:Int)(h:Nat.mod (Int.toNat n) 256<2 ^ 8):ByteArray.mk (Array.mk (List.cons (UInt8.ofBitVec (BitVec.ofFin (Fin.mk (Nat.mod (Int.toNat n) 256) h))) []))=qag [n]:=rfl
theorem zgc(a b:Int)(h:Nat.mod (Int.toNat a) 256<2 ^ 8)(k:Nat.mod (Int.toNat b) 256<2 ^ 8):ByteArray.mk (Array.mk (List.cons (UInt8.ofBitVec (BitVec.ofFin (Fin.mk (Nat.mod (Int.toNat a) 256) h))) (List.cons (UInt8.ofBitVec (BitVec.ofFin (Fin.mk (Nat.mod (Int.toNat b) 256) k))) [])))=qag [a,b]:=rfl
theorem zcc(b:Int)(h:1<2 ^ 8)(k:Nat.mod (Int.toNat b) 256<2 ^ 8):ByteArray.mk (Array.mk (List.cons (UInt8.ofBitVec (BitVec.ofFin (Fin.mk 1 h))) (List.cons (UInt8.ofBitVec (BitVec.ofFin (Fin.mk (Nat.mod (Int.toNat b) 256) k))) [])))=qag [1,b]:=rfl
theorem qek(a b:List Int):ByteArray.append (qag a) (qag b)=qag (a++b):=by
 show qag a++qag b=_;apply ByteArray.ext;simp[qag]
theorem quy(s:ByteArray):∃b,rng b/\s=qag b/\s.size=b.length/\qab s=b:=⟨qab s,qd4 s,(qhn s).symm,(qc4 s).symm,rfl⟩
theorem qyg{b:List Int}(h:rng b)(n:Nat):ByteArray.extract (qag b) 0 n=qag (b.take n):=by
 refine qfo ?_;rw[qxp,qb4 h,qb4 (qer h n)]
theorem qjl{b:List Int}(h:rng b)(n:Nat):ByteArray.extract (qag b) n b.length=qag (b.drop n):=by
 refine qfo ?_;rw[q9f _ _ _ (by rw[qbh];exact jar _),qb4 h,qb4 (qei h n)]
theorem zm0(lf:Nat)(n:Int)(h:S.inI n 0 16777215=true):qnb lf n=some (qag (S.two n.toNat),()):=by
 obtain⟨h1,h2⟩:=qbk.1 h;obtain⟨k,rfl⟩:∃k:Nat,n=Int.ofNat k:=⟨n.toNat,by show n=((n.toNat:Nat):Int);omega⟩;simp only[qnb,q1j,zgc,qkh];refine jav (fun l=>some (qag l,())) ?_;show [Int.fdiv (k:Int) 256 % 256,(k:Int) % 256]=S.two k;unfold S.two;rw[jeg _ (by decide)];simp only[jd0,and_true];omega
theorem q46:Con Tryz.prog zb1 qr0:=zqe trivial fun x y hx h=>⟨0,by
 obtain⟨h1,h2⟩:=qba (show cond (S.inI x.1 0 16777215) (some (qag (S.two (Int.toNat x.1)),())) none=some y from h);exact(zm0 0 x.1 h1).trans (jav some h2)⟩
theorem qv3{l:List qaa}(h:S.pk l=true):S.okC l=true/\l.length<=250:=by
 unfold S.pk at h;rw[jae] at h;exact⟨h.1,jal h.2⟩
theorem qov:∀{l:List qaa} {last:Int},S.okGo l last=true->∀c∈l,(0<=c.1/\c.1<=199)/\c.2.1.size<=4000/\(c.2.2=true->c.2.1=S.none_)
 | [],_,_,c,hc=>by cases hc
 | a::l,last,h,c,hc=>by
  obtain⟨h1,h2,h3,h4,h5⟩:=qbm.1 h;rcases jau.1 hc with rfl|hc
  ·exact⟨h1,h2,h3⟩
  ·exact qov h5 c hc
theorem qt9:∀{l:List qaa},(∀c∈l,c.2.1.size<=4000)->(S.body l).length<=4003*l.length
 | [],_=>jb4 _
 | c::l,h=>by
  have h1:=h c (by simp);have h2:=qt9 (l:=l) fun x hx=>h x (by simp[hx]);have h3:cond c.2.2 0 c.2.1.size<=4000:=by
   cases c.2.2
   ·exact h1
   ·exact jb4 _
  rw[qqm,jah,qnq,jat];omega
theorem qot{l:List qaa}(h:S.pk l=true):(S.body l).length<=1000750:=by
 obtain⟨h1,h2⟩:=qv3 h;have:=qt9 fun c hc=>(qov h1 c hc).2.1;omega
theorem zgk(l:List qaa)(c:qaa):S.body (l++[c])=S.body l++S.cellB c:=by
 unfold S.body;rw[List.flatMap_append];simp
theorem zcp{l:List qaa}(h:S.pk l=true)(i:Nat):(S.body (l.take i)).length<=1000750:=by
 obtain⟨h1,h2⟩:=qv3 h;have:=qt9 (l:=l.take i) fun c hc=>(qov h1 c (jch hc)).2.1;rw[jbm] at this;omega
theorem qeo{n:Nat}(h:n<9223372036854775808):Nat.ble (Nat.succ n) 9223372036854775808=true:=ja2 h
theorem zdi(l:List qaa)(h:S.pk l=true):Fz13 LF l=some (qag (S.body l),()):=by
 obtain⟨hok,hlen⟩:=qv3 h;refine(range0 (σ:=ByteArray) (R:=qcq) l (fun i s=>(s,i)) (fun i s=>s=qag (S.body (l.take i))) (fun _ _ _=>some (qag (S.body l),())) (by unfold LF;omega) (fun K s hs=>?_) (fun K i v rest s hs r hk=>?_) (S.lit []) rfl).trans rfl
 ·rw[List.take_length] at hs;simp only[qok,qca,jag];rw[hs]
 ·obtain⟨⟨v1,v2⟩,v3,v4⟩:=qov hok v r.mem;have hB:=zcp h i;have hnext:qag (S.body (l.take (i+1)))=qag (S.body (l.take i)++S.cellB v):=by rw[r.take,zgk]
  obtain⟨k,s0,g⟩:=v;simp only at v1 v2 v3 v4;have hkw:IntKind.u8.wrap k=k % 256:=qkh k;subst hs;generalize S.body (l.take i)=B at *;have hsB:(qag B).size=B.length:=qbh B;simp only[qok,r.ilt,r.get,r.next,jaa,qv1,hkw,qek,qbh];rw[qeo (n:=Nat.add B.length 1) (by show B.length+1<_;omega),jaa];cases g with
  | true =>
   rw[jaa,show S.inI (Int.ofNat 0) (Int.ofNat 0) (Int.ofNat 16777215)=true from rfl,jaa];simp only;rw[show S.lit [0,0]=qag [0,0] from rfl,qbh,qek,qeo (by simp only[jah,jat,jbi];show _+2<_;omega),jaa];refine hk _ ?_;rw[hnext,ja0];rfl
  | false =>
   obtain⟨b,hb1,hb2,hb3,_⟩:=quy s0;subst hb2;rw[hb3] at v3;have hw:IntKind.i64.wrap (Int.ofNat (Nat.add (qag b).size 1))=Int.ofNat (b.length+1):=by
    rw[hb3];exact qbz (n:=b.length+1) (by omega)
   rw[jag,hw,show S.inI (Int.ofNat (b.length+1)) (Int.ofNat 0) (Int.ofNat 16777215)=true from qbk.2 ⟨jb0 _,by show ((b.length+1:Nat):Int)<=16777215;omega⟩,jaa];simp only[qek,qbh];have h2:(S.two (Int.toNat (Int.ofNat (b.length+1)))).length=2:=rfl;rw[qeo (by show _+b.length<_;rw[h2];omega),jaa,qeo (by simp only[jah,jat,jbi,h2];show (_:Nat)+(_:Nat)<_;omega),jaa];refine hk _ ?_;rw[hnext];have:S.cellB (k,qag b,false)=[k % 256]++(S.two (Int.toNat (Int.ofNat (b.length+1)))++b):=by
    unfold S.cellB;simp only[jag];rw[hb3,qb4 hb1];rfl
   rw[this,ja0]
theorem zfl:Con Tryz.prog zd1 q0f:=zqk ⟨q46,trivial⟩ fun x y hx h=>⟨LF,by
 obtain⟨h1,h2⟩:=qba (show cond (S.pk x.1) (some (qag (S.body x.1),())) none=some y from h);exact(zdi x.1 h1).trans (jav some h2)⟩
def cut:Nat->List Int->List ByteArray
 | 0,_=>[]
 | m+1,b=>qag (b.take 64)::cut m (b.drop 64)
theorem q90:∀(f:Nat) (b:List Int),b.length<=f->S.chunks f b=cut ((b.length+63) / 64) (b++List.replicate (64*((b.length+63) / 64)-b.length) 0)
 | 0,b,h=>by
  have:b=[]:=jaz.1 (by omega);subst this;rfl
 | f+1,b,h=>by
  by_cases hb:0<b.length
  ·have ih:=q90 f (b.drop 64) (by rw[ja7];omega);rw[ja7] at ih;rw[qgr f hb,ih,show (b.length+63) / 64=(b.length-64+63) / 64+1 by omega];show _=qag ((b++_).take 64)::cut _ ((b++_).drop 64);by_cases h64:64<=b.length
   ·rw[jd5 h64,jd6 h64,show 64-b.length=0 by omega,jfc,jbl,show 64*((b.length-64+63) / 64+1)-b.length=64*((b.length-64+63) / 64)-(b.length-64) by omega]
   ·have e1:b.drop 64=[]:=jcr (by omega);rw[show (b.length-64+63) / 64=0 by omega,jbw (by omega:b.length<=64),jbw (by rw[jah,jbb];omega),show 64*(0+1)-b.length=64-b.length by omega];rfl
  ·have:b=[]:=jaz.1 (by omega);subst this;rfl
theorem q5z(l:List qaa):∀(m f:Nat) (b:List Int) (out:List ByteArray),rng b->b.length=64*m->m<f->out.length+m<=1000000->qdo LF l f (qag b,out)=some (out++cut m b,())
 | 0,f+1,b,out,hr,hb,hf,ho=>by
  have:b=[]:=jaz.1 (by omega);subst this;show qhg LF l (qdo LF l f) (qag [],out)=_;simp only[qhg];rw[qbh];show some (out,())=some (out++[],());rw[jbl]
 | m+1,f+1,b,out,hr,hb,hf,ho=>by
  show qhg LF l (qdo LF l f) _=_;simp only[qhg];have l1:lchk (Int.ofNat 0) (Int.ofNat 64) (Int.ofNat b.length) (Int.ofNat b.length)=true:=qb3.2 ⟨jbr _,by decide,by show (64:Int)<=(b.length:Int);omega,jbr _⟩;have l2:lchk (Int.ofNat 64) (Int.ofNat b.length) (Int.ofNat b.length) (Int.ofNat b.length)=true:=qb3.2 ⟨by decide,by show (64:Int)<=(b.length:Int);omega,jbr _,jbr _⟩
  rw[qbh,qev (show Int.ofNat 0<Int.ofNat b.length by show (0:Int)<(b.length:Int);omega),jaa,l1,jaa,ja2 (by show (out.length+1)*16<=_;omega),jaa,
   l2,jaa,qyg hr,show Int.toNat (Int.ofNat b.length)=b.length from rfl,qjl hr]
  rw[q5z l m f (b.drop 64) _ (qei hr 64) (by rw[ja7];omega) (by omega) (by simp only[jel,jah,jat,jbi];omega)];show some ((out++[_])++cut m _,())=some (out++_::cut m _,());rw[ja0];rfl
theorem q7k(l:List qaa):∀(k f:Nat) (b:List Int),k=(64-b.length % 64) % 64->k<f->b.length<=2000000->qf4 LF l f (qag b)=qdo LF l LF (qag (b++List.replicate k 0),[])
 | 0,f+1,b,hk,hf,hb=>by
  show qiv LF l (qf4 LF l f) (fun q=>qdo LF l LF q) (qag b)=_;simp only[qiv];rw[qbh,qbj (show Int.ofNat (Nat.mod b.length 64)=Int.ofNat 0 from jav Int.ofNat (show b.length % 64=0 by omega))];show qdo LF l LF (qag b,[])=qdo LF l LF (qag (b++[]),[]);rw[jbl]
 | k+1,f+1,b,hk,hf,hb=>by
  show qiv LF l (qf4 LF l f) (fun q=>qdo LF l LF q) (qag b)=_;simp only[qiv]
  rw[qbh,qbg (show ¬Int.ofNat (Nat.mod b.length 64)=Int.ofNat 0 from fun e=>by have:=jdj e;have:b.length % 64=0:=this;omega),jax,jaa,qeo (by show b.length+1<_;omega),jaa,show S.lit [0]=qag [0] from rfl,qek,
   q7k l k f (b++[0]) (by rw[jah,jat,jbi];omega) (by omega) (by rw[jah,jat,jbi];have:b.length<=2000000:=hb;omega),ja0]
  rfl
theorem zi0(l:List qaa)(h:S.pk l=true):Fz14 LF l=some (S.packed l 1,()):=by
 have hb:=qot h;simp only[Fz14,qr6,h,jaa,qbh];rw[show S.inI (Int.ofNat (S.body l).length) (Int.ofNat 0) (Int.ofNat 16777215)=true from qbk.2 ⟨jb0 _,by show (((S.body l).length:Nat):Int)<=16777215;omega⟩];simp only[jaa,zcc,qkh,qek,qbh];have h2:(S.two (Int.toNat (Int.ofNat (S.body l).length))).length=2:=rfl;rw[qeo (by show 2+_<_;rw[h2];decide),jaa,qeo (by simp only[jah,jat,jbi,h2];show (_:Nat)+(_:Nat)<_;omega),jaa];have hrec:[1,Int.fdiv (Int.ofNat (S.body l).length) (Int.ofNat 65536) % 256]++S.two (Int.toNat (Int.ofNat (S.body l).length))++S.body l=S.recB l 1:=by
  unfold S.recB;have:Int.fdiv (Int.ofNat (S.body l).length) (Int.ofNat 65536) % 256=(((S.body l).length / 65536 % 256:Nat):Int):=by
   rw[jeg _ (by decide)];show ((S.body l).length:Int) / 65536 % 256=_;omega
  rw[this,ja0];rfl
 rw[hrec,q7k l _ LF (S.recB l 1) rfl (by unfold LF;omega) (by rw[qep];omega)];have hl:=qep l 1;have hp:S.packed l 1=_:=q90 (S.recB l 1).length (S.recB l 1) (jar _);rw[hp,show (64-(S.recB l 1).length % 64) % 64=64*(((S.recB l 1).length+63) / 64)-(S.recB l 1).length by omega];rw[q5z l (((S.recB l 1).length+63) / 64) LF _ [] (qfc (qji l (by decide)) (qg2 _)) (by rw[jah,jbb];omega) (by unfold LF;omega) (by rw[jbi];omega)];rfl
theorem qp8:Con Tryz.prog zaa qjo:=znn ⟨zfl,q46,trivial⟩ fun x y hx h=>⟨LF,by
 obtain⟨h1,h2⟩:=qba (show cond (S.pk x.1) (some (S.packed x.1 1,())) none=some y from h);exact(zi0 x.1 h1).trans (jav some h2)⟩
theorem znh(lf:Nat)(s:ByteArray)(h:s.size=64):qrb lf s=some (qag (0::(qab s).drop 1),()):=by
 obtain⟨b,hb1,rfl,hb3,hb4⟩:=quy s;rw[hb3] at h;simp only[qrb,q8j];have l1:lchk (Int.ofNat 1) (Int.ofNat b.length) (Int.ofNat b.length) (Int.ofNat b.length)=true:=qb3.2 ⟨by decide,by show (1:Int)<=(b.length:Int);omega,jbr _,jbr _⟩;rw[hb3,hb4,l1,jaa,show Int.toNat (Int.ofNat b.length)=b.length from rfl,qjl hb1,qbh,qeo (by show 1+_<_;rw[ja7];omega),jaa,show S.lit [0]=qag [0] from rfl,qek];rfl
theorem q0o:Con Tryz.prog zos qsm:=zej trivial fun x y hx h=>⟨0,by
 obtain⟨h1,h2⟩:=qba (show cond (decide (ByteArray.size x.1=64)) (some (qag (0::(qab x.1).drop 1),())) none=some y from h);exact(znh 0 x.1 (ja1 h1)).trans (jav some h2)⟩
theorem zpg(lf:Nat)(n h:Int)(hn:S.inI n 0 1000=true):qqi lf n h=some (S.half n.toNat h,()):=by
 obtain⟨h1,h2⟩:=qbk.1 hn;have e1:Int.tdiv n (Int.ofNat 2)=((n.toNat / 2:Nat):Int):=by
  rw[Int.tdiv_eq_ediv_of_nonneg h1];show n / 2=_;omega
 simp only[qqi,q3m,e1];rw[wrap_in (n:=((n.toNat / 2:Nat):Int)) (by omega),wrap_in (n:=Int.sub n (Int.ofNat 1)) (by show -9223372036854775808<=n-1/\n-1<9223372036854775808;omega)];unfold S.half;by_cases h0:h=0
 ·rw[qbj (show h=Int.ofNat 0 from h0),jaa,jao h0];rfl
 ·rw[qbg (show ¬h=Int.ofNat 0 from h0),jag,jan h0];refine jav (fun z:Int=>some ((_,z),())) ?_;show n-1=(n.toNat:Int)-1;omega
theorem qn6:Con Tryz.prog zd7 qja:=zmz trivial fun x y hx h=>⟨0,by
 obtain⟨h1,h2⟩:=qba (show cond (S.inI x.1 0 1000) (some (S.half (Int.toNat x.1) x.2.1,())) none=some y from h);exact(zpg 0 x.1 x.2.1 h1).trans (jav some h2)⟩
theorem zl2{l:List ByteArray}{i:Nat}(h:i<l.length)(a:Int):S.puts (a+i) (l.drop i)=S.put (a+i) (l.getD i S.none_)::S.puts (a+((i+1:Nat):Int)) (l.drop (i+1)):=by
 rw[jdg h,jai,jac h];show S.put (a+i) _::S.puts (a+i+1) _=_;rw[show a+(i:Int)+1=a+((i+1:Nat):Int) by omega];rfl
theorem qy5(x1:List DAct)(a:Int)(l:List ByteArray)(ha:S.inI a 0 1000000=true)(hl:l.length<=1000000):∀(k f i:Nat) (out:List DAct),i+k=l.length->k<f->out.length+k<=2000000->qf8 LF x1 a l f (Int.ofNat i,out)=some ((),((out++S.puts (a+i) (l.drop i),()),()))
 | 0,f+1,i,out,hi,hf,ho=>by
  show qi0 LF x1 a l (qf8 LF x1 a l f) _=_;simp only[qi0];rw[qce,jap (by omega),jag,jcr (by omega)];show some ((),((out,()),()))=some ((),((out++[],()),()));rw[jbl]
 | k+1,f+1,i,out,hi,hf,ho=>by
  obtain⟨h1,h2⟩:=qbk.1 ha;show qi0 LF x1 a l (qf8 LF x1 a l f) _=_;simp only[qi0];rw[qce,jak (by omega),jaa,qu0 (i:=Int.ofNat i) (d:=S.none_) (jb0 i) (by show (i:Int)<(l.length:Int);omega)];simp only
  rw[ja2 (by show (out.length+1)*32<=_;omega),jaa,show IntKind.i64.wrap (Int.add (Int.ofNat i) (Int.ofNat 1))=Int.ofNat (i+1) from qbz (n:=i+1) (by omega),
   show IntKind.i64.wrap (Int.add a (Int.ofNat i))=a+i from wrap_in (by show -_<=a+(i:Int)/\a+(i:Int)<_;omega),
   qy5 x1 a l ha hl k f (i+1) _ (by omega) (by omega) (by simp only[jel,jah,jat,jbi];omega),zl2 (l:=l) (i:=i) (by omega) a]
  show some ((),(((out++[_])++_,()),()))=some ((),((out++_::_,()),()));rw[ja0];rfl
theorem zdr(x1:List DAct)(a:Int)(l:List ByteArray)(ha:S.inI a 0 1000000=true)(hl:l.length<=1000000)(hx:x1.length<=1000000):Fz8 LF x1 a l=some ((),((S.app x1 (S.puts a l),()),())):=by
 simp only[Fz8,qvp];refine(qy5 x1 a l ha hl l.length LF 0 x1 (by omega) (by unfold LF;omega) (by omega)).trans ?_;rw[jej,show a+((0:Nat):Int)=a by omega];rfl
theorem qtk:ConR Tryz.prog idz8 spz8:=mkz8 trivial fun x y hx h=>⟨LF,by
 obtain⟨h1,h2⟩:=qba (show cond (S.inI x.2.1 0 1000000&&(Nat.ble x.2.2.1.length 1000000&&Nat.ble (S.lenA x.1.1) 1000000)) (some ((),((S.app x.1.1 (S.puts x.2.1 x.2.2.1),()),()))) none=some y from h);rw[jae,jae] at h1;exact(zdr x.1.1 x.2.1 x.2.2.1 h1.1 (jal h1.2.1) (jal h1.2.2)).trans (jav some h2)⟩
theorem zno(x1:List DAct)(hx:x1.length<=4000000):Fz9 LF x1=some ((),((S.app x1 [S.sync],()),())):=by
 simp only[Fz9,qv2];rw[ja2 (by show (x1.length+1)*32<=_;omega),jaa];rfl
theorem qv4:ConR Tryz.prog idz9 spz9:=mkz9 trivial fun x y hx h=>⟨LF,by
 obtain⟨h1,h2⟩:=qba (show cond (Nat.ble (S.lenA x.1.1) 4000000) (some ((),((S.app x.1.1 [S.sync],()),()))) none=some y from h);exact(zno x.1.1 (jal h1)).trans (jav some h2)⟩
end Go.Proofs.YtnhmanoiolfapaaGreat
end

section
namespace Go.Jx
open Go Go.Sx Go.RowKit
end Go.Jx
end

section
namespace Go.Jx
open Go Go.Sx Go.RowKit
def omap{α β:Type}(f:α->β):Option α->Option β
 | none=>none
 | some a=>some (f a)
def hxG(a:Hx):Hx:=⟨fun cl vs S=>omap (igc S) (a.f cl vs S),fun clP R vs S kk=>a.k clP R vs S fun r=>kk (igc S r),fun cl clP h R vs S kk=>by
 rw[a.eq cl clP h R vs S];cases a.f cl vs S<;>rfl⟩
theorem zh2{P:Program}{f:Nat}{a:Hx}(ha:HxOK P f a.f):HxOK P f (hxG a).f:=by
 have inv:∀{cl vs S r},(hxG a).f cl vs S=some r->∃q,a.f cl vs S=some q/\r=igc S q:=by
  intro cl vs S r hr;have hr:omap (igc S) (a.f cl vs S)=some r:=hr;cases hq:a.f cl vs S with
  | none=>rw[hq] at hr;cases hr
  | some q=>rw[hq] at hr;cases hr;exact⟨q,rfl,rfl⟩
 refine⟨fun cl h1 h2 h3 vs S r hr T E us p hrd hwr hv=>?_,fun cl h1 vs S r hr=>?_,fun cl h1 vs S r hr hw hl=>?_⟩
 ·obtain⟨q,hq,rfl⟩:=inv hr;obtain⟨T',p',t1,t2,hback⟩:=q9r p hrd hwr;obtain⟨c1,c2⟩:=ha.fn cl h1 h2 h3 vs S q hq T' E us p' t1 t2 hv;exact⟨c1,c2.mono fun e w h=>hback e w h⟩
 ·obtain⟨q,hq,rfl⟩:=inv hr;exact q6o (ha.fr cl h1 vs S q hq)
 ·obtain⟨q,hq,rfl⟩:=inv hr;exact qxy hw hl
end Go.Jx
end

noncomputable section
set_option maxRecDepth 100000
namespace Go.Proofs.YtnhmanoiolfapaaGreat
open Go Go.Sx Go.RowKit Go.Jx
def q6b:List (Nat × Hx):=[(55,hxR spz9),(53,hxG (hxR spz8))]
abbrev qnv:Type:=(List DAct) × Bool × Unit
abbrev zeu:Nat:=88
def q9l(lf:Nat)(x1:qad):Option qnv:=(match (cond (S.pk x1.2.2.2) (some ((S.packed x1.2.2.2 (Int.ofNat 1)),())) none) with|none=>none|some v0=>(match (cond (S.inI (Int.ofNat x1.1.1.length) (Int.ofNat 0) (Int.ofNat 1000)) (some ((S.half (Int.toNat (Int.ofNat x1.1.1.length)) (IntKind.i64.wrap (Int.sub (Int.ofNat 1) x1.2.1))),())) none) with|none=>none|some v1=>(cond (iltI (IntKind.i64.wrap (Int.sub v1.1.2 v1.1.1)) (Int.ofNat v0.1.length)) (some ([],(false,()))) (match (cond (S.inI (IntKind.i64.wrap (Int.sub v1.1.2 v1.1.1)) (Int.ofNat 0) (Int.ofNat 1000)) (some ((List.replicate (Int.toNat (IntKind.i64.wrap (Int.sub v1.1.2 v1.1.1))) (S.lit [0,0,0,0,0,0,0,0,0,0,0,0,0,0,0,0,0,0,0,0,0,0,0,0,0,0,0,0,0,0,0,0,0,0,0,0,0,0,0,0,0,0,0,0,0,0,0,0,0,0,0,0,0,0,0,0,0,0,0,0,0,0,0,0])),())) none) with|none=>none|some v2=>(match (cond (Bool.and (S.inI v1.1.1 (Int.ofNat 0) (Int.ofNat 1000000)) (Bool.and (Nat.ble v2.1.length 1000000) true)) (some ((),(((S.app [] (S.puts v1.1.1 v2.1)),()),()))) none) with|none=>none|some v3=>(match (cond (Nat.ble (S.lenA v3.2.1.1) 4000000) (some ((),(((S.app v3.2.1.1 [S.sync]),()),()))) none) with|none=>none|some v4=>(match (jget v0.1 (Int.ofNat 0)) with|none=>none|some v5=>(match (GetElem?.getElem? v0.1 0) with|none=>none|some v6=>(match (cond (Decidable.decide (Eq v6.size 64)) (some ((qag (List.cons (Int.ofNat 0) (List.drop 1 (qab v6)))),())) none) with|none=>none|some v7=>(match (cond (Bool.and (S.inI v1.1.1 (Int.ofNat 0) (Int.ofNat 1000000)) (Nat.ble (S.lenA v4.2.1.1) 1000000)) (some ((),(((S.app v4.2.1.1 (S.puts v1.1.1 [v7.1])),()),()))) none) with|none=>none|some v8=>(cond (lchk (Int.ofNat 1) (Int.ofNat v0.1.length) (Int.ofNat v0.1.length) (Int.ofNat v0.1.length)) (match (cond (Bool.and (S.inI (IntKind.i64.wrap (Int.add v1.1.1 (Int.ofNat 1))) (Int.ofNat 0) (Int.ofNat 1000000)) (Bool.and (Nat.ble (List.length (lsub v0.1 (Int.ofNat 1) (Int.ofNat v0.1.length))) 1000000) (Nat.ble (S.lenA v8.2.1.1) 1000000))) (some ((),(((S.app v8.2.1.1 (S.puts (IntKind.i64.wrap (Int.add v1.1.1 (Int.ofNat 1))) (lsub v0.1 (Int.ofNat 1) (Int.ofNat v0.1.length)))),()),()))) none) with|none=>none|some v9=>(match (cond (Nat.ble (S.lenA v9.2.1.1) 4000000) (some ((),(((S.app v9.2.1.1 [S.sync]),()),()))) none) with|none=>none|some v10=>(match (jget v0.1 (Int.ofNat 0)) with|none=>none|some v11=>(match (cond (Bool.and (S.inI v1.1.1 (Int.ofNat 0) (Int.ofNat 1000000)) (Nat.ble (S.lenA v10.2.1.1) 1000000)) (some ((),(((S.app v10.2.1.1 (S.puts v1.1.1 [v11])),()),()))) none) with|none=>none|some v12=>(match (cond (Nat.ble (S.lenA v12.2.1.1) 4000000) (some ((),(((S.app v12.2.1.1 [S.sync]),()),()))) none) with|none=>none|some v13=>(match (cond (Bool.and (S.inI (Int.ofNat 0) (Int.ofNat 0) (Int.ofNat 1000000)) (Nat.ble (S.lenA v13.2.1.1) 1000000)) (some ((),(((S.app v13.2.1.1 (S.puts (Int.ofNat 0) (List.cons (ByteArray.append (ByteArray.mk (Array.mk (List.cons (UInt8.ofBitVec (BitVec.ofFin (Fin.mk (Nat.mod (Int.toNat (IntKind.u8.wrap (IntKind.i64.wrap (Int.sub (Int.ofNat 1) x1.2.1)))) 256) (jc1 (Int.toNat (IntKind.u8.wrap (IntKind.i64.wrap (HSub.hSub (OfNat.ofNat 1) (x1,()).1.2.1)))) (BitVec.ofNat._proof_1 (OfNat.ofNat 8)))))) []))) (S.lit [0,0,0,0,0,0,0,0,0,0,0,0,0,0,0,0,0,0,0,0,0,0,0,0,0,0,0,0,0,0,0,0,0,0,0,0,0,0,0,0,0,0,0,0,0,0,0,0,0,0,0,0,0,0,0,0,0,0,0,0,0,0,0])) []))),()),()))) none) with|none=>none|some v14=>(match (cond (Nat.ble (S.lenA v14.2.1.1) 4000000) (some ((),(((S.app v14.2.1.1 [S.sync]),()),()))) none) with|none=>none|some v15=>(some (v15.2.1.1,(true,())))))))))) none)))))))))))
def qnf(lf:Nat)(x1:qad):Option qnv:=q9l lf x1
theorem ztg(hrz9:ConR Tryz.prog 55 spz9):qa9 Tryz.prog q6b:=⟨qfx hrz9,⟨zh2 (qfx qtk),trivial⟩⟩
theorem znx{g:ElA [qae]->Option qnv}(hsm:SmOK Tryz.prog [(56,qjo),(93,qja),(101,qsm),(54,qxx),(76,qip)])(hrz9:ConR Tryz.prog 55 spz9)(hg:∀(x:ElA [qae]) (y:qnv),WfA [qae] x->g x=some y->∃lf,qnf lf x.1=some y):Con Tryz.prog 88 ⟨[qae],[(true,cAct),(false,.bool)],g⟩ :=
 conU (fi:=fi88) (hxl:=q6b) (fun lf x=>qnf lf x.1) cm3 zdd (ztg hrz9) hsm hg
def qjk:Nat->Option Nm:=fun k=>cond (Nat.beq k 4) (some ⟨[0,1,5],[],[],[],[],0,0,false⟩) (none)
def qlk:Nat->Bool:=fun k=>cond (Nat.beq k 4) true (false)
def qyj:=qlk
abbrev qc6:Type:=Bool × Unit
def q1f:List (Nat × Sm):=[]
def q5i:List (Nat × Hx):=[]
def qur(R:Type)(lf:Nat):ClK R:=qa2 Tryz.prog ttT.get ftT.get (nm1 50 qjk) (smL q1f) (hxL q5i) lf 20 R
abbrev zn5:Nat:=50
def qi7(x1:(List qaa))(x2:(List qaa))(p:Int):NRes:=(NRes.mk (.node (some (IV.lst qac x1)) (.node (some (IV.lst qac x2)) .leaf (.node (some (IV.int .i64 p)) .leaf .leaf)) .leaf) (IS.mk .leaf 0) [] 0)
def qvz(lf:Nat)(x1:(List qaa))(x2:(List qaa))(L4:Int->Option qc6):Option qc6:=(cond (Bool.not (ieqI (Int.ofNat x1.length) (Int.ofNat x2.length))) (some (false,())) (L4 (Int.ofNat 0)))
def qm2(lf:Nat)(x1:(List qaa))(x2:(List qaa))(L4:Int->Option qc6)(p:Int):Option qc6:=(cond (iltI p (Int.ofNat x1.length)) (match (jget x1 p) with|none=>none|some v0=>(match (jget x2 p) with|none=>none|some v1=>(cond (Bool.not (Bool.and (keqI v0.1 v1.1) (Bool.and (keqS v0.2.1 v1.2.1) (Bool.and (keqB v0.2.2 v1.2.2) true)))) (some (false,())) (L4 (IntKind.i64.wrap (Int.add p (Int.ofNat 1))))))) (some (true,())))
abbrev gz15:Type:=ElA [(.list qac),(.list qac)]->Option qc6
abbrev sz15(g:gz15):Sm:=⟨[(.list qac),(.list qac)],[(false,.bool)],g⟩
abbrev Ez15(g:gz15)(J:JT qc6)(lf:Nat)(x1:(List qaa))(x2:(List qaa)):=qbq Tryz.prog ttT.get qjk fi50.nt (qur _ lf) lf qlk J fi50.body [] (qaz (argV [(.list qac),(.list qac)] (x1,x2,())) 0 .leaf) S0 [] (qay ttT.get fi50 (sz15 g))
abbrev Bz15(g:gz15)(J:JT qc6)(lf k:Nat)(ms:List Nat)(q:NRes):=qb1 Tryz.prog ttT.get qjk fi50.nt (qur _ lf) lf qlk J k fi50.body [] ms q (qay ttT.get fi50 (sz15 g))
theorem zc5(g:gz15)(J:JT qc6)(lf:Nat)(x1:(List qaa))(x2:(List qaa)):Ez15 g J lf x1 x2=qvz lf x1 x2 (fun q=>J 4 [lf] (qi7 x1 x2 q)):=by kernel_rfl
theorem zky(g:gz15)(J:JT qc6)(lf:Nat)(x1:(List qaa))(x2:(List qaa))(m1:Nat)(p:Int):Bz15 g J lf 4 [m1] (qi7 x1 x2 p)=qm2 lf x1 x2 (fun q=>J 4 [m1] (qi7 x1 x2 q)) p:=by kernel_rfl
theorem qyn:(regs fi50.body).Nodup:=by decide +kernel
theorem q1k:okC qjk qlk qyj fi50.body none=true:=by kernel_rfl
def Az15(g:gz15)(lf:Nat):JT qc6:=atN Tryz.prog ttT.get qjk fi50 (sz15 g) (qur _ lf) lf qyj
def qre(lf:Nat)(x1:(List qaa))(x2:(List qaa)):Nat->(Int)->Option qc6:=qa1 fun K p=>qm2 lf x1 x2 K p
theorem q4n(g:gz15)(lf:Nat)(x1:(List qaa))(x2:(List qaa)):∀(n:Nat) (p:Int),Az15 g lf 4 [n] (qi7 x1 x2 p)=qre lf x1 x2 n p
 | 0,p=>qbn 4 [0] rfl _
 | n+1,p=>by
  have ih:=q4n g lf x1 x2 n;refine(qbp (qa5 20 _) qyn q1k 4 [n+1] [n] rfl _).trans ((zky g (Az15 g lf) lf x1 x2 n p).trans ?_);rw[(show (fun q=>Az15 g lf 4 [n] (qi7 x1 x2 q))=(fun q=>qre lf x1 x2 n q) from funext ih)];rfl
def Fz15(lf:Nat)(x1:(List qaa))(x2:(List qaa)):Option qc6:=qvz lf x1 x2 (fun q=>qre lf x1 x2 lf q)
theorem zm6(g:gz15)(lf:Nat)(x1:(List qaa))(x2:(List qaa)):Ez15 g (Az15 g lf) lf x1 x2=Fz15 lf x1 x2:=by
  refine(zc5 g (Az15 g lf) lf x1 x2).trans ?_;rw[(show (fun q=>Az15 g lf 4 [lf] (qi7 x1 x2 q))=(fun q=>qre lf x1 x2 lf q) from funext fun q=>q4n g lf x1 x2 lf q)];rfl
theorem zcx:qa9 Tryz.prog q5i:=trivial
theorem zba{g:gz15}(hsm:SmOK Tryz.prog q1f)(hg:∀(x:ElA [(.list qac),(.list qac)]) (y:qc6),WfA [(.list qac),(.list qac)] x->g x=some y->∃lf,Fz15 lf x.1 x.2.1=some y):Con Tryz.prog 50 ⟨[(.list qac),(.list qac)],[(false,.bool)],g⟩ :=
 conV (st:=qlk) (fun lf x=>Fz15 lf x.1 x.2.1) cm3 zf3 zcx qyn q1k (fun lf x=>zm6 g lf x.1 x.2.1) hsm hg
def qk5:Nat->Option Nm:=fun k=>cond (Nat.beq k 4) (some ⟨[2,3,5],[],[],[],[],0,0,false⟩) (cond (Nat.beq k 9) (some ⟨[2,3,6],[],[],[],[],0,0,false⟩) (none))
def qlj:Nat->Bool:=fun k=>cond (Nat.beq k 4) true (cond (Nat.beq k 9) true (false))
def q5o:=qlj
abbrev qb5:Type:=Bool × Unit
def q4a:List (Nat × Sm):=[]
def q5y:List (Nat × Hx):=[]
def qva(R:Type)(lf:Nat):ClK R:=qa2 Tryz.prog ttT.get ftT.get (nm1 36 qk5) (smL q4a) (hxL q5y) lf 20 R
abbrev zbm:Nat:=36
def qiz(x1:qaf)(x2:qaf)(p:Int):NRes:=(NRes.mk (.node none (.node none (.node (some (IV.ptr 1 0)) .leaf .leaf) (.node (some (IV.int .i64 p)) .leaf .leaf)) (.node (some (IV.ptr 0 0)) .leaf .leaf)) (IS.mk (.node (some (IObj.row (List.cons (IV.lst TC.str x1.1) [(IV.lst cPut x1.2)]))) (.node (some (IObj.row (List.cons (IV.lst TC.str x2.1) [(IV.lst cPut x2.2)]))) .leaf .leaf) .leaf) 2) [] 0)
def qhe(x1:qaf)(x2:qaf)(p:Int):NRes:=(NRes.mk (.node none (.node none (.node (some (IV.ptr 1 0)) .leaf .leaf) .leaf) (.node (some (IV.ptr 0 0)) .leaf (.node (some (IV.int .i64 p)) .leaf .leaf))) (IS.mk (.node (some (IObj.row (List.cons (IV.lst TC.str x1.1) [(IV.lst cPut x1.2)]))) (.node (some (IObj.row (List.cons (IV.lst TC.str x2.1) [(IV.lst cPut x2.2)]))) .leaf .leaf) .leaf) 2) [] 0)
def qsi(lf:Nat)(x1:qaf)(x2:qaf)(L4:Int->Option qb5):Option qb5:=(cond (Bool.not (ieqI (Int.ofNat x1.1.length) (Int.ofNat x2.1.length))) (some (false,())) (cond (Bool.not (ieqI (Int.ofNat x1.2.length) (Int.ofNat x2.2.length))) (some (false,())) (L4 (Int.ofNat 0))))
def qoc(lf:Nat)(x1:qaf)(x2:qaf)(L4:Int->Option qb5)(L9:Int->Option qb5)(p:Int):Option qb5:=(cond (iltI p (Int.ofNat x1.1.length)) (match (jget x1.1 p) with|none=>none|some v0=>(match (jget x2.1 p) with|none=>none|some v1=>(cond (Bool.not (keqS v0 v1)) (some (false,())) (L4 (IntKind.i64.wrap (Int.add p (Int.ofNat 1))))))) (L9 (Int.ofNat 0)))
def qnl(lf:Nat)(x1:qaf)(x2:qaf)(L9:Int->Option qb5)(p:Int):Option qb5:=(cond (iltI p (Int.ofNat x1.2.length)) (match (jget x1.2 p) with|none=>none|some v0=>(match (jget x2.2 p) with|none=>none|some v1=>(cond (Bool.not (Bool.and (keqI v0.1 v1.1) (Bool.and (keqS v0.2 v1.2) true))) (some (false,())) (L9 (IntKind.i64.wrap (Int.add p (Int.ofNat 1))))))) (some (true,())))
abbrev gz16:Type:=ElA [qam,qam]->Option qb5
abbrev sz16(g:gz16):Sm:=⟨[qam,qam],[(false,.bool)],g⟩
abbrev Ez16(g:gz16)(J:JT qb5)(lf:Nat)(x1:qaf)(x2:qaf):=qbq Tryz.prog ttT.get qk5 fi36.nt (qva _ lf) lf qlj J fi36.body [] (qaz (argV [qam,qam] (x1,x2,())) 0 .leaf) S0 [] (qay ttT.get fi36 (sz16 g))
abbrev Bz16(g:gz16)(J:JT qb5)(lf k:Nat)(ms:List Nat)(q:NRes):=qb1 Tryz.prog ttT.get qk5 fi36.nt (qva _ lf) lf qlj J k fi36.body [] ms q (qay ttT.get fi36 (sz16 g))
theorem zog(g:gz16)(J:JT qb5)(lf:Nat)(x1:qaf)(x2:qaf):Ez16 g J lf x1 x2=qsi lf x1 x2 (fun q=>J 4 [lf] (qiz x1 x2 q)):=by kernel_rfl
theorem zdm(g:gz16)(J:JT qb5)(lf:Nat)(x1:qaf)(x2:qaf)(m1:Nat)(p:Int):Bz16 g J lf 4 [m1] (qiz x1 x2 p)=qoc lf x1 x2 (fun q=>J 4 [m1] (qiz x1 x2 q)) (fun q=>J 9 [lf] (qhe x1 x2 q)) p:=by kernel_rfl
theorem zpb(g:gz16)(J:JT qb5)(lf:Nat)(x1:qaf)(x2:qaf)(m1:Nat)(p:Int):Bz16 g J lf 9 [m1] (qhe x1 x2 p)=qnl lf x1 x2 (fun q=>J 9 [m1] (qhe x1 x2 q)) p:=by kernel_rfl
theorem qw8:(regs fi36.body).Nodup:=by decide +kernel
theorem qrp:okC qk5 qlj q5o fi36.body none=true:=by kernel_rfl
def Az16(g:gz16)(lf:Nat):JT qb5:=atN Tryz.prog ttT.get qk5 fi36 (sz16 g) (qva _ lf) lf q5o
def qjq(lf:Nat)(x1:qaf)(x2:qaf):Nat->(Int)->Option qb5:=qa1 fun K p=>qnl lf x1 x2 K p
theorem q42(g:gz16)(lf:Nat)(x1:qaf)(x2:qaf):∀(n:Nat) (p:Int),Az16 g lf 9 [n] (qhe x1 x2 p)=qjq lf x1 x2 n p
 | 0,p=>qbn 9 [0] rfl _
 | n+1,p=>by
  have ih:=q42 g lf x1 x2 n;refine(qbp (qa5 20 _) qw8 qrp 9 [n+1] [n] rfl _).trans ((zpb g (Az16 g lf) lf x1 x2 n p).trans ?_);rw[(show (fun q=>Az16 g lf 9 [n] (qhe x1 x2 q))=(fun q=>qjq lf x1 x2 n q) from funext ih)];rfl
def qqg(lf:Nat)(x1:qaf)(x2:qaf):Nat->(Int)->Option qb5:=qa1 fun K p=>qoc lf x1 x2 K (fun q=>qjq lf x1 x2 lf q) p
theorem qz2(g:gz16)(lf:Nat)(x1:qaf)(x2:qaf):∀(n:Nat) (p:Int),Az16 g lf 4 [n] (qiz x1 x2 p)=qqg lf x1 x2 n p
 | 0,p=>qbn 4 [0] rfl _
 | n+1,p=>by
  have ih:=qz2 g lf x1 x2 n;refine(qbp (qa5 20 _) qw8 qrp 4 [n+1] [n] rfl _).trans ((zdm g (Az16 g lf) lf x1 x2 n p).trans ?_);rw[(show (fun q=>Az16 g lf 9 [lf] (qhe x1 x2 q))=(fun q=>qjq lf x1 x2 lf q) from funext fun q=>q42 g lf x1 x2 lf q),(show (fun q=>Az16 g lf 4 [n] (qiz x1 x2 q))=(fun q=>qqg lf x1 x2 n q) from funext ih)];rfl
def Fz16(lf:Nat)(x1:qaf)(x2:qaf):Option qb5:=qsi lf x1 x2 (fun q=>qqg lf x1 x2 lf q)
theorem zdz(g:gz16)(lf:Nat)(x1:qaf)(x2:qaf):Ez16 g (Az16 g lf) lf x1 x2=Fz16 lf x1 x2:=by
  refine(zog g (Az16 g lf) lf x1 x2).trans ?_;rw[(show (fun q=>Az16 g lf 4 [lf] (qiz x1 x2 q))=(fun q=>qqg lf x1 x2 lf q) from funext fun q=>qz2 g lf x1 x2 lf q)];rfl
theorem zjd:qa9 Tryz.prog q5y:=trivial
theorem zkk{g:gz16}(hsm:SmOK Tryz.prog q4a)(hg:∀(x:ElA [qam,qam]) (y:qb5),WfA [qam,qam] x->g x=some y->∃lf,Fz16 lf x.1 x.2.1=some y):Con Tryz.prog 36 ⟨[qam,qam],[(false,.bool)],g⟩ :=
 conV (st:=qlj) (fun lf x=>Fz16 lf x.1 x.2.1) cm3 zfc zjd qw8 qrp (fun lf x=>zdz g lf x.1 x.2.1) hsm hg
abbrev qm6:Type:=Bool × Unit
abbrev zmv:Nat:=16
def q4h(lf:Nat)(x1:qad)(x2:qad):Option qm6:=(cond (ieqI x1.2.1 x2.2.1) (cond (ieqI x1.2.2.1 x2.2.2.1) (cond (S.sameD (x1.1.1,x1.1.2) (x2.1.1,x2.1.2)) (some ((S.sameC x1.2.2.2 x2.2.2.2),())) (some (false,()))) (some (false,()))) (some (false,())))
def qos(lf:Nat)(x1:qad)(x2:qad):Option qm6:=q4h lf x1 x2
theorem znk{g:ElA [qae,qae]->Option qm6}(hsm:SmOK Tryz.prog [(36,q0c),(50,quh)])(hg:∀(x:ElA [qae,qae]) (y:qm6),WfA [qae,qae] x->g x=some y->∃lf,qos lf x.1 x.2.1=some y):Con Tryz.prog 16 ⟨[qae,qae],[(false,.bool)],g⟩ :=
 conU (fi:=fi16) (hxl:=[]) (fun lf x=>qos lf x.1 x.2.1) cm3 zjy trivial hsm hg
def qkq:Nat->Option Nm:=fun k=>cond (Nat.beq k 2) (some ⟨[0,4],[(4,qac)],[],[],[],0,0,false⟩) (none)
def qj1:Nat->Bool:=fun k=>cond (Nat.beq k 2) true (false)
def q7i:=qj1
abbrev qdd:Type:=(List qaa) × Bool × Unit
def qy6:List (Nat × Sm):=[]
def q1v:List (Nat × Hx):=[]
def qse(R:Type)(lf:Nat):ClK R:=qa2 Tryz.prog ttT.get ftT.get (nm1 121 qkq) (smL qy6) (hxL q1v) lf 20 R
abbrev zq4:Nat:=121
def qi2(x1:ByteArray)(p:ByteArray × (List qaa)):NRes:=(NRes.mk (.node (some (IV.str p.1)) .leaf (.node none (.node (some (IV.arr 0)) .leaf .leaf) .leaf)) (IS.mk (.node (some (IObj.arr qac p.2)) .leaf .leaf) 1) [] 0)
def qvd(lf:Nat)(x1:ByteArray)(L2:(ByteArray × (List qaa))->Option qdd):Option qdd:=(L2 (x1,[]))
def qmy(lf:Nat)(x1:ByteArray)(L2:(ByteArray × (List qaa))->Option qdd)(p:ByteArray × (List qaa)):Option qdd:=(cond (iltI (Int.ofNat 0) (Int.ofNat p.1.size)) (cond (iltI (Int.ofNat p.1.size) (Int.ofNat 3)) (some ([],(false,()))) (match (jget (qab p.1) (Int.ofNat 0)) with|none=>none|some v0=>(match (jget (qab p.1) (Int.ofNat 1)) with|none=>none|some v1=>(match (jget (qab p.1) (Int.ofNat 2)) with|none=>none|some v2=>(cond (lchk (Int.ofNat 3) (Int.ofNat p.1.size) (Int.ofNat p.1.size) (Int.ofNat p.1.size)) (cond (iltI (Int.ofNat 199) (IntKind.i64.wrap v0)) (some ([],(false,()))) (cond (iltI (Int.ofNat 0) (Int.ofNat p.2.length)) (match (jget p.2 (IntKind.i64.wrap (Int.sub (Int.ofNat p.2.length) (Int.ofNat 1)))) with|none=>none|some v3=>(match (GetElem?.getElem? p.2 (Int.toNat (IntKind.i64.wrap (Int.sub (Int.ofNat p.2.length) (Int.ofNat 1))))) with|none=>none|some v4=>(cond (Bool.not (iltI v4.1 (IntKind.i64.wrap v0))) (some ([],(false,()))) (cond (iltI (IntKind.i64.wrap (Int.ofNat (Nat.add (ByteArray.size (ByteArray.extract p.1 3 (Int.toNat (Int.ofNat p.1.size)))) 1))) (IntKind.i64.wrap (Int.add (IntKind.i64.wrap (Int.mul (IntKind.i64.wrap v1) (Int.ofNat 256))) (IntKind.i64.wrap v2)))) (some ([],(false,()))) (cond (iltI (Int.ofNat 4001) (IntKind.i64.wrap (Int.add (IntKind.i64.wrap (Int.mul (IntKind.i64.wrap v1) (Int.ofNat 256))) (IntKind.i64.wrap v2)))) (some ([],(false,()))) (cond (ieqI (IntKind.i64.wrap (Int.add (IntKind.i64.wrap (Int.mul (IntKind.i64.wrap v1) (Int.ofNat 256))) (IntKind.i64.wrap v2))) (Int.ofNat 0)) (cond (Nat.ble (Nat.mul (Nat.add p.2.length 1) 32) 140737488355328) (L2 ((ByteArray.extract p.1 3 (Int.toNat (Int.ofNat p.1.size))),(List.append p.2 (List.cons ((IntKind.i64.wrap v0),((S.lit []),true)) [])))) none) (cond (lchk (Int.ofNat 0) (IntKind.i64.wrap (Int.sub (IntKind.i64.wrap (Int.add (IntKind.i64.wrap (Int.mul (IntKind.i64.wrap v1) (Int.ofNat 256))) (IntKind.i64.wrap v2))) (Int.ofNat 1))) (Int.ofNat (ByteArray.size (ByteArray.extract p.1 3 (Int.toNat (Int.ofNat p.1.size))))) (Int.ofNat (ByteArray.size (ByteArray.extract p.1 3 (Int.toNat (Int.ofNat p.1.size)))))) (cond (lchk (IntKind.i64.wrap (Int.sub (IntKind.i64.wrap (Int.add (IntKind.i64.wrap (Int.mul (IntKind.i64.wrap v1) (Int.ofNat 256))) (IntKind.i64.wrap v2))) (Int.ofNat 1))) (Int.ofNat (ByteArray.size (ByteArray.extract p.1 3 (Int.toNat (Int.ofNat p.1.size))))) (Int.ofNat (ByteArray.size (ByteArray.extract p.1 3 (Int.toNat (Int.ofNat p.1.size))))) (Int.ofNat (ByteArray.size (ByteArray.extract p.1 3 (Int.toNat (Int.ofNat p.1.size)))))) (cond (Nat.ble (Nat.mul (Nat.add p.2.length 1) 32) 140737488355328) (L2 ((ByteArray.extract (ByteArray.extract p.1 3 (Int.toNat (Int.ofNat p.1.size))) (Int.toNat (IntKind.i64.wrap (Int.sub (IntKind.i64.wrap (Int.add (IntKind.i64.wrap (Int.mul (IntKind.i64.wrap v1) (Int.ofNat 256))) (IntKind.i64.wrap v2))) (Int.ofNat 1)))) (Int.toNat (Int.ofNat (ByteArray.size (ByteArray.extract p.1 3 (Int.toNat (Int.ofNat p.1.size))))))),(List.append p.2 (List.cons ((IntKind.i64.wrap v0),((ByteArray.extract (ByteArray.extract p.1 3 (Int.toNat (Int.ofNat p.1.size))) 0 (Int.toNat (IntKind.i64.wrap (Int.sub (IntKind.i64.wrap (Int.add (IntKind.i64.wrap (Int.mul (IntKind.i64.wrap v1) (Int.ofNat 256))) (IntKind.i64.wrap v2))) (Int.ofNat 1))))),false)) [])))) none) none) none))))))) (cond (iltI (IntKind.i64.wrap (Int.ofNat (Nat.add (ByteArray.size (ByteArray.extract p.1 3 (Int.toNat (Int.ofNat p.1.size)))) 1))) (IntKind.i64.wrap (Int.add (IntKind.i64.wrap (Int.mul (IntKind.i64.wrap v1) (Int.ofNat 256))) (IntKind.i64.wrap v2)))) (some ([],(false,()))) (cond (iltI (Int.ofNat 4001) (IntKind.i64.wrap (Int.add (IntKind.i64.wrap (Int.mul (IntKind.i64.wrap v1) (Int.ofNat 256))) (IntKind.i64.wrap v2)))) (some ([],(false,()))) (cond (ieqI (IntKind.i64.wrap (Int.add (IntKind.i64.wrap (Int.mul (IntKind.i64.wrap v1) (Int.ofNat 256))) (IntKind.i64.wrap v2))) (Int.ofNat 0)) (cond (Nat.ble (Nat.mul (Nat.add p.2.length 1) 32) 140737488355328) (L2 ((ByteArray.extract p.1 3 (Int.toNat (Int.ofNat p.1.size))),(List.append p.2 (List.cons ((IntKind.i64.wrap v0),((S.lit []),true)) [])))) none) (cond (lchk (Int.ofNat 0) (IntKind.i64.wrap (Int.sub (IntKind.i64.wrap (Int.add (IntKind.i64.wrap (Int.mul (IntKind.i64.wrap v1) (Int.ofNat 256))) (IntKind.i64.wrap v2))) (Int.ofNat 1))) (Int.ofNat (ByteArray.size (ByteArray.extract p.1 3 (Int.toNat (Int.ofNat p.1.size))))) (Int.ofNat (ByteArray.size (ByteArray.extract p.1 3 (Int.toNat (Int.ofNat p.1.size)))))) (cond (lchk (IntKind.i64.wrap (Int.sub (IntKind.i64.wrap (Int.add (IntKind.i64.wrap (Int.mul (IntKind.i64.wrap v1) (Int.ofNat 256))) (IntKind.i64.wrap v2))) (Int.ofNat 1))) (Int.ofNat (ByteArray.size (ByteArray.extract p.1 3 (Int.toNat (Int.ofNat p.1.size))))) (Int.ofNat (ByteArray.size (ByteArray.extract p.1 3 (Int.toNat (Int.ofNat p.1.size))))) (Int.ofNat (ByteArray.size (ByteArray.extract p.1 3 (Int.toNat (Int.ofNat p.1.size)))))) (cond (Nat.ble (Nat.mul (Nat.add p.2.length 1) 32) 140737488355328) (L2 ((ByteArray.extract (ByteArray.extract p.1 3 (Int.toNat (Int.ofNat p.1.size))) (Int.toNat (IntKind.i64.wrap (Int.sub (IntKind.i64.wrap (Int.add (IntKind.i64.wrap (Int.mul (IntKind.i64.wrap v1) (Int.ofNat 256))) (IntKind.i64.wrap v2))) (Int.ofNat 1)))) (Int.toNat (Int.ofNat (ByteArray.size (ByteArray.extract p.1 3 (Int.toNat (Int.ofNat p.1.size))))))),(List.append p.2 (List.cons ((IntKind.i64.wrap v0),((ByteArray.extract (ByteArray.extract p.1 3 (Int.toNat (Int.ofNat p.1.size))) 0 (Int.toNat (IntKind.i64.wrap (Int.sub (IntKind.i64.wrap (Int.add (IntKind.i64.wrap (Int.mul (IntKind.i64.wrap v1) (Int.ofNat 256))) (IntKind.i64.wrap v2))) (Int.ofNat 1))))),false)) [])))) none) none) none)))))) none))))) (some (p.2,(true,()))))
abbrev gz17:Type:=ElA [.str]->Option qdd
abbrev sz17(g:gz17):Sm:=⟨[.str],[(true,qac),(false,.bool)],g⟩
abbrev Ez17(g:gz17)(J:JT qdd)(lf:Nat)(x1:ByteArray):=qbq Tryz.prog ttT.get qkq qd1.nt (qse _ lf) lf qj1 J qd1.body [] (qaz (argV [.str] (x1,())) 0 .leaf) S0 [] (qay ttT.get qd1 (sz17 g))
abbrev Bz17(g:gz17)(J:JT qdd)(lf k:Nat)(ms:List Nat)(q:NRes):=qb1 Tryz.prog ttT.get qkq qd1.nt (qse _ lf) lf qj1 J k qd1.body [] ms q (qay ttT.get qd1 (sz17 g))
theorem zsq(g:gz17)(J:JT qdd)(lf:Nat)(x1:ByteArray):Ez17 g J lf x1=qvd lf x1 (fun q=>J 2 [lf] (qi2 x1 q)):=by kernel_rfl
theorem q93(g:gz17)(J:JT qdd)(lf:Nat)(x1:ByteArray)(m1:Nat)(p:ByteArray × (List qaa)):Bz17 g J lf 2 [m1] (qi2 x1 p)=qmy lf x1 (fun q=>J 2 [m1] (qi2 x1 q)) p:=by kernel_rfl
theorem qy8:(regs qd1.body).Nodup:=by decide +kernel
theorem qx4:okC qkq qj1 q7i qd1.body none=true:=by kernel_rfl
def Az17(g:gz17)(lf:Nat):JT qdd:=atN Tryz.prog ttT.get qkq qd1 (sz17 g) (qse _ lf) lf q7i
def qi8(lf:Nat)(x1:ByteArray):Nat->(ByteArray × (List qaa))->Option qdd:=qa1 fun K p=>qmy lf x1 K p
theorem qxv(g:gz17)(lf:Nat)(x1:ByteArray):∀(n:Nat) (p:ByteArray × (List qaa)),Az17 g lf 2 [n] (qi2 x1 p)=qi8 lf x1 n p
 | 0,p=>qbn 2 [0] rfl _
 | n+1,p=>by
  have ih:=qxv g lf x1 n;refine(qbp (qa5 20 _) qy8 qx4 2 [n+1] [n] rfl _).trans ((q93 g (Az17 g lf) lf x1 n p).trans ?_);rw[(show (fun q=>Az17 g lf 2 [n] (qi2 x1 q))=(fun q=>qi8 lf x1 n q) from funext ih)];rfl
def Fz17(lf:Nat)(x1:ByteArray):Option qdd:=qvd lf x1 (fun q=>qi8 lf x1 lf q)
theorem zfs(g:gz17)(lf:Nat)(x1:ByteArray):Ez17 g (Az17 g lf) lf x1=Fz17 lf x1:=by
  refine(zsq g (Az17 g lf) lf x1).trans ?_;rw[(show (fun q=>Az17 g lf 2 [lf] (qi2 x1 q))=(fun q=>qi8 lf x1 lf q) from funext fun q=>qxv g lf x1 lf q)];rfl
theorem zio:qa9 Tryz.prog q1v:=trivial
theorem zkv{g:gz17}(hsm:SmOK Tryz.prog qy6)(hg:∀(x:ElA [.str]) (y:qdd),WfA [.str] x->g x=some y->∃lf,Fz17 lf x.1=some y):Con Tryz.prog 121 ⟨[.str],[(true,qac),(false,.bool)],g⟩ :=
 conV (st:=qj1) (fun lf x=>Fz17 lf x.1) cm3 zdg zio qy8 qx4 (fun lf x=>zfs g lf x.1) hsm hg
def qmd:Nat->Option Nm:=fun k=>cond (Nat.beq k 8) (some ⟨[2,4,5,6,46,47,48],[],[],[],[],0,0,false⟩) (cond (Nat.beq k 14) (some ⟨[2,5,6,9,10,11],[(9,qac)],[],[],[],0,0,false⟩) (none))
def qlh:Nat->Bool:=fun k=>cond (Nat.beq k 8) true (cond (Nat.beq k 14) true (false))
def q2v:=qlh
abbrev qbv:Type:=qfv × Unit
def q19:List (Nat × Sm):=[(121,qyz)]
def q7e:List (Nat × Hx):=[]
def qso(R:Type)(lf:Nat):ClK R:=qa2 Tryz.prog ttT.get ftT.get (nm1 112 qmd) (smL q19) (hxL q7e) lf 20 R
abbrev zfd:Nat:=112
def qhh(x1:(List ByteArray))(p:Int × Int × ByteArray):NRes:=(NRes.mk (.node none (.node none (.node none (.node none (.node none .leaf (.node (some (IV.int .i64 (Int.ofNat (List.length (lsub x1 (Int.ofNat 0) (IntKind.i64.wrap (Int.tdiv (IntKind.i64.wrap (Int.sub (IntKind.i64.wrap (Int.add (IntKind.i64.wrap (Int.add p.1 (Int.ofNat 4))) (Int.ofNat 64))) (Int.ofNat 1))) (Int.ofNat 64)))))))) .leaf .leaf)) .leaf) .leaf) (.node (some (IV.int .i64 (IntKind.i64.wrap (Int.tdiv (IntKind.i64.wrap (Int.sub (IntKind.i64.wrap (Int.add (IntKind.i64.wrap (Int.add p.1 (Int.ofNat 4))) (Int.ofNat 64))) (Int.ofNat 1))) (Int.ofNat 64))))) .leaf .leaf)) (.node (some (IV.ptr 0 0)) (.node (some (IV.int .i64 p.1)) (.node none (.node none .leaf (.node (some (IV.int .i64 p.2.1)) .leaf .leaf)) .leaf) .leaf) (.node (some (IV.str p.2.2)) .leaf (.node none .leaf (.node none (.node (some (IV.lst TC.str (lsub x1 (Int.ofNat 0) (IntKind.i64.wrap (Int.tdiv (IntKind.i64.wrap (Int.sub (IntKind.i64.wrap (Int.add (IntKind.i64.wrap (Int.add p.1 (Int.ofNat 4))) (Int.ofNat 64))) (Int.ofNat 1))) (Int.ofNat 64)))))) .leaf .leaf) .leaf))))) (IS.mk (.node (some (IObj.row (List.cons IV.nilsl (List.cons (IV.int .i64 (Int.ofNat 0)) [(IV.bool false)])))) .leaf .leaf) 1) [] 0)
def qh0(x1:(List ByteArray))(p:(List qaa) × Bool × Int × Int × ByteArray):NRes:=(NRes.mk (.node none (.node none (.node none .leaf (.node (some (IV.int .i64 p.2.2.1)) .leaf .leaf)) (.node (some (IV.int .i64 p.2.2.2.1)) (.node (some (IV.arr 1)) .leaf .leaf) .leaf)) (.node (some (IV.ptr 0 0)) .leaf (.node (some (IV.str p.2.2.2.2)) (.node (some (IV.bool p.2.1)) .leaf .leaf) .leaf))) (IS.mk (.node (some (IObj.row (List.cons IV.nilsl (List.cons (IV.int .i64 (Int.ofNat 0)) [(IV.bool false)])))) (.node (some (IObj.arr qac p.1)) .leaf .leaf) .leaf) 2) [] 0)
def qwa(lf:Nat)(x1:(List ByteArray))(L8:(Int × Int × ByteArray)->Option qbv):Option qbv:=(match (jget x1 (Int.ofNat 0)) with|none=>none|some v0=>(match (jget (qab v0) (Int.ofNat 1)) with|none=>none|some v1=>(match (jget (qab v0) (Int.ofNat 2)) with|none=>none|some v2=>(match (jget (qab v0) (Int.ofNat 3)) with|none=>none|some v3=>(match (jget (qab v0) (Int.ofNat 0)) with|none=>none|some v4=>(cond (Bool.not (ieqI v4 (Int.ofNat 1))) (some (([],((Int.ofNat 0),true)),())) (cond (iltI (Int.ofNat x1.length) (IntKind.i64.wrap (Int.tdiv (IntKind.i64.wrap (Int.sub (IntKind.i64.wrap (Int.add (IntKind.i64.wrap (Int.add (IntKind.i64.wrap (Int.add (IntKind.i64.wrap (Int.add (IntKind.i64.wrap (Int.mul (IntKind.i64.wrap v1) (Int.ofNat 65536))) (IntKind.i64.wrap (Int.mul (IntKind.i64.wrap v2) (Int.ofNat 256))))) (IntKind.i64.wrap v3))) (Int.ofNat 4))) (Int.ofNat 64))) (Int.ofNat 1))) (Int.ofNat 64)))) (some (([],((Int.ofNat 0),true)),())) (cond (lchk (Int.ofNat 0) (IntKind.i64.wrap (Int.tdiv (IntKind.i64.wrap (Int.sub (IntKind.i64.wrap (Int.add (IntKind.i64.wrap (Int.add (IntKind.i64.wrap (Int.add (IntKind.i64.wrap (Int.add (IntKind.i64.wrap (Int.mul (IntKind.i64.wrap v1) (Int.ofNat 65536))) (IntKind.i64.wrap (Int.mul (IntKind.i64.wrap v2) (Int.ofNat 256))))) (IntKind.i64.wrap v3))) (Int.ofNat 4))) (Int.ofNat 64))) (Int.ofNat 1))) (Int.ofNat 64))) (IntKind.i64.wrap (Int.tdiv (IntKind.i64.wrap (Int.sub (IntKind.i64.wrap (Int.add (IntKind.i64.wrap (Int.add (IntKind.i64.wrap (Int.add (IntKind.i64.wrap (Int.add (IntKind.i64.wrap (Int.mul (IntKind.i64.wrap v1) (Int.ofNat 65536))) (IntKind.i64.wrap (Int.mul (IntKind.i64.wrap v2) (Int.ofNat 256))))) (IntKind.i64.wrap v3))) (Int.ofNat 4))) (Int.ofNat 64))) (Int.ofNat 1))) (Int.ofNat 64))) (Int.ofNat x1.length)) (L8 ((IntKind.i64.wrap (Int.add (IntKind.i64.wrap (Int.add (IntKind.i64.wrap (Int.mul (IntKind.i64.wrap v1) (Int.ofNat 65536))) (IntKind.i64.wrap (Int.mul (IntKind.i64.wrap v2) (Int.ofNat 256))))) (IntKind.i64.wrap v3))),(Int.ofNat 0),(S.lit []))) none))))))))
def qli(lf:Nat)(x1:(List ByteArray))(L8:(Int × Int × ByteArray)->Option qbv)(L14:((List qaa) × Bool × Int × Int × ByteArray)->Option qbv)(p:Int × Int × ByteArray):Option qbv:=(cond (iltI p.2.1 (Int.ofNat (List.length (lsub x1 (Int.ofNat 0) (IntKind.i64.wrap (Int.tdiv (IntKind.i64.wrap (Int.sub (IntKind.i64.wrap (Int.add (IntKind.i64.wrap (Int.add p.1 (Int.ofNat 4))) (Int.ofNat 64))) (Int.ofNat 1))) (Int.ofNat 64))))))) (match (jget (lsub x1 (Int.ofNat 0) (IntKind.i64.wrap (Int.tdiv (IntKind.i64.wrap (Int.sub (IntKind.i64.wrap (Int.add (IntKind.i64.wrap (Int.add p.1 (Int.ofNat 4))) (Int.ofNat 64))) (Int.ofNat 1))) (Int.ofNat 64)))) p.2.1) with|none=>none|some v0=>(cond (Nat.ble (Nat.succ (Nat.add p.2.2.size v0.size)) 9223372036854775808) (L8 (p.1,(IntKind.i64.wrap (Int.add p.2.1 (Int.ofNat 1))),(ByteArray.append p.2.2 v0))) none)) (cond (lchk (Int.ofNat 4) (IntKind.i64.wrap (Int.add (Int.ofNat 4) p.1)) (Int.ofNat p.2.2.size) (Int.ofNat p.2.2.size)) (match (cond (Nat.ble (ByteArray.size (ByteArray.extract p.2.2 4 (Int.toNat (IntKind.i64.wrap (Int.add (Int.ofNat 4) p.1))))) 1000000) (some ((S.chg (ByteArray.extract p.2.2 4 (Int.toNat (IntKind.i64.wrap (Int.add (Int.ofNat 4) p.1))))).1,((S.chg (ByteArray.extract p.2.2 4 (Int.toNat (IntKind.i64.wrap (Int.add (Int.ofNat 4) p.1))))).2,()))) none) with|none=>none|some v127=>(L14 (v127.1,v127.2.1,(IntKind.i64.wrap (Int.add (Int.ofNat 4) p.1)),(IntKind.i64.wrap (Int.tdiv (IntKind.i64.wrap (Int.sub (IntKind.i64.wrap (Int.add (IntKind.i64.wrap (Int.add p.1 (Int.ofNat 4))) (Int.ofNat 64))) (Int.ofNat 1))) (Int.ofNat 64))),p.2.2))) none))
def qha(lf:Nat)(x1:(List ByteArray))(L14:((List qaa) × Bool × Int × Int × ByteArray)->Option qbv)(p:(List qaa) × Bool × Int × Int × ByteArray):Option qbv:=(cond (iltI p.2.2.1 (Int.ofNat p.2.2.2.2.size)) (cond p.2.1 (match (jget (qab p.2.2.2.2) p.2.2.1) with|none=>none|some v0=>(L14 (p.1,(ieqI v0 (Int.ofNat 0)),(IntKind.i64.wrap (Int.add p.2.2.1 (Int.ofNat 1))),p.2.2.2.1,p.2.2.2.2))) (L14 (p.1,false,(IntKind.i64.wrap (Int.add p.2.2.1 (Int.ofNat 1))),p.2.2.2.1,p.2.2.2.2))) (some ((p.1,(p.2.2.2.1,(Bool.not p.2.1))),())))
abbrev gz18:Type:=ElA [(.list .str)]->Option qbv
abbrev sz18(g:gz18):Sm:=⟨[(.list .str)],[(false,cKeepRecord)],g⟩
abbrev Ez18(g:gz18)(J:JT qbv)(lf:Nat)(x1:(List ByteArray)):=qbq Tryz.prog ttT.get qmd qdw.nt (qso _ lf) lf qlh J qdw.body [] (qaz (argV [(.list .str)] (x1,())) 0 .leaf) S0 [] (qay ttT.get qdw (sz18 g))
abbrev Bz18(g:gz18)(J:JT qbv)(lf k:Nat)(ms:List Nat)(q:NRes):=qb1 Tryz.prog ttT.get qmd qdw.nt (qso _ lf) lf qlh J k qdw.body [] ms q (qay ttT.get qdw (sz18 g))
theorem zlj(g:gz18)(J:JT qbv)(lf:Nat)(x1:(List ByteArray)):Ez18 g J lf x1=qwa lf x1 (fun q=>J 8 [lf] (qhh x1 q)):=by kernel_rfl
theorem zdo(g:gz18)(J:JT qbv)(lf:Nat)(x1:(List ByteArray))(m1:Nat)(p:Int × Int × ByteArray):Bz18 g J lf 8 [m1] (qhh x1 p)=qli lf x1 (fun q=>J 8 [m1] (qhh x1 q)) (fun q=>J 14 [lf] (qh0 x1 q)) p:=by kernel_rfl
theorem zav(g:gz18)(J:JT qbv)(lf:Nat)(x1:(List ByteArray))(m1:Nat)(p:(List qaa) × Bool × Int × Int × ByteArray):Bz18 g J lf 14 [m1] (qh0 x1 p)=qha lf x1 (fun q=>J 14 [m1] (qh0 x1 q)) p:=by kernel_rfl
theorem qv6:(regs qdw.body).Nodup:=by decide +kernel
theorem qsk:okC qmd qlh q2v qdw.body none=true:=by kernel_rfl
def Az18(g:gz18)(lf:Nat):JT qbv:=atN Tryz.prog ttT.get qmd qdw (sz18 g) (qso _ lf) lf q2v
def qe8(lf:Nat)(x1:(List ByteArray)):Nat->((List qaa) × Bool × Int × Int × ByteArray)->Option qbv:=qa1 fun K p=>qha lf x1 K p
theorem qys(g:gz18)(lf:Nat)(x1:(List ByteArray)):∀(n:Nat) (p:(List qaa) × Bool × Int × Int × ByteArray),Az18 g lf 14 [n] (qh0 x1 p)=qe8 lf x1 n p
 | 0,p=>qbn 14 [0] rfl _
 | n+1,p=>by
  have ih:=qys g lf x1 n;refine(qbp (qa5 20 _) qv6 qsk 14 [n+1] [n] rfl _).trans ((zav g (Az18 g lf) lf x1 n p).trans ?_);rw[(show (fun q=>Az18 g lf 14 [n] (qh0 x1 q))=(fun q=>qe8 lf x1 n q) from funext ih)];rfl
def qnj(lf:Nat)(x1:(List ByteArray)):Nat->(Int × Int × ByteArray)->Option qbv:=qa1 fun K p=>qli lf x1 K (fun q=>qe8 lf x1 lf q) p
theorem q6t(g:gz18)(lf:Nat)(x1:(List ByteArray)):∀(n:Nat) (p:Int × Int × ByteArray),Az18 g lf 8 [n] (qhh x1 p)=qnj lf x1 n p
 | 0,p=>qbn 8 [0] rfl _
 | n+1,p=>by
  have ih:=q6t g lf x1 n;refine(qbp (qa5 20 _) qv6 qsk 8 [n+1] [n] rfl _).trans ((zdo g (Az18 g lf) lf x1 n p).trans ?_);rw[(show (fun q=>Az18 g lf 14 [lf] (qh0 x1 q))=(fun q=>qe8 lf x1 lf q) from funext fun q=>qys g lf x1 lf q),(show (fun q=>Az18 g lf 8 [n] (qhh x1 q))=(fun q=>qnj lf x1 n q) from funext ih)];rfl
def Fz18(lf:Nat)(x1:(List ByteArray)):Option qbv:=qwa lf x1 (fun q=>qnj lf x1 lf q)
theorem zpc(g:gz18)(lf:Nat)(x1:(List ByteArray)):Ez18 g (Az18 g lf) lf x1=Fz18 lf x1:=by
  refine(zlj g (Az18 g lf) lf x1).trans ?_;rw[(show (fun q=>Az18 g lf 8 [lf] (qhh x1 q))=(fun q=>qnj lf x1 lf q) from funext fun q=>q6t g lf x1 lf q)];rfl
theorem zte:qa9 Tryz.prog q7e:=trivial
theorem zf8{g:gz18}(hsm:SmOK Tryz.prog q19)(hg:∀(x:ElA [(.list .str)]) (y:qbv),WfA [(.list .str)] x->g x=some y->∃lf,Fz18 lf x.1=some y):Con Tryz.prog 112 ⟨[(.list .str)],[(false,cKeepRecord)],g⟩ :=
 conV (st:=qlh) (fun lf x=>Fz18 lf x.1) cm3 qz9 zte qv6 qsk (fun lf x=>zpc g lf x.1) hsm hg
def qgj(out:List qaa):Int:=(out.getLast?.map (·.1)).getD (-1)
theorem qu1(out:List qaa)(c:qaa):qgj (out++[c])=c.1:=by simp[qgj]
theorem zkl{R:Type}{out:List qaa}{k:Int}(hk:0<=k)(hl:out.length<1000000000)(N T:Option R) :
  cond (iltI (Int.ofNat 0) (Int.ofNat out.length)) (match jget out (IntKind.i64.wrap (Int.sub (Int.ofNat out.length) (Int.ofNat 1))) with
   | none=>none
   | some v3=>match out[Int.toNat (IntKind.i64.wrap (Int.sub (Int.ofNat out.length) (Int.ofNat 1)))]? with
    | none=>none
    | some v4=>cond (!iltI v4.1 k) N T) T=cond (decide (k<=qgj out)) N T:=by
 rcases List.eq_nil_or_concat out with rfl|⟨o,c,rfl⟩
 ·have:decide (k<=qgj [])=false:=jap (by show ¬k<=-1;omega);rw[this];rfl
 ·rw[List.concat_eq_append] at *;have hlen:(o++[c]).length=o.length+1:=by simp
  rw[hlen] at hl ⊢;have e:IntKind.i64.wrap (Int.sub (Int.ofNat (o.length+1)) (Int.ofNat 1))=Int.ofNat o.length:=by
   have:Int.sub (Int.ofNat (o.length+1)) (Int.ofNat 1)=Int.ofNat o.length:=by
    show ((o.length+1:Nat):Int)-1=(o.length:Int);omega
   rw[this];exact qbz (by omega)
  rw[e,qdt];have h1:(o++[c])[o.length]?=some c:=by simp
  have h2:(o++[c])[Int.toNat (Int.ofNat o.length)]?=some c:=h1;rw[h1,h2,qce,jak (by omega),jaa,qu1];show cond (!iltI c.1 k) N T=_;rw[qbc,qtj]
def chgR(out:List qaa):Option (List qaa)->List qaa × Bool
 | some l=>(out++l,true)
 | none=>([],false)
theorem qud(x1:ByteArray):∀(f F:Nat) (r:List Int) (out:List qaa),rng r->r.length<f->f<=F->out.length+r.length<=3000000->qi8 LF x1 F (qag r,out)=some ((chgR out (S.changes f r (qgj out))).1,(chgR out (S.changes f r (qgj out))).2,())
 | 0,_,r,out,hr,hf,hF,ho=>by omega
 | f+1,0,r,out,hr,hf,hF,ho=>by omega
 | f+1,F+1,r,out,hr,hf,hF,ho=>by
  show qmy LF x1 (qi8 LF x1 F) _=_;simp only[qmy,qb4 hr,qbh];rcases r with _|⟨k,_|⟨a,_|⟨b,r⟩⟩⟩
  ·show some (out,true,())=some (out++[],true,());rw[jbl]
  ·rfl
  ·rfl
  ·have hk:=hr k (by simp);have ha:=hr a (by simp);have hb:=hr b (by simp);have hr':rng r:=fun x hx=>hr x (by simp[hx]);have hlen:(k::a::b::r).length=r.length+3:=rfl;rw[hlen] at hf ho;have l1:lchk (Int.ofNat 3) (Int.ofNat (k::a::b::r).length) (Int.ofNat (k::a::b::r).length) (Int.ofNat (k::a::b::r).length)=true:=qb3.2 ⟨by decide,by show (3:Int)<=((r.length+3:Nat):Int);omega,jbr _,jbr _⟩;have he:ByteArray.extract (qag (k::a::b::r)) 3 (Int.toNat (Int.ofNat (k::a::b::r).length))=qag r:=qjl hr 3;have wk:IntKind.i64.wrap k=k:=wrap_in (by omega);have wn:IntKind.i64.wrap (Int.add (IntKind.i64.wrap (Int.mul (IntKind.i64.wrap a) (Int.ofNat 256))) (IntKind.i64.wrap b))=a*256+b:=by
    rw[wrap_in (n:=a) (by omega),wrap_in (n:=b) (by omega),wrap_in (n:=Int.mul a (Int.ofNat 256)) (by show -_<=a*256/\a*256<_;omega)];exact wrap_in (by show -_<=a*256+b/\a*256+b<_;omega)
   have hn:0<=a*256+b/\a*256+b<65536:=by omega
   rw[qrd];rw[qce,jak (show 0<(k::a::b::r).length by rw[hlen];omega),jaa,qce,jap (show ¬(k::a::b::r).length<3 by rw[hlen];omega),jag,qdt,qdt,qdt];show cond (lchk _ _ _ _) _ _=_;rw[l1,jaa,he,wk,wn];generalize a*256+b=n at hn;by_cases c1:199<k
   ·rw[qev (show Int.ofNat 199<k from c1),jaa,jao (.inl c1)];rfl
   rw[qfp (show ¬Int.ofNat 199<k from c1),jag];refine(zkl (out:=out) hk.1 (by omega) _ _).trans ?_;by_cases c2:k<=qgj out
   ·rw[jak c2,jaa,jao (.inr (.inl c2))];rfl
   rw[jap c2,jag,qbh,qbz (n:=Nat.add r.length 1) (by show r.length+1<_;omega)];by_cases c3:(r.length:Int)+1<n
   ·rw[qev (show Int.ofNat (Nat.add r.length 1)<n from by show ((r.length+1:Nat):Int)<n;omega),jaa,jao (.inr (.inr (.inl c3)))];rfl
   rw[qfp (show ¬Int.ofNat (Nat.add r.length 1)<n from by show ¬((r.length+1:Nat):Int)<n;omega),jag];by_cases c4:4001<n
   ·rw[qev (show Int.ofNat 4001<n from c4),jaa,jao (.inr (.inr (.inr c4)))];rfl
   rw[qfp (show ¬Int.ofNat 4001<n from c4),jag,jan (by omega)];rw[ja2 (show Nat.mul (Nat.add out.length 1) 32<=140737488355328 by show (out.length+1)*32<=_;omega),jaa];by_cases c5:n=0
   ·rw[qbj (show n=Int.ofNat 0 from c5),jaa,jao c5,qud x1 f F r _ hr' (by omega) (by omega) (by simp only[jel,jah,jat,jbi];omega)];rw[jel,qu1];show some ((chgR (out++[(k,S.none_,true)]) (S.changes f r k)).1,_,())=_;cases S.changes f r k with
    | none=>rfl
    | some l=>show some (out++[_]++l,true,())=some (out++_::l,true,());rw[ja0];rfl
   ·rw[qbg (show ¬n=Int.ofNat 0 from c5),jag,jan c5];have e1:IntKind.i64.wrap (Int.sub n (Int.ofNat 1))=n-1:=wrap_in (by show -_<=n-1/\n-1<_;omega);have l2:lchk (Int.ofNat 0) (n-1) (Int.ofNat r.length) (Int.ofNat r.length)=true:=qb3.2 ⟨jbr _,by show (0:Int)<=n-1;omega,by show n-1<=(r.length:Int);omega,jbr _⟩;have l3:lchk (n-1) (Int.ofNat r.length) (Int.ofNat r.length) (Int.ofNat r.length)=true:=qb3.2 ⟨by omega,by show n-1<=(r.length:Int);omega,jbr _,jbr _⟩;rw[e1,l2,jaa,l3,jaa,show Int.toNat (Int.ofNat r.length)=r.length from rfl,qjl hr',qyg hr'];rw[qud x1 f F (r.drop (n-1).toNat) _ (qei hr' _) (by rw[ja7];omega) (by omega) (by simp only[jel,jah,jat,jbi,ja7];omega)];rw[jel,qu1];cases S.changes f (r.drop (n-1).toNat) k with
    | none=>rfl
    | some l=>show some (out++[_]++l,true,())=some (out++_::l,true,());rw[ja0];rfl
theorem zfu(b:ByteArray)(h:b.size<=1000000):Fz17 LF b=some ((S.chg b).1,(S.chg b).2,()):=by
 obtain⟨r,h1,rfl,h3,h4⟩:=quy b;rw[h3] at h;simp only[Fz17,qvd];refine(qud (qag r) (r.length+1) LF r [] h1 (by omega) (by unfold LF;omega) (by rw[jbi];omega)).trans ?_;unfold S.chg;rw[h3,h4];show some ((chgR [] (S.changes (r.length+1) r (-1))).1,(chgR [] (S.changes (r.length+1) r (-1))).2,())=_;cases S.changes (r.length+1) r (-1)<;>rfl
theorem zdb:Con Tryz.prog zq4 qyz:=zkv trivial fun x y hx h=>⟨LF,by
 obtain⟨h1,h2⟩:=qba (show cond (Nat.ble x.1.size 1000000) (some ((S.chg x.1).1,(S.chg x.1).2,())) none=some y from h);exact(zfu x.1 (jal h1)).trans (jav some h2)⟩
theorem qtr:∀{l:List qaa} {last:Int},S.okGo l last=true->-1<=last->(l.length:Int)<=max 0 (199-last)
 | [],_,_,_=>by rw[jbi];omega
 | c::l,last,h,hl=>by
  obtain⟨h1,h2,h3,h4,h5⟩:=qbm.1 h;have:=qtr h5 (by omega);rw[jat];omega
theorem qrh{l:List qaa}(h:S.okC l=true):l.length<=200:=by
 have:=qtr (l:=l) (last:=-1) h (jbr _);omega
theorem znp(x c:qaa)(h:x.1<c.1)(a:List qaa):S.ins1 c (x::a)=x::S.ins1 c a:=by
 show (if x.1<c.1 then x::S.ins1 c a else _)=_;rw[jao h]
theorem q8z(x:qaa):∀(b a:List qaa) (last:Int),S.okGo b last=true->x.1<=last->S.changed (x::a) b=x::S.changed a b
 | [],a,_,_,_=>rfl
 | c::b,a,last,h,hx=>by
  obtain⟨h1,h2,h3,h4,h5⟩:=qbm.1 h;show S.changed (S.ins1 c (x::a)) b=x::S.changed (S.ins1 c a) b;rw[znp x c (by omega)];exact q8z x b _ c.1 h5 (by omega)
theorem zqf{c:qaa}{b:List qaa}{last:Int}(h:S.okGo (c::b) last=true):S.changed [] (c::b)=cond c.2.2 (S.changed [] b) (c::S.changed [] b):=by
 obtain⟨h1,h2,h3,h4,h5⟩:=qbm.1 h;show S.changed (cond c.2.2 [] [c]) b=_;cases c.2.2 with
 | true=>rfl
 | false=>exact q8z c b [] c.1 h5 (jbr _)
theorem zgv{a b:List qaa}(h:S.mrg a b=true):okS a (-1)/\S.okC b=true:=by
 unfold S.mrg S.srt at h;rw[jae,jae,jca] at h;exact⟨⟨h.1.1,fun c hc=>by
  have:=jdb.1 h.1.2 c hc;exact jci.2 this⟩,h.2⟩
theorem znf{a b:List qaa}(h:okS a (-1))(k:S.okC b=true):S.mrg a b=true:=by
 unfold S.mrg S.srt;rw[jae,jae,jca];exact⟨⟨h.1,jdb.2 fun c hc=>by rw[h.2 c hc];decide⟩,k⟩
theorem q25{l:List qaa}(h:S.pk l=true)(m:Int):(S.packed l m).length<=20000:=by
 have:=qot h;rw[qcx];omega
theorem qnz{α:Type}{l:List α}{d:α}(h:1<=l.length):jget l (Int.ofNat 0)=some (l.getD 0 d):=qu0 (i:=Int.ofNat 0) (d:=d) (jbr _) (by show (0:Int)<(l.length:Int);omega)
theorem get0{α:Type}{l:List α}{d:α}(h:1<=l.length):l[0]?=some (l.getD 0 d):=by
 cases l with
 | nil=>exact absurd h (Nat.not_succ_le_zero 0)
 | cons a l=>rfl
theorem zjs:S.packed [] 1=[qag (1::List.replicate 63 0)]:=by kernel_rfl
theorem zjp(lf:Nat)(d:qaf):qpo lf d=some ((S.format d).1,(S.format d).2,()):=by
 simp only[qpo,q3g];unfold S.format;show cond (!ieqI (S.checkDisk d) _) _ _=_;by_cases h0:S.checkDisk d=0
 ·rw[qbj (show S.checkDisk d=Int.ofNat 0 from h0),jay,jag,jao h0,qce];by_cases h1:d.2.length=0
  ·rw[jap (by omega),jag,jao h1,jaa,show S.pk []=true from rfl,jaa];simp only[show S.packed [] (Int.ofNat 1)=S.packed [] 1 from rfl,zjs];rfl
  ·rw[jak (by omega),jaa,jan h1];rfl
 ·rw[qbg (show ¬S.checkDisk d=Int.ofNat 0 from h0),jan h0,jax,jaa]
theorem qjd{l:List ByteArray}(h:S.secs l=true):l.length<=1000/\∀s∈l,s.size=64:=by
 unfold S.secs at h;rw[jae,jca] at h;refine⟨jal h.1,fun s hs=>?_⟩;have:=jdb.1 h.2 s hs;unfold S.short at this;simpa using this
theorem qyf{l:List ByteArray}(h:S.secs1 l=true):1<=l.length/\l.length<=1000/\∀s∈l,s.size=64:=by
 unfold S.secs1 at h;rw[jae] at h;exact⟨jal h.1,qjd h.2⟩
theorem qi6{l:List ByteArray}{i:Nat}(h:i<l.length):l.getD i S.none_∈l:=by
 rw[jai,jac h];exact jbh h
theorem q36{s:ByteArray}(h:s.size=64):∃b0 b1 b2 b3 r,qab s=b0::b1::b2::b3::r:=by
 have:=qc4 s;rcases hs:qab s with _|⟨b0,_|⟨b1,_|⟨b2,_|⟨b3,r⟩⟩⟩⟩
 case cons.cons.cons.cons=>exact⟨_,_,_,_,_,rfl⟩
 all_goals rw[hs] at this;simp only[jat,jbi] at this;omega
theorem zpw(l:List ByteArray)(v:ByteArray):(l++[v]).flatMap qab=l.flatMap qab++qab v:=by simp
theorem zl9(l:List ByteArray)(v:ByteArray):ByteArray.append (qag (l.flatMap qab)) v=qag ((l++[v]).flatMap qab):=by
 rw[zpw,<- qek,qhn]
theorem zcl{N:Nat}(h:N<100000000):IntKind.i64.wrap (Int.tdiv (Int.ofNat (N+63)) (Int.ofNat 64))=Int.ofNat ((N+63) / 64):=qbz (n:=(N+63) / 64) (by omega)
theorem qxd{N:Nat}(h:N<100000000):IntKind.i64.wrap (Int.tdiv (IntKind.i64.wrap (Int.sub (IntKind.i64.wrap (Int.add (Int.ofNat N) (Int.ofNat 64))) (Int.ofNat 1))) (Int.ofNat 64))=Int.ofNat ((N+63) / 64):=by
 rw[show IntKind.i64.wrap (Int.add (Int.ofNat N) (Int.ofNat 64))=Int.ofNat (N+64) from qbz (n:=N+64) (by omega)];have:Int.sub (Int.ofNat (N+64)) (Int.ofNat 1)=Int.ofNat (N+63):=by
  show ((N+64:Nat):Int)-1=((N+63:Nat):Int);omega
 rw[this,qbz (n:=N+63) (by omega)];exact zcl h
theorem znc{b0 b1 b2 b3:Int}{r:List Int}(h:rng (b0::b1::b2::b3::r)):b1*65536+b2*256+b3=((S.recN (b0::b1::b2::b3::r):Nat):Int)/\S.recN (b0::b1::b2::b3::r)<16777216:=by
 have h1:=h b1 (by simp);have h2:=h b2 (by simp);have h3:=h b3 (by simp);have e:S.recN (b0::b1::b2::b3::r)=(b1*65536+b2*256+b3).toNat:=rfl;rw[e];omega
def q9a(l:List Int):Bool:=l.all fun b=>decide (b=0)
theorem qvt(l:List ByteArray)(cells:List qaa)(M:Int)(f:List Int)(hr:rng f)(hf:f.length<=1000000):∀(k F i:Nat) (is:Bool),i+k=f.length->k<F->qe8 LF l F (cells,is,Int.ofNat i,M,qag f)=some ((cells,M,!(is&&q9a (f.drop i))),())
 | 0,F+1,i,is,hi,hF=>by
  show qha LF l (qe8 LF l F) _=_;simp only[qha];rw[qbh,qce,jap (by omega),jag,jcr (by omega)];cases is<;>rfl
 | k+1,F+1,i,is,hi,hF=>by
  show qha LF l (qe8 LF l F) _=_;simp only[qha];have hlt:i<f.length:=by omega
  rw[qbh,qce,jak hlt,jaa,qb4 hr,qdt,jac hlt,jdg hlt,show IntKind.i64.wrap (Int.add (Int.ofNat i) (Int.ofNat 1))=Int.ofNat (i+1) from qbz (n:=i+1) (by omega)];simp only;rw[qvt l cells M f hr hf k F (i+1) _ (by omega) (by omega),qvt l cells M f hr hf k F (i+1) _ (by omega) (by omega)];show _=some ((cells,M,!(is&&(decide (f[i]=0)&&q9a (f.drop (i+1))))),());cases is with
  | false=>rfl
  | true =>
   rw[jaa,qc8];rfl
theorem zdx(l:List ByteArray)(h:S.secs1 l=true):Fz18 LF l=some (S.readK l,()):=by
 obtain⟨h1,h2,h3⟩:=qyf h;have hs:=h3 _ (qi6 (i:=0) (by omega));obtain⟨b0,b1,b2,b3,r,hb⟩:=q36 hs;have hrb:rng (b0::b1::b2::b3::r):=hb▸qd4 _;obtain⟨n1,n2⟩:=znc hrb;have hM:S.recM (b0::b1::b2::b3::r)=(S.recN (b0::b1::b2::b3::r)+4+63) / 64:=rfl;have r1:=hrb b1 (by simp);have r2:=hrb b2 (by simp);have r3:=hrb b3 (by simp);unfold S.readK;simp only[Fz18,qwa,qnz (d:=S.none_) h1,hb];rw[hM];generalize S.recN (b0::b1::b2::b3::r)=N at n1 n2;have wn:IntKind.i64.wrap (Int.add (IntKind.i64.wrap (Int.add (IntKind.i64.wrap (Int.mul (IntKind.i64.wrap b1) (Int.ofNat 65536))) (IntKind.i64.wrap (Int.mul (IntKind.i64.wrap b2) (Int.ofNat 256))))) (IntKind.i64.wrap b3))=Int.ofNat N:=by
  rw[wrap_in (n:=b1) (by omega),wrap_in (n:=b2) (by omega),wrap_in (n:=b3) (by omega),wrap_in (n:=Int.mul b1 (Int.ofNat 65536)) (by show -_<=b1*65536/\b1*65536<_;omega),wrap_in (n:=Int.mul b2 (Int.ofNat 256)) (by show -_<=b2*256/\b2*256<_;omega),
   wrap_in (n:=Int.add (Int.mul b1 (Int.ofNat 65536)) (Int.mul b2 (Int.ofNat 256))) (by show -_<=b1*65536+b2*256/\b1*65536+b2*256<_;omega)]
  rw[show Int.add (Int.add (Int.mul b1 (Int.ofNat 65536)) (Int.mul b2 (Int.ofNat 256))) b3=Int.ofNat N from n1];exact qbz (by omega)
 have w4:IntKind.i64.wrap (Int.add (Int.ofNat N) (Int.ofNat 4))=Int.ofNat (N+4):=qbz (n:=N+4) (by omega);simp only[qdt,jaq,jaw,wn,w4,qxd (N:=N+4) (by omega)];by_cases c0:b0=1
 ·have e0:ieqI b0 (Int.ofNat 1)=true:=qbj c0;rw[e0,jay,jag];by_cases c1:l.length<(N+4+63) / 64
  ·rw[qev (show Int.ofNat l.length<Int.ofNat ((N+4+63) / 64) from jfw.2 c1),jaa,jao (.inr c1)];rfl
  ·rw[qfp (show ¬Int.ofNat l.length<Int.ofNat ((N+4+63) / 64) from fun h=>c1 (jfw.1 h)),jag,jan (show ¬(¬(b0::b1::b2::b3::r).getD 0 0=1\/l.length<(N+4+63) / 64) from fun h=>h.elim (fun h=>h c0) c1)];obtain⟨M,hMe⟩:∃M,(N+4+63) / 64=M:=⟨_,rfl⟩;rw[hMe] at c1 ⊢;have l1:lchk (Int.ofNat 0) (Int.ofNat M) (Int.ofNat M) (Int.ofNat l.length)=true:=qb3.2 ⟨jbr _,jb0 _,jbr _,by show (M:Int)<=(l.length:Int);omega⟩;rw[l1,jaa];have hL:(l.take M).length=M:=by rw[jbm,jdd (by omega)]
   have hfl:∀i,((((l.take M).take i).flatMap qab).length)=64*min i M:=fun i=>by
    rw[qsu _ fun s hs=>h3 s (jch (jch hs)),jbm,hL]
   refine(range0 (σ:=ByteArray) (R:=qbv) (T:=fun K p=>qli LF l K (fun q=>qe8 LF l LF q) p) (l.take M) (fun i s=>(Int.ofNat N,i,s)) (fun i s=>s=qag (((l.take M).take i).flatMap qab)) (fun _ _ _=>some ((match S.changes (N+1) ((((l.take M).flatMap qab).drop 4).take N) (-1) with
     | some c=>(c,(M:Int),!((((l.take M).flatMap qab).drop (4+N)).all fun b=>decide (b=0)))
     | none=>([],(M:Int),true)),())) (by rw[hL];unfold LF;omega) (fun K s hs=>?_) (fun K i v rest s hs r hk=>?_) (S.lit []) rfl).trans rfl
   ·rw[hL,jbw (by rw[hL];exact jar _)] at hs;have hf:=hfl M;rw[Nat.min_self,jbw (by rw[hL];exact jar _)] at hf;have hrf:=q2e (l.take M);simp only[qli,w4,qxd (N:=N+4) (by omega),hMe];rw[show lsub l (Int.ofNat 0) (Int.ofNat M)=l.take M from rfl,qca,jag,hs];generalize (l.take M).flatMap qab=f at hf hrf;have w4':IntKind.i64.wrap (Int.add (Int.ofNat 4) (Int.ofNat N))=Int.ofNat (4+N):=qbz (n:=4+N) (by omega);have l2:lchk (Int.ofNat 4) (Int.ofNat (4+N)) (Int.ofNat f.length) (Int.ofNat f.length)=true:=qb3.2 ⟨by decide,by show (4:Int)<=((4+N:Nat):Int);omega,by show ((4+N:Nat):Int)<=((f.length:Nat):Int);omega,jbr _⟩;have hext:ByteArray.extract (qag f) 4 (Int.toNat (Int.ofNat (4+N)))=qag ((f.drop 4).take N):=by
     refine qfo ?_;rw[qtv,qb4 hrf,qb4 (qer (qei hrf 4) N),jc3];show (f.drop 4).take (4+N-4)=_;rw[ja5]
    have hszN:((f.drop 4).take N).length=N:=by rw[jbm,ja7,jdd (by omega)]
    rw[w4',qbh,l2,jaa,hext,qbh,ja2 (by rw[hszN];omega),jaa];simp only;rw[qvt l _ _ f hrf (by omega) (f.length-(4+N)) LF (4+N) _ (by omega) (by unfold LF;omega)];unfold S.chg;rw[qbh,hszN,qb4 (qer (qei hrf 4) N)];cases S.changes (N+1) ((f.drop 4).take N) (-1)<;>rfl
   ·have hi:=r.lt;rw[hL] at hi;subst hs;have hfi:=hfl i;rw[jdd (by omega)] at hfi;have hvs:=h3 v (jch r.mem);simp only[qli,w4,qxd (N:=N+4) (by omega),hMe];rw[show lsub l (Int.ofNat 0) (Int.ofNat M)=l.take M from rfl,r.ilt,jaa,r.get];simp only;rw[qbh,hfi,hvs,qeo (by show 64*i+64<_;omega),jaa,r.next,zl9,<- r.take];exact hk _ rfl
 ·have e0:ieqI b0 (Int.ofNat 1)=false:=qbg c0;rw[e0,jax,jaa,jao (.inl (show ¬(b0::b1::b2::b3::r).getD 0 0=1 from c0))];rfl
theorem zqw:Con Tryz.prog zfd zqv:=zf8 ⟨zdb,trivial⟩ fun x y hx h=>⟨LF,by
 obtain⟨h1,h2⟩:=qba (show cond (S.secs1 x.1) (some (S.readK x.1,())) none=some y from h);exact(zdx x.1 h1).trans (jav some h2)⟩

theorem q9k:S.lit [0,0,0,0,0,0,0,0,0,0,0,0,0,0,0,0,0,0,0,0,0,0,0,0,0,0,0,0,0,0,0,0,0,0,0,0,0,0,0,0,0,0,0,0,0,0,0,0,0,0,0,0,0,0,0,0,0,0,0,0,0,0,0]=qag (List.replicate 63 0):=by kernel_rfl
end Go.Proofs.YtnhmanoiolfapaaGreat
end
