/- Texts: Jcd, Jce, Jcf, Kss, Kst, Ksu, Ksv, Ksl, Klb, Jhx, Kgc, Jcg, Jch, Jci, Jcj, Jck, Jcp, Jcm, Kg7, Kg4, Kg2, Kg1, Kg0, Jcl, Kp0, Kp1, Kw1, Kw2, Kw3, Kp2, Kg3, Kp3, Kp4, Xhs, Xhg, Kg8, Kg6, Kg5, Kp6, Kp5, Kp7, Kp8, Kp9. -/
import Derived.Test.YtnhmanoiolfapaaGreatMe3
set_option linter.unusedVariables false
section
namespace Go.Jx
open Go Go.Sx Go.RowKit
universe u

def exRK{R:Type}(s:SmR)(vs:List IV)(S:IS)(kk:Res->Option R):Option R :=
 match rdP s.ps S vs with
 | none=>none
 | some (x0,rows,subs,S1,w)=>cond (ndB (rows++subs)) (match fiP s.ps rows subs S1 x0 with
  | none=>none
  | some x=>match s.f x with
   | none=>none
   | some (y,z)=>kk ⟨vB s S1.next y,qbz s S1.next rows subs y z S1,0,(w ||| qby (rows++subs)) ||| cond (Nat.blt 0 rows.length) 0 (2 ^ S1.next)⟩) none
theorem zf8{R:Type}(s:SmR)(vs:List IV)(S:IS)(kk:Res->Option R):exRK s vs S kk=ob (exR s vs S) kk:=by
 simp only[exRK,exR];cases rdP s.ps S vs with
 | none=>rfl
 | some q =>
  obtain⟨x0,rows,subs,S1,w⟩:=q;simp only[qbe];cases fiP s.ps rows subs S1 x0 with
  | none=>rfl
  | some x =>
   simp only;cases s.f x with
   | none=>rfl
   | some q=>rfl
def hxR(s:SmR):Hx:=⟨fun _ vs S=>exR s vs S,fun _ _ vs S kk=>exRK s vs S kk,fun _ _ _ _ vs S kk=>zf8 s vs S kk⟩
theorem zqy{S S':IS}:∀(c:CT) {cs:List IV} {x:ElC c} {ids:List Nat} {r:List IV} {w:Nat},rdC c S cs=some (x,ids,r,S',w)->FrX S S' w
 | .dat c,cs,x,ids,r,w,h=>by
  simp only[rdC] at h;split at h<;>cases h;rename_i h1;obtain⟨a1,a2⟩:=qev c _ _ _ _ _ _ h1;exact⟨jdw a1.symm,fun id _ hb=>a2 id hb⟩
 | .arr c,cs,x,ids,r,w,h=>by
  cases cs with
  | nil=>cases h
  | cons v cs =>
  simp only[rdC] at h;split at h<;>cases h;rename_i h1;exact qoz h1
 | .map k v,cs,x,ids,r,w,h=>by
  cases cs with
  | nil=>cases h
  | cons u cs =>
  cases u<;>try (cases h;done)
  simp only[rdC] at h;split at h<;>cases h;rename_i h1;exact qpd h1
 | .fn f,cs,x,ids,r,w,h=>by
  simp only[rdC] at h;split at h<;>try cases h
  rename_i g cs;cases hb:Nat.beq g f with
  | false=>rw[hb] at h;cases h
  | true =>
  rw[hb] at h;cases h;exact FrX.refl _ _
theorem q5r:∀(c:List CT) {S S':IS} {cs:List IV} {x:qb7 c} {ids:List Nat} {r:List IV} {w:Nat},rdR c S cs=some (x,ids,r,S',w)->FrX S S' w
 | [],S,S',cs,x,ids,r,w,h=>by cases h;exact FrX.refl _ _
 | c::l,S,S',cs,x,ids,r,w,h=>by
  simp only[rdR] at h;split at h
  ·cases h
  rename_i h1;split at h<;>cases h;rename_i h2;exact(zqy c h1).trans (q5r l h2)
theorem zrk{S S':IS}{c:TC}{v:IV}{id w:Nat}(h:rdS c S v=some (id,S',w)):FrX S S' w:=by
 unfold rdS at h;split at h
 ·cases h;exact FrX.refl _ _
 ·split at h<;>cases h;rename_i h1;exact qoz h1
theorem zhj{kc vc:TC}{S S':IS}{v:IV}{id w:Nat}(h:rdM kc vc S v=some (id,S',w)):FrX S S' w:=by
 unfold rdM at h;split at h<;>try cases h
 split at h<;>cases h;rename_i h1;exact qpd h1
theorem qez:∀(l:List PK) {S S':IS} {vs:List IV} {x:ElP l} {q1 q2:List Nat} {w:Nat},rdP l S vs=some (x,q1,q2,S',w)->FrX S S' w
 | [],S,S',vs,x,q1,q2,w,h=>by
  cases vs with
  | cons v vs=>cases h
  | nil=>cases h;exact FrX.refl _ _
 | .dat c::l,S,S',vs,x,q1,q2,w,h=>by
  cases vs with
  | nil=>cases h
  | cons v vs =>
  simp only[rdP] at h;cases hb:fitV c v with
  | false=>rw[hb] at h;cases h
  | true =>
  rw[hb,jab] at h;split at h<;>try cases h
  rename_i h1;split at h<;>cases h;rename_i h2;obtain⟨a1,a2⟩:=qev c _ _ _ _ _ _ h1;exact FrX.trans ⟨jdw a1.symm,fun id _ hb=>a2 id hb⟩ (qez l h2)
 | .fn f::l,S,S',vs,x,q1,q2,w,h=>by
  simp only[rdP] at h;split at h<;>try cases h
  rename_i g vs;cases hb:Nat.beq g f with
  | false=>rw[hb] at h;cases h
  | true =>
  rw[hb] at h;have h:rdP l S vs=some (x,q1,q2,S',w):=h;exact qez l h
 | .ref (.sl c)::l,S,S',vs,x,q1,q2,w,h=>by
  cases vs with
  | nil=>cases h
  | cons v vs =>
  simp only[rdP] at h;split at h<;>try cases h
  rename_i h1;split at h<;>cases h;rename_i h2;exact(zrk h1).trans (qez l h2)
 | .ref (.mp kc vc)::l,S,S',vs,x,q1,q2,w,h=>by
  cases vs with
  | nil=>cases h
  | cons v vs =>
  simp only[rdP] at h;split at h<;>try cases h
  rename_i h1;split at h<;>cases h;rename_i h2;exact(zhj h1).trans (qez l h2)
 | .ref (.box r)::l,S,S',vs,x,q1,q2,w,h=>by
  cases vs with
  | nil=>cases h
  | cons v vs =>
  cases v<;>try (cases h;done)
  rename_i id off;cases off with
  | succ _=>cases h
  | zero =>
  simp only[rdP] at h;split at h<;>try cases h
  split at h<;>try cases h
  rename_i h1;split at h<;>cases h;rename_i h2;have:=(FrX.refl S (2 ^ id)).trans ((q5r r h1).trans (qez l h2));exact this
theorem qrh:∀(l:List Nat) (S:IS),FrX S (qef l S) (qby l)
 | [],S=>FrX.refl _ _
 | id::l,S=>(FrX.set S id .dead).trans (qrh l _)
theorem quj:∀(l:List Nat) (os:List IObj) (S:IS),FrX S (setL l os S) (qby l)
 | [],os,S=>FrX.refl _ _
 | _::_,[],S=>FrX.refl _ _
 | id::l,o::os,S=>(FrX.set S id o).trans (quj l os _)
theorem qvz:∀(a b:List Nat),qby (a++b)=qby a ||| qby b
 | [],b=>by simp[qby]
 | x::a,b=>by simp only[jch,qby,qvz a,Nat.or_assoc]
theorem zp0{s:SmR}{vs:List IV}{S:IS}:FrO S (exR s vs S):=fun r h=>by
 unfold exR at h;split at h
 ·cases h
 rename_i x0 rows subs S1 w hrd;cases hb:ndB (rows++subs) with
 | false=>rw[hb] at h;cases h
 | true =>
 rw[hb,jab] at h;split at h
 ·cases h
 split at h
 ·cases h
 rename_i y z hf;cases h;have h1:=qez _ hrd;have h2:=(qrh subs S1).trans ((quj rows (qar (refs s.ps) (fun k=>S1.next+(k-mP s.ps)) (mP s.ps) z) _).trans (qoy (newO s y z) _ 0));have h3:=h1.trans h2;rw[jft,Nat.or_comm (qby subs),<- qvz] at h3;have h4:=h3.trans (FrX.refl _ (cond (Nat.blt 0 rows.length) 0 (2 ^ S1.next)));exact h4
theorem zbg{s:SmR}{vs:List IV}{S:IS}{r:Res}(h:exR s vs S=some r)(hw:r.wr=0):False:=by
 unfold exR at h;split at h
 ·cases h
 rename_i x0 rows subs S1 w hrd;cases hb:ndB (rows++subs) with
 | false=>rw[hb] at h;cases h
 | true =>
 rw[hb,jab] at h;split at h
 ·cases h
 split at h
 ·cases h
 cases h;have h2:qby (rows++subs)=0:=(or_zero (or_zero hw).1).2;cases rows with
 | nil =>
  have h3:2 ^ S1.next=0:=(or_zero hw).2
  have:=jfk (n:=S1.next);omega
 | cons id rows =>
  have:=q6q (l:=id::rows++subs) (id:=id) (by simp);rw[h2] at this;simp at this
theorem qfg{P:Program}{f:Nat}{s:SmR}(hc:ConR P f s):HxOK P f (hxR s).f :=
 ⟨fun cl _ _ _ vs S r h T E us p _ hw hv=>zpd hc h p hw hv,fun cl _ vs S=>zp0,fun cl _ vs S r h hw _=>(zbg h hw).elim⟩

def ptrP:List PK->Nat->List IV
 | [],_=>[]
 | .dat _::l,k=>ptrP l k
 | .fn _::l,k=>ptrP l k
 | .ref r::l,k=>argK r k::ptrP l (k+1)
theorem qqm:∀(l:List PK) (k:Nat) (z:ElP (refs l)),qaq (refs l) idN k z=ptrP l k
 | [],_,_=>rfl
 | .dat _::l,k,z=>qqm l k z
 | .fn _::l,k,z=>qqm l k z
 | .ref r::l,k,z=>by
  show argK r (idN k)::qaq (refs l) idN (k+1) z.2=_;rw[qqm l];rfl
theorem qom{E E':Env}:∀(l:List PK) {k:Nat} {us:List Value},(∀j,j<mP l->qce E E' (k+j) (k+j))->VRs E (ptrP l k) us->VRs E' (ptrP l k) us
 | [],k,us,hn,h=>by have:=h.1;cases us with|nil=>exact VRs.nil|cons _ _=>simp [ptrP] at this
 | .dat _::l,k,us,hn,h=>qom l hn h
 | .fn _::l,k,us,hn,h=>qom l hn h
 | .ref r::l,k,us,hn,h=>by
  obtain⟨u,us,rfl,a1,a2⟩:=VRs.inv (v:=argK r k) (cs:=ptrP l (k+1)) h;refine VRs.cons (q8c (hn 0 (by simp only[mP];omega)) a1) (qom l (fun j hj=>?_) a2);have:=hn (j+1) (by simp only[mP];omega)
  rwa [show k+(j+1)=k+1+j by omega] at this
theorem qf8:∀(l:List PK) {k:Nat} {S S':IS} {x:ElP (refs l)} {q1 q2:List Nat} {w:Nat},rdP (refs l) S (ptrP l k)=some (x,q1,q2,S',w)->∀j,j<mP l->q1[j]?=some (k+j)
 | [],k,S,S',x,q1,q2,w,h,j,hj=>by simp[mP] at hj
 | .dat _::l,k,S,S',x,q1,q2,w,h,j,hj=>qf8 l h j hj
 | .fn _::l,k,S,S',x,q1,q2,w,h,j,hj=>qf8 l h j hj
 | .ref (.sl c)::l,k,S,S',x,q1,q2,w,h,j,hj=>by
  simp only[refs,ptrP,argK,rdP,rdS] at h;split at h<;>cases h;rename_i h2;cases j with
  | zero=>rfl
  | succ j =>
   have:=qf8 l h2 j (by simp only[mP] at hj;omega);rw[jaw,this];congr 1;omega
 | .ref (.mp kc vc)::l,k,S,S',x,q1,q2,w,h,j,hj=>by
  simp only[refs,ptrP,argK,rdP,rdM] at h;split at h<;>try cases h
  rename_i h1;split at h1<;>cases h1;split at h<;>cases h;rename_i h2;cases j with
  | zero=>rfl
  | succ j =>
   have:=qf8 l h2 j (by simp only[mP] at hj;omega);rw[jaw,this];congr 1;omega
 | .ref (.box r)::l,k,S,S',x,q1,q2,w,h,j,hj=>by
  simp only[refs,ptrP,argK,rdP] at h;split at h<;>try cases h
  split at h<;>try cases h
  split at h<;>cases h;rename_i h2;cases j with
  | zero=>rfl
  | succ j =>
   have:=qf8 l h2 j (by simp only[mP] at hj;omega);rw[jaw,this];congr 1;omega
def lowN:Nat->Nat->List Nat
 | 0,_=>[]
 | m+1,k=>k::lowN m (k+1)
theorem q7r:∀(m k:Nat),(lowN m k).length=m
 | 0,_=>rfl
 | m+1,k=>jav (·+1) (q7r m (k+1))
theorem qys:∀(m k j:Nat),j<m->(lowN m k)[j]?=some (k+j)
 | 0,k,j,h=>absurd h (Nat.not_lt_zero j)
 | m+1,k,0,h=>rfl
 | m+1,k,j+1,h=>by
  have:=qys m (k+1) j (by omega);unfold lowN;rw[jaw,this];congr 1;omega
def runQ(s:SmR)(r:Res):Option (ElR s.rts × ElP (refs s.ps)) :=
 match qjo s.rts.length r.v with
 | none=>none
 | some vs=>match clR s.rts r.S vs with
  | none=>none
  | some (a,S2,_)=>match rdP (refs s.ps) S2 (ptrP s.ps 0) with
   | none=>none
   | some (b,_,subs,S3,_)=>cond (ndB (subs++idsQ s.rts a)&&(subs++idsQ s.rts a).all (Nat.ble (mP s.ps))) (match qc2 s.rts a S3 with
    | none=>none
    | some y=>match fiP (refs s.ps) (lowN (mP s.ps) 0) subs S3 b with
     | none=>none
     | some z=>some (y,z)) none
theorem qup{E E':Env}(hm:∀b,b∈E'.m->b∈E.m)(hw:E'.w=E.w):∀(cs:List (Bool × TC)) {a:ElQ cs} {S:IS} {y:ElR cs} {k:Nat} {us:List Value},qc2 cs a S=some y->(∀(j id:Nat),(idsQ cs a)[j]?=some id->qce E E' id (k+j))->VRs E (valQ cs a) us->VRs E' (resV cs k y) us
 | [],a,S,y,k,us,h,hn,hv=>by have:=hv.1;cases us with|nil=>exact VRs.nil|cons _ _=>simp [valQ] at this
 | (true,c)::cs,a,S,y,k,us,h,hn,hv=>by
  obtain⟨u,us,rfl,a1,a2⟩:=VRs.inv (v:=.arr a.1) (cs:=valQ cs a.2) hv;simp only[qc2] at h;split at h<;>try cases h
  split at h<;>try cases h
  split at h<;>cases h;rename_i y' hy;refine VRs.cons ?_ (qup hm hw cs hy (fun j id hj=>?_) a2)
  ·cases a1 with
   | arr hA hh =>
    obtain⟨b1,b2,b3,b4,b5⟩:=hn 0 a.1 rfl hA;exact .arr b1 (b4.trans hh)
  ·have:=hn (j+1) id (by simp only[idsQ,jaw];exact hj)
   rwa [show k+(j+1)=k+1+j by omega] at this
 | (false,c)::cs,a,S,y,k,us,h,hn,hv=>by
  obtain⟨u,us,rfl,a1,a2⟩:=VRs.inv (v:=asIV c a.1) (cs:=valQ cs a.2) hv;simp only[qc2] at h;split at h<;>cases h;rename_i y' hy;exact VRs.cons (qfz hm hw a1) (qup hm hw cs hy hn a2)
theorem zq4{n:Nat}{v:IV}{vs:List IV}{E:Env}{u:Value}(h:qjo n v=some vs)(hv:VR E v u):∃us:List Value,VRs E vs us/\∀(E':Env) (ws:List IV),ws.length=n->VRs E' ws us->VR E' (tupI ws) u:=by
 unfold qjo at h;cases hone:Nat.beq n 1 with
 | true =>
  rw[hone,jab] at h;cases h;have hlen:=jaj hone;exact⟨[u],VRs.cons hv VRs.nil,fun E' ws hl hw=>by
   rw[hlen] at hl;match ws,hl with
   | [a],_=>exact hw.2 0 (by simp) (by simp)⟩
 | false =>
  rw[hone,jah] at h;split at h<;>try cases h
  rename_i ws0;cases hb:Nat.beq ws0.length n with
  | false=>rw[hb] at h;cases h
  | true =>
  rw[hb,jab] at h;cases h;cases hv with
  | tup hl hh =>
  refine⟨_,⟨hl,hh⟩,fun E' ws hl' hw=>?_⟩;match ws,hl' with
  | [],_=>exact .tup hw.1 hw.2
  | [a],hl'=>rw[<- hl'] at hone;cases hone
  | a::b::ws,_=>exact .tup hw.1 hw.2
theorem q11{s:SmR}{r:Res}{x:ElP s.ps}{y:ElR s.rts}{z:ElP (refs s.ps)}{E E1:Env}{us:List Value}{u:Value}(h:runQ s r=some (y,z))(p0:Pre T0 E (Sc s.ps x))(hargs:VRs E (qaq s.ps idN 0 x) us)
   (hpb:PostB (mP s.ps) T0 E (Sc s.ps x) E1 r.S) (hv:VR E1 r.v u):∃E',E'.w=E1.w/\VR E' (vB s (mP s.ps) y) u/\PostB (mP s.ps) T0 E (Sc s.ps x) E' (ScB s y z):=by
 have hT:∀id,mP s.ps<=id->T0.w id:=fun _ _=>trivial;have p1:=hpb.pre hT p0;unfold runQ at h;split at h
 · cases h
 rename_i vs hvs;split at h
 · cases h
 rename_i a S2 w2 ha;split at h
 · cases h
 rename_i b rows subs S3 w3 hb;cases hc:(ndB (subs++idsQ s.rts a)&&(subs++idsQ s.rts a).all (Nat.ble (mP s.ps))) with
 | false=>rw[hc] at h;cases h
 | true =>
 rw[hc,jab] at h;simp only[jad] at hc;obtain⟨hc1,hc2⟩:=hc;split at h
 · cases h
 rename_i y' hy;split at h<;>cases h;rename_i hz;obtain⟨us1,hus,hfin⟩:=zq4 hvs hv;obtain⟨E2,e2,q2,f2,hv2⟩:=qpk s.rts ha p1 (fun _ _=>trivial) hus;have p2:=q2.pre p1
 -- the pointers
 have hA0:∀k,k<mP s.ps->E.A k:=by
   have key:∀(l:List PK) (k:Nat) (x:ElP l) (us:List Value),VRs E (qaq l idN k x) us->∀j,j<mP l->E.A (k+j):=by
     intro l;induction l with
     | nil=>intro k x us _ j hj;simp [mP] at hj
     | cons pk l ih =>
       intro k x us hv j hj;cases pk with
       | dat c =>
         obtain⟨u,us,rfl,a1,a2⟩:=VRs.inv (v:=asIV c x.1) (cs:=qaq l idN k x.2) hv;exact ih k x.2 us a2 j hj
       | fn f =>
         obtain⟨u,us,rfl,a1,a2⟩:=VRs.inv (v:=.fn f []) (cs:=qaq l idN k x) hv;exact ih k x us a2 j hj
       | ref r =>
         obtain⟨u,us,rfl,a1,a2⟩:=VRs.inv (v:=argK r (idN k)) (cs:=qaq l idN (k+1) x.2) hv;cases j with
         | zero=>exact qz0 a1
         | succ j =>
           have:=ih (k+1) x.2 us a2 j (by simp only[mP] at hj;omega)
           rwa [show k+(j+1)=k+1+j by omega]
   intro k hk;have:=key s.ps 0 x us hargs k hk
   rwa [jbm] at this
 have hptr:∃us',VRs E2 (ptrP s.ps 0) us':=by
   obtain⟨us',h'⟩:=qq7 s.ps b hargs;rw[qqm] at h';refine⟨us',qom s.ps (fun j hj hA=>?_) h'⟩;rw[jbm] at hA ⊢;obtain⟨a1,a2,a3,a4,a5⟩:=hpb.alw j hj hA;obtain⟨b1,b2,b3,b4,b5⟩:=(q2.env p1).alw _ a1;exact⟨b1,b2.trans a2,b3.trans a3,b4.trans a4,b5.trans a5⟩
 obtain⟨us',hptr⟩:=hptr;obtain⟨E3,e3,q3,f3,l1,l2,A3,b2,b3⟩:=qe6 (refs s.ps) hb p2 (fun _ _=>trivial) hptr;have p3:=q3.pre p2;obtain⟨_,c2,c3⟩:=qel (refs s.ps) hz l2;obtain⟨g1,g2⟩:=qoa s.rts hy;have hnd:=qk7 hc1;have hqB:∀id∈subs++idsQ s.rts a,mP s.ps<=id:=fun id hi=>jak ((jbi.1 hc2) id hi);have hnew:∀j:Nat,(newO s y z)[j]?=((subs++idsQ s.rts a)[j]?).bind fun id=>S3.heap.get id:=qs4 (by rw[qhc,l2]) c3 g2;have hlen:(newO s y z).length=(subs++idsQ s.rts a).length:=by
   unfold newO;rw[jaf,jaf,qhc,l2,g1]
 generalize hq:subs++idsQ s.rts a=q at hnd hqB hnew hlen;have hlow:∀k,k<mP s.ps->ol (mP s.ps) q k=k:=fun k hk=>jan hk;have hhigh:∀k,mP s.ps<=k->k<mP s.ps+q.length->q[k-mP s.ps]?=some (ol (mP s.ps) q k):=fun k h1 h2=>by
   have h3:k-mP s.ps<q.length:=by omega
   unfold ol;rw[jao (by omega),jai,jac h3];rfl
 have hnum:∀k,k<mP s.ps+q.length->qce E3 (renE (mP s.ps) q E3) (ol (mP s.ps) q k) k:=fun k hk hA=>⟨⟨hk,hA⟩,rfl,rfl,rfl,rfl⟩;have hns:Nums (ol (mP s.ps) q) (mP s.ps) subs:=fun j id hj=>by
   have h1:j<subs.length:=(jbb.1 hj).1;have h2:=hhigh (mP s.ps+j) (by omega) (by rw[<- hq,jaf];omega);rw[ja5,<- hq,jat h1,hj,hq] at h2;exact(jb5 h2).symm
 have hlr:rows=lowN (mP s.ps) 0:=jdb fun j=>by
   by_cases hj:j<mP s.ps
   · rw[qf8 s.ps hb j hj,qys _ _ _ hj]
   · rw[jbu (by rw[l1,qbr];omega),jbu (by rw[q7r];omega)]
 rw[<- hlr] at hz;have hrows:=qr4 hz l2 p3 (fun _ _=>trivial) (b3 _ _ hns);have hScB:∀k,(ScB s y z).H k=(qar (refs s.ps) idN (mP s.ps) z++newO s y z)[k]?:=fun k=>qgg _ k;have hsl:nP (refs s.ps)<=q.length:=by rw[<- hq,jaf,l2];omega
 have hre:=PostB.re (T:=T0) (B:=mP s.ps) (q:=q) (S':=ScB s y z) p3 hT hnd hqB (by
     unfold ScB;rw[qc1,jaf,qa2,qbr,hlen];have:S0.next=0:=rfl
     omega) (fun k o hk hAk ho=>by
     rw[hScB] at ho;by_cases hkm:k<mP s.ps
     · rw[jat (by rw[qa2,qbr];exact hkm)] at ho;obtain⟨r',nj,xj,rfl,d2,d3,d4⟩:=qf2 _ _ _ _ _ _ ho;obtain⟨id,i1,i2,i3,i4,i5⟩:=hrows k _ (d4 _);have:=qf8 s.ps hb k hkm;rw[jbm,i1] at this;cases this;have e:=hlow k hkm;rw[e];refine⟨OR.objK_to (E:=E3) (E':=renE (mP s.ps) q E3) (fun _ h=>h) rfl i2 (by have:=hnum k hk;rwa [e] at this) (fun j a b=>hnum j (by omega)) i4,fun hl=>i5 (qme.trans hl),fun hb=>?_⟩;show E3.hb (ol (mP s.ps) q k)=true;rw[e];exact i3 (qkm.trans hb)
     · rw[ja4 (by rw[qa2,qbr];omega),qa2,qbr] at ho;have hd:=qsh (jbv ho);rw[hnew,hhigh k (by omega) hk] at ho;exact⟨OR.dat_to (E:=E3) (E':=renE (mP s.ps) q E3) (fun _ h=>h) rfl hAk (hnum k hk) hd (p3.st.objs _ trivial hAk _ ho),fun hl=>⟨_,ho,hl⟩,fun hbk=>p3.st.blk _ trivial hAk _ ho hbk⟩)
 have hpost:=Post.trans p1 q2 f2 q3;have hfr:=f2.trans f3 q2.le;refine⟨renE (mP s.ps) q E3,e3.trans e2,?_,(hpb.trans (PostB.of hpb.le hT hpost hfr)).trans hre⟩;refine hfin _ _ (ql6 _ _ _) (qup (E:=E3) (E':=renE (mP s.ps) q E3) (fun _ h=>h) rfl s.rts hy (fun j id hj=>?_) (hv2.mono (q3.env p2)));have h1:j<(idsQ s.rts a).length:=(jbb.1 hj).1;have h2:mP s.ps+nP (refs s.ps)+j<mP s.ps+q.length:=by rw[<- hq,jaf,l2];omega
 have h3:=hhigh _ (by omega) h2;rw[show mP s.ps+nP (refs s.ps)+j-mP s.ps=subs.length+j by omega,<- hq,ja4 (by omega),ja5,hj,hq] at h3;have h4:=jb5 h3;have:=hnum _ h2
 rwa [<- h4] at this
end Go.Jx
end

section
namespace Go.Jx
open Go Go.Sx Go.RowKit
universe u

def WfC:(c:CT)->ElC c->Prop
 | .dat c=>fun x=>WfE c x
 | .arr c=>fun(l:List (El c))=>l.length*bsz c<=140737488355328/\∀x∈l,WfE c x
 | .map k v=>fun(es:List (El k × El v))=>∀e∈es,WfE k e.1/\WfE v e.2
 | .fn _=>fun _=>True
def WfR:(r:List CT)->qb7 r->Prop
 | [],_=>True
 | c::cs,x=>WfC c x.1/\WfR cs x.2
def WfK:(r:RK)->ElK r->Prop
 | .box r,x=>WfR r x
 | .sl c,x=>match x with
  | some l=>l.length*bsz c<=140737488355328/\∀y∈l,WfE c y
  | none=>True
 | .mp k v,x=>match x with
  | some (es:List (El k × El v))=>∀e∈es,WfE k e.1/\WfE v e.2
  | none=>True
def WfP:(l:List PK)->ElP l->Prop
 | [],_=>True
 | .dat c::l,x=>WfE c x.1/\WfP l x.2
 | .fn _::l,x=>WfP l x
 | .ref r::l,x=>WfK r x.1/\WfP l x.2
section
variable {E : Env}
theorem zqp{c:TC}{x:El c}{us:List Value}(h:VRs E (cel c x) us):WfE c x :=
 wf_cells (E:=E) c x (fun j=>us.getD j .nilFunc) fun j hj=>by
  have hj2:j<us.length:=by rw[<- h.1];exact hj
  show VR E _ (us.getD j .nilFunc);rw[jai,jac hj2];exact h.2 j hj hj2
theorem q7j{k v:TC}{id:Nat}{x:List (El k × El v)}(h:OR E id (.tmap k v x)):∀e∈x,WfE k e.1/\WfE v e.2:=by
 obtain⟨ents,cl,h1,h2,h3,_⟩:=h;intro e he;obtain⟨i,hi,rfl⟩:=jcs.1 he;have hl:(tmEs k v x).length=List.length x:=jby _;have hi1:i<((tmEs k v x).map (·.1)).length:=by rw[jby,hl];exact hi
 have hi2:i<((tmEs k v x).map (·.2)).length:=by rw[jby,hl];exact hi
 have q1:=h2.2 i hi1 (by rw[<- h2.1];exact hi1);have q2:=h3.2 i hi2 (by rw[<- h3.1];exact hi2);have e:(tmEs k v x)[i]'(by rw[hl];exact hi)=(asIV k (List.get x ⟨i,hi⟩).1,asIV v (List.get x ⟨i,hi⟩).2):=jce _;rw[jce,e] at q1;rw[jce,e] at q2;exact⟨qna q1,qna q2⟩
theorem wfC{H:Nat->Option IObj}{ι:Nat->Nat}(hH:∀id o,E.A id->H id=some o->OR E id o):∀(c:CT) {n:Nat} {x:ElC c} {us:List Value},VRs E (qc7 c ι n x) us->(∀j:Nat,j<nC c->H (ι (n+j))=(subC c x)[j]?)->WfC c x
 | .dat c,n,x,us,h,_=>zqp h
 | .arr c,n,x,us,h,hs=>by
  obtain⟨u,us,rfl,a1,a2⟩:=VRs.inv (v:=.arr (ι n)) (cs:=[]) h;have hA:E.A (ι n):=by cases a1;assumption
  have h0:=hs 0 (Nat.one_pos);rw[jb4] at h0;obtain⟨a,cap,h1,h2,h3,h4,h5⟩:=hH _ (.arr c x) hA h0;refine⟨h4,fun y hy=>?_⟩;obtain⟨i,hi,rfl⟩:=jcs.1 hy;rcases h5 with ⟨_,h5,_⟩|⟨_,_,cells,t,_,_,us,_,h6⟩
  ·omega
  ·exact wf_cells c _ (us i) (h6 i hi)
 | .map k v,n,x,us,h,hs=>by
  obtain⟨u,us,rfl,a1,a2⟩:=VRs.inv (v:=.map (ι n)) (cs:=[]) h;have hA:E.A (ι n):=by cases a1;assumption
  have h0:=hs 0 (Nat.one_pos);rw[jb4] at h0;exact q7j (hH _ (.tmap k v x) hA h0)
 | .fn _,n,x,us,h,hs=>trivial
theorem zej{c:TC}{id:Nat}{l:List (El c)}(h:OR E id (.arr c l)):l.length*bsz c<=140737488355328/\∀y∈l,WfE c y:=by
 obtain⟨a,cap,h1,h2,h3,h4,h5⟩:=h;refine⟨h4,fun y hy=>?_⟩;obtain⟨i,hi,rfl⟩:=jcs.1 hy;rcases h5 with ⟨_,h5,_⟩|⟨_,_,cells,t,_,_,us,_,h6⟩
 ·omega
 ·exact wf_cells c _ (us i) (h6 i hi)
theorem wfR{H:Nat->Option IObj}{ι:Nat->Nat}(hH:∀id o,E.A id->H id=some o->OR E id o):∀(r:List CT) {n:Nat} {x:qb7 r} {us:List Value},VRs E (qbu r ι n x) us->(∀j:Nat,j<nR r->H (ι (n+j))=(subR r x)[j]?)->WfR r x
 | [],n,x,us,h,hs=>trivial
 | c::cs,n,x,us,h,hs=>by
  obtain⟨us1,us2,rfl,h1,h2⟩:=VRs.split (cs:=qc7 c ι n x.1) (ds:=qbu cs ι (n+nC c) x.2) h;refine⟨wfC hH c h1 fun j hj=>?_,wfR hH cs h2 fun j hj=>?_⟩
  ·rw[hs j (by simp only[nR];omega)];simp only[subR];rw[jat (by rw[qj3];exact hj)]
  ·have:=hs (nC c+j) (by simp only[nR];omega);rw[<- jc0] at this;rw[this];simp only[subR];rw[ja4 (by rw[qj3];omega),qj3,ja5]
theorem wfP{H:Nat->Option IObj}(hH:∀id o,E.A id->H id=some o->OR E id o):∀(l:List PK) {k n:Nat} {x:ElP l} {us:List Value},VRs E (qaq l idN k x) us ->
  (∀j:Nat,j<mP l->H (k+j)=(qar l idN n x)[j]?)->(∀j:Nat,j<nP l->H (n+j)=(qb4 l x)[j]?)->WfP l x
 | [],k,n,x,us,h,_,_=>trivial
 | .dat c::l,k,n,x,us,h,h1,h2=>by
  obtain⟨u,us,rfl,a1,a2⟩:=VRs.inv (v:=asIV c x.1) (cs:=qaq l idN k x.2) h;exact⟨qna a1,wfP hH l a2 h1 h2⟩
 | .fn f::l,k,n,x,us,h,h1,h2=>by
  obtain⟨u,us,rfl,a1,a2⟩:=VRs.inv (v:=.fn f []) (cs:=qaq l idN k x) h;exact wfP (x:=x) hH l a2 h1 h2
 | .ref r::l,k,n,x,us,h,h1,h2=>by
  obtain⟨u,us,rfl,a1,a2⟩:=VRs.inv (v:=argK r (idN k)) (cs:=qaq l idN (k+1) x.2) h;have hA:E.A k:=qz0 a1;have h0:=h1 0 (by simp only[mP];omega);rw[jb4] at h0;have h0:H k=some (objK r idN n x.1):=h0;refine⟨?_,wfP hH l (n:=n+nK r) a2 (fun j hj=>?_) fun j hj=>?_⟩
  ·match r,x,h0,h2 with
   | .box r,x,h0,h2 =>
    obtain⟨cells,t,k1,k2,k3,k4⟩:=hH k _ hA (h0.trans (show _=some (.row (qbu r idN n x.1)) from rfl));refine wfR (ι:=idN) hH r k4 fun j hj=>?_;have:=h2 j (by simp only[nP,nK];omega);show H (n+j)=_;rw[this];exact jat (l₂:=qb4 l x.2) (jfi hj (qpx r x.1).symm)
   | .sl c,(some l,x),h0,h2=>exact zej (c:=c) (l:=l) (hH k _ hA (h0.trans rfl))
   | .sl c,(none,x),h0,h2=>trivial
   | .mp kc vc,(some l,x),h0,h2=>exact q7j (k:=kc) (v:=vc) (x:=l) (hH k _ hA (h0.trans rfl))
   | .mp kc vc,(none,x),h0,h2=>trivial
  ·have:=h1 (j+1) (by simp only[mP];omega);rw[show k+1+j=k+(j+1) by omega,this];simp only[qar,jaw]
  ·have:=h2 (nK r+j) (by simp only[nP];omega);rw[<- jc0] at this;rw[this];simp only[qb4];rw[ja4 (by rw[qss];omega),qss,ja5]
end
theorem zlt{l:List PK}{x:ElP l}{E:Env}{us:List Value}(p:Pre T0 E (Sc l x))(h:VRs E (qaq l idN 0 x) us):WfP l x:=by
 refine wfP (H:=(Sc l x).H) (n:=mP l) (fun id o hA ho=>p.st.objs id trivial hA o ho) l h (fun j hj=>?_) fun j hj=>?_
 ·unfold Sc;rw[jbm,qgg,jat (by rw[qa2];exact hj)]
 ·unfold Sc;rw[qgg,ja4 (by rw[qa2];omega),qa2,ja5]

def qd3(tt:Nat->Option TI)(fi:FI)(s:SmR)(r:CRes):Option (ElR s.rts × ElP (refs s.ps)) :=
 cond r.e.leaves (match qfd r.ds r.S with
  | none=>none
  | some (S',_)=>match ires tt fi.nt r.fr S' fi.res with
   | none=>none
   | some (vs,_)=>runQ s ⟨tupI vs,S',0,0⟩) none
section
variable {P : Program} {tt : Nat -> Option TI} {ft : Nat -> Option FI}
theorem zl8{fi:FI}{f:Nat}{nm:Nat->Option Nm}{cl:Cl}{lf:Nat}{s:SmR}{x:ElP s.ps}{y:ElR s.rts}{z:ElP (refs s.ps)}{r1:CRes}(hm:P.follows .mixedOrders=true)(htt:TT P tt)
  (hfi:∃fn,P.funcs[f]?=some fn/\fn.body=some fi.body/\fn.ntmps=fi.nt/\fn.results=fi.res.toArray/\(fn.name == "runtime.NumGoroutine") = false/\qa4 fi.body=true) (hcl:ClOK P cl) (hfr:ClFr cl)
  (hb:Nat.ble (qaq s.ps idN 0 x).length fi.nt=true) (hr1:qak P tt nm (mP s.ps) fi.nt cl lf none fi.body (qaz (qaq s.ps idN 0 x) 0 .leaf) (Sc s.ps x) []=some r1) (h:qd3 tt fi s r1=some (y,z))
  {E:Env} {us:List Value} (p:Pre T0 E (Sc s.ps x)) (hv:VRs E (qaq s.ps idN 0 x) us) :
  CallsIn Fence.wide 0 P f us.toArray E.w (RetB (mP s.ps) T0 E (Sc s.ps x) ⟨vB s (mP s.ps) y,ScB s y z,0,0⟩):=by
 unfold qd3 at h;cases hl:r1.e.leaves with
 | false=>rw[hl] at h;cases h
 | true =>
 rw[hl,jab] at h;split at h
 ·cases h
 rename_i S' wr hmk;split at h
 ·cases h
 rename_i vs' rd' hres;obtain⟨fn,f1,f2,f3,f4,f5,f6⟩:=hfi;refine callsIn_of_wp_marks f1 f2 trivial ?_;refine qif (T:=T0) (E:=E) (S:=Sc s.ps x) (ds:=[]) (round:=none) (B:=mP s.ps) (fun _ _=>trivial) hm rfl hcl hfr htt fi.body f6 p (by rw[qir];omega) (fun _ _=>trivial) ?_ (DS.nil (N:=E.w.heap.size) (jaq _)) (fun _=>rfl) hr1 (fun _ _=>trivial) (fun _ _=>trivial) ?_
 ·have:=FR.enter (nt:=fi.nt) hv (jak hb);rw[f3];exact this
 intro E1 a1 k1 k2 kB;have p1:=kB.pre (fun _ _=>trivial) p;have hlv:LeavesInM Fence.wide 0 P fn a1.tmps (RetB (mP s.ps) T0 E (Sc s.ps x) ⟨vB s (mP s.ps) y,ScB s y z,0,0⟩) a1.defers .returning E1.w:=by
  refine qvo (E0:=E) (S0':=Sc s.ps x) (B:=mP s.ps) (jaq _) (fun _ _=>trivial) p1 k2 kB hmk (fun _ _=>trivial) fun E2 hq0 p2 hv2=>?_;obtain⟨us',h1,h2⟩:=qqa htt p2 ⟨k1.size,fun t ht=>hv2 _ _ (k1.get t ht)⟩ hres (fun _ _=>trivial);have h3:=q31 (P:=P) (w:=E2.w) f4 h1;refine⟨qhh us',h3,?_⟩;have hq:=hq0;obtain⟨E3,e3,v3,q3⟩:=q11 (r:=⟨tupI vs',S',0,0⟩) h p hv hq (q0k h2);exact⟨_,E3,rfl,e3,v3,q3⟩
 cases he:r1.e with
 | normal=>rw[he] at *;exact hlv
 | ret=>exact hlv
 | exit i=>rw[he] at hl;cases hl
 | goto l=>rw[he] at hl;cases hl
theorem conTR{sml:List (Nat × Sm)}{hxl:List (Nat × Hx)}{f:Nat}{s:SmR}{fi:FI}{nmf:Nat->Option Nm}{st hd:Nat->Bool}(n:Nat)(hm:P.follows .mixedOrders=true)(htt:TT P tt)(hft:FT P ft)(hsm:SmOK P sml)
  (hhx:qbd P hxl) (hC:qai P f) (h3:ft f=some fi) (h4:∀x,Nat.ble (qaq s.ps idN 0 x).length fi.nt=true) (hn:(regs fi.body).Nodup) (hl:okC nmf st hd fi.body none=true)
  (hrun:∀(x:ElP s.ps) (y:ElR s.rts) (z:ElP (refs s.ps)),WfP s.ps x->s.f x=some (y,z)->∃lf,
   qb6 P tt nmf (mP s.ps) fi.nt (qa3 P tt ft (fun _ _=>none) (smL sml) (hxL hxl) lf n (ElR s.rts × ElP (refs s.ps))) lf st
    (atNB P tt nmf (mP s.ps) fi.nt fi.body (qa3 P tt ft (fun _ _=>none) (smL sml) (hxL hxl) lf n (ElR s.rts × ElP (refs s.ps))) lf hd (qd3 tt fi s)) fi.body [] (qaz (qaq s.ps idN 0 x) 0 .leaf) (Sc s.ps x) [] (qd3 tt fi s)=some (y,z))
  (hz:frzF nmf=true:=by rfl):ConR P f s:=by
 have hB0:mB nmf (mP s.ps)=0:=by unfold mB;rw[hz];rfl
 have hex:ExOK P (exH (smL sml) (hxL hxl)):=q58 (qvj hsm) (qsv hhx);refine⟨hC,fun E x us y z hy p hv=>?_⟩;obtain⟨lf,hr⟩:=hrun x y z (zlt p hv) hy;rw[<- q62 hB0 (qa7 n _) hn hl,qe5 (qa7 n _)] at hr;cases hr1:qak P tt nmf (mP s.ps) fi.nt (qcf P tt ft (fun _ _=>none) (exH (smL sml) (hxL hxl)) lf n) lf none fi.body (qaz (qaq s.ps idN 0 x) 0 .leaf) (Sc s.ps x) [] with
 | none=>rw[hr1] at hr;cases hr
 | some r1 =>
  rw[hr1] at hr;exact zl8 hm htt (hft f fi h3) (ql8 hm htt hft hex n) (qf4 hex n) (h4 x) hr1 hr p hv
end
end Go.Jx
end

section
namespace Go.Jx
open Go Go.Sx Go.RowKit
universe u

section
variable {P : Program} {tt : Nat -> Option TI} {nm : Nat -> Option Nm} {lf : Nat} {st hd : Nat -> Bool} {cl : Cl}
def atQ(P:Program)(tt:Nat->Option TI)(nm:Nat->Option Nm)(fi:FI)(s:SmR)(clK:ClK (ElR s.rts × ElP (refs s.ps)))(lf:Nat)(hd:Nat->Bool)(k:Nat)(ns:List Nat)(x:NRes):Option (ElR s.rts × ElP (refs s.ps)) :=
 atNB P tt nm (mP s.ps) fi.nt fi.body clK lf hd (qd3 tt fi s) k ns x
theorem zbr{B:Nat}(hz:frzF nm=true):mB nm B=0:=by unfold mB;rw[hz];rfl
theorem q9c(hz:frzF nm=true){fi:FI}{s:SmR}{clK:ClK (ElR s.rts × ElP (refs s.ps))}(h:ClEq cl clK)(hn:(regs fi.body).Nodup)(hl:okC nm st hd fi.body none=true)(k:Nat)(ns ns':List Nat)(hd':dn (hd k) ns=some ns')(x:NRes) :
  atQ P tt nm fi s clK lf hd k ns x=qb9 P tt nm (mP s.ps) fi.nt clK lf st (atQ P tt nm fi s clK lf hd) k fi.body [] ns' x (qd3 tt fi s):=q5h (zbr hz) h hn hl k ns ns' hd' x
theorem q74{fi:FI}{s:SmR}{clK:ClK (ElR s.rts × ElP (refs s.ps))}(k:Nat)(ns:List Nat)(hd':dn (hd k) ns=none)(x:NRes):atQ P tt nm fi s clK lf hd k ns x=none:=qxq k ns hd' x
end
end Go.Jx
end

noncomputable section
set_option maxRecDepth 100000
namespace Go.Proofs.YtnhmanoiolfapaaGreat
open Go Go.Sx Go.RowKit Go.Jx
def qk6:Sm:=⟨[.list .str],[(true,.str)],fun x=>some (x.1,())⟩
def q9k:Sm:=⟨[.list cPut],[(true,cPut)],fun x=>some (x.1,())⟩
def qi0:Sm:=⟨[.list .str,.int .i64],[(false,.list .str)],fun x=>cond (decide (x.1.length=1)&&S.inI x.2.1 0 1000) (some (List.replicate x.2.1.toNat (x.1.getD 0 S.none_),())) none⟩
def qg9:Sm:=⟨[.int .i64,.int .i64,.int .i64],[(false,.bool)],fun x=>some (S.inI x.1 x.2.1 x.2.2.1,())⟩
def qqh:Sm:=⟨[],[(false,.str)],fun _=>some (S.blank,())⟩
def qwh:Sm:=⟨[.str],[(false,.bool)],fun x=>some (S.short x.1,())⟩
def qzq:Sm:=⟨[.int .i64],[(false,qan),(false,.int .i64)],fun x=>some ((S.newDisk x.1).1,(S.newDisk x.1).2,())⟩
def qho:Sm:=⟨[qan],[(false,.int .i64)],fun x=>some (S.checkDisk x.1,())⟩
def S.fitP(l:List ByteArray)(q:List DPut):Bool:=q.all fun p=>!S.badPut l.length p
def q1k:Sm:=⟨[.list .str,.list cPut],[(true,.str)],fun x=>cond (S.fitP x.1 x.2.1) (some (S.settled x.1 x.2.1,())) none⟩
def qmy:Sm:=⟨[qan,.list cAct],[(false,qan),(false,.int .i64)],fun x=>some ((S.doD x.1 x.2.1).1,(S.doD x.1 x.2.1).2,())⟩
def qxn:Sm:=⟨[qan,.list (.int .i64)],[(false,qan),(false,.int .i64)],fun x=>some ((S.crash x.1 x.2.1).1,(S.crash x.1 x.2.1).2,())⟩
def S.anyShort(l:List ByteArray):Bool:=l.any S.short
def S.pk(l:List qaa):Bool:=S.okC l&&Nat.ble l.length 250
def qsu:Sm:=⟨[.int .i64],[(false,.str)],fun x=>cond (S.inI x.1 0 16777215) (some (qae (S.two x.1.toNat),())) none⟩
def qxf:Sm:=⟨[.list qac],[(false,.str)],fun x=>cond (S.pk x.1) (some (qae (S.body x.1),())) none⟩
def qmb:Sm:=⟨[.list qac],[(true,.str)],fun x=>cond (S.pk x.1) (some (S.packed x.1 1,())) none⟩
def qu8:Sm:=⟨[.str],[(false,.str)],fun x=>cond (decide (x.1.size=64)) (some (qae (0::(qab x.1).drop 1),())) none⟩
def ql2:Sm:=⟨[.int .i64,.int .i64],[(false,q78)],fun x=>cond (S.inI x.1 0 1000) (some (S.half x.1.toNat x.2.1,())) none⟩
def S.laid(l:List qaa)(at_ e:Int)(b:Bool):List DAct:=S.puts at_ (S.packed l 0)++(cond (b&&decide (at_+(S.packed l 1).length<e)) [S.put (at_+(S.packed l 1).length) S.blank] []++[S.sync,S.put at_ ((S.packed l 1).getD 0 S.none_),S.sync])
def qyl:Sm:=⟨[qan],[(true,cAct),(false,.int .i64)],fun x=>some ((S.format x.1).1,(S.format x.1).2,())⟩
def S.lenA(a:List DAct):Nat:=a.length
def S.app(a b:List DAct):List DAct:=a++b
def spz8:SmR:=⟨[.ref (.box [.arr cAct]),.dat (.int .i64),.dat (.list .str)],[],fun x=>cond (S.inI x.2.1 0 1000000&&(Nat.ble x.2.2.1.length 1000000&&Nat.ble (S.lenA x.1.1) 1000000)) (some ((),((S.app x.1.1 (S.puts x.2.1 x.2.2.1),()),()))) none⟩
def spz9:SmR:=⟨[.ref (.box [.arr cAct])],[],fun x=>cond (Nat.ble (S.lenA x.1.1) 4000000) (some ((),((S.app x.1.1 [S.sync],()),()))) none⟩
def S.chg(b:ByteArray):List qaa × Bool:=match S.changes (b.size+1) (qab b) (-1) with
 | some l=>(l,true)
 | none=>([],false)
def q5v:Sm:=⟨[.str],[(true,qac),(false,.bool)],fun x=>cond (Nat.ble x.1.size 1000000) (some ((S.chg x.1).1,(S.chg x.1).2,())) none⟩
def S.readK(l:List ByteArray):qfs :=
 if ¬(qab (l.getD 0 S.none_)).getD 0 0=1\/l.length<S.recM (qab (l.getD 0 S.none_)) then ([],0,true)
 else match S.changes (S.recN (qab (l.getD 0 S.none_))+1) ((((l.take (S.recM (qab (l.getD 0 S.none_)))).flatMap qab).drop 4).take (S.recN (qab (l.getD 0 S.none_)))) (-1) with
  | some c=>(c,(S.recM (qab (l.getD 0 S.none_)):Int),!((((l.take (S.recM (qab (l.getD 0 S.none_)))).flatMap qab).drop (4+S.recN (qab (l.getD 0 S.none_)))).all fun b=>decide (b=0)))
  | none=>([],(S.recM (qab (l.getD 0 S.none_)):Int),true)
def S.secs(l:List ByteArray):Bool:=Nat.ble l.length 1000&&!S.anyShort l
def S.secs1(l:List ByteArray):Bool:=Nat.ble 1 l.length&&S.secs l
def zd9:Sm:=⟨[.list .str],[(false,cKeepRecord)],fun x=>cond (S.secs1 x.1) (some (S.readK x.1,())) none⟩
def S.val(b:ByteArray):Int:=(qab b).foldl (fun n b=>256*n+b) 0
def S.srt(l:List qaa):Bool:=S.okC l&&!l.any (·.2.2)
def S.mrg(a b:List qaa):Bool:=S.srt a&&S.okC b
def S.sameC(a b:List qaa):Bool:=decide (a=b)
def S.sameD(a b:qah):Bool:=decide (a=b)
def S.sameJ(a b:qad):Bool:=decide (a=b)
def S.sameA(a b:List DAct):Bool:=decide (a=b)
def q7e:Sm:=⟨[.list qac,.list qac],[(false,.bool)],fun x=>some (S.sameC x.1 x.2.1,())⟩
def spz7:Sm:=⟨[.list qac],[(false,.int .i64),(false,.int .i64)],fun x=>some ((S.size x.1).1,(S.size x.1).2,())⟩
def S.smallJ(j:qad):Bool:=Nat.ble j.1.1.length 1000&&(decide (j.1.1.length % 2=0)&&S.inI j.2.2.1 (-1000) 1000)
def S.roomR(j:qad):Int:=((j.1.1.length / 2:Nat):Int)-1-j.2.2.1
def qsl:Sm:=⟨[qag],[(false,.int .i64)],fun x=>cond (S.smallJ x.1) (some (S.roomOf x.1,())) none⟩
def q39:Sm:=⟨[],[(false,.str)],fun _=>some (qae (List.replicate 64 0),())⟩
def qzi:Sm:=⟨[.list qac,.list qac],[(false,.bool)],fun x=>some (S.sameC x.1 x.2.1,())⟩
def q1u:Sm:=⟨[qan],[(false,qag),(false,.int .i64)],fun x=>some ((S.open_ x.1).1,(S.open_ x.1).2,())⟩
def S.openedJ(d:qah):qad × Bool:=match S.opened d.1 with
 | some (h,u,c)=>(((d.1,[]),h,(u:Int),c),true)
 | none=>(S.noJ,false)
def S.okL(d:qah):Bool:=S.secs d.1&&(Nat.ble 8 d.1.length&&decide (d.1.length % 2=0))
def qgr:Sm:=⟨[qan],[(false,qag),(false,.bool)],fun x=>cond (S.okL x.1) (some ((S.openedJ x.1).1,(S.openedJ x.1).2,())) none⟩
def S.errR(j:qad):Int:=if S.right j=true then 0 else 1
def qnw:Sm:=⟨[qag],[(false,.int .i64)],fun x=>some (S.errR x.1,())⟩
def zeb:Sm:=⟨[qag],[(false,.int .i64),(false,.int .i64)],fun x=>some ((S.room x.1).1,(S.room x.1).2,())⟩
def S.asked(j:qad)(l:List qaa):Int:=if S.right j=true then (S.size l).2 else 1
def quv:Sm:=⟨[qag,.list qac],[(false,.int .i64)],fun x=>some (S.asked x.1 x.2.1,())⟩
def S.comG(j:qad)(l:List qaa):Bool:=S.smallJ j&&(S.pk l&&S.inI j.2.2.1 0 1000)
def S.actsB(o:Option (List DAct)):List DAct × Bool:=match o with
 | some a=>(a,true)
 | none=>([],false)
def qwy:Sm:=⟨[qag,.list qac],[(true,cAct),(false,.bool)],fun x=>cond (S.comG x.1 x.2.1) (some ((S.actsB (S.commit x.1 x.2.1)).1,(S.actsB (S.commit x.1 x.2.1)).2,())) none⟩
def S.turG(j:qad):Bool:=S.smallJ j&&(S.pk j.2.2.2&&(S.inI j.2.1 0 1&&Nat.ble 8 j.1.1.length))
def qtp:Sm:=⟨[qag],[(true,cAct),(false,.bool)],fun x=>cond (S.turG x.1) (some ((S.actsB (S.turn x.1)).1,(S.actsB (S.turn x.1)).2,())) none⟩
def S.behG(j:qad)(a:List DAct):Bool:=decide ((S.behind j a).2=0)&&decide ((S.doD j.1 a).2=0)
def qnj:Sm:=⟨[qag,.list cAct],[(false,qag)],fun x=>cond (S.behG x.1 x.2.1) (some ((S.behind x.1 x.2.1).1,())) none⟩
def q8k:Sm:=⟨[qag,.list qac],[(true,cAct),(false,.int .i64)],fun x=>some ((S.plan x.1 x.2.1).1,(S.plan x.1 x.2.1).2,())⟩
def zld:Sm:=⟨[qag,.list qac],[(false,qag),(false,.int .i64)],fun x=>some ((S.commitJ x.1 x.2.1).1,(S.commitJ x.1 x.2.1).2,())⟩
def q1r:Sm:=⟨[qag],[(true,cAct),(false,.int .i64)],fun x=>some ((S.planTurn x.1).1,(S.planTurn x.1).2,())⟩
def zbs:Sm:=⟨[qag],[(false,qag),(false,.int .i64)],fun x=>some ((S.turnJ x.1).1,(S.turnJ x.1).2,())⟩
def zp1:Sm:=⟨[qag,.list qac],[(false,qag),(false,.int .i64)],fun x=>some ((S.save x.1 x.2.1).1,(S.save x.1 x.2.1).2,())⟩
def S.oneN(s:ByteArray)(n:Int):Bool:=keqS s (S.lit [0])&&decide (n=64)
def q1q:Sm:=⟨[.str,.int .i64],[(false,.str)],fun x=>cond (S.oneN x.1 x.2.1) (some (S.blank,())) none⟩
def S.applied(m:List (Int × ByteArray))(l:List qaa):List (Int × ByteArray):=l.foldl (fun m c=>cond c.2.2 (mdel (vc:=.str) (.int .i64) c.1 m) (mset (vc:=.str) (.int .i64) c.1 c.2.1 m)) m
def qo1:SmR:=⟨[.ref (.mp (.int .i64) .str),.dat (.list qac)],[],fun x=>match x.1 with
 | some m=>some ((),(some (S.applied m x.2.1),()))
 | none=>none⟩
def S.madeD:qah:=(S.doD (S.newDisk 8).1 (S.format (S.newDisk 8).1).1).1
def S.madeJ:qad:=(S.open_ S.madeD).1
def q8v:Sm:=⟨[.int .i64],[(false,qag),(false,.bool)],fun x=>cond (S.inI x.1 8 8) (some (S.madeJ,true,())) none⟩
def q2e:Sm:=⟨[],[(false,.bool)],fun _=>some (true,())⟩
abbrev DChg:Type:=qax
abbrev cChg:TC:=cCosignerlaw23Change
namespace S
def namesC(l:List qaa)(k:Int):Bool:=l.any fun c=>decide (c.1=k)
def brief(l:List (List DChg)):Bool:=l.all (fun x=>Nat.ble x.length 10)&&Nat.ble l.length 12
def cellOf(k:Nat)(c:DChg):qaa:=((k:Int),cond c.2.2.2 none_ (qae (List.replicate c.2.1.toNat c.2.2.1)),c.2.2.2)
def cells(l:List DChg):List qaa:=(List.range 25).filterMap fun(k:Nat)=>(l.reverse.find? fun c=>decide (c.1 % 25=(k:Int))).map (cellOf (k:Nat))
def afterK(was l:List qaa)(k:Nat):List qaa:=was.filter (fun c=>decide (c.1=(k:Int))&&!namesC l (k:Int))++l.filter fun c=>decide (c.1=(k:Int))&&!c.2.2
def after(was l:List qaa):List qaa:=(List.range 200).flatMap (afterK was l)
def evn(n:Int):Bool:=inI n 8 40&&decide (n % 2=0)
def madeD_(n:Int):qah:=(doD (newDisk n).1 (format (newDisk n).1).1).1
def madeN(n:Int):qad:=(open_ (madeD_ n)).1
def playStep(j:qad)(l:List DChg):qad:=if (cells l).length=0 then j else if (save j (cells l)).2=0 then (save j (cells l)).1 else j
def played(s:Int)(l:List (List DChg)):qad:=l.foldl playStep (madeN (8+2*(s % 17)))
def cut(d:qah)(l:List DAct)(m:Int)(k:List Int):qah × Int:=crash (doD d (l.take m.toNat)).1 ((k.take (doD d (l.take m.toNat)).1.2.length).map (· % 65))
def cutG(d:qah)(l:List DAct)(m:Int):Bool:=inI m 0 l.length&&decide ((doD d (l.take m.toNat)).2=0)
def planO(j:qad)(l:List qaa):Option (List DAct × Int × Unit):=cond (sameJ j j) (some ((plan j l).1,(plan j l).2,())) none
def saveO(j:qad)(l:List qaa):Option (qad × Int × Unit):=cond (sameJ j j) (some ((save j l).1,(save j l).2,())) none
def openO(d:qah):Option (qad × Int × Unit):=cond (sameD d d) (some ((open_ d).1,(open_ d).2,())) none
def cutO(d:qah)(l:List DAct)(m:Int)(k:List Int):Option (qah × Bool × Unit):=cond (cutG d l m&&Nat.ble k.length 200) (some ((cut d l m k).1,decide ((cut d l m k).2=0),())) none
def afterO(was l:List qaa):Option (List qaa × Unit):=cond (mrg was l) (some (after was l,())) none
def playedO(s:Int)(l:List (List DChg)):Option (qad × Bool × Unit):=cond (brief l) (some (played s l,true,())) none
end S
def spz1:Sm:=⟨[.list qac,.int .i64],[(false,.bool)],fun x=>some (S.namesC x.1 x.2.1,())⟩
def spz2:Sm:=⟨[.list (.list cChg)],[(false,.bool)],fun x=>some (S.brief x.1,())⟩
def spz3:Sm:=⟨[.list cChg],[(true,qac)],fun x=>some (S.cells x.1,())⟩
def spz4:Sm:=⟨[.list qac,.list qac],[(true,qac)],fun x=>S.afterO x.1 x.2.1⟩
def q7l:Sm:=⟨[.int .i64],[(false,qag),(false,.bool)],fun x=>cond (S.evn x.1) (some (S.madeN x.1,true,())) none⟩
def spz6:Sm:=⟨[.int .u8,.list (.list cChg)],[(false,qag),(false,.bool)],fun x=>S.playedO x.1 x.2.1⟩
def spz5:Sm:=⟨[qan,.list cAct,.int .i64,.list (.int .u8)],[(false,qan),(false,.bool)],fun x=>S.cutO x.1 x.2.1 x.2.2.1 x.2.2.2.1⟩
def qyd:Sm:=⟨[qag,.list qac],[(true,cAct),(false,.int .i64)],fun x=>S.planO x.1 x.2.1⟩
def q3d:Sm:=⟨[qag,.list qac],[(false,qag),(false,.int .i64)],fun x=>S.saveO x.1 x.2.1⟩
def q1m:Sm:=⟨[qan],[(false,qag),(false,.int .i64)],fun x=>S.openO x.1⟩
def zh7:Sm:=⟨[.int .u8,.list (.list cChg),.list cChg,.int .u16,.list (.int .u8),.int .u16,.list (.int .u8)],[(false,.bool)],fun _=>some (true,())⟩
theorem zaa:IdxFacts Tryz.prog ttT.get (.int .i64) qs2 (cL qlk) (cL (cL (cR qlk))) (cB (cB (cR (cL (cR qlk))))) (cR (cR qlk)) :=
 ⟨by kernel_rfl,by kernel_rfl,fun mr=>by kernel_rfl,fun R clK B0 mr lf l g caps S kk=>by kernel_rfl,fun R clK B0 mr lf l g caps S kk=>by kernel_rfl,fun R clK B0 mr lf l g caps S i kk=>by kernel_rfl,fun R clK B0 mr lf fr S kk=>by kernel_rfl,by kernel_rfl,by kernel_rfl,fun mr=>by kernel_rfl⟩
theorem zbm:HxOK Tryz.prog 103 (idxF (.int .i64)):=qpo zaa mixed ttOK qz7
theorem zbb:IdxFacts Tryz.prog ttT.get cPut qtu (cL ql1) (cL (cL (cR ql1))) (cB (cB (cR (cL (cR ql1))))) (cR (cR ql1)) :=
 ⟨by kernel_rfl,by kernel_rfl,fun mr=>by kernel_rfl,fun R clK B0 mr lf l g caps S kk=>by kernel_rfl,fun R clK B0 mr lf l g caps S kk=>by kernel_rfl,fun R clK B0 mr lf l g caps S i kk=>by kernel_rfl,fun R clK B0 mr lf fr S kk=>by kernel_rfl,by kernel_rfl,by kernel_rfl,fun mr=>by kernel_rfl⟩
theorem zff:HxOK Tryz.prog 104 (idxF cPut):=qpo zbb mixed ttOK qyb
theorem zsr:IdxFacts Tryz.prog ttT.get .str qry (cL qj0) (cL (cL (cR qj0))) (cB (cB (cR (cL (cR qj0))))) (cR (cR qj0)) :=
 ⟨by kernel_rfl,by kernel_rfl,fun mr=>by kernel_rfl,fun R clK B0 mr lf l g caps S kk=>by kernel_rfl,fun R clK B0 mr lf l g caps S kk=>by kernel_rfl,fun R clK B0 mr lf l g caps S i kk=>by kernel_rfl,fun R clK B0 mr lf fr S kk=>by kernel_rfl,by kernel_rfl,by kernel_rfl,fun mr=>by kernel_rfl⟩
theorem zjv:HxOK Tryz.prog 105 (idxF .str):=qpo zsr mixed ttOK q7o
theorem zaz:IdxFacts Tryz.prog ttT.get qac qtz (cL qje) (cL (cL (cR qje))) (cB (cB (cR (cL (cR qje))))) (cR (cR qje)) :=
 ⟨by kernel_rfl,by kernel_rfl,fun mr=>by kernel_rfl,fun R clK B0 mr lf l g caps S kk=>by kernel_rfl,fun R clK B0 mr lf l g caps S kk=>by kernel_rfl,fun R clK B0 mr lf l g caps S i kk=>by kernel_rfl,fun R clK B0 mr lf fr S kk=>by kernel_rfl,by kernel_rfl,by kernel_rfl,fun mr=>by kernel_rfl⟩
theorem zj3:HxOK Tryz.prog 113 (idxF qac):=qpo zaz mixed ttOK q0b
def nmz1:Nat->Option Nm:=fun k=>cond (Nat.beq k 2) (some ⟨[0,1,5],[],[],[],[],0,0,false⟩) (none)
def stz1:Nat->Bool:=fun k=>cond (Nat.beq k 2) true (false)
def hdz1:=stz1
abbrev Rtz1:Type:=Bool × Unit
def q1f:List (Nat × Sm):=[]
def qzr:List (Nat × Hx):=[]
def clz1(R:Type)(lf:Nat):ClK R:=qa3 Tryz.prog ttT.get ftT.get (nm1 51 nmz1) (smL q1f) (hxL qzr) lf 20 R
abbrev idz1:Nat:=51
def qie(x1:(List qaa))(x2:Int)(p:Int):NRes:=(NRes.mk (.node (some (IV.lst qac x1)) (.node (some (IV.int .i64 x2)) .leaf (.node (some (IV.int .i64 p)) .leaf .leaf)) .leaf) (IS.mk .leaf 0) [] 0)
def qvk(lf:Nat)(x1:(List qaa))(x2:Int)(L2:Int->Option Rtz1):Option Rtz1:=(L2 (Int.ofNat 0))
def qjq(lf:Nat)(x1:(List qaa))(x2:Int)(L2:Int->Option Rtz1)(p:Int):Option Rtz1:=(cond (iltI p (Int.ofNat x1.length)) (match (jget x1 p) with|none=>none|some v0=>(cond (ieqI v0.1 x2) (some (true,())) (L2 (IntKind.i64.wrap (Int.add p (Int.ofNat 1)))))) (some (false,())))
abbrev gz1:Type:=ElA [(.list qac),(.int .i64)]->Option Rtz1
abbrev sz1(g:gz1):Sm:=⟨[(.list qac),(.int .i64)],[(false,.bool)],g⟩
abbrev Ez1(g:gz1)(J:JT Rtz1)(lf:Nat)(x1:(List qaa))(x2:Int):=qbs Tryz.prog ttT.get nmz1 fi51.nt (clz1 _ lf) lf stz1 J fi51.body [] (qaz (argV [(.list qac),(.int .i64)] (x1,x2,())) 0 .leaf) S0 [] (qay ttT.get fi51 (sz1 g))
abbrev Bz1(g:gz1)(J:JT Rtz1)(lf k:Nat)(ms:List Nat)(q:NRes):=qcb Tryz.prog ttT.get nmz1 fi51.nt (clz1 _ lf) lf stz1 J k fi51.body [] ms q (qay ttT.get fi51 (sz1 g))
theorem inz1(g:gz1)(J:JT Rtz1)(lf:Nat)(x1:(List qaa))(x2:Int):Ez1 g J lf x1 x2=qvk lf x1 x2 (fun q=>J 2 [lf] (qie x1 x2 q)):=by kernel_rfl
theorem zbh(g:gz1)(J:JT Rtz1)(lf:Nat)(x1:(List qaa))(x2:Int)(m1:Nat)(p:Int):Bz1 g J lf 2 [m1] (qie x1 x2 p)=qjq lf x1 x2 (fun q=>J 2 [m1] (qie x1 x2 q)) p:=by kernel_rfl
theorem ndz1:(regs fi51.body).Nodup:=by decide +kernel
theorem okz1:okC nmz1 stz1 hdz1 fi51.body none=true:=by kernel_rfl
def Az1(g:gz1)(lf:Nat):JT Rtz1:=atN Tryz.prog ttT.get nmz1 fi51 (sz1 g) (clz1 _ lf) lf hdz1
def qqn(lf:Nat)(x1:(List qaa))(x2:Int):Nat->(Int)->Option Rtz1:=qa1 fun K p=>qjq lf x1 x2 K p
theorem q3f(g:gz1)(lf:Nat)(x1:(List qaa))(x2:Int):∀(n:Nat) (p:Int),Az1 g lf 2 [n] (qie x1 x2 p)=qqn lf x1 x2 n p
 | 0,p=>qbq 2 [0] rfl _
 | n+1,p=>by
  have ih:=q3f g lf x1 x2 n;refine(qbp (qa7 20 _) ndz1 okz1 2 [n+1] [n] rfl _).trans ((zbh g (Az1 g lf) lf x1 x2 n p).trans ?_);rw[(show (fun q=>Az1 g lf 2 [n] (qie x1 x2 q))=(fun q=>qqn lf x1 x2 n q) from funext ih)];rfl
def Fz1(lf:Nat)(x1:(List qaa))(x2:Int):Option Rtz1:=qvk lf x1 x2 (fun q=>qqn lf x1 x2 lf q)
theorem zns(g:gz1)(lf:Nat)(x1:(List qaa))(x2:Int):Ez1 g (Az1 g lf) lf x1 x2=Fz1 lf x1 x2:=by
  refine(inz1 g (Az1 g lf) lf x1 x2).trans ?_;rw[(show (fun q=>Az1 g lf 2 [lf] (qie x1 x2 q))=(fun q=>qqn lf x1 x2 lf q) from funext fun q=>q3f g lf x1 x2 lf q)];rfl
theorem zi3:qbd Tryz.prog qzr:=trivial
theorem mkz1{g:gz1}(hsm:SmOK Tryz.prog q1f)(hg:∀(x:ElA [(.list qac),(.int .i64)]) (y:Rtz1),WfA [(.list qac),(.int .i64)] x->g x=some y->∃lf,Fz1 lf x.1 x.2.1=some y):Con Tryz.prog 51 ⟨[(.list qac),(.int .i64)],[(false,.bool)],g⟩ :=
 conV (st:=stz1) (fun lf x=>Fz1 lf x.1 x.2.1) cm3 zbv zi3 ndz1 okz1 (fun lf x=>zns g lf x.1 x.2.1) hsm hg
def nmz2:Nat->Option Nm:=fun k=>cond (Nat.beq k 2) (some ⟨[0,3],[],[],[],[],0,0,false⟩) (none)
def stz2:Nat->Bool:=fun k=>cond (Nat.beq k 2) true (false)
def hdz2:=stz2
abbrev Rtz2:Type:=Bool × Unit
def q53:List (Nat × Sm):=[]
def qy1:List (Nat × Hx):=[]
def clz2(R:Type)(lf:Nat):ClK R:=qa3 Tryz.prog ttT.get ftT.get (nm1 45 nmz2) (smL q53) (hxL qy1) lf 20 R
abbrev idz2:Nat:=45
def qik(x1:(List (List qax)))(p:Int):NRes:=(NRes.mk (.node (some (IV.lst (TC.list cCosignerlaw23Change) x1)) (.node none (.node (some (IV.int .i64 p)) .leaf .leaf) .leaf) .leaf) (IS.mk .leaf 0) [] 0)
def qrq(lf:Nat)(x1:(List (List qax)))(L2:Int->Option Rtz2):Option Rtz2:=(L2 (Int.ofNat 0))
def qkd(lf:Nat)(x1:(List (List qax)))(L2:Int->Option Rtz2)(p:Int):Option Rtz2:=(cond (iltI p (Int.ofNat x1.length)) (match (jget x1 p) with|none=>none|some v0=>(cond (iltI (Int.ofNat 10) (Int.ofNat v0.length)) (some (false,())) (L2 (IntKind.i64.wrap (Int.add p (Int.ofNat 1)))))) (some ((Bool.not (iltI (Int.ofNat 12) (Int.ofNat x1.length))),())))
abbrev gz2:Type:=ElA [(.list (.list cCosignerlaw23Change))]->Option Rtz2
abbrev sz2(g:gz2):Sm:=⟨[(.list (.list cCosignerlaw23Change))],[(false,.bool)],g⟩
abbrev Ez2(g:gz2)(J:JT Rtz2)(lf:Nat)(x1:(List (List qax))):=qbs Tryz.prog ttT.get nmz2 fi45.nt (clz2 _ lf) lf stz2 J fi45.body [] (qaz (argV [(.list (.list cCosignerlaw23Change))] (x1,())) 0 .leaf) S0 [] (qay ttT.get fi45 (sz2 g))
abbrev Bz2(g:gz2)(J:JT Rtz2)(lf k:Nat)(ms:List Nat)(q:NRes):=qcb Tryz.prog ttT.get nmz2 fi45.nt (clz2 _ lf) lf stz2 J k fi45.body [] ms q (qay ttT.get fi45 (sz2 g))
theorem inz2(g:gz2)(J:JT Rtz2)(lf:Nat)(x1:(List (List qax))):Ez2 g J lf x1=qrq lf x1 (fun q=>J 2 [lf] (qik x1 q)):=by kernel_rfl
theorem zfr(g:gz2)(J:JT Rtz2)(lf:Nat)(x1:(List (List qax)))(m1:Nat)(p:Int):Bz2 g J lf 2 [m1] (qik x1 p)=qkd lf x1 (fun q=>J 2 [m1] (qik x1 q)) p:=by kernel_rfl
theorem ndz2:(regs fi45.body).Nodup:=by decide +kernel
theorem okz2:okC nmz2 stz2 hdz2 fi45.body none=true:=by kernel_rfl
def Az2(g:gz2)(lf:Nat):JT Rtz2:=atN Tryz.prog ttT.get nmz2 fi45 (sz2 g) (clz2 _ lf) lf hdz2
def qqo(lf:Nat)(x1:(List (List qax))):Nat->(Int)->Option Rtz2:=qa1 fun K p=>qkd lf x1 K p
theorem q67(g:gz2)(lf:Nat)(x1:(List (List qax))):∀(n:Nat) (p:Int),Az2 g lf 2 [n] (qik x1 p)=qqo lf x1 n p
 | 0,p=>qbq 2 [0] rfl _
 | n+1,p=>by
  have ih:=q67 g lf x1 n;refine(qbp (qa7 20 _) ndz2 okz2 2 [n+1] [n] rfl _).trans ((zfr g (Az2 g lf) lf x1 n p).trans ?_);rw[(show (fun q=>Az2 g lf 2 [n] (qik x1 q))=(fun q=>qqo lf x1 n q) from funext ih)];rfl
def Fz2(lf:Nat)(x1:(List (List qax))):Option Rtz2:=qrq lf x1 (fun q=>qqo lf x1 lf q)
theorem zmk(g:gz2)(lf:Nat)(x1:(List (List qax))):Ez2 g (Az2 g lf) lf x1=Fz2 lf x1:=by
  refine(inz2 g (Az2 g lf) lf x1).trans ?_;rw[(show (fun q=>Az2 g lf 2 [lf] (qik x1 q))=(fun q=>qqo lf x1 lf q) from funext fun q=>q67 g lf x1 lf q)];rfl
theorem zn7:qbd Tryz.prog qy1:=trivial
theorem mkz2{g:gz2}(hsm:SmOK Tryz.prog q53)(hg:∀(x:ElA [(.list (.list cCosignerlaw23Change))]) (y:Rtz2),WfA [(.list (.list cCosignerlaw23Change))] x->g x=some y->∃lf,Fz2 lf x.1=some y):Con Tryz.prog 45 ⟨[(.list (.list cCosignerlaw23Change))],[(false,.bool)],g⟩ :=
 conV (st:=stz2) (fun lf x=>Fz2 lf x.1) cm3 zma zn7 ndz2 okz2 (fun lf x=>zmk g lf x.1) hsm hg
def nmz3:Nat->Option Nm:=fun k=>cond (Nat.beq k 3) (some ⟨[0,3,4],[(3,qac)],[],[],[],0,0,false⟩) (cond (Nat.beq k 6) (some ⟨[0,3,4,5],[(3,qac)],[],[],[],0,0,false⟩) (cond (Nat.beq k 11) (some ⟨[0,3,4,5,6,7],[(3,qac)],[],[],[],0,0,false⟩) (none)))
def stz3:Nat->Bool:=fun k=>cond (Nat.beq k 3) true (cond (Nat.beq k 6) true (cond (Nat.beq k 11) true (false)))
def hdz3:=stz3
abbrev Rtz3:Type:=(List qaa) × Unit
def qzo:List (Nat × Sm):=[]
def q4h:List (Nat × Hx):=[]
def clz3(R:Type)(lf:Nat):ClK R:=qa3 Tryz.prog ttT.get ftT.get (nm1 47 nmz3) (smL qzo) (hxL q4h) lf 20 R
abbrev idz3:Nat:=47
def qdi(x1:(List qax))(p:Int × (List qaa)):NRes:=(NRes.mk (.node (some (IV.lst cCosignerlaw23Change x1)) (.node none (.node (some (IV.arr 0)) .leaf .leaf) .leaf) (.node none (.node (some (IV.int .i64 p.1)) .leaf .leaf) .leaf)) (IS.mk (.node (some (IObj.arr qac p.2)) .leaf .leaf) 1) [] 0)
def qe2(x1:(List qax))(p:Int × Int × (List qaa)):NRes:=(NRes.mk (.node (some (IV.lst cCosignerlaw23Change x1)) (.node none (.node (some (IV.arr 0)) .leaf .leaf) (.node (some (IV.int .i64 p.1)) .leaf .leaf)) (.node none (.node (some (IV.int .i64 p.2.1)) .leaf .leaf) .leaf)) (IS.mk (.node (some (IObj.arr qac p.2.2)) .leaf .leaf) 1) [] 0)
def qh9(x1:(List qax))(p:Bool × Int × Int × ByteArray × Int × (List qaa) × Int):NRes:=(NRes.mk (.node (some (IV.lst cCosignerlaw23Change x1)) (.node none (.node (some (IV.arr 0)) (.node (some (IV.int .i64 p.2.2.1)) .leaf .leaf) .leaf) (.node (some (IV.int .i64 p.2.1)) .leaf .leaf)) (.node none (.node (some (IV.int .i64 p.2.2.2.2.1)) .leaf .leaf) (.node (some (IV.ptr 1 0)) .leaf .leaf))) (IS.mk (.node (some (IObj.arr qac p.2.2.2.2.2.1)) (.node (some (IObj.row (List.cons (IV.int .i64 p.2.2.2.2.2.2) (List.cons (IV.str p.2.2.2.1) [(IV.bool p.1)])))) .leaf .leaf) .leaf) 2) [] 0)
def qs7(lf:Nat)(x1:(List qax))(L3:(Int × (List qaa))->Option Rtz3):Option Rtz3:=(L3 ((Int.ofNat 0),[]))
def qpu(lf:Nat)(x1:(List qax))(L6:(Int × Int × (List qaa))->Option Rtz3)(p:Int × (List qaa)):Option Rtz3:=(cond (Bool.not (iltI (Int.ofNat 24) p.1)) (L6 ((IntKind.i64.wrap (Int.sub (Int.ofNat x1.length) (Int.ofNat 1))),p.1,p.2)) (some (p.2,())))
def qmk(lf:Nat)(x1:(List qax))(L6:(Int × Int × (List qaa))->Option Rtz3)(L11:(Bool × Int × Int × ByteArray × Int × (List qaa) × Int)->Option Rtz3)(L3:(Int × (List qaa))->Option Rtz3)(p:Int × Int × (List qaa)):Option Rtz3:=(cond (Bool.not (iltI p.1 (Int.ofNat 0))) (match (jget x1 p.1) with|none=>none|some v0=>(cond (Bool.not (ieqI (Int.tmod (IntKind.i64.wrap v0.1) (Int.ofNat 25)) p.2.1)) (L6 ((IntKind.i64.wrap (Int.sub p.1 (Int.ofNat 1))),p.2.1,p.2.2)) (match (jget x1 p.1) with|none=>none|some v26=>(L11 (v26.2.2.2,p.1,(Int.ofNat 0),(S.lit []),p.2.1,p.2.2,p.2.1))))) (L3 ((IntKind.i64.wrap (Int.add p.2.1 (Int.ofNat 1))),p.2.2)))
def qov(lf:Nat)(x1:(List qax))(L11:(Bool × Int × Int × ByteArray × Int × (List qaa) × Int)->Option Rtz3)(L3:(Int × (List qaa))->Option Rtz3)(p:Bool × Int × Int × ByteArray × Int × (List qaa) × Int):Option Rtz3:=(match (jget x1 p.2.1) with|none=>none|some v0=>(cond (iltI p.2.2.1 (IntKind.i64.wrap v0.2.1)) (cond (Bool.not p.1) (match (jget x1 p.2.1) with|none=>none|some v1=>(cond (Nat.ble (Nat.succ (Nat.add p.2.2.2.1.size 1)) 9223372036854775808) (L11 (p.1,p.2.1,(IntKind.i64.wrap (Int.add p.2.2.1 (Int.ofNat 1))),(ByteArray.append p.2.2.2.1 (ByteArray.mk (Array.mk (List.cons (UInt8.ofBitVec (BitVec.ofFin (Fin.mk (Nat.mod (Int.toNat v1.2.2.1) 256) (jc1 (Int.toNat v1.2.2.1) (BitVec.ofNat._proof_1 (OfNat.ofNat 8)))))) [])))),p.2.2.2.2.1,p.2.2.2.2.2.1,p.2.2.2.2.2.2)) none)) (cond (Nat.ble (Nat.mul (Nat.add p.2.2.2.2.2.1.length 1) 32) 140737488355328) (L3 ((IntKind.i64.wrap (Int.add p.2.2.2.2.1 (Int.ofNat 1))),(List.append p.2.2.2.2.2.1 [(p.2.2.2.2.2.2,(p.2.2.2.1,p.1))]))) none)) (cond (Nat.ble (Nat.mul (Nat.add p.2.2.2.2.2.1.length 1) 32) 140737488355328) (L3 ((IntKind.i64.wrap (Int.add p.2.2.2.2.1 (Int.ofNat 1))),(List.append p.2.2.2.2.2.1 [(p.2.2.2.2.2.2,(p.2.2.2.1,p.1))]))) none)))
abbrev gz3:Type:=ElA [(.list cCosignerlaw23Change)]->Option Rtz3
abbrev sz3(g:gz3):Sm:=⟨[(.list cCosignerlaw23Change)],[(true,qac)],g⟩
abbrev Ez3(g:gz3)(J:JT Rtz3)(lf:Nat)(x1:(List qax)):=qbs Tryz.prog ttT.get nmz3 fi47.nt (clz3 _ lf) lf stz3 J fi47.body [] (qaz (argV [(.list cCosignerlaw23Change)] (x1,())) 0 .leaf) S0 [] (qay ttT.get fi47 (sz3 g))
abbrev Bz3(g:gz3)(J:JT Rtz3)(lf k:Nat)(ms:List Nat)(q:NRes):=qcb Tryz.prog ttT.get nmz3 fi47.nt (clz3 _ lf) lf stz3 J k fi47.body [] ms q (qay ttT.get fi47 (sz3 g))
theorem inz3(g:gz3)(J:JT Rtz3)(lf:Nat)(x1:(List qax)):Ez3 g J lf x1=qs7 lf x1 (fun q=>J 3 [lf] (qdi x1 q)):=by kernel_rfl
theorem zeg(g:gz3)(J:JT Rtz3)(lf:Nat)(x1:(List qax))(m1:Nat)(p:Int × (List qaa)):Bz3 g J lf 3 [m1] (qdi x1 p)=qpu lf x1 (fun q=>J 6 [m1,lf] (qe2 x1 q)) p:=by kernel_rfl
theorem zf3(g:gz3)(J:JT Rtz3)(lf:Nat)(x1:(List qax))(m1:Nat)(m2:Nat)(p:Int × Int × (List qaa)):Bz3 g J lf 6 [m1,m2] (qe2 x1 p)=qmk lf x1 (fun q=>J 6 [m1,m2] (qe2 x1 q)) (fun q=>J 11 [m1,m2,lf] (qh9 x1 q)) (fun q=>J 3 [m1] (qdi x1 q)) p:=by kernel_rfl
theorem zih(g:gz3)(J:JT Rtz3)(lf:Nat)(x1:(List qax))(m1:Nat)(m2:Nat)(m3:Nat)(p:Bool × Int × Int × ByteArray × Int × (List qaa) × Int):Bz3 g J lf 11 [m1,m2,m3] (qh9 x1 p)=qov lf x1 (fun q=>J 11 [m1,m2,m3] (qh9 x1 q)) (fun q=>J 3 [m1] (qdi x1 q)) p:=by kernel_rfl
theorem ndz3:(regs fi47.body).Nodup:=by decide +kernel
theorem okz3:okC nmz3 stz3 hdz3 fi47.body none=true:=by kernel_rfl
def Az3(g:gz3)(lf:Nat):JT Rtz3:=atN Tryz.prog ttT.get nmz3 fi47 (sz3 g) (clz3 _ lf) lf hdz3
def qgk(lf:Nat)(x1:(List qax))(K3:(Int × (List qaa))->Option Rtz3)(K6:(Int × Int × (List qaa))->Option Rtz3):Nat->(Bool × Int × Int × ByteArray × Int × (List qaa) × Int)->Option Rtz3:=qa1 fun K p=>qov lf x1 K K3 p
theorem q51(g:gz3)(lf:Nat)(x1:(List qax))(m1:Nat)(m2:Nat):∀(n:Nat) (p:Bool × Int × Int × ByteArray × Int × (List qaa) × Int),Az3 g lf 11 [m1,m2,n] (qh9 x1 p)=qgk lf x1 (fun q=>Az3 g lf 3 [m1] (qdi x1 q)) (fun q=>Az3 g lf 6 [m1,m2] (qe2 x1 q)) n p
 | 0,p=>qbq 11 [m1,m2,0] rfl _
 | n+1,p=>by
  have ih:=q51 g lf x1 m1 m2 n;refine(qbp (qa7 20 _) ndz3 okz3 11 [m1,m2,n+1] [m1,m2,n] rfl _).trans ((zih g (Az3 g lf) lf x1 m1 m2 n p).trans ?_);rw[(show (fun q=>Az3 g lf 11 [m1,m2,n] (qh9 x1 q))=(fun q=>qgk lf x1 (fun q=>Az3 g lf 3 [m1] (qdi x1 q)) (fun q=>Az3 g lf 6 [m1,m2] (qe2 x1 q)) n q) from funext ih)];rfl
def qfm(lf:Nat)(x1:(List qax))(K3:(Int × (List qaa))->Option Rtz3):Nat->(Int × Int × (List qaa))->Option Rtz3:=qa1 fun K p=>qmk lf x1 K (fun q=>qgk lf x1 K3 K lf q) K3 p
theorem q76(g:gz3)(lf:Nat)(x1:(List qax))(m1:Nat):∀(n:Nat) (p:Int × Int × (List qaa)),Az3 g lf 6 [m1,n] (qe2 x1 p)=qfm lf x1 (fun q=>Az3 g lf 3 [m1] (qdi x1 q)) n p
 | 0,p=>qbq 6 [m1,0] rfl _
 | n+1,p=>by
  have ih:=q76 g lf x1 m1 n;refine(qbp (qa7 20 _) ndz3 okz3 6 [m1,n+1] [m1,n] rfl _).trans ((zf3 g (Az3 g lf) lf x1 m1 n p).trans ?_);rw[(show (fun q=>Az3 g lf 11 [m1,n,lf] (qh9 x1 q))=(fun q=>qgk lf x1 (fun q=>Az3 g lf 3 [m1] (qdi x1 q)) (fun q=>Az3 g lf 6 [m1,n] (qe2 x1 q)) lf q) from funext fun q=>q51 g lf x1 m1 n lf q),(show (fun q=>Az3 g lf 6 [m1,n] (qe2 x1 q))=(fun q=>qfm lf x1 (fun q=>Az3 g lf 3 [m1] (qdi x1 q)) n q) from funext ih)];rfl
def qhb(lf:Nat)(x1:(List qax)):Nat->(Int × (List qaa))->Option Rtz3:=qa1 fun K p=>qpu lf x1 (fun q=>qfm lf x1 K lf q) p
theorem q0i(g:gz3)(lf:Nat)(x1:(List qax)):∀(n:Nat) (p:Int × (List qaa)),Az3 g lf 3 [n] (qdi x1 p)=qhb lf x1 n p
 | 0,p=>qbq 3 [0] rfl _
 | n+1,p=>by
  have ih:=q0i g lf x1 n;refine(qbp (qa7 20 _) ndz3 okz3 3 [n+1] [n] rfl _).trans ((zeg g (Az3 g lf) lf x1 n p).trans ?_);rw[(show (fun q=>Az3 g lf 6 [n,lf] (qe2 x1 q))=(fun q=>qfm lf x1 (fun q=>Az3 g lf 3 [n] (qdi x1 q)) lf q) from funext fun q=>q76 g lf x1 n lf q),(show (fun q=>Az3 g lf 3 [n] (qdi x1 q))=(fun q=>qhb lf x1 n q) from funext ih)];rfl
def Fz3(lf:Nat)(x1:(List qax)):Option Rtz3:=qs7 lf x1 (fun q=>qhb lf x1 lf q)
theorem zkn(g:gz3)(lf:Nat)(x1:(List qax)):Ez3 g (Az3 g lf) lf x1=Fz3 lf x1:=by
  refine(inz3 g (Az3 g lf) lf x1).trans ?_;rw[(show (fun q=>Az3 g lf 3 [lf] (qdi x1 q))=(fun q=>qhb lf x1 lf q) from funext fun q=>q0i g lf x1 lf q)];rfl
theorem zo2:qbd Tryz.prog q4h:=trivial
theorem mkz3{g:gz3}(hsm:SmOK Tryz.prog qzo)(hg:∀(x:ElA [(.list cCosignerlaw23Change)]) (y:Rtz3),WfA [(.list cCosignerlaw23Change)] x->g x=some y->∃lf,Fz3 lf x.1=some y):Con Tryz.prog 47 ⟨[(.list cCosignerlaw23Change)],[(true,qac)],g⟩ :=
 conV (st:=stz3) (fun lf x=>Fz3 lf x.1) cm3 zd6 zo2 ndz3 okz3 (fun lf x=>zkn g lf x.1) hsm hg
def nmz4:Nat->Option Nm:=fun k=>cond (Nat.beq k 3) (some ⟨[0,1,5,6],[(5,qac)],[],[],[],0,0,false⟩) (cond (Nat.beq k 6) (some ⟨[0,1,5,6,7],[(5,qac)],[],[],[],0,0,false⟩) (cond (Nat.beq k 11) (some ⟨[0,1,5,6,8],[(5,qac)],[],[],[],0,0,false⟩) (none)))
def stz4:Nat->Bool:=fun k=>cond (Nat.beq k 3) true (cond (Nat.beq k 6) true (cond (Nat.beq k 11) true (false)))
def hdz4:=stz4
abbrev Rtz4:Type:=(List qaa) × Unit
def qx6:List (Nat × Sm):=[(51,spz1)]
def q8t:List (Nat × Hx):=[]
def clz4(R:Type)(lf:Nat):ClK R:=qa3 Tryz.prog ttT.get ftT.get (nm1 48 nmz4) (smL qx6) (hxL q8t) lf 20 R
abbrev idz4:Nat:=48
def qdl(x1:(List qaa))(x2:(List qaa))(p:Int × (List qaa)):NRes:=(NRes.mk (.node (some (IV.lst qac x1)) (.node (some (IV.lst qac x2)) .leaf (.node (some (IV.arr 0)) .leaf .leaf)) (.node none .leaf (.node (some (IV.int .i64 p.1)) .leaf .leaf))) (IS.mk (.node (some (IObj.arr qac p.2)) .leaf .leaf) 1) [] 0)
def qhd(x1:(List qaa))(x2:(List qaa))(p:Int × (List qaa) × Int):NRes:=(NRes.mk (.node (some (IV.lst qac x1)) (.node (some (IV.lst qac x2)) (.node none (.node (some (IV.int .i64 p.1)) .leaf .leaf) .leaf) (.node (some (IV.arr 0)) .leaf .leaf)) (.node none .leaf (.node (some (IV.int .i64 p.2.2)) .leaf .leaf))) (IS.mk (.node (some (IObj.arr qac p.2.1)) .leaf .leaf) 1) [] 0)
def qhj(x1:(List qaa))(x2:(List qaa))(p:(List qaa) × Int × Int):NRes:=(NRes.mk (.node (some (IV.lst qac x1)) (.node (some (IV.lst qac x2)) .leaf (.node (some (IV.arr 0)) .leaf .leaf)) (.node none (.node none (.node (some (IV.int .i64 p.2.1)) .leaf .leaf) .leaf) (.node (some (IV.int .i64 p.2.2)) .leaf .leaf))) (IS.mk (.node (some (IObj.arr qac p.1)) .leaf .leaf) 1) [] 0)
def qse(lf:Nat)(x1:(List qaa))(x2:(List qaa))(L3:(Int × (List qaa))->Option Rtz4):Option Rtz4:=(L3 ((Int.ofNat 0),[]))
def qq2(lf:Nat)(x1:(List qaa))(x2:(List qaa))(L6:(Int × (List qaa) × Int)->Option Rtz4)(p:Int × (List qaa)):Option Rtz4:=(cond (Bool.not (iltI (Int.ofNat 199) p.1)) (L6 ((Int.ofNat 0),p.2,p.1)) (some (p.2,())))
def qk9(lf:Nat)(x1:(List qaa))(x2:(List qaa))(L6:(Int × (List qaa) × Int)->Option Rtz4)(L11:((List qaa) × Int × Int)->Option Rtz4)(p:Int × (List qaa) × Int):Option Rtz4:=(cond (iltI p.1 (Int.ofNat x1.length)) (match (jget x1 p.1) with|none=>none|some v0=>(cond (ieqI v0.1 p.2.2) (cond (Bool.not (S.namesC x2 p.2.2)) (match (jget x1 p.1) with|none=>none|some v1=>(cond (Nat.ble (Nat.mul (Nat.add p.2.1.length 1) 32) 140737488355328) (L6 ((IntKind.i64.wrap (Int.add p.1 (Int.ofNat 1))),(List.append p.2.1 [(v1.1,(v1.2.1,v1.2.2))]),p.2.2)) none)) (L6 ((IntKind.i64.wrap (Int.add p.1 (Int.ofNat 1))),p.2.1,p.2.2))) (L6 ((IntKind.i64.wrap (Int.add p.1 (Int.ofNat 1))),p.2.1,p.2.2)))) (L11 (p.2.1,(Int.ofNat 0),p.2.2)))
def qk2(lf:Nat)(x1:(List qaa))(x2:(List qaa))(L11:((List qaa) × Int × Int)->Option Rtz4)(L3:(Int × (List qaa))->Option Rtz4)(p:(List qaa) × Int × Int):Option Rtz4:=(cond (iltI p.2.1 (Int.ofNat x2.length)) (match (jget x2 p.2.1) with|none=>none|some v0=>(cond (ieqI v0.1 p.2.2) (match (jget x2 p.2.1) with|none=>none|some v1=>(cond (Bool.not v1.2.2) (match (jget x2 p.2.1) with|none=>none|some v2=>(cond (Nat.ble (Nat.mul (Nat.add p.1.length 1) 32) 140737488355328) (L11 ((List.append p.1 [(v2.1,(v2.2.1,v2.2.2))]),(IntKind.i64.wrap (Int.add p.2.1 (Int.ofNat 1))),p.2.2)) none)) (L11 (p.1,(IntKind.i64.wrap (Int.add p.2.1 (Int.ofNat 1))),p.2.2)))) (L11 (p.1,(IntKind.i64.wrap (Int.add p.2.1 (Int.ofNat 1))),p.2.2)))) (L3 ((IntKind.i64.wrap (Int.add p.2.2 (Int.ofNat 1))),p.1)))
abbrev gz4:Type:=ElA [(.list qac),(.list qac)]->Option Rtz4
abbrev sz4(g:gz4):Sm:=⟨[(.list qac),(.list qac)],[(true,qac)],g⟩
abbrev Ez4(g:gz4)(J:JT Rtz4)(lf:Nat)(x1:(List qaa))(x2:(List qaa)):=qbs Tryz.prog ttT.get nmz4 fi48.nt (clz4 _ lf) lf stz4 J fi48.body [] (qaz (argV [(.list qac),(.list qac)] (x1,x2,())) 0 .leaf) S0 [] (qay ttT.get fi48 (sz4 g))
abbrev Bz4(g:gz4)(J:JT Rtz4)(lf k:Nat)(ms:List Nat)(q:NRes):=qcb Tryz.prog ttT.get nmz4 fi48.nt (clz4 _ lf) lf stz4 J k fi48.body [] ms q (qay ttT.get fi48 (sz4 g))
theorem inz4(g:gz4)(J:JT Rtz4)(lf:Nat)(x1:(List qaa))(x2:(List qaa)):Ez4 g J lf x1 x2=qse lf x1 x2 (fun q=>J 3 [lf] (qdl x1 x2 q)):=by kernel_rfl
theorem zoh(g:gz4)(J:JT Rtz4)(lf:Nat)(x1:(List qaa))(x2:(List qaa))(m1:Nat)(p:Int × (List qaa)):Bz4 g J lf 3 [m1] (qdl x1 x2 p)=qq2 lf x1 x2 (fun q=>J 6 [m1,lf] (qhd x1 x2 q)) p:=by kernel_rfl
theorem zsi(g:gz4)(J:JT Rtz4)(lf:Nat)(x1:(List qaa))(x2:(List qaa))(m1:Nat)(m2:Nat)(p:Int × (List qaa) × Int):Bz4 g J lf 6 [m1,m2] (qhd x1 x2 p)=qk9 lf x1 x2 (fun q=>J 6 [m1,m2] (qhd x1 x2 q)) (fun q=>J 11 [m1,lf] (qhj x1 x2 q)) p:=by kernel_rfl
theorem zeu(g:gz4)(J:JT Rtz4)(lf:Nat)(x1:(List qaa))(x2:(List qaa))(m1:Nat)(m2:Nat)(p:(List qaa) × Int × Int):Bz4 g J lf 11 [m1,m2] (qhj x1 x2 p)=qk2 lf x1 x2 (fun q=>J 11 [m1,m2] (qhj x1 x2 q)) (fun q=>J 3 [m1] (qdl x1 x2 q)) p:=by kernel_rfl
theorem ndz4:(regs fi48.body).Nodup:=by decide +kernel
theorem okz4:okC nmz4 stz4 hdz4 fi48.body none=true:=by kernel_rfl
def Az4(g:gz4)(lf:Nat):JT Rtz4:=atN Tryz.prog ttT.get nmz4 fi48 (sz4 g) (clz4 _ lf) lf hdz4
def qh6(lf:Nat)(x1:(List qaa))(x2:(List qaa))(K3:(Int × (List qaa))->Option Rtz4):Nat->((List qaa) × Int × Int)->Option Rtz4:=qa1 fun K p=>qk2 lf x1 x2 K K3 p
theorem q9l(g:gz4)(lf:Nat)(x1:(List qaa))(x2:(List qaa))(m1:Nat):∀(n:Nat) (p:(List qaa) × Int × Int),Az4 g lf 11 [m1,n] (qhj x1 x2 p)=qh6 lf x1 x2 (fun q=>Az4 g lf 3 [m1] (qdl x1 x2 q)) n p
 | 0,p=>qbq 11 [m1,0] rfl _
 | n+1,p=>by
  have ih:=q9l g lf x1 x2 m1 n;refine(qbp (qa7 20 _) ndz4 okz4 11 [m1,n+1] [m1,n] rfl _).trans ((zeu g (Az4 g lf) lf x1 x2 m1 n p).trans ?_);rw[(show (fun q=>Az4 g lf 11 [m1,n] (qhj x1 x2 q))=(fun q=>qh6 lf x1 x2 (fun q=>Az4 g lf 3 [m1] (qdl x1 x2 q)) n q) from funext ih)];rfl
def qit(lf:Nat)(x1:(List qaa))(x2:(List qaa))(K3:(Int × (List qaa))->Option Rtz4):Nat->(Int × (List qaa) × Int)->Option Rtz4:=qa1 fun K p=>qk9 lf x1 x2 K (fun q=>qh6 lf x1 x2 K3 lf q) p
theorem q6v(g:gz4)(lf:Nat)(x1:(List qaa))(x2:(List qaa))(m1:Nat):∀(n:Nat) (p:Int × (List qaa) × Int),Az4 g lf 6 [m1,n] (qhd x1 x2 p)=qit lf x1 x2 (fun q=>Az4 g lf 3 [m1] (qdl x1 x2 q)) n p
 | 0,p=>qbq 6 [m1,0] rfl _
 | n+1,p=>by
  have ih:=q6v g lf x1 x2 m1 n;refine(qbp (qa7 20 _) ndz4 okz4 6 [m1,n+1] [m1,n] rfl _).trans ((zsi g (Az4 g lf) lf x1 x2 m1 n p).trans ?_);rw[(show (fun q=>Az4 g lf 11 [m1,lf] (qhj x1 x2 q))=(fun q=>qh6 lf x1 x2 (fun q=>Az4 g lf 3 [m1] (qdl x1 x2 q)) lf q) from funext fun q=>q9l g lf x1 x2 m1 lf q),(show (fun q=>Az4 g lf 6 [m1,n] (qhd x1 x2 q))=(fun q=>qit lf x1 x2 (fun q=>Az4 g lf 3 [m1] (qdl x1 x2 q)) n q) from funext ih)];rfl
def qhz(lf:Nat)(x1:(List qaa))(x2:(List qaa)):Nat->(Int × (List qaa))->Option Rtz4:=qa1 fun K p=>qq2 lf x1 x2 (fun q=>qit lf x1 x2 K lf q) p
theorem q3s(g:gz4)(lf:Nat)(x1:(List qaa))(x2:(List qaa)):∀(n:Nat) (p:Int × (List qaa)),Az4 g lf 3 [n] (qdl x1 x2 p)=qhz lf x1 x2 n p
 | 0,p=>qbq 3 [0] rfl _
 | n+1,p=>by
  have ih:=q3s g lf x1 x2 n;refine(qbp (qa7 20 _) ndz4 okz4 3 [n+1] [n] rfl _).trans ((zoh g (Az4 g lf) lf x1 x2 n p).trans ?_);rw[(show (fun q=>Az4 g lf 6 [n,lf] (qhd x1 x2 q))=(fun q=>qit lf x1 x2 (fun q=>Az4 g lf 3 [n] (qdl x1 x2 q)) lf q) from funext fun q=>q6v g lf x1 x2 n lf q),(show (fun q=>Az4 g lf 3 [n] (qdl x1 x2 q))=(fun q=>qhz lf x1 x2 n q) from funext ih)];rfl
def Fz4(lf:Nat)(x1:(List qaa))(x2:(List qaa)):Option Rtz4:=qse lf x1 x2 (fun q=>qhz lf x1 x2 lf q)
theorem zlj(g:gz4)(lf:Nat)(x1:(List qaa))(x2:(List qaa)):Ez4 g (Az4 g lf) lf x1 x2=Fz4 lf x1 x2:=by
  refine(inz4 g (Az4 g lf) lf x1 x2).trans ?_;rw[(show (fun q=>Az4 g lf 3 [lf] (qdl x1 x2 q))=(fun q=>qhz lf x1 x2 lf q) from funext fun q=>q3s g lf x1 x2 lf q)];rfl
theorem zie:qbd Tryz.prog q8t:=trivial
theorem mkz4{g:gz4}(hsm:SmOK Tryz.prog qx6)(hg:∀(x:ElA [(.list qac),(.list qac)]) (y:Rtz4),WfA [(.list qac),(.list qac)] x->g x=some y->∃lf,Fz4 lf x.1 x.2.1=some y):Con Tryz.prog 48 ⟨[(.list qac),(.list qac)],[(true,qac)],g⟩ :=
 conV (st:=stz4) (fun lf x=>Fz4 lf x.1 x.2.1) cm3 zry zie ndz4 okz4 (fun lf x=>zlj g lf x.1 x.2.1) hsm hg
def nmz5:Nat->Option Nm:=fun k=>cond (Nat.beq k 6) (some ⟨[3,8,10,12,13],[(12,(.int .i64))],[],[],[],0,0,false⟩) (none)
def stz5:Nat->Bool:=fun k=>cond (Nat.beq k 6) true (false)
def hdz5:=stz5
abbrev Rtz5:Type:=qah × Bool × Unit
def qzp:List (Nat × Sm):=[(32,qmy),(34,qxn)]
def q1z:List (Nat × Hx):=[]
def clz5(R:Type)(lf:Nat):ClK R:=qa3 Tryz.prog ttT.get ftT.get (nm1 49 nmz5) (smL qzp) (hxL q1z) lf 20 R
abbrev idz5:Nat:=49
def qhw(x1:qah)(x2:q75)(x3:Int)(x4:(List Int))(p:Int × (List Int)):NRes:=(NRes.mk (.node none (.node none (.node (some (IV.lst (TC.int .u8) x4)) .leaf .leaf) (.node none .leaf (.node (some (IV.int .i64 p.1)) .leaf .leaf))) (.node none (.node none (.node (some (IV.ptr 0 0)) .leaf .leaf) (.node (some (IV.arr 2)) .leaf .leaf)) (.node none (.node (some (IV.ptr 1 0)) .leaf .leaf) .leaf))) (IS.mk (.node (some (IObj.row (List.cons IV.nilsl [IV.nilsl]))) (.node (some (IObj.row (List.cons (IV.lst TC.str (S.doD (x1.1,x1.2) (lsub x2 (Int.ofNat 0) x3)).1.1) (List.cons (IV.lst cPut (S.doD (x1.1,x1.2) (lsub x2 (Int.ofNat 0) x3)).1.2) [])))) .leaf .leaf) (.node (some (IObj.arr (TC.int .i64) p.2)) .leaf .leaf)) 3) [] 0)
def qwg(lf:Nat)(x1:qah)(x2:(List DAct))(x3:Int)(x4:(List Int))(L6:(Int × (List Int))->Option Rtz5):Option Rtz5:=(cond (lchk (Int.ofNat 0) x3 (Int.ofNat x2.length) (Int.ofNat x2.length)) (cond (Bool.not (ieqI (S.doD (x1.1,x1.2) (lsub x2 (Int.ofNat 0) x3)).2 (Int.ofNat 0))) (some (((S.doD (x1.1,x1.2) (lsub x2 (Int.ofNat 0) x3)).1.1,(S.doD (x1.1,x1.2) (lsub x2 (Int.ofNat 0) x3)).1.2),(false,()))) (L6 ((Int.ofNat 0),[]))) none)
def qjx(lf:Nat)(x1:qah)(x2:(List DAct))(x3:Int)(x4:(List Int))(L6:(Int × (List Int))->Option Rtz5)(p:Int × (List Int)):Option Rtz5:=(cond (iltI p.1 (Int.ofNat (List.length (S.doD (x1.1,x1.2) (lsub x2 (Int.ofNat 0) x3)).1.2))) (cond (iltI p.1 (Int.ofNat x4.length)) (match (jget x4 p.1) with|none=>none|some v0=>(cond (Nat.ble (Nat.mul (Nat.add p.2.length 1) 8) 140737488355328) (L6 ((IntKind.i64.wrap (Int.add p.1 (Int.ofNat 1))),(List.append p.2 [(Int.tmod (IntKind.i64.wrap v0) (Int.ofNat 65))]))) none)) (some (((S.crash ((S.doD (x1.1,x1.2) (lsub x2 (Int.ofNat 0) x3)).1.1,(S.doD (x1.1,x1.2) (lsub x2 (Int.ofNat 0) x3)).1.2) p.2).1.1,(S.crash ((S.doD (x1.1,x1.2) (lsub x2 (Int.ofNat 0) x3)).1.1,(S.doD (x1.1,x1.2) (lsub x2 (Int.ofNat 0) x3)).1.2) p.2).1.2),((ieqI (S.crash ((S.doD (x1.1,x1.2) (lsub x2 (Int.ofNat 0) x3)).1.1,(S.doD (x1.1,x1.2) (lsub x2 (Int.ofNat 0) x3)).1.2) p.2).2 (Int.ofNat 0)),())))) (some (((S.crash ((S.doD (x1.1,x1.2) (lsub x2 (Int.ofNat 0) x3)).1.1,(S.doD (x1.1,x1.2) (lsub x2 (Int.ofNat 0) x3)).1.2) p.2).1.1,(S.crash ((S.doD (x1.1,x1.2) (lsub x2 (Int.ofNat 0) x3)).1.1,(S.doD (x1.1,x1.2) (lsub x2 (Int.ofNat 0) x3)).1.2) p.2).1.2),((ieqI (S.crash ((S.doD (x1.1,x1.2) (lsub x2 (Int.ofNat 0) x3)).1.1,(S.doD (x1.1,x1.2) (lsub x2 (Int.ofNat 0) x3)).1.2) p.2).2 (Int.ofNat 0)),()))))
abbrev gz5:Type:=ElA [qan,(.list cAct),(.int .i64),(.list (.int .u8))]->Option Rtz5
abbrev sz5(g:gz5):Sm:=⟨[qan,(.list cAct),(.int .i64),(.list (.int .u8))],[(false,qan),(false,.bool)],g⟩
abbrev Ez5(g:gz5)(J:JT Rtz5)(lf:Nat)(x1:qah)(x2:(List DAct))(x3:Int)(x4:(List Int)):=qbs Tryz.prog ttT.get nmz5 fi49.nt (clz5 _ lf) lf stz5 J fi49.body [] (qaz (argV [qan,(.list cAct),(.int .i64),(.list (.int .u8))] (x1,x2,x3,x4,())) 0 .leaf) S0 [] (qay ttT.get fi49 (sz5 g))
abbrev Bz5(g:gz5)(J:JT Rtz5)(lf k:Nat)(ms:List Nat)(q:NRes):=qcb Tryz.prog ttT.get nmz5 fi49.nt (clz5 _ lf) lf stz5 J k fi49.body [] ms q (qay ttT.get fi49 (sz5 g))
theorem inz5(g:gz5)(J:JT Rtz5)(lf:Nat)(x1:qah)(x2:(List DAct))(x3:Int)(x4:(List Int)):Ez5 g J lf x1 x2 x3 x4=qwg lf x1 x2 x3 x4 (fun q=>J 6 [lf] (qhw x1 x2 x3 x4 q)):=by kernel_rfl
theorem zdm(g:gz5)(J:JT Rtz5)(lf:Nat)(x1:qah)(x2:(List DAct))(x3:Int)(x4:(List Int))(m1:Nat)(p:Int × (List Int)):Bz5 g J lf 6 [m1] (qhw x1 x2 x3 x4 p)=qjx lf x1 x2 x3 x4 (fun q=>J 6 [m1] (qhw x1 x2 x3 x4 q)) p:=by kernel_rfl
theorem ndz5:(regs fi49.body).Nodup:=by decide +kernel
theorem okz5:okC nmz5 stz5 hdz5 fi49.body none=true:=by kernel_rfl
def Az5(g:gz5)(lf:Nat):JT Rtz5:=atN Tryz.prog ttT.get nmz5 fi49 (sz5 g) (clz5 _ lf) lf hdz5
def qmw(lf:Nat)(x1:qah)(x2:(List DAct))(x3:Int)(x4:(List Int)):Nat->(Int × (List Int))->Option Rtz5:=qa1 fun K p=>qjx lf x1 x2 x3 x4 K p
theorem q72(g:gz5)(lf:Nat)(x1:qah)(x2:(List DAct))(x3:Int)(x4:(List Int)):∀(n:Nat) (p:Int × (List Int)),Az5 g lf 6 [n] (qhw x1 x2 x3 x4 p)=qmw lf x1 x2 x3 x4 n p
 | 0,p=>qbq 6 [0] rfl _
 | n+1,p=>by
  have ih:=q72 g lf x1 x2 x3 x4 n;refine(qbp (qa7 20 _) ndz5 okz5 6 [n+1] [n] rfl _).trans ((zdm g (Az5 g lf) lf x1 x2 x3 x4 n p).trans ?_);rw[(show (fun q=>Az5 g lf 6 [n] (qhw x1 x2 x3 x4 q))=(fun q=>qmw lf x1 x2 x3 x4 n q) from funext ih)];rfl
def Fz5(lf:Nat)(x1:qah)(x2:(List DAct))(x3:Int)(x4:(List Int)):Option Rtz5:=qwg lf x1 x2 x3 x4 (fun q=>qmw lf x1 x2 x3 x4 lf q)
theorem zon(g:gz5)(lf:Nat)(x1:qah)(x2:(List DAct))(x3:Int)(x4:(List Int)):Ez5 g (Az5 g lf) lf x1 x2 x3 x4=Fz5 lf x1 x2 x3 x4:=by
  refine(inz5 g (Az5 g lf) lf x1 x2 x3 x4).trans ?_;rw[(show (fun q=>Az5 g lf 6 [lf] (qhw x1 x2 x3 x4 q))=(fun q=>qmw lf x1 x2 x3 x4 lf q) from funext fun q=>q72 g lf x1 x2 x3 x4 lf q)];rfl
theorem zl9:qbd Tryz.prog q1z:=trivial
theorem mkz5{g:gz5}(hsm:SmOK Tryz.prog qzp)(hg:∀(x:ElA [qan,(.list cAct),(.int .i64),(.list (.int .u8))]) (y:Rtz5),WfA [qan,(.list cAct),(.int .i64),(.list (.int .u8))] x->g x=some y->∃lf,Fz5 lf x.1 x.2.1 x.2.2.1 x.2.2.2.1=some y):Con Tryz.prog 49 ⟨[qan,(.list cAct),(.int .i64),(.list (.int .u8))],[(false,qan),(false,.bool)],g⟩ :=
 conV (st:=stz5) (fun lf x=>Fz5 lf x.1 x.2.1 x.2.2.1 x.2.2.2.1) cm3 zjd zl9 ndz5 okz5 (fun lf x=>zon g lf x.1 x.2.1 x.2.2.1 x.2.2.2.1) hsm hg
def nmz6:Nat->Option Nm:=fun k=>cond (Nat.beq k 3) (some ⟨[1,4,6,7,8],[],[],[],[],0,0,false⟩) (none)
def stz6:Nat->Bool:=fun k=>cond (Nat.beq k 3) true (false)
def hdz6:=stz6
abbrev Rtz6:Type:=qad × Bool × Unit
def q1x:List (Nat × Sm):=[(52,q7l),(47,spz3),(43,q3d)]
def q5u:List (Nat × Hx):=[]
def clz6(R:Type)(lf:Nat):ClK R:=qa3 Tryz.prog ttT.get ftT.get (nm1 46 nmz6) (smL q1x) (hxL q5u) lf 20 R
abbrev idz6:Nat:=46
def qi2(x1:Int)(x2:(List (List qax)))(p:Bool × (List DPut) × (List ByteArray) × Int × (List qaa) × Int × Int):NRes:=(NRes.mk (.node none (.node (some (IV.lst (TC.list cCosignerlaw23Change) x2)) (.node none (.node (some (IV.bool p.1)) .leaf .leaf) .leaf) .leaf) (.node none (.node (some (IV.ptr 0 0)) (.node (some (IV.int .i64 p.2.2.2.2.2.2)) .leaf .leaf) .leaf) (.node (some (IV.ptr 1 0)) .leaf .leaf))) (IS.mk (.node (some (IObj.row (List.cons IV.nilsl (List.cons IV.nilsl (List.cons (IV.int .i64 (Int.ofNat 0)) (List.cons (IV.int .i64 (Int.ofNat 0)) [IV.nilsl])))))) (.node (some (IObj.row (List.cons (IV.lst TC.str p.2.2.1) (List.cons (IV.lst cPut p.2.1) (List.cons (IV.int .i64 p.2.2.2.1) (List.cons (IV.int .i64 p.2.2.2.2.2.1) [(IV.lst qac p.2.2.2.2.1)])))))) .leaf .leaf) .leaf) 2) [] 0)
def qvi(lf:Nat)(x1:Int)(x2:(List (List qax)))(L3:(Bool × (List DPut) × (List ByteArray) × Int × (List qaa) × Int × Int)->Option Rtz6):Option Rtz6:=(match (cond (S.evn (IntKind.i64.wrap (Int.add (Int.ofNat 8) (IntKind.i64.wrap (Int.mul (Int.ofNat 2) (IntKind.i64.wrap (Int.tmod x1 (Int.ofNat 17)))))))) (some ((S.madeN (IntKind.i64.wrap (Int.add (Int.ofNat 8) (IntKind.i64.wrap (Int.mul (Int.ofNat 2) (IntKind.i64.wrap (Int.tmod x1 (Int.ofNat 17)))))))),(true,()))) none) with|none=>none|some v0=>(L3 (v0.2.1,v0.1.1.2,v0.1.1.1,v0.1.2.1,v0.1.2.2.2,v0.1.2.2.1,(Int.ofNat 0))))
def qln(lf:Nat)(x1:Int)(x2:(List (List qax)))(L3:(Bool × (List DPut) × (List ByteArray) × Int × (List qaa) × Int × Int)->Option Rtz6)(p:Bool × (List DPut) × (List ByteArray) × Int × (List qaa) × Int × Int):Option Rtz6:=(cond (iltI p.2.2.2.2.2.2 (Int.ofNat x2.length)) (cond p.1 (match (jget x2 p.2.2.2.2.2.2) with|none=>none|some v0=>(cond (ieqI (Int.ofNat (List.length (S.cells v0))) (Int.ofNat 0)) (L3 (p.1,p.2.1,p.2.2.1,p.2.2.2.1,p.2.2.2.2.1,p.2.2.2.2.2.1,(IntKind.i64.wrap (Int.add p.2.2.2.2.2.2 (Int.ofNat 1))))) (match (S.saveO ((p.2.2.1,p.2.1),(p.2.2.2.1,(p.2.2.2.2.2.1,p.2.2.2.2.1))) (S.cells v0)) with|none=>none|some v24=>(cond (ieqI v24.2.1 (Int.ofNat 0)) (cond (ieqI v24.2.1 (Int.ofNat 0)) (L3 (true,v24.1.1.2,v24.1.1.1,v24.1.2.1,v24.1.2.2.2,v24.1.2.2.1,(IntKind.i64.wrap (Int.add p.2.2.2.2.2.2 (Int.ofNat 1))))) (L3 ((ieqI v24.2.1 (Int.ofNat 14)),v24.1.1.2,v24.1.1.1,v24.1.2.1,v24.1.2.2.2,v24.1.2.2.1,(IntKind.i64.wrap (Int.add p.2.2.2.2.2.2 (Int.ofNat 1)))))) (cond (ieqI v24.2.1 (Int.ofNat 0)) (L3 (true,p.2.1,p.2.2.1,p.2.2.2.1,p.2.2.2.2.1,p.2.2.2.2.2.1,(IntKind.i64.wrap (Int.add p.2.2.2.2.2.2 (Int.ofNat 1))))) (L3 ((ieqI v24.2.1 (Int.ofNat 14)),p.2.1,p.2.2.1,p.2.2.2.1,p.2.2.2.2.1,p.2.2.2.2.2.1,(IntKind.i64.wrap (Int.add p.2.2.2.2.2.2 (Int.ofNat 1)))))))))) (some (((p.2.2.1,p.2.1),(p.2.2.2.1,(p.2.2.2.2.2.1,p.2.2.2.2.1))),(p.1,())))) (some (((p.2.2.1,p.2.1),(p.2.2.2.1,(p.2.2.2.2.2.1,p.2.2.2.2.1))),(p.1,()))))
abbrev gz6:Type:=ElA [(.int .u8),(.list (.list cCosignerlaw23Change))]->Option Rtz6
abbrev sz6(g:gz6):Sm:=⟨[(.int .u8),(.list (.list cCosignerlaw23Change))],[(false,qag),(false,.bool)],g⟩
abbrev Ez6(g:gz6)(J:JT Rtz6)(lf:Nat)(x1:Int)(x2:(List (List qax))):=qbs Tryz.prog ttT.get nmz6 fi46.nt (clz6 _ lf) lf stz6 J fi46.body [] (qaz (argV [(.int .u8),(.list (.list cCosignerlaw23Change))] (x1,x2,())) 0 .leaf) S0 [] (qay ttT.get fi46 (sz6 g))
abbrev Bz6(g:gz6)(J:JT Rtz6)(lf k:Nat)(ms:List Nat)(q:NRes):=qcb Tryz.prog ttT.get nmz6 fi46.nt (clz6 _ lf) lf stz6 J k fi46.body [] ms q (qay ttT.get fi46 (sz6 g))
theorem inz6(g:gz6)(J:JT Rtz6)(lf:Nat)(x1:Int)(x2:(List (List qax))):Ez6 g J lf x1 x2=qvi lf x1 x2 (fun q=>J 3 [lf] (qi2 x1 x2 q)):=by kernel_rfl
theorem zd0(g:gz6)(J:JT Rtz6)(lf:Nat)(x1:Int)(x2:(List (List qax)))(m1:Nat)(p:Bool × (List DPut) × (List ByteArray) × Int × (List qaa) × Int × Int):Bz6 g J lf 3 [m1] (qi2 x1 x2 p)=qln lf x1 x2 (fun q=>J 3 [m1] (qi2 x1 x2 q)) p:=by kernel_rfl
theorem ndz6:(regs fi46.body).Nodup:=by decide +kernel
theorem okz6:okC nmz6 stz6 hdz6 fi46.body none=true:=by kernel_rfl
def Az6(g:gz6)(lf:Nat):JT Rtz6:=atN Tryz.prog ttT.get nmz6 fi46 (sz6 g) (clz6 _ lf) lf hdz6
def qpc(lf:Nat)(x1:Int)(x2:(List (List qax))):Nat->(Bool × (List DPut) × (List ByteArray) × Int × (List qaa) × Int × Int)->Option Rtz6:=qa1 fun K p=>qln lf x1 x2 K p
theorem q73(g:gz6)(lf:Nat)(x1:Int)(x2:(List (List qax))):∀(n:Nat) (p:Bool × (List DPut) × (List ByteArray) × Int × (List qaa) × Int × Int),Az6 g lf 3 [n] (qi2 x1 x2 p)=qpc lf x1 x2 n p
 | 0,p=>qbq 3 [0] rfl _
 | n+1,p=>by
  have ih:=q73 g lf x1 x2 n;refine(qbp (qa7 20 _) ndz6 okz6 3 [n+1] [n] rfl _).trans ((zd0 g (Az6 g lf) lf x1 x2 n p).trans ?_);rw[(show (fun q=>Az6 g lf 3 [n] (qi2 x1 x2 q))=(fun q=>qpc lf x1 x2 n q) from funext ih)];rfl
def Fz6(lf:Nat)(x1:Int)(x2:(List (List qax))):Option Rtz6:=qvi lf x1 x2 (fun q=>qpc lf x1 x2 lf q)
theorem zqa(g:gz6)(lf:Nat)(x1:Int)(x2:(List (List qax))):Ez6 g (Az6 g lf) lf x1 x2=Fz6 lf x1 x2:=by
  refine(inz6 g (Az6 g lf) lf x1 x2).trans ?_;rw[(show (fun q=>Az6 g lf 3 [lf] (qi2 x1 x2 q))=(fun q=>qpc lf x1 x2 lf q) from funext fun q=>q73 g lf x1 x2 lf q)];rfl
theorem ze3:qbd Tryz.prog q5u:=trivial
theorem mkz6{g:gz6}(hsm:SmOK Tryz.prog q1x)(hg:∀(x:ElA [(.int .u8),(.list (.list cCosignerlaw23Change))]) (y:Rtz6),WfA [(.int .u8),(.list (.list cCosignerlaw23Change))] x->g x=some y->∃lf,Fz6 lf x.1 x.2.1=some y):Con Tryz.prog 46 ⟨[(.int .u8),(.list (.list cCosignerlaw23Change))],[(false,qag),(false,.bool)],g⟩ :=
 conV (st:=stz6) (fun lf x=>Fz6 lf x.1 x.2.1) cm3 zf9 ze3 ndz6 okz6 (fun lf x=>zqa g lf x.1 x.2.1) hsm hg
end Go.Proofs.YtnhmanoiolfapaaGreat
end

section
namespace Go.Jx
open Go Go.Sx Go.RowKit
universe u

def updP:(l:List PK)->ElP l->ElP (refs l)->ElP l
 | [],_,_=>()
 | .dat _::l,x,z=>(x.1,updP l x.2 z)
 | .fn _::l,x,z=>updP l x z
 | .ref _::l,x,z=>(z.1,updP l x.2 z.2)
theorem qmh:∀(l:List PK) (ι:Nat->Nat) (n:Nat) (x:ElP l) (z:ElP (refs l)),qar l ι n (updP l x z)=qar (refs l) ι n z
 | [],_,_,_,_=>rfl
 | .dat _::l,ι,n,x,z=>qmh l ι n x.2 z
 | .fn _::l,ι,n,x,z=>qmh l ι n x z
 | .ref r::l,ι,n,x,z=>by
  show objK r ι n z.1::qar l ι (n+nK r) (updP l x.2 z.2)=_;rw[qmh l];rfl
theorem qoo:∀(l:List PK) (x:ElP l) (z:ElP (refs l)),qb4 l (updP l x z)=qb4 (refs l) z
 | [],_,_=>rfl
 | .dat _::l,x,z=>qoo l x.2 z
 | .fn _::l,x,z=>qoo l x z
 | .ref r::l,x,z=>by
  show subK r z.1++qb4 l (updP l x.2 z.2)=_;rw[qoo l];rfl
theorem qo0:∀(l:List PK) (ρ:Nat->Nat) (k:Nat) (x:ElP l) (z:ElP (refs l)),qaq l ρ k (updP l x z)=qaq l ρ k x
 | [],_,_,_,_=>rfl
 | .dat c::l,ρ,k,x,z=>jav (fun q=>asIV c x.1::q) (qo0 l ρ k x.2 z)
 | .fn f::l,ρ,k,x,z=>jav (fun q=>IV.fn f []::q) (qo0 l ρ k x z)
 | .ref r::l,ρ,k,x,z=>jav (fun q=>argK r (ρ k)::q) (qo0 l ρ (k+1) x.2 z.2)
def sQ(l:List PK):SmR:=⟨l,[],fun _=>none⟩
theorem q29(l:List PK)(x:ElP l)(z:ElP (refs l)):ScB (sQ l) () z=Sc l (updP l x z):=by
 unfold ScB Sc newO;rw[qmh,qoo];show addO (qar (refs l) idN (mP l) z++(qb4 (refs l) z++[])) S0=_;rw[jbl]
structure Held (T:TW) (E:Env) (S:IS) (l:List PK) (x:ElP l) (rows subs:List Nat):Prop where
 l1:rows.length=mP l
 l2:subs.length=nP l
 nd:(rows++subs).Nodup
 w:∀id∈rows++subs,T.w id
 A:∀id∈subs,E.A id
 at_:∀ι,Nums ι (mP l) subs->qow E rows (qar l ι (mP l) x)
 row:∀id∈rows,∃cs,S.H id=some (.row cs)
 sub:∀j:Nat,(qb4 l x)[j]?=(subs[j]?).bind fun id=>S.heap.get id
section
variable {T : TW} {E : Env} {S : IS} {l : List PK} {x : ElP l} {rows subs : List Nat}
theorem Held.num(h:Held T E S l x rows subs):Nums (ol 0 (rows++subs)) 0 rows/\Nums (ol 0 (rows++subs)) (mP l) subs:=by
 have hnq:Nums (ol 0 (rows++subs)) 0 (rows++subs):=fun j id hj=>by
  rw[jbm];unfold ol;rw[jao (by omega),jdf,jai,hj];rfl
 refine⟨hnq.fst,?_⟩;have:=hnq.snd
 rwa [jbm,h.l1] at this
theorem Held.len(h:Held T E S l x rows subs):(rows++subs).length=mP l+nP l:=by rw[jaf,h.l1,h.l2]
theorem Held.rk(h:Held T E S l x rows subs){k:Nat}(hk:k<mP l):rows[k]?=some (ol 0 (rows++subs) k):=by
 have h1:k<rows.length:=by rw[h.l1];exact hk
 rw[jac h1,<- h.num.1 k _ (jac h1),jbm]
theorem Held.sk(h:Held T E S l x rows subs){k:Nat}(h1:mP l<=k)(h2:k<(rows++subs).length):subs[k-mP l]?=some (ol 0 (rows++subs) k):=by
 have h3:k-mP l<subs.length:=by rw[h.len] at h2;rw[h.l2];omega
 rw[jac h3,<- h.num.2 _ _ (jac h3),Nat.add_sub_cancel' h1]
theorem Held.rowA(h:Held T E S l x rows subs){k:Nat}(hk:k<mP l):∃r nj xj,(∀ι,(qar l ι (mP l) x)[k]?=some (objK r ι nj xj))/\mP l<=nj/\nj+nK r<=(rows++subs).length/\E.A (ol 0 (rows++subs) k)/\((objK r (ol 0 (rows++subs)) nj xj).blk=true->E.hb (ol 0 (rows++subs) k)=true)/\OR E (ol 0 (rows++subs) k) (objK r (ol 0 (rows++subs)) nj xj):=by
 have h1:k<(qar l (ol 0 (rows++subs)) (mP l) x).length:=by rw[qa2];exact hk
 obtain⟨r,nj,xj,d1,d2,d3,d4⟩:=qf2 l (ol 0 (rows++subs)) (mP l) x k _ (jac h1);obtain⟨id,i1,i2,i3,i4⟩:=h.at_ _ h.num.2 k _ (d4 (ol 0 (rows++subs)));rw[h.rk hk] at i1;cases i1;exact⟨r,nj,xj,d4,d2,by rw[h.len];omega,i2,i3,i4⟩
theorem Held.allA(h:Held T E S l x rows subs):∀id∈rows++subs,E.A id:=fun id hid=>by
 rcases jbn.1 hid with hid|hid
 ·obtain⟨k,hk,rfl⟩:=jcs.1 hid;obtain⟨_,_,_,_,_,_,i2,_,_⟩:=h.rowA (k:=k) (by rw[<- h.l1];exact hk);have:=h.rk (k:=k) (by rw[<- h.l1];exact hk);rw[jac hk,jbf] at this;rw[this];exact i2
 ·exact h.A id hid
theorem Held.numTo(E:Env)(q:List Nat){k:Nat}(hk:k<q.length):qce E (renE 0 q E) (ol 0 q k) k:=fun hA=>⟨⟨by omega,hA⟩,rfl,rfl,rfl,rfl⟩
theorem Held.obj(h:Held T E S l x rows subs)(p:Pre T E S){k:Nat}{o:IObj}(hk:k<(rows++subs).length)(hAk:E.A (ol 0 (rows++subs) k))(ho:(Sc l x).H k=some o):ObjTo E S (renE 0 (rows++subs) E) (ol 0 (rows++subs) k) k o:=by
 unfold Sc at ho;rw[qgg] at ho;have hnum:∀j,j<(rows++subs).length->qce E (renE 0 (rows++subs) E) (ol 0 (rows++subs) j) j:=fun j hj=>Held.numTo E _ hj;by_cases hkm:k<mP l
 ·rw[jat (by rw[qa2];exact hkm)] at ho;obtain⟨r,nj,xj,d1,d2,d3,d4,d5,d6⟩:=h.rowA hkm;rw[d1 idN] at ho;cases ho;obtain⟨cs,hcs⟩:=h.row _ (jbv (h.rk hkm));exact⟨OR.objK_to (E:=E) (E':=renE 0 (rows++subs) E) (fun _ h=>h) rfl hAk (hnum k hk) (fun j a b=>hnum j (by omega)) d6,fun _=>⟨_,hcs,rfl⟩,fun hb=>d5 (qkm.trans hb)⟩
 ·rw[ja4 (by rw[qa2];omega),qa2] at ho;have hd:=qve _ _ _ (jbv ho);rw[h.sub,h.sk (by omega) hk] at ho;have hid:=(qb3 hk).1;exact⟨OR.dat_to (E:=E) (E':=renE 0 (rows++subs) E) (fun _ h=>h) rfl hAk (hnum k hk) hd (p.st.objs _ (T.sub _ (h.w _ hid)) hAk _ ho),fun hl=>⟨_,ho,hl⟩,fun hbk=>p.st.blk _ (T.sub _ (h.w _ hid)) hAk _ ho hbk⟩
theorem Held.pre(h:Held T E S l x rows subs)(p:Pre T E S):Pre T0 (renE 0 (rows++subs) E) (Sc l x) :=
 Pre.re p h.nd (fun id hi=>T.sub _ (h.w id hi)) (by rw[qir,h.len]) fun k o hk hAk ho=>h.obj p hk hAk ho
theorem Held.back{s:SmR}{x:ElP s.ps}{y:ElR s.rts}{z:ElP (refs s.ps)}{Er:Env}(h:Held T E S s.ps x rows subs)(p:Pre T E S)(k2:PostB (mP s.ps) T0 (renE 0 (rows++subs) E) (Sc s.ps x) Er (ScB s y z)) :
  Post T E S (mrgR E Er S.next (mP s.ps)) (qbz s S.next rows subs y z S)/\Fresh E S (mrgR E Er S.next (mP s.ps)):=by
 have hA:=h.allA;have hlt:∀id,id∈rows++subs->id<S.next:=fun id hi=>p.bnd id (hA id hi)
 have hsb:∀k,k<(rows++subs).length->Live (renE 0 (rows++subs) E) (Sc s.ps x).H k->Live E S.H (ol 0 (rows++subs) k):=fun k hk ⟨h0,o,h1,h2⟩=>⟨h0,(h.obj p hk (hA _ (qb3 hk).1) h1).live h2⟩;have hbn:(setL rows (qar (refs s.ps) (fun k=>S.next+(k-mP s.ps)) (mP s.ps) z) (qef subs S)).next=S.next:=by rw[qqk,qo5]
 have hndr:rows.Nodup:=(jc3.1 h.nd).1;have hrs:∀id,id∈rows->id ∉ subs:=fun id h1 h2=>(jc3.1 h.nd).2.2 id h1 id h2 rfl;have hScB:∀k,(ScB s y z).H k=(qar (refs s.ps) idN (mP s.ps) z++newO s y z)[k]?:=fun k=>qgg _ k;have hql:=h.len;have l1:=h.l1;have hrk:=fun k (hk:k<mP s.ps)=>h.rk hk;have hsk:=fun k (h1:mP s.ps<=k) (h2:k<(rows++subs).length)=>h.sk h1 h2;have hrowA:=fun k (hk:k<mP s.ps)=>h.rowA hk;have hnd:=h.nd;have hT:=h.w;have hinr:∀id,id∈rows->id∈rows++subs:=fun id h=>jbz _ h;have hins:∀id,id∈subs->id∈rows++subs:=fun id h=>jb6 _ h;generalize hq:rows++subs=q at *;have hEA:∀k,k<mP s.ps->Er.A k/\Er.ρ k=E.ρ (ol 0 q k)/\Er.κ k=E.κ (ol 0 q k)/\Er.hd k=E.hd (ol 0 q k)/\Er.hb k=E.hb (ol 0 q k):=fun k hk=>by
  obtain⟨a1,a2,a3,a4,a5⟩:=k2.alw k hk ⟨by omega,hA _ (qb3 (by omega)).1⟩;exact⟨a1,a2,a3,a4,a5⟩
 exact q0f (n:=S.next) (m:=mP s.ps) (S':=qbz s S.next rows subs y z S) p hnd hT hA (by omega) rfl hsb k2 (by
   unfold qbz ScB;rw[qc1,qc1,hbn,jaf,qa2,qbr];have:S0.next=0:=rfl
   omega) (fun id hid hnq=>by
   unfold qbz;rw[qb8,hbn,jan hid,qgy (fun h=>hnq (hinr _ h)),ql0 (fun h=>hnq (hins _ h))]) (fun k o hk ho=>by
   unfold qbz at ho;have hin:=(qb3 (q:=q) (k:=k) (by omega)).1;rw[qb8,hbn,jan (hlt _ hin),qst hndr (by rw[qa2,qbr,l1]) (hrk k hk)] at ho;obtain⟨r,nj,xj,rfl,d2,d3,d4⟩:=qf2 _ _ _ _ _ _ ho;have hsr:(ScB s y z).H k=some (objK r idN nj xj):=by
    rw[hScB,jat (by rw[qa2,qbr];exact hk)];exact d4 idN
   obtain⟨a1,a2,a3,a4,a5⟩:=hEA k hk;obtain⟨o1,o2,o3,o4⟩:=qdp (E:=E) (Er:=Er) (n:=S.next) (m:=mP s.ps) (hlt _ hin);obtain⟨_,_,_,_,_,_,i2,_⟩:=hrowA k hk;exact⟨OR.objK_to (E:=Er) (E':=mrgR E Er S.next (mP s.ps)) (fun _ h=>h) rfl a1 (fun _=>⟨.inl ⟨hlt _ hin,i2⟩,o1.trans a2.symm,o2.trans a3.symm,o3.trans a4.symm,o4.trans a5.symm⟩) (fun j a b hAj=>by
    obtain⟨r1,r2,r3,r4,r5⟩:=qio (E:=E) (Er:=Er) (n:=S.next) (m:=mP s.ps) (k:=j) (by omega);exact⟨r5 hAj,r1,r2,r3,r4⟩) (k2.st.objs k trivial a1 _ hsr),fun hl=>⟨_,hsr,qme.trans hl⟩,fun hb=>(o4.trans a5.symm).trans (k2.st.blk k trivial a1 _ hsr (qkm.trans hb))⟩) (fun k o h1 h2 ho=>by
   unfold qbz at ho;have hin:=(qb3 (q:=q) (k:=k) h2).1;have hin2:=jbv (hsk k h1 h2);rw[qb8,hbn,jan (hlt _ hin),qgy (fun h=>hrs _ h hin2),qso hin2] at ho;cases ho;rfl) (fun k o h1 hAk ho=>by
   unfold qbz at ho;have hkb:=k2.bnd k hAk;unfold ScB at hkb;rw[qc1,jaf,qa2,qbr] at hkb;have e0:S0.next=0:=rfl
   rw[qb8,hbn,jao (by omega),jan (by omega),ja5] at ho;have hd:=qsh (jbv ho);have hsr:(ScB s y z).H k=some o:=by
    rw[hScB,ja4 (by rw[qa2,qbr];exact h1),qa2,qbr];exact ho
   obtain⟨r1,r2,r3,r4,r5⟩:=qio (E:=E) (Er:=Er) (n:=S.next) (m:=mP s.ps) (k:=k) h1;exact⟨OR.dat_to (E:=Er) (E':=mrgR E Er S.next (mP s.ps)) (fun _ h=>h) rfl hAk (fun hA=>⟨r5 hA,r1,r2,r3,r4⟩) hd (k2.st.objs k trivial hAk _ hsr),fun hl=>⟨_,hsr,hl⟩,fun hbk=>r4.trans (k2.st.blk k trivial hAk _ hsr hbk)⟩)
end
end Go.Jx
end

section
namespace Go.Jx
open Go Go.Sx Go.RowKit
universe u

structure Beside (b:Nat) (w w':World):Prop where
 os:w'.os=w.os
 tape:w'.tape=w.tape
 output:w'.output=w.output
 size:w'.heap.size=w.heap.size
 same:∀x,x≠b->w'.heap[x]?=w.heap[x]?
theorem Beside.put(w:World)(b:Nat)(o:Obj):Beside b w (w.putObj b o):=⟨rfl,rfl,rfl,by simp,fun x hx=>jcb hx⟩
theorem Beside.symm{b:Nat}{w w':World}(h:Beside b w w'):Beside b w' w:=⟨h.os.symm,h.tape.symm,h.output.symm,h.size.symm,fun x hx=>(h.same x hx).symm⟩
theorem Beside.upd{b:Nat}{w w':World}(h:Beside b w w'):Upd [b] w w':=⟨h.os,h.tape,h.output,by rw[h.size];exact jaq _,fun x _ hx=>h.same x (by simpa using hx)⟩
def qcz(E:Env)(S:IS)(b:Nat):Prop:=b∈E.m/\∀id,E.A id->Live E S.H id->E.ρ id≠b
section
variable {E E' : Env} {S S' : IS} {b : Nat} {w w' : World}
theorem Pre.beside(p:Pre T0 E S)(hb:qcz E S b)(h:Beside b E.w w):E.Le (E.at_ w)/\Pre T0 (E.at_ w) S/\qcz (E.at_ w) S b:=by
 have hle:E.Le (E.at_ w):=⟨fun _ h=>⟨h,rfl,rfl,rfl,rfl⟩,⟨fun x hx hm=>⟨hm,h.same x fun e=>hm (e▸hb.1)⟩⟩⟩
 refine⟨hle,⟨⟨fun id ht ha o ho=>(p.st.objs id ht ha o ho).mono hle ha (p.st.blk id ht ha o ho) fun hl hhb=>h.same _ (hb.2 id ha ⟨hhb,o,ho,hl⟩),fun id ht ha o ho hbk=>p.st.blk id ht ha o ho hbk,fun id ht ha hl=>p.st.own id ht ha hl,
  fun i j a b' c d e f g=>p.st.inj i j a b' c d e f g,fun x hx=>?_⟩,p.bnd,p.nw,p.gl.mono hle.tr⟩,hb⟩
 show x<w.heap.size;rw[h.size];exact p.st.lo x hx
theorem PostB.apart{B:Nat}(k:PostB B T0 E S E' S')(p:Pre T0 E S)(hb:qcz E S b):qcz E' S' b:=by
 have hlt:=p.st.lo b hb.1;refine⟨?_,fun id ha hl e=>?_⟩
 ·rcases k.mem b hb.1 hlt with h|⟨id,_,h1,h2,h3⟩
  ·exact h
  ·exact absurd h3 (hb.2 id h1 h2)
 ·rcases jb0 id B with h|h
  ·have hA:=k.fr id h ha;exact hb.2 id hA (k.old id h trivial hA hl) ((k.alw id h hA).2.1.symm.trans e)
  ·rcases k.new id h ha hl with h1|⟨j,_,j1,j2,j3⟩
   ·omega
   ·exact hb.2 j j1 j2 (j3.symm.trans e)
theorem PostB.at_same{B:Nat}(k:PostB B T0 E S E' S')(p:Pre T0 E S)(hb:qcz E S b):E'.w.heap[b]?=E.w.heap[b]?:=k.same b (p.st.lo b hb.1) fun id _ ha hl=>hb.2 id ha hl
theorem PostB.beside{B:Nat}(k:PostB B T0 E S E' S')(p:Pre T0 E S)(hb:qcz E S b)(h1:Beside b E.w w)(h2:Beside b E'.w w')(h3:w'.heap[b]?=w.heap[b]?):PostB B T0 (E.at_ w) S (E'.at_ w') S':=by
 have p':Pre T0 E' S':=k.pre (fun _ _=>trivial) p;obtain⟨_,p2,_⟩:=p'.beside (k.apart p hb) h2;have es:(E.at_ w).w.heap.size=E.w.heap.size:=h1.size;refine⟨p2.st,h2.os.trans (k.os.trans h1.os.symm),h2.tape.trans (k.tape.trans h1.tape.symm),h2.output.trans (k.output.trans h1.output.symm),?_,fun x hx hn=>?_,k.alw,fun id hB ha hl=>?_,k.old,fun x hx=>?_,fun x hx hlt=>k.mem x hx (by rw[es] at hlt;exact hlt),k.bnd,k.le,k.fr⟩
 ·show w.heap.size<=w'.heap.size;rw[h1.size,h2.size];exact k.size
 ·show w'.heap[x]?=w.heap[x]?;by_cases e:x=b
  ·rw[e];exact h3
  ·rw[h2.same x e,h1.same x e];exact k.same x (by rw[es] at hx;exact hx) hn
 ·rw[es];exact k.new id hB ha hl
 ·rw[es];exact k.memo x hx
end
end Go.Jx
end

section
namespace Go.Jx
open Go Go.Sx Go.RowKit
universe u

structure LpC where
 ls:List Nat
 lp:List PK
 nm:Nat->Option Nm
def putL:List Nat->List IV->PT IV->PT IV
 | t::ts,v::vs,fr=>putL ts vs (fr.set v t)
 | _,_,fr=>fr
theorem q3h:∀{ls:List Nat} {vs:List IV} {us:List Value} {E:Env} {nt:Nat} {fr:PT IV} {tmps:Array Value},VRs E vs us->us=ls.map (fun t=>tmps.getD t undef)->FR E nt fr tmps->FR E nt (putL ls vs fr) tmps
 | [],vs,us,E,nt,fr,tmps,hv,hu,hf=>by simpa [putL] using hf
 | t::ls,[],us,E,nt,fr,tmps,hv,hu,hf=>by simpa [putL] using hf
 | t::ls,v::vs,us,E,nt,fr,tmps,hv,hu,hf=>by
  obtain⟨u,us,rfl,a1,a2⟩:=hv.inv;simp only[jdi,jd1] at hu;show FR E nt (putL ls vs (fr.set v t)) tmps;refine q3h a2 hu.2 ⟨hf.size,fun k hk=>?_⟩;rw[qd8];by_cases e:k=t
  ·subst e;rw[jan rfl,<- hu.1];exact a1
  ·rw[jao e];exact hf.get k hk
section
variable (P : Program) (tt : Nat -> Option TI)
def qew(cfg:LpC)(c:TC)(nt lf:Nat)(cl:Cl)(pr:Nat)(assign body:Code)(d:ElP cfg.lp)(z:ElP (refs cfg.lp))(x:El c):Option (ElP (refs cfg.lp) × Option Code) :=
 match qak P tt cfg.nm (mP cfg.lp) nt cl lf none assign (qdt [pr] [asIV c x] (putL cfg.ls (qaq cfg.lp idN 0 d) .leaf)) (Sc cfg.lp (updP cfg.lp d z)) [] with
 | none=>none
 | some r1=>match r1.e with
  | .normal=>match r1.ds with
   | []=>match qak P tt cfg.nm (mP cfg.lp) nt cl lf none body r1.fr r1.S [] with
    | none=>none
    | some r2=>match r2.ds with
     | []=>match runQ (sQ cfg.lp) ⟨.tup [],r2.S,0,0⟩ with
      | none=>none
      | some y=>some (y.2,qds r2.e)
     | _=>none
   | _=>none
  | _=>none
end
def foldB{D α:Type}(g:D->α->Option (D × Option Code)):List α->D->Option (D × Option Code)
 | [],d=>some (d,none)
 | x::xs,d=>match g d x with
  | none=>none
  | some (d',none)=>foldB g xs d'
  | some (d',some e)=>some (d',some e)
section
variable {P : Program} {tt : Nat -> Option TI}
theorem zq1{cfg:LpC}{c:TC}{nt lf:Nat}{cl:Cl}{pr:Nat}{assign body:Code}{d:ElP cfg.lp}{z z':ElP (refs cfg.lp)}{x:El c}{e:Option Code}(hm:P.follows .mixedOrders=true)(hcl:ClOK P cl)(hfr:ClFr cl)(htt:TT P tt)
  (h:qew P tt cfg c nt lf cl pr assign body d z x=some (z',e)) (hok:qa4 assign=true/\qa4 body=true) (hrf:qbw assign=false/\qbw body=false)
  {E:Env} {b:Nat} {rec:Loop} (p:Pre T0 E (Sc cfg.lp (updP cfg.lp d z))) (hb:qcz E (Sc cfg.lp (updP cfg.lp d z)) b) (hl:E.w.heap[b]?=some (.loop rec)) (hr:rec.state=.ready/\rec.pending=none/\rec.params=#[pr]/\rec.assign=assign/\rec.body=body/\rec.tmps.size=nt)
  (hargs:VRs E (qaq cfg.lp idN 0 d) (cfg.ls.map fun t=>rec.tmps.getD t undef)) {u:Value} (hu:VR E (asIV c x) u) :
  YieldAt Fence.wide 0 P b #[u] E.w fun en B=>∃E',PostB (mP cfg.lp) T0 E (Sc cfg.lp (updP cfg.lp d z)) E' (Sc cfg.lp (updP cfg.lp d z')) /\
   ((e=none/\en=.returned (.bool true)/\B=E'.w)\/∃cd,e=some cd/\en=.returned (.bool false)/\Upd [b] E'.w B/\B.heap[b]?=some (.loop { rec with state:=.done,pending:=some cd })):=by
 obtain⟨hr1,hr2,hr3,hr4,hr5,hr6⟩:=hr;unfold qew at h;split at h
 ·cases h
 rename_i r1 hrun1;split at h<;>try cases h
 rename_i he1;split at h<;>try cases h
 rename_i hds1;split at h
 ·cases h
 rename_i r2 hrun2;split at h<;>try cases h
 rename_i hds2;split at h
 ·cases h
 rename_i y hq;cases h;have hblt:b<E.w.heap.size:=qas hl;have hy:=run_yield (P:=P) (args:=#[u]) hl (by rw[hr3];rfl);refine⟨_,_,_,_,hy,roundIn_of_wpIn trivial ?_⟩;have hFp:(Fence.wide.inRound b).plain=Fence.wide:=rfl;have hfr0:FR E nt (PT.leaf) rec.tmps:=⟨hr6,fun t ht=>.unk _⟩;have hfr1:FR E nt (qdt [pr] [asIV c x] (putL cfg.ls (qaq cfg.lp idN 0 d) .leaf)) ((rec.params.zip #[u]).foldl (fun tmps (t,a)=>tmps.setIfInBounds t a) rec.tmps):=by
  have:=qu3 (ps:=[pr]) (VRs.cons hu VRs.nil) (q3h hargs rfl hfr0);rw[hr3];simpa [List.zip] using this
 rw[hr4];refine qif (T:=T0) (E:=E) (a:={ tmps:=_,defers:=[] }) (S:=Sc cfg.lp (updP cfg.lp d z)) (ds:=[]) (round:=none) (B:=mP cfg.lp) (fun _ _=>trivial) hm hFp hcl hfr htt assign hok.1 p (by rw[qir];omega) (fun _ _=>trivial) hfr1 (DS.nil (N:=0) (jb8 _)) (fun h=>by rw[hrf.1] at h;cases h) hrun1 (fun _ _=>trivial) (fun _ _=>trivial) ?_;intro E1 a1 k1 k2 kB;rw[he1];have hb1:=kB.apart p hb;have hl1:E1.w.heap[b]?=some (.loop rec):=(kB.at_same p hb).trans hl;have p1:Pre T0 E1 r1.S:=kB.pre (fun _ _=>trivial) p;have hbg:=run_beginRound (P:=P) hl1 hr1;refine⟨_,hbg,?_⟩;generalize hW:(E1.w.putObj b (.loop { rec with state:=.busy }))=W1;have hs1:Beside b E1.w W1:=by rw[<- hW];exact Beside.put _ _ _
 have hW1:W1.heap[b]?=some (.loop { rec with state:=.busy }):=by rw[<- hW];exact jbp (qas hl1)
 obtain⟨hle2,p2,hb2⟩:=p1.beside hb1 hs1;have hs0:Beside b E.w (E.w.putObj b (.loop { rec with state:=.busy })):=Beside.put _ _ _;obtain⟨hle0,p0,hb0⟩:=p.beside hb hs0;have hw0:(E.w.putObj b (.loop { rec with state:=.busy })).heap[b]?=some (.loop { rec with state:=.busy }):=jbp hblt;have kB2:=kB.beside p hb hs0 hs1 (by rw[hW1,hw0]);rw[hr5];show body.wpIn _ 0 P _ a1 (E1.at_ W1).w;rw[hds1] at k2;refine qif (T:=T0) (E:=E1.at_ W1) (a:=a1) (S:=r1.S) (ds:=[]) (round:=none) (B:=mP cfg.lp) (fun _ _=>trivial) hm hFp hcl hfr htt body hok.2 p2 kB.le (fun _ _=>trivial) (k1.mono hle2) (k2.mono hle2 (by show E1.w.heap.size<=W1.heap.size;rw[<- hW];simp)) (fun h=>by rw[hrf.2] at h;cases h) hrun2 (fun _ _=>trivial) (fun _ _=>trivial) ?_;intro E3 a3 m1 m2 mB;have hall:=kB2.trans mB;have hargs0:VRs (E.at_ (E.w.putObj b (.loop { rec with state:=.busy }))) (qaq (sQ cfg.lp).ps idN 0 (updP cfg.lp d z)) (cfg.ls.map fun t=>rec.tmps.getD t undef):=by
  show VRs _ (qaq cfg.lp idN 0 (updP cfg.lp d z)) _;rw[qo0];exact hargs.mono hle0
 obtain⟨E4,e4,_,q4⟩:=q11 (s:=sQ cfg.lp) (r:=⟨.tup [],r2.S,0,0⟩) (x:=updP cfg.lp d z) (y:=y.1) (z:=y.2) (u:=.tuple #[]) hq p0 hargs0 hall (.tup (us:=[]) rfl (fun i h=>by simp at h));have hb4:=q4.apart p0 hb0;have hl4:E4.w.heap[b]?=some (.loop { rec with state:=.busy }):=(q4.at_same p0 hb0).trans hw0;have hend:=fun j=>run_endRound (P:=P) j hl4;have hs4:Beside b E4.w (E4.w.putObj b (.loop rec)):=Beside.put _ _ _;have hback:=q4.beside p0 hb0 hs0.symm hs4 (by rw[jbp (qas hl4)];exact hl.symm);have hfin:PostB (mP cfg.lp) T0 E (Sc cfg.lp (updP cfg.lp d z)) (E4.at_ (E4.w.putObj b (.loop rec))) (Sc cfg.lp (updP cfg.lp d y.2)):=by
  have e1:ScB (sQ cfg.lp) y.1 y.2=Sc cfg.lp (updP cfg.lp d y.2):=q29 cfg.lp d y.2;rw[e1] at hback;exact hback
 rw[<- e4];have hrec:({ rec with state:=.ready,pending:=none }:Loop)=rec:=by
  cases rec;cases hr1;cases hr2;rfl
 have hstop:∀cd,∃v w',(Instr.endRound b (some cd)).run P E4.w=.ok v w'/\∃E',PostB (mP cfg.lp) T0 E (Sc cfg.lp (updP cfg.lp d z)) E' (Sc cfg.lp (updP cfg.lp d y.2)) /\
   ((some cd=none/\Ending.returned v=.returned (.bool true)/\w'=E'.w)\/∃cd',some cd=some cd'/\Ending.returned v=.returned (.bool false)/\Upd [b] E'.w w'/\w'.heap[b]?=some (.loop { rec with state:=.done,pending:=some cd' })):=fun cd=>by
  refine⟨_,_,hend (some cd),E4.at_ (E4.w.putObj b (.loop rec)),hfin,.inr ⟨cd,rfl,rfl,?_,?_⟩⟩
  ·exact hs4.symm.upd.trans ((Beside.put E4.w b _).upd)
  ·exact jbp (qas hl4)
 cases he:r2.e with
 | normal =>
  refine⟨_,_,hend none,E4.at_ (E4.w.putObj b (.loop rec)),hfin,.inl ⟨rfl,rfl,?_⟩⟩;show E4.w.putObj b (.loop { rec with state:=.ready,pending:=none })=E4.w.putObj b (.loop rec);rw[hrec]
 | ret =>
  obtain⟨v,w',g1,E',g2,g3⟩:=hstop .ret;refine⟨v,w',g1,E',g2,?_⟩;rcases g3 with ⟨g3,_⟩|⟨cd,g3,g4,g5,g6⟩
  ·cases g3
  ·exact .inr ⟨cd,g3,g4,g5,by rw[hr4,hr5] at g6;exact g6⟩
 | exit i =>
  obtain⟨v,w',g1,E',g2,g3⟩:=hstop (.exit i);refine⟨v,w',g1,E',g2,?_⟩;rcases g3 with ⟨g3,_⟩|⟨cd,g3,g4,g5,g6⟩
  ·cases g3
  ·exact .inr ⟨cd,g3,g4,g5,by rw[hr4,hr5] at g6;exact g6⟩
 | goto l =>
  obtain⟨v,w',g1,E',g2,g3⟩:=hstop (.goto l);refine⟨v,w',g1,E',g2,?_⟩;rcases g3 with ⟨g3,_⟩|⟨cd,g3,g4,g5,g6⟩
  ·cases g3
  ·exact .inr ⟨cd,g3,g4,g5,by rw[hr4,hr5] at g6;exact g6⟩
end
end Go.Jx
end

section
namespace Go.Jx
open Go Go.Sx Go.RowKit
universe u

def qed(P:Program)(gf:Nat)(us:List Value)(Rd:World->Prop){α:Type}(V:α->Value->World->World->Prop)(xs:List α):Prop :=
 ∀(l:Nat) (J:List α->World->Prop) (K:World->Prop) (W:World),(∀s A B,J s A->Upd [] A B->J s B)->(∀A B,K A->Upd [] A B->K B)->(∀s A,J s A->Rd A) ->
  (∀pre x post A0 A u,xs=pre++x::post->J pre A0->Upd [] A0 A->V x u A0 A->YieldAt Fence.wide 0 P l #[u] A fun e B=>(∀b,A0.heap.size<=b->b<A.heap.size->B.heap[b]?=A.heap[b]?)/\((e=.returned (.bool true)/\J (pre++[x]) B)\/(e=.returned (.bool false)/\K B))) ->
  J [] W->CallsIn Fence.wide 0 P gf (#[.func (.yield l) #[] #[]]++us.toArray) W fun e B=>e=.returned (.tuple #[])/\(J xs B\/K B)
structure SmI where
 ips:List PK
 c:TC
 xs:ElP ips->Option (List (El c))
def qrz(E:Env)(s:SmI)(x:ElP s.ips)(us:List Value)(rows:List Nat):Prop :=
 (∀ρ k,Nums ρ k rows->VRs E (qaq s.ips ρ k x) us)/\qow E rows (qar s.ips idN 0 x)
structure ConI (P:Program) (f:Nat) (s:SmI):Prop where
 callable:qai P f
 ns:nP s.ips=0
 it:∀(E:Env) (x:ElP s.ips) (us:List Value) (rows:List Nat) (l:List (El s.c)),s.xs x=some l->Gl E.m E.w->qrz E s x us rows ->
  qed P f us (fun W=>E.Le (E.at_ W)/\∀id∈rows,W.heap[E.ρ id]?=E.w.heap[E.ρ id]?) (fun x u A0 A=>∀E:Env,E.w=A->(∀b∈E.m,b<A0.heap.size)->VR E (asIV s.c x) u) l
def qdc:(l:List PK)->ElP l->ElP (refs l)
 | [],_=>()
 | .dat _::l,x=>qdc l x.2
 | .fn _::l,x=>qdc l x
 | .ref _::l,x=>(x.1,qdc l x.2)
theorem qqw:∀(l:List PK) (x:ElP l),updP l x (qdc l x)=x
 | [],_=>rfl
 | .dat c::l,x=>jav (fun q=>(x.1,q)) (qqw l x.2)
 | .fn _::l,x=>qqw l x
 | .ref r::l,x=>jav (fun q=>(x.1,q)) (qqw l x.2)
theorem qo6{D α:Type}(g:D->α->Option (D × Option Code)):∀(pre post:List α) (z z':D),foldB g pre z=some (z',none)->foldB g (pre++post) z=foldB g post z'
 | [],post,z,z',h=>by cases h;rfl
 | x::pre,post,z,z',h=>by
  simp only[foldB,jch] at h ⊢;cases hg:g z x with
  | none=>rw[hg] at h;cases h
  | some q =>
   obtain⟨z1,e⟩:=q;rw[hg] at h;cases e with
   | none=>exact qo6 g pre post z1 z' h
   | some e=>cases h
section
variable (P : Program) (tt : Nat -> Option TI)
def itB(S2:IS)(cfg:LpC)(id nt:Nat)(irows rows subs:List Nat)(w2:Nat)(assign body:Code):Bool :=
 ndB (id::(irows++(rows++subs)))&&(irows.all (rowB S2)&&(rows.all (rowB S2)&&(qa4 assign&&(qa4 body&&(!qbw assign&&(!qbw body&&(cfg.ls.all (fun t=>Nat.blt t nt)&&!w2.testBit id)))))))
end
section
variable {P : Program} {tt : Nat -> Option TI}
end
end Go.Jx
end

section
namespace Go.Jx
open Go Go.Sx Go.RowKit
universe u

section
variable {P : Program} {tt : Nat -> Option TI}
end
end Go.Jx
end

section
namespace Go.Jx
open Go Go.Sx Go.RowKit
universe u

section
variable (P : Program) (tt : Nat -> Option TI)
end
section
variable {P : Program} {tt : Nat -> Option TI}
def zke:Nat->Option Nm:=fun k=>cond (Nat.beq k 999999) (some ⟨[],[],[],[],[],0,0,false⟩) none
end
end Go.Jx
end

section
namespace Go.Jx
open Go Go.Sx Go.RowKit
universe u

section
variable {P : Program} {tt : Nat -> Option TI} {ft : Nat -> Option FI}
end
end Go.Jx
end

noncomputable section
set_option maxRecDepth 100000
namespace Go.Proofs.YtnhmanoiolfapaaGreat
open Go Go.Sx Go.RowKit Go.Jx
abbrev qpl:Type:=Int × Unit
abbrev zor:Nat:=69
def q87(lf:Nat)(x1:qad):Option qpl:=(match (cond (S.inI (Int.ofNat x1.1.1.length) (Int.ofNat 0) (Int.ofNat 1000)) (some ((S.half (Int.toNat (Int.ofNat x1.1.1.length)) x1.2.1),())) none) with|none=>none|some v0=>(some ((IntKind.i64.wrap (Int.sub (IntKind.i64.wrap (Int.sub v0.1.2 v0.1.1)) x1.2.2.1)),())))
def qo7(lf:Nat)(x1:qad):Option qpl:=q87 lf x1
theorem zn2{g:ElA [qag]->Option qpl}(hsm:SmOK Tryz.prog [(93,ql2)])(hg:∀(x:ElA [qag]) (y:qpl),WfA [qag] x->g x=some y->∃lf,qo7 lf x.1=some y):Con Tryz.prog 69 ⟨[qag],[(false,(.int .i64))],g⟩ :=
 conU (fi:=fi69) (hxl:=[]) (fun lf x=>qo7 lf x.1) cm3 zee trivial hsm hg
def nmz7:Nat->Option Nm:=fun k=>cond (Nat.beq k 6) (some ⟨[0,12,13,14],[],[],[],[],0,0,false⟩) (none)
def stz7:Nat->Bool:=fun k=>cond (Nat.beq k 6) true (false)
def hdz7:=stz7
abbrev Rtz7:Type:=Int × Int × Unit
def q7u:List (Nat × Sm):=[(66,qg9),(56,qmb)]
def q8d:List (Nat × Hx):=[]
def clz7(R:Type)(lf:Nat):ClK R:=qa3 Tryz.prog ttT.get ftT.get (nm1 22 nmz7) (smL q7u) (hxL q8d) lf 20 R
abbrev idz7:Nat:=22
def qi1(x1:(List qaa))(p:Int):NRes:=(NRes.mk (.node (some (IV.lst qac x1)) (.node none .leaf (.node none .leaf (.node (some (IV.int .i64 (Int.ofNat x1.length))) .leaf .leaf))) (.node none (.node none .leaf (.node (some (IV.lst qac x1)) .leaf .leaf)) (.node none .leaf (.node (some (IV.int .i64 p)) .leaf .leaf)))) (IS.mk .leaf 0) [] 0)
def qwk(lf:Nat)(x1:(List qaa))(L6:Int->Option Rtz7):Option Rtz7:=(cond (iltI (Int.ofNat 60) (Int.ofNat x1.length)) (some ((Int.ofNat 0),((Int.ofNat 3),()))) (cond (ieqI (Int.ofNat x1.length) (Int.ofNat 0)) (some ((Int.ofNat 0),((Int.ofNat 1),()))) (L6 (Int.ofNat 0))))
def qlx(lf:Nat)(x1:(List qaa))(L6:Int->Option Rtz7)(p:Int):Option Rtz7:=(cond (iltI p (Int.ofNat x1.length)) (match (jget x1 p) with|none=>none|some v0=>(cond (Bool.not (S.inI v0.1 (Int.ofNat 0) (Int.ofNat 199))) (some ((Int.ofNat 0),((Int.ofNat 1),()))) (cond (iltI (Int.ofNat 4000) (Int.ofNat v0.2.1.size)) (some ((Int.ofNat 0),((Int.ofNat 1),()))) (cond v0.2.2 (cond (Bool.not (keqS v0.2.1 (S.lit []))) (some ((Int.ofNat 0),((Int.ofNat 1),()))) (cond (iltI (Int.ofNat 0) p) (match (jget x1 (IntKind.i64.wrap (Int.sub p (Int.ofNat 1)))) with|none=>none|some v1=>(cond (Bool.not (iltI v1.1 v0.1)) (some ((Int.ofNat 0),((Int.ofNat 1),()))) (L6 (IntKind.i64.wrap (Int.add p (Int.ofNat 1)))))) (L6 (IntKind.i64.wrap (Int.add p (Int.ofNat 1)))))) (cond (iltI (Int.ofNat 0) p) (match (jget x1 (IntKind.i64.wrap (Int.sub p (Int.ofNat 1)))) with|none=>none|some v25=>(cond (Bool.not (iltI v25.1 v0.1)) (some ((Int.ofNat 0),((Int.ofNat 1),()))) (L6 (IntKind.i64.wrap (Int.add p (Int.ofNat 1)))))) (L6 (IntKind.i64.wrap (Int.add p (Int.ofNat 1))))))))) (match (cond (S.pk x1) (some ((S.packed x1 (Int.ofNat 1)),())) none) with|none=>none|some v26=>(some ((Int.ofNat v26.1.length),((Int.ofNat 0),())))))
abbrev gz7:Type:=ElA [(.list qac)]->Option Rtz7
abbrev sz7(g:gz7):Sm:=⟨[(.list qac)],[(false,(.int .i64)),(false,(.int .i64))],g⟩
abbrev Ez7(g:gz7)(J:JT Rtz7)(lf:Nat)(x1:(List qaa)):=qbs Tryz.prog ttT.get nmz7 fi22.nt (clz7 _ lf) lf stz7 J fi22.body [] (qaz (argV [(.list qac)] (x1,())) 0 .leaf) S0 [] (qay ttT.get fi22 (sz7 g))
abbrev Bz7(g:gz7)(J:JT Rtz7)(lf k:Nat)(ms:List Nat)(q:NRes):=qcb Tryz.prog ttT.get nmz7 fi22.nt (clz7 _ lf) lf stz7 J k fi22.body [] ms q (qay ttT.get fi22 (sz7 g))
theorem inz7(g:gz7)(J:JT Rtz7)(lf:Nat)(x1:(List qaa)):Ez7 g J lf x1=qwk lf x1 (fun q=>J 6 [lf] (qi1 x1 q)):=by kernel_rfl
theorem zf5(g:gz7)(J:JT Rtz7)(lf:Nat)(x1:(List qaa))(m1:Nat)(p:Int):Bz7 g J lf 6 [m1] (qi1 x1 p)=qlx lf x1 (fun q=>J 6 [m1] (qi1 x1 q)) p:=by kernel_rfl
theorem ndz7:(regs fi22.body).Nodup:=by decide +kernel
theorem okz7:okC nmz7 stz7 hdz7 fi22.body none=true:=by kernel_rfl
def Az7(g:gz7)(lf:Nat):JT Rtz7:=atN Tryz.prog ttT.get nmz7 fi22 (sz7 g) (clz7 _ lf) lf hdz7
def qmo(lf:Nat)(x1:(List qaa)):Nat->(Int)->Option Rtz7:=qa1 fun K p=>qlx lf x1 K p
theorem q4q(g:gz7)(lf:Nat)(x1:(List qaa)):∀(n:Nat) (p:Int),Az7 g lf 6 [n] (qi1 x1 p)=qmo lf x1 n p
 | 0,p=>qbq 6 [0] rfl _
 | n+1,p=>by
  have ih:=q4q g lf x1 n;refine(qbp (qa7 20 _) ndz7 okz7 6 [n+1] [n] rfl _).trans ((zf5 g (Az7 g lf) lf x1 n p).trans ?_);rw[(show (fun q=>Az7 g lf 6 [n] (qi1 x1 q))=(fun q=>qmo lf x1 n q) from funext ih)];rfl
def Fz7(lf:Nat)(x1:(List qaa)):Option Rtz7:=qwk lf x1 (fun q=>qmo lf x1 lf q)
theorem zj5(g:gz7)(lf:Nat)(x1:(List qaa)):Ez7 g (Az7 g lf) lf x1=Fz7 lf x1:=by
  refine(inz7 g (Az7 g lf) lf x1).trans ?_;rw[(show (fun q=>Az7 g lf 6 [lf] (qi1 x1 q))=(fun q=>qmo lf x1 lf q) from funext fun q=>q4q g lf x1 lf q)];rfl
theorem zhz:qbd Tryz.prog q8d:=trivial
theorem mkz7{g:gz7}(hsm:SmOK Tryz.prog q7u)(hg:∀(x:ElA [(.list qac)]) (y:Rtz7),WfA [(.list qac)] x->g x=some y->∃lf,Fz7 lf x.1=some y):Con Tryz.prog 22 ⟨[(.list qac)],[(false,(.int .i64)),(false,(.int .i64))],g⟩ :=
 conV (st:=stz7) (fun lf x=>Fz7 lf x.1) cm3 zf1 zhz ndz7 okz7 (fun lf x=>zj5 g lf x.1) hsm hg
abbrev qo4:Type:=Int × Unit
abbrev zab:Nat:=65
def q8o(lf:Nat)(x1:qad):Option qo4:=(cond (Bool.not (ieqI (S.checkDisk (x1.1.1,x1.1.2)) (Int.ofNat 0))) (some ((Int.ofNat 1),())) (cond (iltI (Int.ofNat 0) (Int.ofNat x1.1.2.length)) (some ((Int.ofNat 1),())) (match (cond (S.okL (x1.1.1,x1.1.2)) (some ((S.openedJ (x1.1.1,x1.1.2)).1,((S.openedJ (x1.1.1,x1.1.2)).2,()))) none) with|none=>none|some v0=>(cond (Bool.not v0.2.1) (some ((Int.ofNat 1),())) (cond (Bool.not (ieqI v0.1.2.1 x1.2.1)) (some ((Int.ofNat 1),())) (cond (Bool.not (ieqI v0.1.2.2.1 x1.2.2.1)) (some ((Int.ofNat 1),())) (cond (Bool.not (S.sameC v0.1.2.2.2 x1.2.2.2)) (some ((Int.ofNat 1),())) (some ((Int.ofNat 0),())))))))))
def qn8(lf:Nat)(x1:qad):Option qo4:=q8o lf x1
theorem ziv{g:ElA [qag]->Option qo4}(hsm:SmOK Tryz.prog [(37,qho),(61,qgr),(100,qzi)])(hg:∀(x:ElA [qag]) (y:qo4),WfA [qag] x->g x=some y->∃lf,qn8 lf x.1=some y):Con Tryz.prog 65 ⟨[qag],[(false,(.int .i64))],g⟩ :=
 conU (fi:=fi65) (hxl:=[]) (fun lf x=>qn8 lf x.1) cm3 zb8 trivial hsm hg
abbrev qqi:Type:=Int × Int × Unit
abbrev zcy:Nat:=20
def q0p(lf:Nat)(x1:qad):Option qqi:=(cond (Bool.not (ieqI (S.errR ((x1.1.1,x1.1.2),(x1.2.1,(x1.2.2.1,x1.2.2.2)))) (Int.ofNat 0))) (some ((Int.ofNat 0),((S.errR ((x1.1.1,x1.1.2),(x1.2.1,(x1.2.2.1,x1.2.2.2)))),()))) (match (cond (S.smallJ ((x1.1.1,x1.1.2),(x1.2.1,(x1.2.2.1,x1.2.2.2)))) (some ((S.roomOf ((x1.1.1,x1.1.2),(x1.2.1,(x1.2.2.1,x1.2.2.2)))),())) none) with|none=>none|some v0=>(some (v0.1,((Int.ofNat 0),())))))
def qpb(lf:Nat)(x1:qad):Option qqi:=q0p lf x1
theorem zj4{g:ElA [qag]->Option qqi}(hsm:SmOK Tryz.prog [(65,qnw),(69,qsl)])(hg:∀(x:ElA [qag]) (y:qqi),WfA [qag] x->g x=some y->∃lf,qpb lf x.1=some y):Con Tryz.prog 20 ⟨[qag],[(false,(.int .i64)),(false,(.int .i64))],g⟩ :=
 conU (fi:=fi20) (hxl:=[]) (fun lf x=>qpb lf x.1) cm3 zo1 trivial hsm hg
abbrev qqz:Type:=Int × Unit
abbrev ze8:Nat:=71
def q77(lf:Nat)(x1:qad)(x2:(List qaa)):Option qqz:=(cond (Bool.not (ieqI (S.errR ((x1.1.1,x1.1.2),(x1.2.1,(x1.2.2.1,x1.2.2.2)))) (Int.ofNat 0))) (some ((S.errR ((x1.1.1,x1.1.2),(x1.2.1,(x1.2.2.1,x1.2.2.2)))),())) (some ((S.size x2).2,())))
def qm1(lf:Nat)(x1:qad)(x2:(List qaa)):Option qqz:=q77 lf x1 x2
theorem zrp{g:ElA [qag,(.list qac)]->Option qqz}(hsm:SmOK Tryz.prog [(65,qnw),(22,spz7)])(hg:∀(x:ElA [qag,(.list qac)]) (y:qqz),WfA [qag,(.list qac)] x->g x=some y->∃lf,qm1 lf x.1 x.2.1=some y):Con Tryz.prog 71 ⟨[qag,(.list qac)],[(false,(.int .i64))],g⟩ :=
 conU (fi:=fi71) (hxl:=[]) (fun lf x=>qm1 lf x.1 x.2.1) cm3 zfx trivial hsm hg
def q7n:List (Nat × Hx):=[(53,hxR spz8),(55,hxR spz9)]
abbrev qns:Type:=(List DAct) × Bool × Unit
abbrev zg8:Nat:=72
def q33(lf:Nat)(x1:qad)(x2:(List qaa)):Option qns:=(match (cond (S.pk x2) (some ((S.packed x2 (Int.ofNat 1)),())) none) with|none=>none|some v0=>(match (cond (S.smallJ ((x1.1.1,x1.1.2),(x1.2.1,(x1.2.2.1,x1.2.2.2)))) (some ((S.roomOf ((x1.1.1,x1.1.2),(x1.2.1,(x1.2.2.1,x1.2.2.2)))),())) none) with|none=>none|some v1=>(cond (iltI v1.1 (Int.ofNat v0.1.length)) (some ([],(false,()))) (match (cond (S.inI (Int.ofNat x1.1.1.length) (Int.ofNat 0) (Int.ofNat 1000)) (some ((S.half (Int.toNat (Int.ofNat x1.1.1.length)) x1.2.1),())) none) with|none=>none|some v2=>(match (jget v0.1 (Int.ofNat 0)) with|none=>none|some v3=>(match (GetElem?.getElem? v0.1 0) with|none=>none|some v4=>(match (cond (Decidable.decide (Eq v4.size 64)) (some ((qae (List.cons (Int.ofNat 0) (List.drop 1 (qab v4)))),())) none) with|none=>none|some v5=>(match (cond (Bool.and (S.inI (IntKind.i64.wrap (Int.add v2.1.1 x1.2.2.1)) (Int.ofNat 0) (Int.ofNat 1000000)) true) (some ((),(((S.app [] (S.puts (IntKind.i64.wrap (Int.add v2.1.1 x1.2.2.1)) [v5.1])),()),()))) none) with|none=>none|some v6=>(cond (lchk (Int.ofNat 1) (Int.ofNat v0.1.length) (Int.ofNat v0.1.length) (Int.ofNat v0.1.length)) (match (cond (Bool.and (S.inI (IntKind.i64.wrap (Int.add (IntKind.i64.wrap (Int.add v2.1.1 x1.2.2.1)) (Int.ofNat 1))) (Int.ofNat 0) (Int.ofNat 1000000)) (Bool.and (Nat.ble (List.length (lsub v0.1 (Int.ofNat 1) (Int.ofNat v0.1.length))) 1000000) (Nat.ble (S.lenA v6.2.1.1) 1000000))) (some ((),(((S.app v6.2.1.1 (S.puts (IntKind.i64.wrap (Int.add (IntKind.i64.wrap (Int.add v2.1.1 x1.2.2.1)) (Int.ofNat 1))) (lsub v0.1 (Int.ofNat 1) (Int.ofNat v0.1.length)))),()),()))) none) with|none=>none|some v7=>(cond (iltI (IntKind.i64.wrap (Int.add (IntKind.i64.wrap (Int.add v2.1.1 x1.2.2.1)) (Int.ofNat v0.1.length))) v2.1.2) (match (cond (Bool.and (S.inI (IntKind.i64.wrap (Int.add (IntKind.i64.wrap (Int.add v2.1.1 x1.2.2.1)) (Int.ofNat v0.1.length))) (Int.ofNat 0) (Int.ofNat 1000000)) (Nat.ble (S.lenA v7.2.1.1) 1000000)) (some ((),(((S.app v7.2.1.1 (S.puts (IntKind.i64.wrap (Int.add (IntKind.i64.wrap (Int.add v2.1.1 x1.2.2.1)) (Int.ofNat v0.1.length))) [S.blank])),()),()))) none) with|none=>none|some v8=>(match (cond (Nat.ble (S.lenA v8.2.1.1) 4000000) (some ((),(((S.app v8.2.1.1 [S.sync]),()),()))) none) with|none=>none|some v9=>(match (jget v0.1 (Int.ofNat 0)) with|none=>none|some v10=>(match (cond (Bool.and (S.inI (IntKind.i64.wrap (Int.add v2.1.1 x1.2.2.1)) (Int.ofNat 0) (Int.ofNat 1000000)) (Nat.ble (S.lenA v9.2.1.1) 1000000)) (some ((),(((S.app v9.2.1.1 (S.puts (IntKind.i64.wrap (Int.add v2.1.1 x1.2.2.1)) [v10])),()),()))) none) with|none=>none|some v11=>(match (cond (Nat.ble (S.lenA v11.2.1.1) 4000000) (some ((),(((S.app v11.2.1.1 [S.sync]),()),()))) none) with|none=>none|some v12=>(some (v12.2.1.1,(true,())))))))) (match (cond (Nat.ble (S.lenA v7.2.1.1) 4000000) (some ((),(((S.app v7.2.1.1 [S.sync]),()),()))) none) with|none=>none|some v13=>(match (jget v0.1 (Int.ofNat 0)) with|none=>none|some v14=>(match (cond (Bool.and (S.inI (IntKind.i64.wrap (Int.add v2.1.1 x1.2.2.1)) (Int.ofNat 0) (Int.ofNat 1000000)) (Nat.ble (S.lenA v13.2.1.1) 1000000)) (some ((),(((S.app v13.2.1.1 (S.puts (IntKind.i64.wrap (Int.add v2.1.1 x1.2.2.1)) [v14])),()),()))) none) with|none=>none|some v15=>(match (cond (Nat.ble (S.lenA v15.2.1.1) 4000000) (some ((),(((S.app v15.2.1.1 [S.sync]),()),()))) none) with|none=>none|some v16=>(some (v16.2.1.1,(true,()))))))))) none)))))))))
def qoi(lf:Nat)(x1:qad)(x2:(List qaa)):Option qns:=q33 lf x1 x2
theorem zof(hrz8:ConR Tryz.prog 53 spz8)(hrz9:ConR Tryz.prog 55 spz9):qbd Tryz.prog q7n:=⟨qfg hrz8,⟨qfg hrz9,trivial⟩⟩
theorem zqu{g:ElA [qag,(.list qac)]->Option qns}(hsm:SmOK Tryz.prog [(56,qmb),(69,qsl),(93,ql2),(101,qu8),(54,qqh)])(hrz8:ConR Tryz.prog 53 spz8)(hrz9:ConR Tryz.prog 55 spz9)(hg:∀(x:ElA [qag,(.list qac)]) (y:qns),WfA [qag,(.list qac)] x->g x=some y->∃lf,qoi lf x.1 x.2.1=some y):Con Tryz.prog 72 ⟨[qag,(.list qac)],[(true,cAct),(false,.bool)],g⟩ :=
 conU (fi:=fi72) (hxl:=q7n) (fun lf x=>qoi lf x.1 x.2.1) cm3 znx (zof hrz8 hrz9) hsm hg
abbrev qoq:Type:=qad × Unit
abbrev zql:Nat:=74
def q79(lf:Nat)(x1:qad)(x2:(List DAct)):Option qoq:=(match (cond (S.okL ((S.doD (x1.1.1,x1.1.2) x2).1.1,(S.doD (x1.1.1,x1.1.2) x2).1.2)) (some ((S.openedJ ((S.doD (x1.1.1,x1.1.2) x2).1.1,(S.doD (x1.1.1,x1.1.2) x2).1.2)).1,((S.openedJ ((S.doD (x1.1.1,x1.1.2) x2).1.1,(S.doD (x1.1.1,x1.1.2) x2).1.2)).2,()))) none) with|none=>none|some v0=>(some (((v0.1.1.1,v0.1.1.2),(v0.1.2.1,(v0.1.2.2.1,v0.1.2.2.2))),())))
def qn4(lf:Nat)(x1:qad)(x2:(List DAct)):Option qoq:=q79 lf x1 x2
theorem zgh{g:ElA [qag,(.list cAct)]->Option qoq}(hsm:SmOK Tryz.prog [(32,qmy),(61,qgr)])(hg:∀(x:ElA [qag,(.list cAct)]) (y:qoq),WfA [qag,(.list cAct)] x->g x=some y->∃lf,qn4 lf x.1 x.2.1=some y):Con Tryz.prog 74 ⟨[qag,(.list cAct)],[(false,qag)],g⟩ :=
 conU (fi:=fi74) (hxl:=[]) (fun lf x=>qn4 lf x.1 x.2.1) cm3 zjr trivial hsm hg
abbrev qnc:Type:=(List DAct) × Int × Unit
abbrev za5:Nat:=24
def qz4(lf:Nat)(x1:qad)(x2:(List qaa)):Option qnc:=(cond (Bool.not (ieqI (S.asked ((x1.1.1,x1.1.2),(x1.2.1,(x1.2.2.1,x1.2.2.2))) x2) (Int.ofNat 0))) (some ([],((S.asked ((x1.1.1,x1.1.2),(x1.2.1,(x1.2.2.1,x1.2.2.2))) x2),()))) (match (cond (S.comG ((x1.1.1,x1.1.2),(x1.2.1,(x1.2.2.1,x1.2.2.2))) x2) (some ((S.actsB (S.commit ((x1.1.1,x1.1.2),(x1.2.1,(x1.2.2.1,x1.2.2.2))) x2)).1,((S.actsB (S.commit ((x1.1.1,x1.1.2),(x1.2.1,(x1.2.2.1,x1.2.2.2))) x2)).2,()))) none) with|none=>none|some v0=>(cond (Bool.not v0.2.1) (some ([],((Int.ofNat 14),()))) (some (v0.1,((Int.ofNat 0),()))))))
def qms(lf:Nat)(x1:qad)(x2:(List qaa)):Option qnc:=qz4 lf x1 x2
theorem zne{g:ElA [qag,(.list qac)]->Option qnc}(hsm:SmOK Tryz.prog [(71,quv),(72,qwy)])(hg:∀(x:ElA [qag,(.list qac)]) (y:qnc),WfA [qag,(.list qac)] x->g x=some y->∃lf,qms lf x.1 x.2.1=some y):Con Tryz.prog 24 ⟨[qag,(.list qac)],[(true,cAct),(false,(.int .i64))],g⟩ :=
 conU (fi:=fi24) (hxl:=[]) (fun lf x=>qms lf x.1 x.2.1) cm3 zlk trivial hsm hg
abbrev qpe:Type:=qad × Int × Unit
abbrev znl:Nat:=26
def q5s(lf:Nat)(x1:qad)(x2:(List qaa)):Option qpe:=(cond (Bool.not (ieqI (S.plan ((x1.1.1,x1.1.2),(x1.2.1,(x1.2.2.1,x1.2.2.2))) x2).2 (Int.ofNat 0))) (some ((([],[]),((Int.ofNat 0),((Int.ofNat 0),[]))),((S.plan ((x1.1.1,x1.1.2),(x1.2.1,(x1.2.2.1,x1.2.2.2))) x2).2,()))) (match (cond (S.behG ((x1.1.1,x1.1.2),(x1.2.1,(x1.2.2.1,x1.2.2.2))) (S.plan ((x1.1.1,x1.1.2),(x1.2.1,(x1.2.2.1,x1.2.2.2))) x2).1) (some ((S.behind ((x1.1.1,x1.1.2),(x1.2.1,(x1.2.2.1,x1.2.2.2))) (S.plan ((x1.1.1,x1.1.2),(x1.2.1,(x1.2.2.1,x1.2.2.2))) x2).1).1,())) none) with|none=>none|some v0=>(some (((v0.1.1.1,v0.1.1.2),(v0.1.2.1,(v0.1.2.2.1,v0.1.2.2.2))),((Int.ofNat 0),())))))
def qpj(lf:Nat)(x1:qad)(x2:(List qaa)):Option qpe:=q5s lf x1 x2
theorem zi2{g:ElA [qag,(.list qac)]->Option qpe}(hsm:SmOK Tryz.prog [(24,q8k),(74,qnj)])(hg:∀(x:ElA [qag,(.list qac)]) (y:qpe),WfA [qag,(.list qac)] x->g x=some y->∃lf,qpj lf x.1 x.2.1=some y):Con Tryz.prog 26 ⟨[qag,(.list qac)],[(false,qag),(false,(.int .i64))],g⟩ :=
 conU (fi:=fi26) (hxl:=[]) (fun lf x=>qpj lf x.1 x.2.1) cm3 zer trivial hsm hg
abbrev qmt:Type:=(List DAct) × Int × Unit
abbrev zoi:Nat:=39
def q6s(lf:Nat)(x1:qad):Option qmt:=(cond (Bool.not (ieqI (S.errR ((x1.1.1,x1.1.2),(x1.2.1,(x1.2.2.1,x1.2.2.2)))) (Int.ofNat 0))) (some ([],((S.errR ((x1.1.1,x1.1.2),(x1.2.1,(x1.2.2.1,x1.2.2.2)))),()))) (match (cond (S.turG ((x1.1.1,x1.1.2),(x1.2.1,(x1.2.2.1,x1.2.2.2)))) (some ((S.actsB (S.turn ((x1.1.1,x1.1.2),(x1.2.1,(x1.2.2.1,x1.2.2.2))))).1,((S.actsB (S.turn ((x1.1.1,x1.1.2),(x1.2.1,(x1.2.2.1,x1.2.2.2))))).2,()))) none) with|none=>none|some v0=>(cond (Bool.not v0.2.1) (some ([],((Int.ofNat 14),()))) (some (v0.1,((Int.ofNat 0),()))))))
def qnh(lf:Nat)(x1:qad):Option qmt:=q6s lf x1
theorem zea{g:ElA [qag]->Option qmt}(hsm:SmOK Tryz.prog [(65,qnw),(88,qtp)])(hg:∀(x:ElA [qag]) (y:qmt),WfA [qag] x->g x=some y->∃lf,qnh lf x.1=some y):Con Tryz.prog 39 ⟨[qag],[(true,cAct),(false,(.int .i64))],g⟩ :=
 conU (fi:=fi39) (hxl:=[]) (fun lf x=>qnh lf x.1) cm3 zb0 trivial hsm hg
abbrev qqy:Type:=qad × Int × Unit
abbrev zp7:Nat:=41
def q17(lf:Nat)(x1:qad):Option qqy:=(cond (Bool.not (ieqI (S.planTurn ((x1.1.1,x1.1.2),(x1.2.1,(x1.2.2.1,x1.2.2.2)))).2 (Int.ofNat 0))) (some ((([],[]),((Int.ofNat 0),((Int.ofNat 0),[]))),((S.planTurn ((x1.1.1,x1.1.2),(x1.2.1,(x1.2.2.1,x1.2.2.2)))).2,()))) (match (cond (S.behG ((x1.1.1,x1.1.2),(x1.2.1,(x1.2.2.1,x1.2.2.2))) (S.planTurn ((x1.1.1,x1.1.2),(x1.2.1,(x1.2.2.1,x1.2.2.2)))).1) (some ((S.behind ((x1.1.1,x1.1.2),(x1.2.1,(x1.2.2.1,x1.2.2.2))) (S.planTurn ((x1.1.1,x1.1.2),(x1.2.1,(x1.2.2.1,x1.2.2.2)))).1).1,())) none) with|none=>none|some v0=>(some (((v0.1.1.1,v0.1.1.2),(v0.1.2.1,(v0.1.2.2.1,v0.1.2.2.2))),((Int.ofNat 0),())))))
def qqg(lf:Nat)(x1:qad):Option qqy:=q17 lf x1
theorem zo5{g:ElA [qag]->Option qqy}(hsm:SmOK Tryz.prog [(39,q1r),(74,qnj)])(hg:∀(x:ElA [qag]) (y:qqy),WfA [qag] x->g x=some y->∃lf,qqg lf x.1=some y):Con Tryz.prog 41 ⟨[qag],[(false,qag),(false,(.int .i64))],g⟩ :=
 conU (fi:=fi41) (hxl:=[]) (fun lf x=>qqg lf x.1) cm3 zmf trivial hsm hg
abbrev qnv:Type:=qad × Int × Unit
abbrev zmo:Nat:=43
def q7v(lf:Nat)(x1:qad)(x2:(List qaa)):Option qnv:=(cond (Bool.not (ieqI (S.asked ((x1.1.1,x1.1.2),(x1.2.1,(x1.2.2.1,x1.2.2.2))) x2) (Int.ofNat 0))) (some ((([],[]),((Int.ofNat 0),((Int.ofNat 0),[]))),((S.asked ((x1.1.1,x1.1.2),(x1.2.1,(x1.2.2.1,x1.2.2.2))) x2),()))) (match (cond (S.comG ((x1.1.1,x1.1.2),(x1.2.1,(x1.2.2.1,x1.2.2.2))) x2) (some ((S.actsB (S.commit ((x1.1.1,x1.1.2),(x1.2.1,(x1.2.2.1,x1.2.2.2))) x2)).1,((S.actsB (S.commit ((x1.1.1,x1.1.2),(x1.2.1,(x1.2.2.1,x1.2.2.2))) x2)).2,()))) none) with|none=>none|some v0=>(cond v0.2.1 (match (cond (S.behG ((x1.1.1,x1.1.2),(x1.2.1,(x1.2.2.1,x1.2.2.2))) v0.1) (some ((S.behind ((x1.1.1,x1.1.2),(x1.2.1,(x1.2.2.1,x1.2.2.2))) v0.1).1,())) none) with|none=>none|some v1=>(some (((v1.1.1.1,v1.1.1.2),(v1.1.2.1,(v1.1.2.2.1,v1.1.2.2.2))),((Int.ofNat 0),())))) (match (cond (S.turG ((x1.1.1,x1.1.2),(x1.2.1,(x1.2.2.1,x1.2.2.2)))) (some ((S.actsB (S.turn ((x1.1.1,x1.1.2),(x1.2.1,(x1.2.2.1,x1.2.2.2))))).1,((S.actsB (S.turn ((x1.1.1,x1.1.2),(x1.2.1,(x1.2.2.1,x1.2.2.2))))).2,()))) none) with|none=>none|some v2=>(cond (Bool.not v2.2.1) (some ((([],[]),((Int.ofNat 0),((Int.ofNat 0),[]))),((Int.ofNat 14),()))) (match (cond (S.behG ((x1.1.1,x1.1.2),(x1.2.1,(x1.2.2.1,x1.2.2.2))) v2.1) (some ((S.behind ((x1.1.1,x1.1.2),(x1.2.1,(x1.2.2.1,x1.2.2.2))) v2.1).1,())) none) with|none=>none|some v3=>(match (cond (S.comG ((v3.1.1.1,v3.1.1.2),(v3.1.2.1,(v3.1.2.2.1,v3.1.2.2.2))) x2) (some ((S.actsB (S.commit ((v3.1.1.1,v3.1.1.2),(v3.1.2.1,(v3.1.2.2.1,v3.1.2.2.2))) x2)).1,((S.actsB (S.commit ((v3.1.1.1,v3.1.1.2),(v3.1.2.1,(v3.1.2.2.1,v3.1.2.2.2))) x2)).2,()))) none) with|none=>none|some v4=>(cond (Bool.not v4.2.1) (some ((([],[]),((Int.ofNat 0),((Int.ofNat 0),[]))),((Int.ofNat 14),()))) (match (cond (S.behG ((v3.1.1.1,v3.1.1.2),(v3.1.2.1,(v3.1.2.2.1,v3.1.2.2.2))) v4.1) (some ((S.behind ((v3.1.1.1,v3.1.1.2),(v3.1.2.1,(v3.1.2.2.1,v3.1.2.2.2))) v4.1).1,())) none) with|none=>none|some v5=>(some (((v5.1.1.1,v5.1.1.2),(v5.1.2.1,(v5.1.2.2.1,v5.1.2.2.2))),((Int.ofNat 0),()))))))))))))
def qoj(lf:Nat)(x1:qad)(x2:(List qaa)):Option qnv:=q7v lf x1 x2
theorem zsm{g:ElA [qag,(.list qac)]->Option qnv}(hsm:SmOK Tryz.prog [(71,quv),(72,qwy),(88,qtp),(74,qnj)])(hg:∀(x:ElA [qag,(.list qac)]) (y:qnv),WfA [qag,(.list qac)] x->g x=some y->∃lf,qoj lf x.1 x.2.1=some y):Con Tryz.prog 43 ⟨[qag,(.list qac)],[(false,qag),(false,(.int .i64))],g⟩ :=
 conU (fi:=fi43) (hxl:=[]) (fun lf x=>qoj lf x.1 x.2.1) cm3 za8 trivial hsm hg
abbrev qo9:Type:=qad × Int × Unit
abbrev zgd:Nat:=13
def q0x(lf:Nat)(x1:qah):Option qo9:=(cond (Bool.not (ieqI (S.checkDisk (x1.1,x1.2)) (Int.ofNat 0))) (some ((([],[]),((Int.ofNat 0),((Int.ofNat 0),[]))),((S.checkDisk (x1.1,x1.2)),()))) (cond (iltI (Int.ofNat 0) (Int.ofNat x1.2.length)) (some ((([],[]),((Int.ofNat 0),((Int.ofNat 0),[]))),((Int.ofNat 12),()))) (match (cond (S.okL (x1.1,x1.2)) (some ((S.openedJ (x1.1,x1.2)).1,((S.openedJ (x1.1,x1.2)).2,()))) none) with|none=>none|some v0=>(cond (Bool.not v0.2.1) (some ((([],[]),((Int.ofNat 0),((Int.ofNat 0),[]))),((Int.ofNat 15),()))) (some (((v0.1.1.1,v0.1.1.2),(v0.1.2.1,(v0.1.2.2.1,v0.1.2.2.2))),((Int.ofNat 0),())))))))
def qmr(lf:Nat)(x1:qah):Option qo9:=q0x lf x1
theorem zhc{g:ElA [qan]->Option qo9}(hsm:SmOK Tryz.prog [(37,qho),(61,qgr)])(hg:∀(x:ElA [qan]) (y:qo9),WfA [qan] x->g x=some y->∃lf,qmr lf x.1=some y):Con Tryz.prog 13 ⟨[qan],[(false,qag),(false,(.int .i64))],g⟩ :=
 conU (fi:=fi13) (hxl:=[]) (fun lf x=>qmr lf x.1) cm3 znv trivial hsm hg
def nmz8:Nat->Option Nm:=fun k=>cond (Nat.beq k 1) (some ⟨[0,1,8,9,10],[],[],[],[],0,0,false⟩) (cond (Nat.beq k 999999) (some ⟨[],[],[],[],[],0,0,false⟩) none)
def stz8:Nat->Bool:=fun k=>cond (Nat.beq k 1) true (false)
def hdz8:=stz8
abbrev Rtz8:Type:=(Unit) × ((List DAct) × Unit) × Unit
def qsc:List (Nat × Sm):=[]
def qsw:List (Nat × Hx):=[]
def clz8(R:Type)(lf:Nat):ClK R:=qa3 Tryz.prog ttT.get ftT.get (fun _ _=>none) (smL qsc) (hxL qsw) lf 20 R
abbrev idz8:Nat:=53
def qg8(x1:(List DAct))(x2:Int)(x3:(List ByteArray))(p:Int × (List DAct)):NRes:=(NRes.mk (.node (some (IV.ptr 0 0)) (.node (some (IV.int .i64 x2)) .leaf (.node none (.node (some (IV.int .i64 (Int.ofNat x3.length))) .leaf .leaf) .leaf)) (.node none (.node none (.node (some (IV.lst TC.str x3)) .leaf .leaf) .leaf) (.node none (.node (some (IV.int .i64 p.1)) .leaf .leaf) .leaf))) (IS.mk (.node (some (IObj.row [(IV.arr 1)])) (.node (some (IObj.arr cAct p.2)) .leaf .leaf) .leaf) 2) [] 0)
def qs0(lf:Nat)(x1:(List DAct))(x2:Int)(x3:(List ByteArray))(L1:(Int × (List DAct))->Option Rtz8):Option Rtz8:=(L1 ((Int.ofNat 0),x1))
def qhe(lf:Nat)(x1:(List DAct))(x2:Int)(x3:(List ByteArray))(L1:(Int × (List DAct))->Option Rtz8)(p:Int × (List DAct)):Option Rtz8:=(cond (iltI p.1 (Int.ofNat x3.length)) (match (jget x3 p.1) with|none=>none|some v0=>(cond (Nat.ble (Nat.mul (Nat.add p.2.length 1) 32) 140737488355328) (L1 ((IntKind.i64.wrap (Int.add p.1 (Int.ofNat 1))),(List.append p.2 (List.cons (false,((IntKind.i64.wrap (Int.add x2 p.1)),v0)) [])))) none)) (some ((),((p.2,()),()))))
abbrev gz8:Type:=ElP [.ref (.box [.arr cAct]),.dat (.int .i64),.dat (.list .str)]->Option Rtz8
abbrev sz8(g:gz8):SmR:=⟨[.ref (.box [.arr cAct]),.dat (.int .i64),.dat (.list .str)],[],g⟩
abbrev Ez8(g:gz8)(J:JT Rtz8)(lf:Nat)(x1:(List DAct))(x2:Int)(x3:(List ByteArray)):=qb6 Tryz.prog ttT.get nmz8 (mP [.ref (.box [.arr cAct]),.dat (.int .i64),.dat (.list .str)]) fi53.nt (clz8 _ lf) lf stz8 J fi53.body [] (qaz (qaq [.ref (.box [.arr cAct]),.dat (.int .i64),.dat (.list .str)] idN 0 ((x1,()),x2,x3,())) 0 .leaf) (Sc [.ref (.box [.arr cAct]),.dat (.int .i64),.dat (.list .str)] ((x1,()),x2,x3,())) [] (qd3 ttT.get fi53 (sz8 g))
abbrev Bz8(g:gz8)(J:JT Rtz8)(lf k:Nat)(ms:List Nat)(q:NRes):=qb9 Tryz.prog ttT.get nmz8 (mP [.ref (.box [.arr cAct]),.dat (.int .i64),.dat (.list .str)]) fi53.nt (clz8 _ lf) lf stz8 J k fi53.body [] ms q (qd3 ttT.get fi53 (sz8 g))
theorem inz8(g:gz8)(J:JT Rtz8)(lf:Nat)(x1:(List DAct))(x2:Int)(x3:(List ByteArray)):Ez8 g J lf x1 x2 x3=qs0 lf x1 x2 x3 (fun q=>J 1 [lf] (qg8 x1 x2 x3 q)):=by kernel_rfl
theorem znf(g:gz8)(J:JT Rtz8)(lf:Nat)(x1:(List DAct))(x2:Int)(x3:(List ByteArray))(m1:Nat)(p:Int × (List DAct)):Bz8 g J lf 1 [m1] (qg8 x1 x2 x3 p)=qhe lf x1 x2 x3 (fun q=>J 1 [m1] (qg8 x1 x2 x3 q)) p:=by kernel_rfl
theorem ndz8:(regs fi53.body).Nodup:=by decide +kernel
theorem okz8:okC nmz8 stz8 hdz8 fi53.body none=true:=by kernel_rfl
def Az8(g:gz8)(lf:Nat):JT Rtz8:=atQ Tryz.prog ttT.get nmz8 fi53 (sz8 g) (clz8 _ lf) lf hdz8
def qgw(lf:Nat)(x1:(List DAct))(x2:Int)(x3:(List ByteArray)):Nat->(Int × (List DAct))->Option Rtz8:=qa1 fun K p=>qhe lf x1 x2 x3 K p
theorem qzy(g:gz8)(lf:Nat)(x1:(List DAct))(x2:Int)(x3:(List ByteArray)):∀(n:Nat) (p:Int × (List DAct)),Az8 g lf 1 [n] (qg8 x1 x2 x3 p)=qgw lf x1 x2 x3 n p
 | 0,p=>q74 1 [0] rfl _
 | n+1,p=>by
  have ih:=qzy g lf x1 x2 x3 n;refine(q9c rfl (qa7 20 _) ndz8 okz8 1 [n+1] [n] rfl _).trans ((znf g (Az8 g lf) lf x1 x2 x3 n p).trans ?_);rw[(show (fun q=>Az8 g lf 1 [n] (qg8 x1 x2 x3 q))=(fun q=>qgw lf x1 x2 x3 n q) from funext ih)];rfl
def Fz8(lf:Nat)(x1:(List DAct))(x2:Int)(x3:(List ByteArray)):Option Rtz8:=qs0 lf x1 x2 x3 (fun q=>qgw lf x1 x2 x3 lf q)
theorem zr3(g:gz8)(lf:Nat)(x1:(List DAct))(x2:Int)(x3:(List ByteArray)):Ez8 g (Az8 g lf) lf x1 x2 x3=Fz8 lf x1 x2 x3:=by
  refine(inz8 g (Az8 g lf) lf x1 x2 x3).trans ?_;rw[(show (fun q=>Az8 g lf 1 [lf] (qg8 x1 x2 x3 q))=(fun q=>qgw lf x1 x2 x3 lf q) from funext fun q=>qzy g lf x1 x2 x3 lf q)];rfl
theorem zlw:qbd Tryz.prog qsw:=trivial
theorem mkz8{g:gz8}(hsm:SmOK Tryz.prog qsc)(hg:∀(x:ElP [.ref (.box [.arr cAct]),.dat (.int .i64),.dat (.list .str)]) (y:Rtz8),WfP [.ref (.box [.arr cAct]),.dat (.int .i64),.dat (.list .str)] x->g x=some y->∃lf,Fz8 lf x.1.1 x.2.1 x.2.2.1=some y):ConR Tryz.prog 53 ⟨[.ref (.box [.arr cAct]),.dat (.int .i64),.dat (.list .str)],[],g⟩ :=
 conTR (nmf:=nmz8) (sml:=qsc) (hxl:=qsw) (st:=stz8) (hd:=hdz8) 20 mixed ttOK ftOK hsm zlw zc5 (by kernel_rfl) (fun x=>by kernel_rfl) ndz8 okz8 fun x y z hx hy=>by
  obtain⟨lf,h⟩:=hg x (y,z) hx hy;exact⟨lf,(zr3 g lf x.1.1 x.2.1 x.2.2.1).trans h⟩
def nmz9:Nat->Option Nm:=fun k=>cond (Nat.beq k 999999) (some ⟨[],[],[],[],[],0,0,false⟩) none
def stz9:Nat->Bool:=fun k=>false
def hdz9:=stz9
abbrev Rtz9:Type:=(Unit) × ((List DAct) × Unit) × Unit
def qwl:List (Nat × Sm):=[]
def qwv:List (Nat × Hx):=[]
def clz9(R:Type)(lf:Nat):ClK R:=qa3 Tryz.prog ttT.get ftT.get (fun _ _=>none) (smL qwl) (hxL qwv) lf 20 R
abbrev idz9:Nat:=55
def qvp(lf:Nat)(x1:(List DAct)):Option Rtz9:=(cond (Nat.ble (Nat.mul (Nat.add x1.length 1) 32) 140737488355328) (some ((),(((List.append x1 (List.cons (true,((Int.ofNat 0),(S.lit []))) [])),()),()))) none)
abbrev gz9:Type:=ElP [.ref (.box [.arr cAct])]->Option Rtz9
abbrev sz9(g:gz9):SmR:=⟨[.ref (.box [.arr cAct])],[],g⟩
abbrev Ez9(g:gz9)(J:JT Rtz9)(lf:Nat)(x1:(List DAct)):=qb6 Tryz.prog ttT.get nmz9 (mP [.ref (.box [.arr cAct])]) fi55.nt (clz9 _ lf) lf stz9 J fi55.body [] (qaz (qaq [.ref (.box [.arr cAct])] idN 0 ((x1,()),())) 0 .leaf) (Sc [.ref (.box [.arr cAct])] ((x1,()),())) [] (qd3 ttT.get fi55 (sz9 g))
theorem inz9(g:gz9)(J:JT Rtz9)(lf:Nat)(x1:(List DAct)):Ez9 g J lf x1=qvp lf x1:=by kernel_rfl
theorem ndz9:(regs fi55.body).Nodup:=by decide +kernel
theorem okz9:okC nmz9 stz9 hdz9 fi55.body none=true:=by kernel_rfl
def Az9(g:gz9)(lf:Nat):JT Rtz9:=atQ Tryz.prog ttT.get nmz9 fi55 (sz9 g) (clz9 _ lf) lf hdz9
def Fz9(lf:Nat)(x1:(List DAct)):Option Rtz9:=qvp lf x1
theorem zqr(g:gz9)(lf:Nat)(x1:(List DAct)):Ez9 g (Az9 g lf) lf x1=Fz9 lf x1:=by
  refine(inz9 g (Az9 g lf) lf x1).trans ?_;rfl
theorem zec:qbd Tryz.prog qwv:=trivial
theorem mkz9{g:gz9}(hsm:SmOK Tryz.prog qwl)(hg:∀(x:ElP [.ref (.box [.arr cAct])]) (y:Rtz9),WfP [.ref (.box [.arr cAct])] x->g x=some y->∃lf,Fz9 lf x.1.1=some y):ConR Tryz.prog 55 ⟨[.ref (.box [.arr cAct])],[],g⟩ :=
 conTR (nmf:=nmz9) (sml:=qwl) (hxl:=qwv) (st:=stz9) (hd:=hdz9) 20 mixed ttOK ftOK hsm zec zl4 (by kernel_rfl) (fun x=>by kernel_rfl) ndz9 okz9 fun x y z hx hy=>by
  obtain⟨lf,h⟩:=hg x (y,z) hx hy;exact⟨lf,(zqr g lf x.1.1).trans h⟩
def q2q:List (Nat × Hx):=[(53,hxR spz8),(55,hxR spz9)]
abbrev qni:Type:=(List DAct) × Int × Unit
abbrev zrb:Nat:=11
def q8a(lf:Nat)(x1:qah):Option qni:=(cond (Bool.not (ieqI (S.checkDisk (x1.1,x1.2)) (Int.ofNat 0))) (some ([],((S.checkDisk (x1.1,x1.2)),()))) (cond (iltI (Int.ofNat 0) (Int.ofNat x1.2.length)) (some ([],((Int.ofNat 12),()))) (match (cond true (some ((),(((S.app (S.app [] (S.puts (Int.ofNat 1) (List.cons S.blank [S.blank]))) [S.sync]),()),()))) none) with|none=>none|some v0=>(match (cond (S.pk []) (some ((S.packed [] (Int.ofNat 1)),())) none) with|none=>none|some v1=>(match (cond (Bool.and (S.inI (Int.ofNat 1) (Int.ofNat 0) (Int.ofNat 1000000)) (Bool.and (Nat.ble v1.1.length 1000000) (Nat.ble (S.lenA v0.2.1.1) 1000000))) (some ((),(((S.app v0.2.1.1 (S.puts (Int.ofNat 1) v1.1)),()),()))) none) with|none=>none|some v2=>(match (cond (Nat.ble (S.lenA v2.2.1.1) 4000000) (some ((),(((S.app v2.2.1.1 [S.sync]),()),()))) none) with|none=>none|some v3=>(match (cond (Bool.and (S.inI (Int.ofNat 0) (Int.ofNat 0) (Int.ofNat 1000000)) (Nat.ble (S.lenA v3.2.1.1) 1000000)) (some ((),(((S.app v3.2.1.1 (S.puts (Int.ofNat 0) [S.blank])),()),()))) none) with|none=>none|some v4=>(match (cond (Nat.ble (S.lenA v4.2.1.1) 4000000) (some ((),(((S.app v4.2.1.1 [S.sync]),()),()))) none) with|none=>none|some v5=>(some (v5.2.1.1,((Int.ofNat 0),())))))))))))
def qnz(lf:Nat)(x1:qah):Option qni:=q8a lf x1
theorem zss(hrz8:ConR Tryz.prog 53 spz8)(hrz9:ConR Tryz.prog 55 spz9):qbd Tryz.prog q2q:=⟨qfg hrz8,⟨qfg hrz9,trivial⟩⟩
theorem zj8{g:ElA [qan]->Option qni}(hsm:SmOK Tryz.prog [(37,qho),(54,qqh),(56,qmb)])(hrz8:ConR Tryz.prog 53 spz8)(hrz9:ConR Tryz.prog 55 spz9)(hg:∀(x:ElA [qan]) (y:qni),WfA [qan] x->g x=some y->∃lf,qnz lf x.1=some y):Con Tryz.prog 11 ⟨[qan],[(true,cAct),(false,(.int .i64))],g⟩ :=
 conU (fi:=fi11) (hxl:=q2q) (fun lf x=>qnz lf x.1) cm3 zjm (zss hrz8 hrz9) hsm hg
def qlb:Nat->Option Nm:=fun k=>cond (Nat.beq k 6) (some ⟨[4,7,23,24,25],[],[(7,0,.str),(7,1,cPut)],[],[],0,0,false⟩) (none)
def qlh:Nat->Bool:=fun k=>cond (Nat.beq k 6) true (false)
def q86:=qlh
abbrev qcw:Type:=qah × Int × Unit
def q68:List (Nat × Sm):=[(37,qho),(66,qg9),(79,qwh),(80,q1k),(77,qk6),(78,q9k)]
def q6r:List (Nat × Hx):=[]
def qr8(R:Type)(lf:Nat):ClK R:=qa3 Tryz.prog ttT.get ftT.get (nm1 32 qlb) (smL q68) (hxL q6r) lf 20 R
abbrev ziw:Nat:=32
def qi4(x1:qah)(x2:q75)(p:Int × (List DPut) × (List ByteArray)):NRes:=(NRes.mk (.node none (.node none (.node none (.node (some (IV.ptr 1 0)) .leaf (.node (some (IV.lst cAct x2)) .leaf .leaf)) .leaf) (.node none (.node none .leaf (.node (some (IV.int .i64 p.1)) .leaf .leaf)) .leaf)) (.node none (.node (some (IV.ptr 0 0)) (.node none .leaf (.node (some (IV.int .i64 (Int.ofNat x2.length))) .leaf .leaf)) .leaf) .leaf)) (IS.mk (.node (some (IObj.row (List.cons IV.nilsl [IV.nilsl]))) (.node (some (IObj.row (List.cons (IV.arr 2) [(IV.arr 3)]))) (.node (some (IObj.arr cPut p.2.1)) .leaf .leaf) .leaf) (.node (some (IObj.arr TC.str p.2.2)) .leaf .leaf)) 4) [] 0)
def qr0(lf:Nat)(x1:qah)(x2:(List DAct))(L6:(Int × (List DPut) × (List ByteArray))->Option qcw):Option qcw:=(cond (Bool.not (ieqI (S.checkDisk (x1.1,x1.2)) (Int.ofNat 0))) (some (([],[]),((S.checkDisk (x1.1,x1.2)),()))) (L6 ((Int.ofNat 0),x1.2,x1.1)))
def qq6(lf:Nat)(x1:qah)(x2:(List DAct))(L6:(Int × (List DPut) × (List ByteArray))->Option qcw)(p:Int × (List DPut) × (List ByteArray)):Option qcw:=(cond (iltI p.1 (Int.ofNat x2.length)) (match (jget x2 p.1) with|none=>none|some v0=>(cond v0.1 (cond (Bool.not (Bool.and (keqI v0.2.1 (Int.ofNat 0)) (Bool.and (keqS v0.2.2 (S.lit [])) true))) (cond (Bool.not (Bool.and (keqI v0.2.1 (Int.ofNat 0)) (Bool.and (keqS v0.2.2 (S.lit [])) true))) (some (([],[]),((Int.ofNat 1),()))) (cond v0.1 (match (cond (S.fitP p.2.2 p.2.1) (some ((S.settled p.2.2 p.2.1),())) none) with|none=>none|some v1=>(L6 ((IntKind.i64.wrap (Int.add p.1 (Int.ofNat 1))),[],v1.1))) (cond (ieqI (Int.ofNat p.2.1.length) (Int.ofNat 4000)) (some (([],[]),((Int.ofNat 3),()))) (cond (Nat.ble (Nat.mul (Nat.add p.2.1.length 1) 24) 140737488355328) (L6 ((IntKind.i64.wrap (Int.add p.1 (Int.ofNat 1))),(List.append p.2.1 [(v0.2.1,v0.2.2)]),p.2.2)) none)))) (cond (Bool.not v0.1) (cond (S.short v0.2.2) (some (([],[]),((Int.ofNat 1),()))) (cond (Bool.not (S.inI v0.2.1 (Int.ofNat 0) (IntKind.i64.wrap (Int.sub (Int.ofNat p.2.2.length) (Int.ofNat 1))))) (some (([],[]),((Int.ofNat 1),()))) (cond v0.1 (match (cond (S.fitP p.2.2 p.2.1) (some ((S.settled p.2.2 p.2.1),())) none) with|none=>none|some v27=>(L6 ((IntKind.i64.wrap (Int.add p.1 (Int.ofNat 1))),[],v27.1))) (cond (ieqI (Int.ofNat p.2.1.length) (Int.ofNat 4000)) (some (([],[]),((Int.ofNat 3),()))) (cond (Nat.ble (Nat.mul (Nat.add p.2.1.length 1) 24) 140737488355328) (L6 ((IntKind.i64.wrap (Int.add p.1 (Int.ofNat 1))),(List.append p.2.1 [(v0.2.1,v0.2.2)]),p.2.2)) none))))) (cond v0.1 (match (cond (S.fitP p.2.2 p.2.1) (some ((S.settled p.2.2 p.2.1),())) none) with|none=>none|some v28=>(L6 ((IntKind.i64.wrap (Int.add p.1 (Int.ofNat 1))),[],v28.1))) (cond (ieqI (Int.ofNat p.2.1.length) (Int.ofNat 4000)) (some (([],[]),((Int.ofNat 3),()))) (cond (Nat.ble (Nat.mul (Nat.add p.2.1.length 1) 24) 140737488355328) (L6 ((IntKind.i64.wrap (Int.add p.1 (Int.ofNat 1))),(List.append p.2.1 [(v0.2.1,v0.2.2)]),p.2.2)) none))))) (cond (Bool.not v0.1) (cond (S.short v0.2.2) (some (([],[]),((Int.ofNat 1),()))) (cond (Bool.not (S.inI v0.2.1 (Int.ofNat 0) (IntKind.i64.wrap (Int.sub (Int.ofNat p.2.2.length) (Int.ofNat 1))))) (some (([],[]),((Int.ofNat 1),()))) (cond v0.1 (match (cond (S.fitP p.2.2 p.2.1) (some ((S.settled p.2.2 p.2.1),())) none) with|none=>none|some v29=>(L6 ((IntKind.i64.wrap (Int.add p.1 (Int.ofNat 1))),[],v29.1))) (cond (ieqI (Int.ofNat p.2.1.length) (Int.ofNat 4000)) (some (([],[]),((Int.ofNat 3),()))) (cond (Nat.ble (Nat.mul (Nat.add p.2.1.length 1) 24) 140737488355328) (L6 ((IntKind.i64.wrap (Int.add p.1 (Int.ofNat 1))),(List.append p.2.1 [(v0.2.1,v0.2.2)]),p.2.2)) none))))) (cond v0.1 (match (cond (S.fitP p.2.2 p.2.1) (some ((S.settled p.2.2 p.2.1),())) none) with|none=>none|some v30=>(L6 ((IntKind.i64.wrap (Int.add p.1 (Int.ofNat 1))),[],v30.1))) (cond (ieqI (Int.ofNat p.2.1.length) (Int.ofNat 4000)) (some (([],[]),((Int.ofNat 3),()))) (cond (Nat.ble (Nat.mul (Nat.add p.2.1.length 1) 24) 140737488355328) (L6 ((IntKind.i64.wrap (Int.add p.1 (Int.ofNat 1))),(List.append p.2.1 [(v0.2.1,v0.2.2)]),p.2.2)) none)))))) (some ((p.2.2,p.2.1),((Int.ofNat 0),()))))
abbrev gz10:Type:=ElA [qan,(.list cAct)]->Option qcw
abbrev sz10(g:gz10):Sm:=⟨[qan,(.list cAct)],[(false,qan),(false,(.int .i64))],g⟩
abbrev Ez10(g:gz10)(J:JT qcw)(lf:Nat)(x1:qah)(x2:(List DAct)):=qbs Tryz.prog ttT.get qlb fi32.nt (qr8 _ lf) lf qlh J fi32.body [] (qaz (argV [qan,(.list cAct)] (x1,x2,())) 0 .leaf) S0 [] (qay ttT.get fi32 (sz10 g))
abbrev Bz10(g:gz10)(J:JT qcw)(lf k:Nat)(ms:List Nat)(q:NRes):=qcb Tryz.prog ttT.get qlb fi32.nt (qr8 _ lf) lf qlh J k fi32.body [] ms q (qay ttT.get fi32 (sz10 g))
theorem zk6(g:gz10)(J:JT qcw)(lf:Nat)(x1:qah)(x2:(List DAct)):Ez10 g J lf x1 x2=qr0 lf x1 x2 (fun q=>J 6 [lf] (qi4 x1 x2 q)):=by kernel_rfl
theorem zst(g:gz10)(J:JT qcw)(lf:Nat)(x1:qah)(x2:(List DAct))(m1:Nat)(p:Int × (List DPut) × (List ByteArray)):Bz10 g J lf 6 [m1] (qi4 x1 x2 p)=qq6 lf x1 x2 (fun q=>J 6 [m1] (qi4 x1 x2 q)) p:=by kernel_rfl
theorem q25:(regs fi32.body).Nodup:=by decide +kernel
theorem q0y:okC qlb qlh q86 fi32.body none=true:=by kernel_rfl
def Az10(g:gz10)(lf:Nat):JT qcw:=atN Tryz.prog ttT.get qlb fi32 (sz10 g) (qr8 _ lf) lf q86
def qp4(lf:Nat)(x1:qah)(x2:(List DAct)):Nat->(Int × (List DPut) × (List ByteArray))->Option qcw:=qa1 fun K p=>qq6 lf x1 x2 K p
theorem q2v(g:gz10)(lf:Nat)(x1:qah)(x2:(List DAct)):∀(n:Nat) (p:Int × (List DPut) × (List ByteArray)),Az10 g lf 6 [n] (qi4 x1 x2 p)=qp4 lf x1 x2 n p
 | 0,p=>qbq 6 [0] rfl _
 | n+1,p=>by
  have ih:=q2v g lf x1 x2 n;refine(qbp (qa7 20 _) q25 q0y 6 [n+1] [n] rfl _).trans ((zst g (Az10 g lf) lf x1 x2 n p).trans ?_);rw[(show (fun q=>Az10 g lf 6 [n] (qi4 x1 x2 q))=(fun q=>qp4 lf x1 x2 n q) from funext ih)];rfl
def Fz10(lf:Nat)(x1:qah)(x2:(List DAct)):Option qcw:=qr0 lf x1 x2 (fun q=>qp4 lf x1 x2 lf q)
theorem zi6(g:gz10)(lf:Nat)(x1:qah)(x2:(List DAct)):Ez10 g (Az10 g lf) lf x1 x2=Fz10 lf x1 x2:=by
  refine(zk6 g (Az10 g lf) lf x1 x2).trans ?_;rw[(show (fun q=>Az10 g lf 6 [lf] (qi4 x1 x2 q))=(fun q=>qp4 lf x1 x2 lf q) from funext fun q=>q2v g lf x1 x2 lf q)];rfl
theorem zhv:qbd Tryz.prog q6r:=trivial
theorem zkm{g:gz10}(hsm:SmOK Tryz.prog q68)(hg:∀(x:ElA [qan,(.list cAct)]) (y:qcw),WfA [qan,(.list cAct)] x->g x=some y->∃lf,Fz10 lf x.1 x.2.1=some y):Con Tryz.prog 32 ⟨[qan,(.list cAct)],[(false,qan),(false,(.int .i64))],g⟩ :=
 conV (st:=qlh) (fun lf x=>Fz10 lf x.1 x.2.1) cm3 zbq zhv q25 q0y (fun lf x=>zi6 g lf x.1 x.2.1) hsm hg
def qkb:Nat->Option Nm:=fun k=>cond (Nat.beq k 8) (some ⟨[2,4,7,32,33,34],[],[(7,0,.str)],[],[],0,0,false⟩) (none)
def qi5:Nat->Bool:=fun k=>cond (Nat.beq k 8) true (false)
def q3r:=qi5
abbrev qcu:Type:=qah × Int × Unit
def q8l:List (Nat × Sm):=[(37,qho),(66,qg9),(77,qk6)]
def q8z:List (Nat × Hx):=[(103,qp9 (.int .i64))]
def qs8(R:Type)(lf:Nat):ClK R:=qa3 Tryz.prog ttT.get ftT.get (nm1 34 qkb) (smL q8l) (hxL q8z) lf 20 R
abbrev zn9:Nat:=34
def qhk(x1:qah)(x2:(List Int))(p:Int × (List ByteArray)):NRes:=(NRes.mk (.node none (.node none (.node none (.node (some (IV.ptr 2 0)) .leaf .leaf) .leaf) (.node none (.node none (.node none (.node (some (IV.int .i64 (Int.ofNat x2.length))) .leaf .leaf) .leaf) .leaf) .leaf)) (.node (some (IV.ptr 0 0)) (.node (some (IV.ptr 1 0)) (.node none (.node none (.node (some (IV.lst (TC.int .i64) x2)) .leaf .leaf) .leaf) .leaf) .leaf) (.node none (.node none (.node none (.node (some (IV.int .i64 p.1)) .leaf .leaf) .leaf) .leaf) .leaf))) (IS.mk (.node (some (IObj.row (List.cons (IV.lst TC.str x1.1) [(IV.lst cPut x1.2)]))) (.node (some (IObj.row (List.cons IV.nilsl [IV.nilsl]))) (.node (some (IObj.arr TC.str p.2)) .leaf .leaf) .leaf) (.node (some (IObj.row (List.cons (IV.arr 3) [IV.nilsl]))) .leaf .leaf)) 4) [] 0)
def quq(lf:Nat)(x1:qah)(x2:(List Int))(L8:(Int × (List ByteArray))->Option qcu):Option qcu:=(cond (Bool.not (ieqI (S.checkDisk (x1.1,x1.2)) (Int.ofNat 0))) (some (([],[]),((S.checkDisk (x1.1,x1.2)),()))) (cond (iltI (Int.ofNat x1.2.length) (Int.ofNat x2.length)) (some (([],[]),((Int.ofNat 1),()))) (match (idxO (fun v0=>(some (Bool.not (S.inI v0 (Int.ofNat 0) (Int.ofNat 64))))) x2 0) with|none=>none|some v1=>(cond (Bool.not (iltI v1 (Int.ofNat 0))) (some (([],[]),((Int.ofNat 1),()))) (L8 ((Int.ofNat 0),x1.1))))))
def qmi(lf:Nat)(x1:qah)(x2:(List Int))(L8:(Int × (List ByteArray))->Option qcu)(p:Int × (List ByteArray)):Option qcu:=(cond (iltI p.1 (Int.ofNat x2.length)) (match (jget x2 p.1) with|none=>none|some v0=>(match (jget x1.2 p.1) with|none=>none|some v1=>(cond (lchk (Int.ofNat 0) v0 (Int.ofNat v1.2.size) (Int.ofNat v1.2.size)) (match (jget p.2 v1.1) with|none=>none|some v2=>(match (GetElem?.getElem? p.2 (Int.toNat v1.1)) with|none=>none|some v3=>(cond (lchk v0 (Int.ofNat v3.size) (Int.ofNat v3.size) (Int.ofNat v3.size)) (cond (Nat.ble (Nat.succ (Nat.add (ByteArray.size (ByteArray.extract v1.2 0 (Int.toNat v0))) (ByteArray.size (ByteArray.extract v3 (Int.toNat v0) (Int.toNat (Int.ofNat v3.size)))))) 9223372036854775808) (match (jget p.2 v1.1) with|none=>none|some v4=>(match (GetElem?.getElem? p.2 (Int.toNat v1.1)) with|none=>none|some v5=>(L8 ((IntKind.i64.wrap (Int.add p.1 (Int.ofNat 1))),(List.set p.2 (Int.toNat v1.1) (ByteArray.append (ByteArray.extract v1.2 0 (Int.toNat v0)) (ByteArray.extract v3 (Int.toNat v0) (Int.toNat (Int.ofNat v3.size))))))))) none) none))) none))) (some ((p.2,[]),((Int.ofNat 0),()))))
abbrev gz11:Type:=ElA [qan,(.list (.int .i64))]->Option qcu
abbrev sz11(g:gz11):Sm:=⟨[qan,(.list (.int .i64))],[(false,qan),(false,(.int .i64))],g⟩
abbrev Ez11(g:gz11)(J:JT qcu)(lf:Nat)(x1:qah)(x2:(List Int)):=qbs Tryz.prog ttT.get qkb fi34.nt (qs8 _ lf) lf qi5 J fi34.body [] (qaz (argV [qan,(.list (.int .i64))] (x1,x2,())) 0 .leaf) S0 [] (qay ttT.get fi34 (sz11 g))
abbrev Bz11(g:gz11)(J:JT qcu)(lf k:Nat)(ms:List Nat)(q:NRes):=qcb Tryz.prog ttT.get qkb fi34.nt (qs8 _ lf) lf qi5 J k fi34.body [] ms q (qay ttT.get fi34 (sz11 g))
theorem zqi(g:gz11)(J:JT qcu)(lf:Nat)(x1:qah)(x2:(List Int)):Ez11 g J lf x1 x2=quq lf x1 x2 (fun q=>J 8 [lf] (qhk x1 x2 q)):=by kernel_rfl
theorem zas(g:gz11)(J:JT qcu)(lf:Nat)(x1:qah)(x2:(List Int))(m1:Nat)(p:Int × (List ByteArray)):Bz11 g J lf 8 [m1] (qhk x1 x2 p)=qmi lf x1 x2 (fun q=>J 8 [m1] (qhk x1 x2 q)) p:=by kernel_rfl
theorem q5y:(regs fi34.body).Nodup:=by decide +kernel
theorem qzt:okC qkb qi5 q3r fi34.body none=true:=by kernel_rfl
def Az11(g:gz11)(lf:Nat):JT qcu:=atN Tryz.prog ttT.get qkb fi34 (sz11 g) (qs8 _ lf) lf q3r
def qmv(lf:Nat)(x1:qah)(x2:(List Int)):Nat->(Int × (List ByteArray))->Option qcu:=qa1 fun K p=>qmi lf x1 x2 K p
theorem q09(g:gz11)(lf:Nat)(x1:qah)(x2:(List Int)):∀(n:Nat) (p:Int × (List ByteArray)),Az11 g lf 8 [n] (qhk x1 x2 p)=qmv lf x1 x2 n p
 | 0,p=>qbq 8 [0] rfl _
 | n+1,p=>by
  have ih:=q09 g lf x1 x2 n;refine(qbp (qa7 20 _) q5y qzt 8 [n+1] [n] rfl _).trans ((zas g (Az11 g lf) lf x1 x2 n p).trans ?_);rw[(show (fun q=>Az11 g lf 8 [n] (qhk x1 x2 q))=(fun q=>qmv lf x1 x2 n q) from funext ih)];rfl
def Fz11(lf:Nat)(x1:qah)(x2:(List Int)):Option qcu:=quq lf x1 x2 (fun q=>qmv lf x1 x2 lf q)
theorem zdf(g:gz11)(lf:Nat)(x1:qah)(x2:(List Int)):Ez11 g (Az11 g lf) lf x1 x2=Fz11 lf x1 x2:=by
  refine(zqi g (Az11 g lf) lf x1 x2).trans ?_;rw[(show (fun q=>Az11 g lf 8 [lf] (qhk x1 x2 q))=(fun q=>qmv lf x1 x2 lf q) from funext fun q=>q09 g lf x1 x2 lf q)];rfl
theorem zmd:qbd Tryz.prog q8z:=⟨zbm,trivial⟩
theorem znn{g:gz11}(hsm:SmOK Tryz.prog q8l)(hg:∀(x:ElA [qan,(.list (.int .i64))]) (y:qcu),WfA [qan,(.list (.int .i64))] x->g x=some y->∃lf,Fz11 lf x.1 x.2.1=some y):Con Tryz.prog 34 ⟨[qan,(.list (.int .i64))],[(false,qan),(false,(.int .i64))],g⟩ :=
 conV (st:=qi5) (fun lf x=>Fz11 lf x.1 x.2.1) cm3 zpx zmd q5y qzt (fun lf x=>zdf g lf x.1 x.2.1) hsm hg
abbrev qne:Type:=Bool × Unit
abbrev zq2:Nat:=66
def qya(lf:Nat)(x1:Int)(x2:Int)(x3:Int):Option qne:=(cond (Bool.not (iltI x1 x2)) (some ((Bool.not (iltI x3 x1)),())) (some (false,())))
def qmg(lf:Nat)(x1:Int)(x2:Int)(x3:Int):Option qne:=qya lf x1 x2 x3
theorem zg9{g:ElA [(.int .i64),(.int .i64),(.int .i64)]->Option qne}(hsm:SmOK Tryz.prog [])(hg:∀(x:ElA [(.int .i64),(.int .i64),(.int .i64)]) (y:qne),WfA [(.int .i64),(.int .i64),(.int .i64)] x->g x=some y->∃lf,qmg lf x.1 x.2.1 x.2.2.1=some y):Con Tryz.prog 66 ⟨[(.int .i64),(.int .i64),(.int .i64)],[(false,.bool)],g⟩ :=
 conU (fi:=fi66) (hxl:=[]) (fun lf x=>qmg lf x.1 x.2.1 x.2.2.1) cm3 q95 trivial hsm hg
abbrev qq0:Type:=Bool × Unit
abbrev zcl:Nat:=79
def q9b(lf:Nat)(x1:ByteArray):Option qq0:=(some ((Bool.not (ieqI (Int.ofNat x1.size) (Int.ofNat 64))),()))
def qq1(lf:Nat)(x1:ByteArray):Option qq0:=q9b lf x1
theorem zhf{g:ElA [.str]->Option qq0}(hsm:SmOK Tryz.prog [])(hg:∀(x:ElA [.str]) (y:qq0),WfA [.str] x->g x=some y->∃lf,qq1 lf x.1=some y):Con Tryz.prog 79 ⟨[.str],[(false,.bool)],g⟩ :=
 conU (fi:=fi79) (hxl:=[]) (fun lf x=>qq1 lf x.1) cm3 q9y trivial hsm hg
abbrev qot:Type:=qah × Int × Unit
abbrev zkx:Nat:=28
def qxc(lf:Nat)(x1:Int):Option qot:=(cond (Bool.not (S.inI x1 (Int.ofNat 8) (Int.ofNat 1000))) (some (([],[]),((Int.ofNat 1),()))) (cond (Bool.not (ieqI (Int.tmod x1 (Int.ofNat 2)) (Int.ofNat 0))) (some (([],[]),((Int.ofNat 1),()))) (match (cond (S.inI x1 (Int.ofNat 0) (Int.ofNat 1000)) (some ((List.replicate (Int.toNat x1) S.blank),())) none) with|none=>none|some v0=>(some ((v0.1,[]),((Int.ofNat 0),()))))))
def qo8(lf:Nat)(x1:Int):Option qot:=qxc lf x1
theorem zb9{g:ElA [(.int .i64)]->Option qot}(hsm:SmOK Tryz.prog [(66,qg9),(54,qqh),(76,qi0)])(hg:∀(x:ElA [(.int .i64)]) (y:qot),WfA [(.int .i64)] x->g x=some y->∃lf,qo8 lf x.1=some y):Con Tryz.prog 28 ⟨[(.int .i64)],[(false,qan),(false,(.int .i64))],g⟩ :=
 conU (fi:=fi28) (hxl:=[]) (fun lf x=>qo8 lf x.1) cm3 zak trivial hsm hg
abbrev qpz:Type:=Int × Unit
abbrev zrf:Nat:=37
def qzs(lf:Nat)(x1:qah):Option qpz:=(cond (iltI (Int.ofNat 1000) (Int.ofNat x1.1.length)) (some ((Int.ofNat 3),())) (cond (iltI (Int.ofNat 4000) (Int.ofNat x1.2.length)) (some ((Int.ofNat 3),())) (match (idxO (fun v0=>(cond (S.short v0.2) (some true) (some (Bool.not (S.inI v0.1 (Int.ofNat 0) (IntKind.i64.wrap (Int.sub (Int.ofNat x1.1.length) (Int.ofNat 1)))))))) x1.2 0) with|none=>none|some v1=>(cond (iltI (Int.ofNat x1.1.length) (Int.ofNat 8)) (some ((Int.ofNat 1),())) (cond (Bool.not (ieqI (Int.ofNat (Nat.mod x1.1.length 2)) (Int.ofNat 0))) (some ((Int.ofNat 1),())) (cond (Bool.not (iltI v1 (Int.ofNat 0))) (some ((Int.ofNat 1),())) (match (idxO (fun v2=>(some (S.short v2))) x1.1 0) with|none=>none|some v3=>(cond (Bool.not (iltI v3 (Int.ofNat 0))) (some ((Int.ofNat 1),())) (some ((Int.ofNat 0),()))))))))))
def qnq(lf:Nat)(x1:qah):Option qpz:=qzs lf x1
theorem zrw{g:ElA [qan]->Option qpz}(hsm:SmOK Tryz.prog [(79,qwh),(66,qg9)])(hg:∀(x:ElA [qan]) (y:qpz),WfA [qan] x->g x=some y->∃lf,qnq lf x.1=some y):Con Tryz.prog 37 ⟨[qan],[(false,(.int .i64))],g⟩ :=
 conU (fi:=fi37) (hxl:=[(104,qp9 cPut),(105,qp9 .str)]) (fun lf x=>qnq lf x.1) cm3 zpo ⟨zff,⟨zjv,trivial⟩⟩ hsm hg
def qkk:Nat->Option Nm:=fun k=>cond (Nat.beq k 3) (some ⟨[5,10,11,12],[],[],[],[],0,0,false⟩) (none)
def qkr:Nat->Bool:=fun k=>cond (Nat.beq k 3) true (false)
def q7q:=qkr
abbrev qct:Type:=(List ByteArray) × Unit
def q0v:List (Nat × Sm):=[(77,qk6)]
def q5n:List (Nat × Hx):=[]
def qr1(R:Type)(lf:Nat):ClK R:=qa3 Tryz.prog ttT.get ftT.get (nm1 80 qkk) (smL q0v) (hxL q5n) lf 20 R
abbrev zc1:Nat:=80
def qh0(x1:(List ByteArray))(x2:(List DPut))(p:Int × (List ByteArray)):NRes:=(NRes.mk (.node none (.node none (.node none .leaf (.node (some (IV.int .i64 (Int.ofNat x2.length))) .leaf .leaf)) (.node (some (IV.arr 0)) .leaf .leaf)) (.node none (.node none .leaf (.node (some (IV.int .i64 p.1)) .leaf .leaf)) (.node none (.node (some (IV.lst cPut x2)) .leaf .leaf) .leaf))) (IS.mk (.node (some (IObj.arr TC.str p.2)) .leaf .leaf) 1) [] 0)
def q6a(lf:Nat)(x1:(List ByteArray))(x2:(List DPut))(L3:(Int × (List ByteArray))->Option qct):Option qct:=(L3 ((Int.ofNat 0),x1))
def qog(lf:Nat)(x1:(List ByteArray))(x2:(List DPut))(L3:(Int × (List ByteArray))->Option qct)(p:Int × (List ByteArray)):Option qct:=(cond (iltI p.1 (Int.ofNat x2.length)) (match (jget x2 p.1) with|none=>none|some v0=>(match (jget p.2 v0.1) with|none=>none|some v1=>(match (GetElem?.getElem? p.2 (Int.toNat v0.1)) with|none=>none|some v2=>(L3 ((IntKind.i64.wrap (Int.add p.1 (Int.ofNat 1))),(List.set p.2 (Int.toNat v0.1) v0.2)))))) (some (p.2,())))
abbrev gz12:Type:=ElA [(.list .str),(.list cPut)]->Option qct
abbrev sz12(g:gz12):Sm:=⟨[(.list .str),(.list cPut)],[(true,.str)],g⟩
abbrev Ez12(g:gz12)(J:JT qct)(lf:Nat)(x1:(List ByteArray))(x2:(List DPut)):=qbs Tryz.prog ttT.get qkk fi80.nt (qr1 _ lf) lf qkr J fi80.body [] (qaz (argV [(.list .str),(.list cPut)] (x1,x2,())) 0 .leaf) S0 [] (qay ttT.get fi80 (sz12 g))
abbrev Bz12(g:gz12)(J:JT qct)(lf k:Nat)(ms:List Nat)(q:NRes):=qcb Tryz.prog ttT.get qkk fi80.nt (qr1 _ lf) lf qkr J k fi80.body [] ms q (qay ttT.get fi80 (sz12 g))
theorem q9r(g:gz12)(J:JT qct)(lf:Nat)(x1:(List ByteArray))(x2:(List DPut)):Ez12 g J lf x1 x2=q6a lf x1 x2 (fun q=>J 3 [lf] (qh0 x1 x2 q)):=by kernel_rfl
theorem zr1(g:gz12)(J:JT qct)(lf:Nat)(x1:(List ByteArray))(x2:(List DPut))(m1:Nat)(p:Int × (List ByteArray)):Bz12 g J lf 3 [m1] (qh0 x1 x2 p)=qog lf x1 x2 (fun q=>J 3 [m1] (qh0 x1 x2 q)) p:=by kernel_rfl
theorem q55:(regs fi80.body).Nodup:=by decide +kernel
theorem qyj:okC qkk qkr q7q fi80.body none=true:=by kernel_rfl
def Az12(g:gz12)(lf:Nat):JT qct:=atN Tryz.prog ttT.get qkk fi80 (sz12 g) (qr1 _ lf) lf q7q
def qof(lf:Nat)(x1:(List ByteArray))(x2:(List DPut)):Nat->(Int × (List ByteArray))->Option qct:=qa1 fun K p=>qog lf x1 x2 K p
theorem q8e(g:gz12)(lf:Nat)(x1:(List ByteArray))(x2:(List DPut)):∀(n:Nat) (p:Int × (List ByteArray)),Az12 g lf 3 [n] (qh0 x1 x2 p)=qof lf x1 x2 n p
 | 0,p=>qbq 3 [0] rfl _
 | n+1,p=>by
  have ih:=q8e g lf x1 x2 n;refine(qbp (qa7 20 _) q55 qyj 3 [n+1] [n] rfl _).trans ((zr1 g (Az12 g lf) lf x1 x2 n p).trans ?_);rw[(show (fun q=>Az12 g lf 3 [n] (qh0 x1 x2 q))=(fun q=>qof lf x1 x2 n q) from funext ih)];rfl
def Fz12(lf:Nat)(x1:(List ByteArray))(x2:(List DPut)):Option qct:=q6a lf x1 x2 (fun q=>qof lf x1 x2 lf q)
theorem zg7(g:gz12)(lf:Nat)(x1:(List ByteArray))(x2:(List DPut)):Ez12 g (Az12 g lf) lf x1 x2=Fz12 lf x1 x2:=by
  refine(q9r g (Az12 g lf) lf x1 x2).trans ?_;rw[(show (fun q=>Az12 g lf 3 [lf] (qh0 x1 x2 q))=(fun q=>qof lf x1 x2 lf q) from funext fun q=>q8e g lf x1 x2 lf q)];rfl
theorem zb7:qbd Tryz.prog q5n:=trivial
theorem q94{g:gz12}(hsm:SmOK Tryz.prog q0v)(hg:∀(x:ElA [(.list .str),(.list cPut)]) (y:qct),WfA [(.list .str),(.list cPut)] x->g x=some y->∃lf,Fz12 lf x.1 x.2.1=some y):Con Tryz.prog 80 ⟨[(.list .str),(.list cPut)],[(true,.str)],g⟩ :=
 conV (st:=qkr) (fun lf x=>Fz12 lf x.1 x.2.1) cm3 zjl zb7 q55 qyj (fun lf x=>zg7 g lf x.1 x.2.1) hsm hg
abbrev qmu:Type:=(List ByteArray) × Unit
abbrev zoy:Nat:=77
def q6p(lf:Nat)(x1:(List ByteArray)):Option qmu:=(match x1 with|.nil  => none|.cons v0 v1=>(cond (Nat.ble (Nat.mul (Nat.add 0 x1.length) 16) 140737488355328) (some (x1,())) none))
def qvb(lf:Nat)(x1:(List ByteArray)):Option qmu:=q6p lf x1
theorem zh2{g:ElA [(.list .str)]->Option qmu}(hsm:SmOK Tryz.prog [])(hg:∀(x:ElA [(.list .str)]) (y:qmu),WfA [(.list .str)] x->g x=some y->∃lf,qvb lf x.1=some y):Con Tryz.prog 77 ⟨[(.list .str)],[(true,.str)],g⟩ :=
 conU (fi:=fi77) (hxl:=[]) (fun lf x=>qvb lf x.1) cm3 q0s trivial hsm hg
abbrev qnr:Type:=(List DPut) × Unit
abbrev zk8:Nat:=78
def qxw(lf:Nat)(x1:(List DPut)):Option qnr:=(match x1 with|.nil  => none|.cons v0 v1=>(cond (Nat.ble (Nat.mul (Nat.add 0 x1.length) 24) 140737488355328) (some (x1,())) none))
def qr6(lf:Nat)(x1:(List DPut)):Option qnr:=qxw lf x1
theorem zb2{g:ElA [(.list cPut)]->Option qnr}(hsm:SmOK Tryz.prog [])(hg:∀(x:ElA [(.list cPut)]) (y:qnr),WfA [(.list cPut)] x->g x=some y->∃lf,qr6 lf x.1=some y):Con Tryz.prog 78 ⟨[(.list cPut)],[(true,cPut)],g⟩ :=
 conU (fi:=fi78) (hxl:=[]) (fun lf x=>qr6 lf x.1) cm3 qyq trivial hsm hg
end Go.Proofs.YtnhmanoiolfapaaGreat
end

section
namespace Go.Jx
open Go Go.Sx Go.RowKit
universe u
inductive NoD (n:Nat):Type
instance (n:Nat):Dat (NoD n) where
 sz:=n
 enc _ _ _ x:=nomatch x
 len {_ _ _ x} _:=nomatch x
 mono {_ _ _ _ _ x} _ _:=nomatch x
 ones {_ _ _ x} _:=nomatch x
theorem qw7{E:Env}{c:TC}{u:Value}(h:VR E (.lst c []) u):∃a cap,u=.slice a 0 cap/\cap<9223372036854775808:=by
 cases h with
 | lst0 hc=>exact⟨_,_,rfl,hc⟩
 | lst us h1 h2 h3 hb hh hc hu=>exact⟨_,_,rfl,h2⟩
theorem q5p{M:List Nat}{w w':World}{c:TC}{n:Nat}{e:Ending}(hn:n=csz c)(hu:¬c=.int .u8)(hM:∀b∈M,b<w.heap.size)(h:Ret (fun v w'=>∃a' c' m',v=.slice a' 0 c'/\Go.Sx.Own m' M w' a' c' ([]:List (NoD n))/\Evo [] w m' w') e w') :
  RetE T0 (EM M w) S0 ⟨.arr 0,addO [.arr c []] S0,0,0⟩ e w':=by
 cases e with
 | returned v =>
  obtain⟨a,k,m,rfl,ho,ev⟩:=h;have hH:∀id o,(addO [IObj.arr c []] S0).H id=some o->id=0/\o=.arr c []:=fun id o ho=>by
   rw[qb8] at ho;have e0:S0.next=0:=rfl
   rw[e0,jao (by omega)] at ho;split at ho
   ·rename_i h1;have h1:id<1:=by simpa using h1
    obtain rfl:id=0:=by omega
    exact⟨rfl,by simpa using ho.symm⟩
   ·cases ho
  have key:∃(E':Env),E'.w=w'/\E'.A=(fun id=>id=0)/\E'.hd 0=.slice a 0 k/\(∀b∈E'.m,b∈M\/w.heap.size<=b)/\(∀b∈M,b∈E'.m)/\(∀b∈E'.m,b<w'.heap.size)/\OR E' 0 (.arr c [])/\(E'.hb 0=true->E'.ρ 0∈E'.m/\w.heap.size<=E'.ρ 0):=by
   rcases ho with ⟨rfl,rfl,_⟩|⟨g,cells,rfl,g1,g2,g3,g4,g5,g6⟩
   ·exact⟨⟨fun _=>0,fun _=>0,fun _=>.slice none 0 0,fun _=>false,fun id=>id=0,M,w'⟩,rfl,rfl,rfl,fun b hb=>.inl hb,fun b hb=>hb,fun b hb=>jbh (hM b hb) ev.size,⟨none,0,rfl,jaq _,by omega,by simp,.inl ⟨rfl,rfl,fun _=>rfl⟩⟩,fun h=>by cases h⟩
   ·have hg:w.heap.size<=g:=by
     rcases ev.own g g1 with h|h
     ·cases h
     ·exact h
    obtain⟨t,g3⟩:=g3;refine⟨⟨fun _=>g,fun _=>0,fun _=>.slice (some ⟨g,0,none⟩) 0 k,fun _=>true,fun id=>id=0,g::M,w'⟩,rfl,rfl,rfl,fun b hb=>?_,fun b hb=>ja9 _ hb,fun b hb=>?_,⟨some ⟨g,0,none⟩,k,rfl,jb8 _,g5.2,by simp,.inr ⟨rfl,rfl,cells.toArray,t,g3,⟨?_,fun e=>absurd e hu⟩,fun _ _=>.nilFunc,fun i hi=>absurd hi (by simp),fun i hi=>absurd hi (by simp)⟩⟩,fun _=>⟨jb2,hg⟩⟩
    ·rcases jau.1 hb with h|h
     ·exact .inr (h▸hg)
     ·exact .inl h
    ·rcases jau.1 hb with h|h
     ·rw[h];exact qas g3
     ·exact jbh (hM b h) ev.size
    ·have e2:Dat.sz (NoD n)=csz c:=hn;rw[e2] at g4;simp[g4]
  obtain⟨E',rfl,hA,hd,k1,k2,k3,k4,k5⟩:=key;have hL:∀id,E'.A id->Live E' (addO [IObj.arr c []] S0).H id->id=0/\E'.ρ 0∈E'.m/\w.heap.size<=E'.ρ 0:=fun id hid ⟨h1,_⟩=>by
   rw[hA] at hid;have hid:id=0:=hid;subst hid;exact⟨rfl,k5 h1⟩
  refine⟨_,E',rfl,rfl,.arr (by rw[hA]) hd,⟨⟨fun id _ hid o ho=>?_,fun id _ hid o ho hb=>?_,fun id _ hid hl=>?_,fun i j _ _ hi hj _ _ _=>?_,k3⟩,⟨ev.os,ev.tape,ev.output,ev.size,fun b hb _=>ev.same b hb (by simp),fun id h=>h.elim,fun id h _ hl=>?_,fun id _ h=>h.elim,k1,fun b hb _=>.inl (k2 b hb)⟩,fun id hid=>?_,jb8 _⟩,⟨fun id _ _=>jb8 _⟩⟩
  ·obtain⟨rfl,rfl⟩:=hH id o ho;exact k4
  ·obtain⟨rfl,rfl⟩:=hH id o ho;cases hb
  ·obtain⟨rfl,h1,_⟩:=hL id hid hl;exact h1
  ·rw[hA] at hi hj;have hi:i=0:=hi;have hj:j=0:=hj;rw[hi,hj]
  ·obtain⟨rfl,_,h2⟩:=hL id h hl;exact .inl h2
  ·rw[hA] at hid;have hid:id=0:=hid;subst hid;exact Nat.one_pos
 | panicked c=>exact h.elim
 | outgrown=>exact h.elim
end Go.Jx
end

noncomputable section
set_option maxRecDepth 100000
namespace Go.Proofs.YtnhmanoiolfapaaGreat
open Go Go.Sx Go.RowKit Go.Jx
theorem zey{M:List Nat}{w:World}{a:Option Addr}{cap:Nat}(hM:Lo M w)(hc:cap<9223372036854775808):Calls Tryz.prog 77 #[.slice a 0 cap] w (Ret fun v w'=>∃a' c' m',v=.slice a' 0 c'/\Go.Sx.Own m' M w' a' c' ([]:List (NoD 1))/\Evo [] w m' w'):=by
 have hS:SL M w a cap ([]:List (NoD 1)):=⟨⟨jb8 _,hc⟩,.inl rfl⟩;refine enter (l:=[.slice a 0 cap]) Tryz.func77 rfl Tryz.ntmps77 rfl ?_;refine qal fun KhK1 hK1=>?_;refine qau ?_;refine qa0 (v:=.slice none 0 0) rfl rfl rfl ?_;refine jbe ?_;refine hK1 _ _ ?_;refine qal fun KhK2 hK2=>?_;refine qal fun KhK3 hK3=>?_;refine qau ?_;refine qav (v:=.slice a 0 cap) rfl rfl rfl ?_;refine qr3 ty22 rfl rfl rfl rfl ?_;refine jbe ?_;refine hK3 _ _ ?_;refine qp2 rfl rfl (fun hb4=>?_) (fun hb4=>?_)
 ·refine qal fun KhK5 hK5=>?_;refine qau ?_;refine qa0 (v:=.slice none 0 0) rfl rfl rfl ?_;refine jbe ?_;refine hK5 _ _ ?_;refine jfb ?_;exact ret1 Tryz.results77 rfl ⟨none,0,[],rfl,Go.Sx.Own.nil,Evo.refl [] w⟩
 ·refine je8 ?_;refine hK2 _ _ ?_;refine qal fun KhK7 hK7=>?_;refine qau ?_;refine qsj (α:=NoD 1) (m:=[]) (M:=M) ty22 ty9 rfl (hM.mono (Evo.refl [] w).size) fun β14 w15 hβ16 u17 hz18 ho19=>?_;have e20:=u17.evoN (m:=[]) hβ16 hz18;refine qav (v:=.slice a 0 cap) rfl rfl rfl ?_;refine qny ty22 ty22 ty9 rfl rfl rfl rfl rfl rfl rfl ho19 (hS.mono (e20.tr M)) (hM.mono e20.size) (by simp) fun a22 c23 w24 m25 ho26 e27 u28 hbk29 hsub30=>?_;refine qa0 (v:=.slice a22 (([]:List (NoD 1))++[]).length c23) rfl rfl rfl ?_;refine jbe ?_;refine hK7 _ _ ?_;refine jfb ?_;exact ret1 Tryz.results77 rfl ⟨a22,c23,m25,rfl,ho26,e20.trans e27⟩
theorem zcj:Con Tryz.prog 77 ⟨[.list .str],[(true,.str)],fun x=>match x.1 with|[]=>none|v::l=>some (x.1,())⟩:=zh2 trivial fun x y hx h=>⟨0,by
 obtain⟨l,_⟩:=x;have hl:=qdd hx.1;have hb:=hx.1.1;cases l with
 | nil=>cases h
 | cons v l =>
  cases h;simp only[qvb,q6p];exact Eq.trans (jav (fun b=>cond b (some (v::l,())) none) (jax (jbk (jdw (jav (fun z=>Nat.mul z 16) (jbm _))) hb))) rfl⟩
theorem qol:Con Tryz.prog zoy qk6:=by
 refine⟨q0s,fun M w x us y hy hM hg hv=>?_⟩;obtain⟨l,_⟩:=x;cases l with
 | cons v l=>exact zcj.calls M w (v::l,()) us y hy hM hg hv
 | nil =>
  cases hy;obtain⟨u,us2,rfl,h1,h2⟩:=hv.inv;obtain rfl:us2=[]:=ja2.1 h2.1.symm;obtain⟨a,cap,rfl,hc⟩:=qw7 h1;refine jdk.2 ((zey (M:=M) hM hc).mono fun e w' hR=>?_);exact q5p rfl (fun e=>by cases e) hM hR

theorem zls{M:List Nat}{w:World}{a:Option Addr}{cap:Nat}(hM:Lo M w)(hc:cap<9223372036854775808):Calls Tryz.prog 78 #[.slice a 0 cap] w (Ret fun v w'=>∃a' c' m',v=.slice a' 0 c'/\Go.Sx.Own m' M w' a' c' ([]:List (NoD 2))/\Evo [] w m' w'):=by
 have hS:SL M w a cap ([]:List (NoD 2)):=⟨⟨jb8 _,hc⟩,.inl rfl⟩;refine enter (l:=[.slice a 0 cap]) Tryz.func78 rfl Tryz.ntmps78 rfl ?_;refine qal fun KhK1 hK1=>?_;refine qau ?_;refine qa0 (v:=.slice none 0 0) rfl rfl rfl ?_;refine jbe ?_;refine hK1 _ _ ?_;refine qal fun KhK2 hK2=>?_;refine qal fun KhK3 hK3=>?_;refine qau ?_;refine qav (v:=.slice a 0 cap) rfl rfl rfl ?_;refine qr3 ty23 rfl rfl rfl rfl ?_;refine jbe ?_;refine hK3 _ _ ?_;refine qp2 rfl rfl (fun hb4=>?_) (fun hb4=>?_)
 ·refine qal fun KhK5 hK5=>?_;refine qau ?_;refine qa0 (v:=.slice none 0 0) rfl rfl rfl ?_;refine jbe ?_;refine hK5 _ _ ?_;refine jfb ?_;exact ret1 Tryz.results78 rfl ⟨none,0,[],rfl,Go.Sx.Own.nil,Evo.refl [] w⟩
 ·refine je8 ?_;refine hK2 _ _ ?_;refine qal fun KhK7 hK7=>?_;refine qau ?_;refine qsj (α:=NoD 2) (m:=[]) (M:=M) ty23 ty94 rfl (hM.mono (Evo.refl [] w).size) fun β14 w15 hβ16 u17 hz18 ho19=>?_;have e20:=u17.evoN (m:=[]) hβ16 hz18;refine qav (v:=.slice a 0 cap) rfl rfl rfl ?_;refine qny ty23 ty23 ty94 rfl rfl rfl rfl rfl rfl rfl ho19 (hS.mono (e20.tr M)) (hM.mono e20.size) (by simp) fun a22 c23 w24 m25 ho26 e27 u28 hbk29 hsub30=>?_;refine qa0 (v:=.slice a22 (([]:List (NoD 2))++[]).length c23) rfl rfl rfl ?_;refine jbe ?_;refine hK7 _ _ ?_;refine jfb ?_;exact ret1 Tryz.results78 rfl ⟨a22,c23,m25,rfl,ho26,e20.trans e27⟩
theorem zsq:Con Tryz.prog 78 ⟨[.list cPut],[(true,cPut)],fun x=>match x.1 with|[]=>none|v::l=>some (x.1,())⟩:=zb2 trivial fun x y hx h=>⟨0,by
 obtain⟨l,_⟩:=x;have hl:=qdd hx.1;have hb:=hx.1.1;cases l with
 | nil=>cases h
 | cons v l =>
  cases h;simp only[qr6,qxw];exact Eq.trans (jav (fun b=>cond b (some (v::l,())) none) (jax (jbk (jdw (jav (fun z=>Nat.mul z 24) (jbm _))) hb))) rfl⟩
theorem zng:Con Tryz.prog zk8 q9k:=by
 refine⟨qyq,fun M w x us y hy hM hg hv=>?_⟩;obtain⟨l,_⟩:=x;cases l with
 | cons v l=>exact zsq.calls M w (v::l,()) us y hy hM hg hv
 | nil =>
  cases hy;obtain⟨u,us2,rfl,h1,h2⟩:=hv.inv;obtain rfl:us2=[]:=ja2.1 h2.1.symm;obtain⟨a,cap,rfl,hc⟩:=qw7 h1;refine jdk.2 ((zls (M:=M) hM hc).mono fun e w' hR=>?_);exact q5p rfl (fun e=>by cases e) hM hR
theorem qvr(a b:Int):decide (a<=b)=!decide (b<a):=by
 by_cases h:b<a
 ·rw[jal h,jar (by omega)];rfl
 ·rw[jar h,jal (by omega)];rfl
theorem za9(n lo hi:Int):S.inI n lo hi=(!iltI n lo&&!iltI hi n):=by unfold S.inI;rw[qvr,qvr,qba,qba]
theorem qbm{n lo hi:Int}:S.inI n lo hi=true↔lo<=n/\n<=hi:=by unfold S.inI;rw[jad,jd8,jd8]
theorem qa8{α:Type}{b:Bool}{x y:α}(h:cond b (some x) none=some y):b=true/\x=y:=by
 cases b
 ·cases h
 ·exact⟨rfl,jb5 h⟩
theorem wrap_in{n:Int}(h:-9223372036854775808<=n/\n<9223372036854775808):IntKind.i64.wrap n=n:=qfo h
theorem qbv{n:Nat}(h:n<9223372036854775808):IntKind.i64.wrap (Int.ofNat n)=Int.ofNat n:=qfo (by show -_<=(n:Int)/\(n:Int)<_;omega)
theorem q3k{n:Nat}(h:n<LF):IntKind.i64.wrap (Int.sub (Int.ofNat n) (Int.ofNat 1))=(n:Int)-1:=by
 unfold LF at h;exact qfo (by show -9223372036854775808<=(n:Int)-1/\(n:Int)-1<9223372036854775808;omega)
theorem zju(lf:Nat)(n lo hi:Int):qmg lf n lo hi=some (S.inI n lo hi,()):=by
 simp only[qmg,qya];rw[za9];cases iltI n lo<;>rfl
theorem qmc:Con Tryz.prog zq2 qg9:=zg9 trivial fun x y hx h=>⟨0,(zju 0 _ _ _).trans h⟩
theorem zjw(s:ByteArray):S.short s=!ieqI (Int.ofNat s.size) (Int.ofNat 64):=by
 unfold S.short;rw[q46]
theorem zjt(lf:Nat)(s:ByteArray):qq1 lf s=some (S.short s,()):=by
 simp only[qq1,q9b];rw[zjw]
theorem q3p:Con Tryz.prog zcl qwh:=zhf trivial fun x y hx h=>⟨0,(zjt 0 x.1).trans h⟩
theorem zqv{n:Int}(h:0<=n):Int.tmod n (Int.ofNat 2)=n % 2:=jdg h
theorem zqc(lf:Nat)(n:Int):qo8 lf n=some ((S.newDisk n).1,(S.newDisk n).2,()):=by
 simp only[qo8,qxc,S.newDisk];by_cases h1:S.inI n 8 1000=true
 ·obtain⟨h2,h3⟩:=qbm.1 h1;rw[show S.inI n (Int.ofNat 8) (Int.ofNat 1000)=true from h1,ja1,jah,zqv (by omega)];by_cases h4:n % 2=0
  ·rw[qbh (show n % 2=Int.ofNat 0 from h4),ja1,jah,show S.inI n (Int.ofNat 0) (Int.ofNat 1000)=true from qbm.2 ⟨by show (0:Int)<=n;omega,h3⟩,jab,jan ⟨h1,h4⟩];rfl
  ·rw[qbj (show ¬n % 2=Int.ofNat 0 from h4),ja3,jab,jao (fun e=>h4 e.2)];rfl
 ·rw[show S.inI n (Int.ofNat 8) (Int.ofNat 1000)=false from jcz.2 h1,ja3,jab,jao (fun e=>h1 e.1)];rfl
theorem q9m:S.lit [0,0,0,0,0,0,0,0,0,0,0,0,0,0,0,0,0,0,0,0,0,0,0,0,0,0,0,0,0,0,0,0,0,0,0,0,0,0,0,0,0,0,0,0,0,0,0,0,0,0,0,0,0,0,0,0,0,0,0,0,0,0,0,0]=S.blank:=by kernel_rfl
theorem qqf{α:Type}(p:α->Bool)(l:List α):(!iltI (Go.Jx.S.idx p l) (Int.ofNat 0))=l.any p:=by
 cases h:l.any p with
 | true=>rw[qff (by have:=(Go.Jx.S.idx_nonneg p l).2 h;show ¬_<(0:Int);omega)];rfl
 | false =>
  rw[qep (by
   show _<(0:Int);refine Int.not_le.1 fun e=>?_;rw[(Go.Jx.S.idx_nonneg p l).1 e] at h;cases h)];rfl
theorem zpa(lf:Nat)(d:qah)(hl:d.1.length<LF):qnq lf d=some (S.checkDisk d,()):=by
 have e1:idxO (fun v0:DPut=>(cond (S.short v0.2) (some true) (some (!(S.inI v0.1 (Int.ofNat 0) (IntKind.i64.wrap (Int.sub (Int.ofNat d.1.length) (Int.ofNat 1)))))))) d.2 0=some (Go.Jx.S.idx (S.badPut d.1.length) d.2):=qq4 (S.badPut d.1.length) fun x _=>by
  rw[q3k hl];unfold S.badPut;cases S.short x.2<;>rfl
 have e2:idxO (fun v2:ByteArray=>(some (S.short v2))) d.1 0=some (Go.Jx.S.idx S.short d.1):=qq4 S.short fun _ _=>rfl;simp only[qnq,qzs,S.checkDisk,qcj];rw[e1];simp only[qqf];rw[e2];simp only[qqf];by_cases h1:1000<d.1.length
 ·rw[jal h1,jab,jan (.inl h1)];rfl
 rw[jar h1,jah];by_cases h2:4000<d.2.length
 ·rw[jal h2,jab,jan (.inr h2)];rfl
 rw[jar h2,jah,jao (by omega)];by_cases h3:d.1.length<8
 ·rw[jal h3,jab,jan (.inl h3)];rfl
 rw[jar h3,jah];by_cases h4:d.1.length % 2=0
 ·rw[qbh (show Int.ofNat (Nat.mod d.1.length 2)=Int.ofNat 0 from jav Int.ofNat h4),ja1,jah];cases h5:d.2.any (S.badPut d.1.length) with
  | true=>rw[jab,jan (.inr (.inr (.inl rfl)))];rfl
  | false =>
   rw[jah];cases h6:d.1.any S.short with
   | true=>rw[jab,jan (.inr (.inr (.inr rfl)))];rfl
   | false=>rw[jah,jao (by simp[h3,h4])];rfl
 ·rw[qbj (show ¬Int.ofNat (Nat.mod d.1.length 2)=Int.ofNat 0 from fun e=>h4 (jdo e)),ja3,jab,jan (.inr (.inl h4))];rfl
theorem qke:Con Tryz.prog zrf qho:=zrw ⟨q3p,qmc,trivial⟩ fun x y hx h=>⟨0,(zpa 0 x.1 (qdd (c:=.str) hx.1.1)).trans h⟩
theorem qt5{α:Type}{l:List α}{i:Int}{d:α}(h0:0<=i)(h1:i<l.length):jget l i=some (l.getD i.toNat d):=by
 obtain⟨x,h2,h3,_⟩:=qu7 h0 h1;rw[h2,jai,h3];rfl
theorem qp3{n:Int}{p:DPut}:S.badPut n p=false↔p.2.size=64/\0<=p.1/\p.1<n:=by
 unfold S.badPut S.short;rw[jcg,jew,jew,jd8,qbm];omega
theorem zsl(l:List ByteArray)(q:List DPut)(hq:q.length<LF)(hf:S.fitP l q=true):Fz12 LF l q=some (S.settled l q,()):=by
 have hf:=jbi.1 hf;refine range0 (σ:=List ByteArray) (R:=qct) q (fun i s=>(i,s)) (fun _ s=>s.length=l.length) (fun rest _ s=>some (S.settled s rest,())) hq (fun K s _=>?_) (fun K i v rest s hs r h=>?_) l rfl
 ·simp only[qog,qch,jah];rfl
 ·have hv:=hf v r.mem;rw[jcd] at hv;obtain⟨_,h1,h2⟩:=qp3.1 hv;obtain⟨x,h3,h4,_⟩:=qu7 (l:=s) h1 (by omega);simp only[qog,r.ilt,r.get,r.next,jab,h3,h4];exact h _ (by rw[jck];exact hs)
theorem zr9:Con Tryz.prog zc1 q1k:=q94 ⟨qol,trivial⟩ fun x y hx h=>⟨LF,by
 obtain⟨h1,h2⟩:=qa8 (show cond (S.fitP x.1 x.2.1) (some (S.settled x.1 x.2.1,())) none=some y from h);exact(zsl x.1 x.2.1 (qdd (c:=cPut) hx.2.1) h1).trans (jav some h2)⟩
def rng(l:List Int):Prop:=∀b∈l,0<=b/\b<256
theorem qfi{a b:List Int}(h:rng a)(k:rng b):rng (a++b):=fun x hx=>(jbn.1 hx).elim (h x) (k x)
theorem qg0(n:Nat):rng (List.replicate n 0):=fun b h=>by rw[(jfl.1 h).2];decide
theorem qdm(s:ByteArray):rng (qab s):=fun b h=>zgs h
theorem qe0{a:List Int}(h:rng a)(n:Nat):rng (a.take n):=fun x hx=>h x (jca hx)
theorem qd9{a:List Int}(h:rng a)(n:Nat):rng (a.drop n):=fun x hx=>h x (jdy hx)
theorem qs1(n:Nat):rng (S.two n):=fun b h=>by
 unfold S.two at h;simp only[jau,jfu,or_false] at h;rcases h with rfl|rfl<;>omega
theorem qbi(l:List Int):(qae l).size=l.length:=by
 unfold qae;simp[ByteArray.size]
theorem qf3(f:Nat){b:List Int}(h:0<b.length):S.chunks (f+1) b=qae (b.take 64++List.replicate (64-b.length) 0)::S.chunks f (b.drop 64):=by
 cases b with
 | nil=>cases h
 | cons x b=>rfl
theorem q7d:∀(f:Nat) (b:List Int),b.length<=f->(S.chunks f b).length=(b.length+63) / 64
 | 0,b,h=>by
  have:b=[]:=ja2.1 (by omega);subst this;rfl
 | f+1,b,h=>by
  by_cases hb:0<b.length
  ·rw[qf3 f hb,jas,q7d f _ (by rw[ja7];omega),ja7];omega
  ·have:b=[]:=ja2.1 (by omega);subst this;rfl
theorem qxh:∀(f:Nat) (b:List Int),∀s∈S.chunks f b,s.size=64
 | 0,b,s,h=>by cases h
 | f+1,b,s,h=>by
  by_cases hb:0<b.length
  ·rw[qf3 f hb] at h;rcases jau.1 h with rfl|h
   ·rw[qbi,jaf,jbc,jbd];omega
   ·exact qxh f _ s h
  ·have:b=[]:=ja2.1 (by omega);subst this;cases h
theorem q1j:∀(f:Nat) (b:List Int),rng b->b.length<=f->(S.chunks f b).flatMap qab=b++List.replicate (64*((b.length+63) / 64)-b.length) 0
 | 0,b,_,h=>by
  have:b=[]:=ja2.1 (by omega);subst this;rfl
 | f+1,b,hr,h=>by
  by_cases hb:0<b.length
  ·rw[qf3 f hb,je2,q1j f _ (qd9 hr 64) (by rw[ja7];omega),qbt (qfi (qe0 hr 64) (qg0 _)),ja7];by_cases h64:64<=b.length
   ·rw[show 64-b.length=0 by omega,jfg,jbl,<- jay,jcw,show 64*((b.length-64+63) / 64)-(b.length-64)=64*((b.length+63) / 64)-b.length by omega]
   ·rw[jbt (by omega),jct (by omega),jci,jay,List.replicate_append_replicate];rw[show 64-b.length+(64*((b.length-64+63) / 64)-(b.length-64))=64*((b.length+63) / 64)-b.length by omega]
  ·have:b=[]:=ja2.1 (by omega);subst this;rfl
theorem qbo{c:qaa}{l:List qaa}{last:Int}:S.okGo (c::l) last=true↔(0<=c.1/\c.1<=199)/\c.2.1.size<=4000/\(c.2.2=true->c.2.1=S.none_)/\last<c.1/\S.okGo l c.1=true:=by
 have hz:∀s:ByteArray,s.size=0↔s=S.none_:=fun s=>⟨fun h=>qfp (by
  have h1:=qcs s;rw[h] at h1;rw[ja2.1 h1];rfl),fun h=>by rw[h];rfl⟩
 show (S.inI c.1 0 199&&(decide (c.2.1.size<=4000)&&(!(c.2.2&&!decide (c.2.1.size=0))&&(decide (last<c.1)&&S.okGo l c.1))))=true↔_;simp only[S.inI,jad,jd8,jcd,Bool.and_eq_false_iff,jew,<- hz];constructor
 ·rintro⟨h1,h2,h3,h4,h5⟩;refine⟨h1,h2,fun h=>?_,h4,h5⟩;rcases h3 with h3|h3
  ·rw[h] at h3;cases h3
  ·exact h3
 ·rintro⟨h1,h2,h3,h4,h5⟩;refine⟨h1,h2,?_,h4,h5⟩;cases hc:c.2.2 with
  | false=>exact .inl rfl
  | true=>exact .inr (h3 hc)
theorem qpv(c:qaa):(S.cellB c).length=3+cond c.2.2 0 c.2.1.size:=by
 unfold S.cellB;cases c.2.2 with
 | true=>rfl
 | false =>
  rw[jah,jah,jas,jaf,qcs];show 2+_+1=_;omega
theorem zhm(c:qaa):rng (S.cellB c):=fun b h=>by
 unfold S.cellB at h;rcases jau.1 h with rfl|h
 ·omega
 ·cases hc:c.2.2 with
  | true=>rw[hc] at h;exact qs1 0 b h
  | false=>rw[hc] at h;exact qfi (qs1 _) (qdm _) b h
theorem zn5(l:List qaa):rng (S.body l):=fun b h=>by
 obtain⟨c,_,h⟩:=jfv.1 h;exact zhm c b h
theorem qpa(c:qaa)(l:List qaa):S.body (c::l)=S.cellB c++S.body l:=rfl
theorem qph(f:Nat)(k a b:Int)(r:List Int)(last:Int):S.changes (f+1) (k::a::b::r) last =
  if 199<k\/k<=last\/(r.length:Int)+1<a*256+b\/4001<a*256+b then none
  else if a*256+b=0 then (match S.changes f r k with
    | some l=>some ((k,S.none_,true)::l)
    | none=>none)
  else (match S.changes f (r.drop (a*256+b-1).toNat) k with
    | some l=>some ((k,qae (r.take (a*256+b-1).toNat),false)::l)
    | none=>none):=rfl
theorem qtk:∀(l:List qaa) (last:Int) (f:Nat),S.okGo l last=true->(S.body l).length<f->S.changes f (S.body l) last=some l
 | [],last,f,_,hf=>by
  cases f with
  | zero=>cases hf
  | succ f=>rfl
 | c::l,last,f,h,hf=>by
  obtain⟨⟨h1,h2⟩,h3,h4,h5,h6⟩:=qbo.1 h;rw[qpa] at hf ⊢;rw[jaf,qpv] at hf;cases f with
  | zero=>omega
  | succ f =>
  have hk:c.1 % 256=c.1:=by omega
  have hc:S.cellB c=c.1::cond c.2.2 (S.two 0) (S.two (c.2.1.size+1)++qab c.2.1):=by unfold S.cellB;rw[hk]
  obtain⟨k,s,g⟩:=c;simp only at h1 h2 h3 h4 h5 h6 hf hc;rw[hc];cases g with
  | true =>
   obtain rfl:=h4 rfl;simp only[jab] at hf ⊢;show S.changes (f+1) (k::0::0::S.body l) last=_;rw[qph,jao (by omega),jan (by decide),qtk l k f h6 (by omega)]
  | false =>
   simp only[jah] at hf ⊢;show S.changes (f+1) (k::(((s.size+1) / 256 % 256:Nat):Int)::(((s.size+1) % 256:Nat):Int)::(qab s++S.body l)) last=_;have hn:(((s.size+1) / 256 % 256:Nat):Int)*256+(((s.size+1) % 256:Nat):Int)=((s.size+1:Nat):Int):=by omega
   have hl:(qab s++S.body l).length=s.size+(S.body l).length:=by rw[jaf,qcs]
   rw[qph,hn,jao (by rw[hl];omega),jao (by omega),show (((s.size+1:Nat):Int)-1).toNat=(qab s).length by rw[qcs];omega,je5,jfn,qtk l k f h6 (by omega),qe8]
theorem qrv:∀(f:Nat) (b:List Int) (last:Int) {l:List qaa},rng b->S.changes f b last=some l->S.okGo l last=true/\(S.body l).length=b.length
 | 0,b,last,l,_,h=>by cases h
 | f+1,[],last,l,_,h=>by cases h;exact⟨rfl,rfl⟩
 | f+1,[k],last,l,_,h=>by cases h
 | f+1,[k,a],last,l,_,h=>by cases h
 | f+1,k::a::b::r,last,l,hr,h=>by
  rw[qph] at h;obtain⟨k0,k1⟩:=hr k (by simp);have hr':rng r:=fun x hx=>hr x (by simp[hx]);split at h
  ·cases h
  ·rename_i hn;split at h
   ·rename_i h0;split at h<;>cases h;rename_i l' hl;obtain⟨i1,i2⟩:=qrv f r k hr' hl;refine⟨qbo.2 ⟨⟨k0,by omega⟩,jb8 _,fun _=>rfl,by show last<k;omega,i1⟩,?_⟩;rw[qpa,jaf,qpv,i2];simp only[jab,jas];omega
   ·rename_i h0;obtain⟨a0,a1⟩:=hr a (by simp);obtain⟨b0,b1⟩:=hr b (by simp);split at h<;>cases h;rename_i l' hl;obtain⟨i1,i2⟩:=qrv f _ k (qd9 hr' _) hl;have ht:(r.take (a*256+b-1).toNat).length=(a*256+b-1).toNat:=by rw[jbc];omega
    refine⟨qbo.2 ⟨⟨k0,by omega⟩,by rw[qbi,ht];omega,fun h=>(by cases h),by show last<k;omega,i1⟩,?_⟩;rw[qpa,jaf,qpv,i2];simp only[jah,jas,qbi,ht,ja7];omega
theorem qen(l:List qaa)(m:Int):(S.recB l m).length=(S.body l).length+4:=rfl
theorem qk5(l:List qaa){m:Int}(hm:0<=m/\m<256):rng (S.recB l m):=fun b h=>by
 unfold S.recB at h;rcases jau.1 h with rfl|h
 ·exact hm
 rcases jau.1 h with rfl|h
 ·omega
 ·exact qfi (qs1 _) (zn5 l) b h
theorem qb0(l:List qaa)(m:Int):(S.packed l m).length=((S.body l).length+67) / 64:=by
 unfold S.packed;rw[q7d _ _ (jaq _),qen]
theorem qck(l:List qaa)(m:Int):1<=(S.packed l m).length:=by rw[qb0];omega
theorem qxx(l:List qaa){m:Int}(hm:0<=m/\m<256):∃r,(qab ((S.packed l m).getD 0 S.none_))=m::(((S.body l).length / 65536 % 256:Nat):Int)::(((S.body l).length / 256 % 256:Nat):Int)::(((S.body l).length % 256:Nat):Int)::r:=by
 unfold S.packed;rw[qen,qf3 _ (by rw[qen];omega),jfh,qbt (qfi (qe0 (qk5 l hm) 64) (qg0 _))];exact⟨_,rfl⟩
theorem q2f{α:Type}{a b:List α}(d:α)(h:0<a.length):(a++b).getD 0 d=a.getD 0 d:=by
 cases a with
 | nil=>cases h
 | cons x a=>rfl
theorem zkt(l:List qaa)(rest:List ByteArray)(h:S.okC l=true)(hb:(S.body l).length<16777216):S.readR (S.packed l 1++rest)=some (l,(S.packed l 1).length):=by
 have hm:(0:Int)<=1/\(1:Int)<256:=by decide
 obtain⟨r,hr⟩:=qxx l hm;have hn:S.recN (qab ((S.packed l 1).getD 0 S.none_))=(S.body l).length:=by
  rw[hr];unfold S.recN;simp only[List.getD_cons_succ,jfh];omega
 have hM:S.recM (qab ((S.packed l 1).getD 0 S.none_))=(S.packed l 1).length:=by
  unfold S.recM;rw[hn,qb0]
 have hfl:(S.packed l 1).flatMap qab=S.recB l 1++List.replicate (64*(((S.body l).length+4+63) / 64)-((S.body l).length+4)) 0:=by
  have:=q1j (S.recB l 1).length (S.recB l 1) (qk5 l hm) (jaq _);rw[qen] at this;exact this
 have hd4:∀z:List Int,(S.recB l 1++z).drop 4=S.body l++z:=fun z=>rfl;unfold S.readR;rw[q2f _ (qck l 1),hM,hn,jao (by rw[jaf,hr];simp),jfn,hfl,hd4,jfn,qtk l (-1) _ h (by omega)];simp only;rw[show (4+(S.body l).length)=(S.recB l 1).length by rw[qen];omega,je5];have hz:(List.replicate (64*(((S.body l).length+4+63) / 64)-((S.body l).length+4)) (0:Int)).all (fun b=>decide (b=0))=true:=jbi.2 fun b hb=>by rw[(jfl.1 hb).2];rfl
 rw[hz,jab]
theorem qvu{l l':List ByteArray}{m:Nat}(h:l'.take m=l.take m)(hm:1<=m):l'.getD 0 S.none_=l.getD 0 S.none_:=by
 have:=jav (fun x:List ByteArray=>x[0]?) h;simp only[ja0] at this;rw[jan (by omega),jan (by omega)] at this;rw[jai,jai,this]
theorem qwi:∀(l:List ByteArray),(∀s∈l,s.size=64)->(l.flatMap qab).length=64*l.length
 | [],_=>rfl
 | s::l,h=>by
  rw[je2,jaf,qcs,h s (by simp),qwi l fun t ht=>h t (by simp[ht]),jas];omega
theorem q3u(l:List ByteArray):rng (l.flatMap qab):=fun b h=>by
 obtain⟨s,_,h⟩:=jfv.1 h;exact qdm s b h
theorem qm8{l:List Int}(h:rng l)(i:Nat):0<=l.getD i 0/\l.getD i 0<256:=by
 rw[jai];cases hi:l[i]? with
 | none=>decide
 | some b=>exact h b (jbv hi)
theorem qv5{l:List ByteArray}{x:List qaa × Nat}(hs:∀s∈l,s.size=64)(h:S.readR l=some x):1<=x.2/\x.2<=l.length/\S.okC x.1=true/\x.2=(S.packed x.1 1).length/\(S.body x.1).length<16777216/\∀l',l'.take x.2=l.take x.2->S.readR l'=some x:=by
 have h':=h;unfold S.readR at h;split at h
 ·cases h
 rename_i hc;obtain⟨N,hN⟩:∃N,S.recN (qab (l.getD 0 S.none_))=N:=⟨_,rfl⟩;obtain⟨M,hM⟩:∃M,S.recM (qab (l.getD 0 S.none_))=M:=⟨_,rfl⟩;have hMN:M=(N+67) / 64:=by rw[<- hM,<- hN];rfl
 have hNlt:N<16777216:=by
  rw[<- hN];unfold S.recN;have:=qm8 (qdm (l.getD 0 S.none_)) 1;have:=qm8 (qdm (l.getD 0 S.none_)) 2;have:=qm8 (qdm (l.getD 0 S.none_)) 3;omega
 rw[hN,hM] at h;have hle:M<=l.length:=by rw[hM] at hc;omega
 split at h
 ·rename_i c hch;cases hz:(((l.take M).flatMap qab).drop (4+N)).all (fun b=>decide (b=0)) with
  | false=>rw[hz] at h;cases h
  | true =>
  rw[hz] at h;cases h;obtain⟨k1,k2⟩:=qrv _ _ _ (qe0 (qd9 (q3u _) 4) N) hch;have hfl:((l.take M).flatMap qab).length=64*M:=by
   rw[qwi _ fun s h=>hs s (jca h),jbc,jcn hle]
  rw[jbc,ja7,hfl,jcn (by omega)] at k2;refine⟨by show 1<=M;omega,hle,k1,by show M=(S.packed c 1).length;rw[qb0,k2];exact hMN,by show (S.body c).length<_;omega,fun l' ht=>?_⟩;have ht:l'.take M=l.take M:=ht;have h0:=qvu ht (by omega);have hl:M<=l'.length:=by
   have:=jav List.length ht;rw[jbc,jbc] at this;omega
  unfold S.readR at h' ⊢;rw[h0,hM,hN,ht];rw[hM,hN] at h';rw[jao (fun e=>by rcases e with e|e;exact hc (.inl e);omega)];rw[jao (fun e=>by rcases e with e|e;exact hc (.inl e);omega)] at h';exact h'
 ·cases h
def okS(l:List qaa)(last:Int):Prop:=S.okGo l last=true/\∀c∈l,c.2.2=false
theorem q01{α:Type}(l:List α)(n i:Nat)(d:α):(l.drop n).getD i d=l.getD (n+i) d:=by simp[jai]
theorem zrr{α:Type}(l:List α){n i:Nat}(d:α)(h:i<n):(l.take n).getD i d=l.getD i d:=by simp[jai,h]
theorem q0c:∀{l:List qaa} {a b:Int},S.okGo l a=true->b<=a->S.okGo l b=true
 | [],_,_,_,_=>rfl
 | c::l,a,b,h,hb=>by
  obtain⟨h1,h2,h3,h4,h5⟩:=qbo.1 h;exact qbo.2 ⟨h1,h2,h3,by omega,h5⟩
theorem qkj(c:qaa)(hc:(0<=c.1/\c.1<=199)/\c.2.1.size<=4000):∀{l:List qaa} {last:Int},okS l last->last<c.1->okS (S.ins1 c l) last
 | [],last,h,hl=>by
  show okS (cond c.2.2 [] [c]) last;cases hg:c.2.2 with
  | true=>exact⟨rfl,fun x hx=>by cases hx⟩
  | false=>exact⟨qbo.2 ⟨hc.1,hc.2,fun h=>(by rw[hg] at h;cases h),hl,rfl⟩,fun x hx=>by rw[jb7.1 hx];exact hg⟩
 | a::r,last,⟨h,hn⟩,hl=>by
  obtain⟨h1,h2,h3,h4,h5⟩:=qbo.1 h;have hr:okS r a.1:=⟨h5,fun x hx=>hn x (ja9 _ hx)⟩;show okS (if a.1<c.1 then a::S.ins1 c r else if a.1=c.1 then cond c.2.2 r (c::r) else cond c.2.2 (a::r) (c::a::r)) last;by_cases q1:a.1<c.1
  ·rw[jan q1];obtain⟨i1,i2⟩:=qkj c hc hr q1;exact⟨qbo.2 ⟨h1,h2,h3,h4,i1⟩,fun x hx=>(jau.1 hx).elim (fun e=>by rw[e];exact hn a (by simp)) (i2 x)⟩
  ·rw[jao q1];by_cases q2:a.1=c.1
   ·rw[jan q2];cases hg:c.2.2 with
    | true=>exact⟨q0c h5 (by omega),fun x hx=>hn x (ja9 _ hx)⟩
    | false=>exact⟨qbo.2 ⟨hc.1,hc.2,fun h=>(by rw[hg] at h;cases h),hl,by rw[<- q2];exact h5⟩,fun x hx=>(jau.1 hx).elim (fun e=>by rw[e];exact hg) fun hx=>hn x (ja9 _ hx)⟩
   ·rw[jao q2];cases hg:c.2.2 with
    | true=>exact⟨h,hn⟩
    | false=>exact⟨qbo.2 ⟨hc.1,hc.2,fun h=>(by rw[hg] at h;cases h),hl,qbo.2 ⟨h1,h2,h3,by omega,h5⟩⟩,fun x hx=>(jau.1 hx).elim (fun e=>by rw[e];exact hg) (hn x)⟩
theorem qkh:∀{l m:List qaa} {last:Int},okS m (-1)->S.okGo l last=true->okS (S.changed m l) (-1)
 | [],m,_,h,_=>h
 | c::l,m,last,h,hl=>by
  obtain⟨h1,h2,h3,h4,h5⟩:=qbo.1 hl;exact qkh (l:=l) (qkj c ⟨h1,h2⟩ h (by omega)) h5
theorem qfh(f:Nat)(s:ByteArray)(r:List ByteArray)(c:List qaa)(u:Nat):S.recs (f+1) (s::r) c u=if (qab s).getD 0 0=0 then some (c,u) else match S.readR (s::r) with
   | none=>none
   | some x=>cond (decide (u=0)&&x.1.any (·.2.2)) none (S.recs f ((s::r).drop x.2) (S.changed c x.1) (u+x.2)):=rfl
def szS(l:List ByteArray):Prop:=∀s∈l,s.size=64
theorem szS.drop{l:List ByteArray}(h:szS l)(n:Nat):szS (l.drop n):=fun s hs=>h s (jdy hs)
theorem szS.take{l:List ByteArray}(h:szS l)(n:Nat):szS (l.take n):=fun s hs=>h s (jca hs)
theorem q5f:∀(f:Nat) {l:List ByteArray} {c:List qaa} {u:Nat} {R:List qaa × Nat},szS l->S.recs f l c u=some R->∀f',l.length<f'->S.recs f' l c u=some R
 | 0,l,c,u,R,_,h,_,_=>by cases h
 | f+1,l,c,u,R,hs,h,0,hf=>by omega
 | f+1,[],c,u,R,hs,h,f'+1,hf=>h
 | f+1,s::r,c,u,R,hs,h,f'+1,hf=>by
  rw[qfh] at h ⊢;by_cases h0:(qab s).getD 0 0=0
  ·rw[jan h0] at h ⊢;exact h
  ·rw[jao h0] at h ⊢;cases hr:S.readR (s::r) with
   | none=>rw[hr] at h;cases h
   | some x =>
    rw[hr] at h;simp only at h ⊢;obtain⟨k1,k2,_⟩:=qv5 hs hr;cases hb:(decide (u=0)&&x.1.any (·.2.2)) with
    | true=>rw[hb] at h;cases h
    | false =>
     rw[hb,jah] at h;rw[jah];exact q5f f (hs.drop x.2) h f' (by rw[ja7];omega)
theorem q6x(f:Nat)(l:List qaa)(rest:List ByteArray)(c:List qaa)(u:Nat)(h:S.okC l=true)(hb:(S.body l).length<16777216) :
  S.recs (f+1) (S.packed l 1++rest) c u=cond (decide (u=0)&&l.any (·.2.2)) none (S.recs f rest (S.changed c l) (u+(S.packed l 1).length)):=by
 have hr:=zkt l rest h hb;have hd:(S.packed l 1++rest).drop (S.packed l 1).length=rest:=je5 ..;obtain⟨r,hh⟩:=qxx l (m:=1) (by decide);have hp:=qck l 1;cases hl:S.packed l 1++rest with
 | nil=>rw[List.append_eq_nil_iff.1 hl |>.1] at hp;cases hp
 | cons s q =>
  have hs:s=(S.packed l 1).getD 0 S.none_:=by
   rw[<- q2f (b:=rest) S.none_ hp,hl];rfl
  rw[qfh,hs,hh,<- hs,<- hl,hr];rw[jao (by simp)];show cond _ none (S.recs f ((S.packed l 1++rest).drop (S.packed l 1).length) _ _)=_;rw[hd]
theorem qtn:∀(f:Nat) {l:List ByteArray} {c c':List qaa} {u u':Nat},szS l->S.recs f l c u=some (c',u') ->
  u<=u'/\u'-u<=l.length/\(l.length=u'-u\/(qab (l.getD (u'-u) S.none_)).getD 0 0=0)/\(okS c (-1)->okS c' (-1)) /\
  ∀l2,szS l2->l2.take (u'-u)=l.take (u'-u)->∀f2 R,S.recs f2 (l2.drop (u'-u)) c' u'=some R->∃f3,S.recs f3 l2 c u=some R
 | 0,l,c,c',u,u',_,h=>by cases h
 | f+1,[],c,c',u,u',_,h=>by
  cases h;refine⟨jaq _,by omega,.inl (by simp),fun h=>h,fun l2 _ _ f2 R h=>⟨f2,?_⟩⟩;rw[jed,jd7] at h;exact h
 | f+1,s::r,c,c',u,u',hs,h=>by
  rw[qfh] at h;by_cases h0:(qab s).getD 0 0=0
  ·rw[jan h0] at h;cases h;refine⟨jaq _,by omega,.inr (by rw[jed];exact h0),fun h=>h,fun l2 _ _ f2 R h=>⟨f2,?_⟩⟩;rw[jed,jd7] at h;exact h
  ·rw[jao h0] at h;cases hr:S.readR (s::r) with
   | none=>rw[hr] at h;cases h
   | some x =>
    rw[hr] at h;simp only at h;obtain⟨k1,k2,k3,k4,k5,k6⟩:=qv5 hs hr;cases hb:(decide (u=0)&&x.1.any (·.2.2)) with
    | true=>rw[hb] at h;cases h
    | false =>
     rw[hb,jah] at h;obtain⟨i1,i2,i3,i4,i5⟩:=qtn f (hs.drop x.2) h;rw[ja7] at i2 i3;have e:u'-u=x.2+(u'-(u+x.2)):=by omega
     refine⟨by omega,by omega,?_,fun hc=>i4 (qkh hc k3),fun l2 h2 ht f2 R hR=>?_⟩
     ·rcases i3 with i3|i3
      ·exact .inl (by omega)
      ·refine .inr ?_;rw[q01,<- e] at i3;exact i3
     ·have ht1:l2.take x.2=(s::r).take x.2:=by
       have:=jav (List.take x.2) ht
       rwa [jdp,jdp,jcn (by omega)] at this
      obtain⟨f3,h3⟩:=i5 (l2.drop x.2) (h2.drop _) (by
       have:=jav (List.drop x.2) ht
       rwa [jej,jej,show u'-u-x.2=u'-(u+x.2) by omega] at this) f2 R (by rw[jcy,<- e];exact hR)
      have hr2:=k6 l2 ht1;have hhd:=qvu ht1 k1;cases l2 with
      | nil =>
       have:=jav List.length ht1;rw[jbc,jbc] at this;simp at this;omega
      | cons s2 r2 =>
       have hhd:s2=s:=hhd;refine⟨f3+1,?_⟩;rw[qfh,hhd,jao h0,<- hhd,hr2];simp only;rw[hb,jah];exact h3
def over(L:List ByteArray)(a:Nat)(ss:List ByteArray):List ByteArray:=L.take a++(ss++L.drop (a+ss.length))
def qa5:Nat->List ByteArray->List DPut
 | _,[]=>[]
 | a,s::ss=>((a:Int),s)::qa5 (a+1) ss
theorem quc:∀(a:Nat) (ss:List ByteArray),(qa5 a ss).length=ss.length
 | _,[]=>rfl
 | a,s::ss=>jav (·+1) (quc (a+1) ss)
theorem qjn(a:Nat)(s:ByteArray)(ss:List ByteArray):S.puts (a:Int) (s::ss)=S.put (a:Int) s::S.puts ((a+1:Nat):Int) ss:=rfl
theorem qv8:∀(a:Nat) (x y:List ByteArray),S.puts (a:Int) (x++y)=S.puts (a:Int) x++S.puts ((a+x.length:Nat):Int) y
 | a,[],y=>rfl
 | a,s::x,y=>by
  rw[jch,qjn,qjn,qv8 (a+1) x y,jch,jas,show a+(x.length+1)=a+1+x.length by omega]
theorem qe7:∀(a:Nat) (x:List ByteArray),(S.puts (a:Int) x).length=x.length
 | _,[]=>rfl
 | a,s::x=>jav (·+1) (qe7 (a+1) x)
theorem q8y:∀(n a:Nat) (x:List ByteArray),(S.puts (a:Int) x).take n=S.puts (a:Int) (x.take n)
 | 0,a,x=>by rw[jd6,jd6];rfl
 | n+1,a,[]=>rfl
 | n+1,a,s::x=>by rw[qjn,jet,jet,qjn,q8y n (a+1) x]
theorem zav(L:List ByteArray)(a:Nat):over L a []=L:=by
 unfold over;rw[jci,ja6,jb4,jcw]
theorem qc3{L:List ByteArray}{a:Nat}{ss:List ByteArray}(h:a+ss.length<=L.length):(over L a ss).length=L.length:=by
 unfold over;rw[jaf,jaf,jbc,ja7];omega
theorem qv6{L:List ByteArray}{a:Nat}{ss:List ByteArray}(h:a+ss.length<=L.length):(over L a ss).take a=L.take a:=by
 unfold over;rw[jdn (by rw[jbc];omega),jdp,Nat.min_self]
theorem qg3{L:List ByteArray}{a:Nat}{ss:List ByteArray}(h:a+ss.length<=L.length):(over L a ss).drop a=ss++L.drop (a+ss.length):=by
 unfold over;rw[jd5 (by rw[jbc];omega),jct (by rw[jbc];omega),jci]
theorem zo7{L:List ByteArray}{a:Nat}{ss:List ByteArray}(h:a+ss.length<=L.length):(over L a ss).drop (a+ss.length)=L.drop (a+ss.length):=by
 rw[<- jcy,qg3 h,je5]
theorem zkp{L:List ByteArray}{a:Nat}{ss:List ByteArray}(hL:szS L)(hs:szS ss):szS (over L a ss):=fun s h=>by
 unfold over at h;rcases jbn.1 h with h|h
 ·exact hL s (jca h)
 rcases jbn.1 h with h|h
 ·exact hs s h
 ·exact hL s (jdy h)
theorem qem:∀(ss:List ByteArray) (a:Nat) (L:List ByteArray),a+ss.length<=L.length->S.settled L (qa5 a ss)=over L a ss
 | [],a,L,_=>(zav L a).symm
 | s::ss,a,L,h=>by
  rw[jas] at h;show S.settled (L.set (a:Int).toNat s) (qa5 (a+1) ss)=_;rw[jbw,qem ss (a+1) _ (by rw[jck];omega)];unfold over;rw[jas,List.drop_set_of_lt (by omega),List.take_set];have:(L.take (a+1)).set a s=L.take a++[s]:=by
   rw[jdx (by omega),List.set_append_right _ _ (by rw[jbc];omega)];rw[jbc,jcn (by omega),jed];rfl
  rw[this,jay,jch,jci,show a+1+ss.length=a+(ss.length+1) by omega];rfl
theorem q4n{n a:Nat}{s:ByteArray}(hs:s.size=64)(h:a<n):S.badPut (n:Int) ((a:Int),s)=false:=by
 unfold S.badPut S.short S.inI;rw[jal hs,jal (show (0:Int)<=(a:Int) by omega),jal (show (a:Int)<=(n:Int)-1 by omega)];rfl
theorem qkq{L:List ByteArray}{a:Nat}{s:ByteArray}{q:List DPut}{r:List DAct}(hs:s.size=64)(h:a<L.length)(hq:q.length<4000):S.doGo (S.put (a:Int) s::r) L q=S.doGo r L (q++[((a:Int),s)]):=by
 show cond false _ (cond (S.badPut (L.length:Int) ((a:Int),s)) _ (if q.length=4000 then _ else _))=_;rw[q4n hs h,jah,jah,jao (by omega)];rfl
theorem qjw:∀(ss:List ByteArray) (a:Nat) (r:List DAct) (L:List ByteArray) (q:List DPut),szS ss->a+ss.length<=L.length->q.length+ss.length<=4000 ->
  S.doGo (S.puts (a:Int) ss++r) L q=S.doGo r L (q++qa5 a ss)
 | [],a,r,L,q,_,_,_=>by
  show S.doGo r L q=S.doGo r L (q++[]);rw[jbl]
 | s::ss,a,r,L,q,hs,h,hq=>by
  rw[jas] at h hq;rw[qjn,jch,qkq (hs s (by simp)) (by omega) (by omega),qjw ss (a+1) r L _ (fun t ht=>hs t (by simp[ht])) (by omega) (by rw[jaf];simp only[jas,ja6];omega),jay];rfl
theorem qfl(L:List ByteArray)(q:List DPut)(r:List DAct):S.doGo (S.sync::r) L q=S.doGo r (S.settled L q) []:=rfl
theorem qhp(L:List ByteArray)(q:List DPut):S.doGo [] L q=((L,q),0):=rfl
theorem q7m{s p:ByteArray}{n:Nat}(hs:s.size=64)(hp:p.size=64)(hn:n<=64):(S.tear s p n).size=64:=by
 unfold S.tear;rw[qbi,jaf,jbc,ja7,qcs,qcs];omega
theorem q4l(s p:ByteArray)(n:Nat):rng ((qab p).take n++(qab s).drop n):=qfi (qe0 (qdm p) n) (qd9 (qdm s) n)
theorem zrq{s p:ByteArray}{n:Nat}(hs:s.size=64)(hp:p.size=64)(h1:(qab s).getD 0 0=0)(h2:(qab p).getD 0 0=0):(qab (S.tear s p n)).getD 0 0=0:=by
 unfold S.tear;rw[qbt (q4l s p n)];cases n with
 | zero=>exact h1
 | succ n =>
  cases hb:qab p with
  | nil=>have:=qcs p;rw[hb,hp] at this;cases this
  | cons b l=>rw[hb] at h2;exact h2
theorem tear_mark{s p:ByteArray}{n:Nat}(hs:s.size=64)(hp:p.size=64)(h:(qab s).drop 1=(qab p).drop 1):S.tear s p n=if n=0 then s else p:=by
 unfold S.tear;cases n with
 | zero=>rw[jan rfl,jd6,jci,jd7,qe8]
 | succ n =>
  rw[jao (by omega)];have e:(qab s).drop (n+1)=(qab p).drop (n+1):=by
   have:=jav (List.drop n) h
   rwa [jcy,jcy,Nat.add_comm] at this
  rw[e,jcw,qe8]
theorem q28:∀(ss:List ByteArray) (a:Nat) (kept:List Int) (L:List ByteArray),szS L->szS ss->(∀n∈kept,0<=n/\n<=64)->a+ss.length<=L.length ->
  (S.crashGo (qa5 a ss) kept L).length=L.length/\szS (S.crashGo (qa5 a ss) kept L)/\(S.crashGo (qa5 a ss) kept L).take a=L.take a/\(S.crashGo (qa5 a ss) kept L).drop (a+ss.length)=L.drop (a+ss.length) /\
  ((qab (L.getD a S.none_)).getD 0 0=0->(qab (ss.getD 0 S.blank)).getD 0 0=0->(qab ((S.crashGo (qa5 a ss) kept L).getD a S.none_)).getD 0 0=0)
 | [],a,kept,L,hL,_,_,_=>by
  have e:S.crashGo (qa5 a []) kept L=L:=by cases kept<;>rfl
  rw[e];exact⟨rfl,hL,rfl,rfl,fun h _=>h⟩
 | s::ss,a,[],L,hL,hs,hk,h=>by
  have e:S.crashGo (qa5 a (s::ss)) [] L=L:=rfl;rw[e];exact⟨rfl,hL,rfl,rfl,fun h _=>h⟩
 | s::ss,a,n::kept,L,hL,hs,hk,h=>by
  rw[jas] at h;have hLa:(L.getD a S.none_).size=64:=by
   rw[jai,jac (by omega)];exact hL _ (jbj _)
  have hss:=hs s (by simp);obtain⟨n0,n1⟩:=hk n (by simp);have ht:=q7m (n:=n.toNat) hLa hss (by omega);have hL2:szS (L.set a (S.tear (L.getD a S.none_) s n.toNat)):=fun t h=>by
   rcases jek h with h|rfl
   ·exact hL t h
   ·exact ht
  obtain⟨i1,i2,i3,i4,i5⟩:=q28 ss (a+1) kept (L.set a (S.tear (L.getD a S.none_) s n.toNat)) hL2 (fun t h=>hs t (by simp[h])) (fun m h=>hk m (by simp[h])) (by rw[jck];omega);have e:S.crashGo (qa5 a (s::ss)) (n::kept) L=S.crashGo (qa5 (a+1) ss) kept (L.set a (S.tear (L.getD a S.none_) s n.toNat)):=by
   show S.crashGo _ _ (L.set (a:Int).toNat (S.tear (L.getD (a:Int).toNat S.none_) s n.toNat))=_;rw[jbw]
  rw[e];refine⟨i1.trans (jck ..),i2,?_,?_,fun h1 h2=>?_⟩
  ·have:=jav (List.take a) i3;rw[jdp,jdp,jcn (by omega),List.take_set_of_le (by omega)] at this;exact this
  ·rw[jas,show a+(ss.length+1)=a+1+ss.length by omega,i4,List.drop_set_of_lt (by omega)]
  ·have:=jav (fun x:List ByteArray=>x[a]?) i3;simp only[ja0] at this;rw[jan (by omega),jan (by omega),List.getElem?_set_self (by omega)] at this;have hx:(S.crashGo (qa5 (a+1) ss) kept (L.set a (S.tear (L.getD a S.none_) s n.toNat))).getD a S.none_=S.tear (L.getD a S.none_) s n.toNat:=by rw[jai,this];rfl
   rw[hx];exact zrq hLa hss h1 h2
theorem qid{n:Nat}(h2:n % 2=0)(h8:8<=n){h:Int}(hh:h=0\/h=1):∃a:Nat,S.half n h=((a:Int),((a+(n / 2-1):Nat):Int))/\1<=a/\a+(n / 2-1)<n/\(h=0->a=1)/\(h=1->a=n / 2):=by
 rcases hh with rfl|rfl
 ·refine⟨1,?_,by omega,by omega,fun _=>rfl,fun h=>(by cases h)⟩;unfold S.half;rw[jan rfl];exact Prod.ext rfl (by show ((n / 2:Nat):Int)=((1+(n / 2-1):Nat):Int);omega)
 ·refine⟨n / 2,?_,by omega,by omega,fun h=>(by cases h),fun _=>rfl⟩;unfold S.half;rw[jao (by decide)];exact Prod.ext rfl (by show (n:Int)-1=((n / 2+(n / 2-1):Nat):Int);omega)
structure Dk (L:List ByteArray):Prop where
 sz:szS L
 ge:8<=L.length
 le:L.length<=1000
 ev:L.length % 2=0
theorem Dk.check{L:List ByteArray}(h:Dk L):S.checkDisk (L,[])=0:=by
 unfold S.checkDisk;have h1:=h.ge;have h2:=h.le;have h3:L.any S.short=false:=by
  rw[jcz];intro e;obtain⟨s,hs,e⟩:=jdm.1 e;unfold S.short at e;rw[jal (h.sz s hs)] at e;cases e
 rw[jao (show ¬(1000<L.length\/4000<([]:List DPut).length) by simp;omega),jao];have:=h.ev;rintro(e|e|e|e)
 ·exact absurd e (show ¬L.length<8 by omega)
 ·exact e this
 ·cases e
 ·rw[show ((L,([]:List DPut)).1).any S.short=L.any S.short from rfl,h3] at e;cases e
def topB(h:Int):List Int:=h::List.replicate 63 0
structure Jn (L:List ByteArray) (h:Int) (a u:Nat) (c:List qaa):Prop where
 dk:Dk L
 hh:h=0\/h=1
 top:qab (L.getD 0 S.none_)=topB h
 fr:S.half L.length h=((a:Int),((a+(L.length / 2-1):Nat):Int))
 a1:1<=a
 to_:a+(L.length / 2-1)<L.length
 rc:∃f,S.recs f ((L.drop a).take (L.length / 2-1)) [] 0=some (c,u)
 u1:1<=u
theorem q2o{L:List ByteArray}{h:Int}{a K:Nat}(hf:S.half L.length h=((a:Int),((a+K:Nat):Int))):S.halfS L h=(L.drop a).take K:=by
 unfold S.halfS;rw[hf];simp only[jbw];rw[jej,ja5]
theorem Jn.open_{L:List ByteArray}{h:Int}{a u:Nat}{c:List qaa}(j:Jn L h a u c):S.opened L=some (h,u,c):=by
 obtain⟨f,hf⟩:=j.rc;have h0:(qab (L.getD 0 S.none_)).getD 0 0=h:=by rw[j.top];rfl
 have hd:(qab (L.getD 0 S.none_)).drop 1=List.replicate 63 0:=by rw[j.top];rfl
 unfold S.opened;rw[h0,hd,jao (show ¬(1<h\/¬List.replicate 63 (0:Int)=List.replicate 63 0) from fun e=>by rcases e with e|e;(rcases j.hh with rfl|rfl<;>omega);exact e rfl),q2o j.fr];rw[q5f f ((j.dk.sz.drop a).take _) hf (L.length+1) (by rw[jbc,ja7];omega)];have:=j.u1;simp only;rw[jao (by omega)]
theorem zf0{L:List ByteArray}(d:Dk L){h:Int}{u:Nat}{c:List qaa}(ho:S.opened L=some (h,u,c)):∃a,Jn L h a u c:=by
 unfold S.opened at ho;split at ho
 ·cases ho
 rename_i hn;have hz:(L.getD 0 S.none_).size=64:=by
  have:=d.ge;rw[jai,jac (by omega)];exact d.sz _ (jbj _)
 have hb:(qab (L.getD 0 S.none_)).length=64:=by rw[qcs,hz]
 have h0:=qm8 (qdm (L.getD 0 S.none_)) 0;have ht:qab (L.getD 0 S.none_)=topB ((qab (L.getD 0 S.none_)).getD 0 0):=by
  cases hl:qab (L.getD 0 S.none_) with
  | nil=>rw[hl] at hb;cases hb
  | cons x r =>
   have:r=List.replicate 63 0:=by
    refine jcj fun e=>hn (.inr ?_);rw[hl];exact e
   rw[this];rfl
 split at ho
 ·rename_i c' u' hr;split at ho
  ·cases ho
  rename_i hu;cases ho;have hh:(qab (L.getD 0 S.none_)).getD 0 0=0\/(qab (L.getD 0 S.none_)).getD 0 0=1:=by omega
  obtain⟨a,e1,e2,e3,_,_⟩:=qid d.ev d.ge hh;exact⟨a,d,hh,ht,e1,e2,e3,⟨_,by rw[<- q2o e1];exact hr⟩,by omega⟩
 ·cases ho
theorem Jn.kept{L L':List ByteArray}{h:Int}{a u:Nat}{c:List qaa}(j:Jn L h a u c)(d:Dk L')(hl:L'.length=L.length)(ht:L'.take (a+u)=L.take (a+u))(hu:u<=L.length / 2-1){c':List qaa}{v f:Nat}(hv:1<=v)
  (hr:S.recs f ((L'.drop (a+u)).take (L.length / 2-1-u)) c u=some (c',v)):Jn L' h a v c':=by
 obtain⟨f0,h0⟩:=j.rc;obtain⟨k1,k2,k3,k4,k5⟩:=qtn f0 ((j.dk.sz.drop a).take _) h0;rw[jdf] at k2 k3 k5;have hto:=j.to_;have ha1:=j.a1;have h2:((L'.drop a).take (L.length / 2-1)).take u=((L.drop a).take (L.length / 2-1)).take u:=by
  rw[jdp,jdp,jcn hu];have:=jav (List.drop a) ht
  rwa [jej,jej,ja5] at this
 obtain⟨f3,h3⟩:=k5 ((L'.drop a).take (L.length / 2-1)) ((d.sz.drop a).take _) h2 f (c',v) (by
  rw[jej,jcy];exact hr)
 refine⟨d,j.hh,?_,by rw[hl];exact j.fr,j.a1,by rw[hl];exact j.to_,⟨f3,by rw[hl];exact h3⟩,hv⟩;rw[qvu ht (by omega)];exact j.top
theorem Jn.le{L:List ByteArray}{h:Int}{a u:Nat}{c:List qaa}(j:Jn L h a u c):u<=L.length / 2-1/\okS c (-1)/\(u=L.length / 2-1\/(qab (L.getD (a+u) S.none_)).getD 0 0=0):=by
 obtain⟨f0,h0⟩:=j.rc;obtain⟨k1,k2,k3,k4,k5⟩:=qtn f0 ((j.dk.sz.drop a).take _) h0;have hto:=j.to_;have hl:((L.drop a).take (L.length / 2-1)).length=L.length / 2-1:=by rw[jbc,ja7];omega
 rw[jdf,hl] at k2 k3;refine⟨k2,k4 ⟨rfl,fun x hx=>by cases hx⟩,?_⟩;rcases k3 with k3|k3
 ·exact .inl k3.symm
 ·by_cases e:u=L.length / 2-1
  ·exact .inl e
  ·refine .inr ?_;rw[zrr _ _ (by omega),q01] at k3;exact k3
theorem Jn.more{L L':List ByteArray}{h:Int}{a u:Nat}{c:List qaa}(j:Jn L h a u c)(d:Dk L')(hl:L'.length=L.length)(ht:L'.take (a+u)=L.take (a+u)){l:List qaa}(hc:S.okC l=true)(hb:(S.body l).length<16777216)
  (hn:u+(S.packed l 1).length<=L.length / 2-1) {rest:List ByteArray} (hr:L'.drop (a+u)=S.packed l 1++rest) (h0:u+(S.packed l 1).length=L.length / 2-1\/(qab (rest.getD 0 S.none_)).getD 0 0=0):Jn L' h a (u+(S.packed l 1).length) (S.changed c l):=by
 have hu:=j.u1;refine j.kept d hl ht (by omega) (f:=2) (by omega) ?_;rw[hr,jfw,jbt (by omega),q6x 1 l _ c u hc hb,show decide (u=0)=false from jar (by omega),jcx,jah];cases hz:rest.take (L.length / 2-1-u-(S.packed l 1).length) with
 | nil=>rfl
 | cons s r =>
  rw[qfh];rcases h0 with h0|h0
  ·rw[show L.length / 2-1-u-(S.packed l 1).length=0 by omega,jd6] at hz;cases hz
  ·have:s=rest.getD 0 S.none_:=by
    cases rest with
    | nil=>rw[List.take_nil] at hz;cases hz
    | cons s' r' =>
     cases hk:L.length / 2-1-u-(S.packed l 1).length with
     | zero=>rw[hk] at hz;cases hz
     | succ k=>rw[hk,jet] at hz;cases hz;rfl
   rw[this,jan h0]
theorem Jn.same{L L':List ByteArray}{h:Int}{a u:Nat}{c:List qaa}(j:Jn L h a u c)(d:Dk L')(hl:L'.length=L.length)(ht:L'.take (a+u)=L.take (a+u))(h0:u=L.length / 2-1\/(qab (L'.getD (a+u) S.none_)).getD 0 0=0):Jn L' h a u c:=by
 have hu:=j.le.1;have hto:=j.to_;refine j.kept d hl ht hu (f:=1) j.u1 ?_;rcases h0 with h0|h0
 ·rw[show L.length / 2-1-u=0 by omega,jd6];rfl
 ·cases hz:(L'.drop (a+u)).take (L.length / 2-1-u) with
  | nil=>rfl
  | cons s r =>
   have:s=L'.getD (a+u) S.none_:=by
    have:=jav (fun x:List ByteArray=>x[0]?) hz;simp only[ja0,jbx,jb4,jap] at this;split at this
    ·rw[jai,this];rfl
    ·cases this
   rw[qfh,this,jan h0]
structure OkD (l:List ByteArray) (q:List DPut):Prop where
 sz:szS l
 le:l.length<=1000
 fit:S.fitP l q=true
 many:q.length<=4000
theorem zbu{l:List ByteArray}:S.anyShort l=false↔szS l:=by
 unfold S.anyShort S.short szS;rw[jcz];constructor
 ·intro h s hs;refine jcj fun e=>h (jdm.2 ⟨s,hs,by rw[jar e];rfl⟩)
 ·intro h e;obtain⟨s,hs,e⟩:=jdm.1 e;rw[jal (h s hs)] at e;cases e
theorem qj4{l:List ByteArray}{q:List DPut}:S.fitP l q=true↔∀p∈q,p.2.size=64/\0<=p.1/\p.1<l.length:=by
 unfold S.fitP;rw[jbi];constructor
 ·intro h p hp;have:=h p hp;rw[jcd] at this;exact qp3.1 this
 ·intro h p hp;rw[jcd];exact qp3.2 (h p hp)
theorem qp0{d:qah}(h:S.checkDisk d=0):OkD d.1 d.2/\8<=d.1.length/\d.1.length % 2=0:=by
 unfold S.checkDisk at h;split at h
 ·cases h
 rename_i h1;split at h
 ·cases h
 rename_i h2;have h3:d.1.any S.short=false:=by rw[jcz];exact fun e=>h2 (.inr (.inr (.inr e)))
 have h4:d.2.any (S.badPut d.1.length)=false:=by rw[jcz];exact fun e=>h2 (.inr (.inr (.inl e)))
 refine⟨⟨zbu.1 h3,by omega,?_,by omega⟩,by omega,jcj fun e=>h2 (.inr (.inl e))⟩;unfold S.fitP;rw[jbi];intro p hp;rw[jcd,jcz];intro e;rw[jdc] at h4;exact h4 p hp e
theorem q13:∀(q:List DPut) {l:List ByteArray},S.fitP l q=true->szS l->(S.settled l q).length=l.length/\szS (S.settled l q)
 | [],l,_,h=>⟨rfl,h⟩
 | p::q,l,hf,h=>by
  have hf:=qj4.1 hf;have hp:=hf p (by simp);obtain⟨i1,i2⟩:=q13 q (l:=l.set p.1.toNat p.2) (qj4.2 fun x hx=>by rw[jck];exact hf x (by simp[hx])) fun s hs=>by
   rcases jek hs with hs|rfl
   ·exact h s hs
   ·exact hp.1
  exact⟨i1.trans (jck ..),i2⟩
theorem OkD.sync{l:List ByteArray}{q:List DPut}(h:OkD l q):OkD (S.settled l q) []:=by
 obtain⟨h1,h2⟩:=q13 q h.fit h.sz;exact⟨h2,by rw[h1];exact h.le,rfl,jb8 _⟩
theorem OkD.put{l:List ByteArray}{q:List DPut}{p:DPut}(h:OkD l q)(hp:S.badPut l.length p=false)(hq:¬q.length=4000):OkD l (q++[p]):=by
 refine⟨h.sz,h.le,qj4.2 fun x hx=>?_,?_⟩
 ·rcases jbn.1 hx with hx|hx
  ·exact qj4.1 h.fit x hx
  ·rw[jb7.1 hx];exact qp3.1 hp
 ·have:=h.many;rw[jaf];simp only[jas,ja6];omega
theorem qye{s:ByteArray}:s.size=0↔s=S.lit []:=⟨fun h=>qfp (by
  have h1:=qcs s;rw[h] at h1;rw[ja2.1 h1];rfl),fun h=>by rw[h];rfl⟩
theorem zk5(v:DAct):(Bool.and (keqI v.2.1 (Int.ofNat 0)) (Bool.and (keqS v.2.2 (S.lit [])) true))=decide (v.2.1=0/\v.2.2.size=0):=by
 have e1:keqI v.2.1 (Int.ofNat 0)=decide (v.2.1=0):=rfl;have e2:keqS v.2.2 (S.lit [])=decide (v.2.2.size=0):=by
  show decide (v.2.2=S.lit [])=_;exact jdl.2 qye.symm
 rw[e1,e2,Bool.and_true,Bool.decide_and]
theorem zmx(a:DAct)(r:List DAct)(l:List ByteArray)(q:List DPut):S.doGo (a::r) l q=cond a.1 (if a.2.1=0/\a.2.2.size=0 then S.doGo r (S.settled l q) [] else (([],[]),1))
  (cond (S.badPut l.length a.2) (([],[]),1) (if q.length=4000 then (([],[]),3) else S.doGo r l (q++[a.2]))):=rfl
theorem zfu(d:qah)(l:List DAct)(hl:l.length<LF):Fz10 LF d l=some ((S.doD d l).1,(S.doD d l).2,()):=by
 simp only[Fz10,qr0];show cond (!ieqI (S.checkDisk d) (Int.ofNat 0)) _ _=_;unfold S.doD;by_cases h0:S.checkDisk d=0
 ·rw[qbh (show _=Int.ofNat 0 from h0),ja1,jah,jan h0];refine range0 (σ:=List DPut × List ByteArray) (R:=qcw) l (fun i s=>(i,s.1,s.2)) (fun _ s=>OkD s.2 s.1) (fun rest _ s=>some ((S.doGo rest s.2 s.1).1,(S.doGo rest s.2 s.1).2,())) hl (fun K s _=>?_) (fun K i v rest s hs r h=>?_) (d.2,d.1) (qp0 h0).1
  ·simp only[qq6,qch,jah];rfl
  ·obtain⟨q,t⟩:=s;simp only at hs h;have hle:=hs.le;have hm:=hs.many;have r1:Nat.ble (Nat.mul (Nat.add q.length 1) 24) 140737488355328=true:=jax (by show (q.length+1)*24<=_;omega);have hw:=q3k (n:=t.length) (by unfold LF;omega);have hb:∀p:DPut,S.badPut t.length p=(S.short p.2||!S.inI p.1 (Int.ofNat 0) ((t.length:Int)-1)):=fun _=>rfl;simp only[qq6,r.ilt,r.get,r.next,jab,hw,r1,hs.fit,zk5];rw[zmx];obtain⟨sy,p1,p2⟩:=v;simp only;rw[hb];cases sy with
   | true =>
    simp only[jab,jah,ja1];by_cases hz:p1=0/\p2.size=0
    ·rw[jal hz,jan hz];exact h ([],S.settled t q) hs.sync
    ·rw[jar hz,jao hz];rfl
   | false =>
    simp only[jab,jah,ja3];cases hsh:S.short p2 with
    | true=>rfl
    | false =>
     cases hin:S.inI p1 (Int.ofNat 0) ((t.length:Int)-1) with
     | false=>rfl
     | true =>
      simp only[jab,jah,ja1,Bool.or_false];by_cases h4:q.length=4000
      ·rw[qbh (show Int.ofNat q.length=Int.ofNat 4000 from jav Int.ofNat h4),jab,jan h4];rfl
      ·rw[qbj (show ¬Int.ofNat q.length=Int.ofNat 4000 from fun e=>h4 (jdo e)),jah,jao h4];exact h (q++[(p1,p2)],t) (hs.put (by rw[hb,hsh,hin];rfl) h4)
 ·rw[qbj (show ¬_=Int.ofNat 0 from h0),ja3,jab,jao h0]
theorem qkf:Con Tryz.prog ziw qmy:=zkm ⟨qke,qmc,q3p,zr9,qol,zng,trivial⟩ fun x y hx h=>⟨LF,(zfu x.1 x.2.1 (qdd (c:=cAct) hx.2.1)).trans h⟩
theorem zks(s p:ByteArray)(n:Nat):ByteArray.append (ByteArray.extract p 0 n) (ByteArray.extract s n s.size)=S.tear s p n:=by
 unfold S.tear;refine qfp ?_;rw[qbt (q4l s p n)];show qab (p.extract 0 n++s.extract n s.size)=_;rw[za2,q6l,q3i s n s.size (jaq _)]
theorem zmg(p:DPut)(q:List DPut)(n:Int)(r:List Int)(l:List ByteArray):S.crashGo (p::q) (n::r) l=S.crashGo q r (l.set p.1.toNat (S.tear (l.getD p.1.toNat S.none_) p.2 n.toNat)):=rfl
theorem zgw{l:List ByteArray}(h:szS l){i:Nat}{s:ByteArray}(hs:s.size=64):szS (l.set i s):=fun t ht=>by
 rcases jek ht with ht|rfl
 ·exact h t ht
 ·exact hs
theorem zcc{s p:ByteArray}{n:Int}(hs:s.size=64)(hp:p.size=64)(h0:0<=n)(h1:n<=64) :
  lchk (Int.ofNat 0) n (Int.ofNat p.size) (Int.ofNat p.size)=true/\lchk n (Int.ofNat s.size) (Int.ofNat s.size) (Int.ofNat s.size)=true /\
  Nat.ble (Nat.succ (Nat.add (ByteArray.size (ByteArray.extract p 0 (Int.toNat n))) (ByteArray.size (ByteArray.extract s (Int.toNat n) (Int.toNat (Int.ofNat s.size)))))) 9223372036854775808=true /\
  ByteArray.append (ByteArray.extract p 0 (Int.toNat n)) (ByteArray.extract s (Int.toNat n) (Int.toNat (Int.ofNat s.size)))=S.tear s p n.toNat:=by
 rw[hs,hp];refine⟨qb2.2 ⟨jbr _,h0,h1,jbr _⟩,qb2.2 ⟨h0,h1,jbr _,jbr _⟩,jax ?_,?_⟩
 ·rw[je0,je0];show _+_+1<=_;omega
 ·have:=zks s p n.toNat;rw[hs] at this;exact this
theorem zo6(d:qah)(l:List Int)(hl:l.length<LF):Fz11 LF d l=some ((S.crash d l).1,(S.crash d l).2,()):=by
 have e1:idxO (fun v0:Int=>(some (!(S.inI v0 (Int.ofNat 0) (Int.ofNat 64))))) l 0=some (Go.Jx.S.idx (fun n=>!S.inI n 0 64) l):=qq4 _ fun x _=>rfl;simp only[Fz11,quq,qcj];show cond (!ieqI (S.checkDisk d) (Int.ofNat 0)) _ _=_;unfold S.crash;by_cases h0:S.checkDisk d=0
 ·rw[qbh (show _=Int.ofNat 0 from h0),ja1,jah,jan h0];by_cases h1:d.2.length<l.length
  ·rw[jal h1,jab,jan (.inl h1)];rfl
  rw[jar h1,jah,e1];simp only[qqf];cases h2:l.any (fun n=>!S.inI n 0 64) with
  | true=>rw[jab,jan (.inr rfl)];rfl
  | false =>
  rw[jah,jao (by simp[h1])];have hk:∀n∈l,0<=n/\n<=64:=fun n hn=>by
   rw[jdc] at h2;have:=h2 n hn;rw[Bool.not_eq_true,jew] at this;exact qbm.1 this
  have hf:=qj4.1 (qp0 h0).1.fit;refine(range0 (σ:=List ByteArray) (R:=qcu) l (fun i s=>(i,s)) (fun _ s=>szS s/\s.length=d.1.length) (fun rest i s=>some ((S.crashGo (d.2.drop i) rest s,[]),0,())) hl (fun K s _=>?_) (fun K i v rest s hs r h=>?_) d.1 ⟨(qp0 h0).1.sz,rfl⟩).trans ?_
  ·simp only[qmi,qch,jah];have:S.crashGo (d.2.drop l.length) [] s=s:=by cases d.2.drop l.length<;>rfl
   rw[this];rfl
  ·have hi:=r.lt;have hip:i<d.2.length:=by omega
   have hg:d.2[i]?=some d.2[i]:=jac hip;obtain⟨z1,z2,z3⟩:=hf d.2[i] (jbj hip);have hd:d.2.drop i=d.2[i]::d.2.drop (i+1):=jdj hip;obtain⟨x,y1,y2,y3⟩:=qu7 (l:=s) z2 (by rw[hs.2];exact z3);have hx:=hs.1 x y3;obtain⟨v0,v1⟩:=hk v r.mem;obtain⟨w1,w2,w3,w4⟩:=zcc hx z1 v0 v1;simp only[qmi,r.ilt,r.get,r.next,jab,qc6,hg,y1,y2,w1,w2,w3,w4];rw[hd,zmg,jai,y2];exact h _ ⟨zgw hs.1 (q7m hx z1 (by omega)),by rw[jck];exact hs.2⟩
  ·rfl
 ·rw[qbj (show ¬_=Int.ofNat 0 from h0),ja3,jab,jao h0]
theorem q0r:Con Tryz.prog zn9 qxn:=znn ⟨qke,qmc,qol,trivial⟩ fun x y hx h=>⟨LF,(zo6 x.1 x.2.1 (qdd (c:=.int .i64) hx.2.1)).trans h⟩
abbrev qm7:Type:=ByteArray × Unit
abbrev zeq:Nat:=92
def q5g(lf:Nat)(x1:Int):Option qm7:=(some ((ByteArray.mk (Array.mk (List.cons (UInt8.ofBitVec (BitVec.ofFin (Fin.mk (Nat.mod (Int.toNat (IntKind.u8.wrap (Int.fdiv x1 (Int.ofNat 256)))) 256) (jc1 (Int.toNat (IntKind.u8.wrap (Int.fdiv (x1,()).1 (HPow.hPow (OfNat.ofNat 2) (Min.min (Int.toNat (OfNat.ofNat 8)) (IntKind.bits IntKind.i64)))))) (BitVec.ofNat._proof_1 (OfNat.ofNat 8)))))) (List.cons (UInt8.ofBitVec (BitVec.ofFin (Fin.mk (Nat.mod (Int.toNat (IntKind.u8.wrap x1)) 256) (jc1 (Int.toNat (IntKind.u8.wrap (x1,()).1)) (BitVec.ofNat._proof_1 (OfNat.ofNat 8)))))) [])))),()))
def qql(lf:Nat)(x1:Int):Option qm7:=q5g lf x1
theorem znk{g:ElA [(.int .i64)]->Option qm7}(hsm:SmOK Tryz.prog [])(hg:∀(x:ElA [(.int .i64)]) (y:qm7),WfA [(.int .i64)] x->g x=some y->∃lf,qql lf x.1=some y):Con Tryz.prog 92 ⟨[(.int .i64)],[(false,.str)],g⟩ :=
 conU (fi:=fi92) (hxl:=[]) (fun lf x=>qql lf x.1) cm3 zdh trivial hsm hg
def qk1:Nat->Option Nm:=fun k=>cond (Nat.beq k 3) (some ⟨[3,6,7,8],[],[],[],[],0,0,false⟩) (none)
def qlw:Nat->Bool:=fun k=>cond (Nat.beq k 3) true (false)
def qz5:=qlw
abbrev qcy:Type:=ByteArray × Unit
def qz8:List (Nat × Sm):=[(92,qsu)]
def q6b:List (Nat × Hx):=[]
def qti(R:Type)(lf:Nat):ClK R:=qa3 Tryz.prog ttT.get ftT.get (nm1 91 qk1) (smL qz8) (hxL q6b) lf 20 R
abbrev zao:Nat:=91
def qiq(x1:(List qaa))(p:ByteArray × Int):NRes:=(NRes.mk (.node none (.node none (.node (some (IV.str p.1)) (.node (some (IV.int .i64 (Int.ofNat x1.length))) .leaf .leaf) .leaf) .leaf) (.node none (.node none (.node (some (IV.int .i64 p.2)) .leaf .leaf) .leaf) (.node (some (IV.lst qac x1)) .leaf .leaf))) (IS.mk .leaf 0) [] 0)
def q2z(lf:Nat)(x1:(List qaa))(L3:(ByteArray × Int)->Option qcy):Option qcy:=(L3 ((S.lit []),(Int.ofNat 0)))
def qpw(lf:Nat)(x1:(List qaa))(L3:(ByteArray × Int)->Option qcy)(p:ByteArray × Int):Option qcy:=(cond (iltI p.2 (Int.ofNat x1.length)) (match (jget x1 p.2) with|none=>none|some v0=>(cond (Nat.ble (Nat.succ (Nat.add p.1.size 1)) 9223372036854775808) (cond v0.2.2 (match (cond (S.inI (Int.ofNat 0) (Int.ofNat 0) (Int.ofNat 16777215)) (some ((S.lit [0,0]),())) none) with|none=>none|some v1=>(cond (Nat.ble (Nat.succ (Nat.add (ByteArray.size (ByteArray.append p.1 (ByteArray.mk (Array.mk (List.cons (UInt8.ofBitVec (BitVec.ofFin (Fin.mk (Nat.mod (Int.toNat (IntKind.u8.wrap v0.1)) 256) (jc1 (Int.toNat (IntKind.u8.wrap v0.1)) (BitVec.ofNat._proof_1 (OfNat.ofNat 8)))))) []))))) v1.1.size)) 9223372036854775808) (L3 ((ByteArray.append (ByteArray.append p.1 (ByteArray.mk (Array.mk (List.cons (UInt8.ofBitVec (BitVec.ofFin (Fin.mk (Nat.mod (Int.toNat (IntKind.u8.wrap v0.1)) 256) (jc1 (Int.toNat (IntKind.u8.wrap v0.1)) (BitVec.ofNat._proof_1 (OfNat.ofNat 8)))))) [])))) v1.1),(IntKind.i64.wrap (Int.add p.2 (Int.ofNat 1))))) none)) (match (cond (S.inI (IntKind.i64.wrap (Int.ofNat (Nat.add v0.2.1.size 1))) (Int.ofNat 0) (Int.ofNat 16777215)) (some ((qae (S.two (Int.toNat (IntKind.i64.wrap (Int.ofNat (Nat.add v0.2.1.size 1)))))),())) none) with|none=>none|some v37=>(cond (Nat.ble (Nat.succ (Nat.add v37.1.size v0.2.1.size)) 9223372036854775808) (cond (Nat.ble (Nat.succ (Nat.add (ByteArray.size (ByteArray.append p.1 (ByteArray.mk (Array.mk (List.cons (UInt8.ofBitVec (BitVec.ofFin (Fin.mk (Nat.mod (Int.toNat (IntKind.u8.wrap v0.1)) 256) (jc1 (Int.toNat (IntKind.u8.wrap v0.1)) (BitVec.ofNat._proof_1 (OfNat.ofNat 8)))))) []))))) (ByteArray.size (ByteArray.append v37.1 v0.2.1)))) 9223372036854775808) (L3 ((ByteArray.append (ByteArray.append p.1 (ByteArray.mk (Array.mk (List.cons (UInt8.ofBitVec (BitVec.ofFin (Fin.mk (Nat.mod (Int.toNat (IntKind.u8.wrap v0.1)) 256) (jc1 (Int.toNat (IntKind.u8.wrap v0.1)) (BitVec.ofNat._proof_1 (OfNat.ofNat 8)))))) [])))) (ByteArray.append v37.1 v0.2.1)),(IntKind.i64.wrap (Int.add p.2 (Int.ofNat 1))))) none) none))) none)) (some (p.1,())))
abbrev gz13:Type:=ElA [(.list qac)]->Option qcy
abbrev sz13(g:gz13):Sm:=⟨[(.list qac)],[(false,.str)],g⟩
abbrev Ez13(g:gz13)(J:JT qcy)(lf:Nat)(x1:(List qaa)):=qbs Tryz.prog ttT.get qk1 fi91.nt (qti _ lf) lf qlw J fi91.body [] (qaz (argV [(.list qac)] (x1,())) 0 .leaf) S0 [] (qay ttT.get fi91 (sz13 g))
abbrev Bz13(g:gz13)(J:JT qcy)(lf k:Nat)(ms:List Nat)(q:NRes):=qcb Tryz.prog ttT.get qk1 fi91.nt (qti _ lf) lf qlw J k fi91.body [] ms q (qay ttT.get fi91 (sz13 g))
theorem zc0(g:gz13)(J:JT qcy)(lf:Nat)(x1:(List qaa)):Ez13 g J lf x1=q2z lf x1 (fun q=>J 3 [lf] (qiq x1 q)):=by kernel_rfl
theorem zcs(g:gz13)(J:JT qcy)(lf:Nat)(x1:(List qaa))(m1:Nat)(p:ByteArray × Int):Bz13 g J lf 3 [m1] (qiq x1 p)=qpw lf x1 (fun q=>J 3 [m1] (qiq x1 q)) p:=by kernel_rfl
theorem q7k:(regs fi91.body).Nodup:=by decide +kernel
theorem q7t:okC qk1 qlw qz5 fi91.body none=true:=by kernel_rfl
def Az13(g:gz13)(lf:Nat):JT qcy:=atN Tryz.prog ttT.get qk1 fi91 (sz13 g) (qti _ lf) lf qz5
def qnf(lf:Nat)(x1:(List qaa)):Nat->(ByteArray × Int)->Option qcy:=qa1 fun K p=>qpw lf x1 K p
theorem q1d(g:gz13)(lf:Nat)(x1:(List qaa)):∀(n:Nat) (p:ByteArray × Int),Az13 g lf 3 [n] (qiq x1 p)=qnf lf x1 n p
 | 0,p=>qbq 3 [0] rfl _
 | n+1,p=>by
  have ih:=q1d g lf x1 n;refine(qbp (qa7 20 _) q7k q7t 3 [n+1] [n] rfl _).trans ((zcs g (Az13 g lf) lf x1 n p).trans ?_);rw[(show (fun q=>Az13 g lf 3 [n] (qiq x1 q))=(fun q=>qnf lf x1 n q) from funext ih)];rfl
def Fz13(lf:Nat)(x1:(List qaa)):Option qcy:=q2z lf x1 (fun q=>qnf lf x1 lf q)
theorem za0(g:gz13)(lf:Nat)(x1:(List qaa)):Ez13 g (Az13 g lf) lf x1=Fz13 lf x1:=by
  refine(zc0 g (Az13 g lf) lf x1).trans ?_;rw[(show (fun q=>Az13 g lf 3 [lf] (qiq x1 q))=(fun q=>qnf lf x1 lf q) from funext fun q=>q1d g lf x1 lf q)];rfl
theorem zg1:qbd Tryz.prog q6b:=trivial
theorem zr6{g:gz13}(hsm:SmOK Tryz.prog qz8)(hg:∀(x:ElA [(.list qac)]) (y:qcy),WfA [(.list qac)] x->g x=some y->∃lf,Fz13 lf x.1=some y):Con Tryz.prog 91 ⟨[(.list qac)],[(false,.str)],g⟩ :=
 conV (st:=qlw) (fun lf x=>Fz13 lf x.1) cm3 zjy zg1 q7k q7t (fun lf x=>za0 g lf x.1) hsm hg
def qjg:Nat->Option Nm:=fun k=>cond (Nat.beq k 3) (some ⟨[4],[],[],[],[],0,0,false⟩) (cond (Nat.beq k 6) (some ⟨[4,5],[(5,.str)],[],[],[],0,0,false⟩) (none))
def qjc:Nat->Bool:=fun k=>cond (Nat.beq k 3) true (cond (Nat.beq k 6) true (false))
def qyr:=qjc
abbrev qb5:Type:=(List ByteArray) × Unit
def q2y:List (Nat × Sm):=[(91,qxf),(92,qsu)]
def qyn:List (Nat × Hx):=[]
def qth(R:Type)(lf:Nat):ClK R:=qa3 Tryz.prog ttT.get ftT.get (nm1 56 qjg) (smL q2y) (hxL qyn) lf 20 R
abbrev q97:Nat:=56
def qiy(x1:(List qaa))(p:ByteArray):NRes:=(NRes.mk (.node none .leaf (.node none (.node (some (IV.str p)) .leaf .leaf) .leaf)) (IS.mk .leaf 0) [] 0)
def qh1(x1:(List qaa))(p:ByteArray × (List ByteArray)):NRes:=(NRes.mk (.node none (.node none .leaf (.node (some (IV.arr 0)) .leaf .leaf)) (.node none (.node (some (IV.str p.1)) .leaf .leaf) .leaf)) (IS.mk (.node (some (IObj.arr TC.str p.2)) .leaf .leaf) 1) [] 0)
def qwu(lf:Nat)(x1:(List qaa))(L3:ByteArray->Option qb5):Option qb5:=(match (cond (S.pk x1) (some ((qae (S.body x1)),())) none) with|none=>none|some v0=>(match (cond (S.inI (Int.ofNat v0.1.size) (Int.ofNat 0) (Int.ofNat 16777215)) (some ((qae (S.two (Int.toNat (Int.ofNat v0.1.size)))),())) none) with|none=>none|some v1=>(cond (Nat.ble (Nat.succ (Nat.add 2 v1.1.size)) 9223372036854775808) (cond (Nat.ble (Nat.succ (Nat.add (ByteArray.size (ByteArray.append (ByteArray.mk (Array.mk (List.cons (UInt8.ofBitVec (BitVec.ofFin (Fin.mk 1 (jc1 (Int.toNat (OfNat.ofNat 1)) (BitVec.ofNat._proof_1 (OfNat.ofNat 8)))))) (List.cons (UInt8.ofBitVec (BitVec.ofFin (Fin.mk (Nat.mod (Int.toNat (IntKind.u8.wrap (Int.fdiv (Int.ofNat v0.1.size) (Int.ofNat 65536)))) 256) (jc1 (Int.toNat (IntKind.u8.wrap (Int.fdiv (Nat.cast v0.1.size) (HPow.hPow (OfNat.ofNat 2) (Min.min (Int.toNat (OfNat.ofNat 16)) (IntKind.bits IntKind.i64)))))) (BitVec.ofNat._proof_1 (OfNat.ofNat 8)))))) [])))) v1.1)) v0.1.size)) 9223372036854775808) (L3 (ByteArray.append (ByteArray.append (ByteArray.mk (Array.mk (List.cons (UInt8.ofBitVec (BitVec.ofFin (Fin.mk 1 (jc1 (Int.toNat (OfNat.ofNat 1)) (BitVec.ofNat._proof_1 (OfNat.ofNat 8)))))) (List.cons (UInt8.ofBitVec (BitVec.ofFin (Fin.mk (Nat.mod (Int.toNat (IntKind.u8.wrap (Int.fdiv (Int.ofNat v0.1.size) (Int.ofNat 65536)))) 256) (jc1 (Int.toNat (IntKind.u8.wrap (Int.fdiv (Nat.cast v0.1.size) (HPow.hPow (OfNat.ofNat 2) (Min.min (Int.toNat (OfNat.ofNat 16)) (IntKind.bits IntKind.i64)))))) (BitVec.ofNat._proof_1 (OfNat.ofNat 8)))))) [])))) v1.1) v0.1)) none) none)))
def qhn(lf:Nat)(x1:(List qaa))(L3:ByteArray->Option qb5)(L6:(ByteArray × (List ByteArray))->Option qb5)(p:ByteArray):Option qb5:=(cond (Bool.not (ieqI (Int.ofNat (Nat.mod p.size 64)) (Int.ofNat 0))) (cond (Nat.ble (Nat.succ (Nat.add p.size 1)) 9223372036854775808) (L3 (ByteArray.append p (S.lit [0]))) none) (L6 (p,[])))
def qht(lf:Nat)(x1:(List qaa))(L6:(ByteArray × (List ByteArray))->Option qb5)(p:ByteArray × (List ByteArray)):Option qb5:=(cond (iltI (Int.ofNat 0) (Int.ofNat p.1.size)) (cond (lchk (Int.ofNat 0) (Int.ofNat 64) (Int.ofNat p.1.size) (Int.ofNat p.1.size)) (cond (Nat.ble (Nat.mul (Nat.add p.2.length 1) 16) 140737488355328) (cond (lchk (Int.ofNat 64) (Int.ofNat p.1.size) (Int.ofNat p.1.size) (Int.ofNat p.1.size)) (L6 ((ByteArray.extract p.1 64 (Int.toNat (Int.ofNat p.1.size))),(List.append p.2 [(ByteArray.extract p.1 0 64)]))) none) none) none) (some (p.2,())))
abbrev gz14:Type:=ElA [(.list qac)]->Option qb5
abbrev sz14(g:gz14):Sm:=⟨[(.list qac)],[(true,.str)],g⟩
abbrev Ez14(g:gz14)(J:JT qb5)(lf:Nat)(x1:(List qaa)):=qbs Tryz.prog ttT.get qjg fi56.nt (qth _ lf) lf qjc J fi56.body [] (qaz (argV [(.list qac)] (x1,())) 0 .leaf) S0 [] (qay ttT.get fi56 (sz14 g))
abbrev Bz14(g:gz14)(J:JT qb5)(lf k:Nat)(ms:List Nat)(q:NRes):=qcb Tryz.prog ttT.get qjg fi56.nt (qth _ lf) lf qjc J k fi56.body [] ms q (qay ttT.get fi56 (sz14 g))
theorem zm2(g:gz14)(J:JT qb5)(lf:Nat)(x1:(List qaa)):Ez14 g J lf x1=qwu lf x1 (fun q=>J 3 [lf] (qiy x1 q)):=by kernel_rfl
theorem zbn(g:gz14)(J:JT qb5)(lf:Nat)(x1:(List qaa))(m1:Nat)(p:ByteArray):Bz14 g J lf 3 [m1] (qiy x1 p)=qhn lf x1 (fun q=>J 3 [m1] (qiy x1 q)) (fun q=>J 6 [lf] (qh1 x1 q)) p:=by kernel_rfl
theorem zlo(g:gz14)(J:JT qb5)(lf:Nat)(x1:(List qaa))(m1:Nat)(p:ByteArray × (List ByteArray)):Bz14 g J lf 6 [m1] (qh1 x1 p)=qht lf x1 (fun q=>J 6 [m1] (qh1 x1 q)) p:=by kernel_rfl
theorem qu1:(regs fi56.body).Nodup:=by decide +kernel
theorem qto:okC qjg qjc qyr fi56.body none=true:=by kernel_rfl
def Az14(g:gz14)(lf:Nat):JT qb5:=atN Tryz.prog ttT.get qjg fi56 (sz14 g) (qth _ lf) lf qyr
def qdu(lf:Nat)(x1:(List qaa)):Nat->(ByteArray × (List ByteArray))->Option qb5:=qa1 fun K p=>qht lf x1 K p
theorem q6j(g:gz14)(lf:Nat)(x1:(List qaa)):∀(n:Nat) (p:ByteArray × (List ByteArray)),Az14 g lf 6 [n] (qh1 x1 p)=qdu lf x1 n p
 | 0,p=>qbq 6 [0] rfl _
 | n+1,p=>by
  have ih:=q6j g lf x1 n;refine(qbp (qa7 20 _) qu1 qto 6 [n+1] [n] rfl _).trans ((zlo g (Az14 g lf) lf x1 n p).trans ?_);rw[(show (fun q=>Az14 g lf 6 [n] (qh1 x1 q))=(fun q=>qdu lf x1 n q) from funext ih)];rfl
def qgo(lf:Nat)(x1:(List qaa)):Nat->(ByteArray)->Option qb5:=qa1 fun K p=>qhn lf x1 K (fun q=>qdu lf x1 lf q) p
theorem q12(g:gz14)(lf:Nat)(x1:(List qaa)):∀(n:Nat) (p:ByteArray),Az14 g lf 3 [n] (qiy x1 p)=qgo lf x1 n p
 | 0,p=>qbq 3 [0] rfl _
 | n+1,p=>by
  have ih:=q12 g lf x1 n;refine(qbp (qa7 20 _) qu1 qto 3 [n+1] [n] rfl _).trans ((zbn g (Az14 g lf) lf x1 n p).trans ?_);rw[(show (fun q=>Az14 g lf 6 [lf] (qh1 x1 q))=(fun q=>qdu lf x1 lf q) from funext fun q=>q6j g lf x1 lf q),(show (fun q=>Az14 g lf 3 [n] (qiy x1 q))=(fun q=>qgo lf x1 n q) from funext ih)];rfl
def Fz14(lf:Nat)(x1:(List qaa)):Option qb5:=qwu lf x1 (fun q=>qgo lf x1 lf q)
theorem zh8(g:gz14)(lf:Nat)(x1:(List qaa)):Ez14 g (Az14 g lf) lf x1=Fz14 lf x1:=by
  refine(zm2 g (Az14 g lf) lf x1).trans ?_;rw[(show (fun q=>Az14 g lf 3 [lf] (qiy x1 q))=(fun q=>qgo lf x1 lf q) from funext fun q=>q12 g lf x1 lf q)];rfl
theorem zk3:qbd Tryz.prog qyn:=trivial
theorem zgx{g:gz14}(hsm:SmOK Tryz.prog q2y)(hg:∀(x:ElA [(.list qac)]) (y:qb5),WfA [(.list qac)] x->g x=some y->∃lf,Fz14 lf x.1=some y):Con Tryz.prog 56 ⟨[(.list qac)],[(true,.str)],g⟩ :=
 conV (st:=qjc) (fun lf x=>Fz14 lf x.1) cm3 zce zk3 qu1 qto (fun lf x=>zh8 g lf x.1) hsm hg
abbrev qou:Type:=ByteArray × Unit
abbrev zat:Nat:=101
def qy0(lf:Nat)(x1:ByteArray):Option qou:=(cond (lchk (Int.ofNat 1) (Int.ofNat x1.size) (Int.ofNat x1.size) (Int.ofNat x1.size)) (cond (Nat.ble (Nat.succ (Nat.add 1 (ByteArray.size (ByteArray.extract x1 1 (Int.toNat (Int.ofNat x1.size)))))) 9223372036854775808) (some ((ByteArray.append (S.lit [0]) (ByteArray.extract x1 1 (Int.toNat (Int.ofNat x1.size)))),())) none) none)
def qm4(lf:Nat)(x1:ByteArray):Option qou:=qy0 lf x1
theorem zsa{g:ElA [.str]->Option qou}(hsm:SmOK Tryz.prog [])(hg:∀(x:ElA [.str]) (y:qou),WfA [.str] x->g x=some y->∃lf,qm4 lf x.1=some y):Con Tryz.prog 101 ⟨[.str],[(false,.str)],g⟩ :=
 conU (fi:=qsb) (hxl:=[]) (fun lf x=>qm4 lf x.1) cm3 zgj trivial hsm hg
abbrev qqu:Type:=zae × Unit
abbrev zou:Nat:=93
def qyp(lf:Nat)(x1:Int)(x2:Int):Option qqu:=(cond (ieqI x2 (Int.ofNat 0)) (some (((Int.ofNat 1),(IntKind.i64.wrap (Int.tdiv x1 (Int.ofNat 2)))),())) (some (((IntKind.i64.wrap (Int.tdiv x1 (Int.ofNat 2))),(IntKind.i64.wrap (Int.sub x1 (Int.ofNat 1)))),())))
def qpm(lf:Nat)(x1:Int)(x2:Int):Option qqu:=qyp lf x1 x2
theorem zh0{g:ElA [(.int .i64),(.int .i64)]->Option qqu}(hsm:SmOK Tryz.prog [])(hg:∀(x:ElA [(.int .i64),(.int .i64)]) (y:qqu),WfA [(.int .i64),(.int .i64)] x->g x=some y->∃lf,qpm lf x.1 x.2.1=some y):Con Tryz.prog 93 ⟨[(.int .i64),(.int .i64)],[(false,q78)],g⟩ :=
 conU (fi:=fi93) (hxl:=[]) (fun lf x=>qpm lf x.1 x.2.1) cm3 zin trivial hsm hg
theorem qjm(n:Int):IntKind.u8.wrap n=n % 256:=by
 unfold IntKind.wrap;simp[IntKind.signed,IntKind.bits]
theorem qv3(n:Int)(h:Nat.mod (Int.toNat n) 256<2 ^ 8):ByteArray.mk (Array.mk (List.cons (UInt8.ofBitVec (BitVec.ofFin (Fin.mk (Nat.mod (Int.toNat n) 256) h))) []))=qae [n]:=rfl
theorem zmc(a b:Int)(h:Nat.mod (Int.toNat a) 256<2 ^ 8)(k:Nat.mod (Int.toNat b) 256<2 ^ 8):ByteArray.mk (Array.mk (List.cons (UInt8.ofBitVec (BitVec.ofFin (Fin.mk (Nat.mod (Int.toNat a) 256) h))) (List.cons (UInt8.ofBitVec (BitVec.ofFin (Fin.mk (Nat.mod (Int.toNat b) 256) k))) [])))=qae [a,b]:=rfl
theorem zp4(b:Int)(h:1<2 ^ 8)(k:Nat.mod (Int.toNat b) 256<2 ^ 8):ByteArray.mk (Array.mk (List.cons (UInt8.ofBitVec (BitVec.ofFin (Fin.mk 1 h))) (List.cons (UInt8.ofBitVec (BitVec.ofFin (Fin.mk (Nat.mod (Int.toNat b) 256) k))) [])))=qae [1,b]:=rfl
theorem qey(a b:List Int):ByteArray.append (qae a) (qae b)=qae (a++b):=by
 show qae a++qae b=_;apply ByteArray.ext;simp[qae]
theorem qrl(s:ByteArray):∃b,rng b/\s=qae b/\s.size=b.length/\qab s=b:=⟨qab s,qdm s,(qe8 s).symm,(qcs s).symm,rfl⟩
theorem q6h{b:List Int}(h:rng b)(n:Nat):ByteArray.extract (qae b) 0 n=qae (b.take n):=by
 refine qfp ?_;rw[q6l,qbt h,qbt (qe0 h n)]
theorem qk8{b:List Int}(h:rng b)(n:Nat):ByteArray.extract (qae b) n b.length=qae (b.drop n):=by
 refine qfp ?_;rw[q3i _ _ _ (by rw[qbi];exact jaq _),qbt h,qbt (qd9 h n)]
theorem zmh(lf:Nat)(n:Int)(h:S.inI n 0 16777215=true):qql lf n=some (qae (S.two n.toNat),()):=by
 obtain⟨h1,h2⟩:=qbm.1 h;obtain⟨k,rfl⟩:∃k:Nat,n=Int.ofNat k:=⟨n.toNat,by show n=((n.toNat:Nat):Int);omega⟩;simp only[qql,q5g,zmc,qjm];refine jav (fun l=>some (qae l,())) ?_;show [Int.fdiv (k:Int) 256 % 256,(k:Int) % 256]=S.two k;unfold S.two;rw[jef _ (by decide)];simp only[jd1,and_true];omega
theorem q3q:Con Tryz.prog zeq qsu:=znk trivial fun x y hx h=>⟨0,by
 obtain⟨h1,h2⟩:=qa8 (show cond (S.inI x.1 0 16777215) (some (qae (S.two (Int.toNat x.1)),())) none=some y from h);exact(zmh 0 x.1 h1).trans (jav some h2)⟩
theorem qtm{l:List qaa}(h:S.pk l=true):S.okC l=true/\l.length<=250:=by
 unfold S.pk at h;rw[jad] at h;exact⟨h.1,jak h.2⟩
theorem qnd:∀{l:List qaa} {last:Int},S.okGo l last=true->∀c∈l,(0<=c.1/\c.1<=199)/\c.2.1.size<=4000/\(c.2.2=true->c.2.1=S.none_)
 | [],_,_,c,hc=>by cases hc
 | a::l,last,h,c,hc=>by
  obtain⟨h1,h2,h3,h4,h5⟩:=qbo.1 h;rcases jau.1 hc with rfl|hc
  ·exact⟨h1,h2,h3⟩
  ·exact qnd h5 c hc
theorem qr9:∀{l:List qaa},(∀c∈l,c.2.1.size<=4000)->(S.body l).length<=4003*l.length
 | [],_=>jb8 _
 | c::l,h=>by
  have h1:=h c (by simp);have h2:=qr9 (l:=l) fun x hx=>h x (by simp[hx]);have h3:cond c.2.2 0 c.2.1.size<=4000:=by
   cases c.2.2
   ·exact h1
   ·exact jb8 _
  rw[qpa,jaf,qpv,jas];omega
theorem qp5{l:List qaa}(h:S.pk l=true):(S.body l).length<=1000750:=by
 obtain⟨h1,h2⟩:=qtm h;have:=qr9 fun c hc=>(qnd h1 c hc).2.1;omega
theorem zgp(l:List qaa)(c:qaa):S.body (l++[c])=S.body l++S.cellB c:=by
 unfold S.body;rw[List.flatMap_append];simp
theorem zos{l:List qaa}(h:S.pk l=true)(i:Nat):(S.body (l.take i)).length<=1000750:=by
 obtain⟨h1,h2⟩:=qtm h;have:=qr9 (l:=l.take i) fun c hc=>(qnd h1 c (jca hc)).2.1;rw[jbc] at this;omega
theorem qeu{n:Nat}(h:n<9223372036854775808):Nat.ble (Nat.succ n) 9223372036854775808=true:=jax h
theorem zal(l:List qaa)(h:S.pk l=true):Fz13 LF l=some (qae (S.body l),()):=by
 obtain⟨hok,hlen⟩:=qtm h;refine(range0 (σ:=ByteArray) (R:=qcy) l (fun i s=>(s,i)) (fun i s=>s=qae (S.body (l.take i))) (fun _ _ _=>some (qae (S.body l),())) (by unfold LF;omega) (fun K s hs=>?_) (fun K i v rest s hs r hk=>?_) (S.lit []) rfl).trans rfl
 ·rw[List.take_length] at hs;simp only[qpw,qch,jah];rw[hs]
 ·obtain⟨⟨v1,v2⟩,v3,v4⟩:=qnd hok v r.mem;have hB:=zos h i;have hnext:qae (S.body (l.take (i+1)))=qae (S.body (l.take i)++S.cellB v):=by rw[r.take,zgp]
  obtain⟨k,s0,g⟩:=v;simp only at v1 v2 v3 v4;have hkw:IntKind.u8.wrap k=k % 256:=qjm k;subst hs;generalize S.body (l.take i)=B at *;have hsB:(qae B).size=B.length:=qbi B;simp only[qpw,r.ilt,r.get,r.next,jab,qv3,hkw,qey,qbi];rw[qeu (n:=Nat.add B.length 1) (by show B.length+1<_;omega),jab];cases g with
  | true =>
   rw[jab,show S.inI (Int.ofNat 0) (Int.ofNat 0) (Int.ofNat 16777215)=true from rfl,jab];simp only;rw[show S.lit [0,0]=qae [0,0] from rfl,qbi,qey,qeu (by simp only[jaf,jas,ja6];show _+2<_;omega),jab];refine hk _ ?_;rw[hnext,jay];rfl
  | false =>
   obtain⟨b,hb1,hb2,hb3,_⟩:=qrl s0;subst hb2;rw[hb3] at v3;have hw:IntKind.i64.wrap (Int.ofNat (Nat.add (qae b).size 1))=Int.ofNat (b.length+1):=by
    rw[hb3];exact qbv (n:=b.length+1) (by omega)
   rw[jah,hw,show S.inI (Int.ofNat (b.length+1)) (Int.ofNat 0) (Int.ofNat 16777215)=true from qbm.2 ⟨jb3 _,by show ((b.length+1:Nat):Int)<=16777215;omega⟩,jab];simp only[qey,qbi];have h2:(S.two (Int.toNat (Int.ofNat (b.length+1)))).length=2:=rfl;rw[qeu (by show _+b.length<_;rw[h2];omega),jab,qeu (by simp only[jaf,jas,ja6,h2];show (_:Nat)+(_:Nat)<_;omega),jab];refine hk _ ?_;rw[hnext];have:S.cellB (k,qae b,false)=[k % 256]++(S.two (Int.toNat (Int.ofNat (b.length+1)))++b):=by
    unfold S.cellB;simp only[jah];rw[hb3,qbt hb1];rfl
   rw[this,jay]
theorem zq7:Con Tryz.prog zao qxf:=zr6 ⟨q3q,trivial⟩ fun x y hx h=>⟨LF,by
 obtain⟨h1,h2⟩:=qa8 (show cond (S.pk x.1) (some (qae (S.body x.1),())) none=some y from h);exact(zal x.1 h1).trans (jav some h2)⟩
def cut:Nat->List Int->List ByteArray
 | 0,_=>[]
 | m+1,b=>qae (b.take 64)::cut m (b.drop 64)
theorem q5z:∀(f:Nat) (b:List Int),b.length<=f->S.chunks f b=cut ((b.length+63) / 64) (b++List.replicate (64*((b.length+63) / 64)-b.length) 0)
 | 0,b,h=>by
  have:b=[]:=ja2.1 (by omega);subst this;rfl
 | f+1,b,h=>by
  by_cases hb:0<b.length
  ·have ih:=q5z f (b.drop 64) (by rw[ja7];omega);rw[ja7] at ih;rw[qf3 f hb,ih,show (b.length+63) / 64=(b.length-64+63) / 64+1 by omega];show _=qae ((b++_).take 64)::cut _ ((b++_).drop 64);by_cases h64:64<=b.length
   ·rw[jdn h64,jd5 h64,show 64-b.length=0 by omega,jfg,jbl,show 64*((b.length-64+63) / 64+1)-b.length=64*((b.length-64+63) / 64)-(b.length-64) by omega]
   ·have e1:b.drop 64=[]:=jct (by omega);rw[show (b.length-64+63) / 64=0 by omega,jbt (by omega:b.length<=64),jbt (by rw[jaf,jbd];omega),show 64*(0+1)-b.length=64-b.length by omega];rfl
  ·have:b=[]:=ja2.1 (by omega);subst this;rfl
theorem q3y(l:List qaa):∀(m f:Nat) (b:List Int) (out:List ByteArray),rng b->b.length=64*m->m<f->out.length+m<=1000000->qdu LF l f (qae b,out)=some (out++cut m b,())
 | 0,f+1,b,out,hr,hb,hf,ho=>by
  have:b=[]:=ja2.1 (by omega);subst this;show qht LF l (qdu LF l f) (qae [],out)=_;simp only[qht];rw[qbi];show some (out,())=some (out++[],());rw[jbl]
 | m+1,f+1,b,out,hr,hb,hf,ho=>by
  show qht LF l (qdu LF l f) _=_;simp only[qht];have l1:lchk (Int.ofNat 0) (Int.ofNat 64) (Int.ofNat b.length) (Int.ofNat b.length)=true:=qb2.2 ⟨jbr _,by decide,by show (64:Int)<=(b.length:Int);omega,jbr _⟩;have l2:lchk (Int.ofNat 64) (Int.ofNat b.length) (Int.ofNat b.length) (Int.ofNat b.length)=true:=qb2.2 ⟨by decide,by show (64:Int)<=(b.length:Int);omega,jbr _,jbr _⟩
  rw[qbi,qep (show Int.ofNat 0<Int.ofNat b.length by show (0:Int)<(b.length:Int);omega),jab,l1,jab,jax (by show (out.length+1)*16<=_;omega),jab,
   l2,jab,q6h hr,show Int.toNat (Int.ofNat b.length)=b.length from rfl,qk8 hr]
  rw[q3y l m f (b.drop 64) _ (qd9 hr 64) (by rw[ja7];omega) (by omega) (by simp only[jel,jaf,jas,ja6];omega)];show some ((out++[_])++cut m _,())=some (out++_::cut m _,());rw[jay];rfl
theorem q3l(l:List qaa):∀(k f:Nat) (b:List Int),k=(64-b.length % 64) % 64->k<f->b.length<=2000000->qgo LF l f (qae b)=qdu LF l LF (qae (b++List.replicate k 0),[])
 | 0,f+1,b,hk,hf,hb=>by
  show qhn LF l (qgo LF l f) (fun q=>qdu LF l LF q) (qae b)=_;simp only[qhn];rw[qbi,qbh (show Int.ofNat (Nat.mod b.length 64)=Int.ofNat 0 from jav Int.ofNat (show b.length % 64=0 by omega))];show qdu LF l LF (qae b,[])=qdu LF l LF (qae (b++[]),[]);rw[jbl]
 | k+1,f+1,b,hk,hf,hb=>by
  show qhn LF l (qgo LF l f) (fun q=>qdu LF l LF q) (qae b)=_;simp only[qhn]
  rw[qbi,qbj (show ¬Int.ofNat (Nat.mod b.length 64)=Int.ofNat 0 from fun e=>by have:=jdo e;have:b.length % 64=0:=this;omega),ja3,jab,qeu (by show b.length+1<_;omega),jab,show S.lit [0]=qae [0] from rfl,qey,
   q3l l k f (b++[0]) (by rw[jaf,jas,ja6];omega) (by omega) (by rw[jaf,jas,ja6];have:b.length<=2000000:=hb;omega),jay]
  rfl
theorem znm(l:List qaa)(h:S.pk l=true):Fz14 LF l=some (S.packed l 1,()):=by
 have hb:=qp5 h;simp only[Fz14,qwu,h,jab,qbi];rw[show S.inI (Int.ofNat (S.body l).length) (Int.ofNat 0) (Int.ofNat 16777215)=true from qbm.2 ⟨jb3 _,by show (((S.body l).length:Nat):Int)<=16777215;omega⟩];simp only[jab,zp4,qjm,qey,qbi];have h2:(S.two (Int.toNat (Int.ofNat (S.body l).length))).length=2:=rfl;rw[qeu (by show 2+_<_;rw[h2];decide),jab,qeu (by simp only[jaf,jas,ja6,h2];show (_:Nat)+(_:Nat)<_;omega),jab];have hrec:[1,Int.fdiv (Int.ofNat (S.body l).length) (Int.ofNat 65536) % 256]++S.two (Int.toNat (Int.ofNat (S.body l).length))++S.body l=S.recB l 1:=by
  unfold S.recB;have:Int.fdiv (Int.ofNat (S.body l).length) (Int.ofNat 65536) % 256=(((S.body l).length / 65536 % 256:Nat):Int):=by
   rw[jef _ (by decide)];show ((S.body l).length:Int) / 65536 % 256=_;omega
  rw[this,jay];rfl
 rw[hrec,q3l l _ LF (S.recB l 1) rfl (by unfold LF;omega) (by rw[qen];omega)];have hl:=qen l 1;have hp:S.packed l 1=_:=q5z (S.recB l 1).length (S.recB l 1) (jaq _);rw[hp,show (64-(S.recB l 1).length % 64) % 64=64*(((S.recB l 1).length+63) / 64)-(S.recB l 1).length by omega];rw[q3y l (((S.recB l 1).length+63) / 64) LF _ [] (qfi (qk5 l (by decide)) (qg0 _)) (by rw[jaf,jbd];omega) (by unfold LF;omega) (by rw[ja6];omega)];rfl
theorem qqt:Con Tryz.prog q97 qmb:=zgx ⟨zq7,q3q,trivial⟩ fun x y hx h=>⟨LF,by
 obtain⟨h1,h2⟩:=qa8 (show cond (S.pk x.1) (some (S.packed x.1 1,())) none=some y from h);exact(znm x.1 h1).trans (jav some h2)⟩
theorem q90(lf:Nat)(s:ByteArray)(h:s.size=64):qm4 lf s=some (qae (0::(qab s).drop 1),()):=by
 obtain⟨b,hb1,rfl,hb3,hb4⟩:=qrl s;rw[hb3] at h;simp only[qm4,qy0];have l1:lchk (Int.ofNat 1) (Int.ofNat b.length) (Int.ofNat b.length) (Int.ofNat b.length)=true:=qb2.2 ⟨by decide,by show (1:Int)<=(b.length:Int);omega,jbr _,jbr _⟩;rw[hb3,hb4,l1,jab,show Int.toNat (Int.ofNat b.length)=b.length from rfl,qk8 hb1,qbi,qeu (by show 1+_<_;rw[ja7];omega),jab,show S.lit [0]=qae [0] from rfl,qey];rfl
theorem q22:Con Tryz.prog zat qu8:=zsa trivial fun x y hx h=>⟨0,by
 obtain⟨h1,h2⟩:=qa8 (show cond (decide (ByteArray.size x.1=64)) (some (qae (0::(qab x.1).drop 1),())) none=some y from h);exact(q90 0 x.1 (jaz h1)).trans (jav some h2)⟩
theorem za4(lf:Nat)(n h:Int)(hn:S.inI n 0 1000=true):qpm lf n h=some (S.half n.toNat h,()):=by
 obtain⟨h1,h2⟩:=qbm.1 hn;have e1:Int.tdiv n (Int.ofNat 2)=((n.toNat / 2:Nat):Int):=by
  rw[Int.tdiv_eq_ediv_of_nonneg h1];show n / 2=_;omega
 simp only[qpm,qyp,e1];rw[wrap_in (n:=((n.toNat / 2:Nat):Int)) (by omega),wrap_in (n:=Int.sub n (Int.ofNat 1)) (by show -9223372036854775808<=n-1/\n-1<9223372036854775808;omega)];unfold S.half;by_cases h0:h=0
 ·rw[qbh (show h=Int.ofNat 0 from h0),jab,jan h0];rfl
 ·rw[qbj (show ¬h=Int.ofNat 0 from h0),jah,jao h0];refine jav (fun z:Int=>some ((_,z),())) ?_;show n-1=(n.toNat:Int)-1;omega
theorem qp1:Con Tryz.prog zou ql2:=zh0 trivial fun x y hx h=>⟨0,by
 obtain⟨h1,h2⟩:=qa8 (show cond (S.inI x.1 0 1000) (some (S.half (Int.toNat x.1) x.2.1,())) none=some y from h);exact(za4 0 x.1 x.2.1 h1).trans (jav some h2)⟩
theorem zdk{l:List ByteArray}{i:Nat}(h:i<l.length)(a:Int):S.puts (a+i) (l.drop i)=S.put (a+i) (l.getD i S.none_)::S.puts (a+((i+1:Nat):Int)) (l.drop (i+1)):=by
 rw[jdj h,jai,jac h];show S.put (a+i) _::S.puts (a+i+1) _=_;rw[show a+(i:Int)+1=a+((i+1:Nat):Int) by omega];rfl
theorem q1h(x1:List DAct)(a:Int)(l:List ByteArray)(ha:S.inI a 0 1000000=true)(hl:l.length<=1000000):∀(k f i:Nat) (out:List DAct),i+k=l.length->k<f->out.length+k<=2000000->qgw LF x1 a l f (Int.ofNat i,out)=some ((),((out++S.puts (a+i) (l.drop i),()),()))
 | 0,f+1,i,out,hi,hf,ho=>by
  show qhe LF x1 a l (qgw LF x1 a l f) _=_;simp only[qhe];rw[qcj,jar (by omega),jah,jct (by omega)];show some ((),((out,()),()))=some ((),((out++[],()),()));rw[jbl]
 | k+1,f+1,i,out,hi,hf,ho=>by
  obtain⟨h1,h2⟩:=qbm.1 ha;show qhe LF x1 a l (qgw LF x1 a l f) _=_;simp only[qhe];rw[qcj,jal (by omega),jab,qt5 (i:=Int.ofNat i) (d:=S.none_) (jb3 i) (by show (i:Int)<(l.length:Int);omega)];simp only
  rw[jax (by show (out.length+1)*32<=_;omega),jab,show IntKind.i64.wrap (Int.add (Int.ofNat i) (Int.ofNat 1))=Int.ofNat (i+1) from qbv (n:=i+1) (by omega),
   show IntKind.i64.wrap (Int.add a (Int.ofNat i))=a+i from wrap_in (by show -_<=a+(i:Int)/\a+(i:Int)<_;omega),
   q1h x1 a l ha hl k f (i+1) _ (by omega) (by omega) (by simp only[jel,jaf,jas,ja6];omega),zdk (l:=l) (i:=i) (by omega) a]
  show some ((),(((out++[_])++_,()),()))=some ((),((out++_::_,()),()));rw[jay];rfl
theorem zap(x1:List DAct)(a:Int)(l:List ByteArray)(ha:S.inI a 0 1000000=true)(hl:l.length<=1000000)(hx:x1.length<=1000000):Fz8 LF x1 a l=some ((),((S.app x1 (S.puts a l),()),())):=by
 simp only[Fz8,qs0];refine(q1h x1 a l ha hl l.length LF 0 x1 (by omega) (by unfold LF;omega) (by omega)).trans ?_;rw[jd7,show a+((0:Nat):Int)=a by omega];rfl
theorem qw2:ConR Tryz.prog idz8 spz8:=mkz8 trivial fun x y hx h=>⟨LF,by
 obtain⟨h1,h2⟩:=qa8 (show cond (S.inI x.2.1 0 1000000&&(Nat.ble x.2.2.1.length 1000000&&Nat.ble (S.lenA x.1.1) 1000000)) (some ((),((S.app x.1.1 (S.puts x.2.1 x.2.2.1),()),()))) none=some y from h);rw[jad,jad] at h1;exact(zap x.1.1 x.2.1 x.2.2.1 h1.1 (jak h1.2.1) (jak h1.2.2)).trans (jav some h2)⟩
theorem znz(x1:List DAct)(hx:x1.length<=4000000):Fz9 LF x1=some ((),((S.app x1 [S.sync],()),())):=by
 simp only[Fz9,qvp];rw[jax (by show (x1.length+1)*32<=_;omega),jab];rfl
theorem qvv:ConR Tryz.prog idz9 spz9:=mkz9 trivial fun x y hx h=>⟨LF,by
 obtain⟨h1,h2⟩:=qa8 (show cond (Nat.ble (S.lenA x.1.1) 4000000) (some ((),((S.app x.1.1 [S.sync],()),()))) none=some y from h);exact(znz x.1.1 (jak h1)).trans (jav some h2)⟩
end Go.Proofs.YtnhmanoiolfapaaGreat
end

section
namespace Go.Jx
open Go Go.Sx Go.RowKit
end Go.Jx
end

section
namespace Go.Jx
open Go Go.Sx Go.RowKit
def omap{α β:Type}(f:α->β):Option α->Option β
 | none=>none
 | some a=>some (f a)
def hxG(a:Hx):Hx:=⟨fun cl vs S=>omap (igc S) (a.f cl vs S),fun clP R vs S kk=>a.k clP R vs S fun r=>kk (igc S r),fun cl clP h R vs S kk=>by
 rw[a.eq cl clP h R vs S];cases a.f cl vs S<;>rfl⟩
theorem zau{P:Program}{f:Nat}{a:Hx}(ha:HxOK P f a.f):HxOK P f (hxG a).f:=by
 have inv:∀{cl vs S r},(hxG a).f cl vs S=some r->∃q,a.f cl vs S=some q/\r=igc S q:=by
  intro cl vs S r hr;have hr:omap (igc S) (a.f cl vs S)=some r:=hr;cases hq:a.f cl vs S with
  | none=>rw[hq] at hr;cases hr
  | some q=>rw[hq] at hr;cases hr;exact⟨q,rfl,rfl⟩
 refine⟨fun cl h1 h2 h3 vs S r hr T E us p hrd hwr hv=>?_,fun cl h1 vs S r hr=>?_,fun cl h1 vs S r hr hw hl=>?_⟩
 ·obtain⟨q,hq,rfl⟩:=inv hr;obtain⟨T',p',t1,t2,hback⟩:=q88 p hrd hwr;obtain⟨c1,c2⟩:=ha.fn cl h1 h2 h3 vs S q hq T' E us p' t1 t2 hv;exact⟨c1,c2.mono fun e w h=>hback e w h⟩
 ·obtain⟨q,hq,rfl⟩:=inv hr;exact q5b (ha.fr cl h1 vs S q hq)
 ·obtain⟨q,hq,rfl⟩:=inv hr;exact qy7 hw hl
end Go.Jx
end

noncomputable section
set_option maxRecDepth 100000
namespace Go.Proofs.YtnhmanoiolfapaaGreat
open Go Go.Sx Go.RowKit Go.Jx
def q5a:List (Nat × Hx):=[(55,hxR spz9),(53,hxG (hxR spz8))]
abbrev qqq:Type:=(List DAct) × Bool × Unit
abbrev zoo:Nat:=88
def q1c(lf:Nat)(x1:qad):Option qqq:=(match (cond (S.pk x1.2.2.2) (some ((S.packed x1.2.2.2 (Int.ofNat 1)),())) none) with|none=>none|some v0=>(match (cond (S.inI (Int.ofNat x1.1.1.length) (Int.ofNat 0) (Int.ofNat 1000)) (some ((S.half (Int.toNat (Int.ofNat x1.1.1.length)) (IntKind.i64.wrap (Int.sub (Int.ofNat 1) x1.2.1))),())) none) with|none=>none|some v1=>(cond (iltI (IntKind.i64.wrap (Int.sub v1.1.2 v1.1.1)) (Int.ofNat v0.1.length)) (some ([],(false,()))) (match (cond (S.inI (IntKind.i64.wrap (Int.sub v1.1.2 v1.1.1)) (Int.ofNat 0) (Int.ofNat 1000)) (some ((List.replicate (Int.toNat (IntKind.i64.wrap (Int.sub v1.1.2 v1.1.1))) (S.lit [0,0,0,0,0,0,0,0,0,0,0,0,0,0,0,0,0,0,0,0,0,0,0,0,0,0,0,0,0,0,0,0,0,0,0,0,0,0,0,0,0,0,0,0,0,0,0,0,0,0,0,0,0,0,0,0,0,0,0,0,0,0,0,0])),())) none) with|none=>none|some v2=>(match (cond (Bool.and (S.inI v1.1.1 (Int.ofNat 0) (Int.ofNat 1000000)) (Bool.and (Nat.ble v2.1.length 1000000) true)) (some ((),(((S.app [] (S.puts v1.1.1 v2.1)),()),()))) none) with|none=>none|some v3=>(match (cond (Nat.ble (S.lenA v3.2.1.1) 4000000) (some ((),(((S.app v3.2.1.1 [S.sync]),()),()))) none) with|none=>none|some v4=>(match (jget v0.1 (Int.ofNat 0)) with|none=>none|some v5=>(match (GetElem?.getElem? v0.1 0) with|none=>none|some v6=>(match (cond (Decidable.decide (Eq v6.size 64)) (some ((qae (List.cons (Int.ofNat 0) (List.drop 1 (qab v6)))),())) none) with|none=>none|some v7=>(match (cond (Bool.and (S.inI v1.1.1 (Int.ofNat 0) (Int.ofNat 1000000)) (Nat.ble (S.lenA v4.2.1.1) 1000000)) (some ((),(((S.app v4.2.1.1 (S.puts v1.1.1 [v7.1])),()),()))) none) with|none=>none|some v8=>(cond (lchk (Int.ofNat 1) (Int.ofNat v0.1.length) (Int.ofNat v0.1.length) (Int.ofNat v0.1.length)) (match (cond (Bool.and (S.inI (IntKind.i64.wrap (Int.add v1.1.1 (Int.ofNat 1))) (Int.ofNat 0) (Int.ofNat 1000000)) (Bool.and (Nat.ble (List.length (lsub v0.1 (Int.ofNat 1) (Int.ofNat v0.1.length))) 1000000) (Nat.ble (S.lenA v8.2.1.1) 1000000))) (some ((),(((S.app v8.2.1.1 (S.puts (IntKind.i64.wrap (Int.add v1.1.1 (Int.ofNat 1))) (lsub v0.1 (Int.ofNat 1) (Int.ofNat v0.1.length)))),()),()))) none) with|none=>none|some v9=>(match (cond (Nat.ble (S.lenA v9.2.1.1) 4000000) (some ((),(((S.app v9.2.1.1 [S.sync]),()),()))) none) with|none=>none|some v10=>(match (jget v0.1 (Int.ofNat 0)) with|none=>none|some v11=>(match (cond (Bool.and (S.inI v1.1.1 (Int.ofNat 0) (Int.ofNat 1000000)) (Nat.ble (S.lenA v10.2.1.1) 1000000)) (some ((),(((S.app v10.2.1.1 (S.puts v1.1.1 [v11])),()),()))) none) with|none=>none|some v12=>(match (cond (Nat.ble (S.lenA v12.2.1.1) 4000000) (some ((),(((S.app v12.2.1.1 [S.sync]),()),()))) none) with|none=>none|some v13=>(match (cond (Bool.and (S.inI (Int.ofNat 0) (Int.ofNat 0) (Int.ofNat 1000000)) (Nat.ble (S.lenA v13.2.1.1) 1000000)) (some ((),(((S.app v13.2.1.1 (S.puts (Int.ofNat 0) (List.cons (ByteArray.append (ByteArray.mk (Array.mk (List.cons (UInt8.ofBitVec (BitVec.ofFin (Fin.mk (Nat.mod (Int.toNat (IntKind.u8.wrap (IntKind.i64.wrap (Int.sub (Int.ofNat 1) x1.2.1)))) 256) (jc1 (Int.toNat (IntKind.u8.wrap (IntKind.i64.wrap (HSub.hSub (OfNat.ofNat 1) (x1,()).1.2.1)))) (BitVec.ofNat._proof_1 (OfNat.ofNat 8)))))) []))) (S.lit [0,0,0,0,0,0,0,0,0,0,0,0,0,0,0,0,0,0,0,0,0,0,0,0,0,0,0,0,0,0,0,0,0,0,0,0,0,0,0,0,0,0,0,0,0,0,0,0,0,0,0,0,0,0,0,0,0,0,0,0,0,0,0])) []))),()),()))) none) with|none=>none|some v14=>(match (cond (Nat.ble (S.lenA v14.2.1.1) 4000000) (some ((),(((S.app v14.2.1.1 [S.sync]),()),()))) none) with|none=>none|some v15=>(some (v15.2.1.1,(true,())))))))))) none)))))))))))
def qo3(lf:Nat)(x1:qad):Option qqq:=q1c lf x1
theorem zc7(hrz9:ConR Tryz.prog 55 spz9):qbd Tryz.prog q5a:=⟨qfg hrz9,⟨zau (qfg qw2),trivial⟩⟩
theorem zrc{g:ElA [qag]->Option qqq}(hsm:SmOK Tryz.prog [(56,qmb),(93,ql2),(101,qu8),(54,q39),(76,qi0)])(hrz9:ConR Tryz.prog 55 spz9)(hg:∀(x:ElA [qag]) (y:qqq),WfA [qag] x->g x=some y->∃lf,qo3 lf x.1=some y):Con Tryz.prog 88 ⟨[qag],[(true,cAct),(false,.bool)],g⟩ :=
 conU (fi:=fi88) (hxl:=q5a) (fun lf x=>qo3 lf x.1) cm3 q98 (zc7 hrz9) hsm hg
def qi6:Nat->Option Nm:=fun k=>cond (Nat.beq k 4) (some ⟨[0,1,5],[],[],[],[],0,0,false⟩) (none)
def qji:Nat->Bool:=fun k=>cond (Nat.beq k 4) true (false)
def qxu:=qji
abbrev qdj:Type:=Bool × Unit
def q0m:List (Nat × Sm):=[]
def q2n:List (Nat × Hx):=[]
def qwj(R:Type)(lf:Nat):ClK R:=qa3 Tryz.prog ttT.get ftT.get (nm1 50 qi6) (smL q0m) (hxL q2n) lf 20 R
abbrev zpf:Nat:=50
def qhr(x1:(List qaa))(x2:(List qaa))(p:Int):NRes:=(NRes.mk (.node (some (IV.lst qac x1)) (.node (some (IV.lst qac x2)) .leaf (.node (some (IV.int .i64 p)) .leaf .leaf)) .leaf) (IS.mk .leaf 0) [] 0)
def qvl(lf:Nat)(x1:(List qaa))(x2:(List qaa))(L4:Int->Option qdj):Option qdj:=(cond (Bool.not (ieqI (Int.ofNat x1.length) (Int.ofNat x2.length))) (some (false,())) (L4 (Int.ofNat 0)))
def qmq(lf:Nat)(x1:(List qaa))(x2:(List qaa))(L4:Int->Option qdj)(p:Int):Option qdj:=(cond (iltI p (Int.ofNat x1.length)) (match (jget x1 p) with|none=>none|some v0=>(match (jget x2 p) with|none=>none|some v1=>(cond (Bool.not (Bool.and (keqI v0.1 v1.1) (Bool.and (keqS v0.2.1 v1.2.1) (Bool.and (keqB v0.2.2 v1.2.2) true)))) (some (false,())) (L4 (IntKind.i64.wrap (Int.add p (Int.ofNat 1))))))) (some (true,())))
abbrev gz15:Type:=ElA [(.list qac),(.list qac)]->Option qdj
abbrev sz15(g:gz15):Sm:=⟨[(.list qac),(.list qac)],[(false,.bool)],g⟩
abbrev Ez15(g:gz15)(J:JT qdj)(lf:Nat)(x1:(List qaa))(x2:(List qaa)):=qbs Tryz.prog ttT.get qi6 fi50.nt (qwj _ lf) lf qji J fi50.body [] (qaz (argV [(.list qac),(.list qac)] (x1,x2,())) 0 .leaf) S0 [] (qay ttT.get fi50 (sz15 g))
abbrev Bz15(g:gz15)(J:JT qdj)(lf k:Nat)(ms:List Nat)(q:NRes):=qcb Tryz.prog ttT.get qi6 fi50.nt (qwj _ lf) lf qji J k fi50.body [] ms q (qay ttT.get fi50 (sz15 g))
theorem zfg(g:gz15)(J:JT qdj)(lf:Nat)(x1:(List qaa))(x2:(List qaa)):Ez15 g J lf x1 x2=qvl lf x1 x2 (fun q=>J 4 [lf] (qhr x1 x2 q)):=by kernel_rfl
theorem zpr(g:gz15)(J:JT qdj)(lf:Nat)(x1:(List qaa))(x2:(List qaa))(m1:Nat)(p:Int):Bz15 g J lf 4 [m1] (qhr x1 x2 p)=qmq lf x1 x2 (fun q=>J 4 [m1] (qhr x1 x2 q)) p:=by kernel_rfl
theorem qxe:(regs fi50.body).Nodup:=by decide +kernel
theorem q60:okC qi6 qji qxu fi50.body none=true:=by kernel_rfl
def Az15(g:gz15)(lf:Nat):JT qdj:=atN Tryz.prog ttT.get qi6 fi50 (sz15 g) (qwj _ lf) lf qxu
def qmz(lf:Nat)(x1:(List qaa))(x2:(List qaa)):Nat->(Int)->Option qdj:=qa1 fun K p=>qmq lf x1 x2 K p
theorem q4i(g:gz15)(lf:Nat)(x1:(List qaa))(x2:(List qaa)):∀(n:Nat) (p:Int),Az15 g lf 4 [n] (qhr x1 x2 p)=qmz lf x1 x2 n p
 | 0,p=>qbq 4 [0] rfl _
 | n+1,p=>by
  have ih:=q4i g lf x1 x2 n;refine(qbp (qa7 20 _) qxe q60 4 [n+1] [n] rfl _).trans ((zpr g (Az15 g lf) lf x1 x2 n p).trans ?_);rw[(show (fun q=>Az15 g lf 4 [n] (qhr x1 x2 q))=(fun q=>qmz lf x1 x2 n q) from funext ih)];rfl
def Fz15(lf:Nat)(x1:(List qaa))(x2:(List qaa)):Option qdj:=qvl lf x1 x2 (fun q=>qmz lf x1 x2 lf q)
theorem zjc(g:gz15)(lf:Nat)(x1:(List qaa))(x2:(List qaa)):Ez15 g (Az15 g lf) lf x1 x2=Fz15 lf x1 x2:=by
  refine(zfg g (Az15 g lf) lf x1 x2).trans ?_;rw[(show (fun q=>Az15 g lf 4 [lf] (qhr x1 x2 q))=(fun q=>qmz lf x1 x2 lf q) from funext fun q=>q4i g lf x1 x2 lf q)];rfl
theorem zfj:qbd Tryz.prog q2n:=trivial
theorem zg6{g:gz15}(hsm:SmOK Tryz.prog q0m)(hg:∀(x:ElA [(.list qac),(.list qac)]) (y:qdj),WfA [(.list qac),(.list qac)] x->g x=some y->∃lf,Fz15 lf x.1 x.2.1=some y):Con Tryz.prog 50 ⟨[(.list qac),(.list qac)],[(false,.bool)],g⟩ :=
 conV (st:=qji) (fun lf x=>Fz15 lf x.1 x.2.1) cm3 zmb zfj qxe q60 (fun lf x=>zjc g lf x.1 x.2.1) hsm hg
def qlo:Nat->Option Nm:=fun k=>cond (Nat.beq k 2) (some ⟨[0,4],[(4,qac)],[],[],[],0,0,false⟩) (none)
def qjd:Nat->Bool:=fun k=>cond (Nat.beq k 2) true (false)
def q3c:=qjd
abbrev qc9:Type:=(List qaa) × Bool × Unit
def q08:List (Nat × Sm):=[]
def q6d:List (Nat × Hx):=[]
def qrn(R:Type)(lf:Nat):ClK R:=qa3 Tryz.prog ttT.get ftT.get (nm1 121 qlo) (smL q08) (hxL q6d) lf 20 R
abbrev znb:Nat:=121
def qic(x1:ByteArray)(p:ByteArray × (List qaa)):NRes:=(NRes.mk (.node (some (IV.str p.1)) .leaf (.node none (.node (some (IV.arr 0)) .leaf .leaf) .leaf)) (IS.mk (.node (some (IObj.arr qac p.2)) .leaf .leaf) 1) [] 0)
def qrw(lf:Nat)(x1:ByteArray)(L2:(ByteArray × (List qaa))->Option qc9):Option qc9:=(L2 (x1,[]))
def qm3(lf:Nat)(x1:ByteArray)(L2:(ByteArray × (List qaa))->Option qc9)(p:ByteArray × (List qaa)):Option qc9:=(cond (iltI (Int.ofNat 0) (Int.ofNat p.1.size)) (cond (iltI (Int.ofNat p.1.size) (Int.ofNat 3)) (some ([],(false,()))) (match (jget (qab p.1) (Int.ofNat 0)) with|none=>none|some v0=>(match (jget (qab p.1) (Int.ofNat 1)) with|none=>none|some v1=>(match (jget (qab p.1) (Int.ofNat 2)) with|none=>none|some v2=>(cond (lchk (Int.ofNat 3) (Int.ofNat p.1.size) (Int.ofNat p.1.size) (Int.ofNat p.1.size)) (cond (iltI (Int.ofNat 199) (IntKind.i64.wrap v0)) (some ([],(false,()))) (cond (iltI (Int.ofNat 0) (Int.ofNat p.2.length)) (match (jget p.2 (IntKind.i64.wrap (Int.sub (Int.ofNat p.2.length) (Int.ofNat 1)))) with|none=>none|some v3=>(match (GetElem?.getElem? p.2 (Int.toNat (IntKind.i64.wrap (Int.sub (Int.ofNat p.2.length) (Int.ofNat 1))))) with|none=>none|some v4=>(cond (Bool.not (iltI v4.1 (IntKind.i64.wrap v0))) (some ([],(false,()))) (cond (iltI (IntKind.i64.wrap (Int.ofNat (Nat.add (ByteArray.size (ByteArray.extract p.1 3 (Int.toNat (Int.ofNat p.1.size)))) 1))) (IntKind.i64.wrap (Int.add (IntKind.i64.wrap (Int.mul (IntKind.i64.wrap v1) (Int.ofNat 256))) (IntKind.i64.wrap v2)))) (some ([],(false,()))) (cond (iltI (Int.ofNat 4001) (IntKind.i64.wrap (Int.add (IntKind.i64.wrap (Int.mul (IntKind.i64.wrap v1) (Int.ofNat 256))) (IntKind.i64.wrap v2)))) (some ([],(false,()))) (cond (ieqI (IntKind.i64.wrap (Int.add (IntKind.i64.wrap (Int.mul (IntKind.i64.wrap v1) (Int.ofNat 256))) (IntKind.i64.wrap v2))) (Int.ofNat 0)) (cond (Nat.ble (Nat.mul (Nat.add p.2.length 1) 32) 140737488355328) (L2 ((ByteArray.extract p.1 3 (Int.toNat (Int.ofNat p.1.size))),(List.append p.2 (List.cons ((IntKind.i64.wrap v0),((S.lit []),true)) [])))) none) (cond (lchk (Int.ofNat 0) (IntKind.i64.wrap (Int.sub (IntKind.i64.wrap (Int.add (IntKind.i64.wrap (Int.mul (IntKind.i64.wrap v1) (Int.ofNat 256))) (IntKind.i64.wrap v2))) (Int.ofNat 1))) (Int.ofNat (ByteArray.size (ByteArray.extract p.1 3 (Int.toNat (Int.ofNat p.1.size))))) (Int.ofNat (ByteArray.size (ByteArray.extract p.1 3 (Int.toNat (Int.ofNat p.1.size)))))) (cond (lchk (IntKind.i64.wrap (Int.sub (IntKind.i64.wrap (Int.add (IntKind.i64.wrap (Int.mul (IntKind.i64.wrap v1) (Int.ofNat 256))) (IntKind.i64.wrap v2))) (Int.ofNat 1))) (Int.ofNat (ByteArray.size (ByteArray.extract p.1 3 (Int.toNat (Int.ofNat p.1.size))))) (Int.ofNat (ByteArray.size (ByteArray.extract p.1 3 (Int.toNat (Int.ofNat p.1.size))))) (Int.ofNat (ByteArray.size (ByteArray.extract p.1 3 (Int.toNat (Int.ofNat p.1.size)))))) (cond (Nat.ble (Nat.mul (Nat.add p.2.length 1) 32) 140737488355328) (L2 ((ByteArray.extract (ByteArray.extract p.1 3 (Int.toNat (Int.ofNat p.1.size))) (Int.toNat (IntKind.i64.wrap (Int.sub (IntKind.i64.wrap (Int.add (IntKind.i64.wrap (Int.mul (IntKind.i64.wrap v1) (Int.ofNat 256))) (IntKind.i64.wrap v2))) (Int.ofNat 1)))) (Int.toNat (Int.ofNat (ByteArray.size (ByteArray.extract p.1 3 (Int.toNat (Int.ofNat p.1.size))))))),(List.append p.2 (List.cons ((IntKind.i64.wrap v0),((ByteArray.extract (ByteArray.extract p.1 3 (Int.toNat (Int.ofNat p.1.size))) 0 (Int.toNat (IntKind.i64.wrap (Int.sub (IntKind.i64.wrap (Int.add (IntKind.i64.wrap (Int.mul (IntKind.i64.wrap v1) (Int.ofNat 256))) (IntKind.i64.wrap v2))) (Int.ofNat 1))))),false)) [])))) none) none) none))))))) (cond (iltI (IntKind.i64.wrap (Int.ofNat (Nat.add (ByteArray.size (ByteArray.extract p.1 3 (Int.toNat (Int.ofNat p.1.size)))) 1))) (IntKind.i64.wrap (Int.add (IntKind.i64.wrap (Int.mul (IntKind.i64.wrap v1) (Int.ofNat 256))) (IntKind.i64.wrap v2)))) (some ([],(false,()))) (cond (iltI (Int.ofNat 4001) (IntKind.i64.wrap (Int.add (IntKind.i64.wrap (Int.mul (IntKind.i64.wrap v1) (Int.ofNat 256))) (IntKind.i64.wrap v2)))) (some ([],(false,()))) (cond (ieqI (IntKind.i64.wrap (Int.add (IntKind.i64.wrap (Int.mul (IntKind.i64.wrap v1) (Int.ofNat 256))) (IntKind.i64.wrap v2))) (Int.ofNat 0)) (cond (Nat.ble (Nat.mul (Nat.add p.2.length 1) 32) 140737488355328) (L2 ((ByteArray.extract p.1 3 (Int.toNat (Int.ofNat p.1.size))),(List.append p.2 (List.cons ((IntKind.i64.wrap v0),((S.lit []),true)) [])))) none) (cond (lchk (Int.ofNat 0) (IntKind.i64.wrap (Int.sub (IntKind.i64.wrap (Int.add (IntKind.i64.wrap (Int.mul (IntKind.i64.wrap v1) (Int.ofNat 256))) (IntKind.i64.wrap v2))) (Int.ofNat 1))) (Int.ofNat (ByteArray.size (ByteArray.extract p.1 3 (Int.toNat (Int.ofNat p.1.size))))) (Int.ofNat (ByteArray.size (ByteArray.extract p.1 3 (Int.toNat (Int.ofNat p.1.size)))))) (cond (lchk (IntKind.i64.wrap (Int.sub (IntKind.i64.wrap (Int.add (IntKind.i64.wrap (Int.mul (IntKind.i64.wrap v1) (Int.ofNat 256))) (IntKind.i64.wrap v2))) (Int.ofNat 1))) (Int.ofNat (ByteArray.size (ByteArray.extract p.1 3 (Int.toNat (Int.ofNat p.1.size))))) (Int.ofNat (ByteArray.size (ByteArray.extract p.1 3 (Int.toNat (Int.ofNat p.1.size))))) (Int.ofNat (ByteArray.size (ByteArray.extract p.1 3 (Int.toNat (Int.ofNat p.1.size)))))) (cond (Nat.ble (Nat.mul (Nat.add p.2.length 1) 32) 140737488355328) (L2 ((ByteArray.extract (ByteArray.extract p.1 3 (Int.toNat (Int.ofNat p.1.size))) (Int.toNat (IntKind.i64.wrap (Int.sub (IntKind.i64.wrap (Int.add (IntKind.i64.wrap (Int.mul (IntKind.i64.wrap v1) (Int.ofNat 256))) (IntKind.i64.wrap v2))) (Int.ofNat 1)))) (Int.toNat (Int.ofNat (ByteArray.size (ByteArray.extract p.1 3 (Int.toNat (Int.ofNat p.1.size))))))),(List.append p.2 (List.cons ((IntKind.i64.wrap v0),((ByteArray.extract (ByteArray.extract p.1 3 (Int.toNat (Int.ofNat p.1.size))) 0 (Int.toNat (IntKind.i64.wrap (Int.sub (IntKind.i64.wrap (Int.add (IntKind.i64.wrap (Int.mul (IntKind.i64.wrap v1) (Int.ofNat 256))) (IntKind.i64.wrap v2))) (Int.ofNat 1))))),false)) [])))) none) none) none)))))) none))))) (some (p.2,(true,()))))
abbrev gz16:Type:=ElA [.str]->Option qc9
abbrev sz16(g:gz16):Sm:=⟨[.str],[(true,qac),(false,.bool)],g⟩
abbrev Ez16(g:gz16)(J:JT qc9)(lf:Nat)(x1:ByteArray):=qbs Tryz.prog ttT.get qlo qd2.nt (qrn _ lf) lf qjd J qd2.body [] (qaz (argV [.str] (x1,())) 0 .leaf) S0 [] (qay ttT.get qd2 (sz16 g))
abbrev Bz16(g:gz16)(J:JT qc9)(lf k:Nat)(ms:List Nat)(q:NRes):=qcb Tryz.prog ttT.get qlo qd2.nt (qrn _ lf) lf qjd J k qd2.body [] ms q (qay ttT.get qd2 (sz16 g))
theorem zii(g:gz16)(J:JT qc9)(lf:Nat)(x1:ByteArray):Ez16 g J lf x1=qrw lf x1 (fun q=>J 2 [lf] (qic x1 q)):=by kernel_rfl
theorem zqm(g:gz16)(J:JT qc9)(lf:Nat)(x1:ByteArray)(m1:Nat)(p:ByteArray × (List qaa)):Bz16 g J lf 2 [m1] (qic x1 p)=qm3 lf x1 (fun q=>J 2 [m1] (qic x1 q)) p:=by kernel_rfl
theorem q9f:(regs qd2.body).Nodup:=by decide +kernel
theorem q3w:okC qlo qjd q3c qd2.body none=true:=by kernel_rfl
def Az16(g:gz16)(lf:Nat):JT qc9:=atN Tryz.prog ttT.get qlo qd2 (sz16 g) (qrn _ lf) lf q3c
def qhf(lf:Nat)(x1:ByteArray):Nat->(ByteArray × (List qaa))->Option qc9:=qa1 fun K p=>qm3 lf x1 K p
theorem qxt(g:gz16)(lf:Nat)(x1:ByteArray):∀(n:Nat) (p:ByteArray × (List qaa)),Az16 g lf 2 [n] (qic x1 p)=qhf lf x1 n p
 | 0,p=>qbq 2 [0] rfl _
 | n+1,p=>by
  have ih:=qxt g lf x1 n;refine(qbp (qa7 20 _) q9f q3w 2 [n+1] [n] rfl _).trans ((zqm g (Az16 g lf) lf x1 n p).trans ?_);rw[(show (fun q=>Az16 g lf 2 [n] (qic x1 q))=(fun q=>qhf lf x1 n q) from funext ih)];rfl
def Fz16(lf:Nat)(x1:ByteArray):Option qc9:=qrw lf x1 (fun q=>qhf lf x1 lf q)
theorem zkw(g:gz16)(lf:Nat)(x1:ByteArray):Ez16 g (Az16 g lf) lf x1=Fz16 lf x1:=by
  refine(zii g (Az16 g lf) lf x1).trans ?_;rw[(show (fun q=>Az16 g lf 2 [lf] (qic x1 q))=(fun q=>qhf lf x1 lf q) from funext fun q=>qxt g lf x1 lf q)];rfl
theorem zio:qbd Tryz.prog q6d:=trivial
theorem q9z{g:gz16}(hsm:SmOK Tryz.prog q08)(hg:∀(x:ElA [.str]) (y:qc9),WfA [.str] x->g x=some y->∃lf,Fz16 lf x.1=some y):Con Tryz.prog 121 ⟨[.str],[(true,qac),(false,.bool)],g⟩ :=
 conV (st:=qjd) (fun lf x=>Fz16 lf x.1) cm3 zhp zio q9f q3w (fun lf x=>zkw g lf x.1) hsm hg
def qki:Nat->Option Nm:=fun k=>cond (Nat.beq k 8) (some ⟨[2,4,5,6,46,47,48],[],[],[],[],0,0,false⟩) (cond (Nat.beq k 14) (some ⟨[2,5,6,9,10,11],[(9,qac)],[],[],[],0,0,false⟩) (none))
def qlf:Nat->Bool:=fun k=>cond (Nat.beq k 8) true (cond (Nat.beq k 14) true (false))
def q41:=qlf
abbrev qbx:Type:=qfs × Unit
def qzc:List (Nat × Sm):=[(121,q5v)]
def q4f:List (Nat × Hx):=[]
def qvx(R:Type)(lf:Nat):ClK R:=qa3 Tryz.prog ttT.get ftT.get (nm1 112 qki) (smL qzc) (hxL q4f) lf 20 R
abbrev zeh:Nat:=112
def qix(x1:(List ByteArray))(p:Int × Int × ByteArray):NRes:=(NRes.mk (.node none (.node none (.node none (.node none (.node none .leaf (.node (some (IV.int .i64 (Int.ofNat (List.length (lsub x1 (Int.ofNat 0) (IntKind.i64.wrap (Int.tdiv (IntKind.i64.wrap (Int.sub (IntKind.i64.wrap (Int.add (IntKind.i64.wrap (Int.add p.1 (Int.ofNat 4))) (Int.ofNat 64))) (Int.ofNat 1))) (Int.ofNat 64)))))))) .leaf .leaf)) .leaf) .leaf) (.node (some (IV.int .i64 (IntKind.i64.wrap (Int.tdiv (IntKind.i64.wrap (Int.sub (IntKind.i64.wrap (Int.add (IntKind.i64.wrap (Int.add p.1 (Int.ofNat 4))) (Int.ofNat 64))) (Int.ofNat 1))) (Int.ofNat 64))))) .leaf .leaf)) (.node (some (IV.ptr 0 0)) (.node (some (IV.int .i64 p.1)) (.node none (.node none .leaf (.node (some (IV.int .i64 p.2.1)) .leaf .leaf)) .leaf) .leaf) (.node (some (IV.str p.2.2)) .leaf (.node none .leaf (.node none (.node (some (IV.lst TC.str (lsub x1 (Int.ofNat 0) (IntKind.i64.wrap (Int.tdiv (IntKind.i64.wrap (Int.sub (IntKind.i64.wrap (Int.add (IntKind.i64.wrap (Int.add p.1 (Int.ofNat 4))) (Int.ofNat 64))) (Int.ofNat 1))) (Int.ofNat 64)))))) .leaf .leaf) .leaf))))) (IS.mk (.node (some (IObj.row (List.cons IV.nilsl (List.cons (IV.int .i64 (Int.ofNat 0)) [(IV.bool false)])))) .leaf .leaf) 1) [] 0)
def qh8(x1:(List ByteArray))(p:(List qaa) × Bool × Int × Int × ByteArray):NRes:=(NRes.mk (.node none (.node none (.node none .leaf (.node (some (IV.int .i64 p.2.2.1)) .leaf .leaf)) (.node (some (IV.int .i64 p.2.2.2.1)) (.node (some (IV.arr 1)) .leaf .leaf) .leaf)) (.node (some (IV.ptr 0 0)) .leaf (.node (some (IV.str p.2.2.2.2)) (.node (some (IV.bool p.2.1)) .leaf .leaf) .leaf))) (IS.mk (.node (some (IObj.row (List.cons IV.nilsl (List.cons (IV.int .i64 (Int.ofNat 0)) [(IV.bool false)])))) (.node (some (IObj.arr qac p.1)) .leaf .leaf) .leaf) 2) [] 0)
def qu9(lf:Nat)(x1:(List ByteArray))(L8:(Int × Int × ByteArray)->Option qbx):Option qbx:=(match (jget x1 (Int.ofNat 0)) with|none=>none|some v0=>(match (jget (qab v0) (Int.ofNat 1)) with|none=>none|some v1=>(match (jget (qab v0) (Int.ofNat 2)) with|none=>none|some v2=>(match (jget (qab v0) (Int.ofNat 3)) with|none=>none|some v3=>(match (jget (qab v0) (Int.ofNat 0)) with|none=>none|some v4=>(cond (Bool.not (ieqI v4 (Int.ofNat 1))) (some (([],((Int.ofNat 0),true)),())) (cond (iltI (Int.ofNat x1.length) (IntKind.i64.wrap (Int.tdiv (IntKind.i64.wrap (Int.sub (IntKind.i64.wrap (Int.add (IntKind.i64.wrap (Int.add (IntKind.i64.wrap (Int.add (IntKind.i64.wrap (Int.add (IntKind.i64.wrap (Int.mul (IntKind.i64.wrap v1) (Int.ofNat 65536))) (IntKind.i64.wrap (Int.mul (IntKind.i64.wrap v2) (Int.ofNat 256))))) (IntKind.i64.wrap v3))) (Int.ofNat 4))) (Int.ofNat 64))) (Int.ofNat 1))) (Int.ofNat 64)))) (some (([],((Int.ofNat 0),true)),())) (cond (lchk (Int.ofNat 0) (IntKind.i64.wrap (Int.tdiv (IntKind.i64.wrap (Int.sub (IntKind.i64.wrap (Int.add (IntKind.i64.wrap (Int.add (IntKind.i64.wrap (Int.add (IntKind.i64.wrap (Int.add (IntKind.i64.wrap (Int.mul (IntKind.i64.wrap v1) (Int.ofNat 65536))) (IntKind.i64.wrap (Int.mul (IntKind.i64.wrap v2) (Int.ofNat 256))))) (IntKind.i64.wrap v3))) (Int.ofNat 4))) (Int.ofNat 64))) (Int.ofNat 1))) (Int.ofNat 64))) (IntKind.i64.wrap (Int.tdiv (IntKind.i64.wrap (Int.sub (IntKind.i64.wrap (Int.add (IntKind.i64.wrap (Int.add (IntKind.i64.wrap (Int.add (IntKind.i64.wrap (Int.add (IntKind.i64.wrap (Int.mul (IntKind.i64.wrap v1) (Int.ofNat 65536))) (IntKind.i64.wrap (Int.mul (IntKind.i64.wrap v2) (Int.ofNat 256))))) (IntKind.i64.wrap v3))) (Int.ofNat 4))) (Int.ofNat 64))) (Int.ofNat 1))) (Int.ofNat 64))) (Int.ofNat x1.length)) (L8 ((IntKind.i64.wrap (Int.add (IntKind.i64.wrap (Int.add (IntKind.i64.wrap (Int.mul (IntKind.i64.wrap v1) (Int.ofNat 65536))) (IntKind.i64.wrap (Int.mul (IntKind.i64.wrap v2) (Int.ofNat 256))))) (IntKind.i64.wrap v3))),(Int.ofNat 0),(S.lit []))) none))))))))
def qly(lf:Nat)(x1:(List ByteArray))(L8:(Int × Int × ByteArray)->Option qbx)(L14:((List qaa) × Bool × Int × Int × ByteArray)->Option qbx)(p:Int × Int × ByteArray):Option qbx:=(cond (iltI p.2.1 (Int.ofNat (List.length (lsub x1 (Int.ofNat 0) (IntKind.i64.wrap (Int.tdiv (IntKind.i64.wrap (Int.sub (IntKind.i64.wrap (Int.add (IntKind.i64.wrap (Int.add p.1 (Int.ofNat 4))) (Int.ofNat 64))) (Int.ofNat 1))) (Int.ofNat 64))))))) (match (jget (lsub x1 (Int.ofNat 0) (IntKind.i64.wrap (Int.tdiv (IntKind.i64.wrap (Int.sub (IntKind.i64.wrap (Int.add (IntKind.i64.wrap (Int.add p.1 (Int.ofNat 4))) (Int.ofNat 64))) (Int.ofNat 1))) (Int.ofNat 64)))) p.2.1) with|none=>none|some v0=>(cond (Nat.ble (Nat.succ (Nat.add p.2.2.size v0.size)) 9223372036854775808) (L8 (p.1,(IntKind.i64.wrap (Int.add p.2.1 (Int.ofNat 1))),(ByteArray.append p.2.2 v0))) none)) (cond (lchk (Int.ofNat 4) (IntKind.i64.wrap (Int.add (Int.ofNat 4) p.1)) (Int.ofNat p.2.2.size) (Int.ofNat p.2.2.size)) (match (cond (Nat.ble (ByteArray.size (ByteArray.extract p.2.2 4 (Int.toNat (IntKind.i64.wrap (Int.add (Int.ofNat 4) p.1))))) 1000000) (some ((S.chg (ByteArray.extract p.2.2 4 (Int.toNat (IntKind.i64.wrap (Int.add (Int.ofNat 4) p.1))))).1,((S.chg (ByteArray.extract p.2.2 4 (Int.toNat (IntKind.i64.wrap (Int.add (Int.ofNat 4) p.1))))).2,()))) none) with|none=>none|some v127=>(L14 (v127.1,v127.2.1,(IntKind.i64.wrap (Int.add (Int.ofNat 4) p.1)),(IntKind.i64.wrap (Int.tdiv (IntKind.i64.wrap (Int.sub (IntKind.i64.wrap (Int.add (IntKind.i64.wrap (Int.add p.1 (Int.ofNat 4))) (Int.ofNat 64))) (Int.ofNat 1))) (Int.ofNat 64))),p.2.2))) none))
def qhg(lf:Nat)(x1:(List ByteArray))(L14:((List qaa) × Bool × Int × Int × ByteArray)->Option qbx)(p:(List qaa) × Bool × Int × Int × ByteArray):Option qbx:=(cond (iltI p.2.2.1 (Int.ofNat p.2.2.2.2.size)) (cond p.2.1 (match (jget (qab p.2.2.2.2) p.2.2.1) with|none=>none|some v0=>(L14 (p.1,(ieqI v0 (Int.ofNat 0)),(IntKind.i64.wrap (Int.add p.2.2.1 (Int.ofNat 1))),p.2.2.2.1,p.2.2.2.2))) (L14 (p.1,false,(IntKind.i64.wrap (Int.add p.2.2.1 (Int.ofNat 1))),p.2.2.2.1,p.2.2.2.2))) (some ((p.1,(p.2.2.2.1,(Bool.not p.2.1))),())))
abbrev gz17:Type:=ElA [(.list .str)]->Option qbx
abbrev sz17(g:gz17):Sm:=⟨[(.list .str)],[(false,cKeepRecord)],g⟩
abbrev Ez17(g:gz17)(J:JT qbx)(lf:Nat)(x1:(List ByteArray)):=qbs Tryz.prog ttT.get qki qd7.nt (qvx _ lf) lf qlf J qd7.body [] (qaz (argV [(.list .str)] (x1,())) 0 .leaf) S0 [] (qay ttT.get qd7 (sz17 g))
abbrev Bz17(g:gz17)(J:JT qbx)(lf k:Nat)(ms:List Nat)(q:NRes):=qcb Tryz.prog ttT.get qki qd7.nt (qvx _ lf) lf qlf J k qd7.body [] ms q (qay ttT.get qd7 (sz17 g))
theorem zr7(g:gz17)(J:JT qbx)(lf:Nat)(x1:(List ByteArray)):Ez17 g J lf x1=qu9 lf x1 (fun q=>J 8 [lf] (qix x1 q)):=by kernel_rfl
theorem zf7(g:gz17)(J:JT qbx)(lf:Nat)(x1:(List ByteArray))(m1:Nat)(p:Int × Int × ByteArray):Bz17 g J lf 8 [m1] (qix x1 p)=qly lf x1 (fun q=>J 8 [m1] (qix x1 q)) (fun q=>J 14 [lf] (qh8 x1 q)) p:=by kernel_rfl
theorem zh1(g:gz17)(J:JT qbx)(lf:Nat)(x1:(List ByteArray))(m1:Nat)(p:(List qaa) × Bool × Int × Int × ByteArray):Bz17 g J lf 14 [m1] (qh8 x1 p)=qhg lf x1 (fun q=>J 14 [m1] (qh8 x1 q)) p:=by kernel_rfl
theorem qtv:(regs qd7.body).Nodup:=by decide +kernel
theorem qvm:okC qki qlf q41 qd7.body none=true:=by kernel_rfl
def Az17(g:gz17)(lf:Nat):JT qbx:=atN Tryz.prog ttT.get qki qd7 (sz17 g) (qvx _ lf) lf q41
def qfy(lf:Nat)(x1:(List ByteArray)):Nat->((List qaa) × Bool × Int × Int × ByteArray)->Option qbx:=qa1 fun K p=>qhg lf x1 K p
theorem q0z(g:gz17)(lf:Nat)(x1:(List ByteArray)):∀(n:Nat) (p:(List qaa) × Bool × Int × Int × ByteArray),Az17 g lf 14 [n] (qh8 x1 p)=qfy lf x1 n p
 | 0,p=>qbq 14 [0] rfl _
 | n+1,p=>by
  have ih:=q0z g lf x1 n;refine(qbp (qa7 20 _) qtv qvm 14 [n+1] [n] rfl _).trans ((zh1 g (Az17 g lf) lf x1 n p).trans ?_);rw[(show (fun q=>Az17 g lf 14 [n] (qh8 x1 q))=(fun q=>qfy lf x1 n q) from funext ih)];rfl
def qm9(lf:Nat)(x1:(List ByteArray)):Nat->(Int × Int × ByteArray)->Option qbx:=qa1 fun K p=>qly lf x1 K (fun q=>qfy lf x1 lf q) p
theorem q6m(g:gz17)(lf:Nat)(x1:(List ByteArray)):∀(n:Nat) (p:Int × Int × ByteArray),Az17 g lf 8 [n] (qix x1 p)=qm9 lf x1 n p
 | 0,p=>qbq 8 [0] rfl _
 | n+1,p=>by
  have ih:=q6m g lf x1 n;refine(qbp (qa7 20 _) qtv qvm 8 [n+1] [n] rfl _).trans ((zf7 g (Az17 g lf) lf x1 n p).trans ?_);rw[(show (fun q=>Az17 g lf 14 [lf] (qh8 x1 q))=(fun q=>qfy lf x1 lf q) from funext fun q=>q0z g lf x1 lf q),(show (fun q=>Az17 g lf 8 [n] (qix x1 q))=(fun q=>qm9 lf x1 n q) from funext ih)];rfl
def Fz17(lf:Nat)(x1:(List ByteArray)):Option qbx:=qu9 lf x1 (fun q=>qm9 lf x1 lf q)
theorem zje(g:gz17)(lf:Nat)(x1:(List ByteArray)):Ez17 g (Az17 g lf) lf x1=Fz17 lf x1:=by
  refine(zr7 g (Az17 g lf) lf x1).trans ?_;rw[(show (fun q=>Az17 g lf 8 [lf] (qix x1 q))=(fun q=>qm9 lf x1 lf q) from funext fun q=>q6m g lf x1 lf q)];rfl
theorem q9x:qbd Tryz.prog q4f:=trivial
theorem zno{g:gz17}(hsm:SmOK Tryz.prog qzc)(hg:∀(x:ElA [(.list .str)]) (y:qbx),WfA [(.list .str)] x->g x=some y->∃lf,Fz17 lf x.1=some y):Con Tryz.prog 112 ⟨[(.list .str)],[(false,cKeepRecord)],g⟩ :=
 conV (st:=qlf) (fun lf x=>Fz17 lf x.1) cm3 q8f q9x qtv qvm (fun lf x=>zje g lf x.1) hsm hg
def qgf(out:List qaa):Int:=(out.getLast?.map (·.1)).getD (-1)
theorem qug(out:List qaa)(c:qaa):qgf (out++[c])=c.1:=by simp[qgf]
theorem zq8{R:Type}{out:List qaa}{k:Int}(hk:0<=k)(hl:out.length<1000000000)(N T:Option R) :
  cond (iltI (Int.ofNat 0) (Int.ofNat out.length)) (match jget out (IntKind.i64.wrap (Int.sub (Int.ofNat out.length) (Int.ofNat 1))) with
   | none=>none
   | some v3=>match out[Int.toNat (IntKind.i64.wrap (Int.sub (Int.ofNat out.length) (Int.ofNat 1)))]? with
    | none=>none
    | some v4=>cond (!iltI v4.1 k) N T) T=cond (decide (k<=qgf out)) N T:=by
 rcases List.eq_nil_or_concat out with rfl|⟨o,c,rfl⟩
 ·have:decide (k<=qgf [])=false:=jar (by show ¬k<=-1;omega);rw[this];rfl
 ·rw[List.concat_eq_append] at *;have hlen:(o++[c]).length=o.length+1:=by simp
  rw[hlen] at hl ⊢;have e:IntKind.i64.wrap (Int.sub (Int.ofNat (o.length+1)) (Int.ofNat 1))=Int.ofNat o.length:=by
   have:Int.sub (Int.ofNat (o.length+1)) (Int.ofNat 1)=Int.ofNat o.length:=by
    show ((o.length+1:Nat):Int)-1=(o.length:Int);omega
   rw[this];exact qbv (by omega)
  rw[e,qc6];have h1:(o++[c])[o.length]?=some c:=by simp
  have h2:(o++[c])[Int.toNat (Int.ofNat o.length)]?=some c:=h1;rw[h1,h2,qcj,jal (by omega),jab,qug];show cond (!iltI c.1 k) N T=_;rw[qba,qvr]
def chgR(out:List qaa):Option (List qaa)->List qaa × Bool
 | some l=>(out++l,true)
 | none=>([],false)
theorem qut(x1:ByteArray):∀(f F:Nat) (r:List Int) (out:List qaa),rng r->r.length<f->f<=F->out.length+r.length<=3000000->qhf LF x1 F (qae r,out)=some ((chgR out (S.changes f r (qgf out))).1,(chgR out (S.changes f r (qgf out))).2,())
 | 0,_,r,out,hr,hf,hF,ho=>by omega
 | f+1,0,r,out,hr,hf,hF,ho=>by omega
 | f+1,F+1,r,out,hr,hf,hF,ho=>by
  show qm3 LF x1 (qhf LF x1 F) _=_;simp only[qm3,qbt hr,qbi];rcases r with _|⟨k,_|⟨a,_|⟨b,r⟩⟩⟩
  ·show some (out,true,())=some (out++[],true,());rw[jbl]
  ·rfl
  ·rfl
  ·have hk:=hr k (by simp);have ha:=hr a (by simp);have hb:=hr b (by simp);have hr':rng r:=fun x hx=>hr x (by simp[hx]);have hlen:(k::a::b::r).length=r.length+3:=rfl;rw[hlen] at hf ho;have l1:lchk (Int.ofNat 3) (Int.ofNat (k::a::b::r).length) (Int.ofNat (k::a::b::r).length) (Int.ofNat (k::a::b::r).length)=true:=qb2.2 ⟨by decide,by show (3:Int)<=((r.length+3:Nat):Int);omega,jbr _,jbr _⟩;have he:ByteArray.extract (qae (k::a::b::r)) 3 (Int.toNat (Int.ofNat (k::a::b::r).length))=qae r:=qk8 hr 3;have wk:IntKind.i64.wrap k=k:=wrap_in (by omega);have wn:IntKind.i64.wrap (Int.add (IntKind.i64.wrap (Int.mul (IntKind.i64.wrap a) (Int.ofNat 256))) (IntKind.i64.wrap b))=a*256+b:=by
    rw[wrap_in (n:=a) (by omega),wrap_in (n:=b) (by omega),wrap_in (n:=Int.mul a (Int.ofNat 256)) (by show -_<=a*256/\a*256<_;omega)];exact wrap_in (by show -_<=a*256+b/\a*256+b<_;omega)
   have hn:0<=a*256+b/\a*256+b<65536:=by omega
   rw[qph];rw[qcj,jal (show 0<(k::a::b::r).length by rw[hlen];omega),jab,qcj,jar (show ¬(k::a::b::r).length<3 by rw[hlen];omega),jah,qc6,qc6,qc6];show cond (lchk _ _ _ _) _ _=_;rw[l1,jab,he,wk,wn];generalize a*256+b=n at hn;by_cases c1:199<k
   ·rw[qep (show Int.ofNat 199<k from c1),jab,jan (.inl c1)];rfl
   rw[qff (show ¬Int.ofNat 199<k from c1),jah];refine(zq8 (out:=out) hk.1 (by omega) _ _).trans ?_;by_cases c2:k<=qgf out
   ·rw[jal c2,jab,jan (.inr (.inl c2))];rfl
   rw[jar c2,jah,qbi,qbv (n:=Nat.add r.length 1) (by show r.length+1<_;omega)];by_cases c3:(r.length:Int)+1<n
   ·rw[qep (show Int.ofNat (Nat.add r.length 1)<n from by show ((r.length+1:Nat):Int)<n;omega),jab,jan (.inr (.inr (.inl c3)))];rfl
   rw[qff (show ¬Int.ofNat (Nat.add r.length 1)<n from by show ¬((r.length+1:Nat):Int)<n;omega),jah];by_cases c4:4001<n
   ·rw[qep (show Int.ofNat 4001<n from c4),jab,jan (.inr (.inr (.inr c4)))];rfl
   rw[qff (show ¬Int.ofNat 4001<n from c4),jah,jao (by omega)];rw[jax (show Nat.mul (Nat.add out.length 1) 32<=140737488355328 by show (out.length+1)*32<=_;omega),jab];by_cases c5:n=0
   ·rw[qbh (show n=Int.ofNat 0 from c5),jab,jan c5,qut x1 f F r _ hr' (by omega) (by omega) (by simp only[jel,jaf,jas,ja6];omega)];rw[jel,qug];show some ((chgR (out++[(k,S.none_,true)]) (S.changes f r k)).1,_,())=_;cases S.changes f r k with
    | none=>rfl
    | some l=>show some (out++[_]++l,true,())=some (out++_::l,true,());rw[jay];rfl
   ·rw[qbj (show ¬n=Int.ofNat 0 from c5),jah,jao c5];have e1:IntKind.i64.wrap (Int.sub n (Int.ofNat 1))=n-1:=wrap_in (by show -_<=n-1/\n-1<_;omega);have l2:lchk (Int.ofNat 0) (n-1) (Int.ofNat r.length) (Int.ofNat r.length)=true:=qb2.2 ⟨jbr _,by show (0:Int)<=n-1;omega,by show n-1<=(r.length:Int);omega,jbr _⟩;have l3:lchk (n-1) (Int.ofNat r.length) (Int.ofNat r.length) (Int.ofNat r.length)=true:=qb2.2 ⟨by omega,by show n-1<=(r.length:Int);omega,jbr _,jbr _⟩;rw[e1,l2,jab,l3,jab,show Int.toNat (Int.ofNat r.length)=r.length from rfl,qk8 hr',q6h hr'];rw[qut x1 f F (r.drop (n-1).toNat) _ (qd9 hr' _) (by rw[ja7];omega) (by omega) (by simp only[jel,jaf,jas,ja6,ja7];omega)];rw[jel,qug];cases S.changes f (r.drop (n-1).toNat) k with
    | none=>rfl
    | some l=>show some (out++[_]++l,true,())=some (out++_::l,true,());rw[jay];rfl
theorem zbf(b:ByteArray)(h:b.size<=1000000):Fz16 LF b=some ((S.chg b).1,(S.chg b).2,()):=by
 obtain⟨r,h1,rfl,h3,h4⟩:=qrl b;rw[h3] at h;simp only[Fz16,qrw];refine(qut (qae r) (r.length+1) LF r [] h1 (by omega) (by unfold LF;omega) (by rw[ja6];omega)).trans ?_;unfold S.chg;rw[h3,h4];show some ((chgR [] (S.changes (r.length+1) r (-1))).1,(chgR [] (S.changes (r.length+1) r (-1))).2,())=_;cases S.changes (r.length+1) r (-1)<;>rfl
theorem zha:Con Tryz.prog znb q5v:=q9z trivial fun x y hx h=>⟨LF,by
 obtain⟨h1,h2⟩:=qa8 (show cond (Nat.ble x.1.size 1000000) (some ((S.chg x.1).1,(S.chg x.1).2,())) none=some y from h);exact(zbf x.1 (jak h1)).trans (jav some h2)⟩
theorem qts:∀{l:List qaa} {last:Int},S.okGo l last=true->-1<=last->(l.length:Int)<=max 0 (199-last)
 | [],_,_,_=>by rw[ja6];omega
 | c::l,last,h,hl=>by
  obtain⟨h1,h2,h3,h4,h5⟩:=qbo.1 h;have:=qts h5 (by omega);rw[jas];omega
theorem qn7{l:List qaa}(h:S.okC l=true):l.length<=200:=by
 have:=qts (l:=l) (last:=-1) h (jbr _);omega
theorem ze5(x c:qaa)(h:x.1<c.1)(a:List qaa):S.ins1 c (x::a)=x::S.ins1 c a:=by
 show (if x.1<c.1 then x::S.ins1 c a else _)=_;rw[jan h]
theorem q9h(x:qaa):∀(b a:List qaa) (last:Int),S.okGo b last=true->x.1<=last->S.changed (x::a) b=x::S.changed a b
 | [],a,_,_,_=>rfl
 | c::b,a,last,h,hx=>by
  obtain⟨h1,h2,h3,h4,h5⟩:=qbo.1 h;show S.changed (S.ins1 c (x::a)) b=x::S.changed (S.ins1 c a) b;rw[ze5 x c (by omega)];exact q9h x b _ c.1 h5 (by omega)
theorem zjb{c:qaa}{b:List qaa}{last:Int}(h:S.okGo (c::b) last=true):S.changed [] (c::b)=cond c.2.2 (S.changed [] b) (c::S.changed [] b):=by
 obtain⟨h1,h2,h3,h4,h5⟩:=qbo.1 h;show S.changed (cond c.2.2 [] [c]) b=_;cases c.2.2 with
 | true=>rfl
 | false=>exact q9h c b [] c.1 h5 (jbr _)
theorem zrn{a b:List qaa}(h:S.mrg a b=true):okS a (-1)/\S.okC b=true:=by
 unfold S.mrg S.srt at h;rw[jad,jad,jcd] at h;exact⟨⟨h.1.1,fun c hc=>by
  have:=jdc.1 h.1.2 c hc;exact jcz.2 this⟩,h.2⟩
theorem zgo{a b:List qaa}(h:okS a (-1))(k:S.okC b=true):S.mrg a b=true:=by
 unfold S.mrg S.srt;rw[jad,jad,jcd];exact⟨⟨h.1,jdc.2 fun c hc=>by rw[h.2 c hc];decide⟩,k⟩
theorem qxs{l:List qaa}(h:S.pk l=true)(m:Int):(S.packed l m).length<=20000:=by
 have:=qp5 h;rw[qb0];omega
theorem qop{α:Type}{l:List α}{d:α}(h:1<=l.length):jget l (Int.ofNat 0)=some (l.getD 0 d):=qt5 (i:=Int.ofNat 0) (d:=d) (jbr _) (by show (0:Int)<(l.length:Int);omega)
theorem get0{α:Type}{l:List α}{d:α}(h:1<=l.length):l[0]?=some (l.getD 0 d):=by
 cases l with
 | nil=>exact absurd h (Nat.not_succ_le_zero 0)
 | cons a l=>rfl
theorem ziy:S.packed [] 1=[qae (1::List.replicate 63 0)]:=by kernel_rfl
theorem znh(lf:Nat)(d:qah):qnz lf d=some ((S.format d).1,(S.format d).2,()):=by
 simp only[qnz,q8a];unfold S.format;show cond (!ieqI (S.checkDisk d) _) _ _=_;by_cases h0:S.checkDisk d=0
 ·rw[qbh (show S.checkDisk d=Int.ofNat 0 from h0),ja1,jah,jan h0,qcj];by_cases h1:d.2.length=0
  ·rw[jar (by omega),jah,jan h1,jab,show S.pk []=true from rfl,jab];simp only[show S.packed [] (Int.ofNat 1)=S.packed [] 1 from rfl,ziy];rfl
  ·rw[jal (by omega),jab,jao h1];rfl
 ·rw[qbj (show ¬S.checkDisk d=Int.ofNat 0 from h0),jao h0,ja3,jab]
theorem qjl{l:List ByteArray}(h:S.secs l=true):l.length<=1000/\∀s∈l,s.size=64:=by
 unfold S.secs at h;rw[jad,jcd] at h;refine⟨jak h.1,fun s hs=>?_⟩;have:=jdc.1 h.2 s hs;unfold S.short at this;simpa using this
theorem q3n{l:List ByteArray}(h:S.secs1 l=true):1<=l.length/\l.length<=1000/\∀s∈l,s.size=64:=by
 unfold S.secs1 at h;rw[jad] at h;exact⟨jak h.1,qjl h.2⟩
theorem qeo{l:List ByteArray}{i:Nat}(h:i<l.length):l.getD i S.none_∈l:=by
 rw[jai,jac h];exact jbj h
theorem q06{s:ByteArray}(h:s.size=64):∃b0 b1 b2 b3 r,qab s=b0::b1::b2::b3::r:=by
 have:=qcs s;rcases hs:qab s with _|⟨b0,_|⟨b1,_|⟨b2,_|⟨b3,r⟩⟩⟩⟩
 case cons.cons.cons.cons=>exact⟨_,_,_,_,_,rfl⟩
 all_goals rw[hs] at this;simp only[jas,ja6] at this;omega
theorem zrl(l:List ByteArray)(v:ByteArray):(l++[v]).flatMap qab=l.flatMap qab++qab v:=by simp
theorem zdi(l:List ByteArray)(v:ByteArray):ByteArray.append (qae (l.flatMap qab)) v=qae ((l++[v]).flatMap qab):=by
 rw[zrl,<- qey,qe8]
theorem zdq{N:Nat}(h:N<100000000):IntKind.i64.wrap (Int.tdiv (Int.ofNat (N+63)) (Int.ofNat 64))=Int.ofNat ((N+63) / 64):=qbv (n:=(N+63) / 64) (by omega)
theorem qt2{N:Nat}(h:N<100000000):IntKind.i64.wrap (Int.tdiv (IntKind.i64.wrap (Int.sub (IntKind.i64.wrap (Int.add (Int.ofNat N) (Int.ofNat 64))) (Int.ofNat 1))) (Int.ofNat 64))=Int.ofNat ((N+63) / 64):=by
 rw[show IntKind.i64.wrap (Int.add (Int.ofNat N) (Int.ofNat 64))=Int.ofNat (N+64) from qbv (n:=N+64) (by omega)];have:Int.sub (Int.ofNat (N+64)) (Int.ofNat 1)=Int.ofNat (N+63):=by
  show ((N+64:Nat):Int)-1=((N+63:Nat):Int);omega
 rw[this,qbv (n:=N+63) (by omega)];exact zdq h
theorem zd1{b0 b1 b2 b3:Int}{r:List Int}(h:rng (b0::b1::b2::b3::r)):b1*65536+b2*256+b3=((S.recN (b0::b1::b2::b3::r):Nat):Int)/\S.recN (b0::b1::b2::b3::r)<16777216:=by
 have h1:=h b1 (by simp);have h2:=h b2 (by simp);have h3:=h b3 (by simp);have e:S.recN (b0::b1::b2::b3::r)=(b1*65536+b2*256+b3).toNat:=rfl;rw[e];omega
def q6k(l:List Int):Bool:=l.all fun b=>decide (b=0)
theorem qr7(l:List ByteArray)(cells:List qaa)(M:Int)(f:List Int)(hr:rng f)(hf:f.length<=1000000):∀(k F i:Nat) (is:Bool),i+k=f.length->k<F->qfy LF l F (cells,is,Int.ofNat i,M,qae f)=some ((cells,M,!(is&&q6k (f.drop i))),())
 | 0,F+1,i,is,hi,hF=>by
  show qhg LF l (qfy LF l F) _=_;simp only[qhg];rw[qbi,qcj,jar (by omega),jah,jct (by omega)];cases is<;>rfl
 | k+1,F+1,i,is,hi,hF=>by
  show qhg LF l (qfy LF l F) _=_;simp only[qhg];have hlt:i<f.length:=by omega
  rw[qbi,qcj,jal hlt,jab,qbt hr,qc6,jac hlt,jdj hlt,show IntKind.i64.wrap (Int.add (Int.ofNat i) (Int.ofNat 1))=Int.ofNat (i+1) from qbv (n:=i+1) (by omega)];simp only;rw[qr7 l cells M f hr hf k F (i+1) _ (by omega) (by omega),qr7 l cells M f hr hf k F (i+1) _ (by omega) (by omega)];show _=some ((cells,M,!(is&&(decide (f[i]=0)&&q6k (f.drop (i+1))))),());cases is with
  | false=>rfl
  | true =>
   rw[jab,qdq];rfl
theorem zoj(l:List ByteArray)(h:S.secs1 l=true):Fz17 LF l=some (S.readK l,()):=by
 obtain⟨h1,h2,h3⟩:=q3n h;have hs:=h3 _ (qeo (i:=0) (by omega));obtain⟨b0,b1,b2,b3,r,hb⟩:=q06 hs;have hrb:rng (b0::b1::b2::b3::r):=hb▸qdm _;obtain⟨n1,n2⟩:=zd1 hrb;have hM:S.recM (b0::b1::b2::b3::r)=(S.recN (b0::b1::b2::b3::r)+4+63) / 64:=rfl;have r1:=hrb b1 (by simp);have r2:=hrb b2 (by simp);have r3:=hrb b3 (by simp);unfold S.readK;simp only[Fz17,qu9,qop (d:=S.none_) h1,hb];rw[hM];generalize S.recN (b0::b1::b2::b3::r)=N at n1 n2;have wn:IntKind.i64.wrap (Int.add (IntKind.i64.wrap (Int.add (IntKind.i64.wrap (Int.mul (IntKind.i64.wrap b1) (Int.ofNat 65536))) (IntKind.i64.wrap (Int.mul (IntKind.i64.wrap b2) (Int.ofNat 256))))) (IntKind.i64.wrap b3))=Int.ofNat N:=by
  rw[wrap_in (n:=b1) (by omega),wrap_in (n:=b2) (by omega),wrap_in (n:=b3) (by omega),wrap_in (n:=Int.mul b1 (Int.ofNat 65536)) (by show -_<=b1*65536/\b1*65536<_;omega),wrap_in (n:=Int.mul b2 (Int.ofNat 256)) (by show -_<=b2*256/\b2*256<_;omega),
   wrap_in (n:=Int.add (Int.mul b1 (Int.ofNat 65536)) (Int.mul b2 (Int.ofNat 256))) (by show -_<=b1*65536+b2*256/\b1*65536+b2*256<_;omega)]
  rw[show Int.add (Int.add (Int.mul b1 (Int.ofNat 65536)) (Int.mul b2 (Int.ofNat 256))) b3=Int.ofNat N from n1];exact qbv (by omega)
 have w4:IntKind.i64.wrap (Int.add (Int.ofNat N) (Int.ofNat 4))=Int.ofNat (N+4):=qbv (n:=N+4) (by omega);simp only[qc6,jap,jaw,wn,w4,qt2 (N:=N+4) (by omega)];by_cases c0:b0=1
 ·have e0:ieqI b0 (Int.ofNat 1)=true:=qbh c0;rw[e0,ja1,jah];by_cases c1:l.length<(N+4+63) / 64
  ·rw[qep (show Int.ofNat l.length<Int.ofNat ((N+4+63) / 64) from jfz.2 c1),jab,jan (.inr c1)];rfl
  ·rw[qff (show ¬Int.ofNat l.length<Int.ofNat ((N+4+63) / 64) from fun h=>c1 (jfz.1 h)),jah,jao (show ¬(¬(b0::b1::b2::b3::r).getD 0 0=1\/l.length<(N+4+63) / 64) from fun h=>h.elim (fun h=>h c0) c1)];obtain⟨M,hMe⟩:∃M,(N+4+63) / 64=M:=⟨_,rfl⟩;rw[hMe] at c1 ⊢;have l1:lchk (Int.ofNat 0) (Int.ofNat M) (Int.ofNat M) (Int.ofNat l.length)=true:=qb2.2 ⟨jbr _,jb3 _,jbr _,by show (M:Int)<=(l.length:Int);omega⟩;rw[l1,jab];have hL:(l.take M).length=M:=by rw[jbc,jcn (by omega)]
   have hfl:∀i,((((l.take M).take i).flatMap qab).length)=64*min i M:=fun i=>by
    rw[qwi _ fun s hs=>h3 s (jca (jca hs)),jbc,hL]
   refine(range0 (σ:=ByteArray) (R:=qbx) (T:=fun K p=>qly LF l K (fun q=>qfy LF l LF q) p) (l.take M) (fun i s=>(Int.ofNat N,i,s)) (fun i s=>s=qae (((l.take M).take i).flatMap qab)) (fun _ _ _=>some ((match S.changes (N+1) ((((l.take M).flatMap qab).drop 4).take N) (-1) with
     | some c=>(c,(M:Int),!((((l.take M).flatMap qab).drop (4+N)).all fun b=>decide (b=0)))
     | none=>([],(M:Int),true)),())) (by rw[hL];unfold LF;omega) (fun K s hs=>?_) (fun K i v rest s hs r hk=>?_) (S.lit []) rfl).trans rfl
   ·rw[hL,jbt (by rw[hL];exact jaq _)] at hs;have hf:=hfl M;rw[Nat.min_self,jbt (by rw[hL];exact jaq _)] at hf;have hrf:=q3u (l.take M);simp only[qly,w4,qt2 (N:=N+4) (by omega),hMe];rw[show lsub l (Int.ofNat 0) (Int.ofNat M)=l.take M from rfl,qch,jah,hs];generalize (l.take M).flatMap qab=f at hf hrf;have w4':IntKind.i64.wrap (Int.add (Int.ofNat 4) (Int.ofNat N))=Int.ofNat (4+N):=qbv (n:=4+N) (by omega);have l2:lchk (Int.ofNat 4) (Int.ofNat (4+N)) (Int.ofNat f.length) (Int.ofNat f.length)=true:=qb2.2 ⟨by decide,by show (4:Int)<=((4+N:Nat):Int);omega,by show ((4+N:Nat):Int)<=((f.length:Nat):Int);omega,jbr _⟩;have hext:ByteArray.extract (qae f) 4 (Int.toNat (Int.ofNat (4+N)))=qae ((f.drop 4).take N):=by
     refine qfp ?_;rw[qvw,qbt hrf,qbt (qe0 (qd9 hrf 4) N),jc6];show (f.drop 4).take (4+N-4)=_;rw[ja5]
    have hszN:((f.drop 4).take N).length=N:=by rw[jbc,ja7,jcn (by omega)]
    rw[w4',qbi,l2,jab,hext,qbi,jax (by rw[hszN];omega),jab];simp only;rw[qr7 l _ _ f hrf (by omega) (f.length-(4+N)) LF (4+N) _ (by omega) (by unfold LF;omega)];unfold S.chg;rw[qbi,hszN,qbt (qe0 (qd9 hrf 4) N)];cases S.changes (N+1) ((f.drop 4).take N) (-1)<;>rfl
   ·have hi:=r.lt;rw[hL] at hi;subst hs;have hfi:=hfl i;rw[jcn (by omega)] at hfi;have hvs:=h3 v (jca r.mem);simp only[qly,w4,qt2 (N:=N+4) (by omega),hMe];rw[show lsub l (Int.ofNat 0) (Int.ofNat M)=l.take M from rfl,r.ilt,jab,r.get];simp only;rw[qbi,hfi,hvs,qeu (by show 64*i+64<_;omega),jab,r.next,zdi,<- r.take];exact hk _ rfl
 ·have e0:ieqI b0 (Int.ofNat 1)=false:=qbj c0;rw[e0,ja3,jab,jan (.inl (show ¬(b0::b1::b2::b3::r).getD 0 0=1 from c0))];rfl
theorem zro:Con Tryz.prog zeh zd9:=zno ⟨zha,trivial⟩ fun x y hx h=>⟨LF,by
 obtain⟨h1,h2⟩:=qa8 (show cond (S.secs1 x.1) (some (S.readK x.1,())) none=some y from h);exact(zoj x.1 h1).trans (jav some h2)⟩

theorem q4t:S.lit [0,0,0,0,0,0,0,0,0,0,0,0,0,0,0,0,0,0,0,0,0,0,0,0,0,0,0,0,0,0,0,0,0,0,0,0,0,0,0,0,0,0,0,0,0,0,0,0,0,0,0,0,0,0,0,0,0,0,0,0,0,0,0]=qae (List.replicate 63 0):=by kernel_rfl
end Go.Proofs.YtnhmanoiolfapaaGreat
end
