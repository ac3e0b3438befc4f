/- Texts: Jch, Jci, Jcj, Jck, Jcp, Jcm, Xsp, Xsp2, Xsp3, Xsp4, Xsp5, Xsp6, Jcr, Jcs, Xr1, Xhs, Jhx, Xg6, Xp17, Xg1, Xo1, Xo2, Xo3, Xp1, Xg2, Xp2, Xp3, Xp4, Xr2, Xg3, Xp5, Xp6, Xp7, Xp8, Xp9, Xp10, Xg5, Xp11, Xp12, Xp13, Xp14, Xp15, Xp16, Xr3, Xr4, Xr5, Xg7, Xg8, Xt1, Xt2, Xr6, Xg9, Xp18, Dh1, Jpp, Jrx, Dsp, Dg1, Dp1, Dsp2, Dg2, Dp2, Dsp3, Dgv, Dv. -/
import Derived.Test.YtaepcfidpcoofaaGreatDoorMb3
import Derived.Test.YtaepcfidpcoofaaGreatDoorMb1
set_option linter.unusedVariables false
set_option linter.unusedSectionVars false
set_option linter.unusedSimpArgs false
set_option linter.unnecessarySimpa false
open Bool renaming false->eb,true->i7
open ByteArray renaming extract->au,size->m9
open GetElem? renaming getElem?->av
open Go renaming Calls->mi,CallsIn->mf,Code->fw,Ending->aw,IntKind->ff,LeavesInM->il,Oper->o8,Operand->fh,Program->om,TypeId->ov,Value->oc,World->oh
open Go.Fence renaming wide->ox
open Go.Instr renaming slice->io,sliceAt->f8,sliceBound->fy,sliceBounds->o6
open Go.IntKind renaming bits->az,i64->mo,signed->m8,wrap->ag,wrap->ml
open Go.Proofs.Tryz renaming prog->oa
open Go.Value renaming bool->iw,int->mq
open Int renaming add->oe,negSucc->ae,ofNat->we,sub->fq,toNat->f7
open List renaming append->oz,cons->ou,findIdx?->ia,length->oq,map->fc,range->fv
open Nat renaming add->o5,beq->od,ble->og,blt->oo,mul->o7
open Option renaming none->i6,some->iz
open Sum renaming inr->fe
noncomputable section
namespace Go.Jx
open Go Go.Sx Go.RowKit
universe u

structure Beside (b:Nat) (w w':oh):Prop where
 os:w'.os=w.os
 tape:w'.tape=w.tape
 output:w'.output=w.output
 size:w'.heap.size=w.heap.size
 same:∀x,x≠b->w'.heap[x]?=w.heap[x]?
theorem Beside.put(w:oh)(b:Nat)(o:Obj):Beside b w (w.putObj b o):=⟨rfl,rfl,rfl,by simp,fun x a=>di a⟩
theorem Beside.symm{b:Nat}{w w':oh}(h:Beside b w w'):Beside b w' w:=⟨h.os.symm,h.tape.symm,h.output.symm,h.size.symm,fun x a=>(h.same x a).symm⟩
theorem Beside.upd{b:Nat}{w w':oh}(h:Beside b w w'):Upd [b] w w':=⟨h.os,h.tape,h.output,by rw[h.size];exact xl _,fun x _ a=>h.same x (by simpa using a)⟩
def su(E:Env)(S:IS)(b:Nat):Prop:=b∈E.m/\∀id,E.A id->Live E S.H id->E.ρ id≠b
section
variable {E E' : Env} {S S' : IS} {b : Nat} {w w' : oh}
theorem Pre.beside(p:Pre T0 E S)(hb:su E S b)(h:Beside b E.w w):E.Le (E.at_ w)/\Pre T0 (E.at_ w) S/\su (E.at_ w) S b:=by
 have m:E.Le (E.at_ w):=⟨fun _ h=>⟨h,rfl,rfl,rfl,rfl⟩,⟨fun x u v=>⟨v,h.same x fun e=>v (e▸hb.1)⟩⟩⟩
 refine⟨m,⟨⟨fun l n k o q=>(p.st.objs l n k o q).mono m k (p.st.blk l n k o q) fun r s=>h.same _ (hb.2 l k ⟨s,o,q,r⟩),fun l n k o q t=>p.st.blk l n k o q t,fun l n k r=>p.st.own l n k r,
  fun i j a y c d e f g=>p.st.inj i j a y c d e f g,fun x u=>?_⟩,p.bnd,p.nw,p.gl.mono m.tr⟩,hb⟩
 show x<w.heap.size;rw[h.size];exact p.st.lo x u
theorem PostB.apart{B:Nat}(k:PostB B T0 E S E' S')(p:Pre T0 E S)(hb:su E S b):su E' S' b:=by
 have c:=p.st.lo b hb.1;refine⟨?_,fun a g f e=>?_⟩
 ·rcases k.mem b hb.1 c with h|⟨a,_,i,q,o⟩
  ·exact h
  ·exact absurd o (hb.2 a i q)
 ·rcases dm a B with h|h
  ·have d:=k.fr a h g;exact hb.2 a d (k.old a h trivial d f) ((k.alw a h d).2.1.symm.trans e)
  ·rcases k.new a h g f with i|⟨j,_,n,m,l⟩
   ·omega
   ·exact hb.2 j n m (l.symm.trans e)
theorem PostB.at_same{B:Nat}(k:PostB B T0 E S E' S')(p:Pre T0 E S)(hb:su E S b):E'.w.heap[b]?=E.w.heap[b]?:=k.same b (p.st.lo b hb.1) fun a _ d c=>hb.2 a d c
theorem PostB.beside{B:Nat}(k:PostB B T0 E S E' S')(p:Pre T0 E S)(hb:su E S b)(h1:Beside b E.w w)(h2:Beside b E'.w w')(h3:w'.heap[b]?=w.heap[b]?):PostB B T0 (E.at_ w) S (E'.at_ w') S':=by
 have g:Pre T0 E' S':=k.pre (fun _ _=>trivial) p;obtain⟨_,f,_⟩:=g.beside (k.apart p hb) h2;have d:(E.at_ w).w.heap.size=E.w.heap.size:=h1.size;refine⟨f.st,h2.os.trans (k.os.trans h1.os.symm),h2.tape.trans (k.tape.trans h1.tape.symm),h2.output.trans (k.output.trans h1.output.symm),?_,fun x a i=>?_,k.alw,fun h m l j=>?_,k.old,fun x a=>?_,fun x a c=>k.mem x a (by rw[d] at c;exact c),k.bnd,k.le,k.fr⟩
 ·show w.heap.size<=w'.heap.size;rw[h1.size,h2.size];exact k.size
 ·show w'.heap[x]?=w.heap[x]?;by_cases e:x=b
  ·rw[e];exact h3
  ·rw[h2.same x e,h1.same x e];exact k.same x (by rw[d] at a;exact a) i
 ·rw[d];exact k.new h m l j
 ·rw[d];exact k.memo x a
end
end Go.Jx
end

noncomputable section
namespace Go.Jx
open Go Go.Sx Go.RowKit
universe u

structure LpC where
 ls:List Nat
 lp:List PK
 nm:Nat->Option Nm
def putL:Lz Nat->Lz IV->PT IV->PT IV
 | t::ts,v::vs,fr=>putL ts vs (fr.set v t)
 | _,_,fr=>fr
theorem q96:∀{ls:Lz Nat} {vs:Lz IV} {us:Lz oc} {E:Env} {nt:Nat} {fr:PT IV} {tmps:Array oc},VRs E vs us->us=ls.map (fun t=>tmps.getD t undef)->FR E nt fr tmps->FR E nt (putL ls vs fr) tmps
 | [],vs,us,E,nt,fr,tmps,hv,hu,hf=>by simpa [putL] using hf
 | t::ls,[],us,E,nt,fr,tmps,hv,hu,hf=>by simpa [putL] using hf
 | t::ls,v::vs,us,E,nt,fr,tmps,hv,hu,hf=>by
  obtain⟨u,us,rfl,a1,a2⟩:=hv.inv;simp only[ga,ry] at hu;show FR E nt (putL ls vs (fr.set v t)) tmps;refine q96 a2 hu.2 ⟨hf.size,fun k hk=>?_⟩;rw[vp];by_cases e:k=t
  ·grind
  ·rw[xr e];exact hf.get k hk
section
variable (P : om) (tt : Nat -> Oq TI)
def y9(cfg:LpC)(c:TC)(nt lf:Nat)(cl:Cl)(pr:Nat)(assign body:fw)(d:ElP cfg.lp)(z:ElP (refs cfg.lp))(x:El c):Oq (ElP (refs cfg.lp) × Oq fw) :=
 match zh P tt cfg.nm (mP cfg.lp) nt cl lf i6 assign (vt [pr] [asIV c x] (putL cfg.ls (ze cfg.lp idN 0 d) .leaf)) (Sc cfg.lp (updP cfg.lp d z)) [] with
 | none=>i6
 | some r1=>match r1.e with
  | .normal=>match r1.ds with
   | []=>match zh P tt cfg.nm (mP cfg.lp) nt cl lf i6 body r1.fr r1.S [] with
    | none=>i6
    | some r2=>match r2.ds with
     | []=>cond r2.e.isPan i6 <| match runQ (sQ cfg.lp) ⟨.tup [],r2.S,0,0⟩ with
      | none=>i6
      | some y=>iz (y.2,yj r2.e)
     | _=>i6
   | _=>i6
  | _=>i6
end
def foldB{D α:Type}(g:D->α->Oq (D × Oq fw)):Lz α->D->Oq (D × Oq fw)
 | [],d=>iz (d,i6)
 | x::xs,d=>match g d x with
  | none=>i6
  | some (d',i6)=>foldB g xs d'
  | some (d',iz e)=>iz (d',iz e)
section
variable {P : om} {tt : Nat -> Oq TI}
theorem zum{cfg:LpC}{c:TC}{nt lf:Nat}{cl:Cl}{pr:Nat}{assign body:fw}{d:ElP cfg.lp}{z z':ElP (refs cfg.lp)}{x:El c}{e:Oq fw}(hm:P.follows .mixedOrders=i7)(hcl:ClOK P cl)(hfr:ClFr cl)(htt:TT P tt)
  (h:y9 P tt cfg c nt lf cl pr assign body d z x=iz (z',e)) (hok:qi assign=i7/\qi body=i7) (hrf:jo assign=eb/\jo body=eb)
  {E:Env} {b:Nat} {rec:Loop} (p:Pre T0 E (Sc cfg.lp (updP cfg.lp d z))) (hb:su E (Sc cfg.lp (updP cfg.lp d z)) b) (hl:E.w.heap[b]?=iz (.loop rec)) (hr:rec.state=.ready/\rec.pending=i6/\rec.params=#[pr]/\rec.assign=assign/\rec.body=body/\rec.tmps.size=nt)
  (hargs:VRs E (ze cfg.lp idN 0 d) (cfg.ls.map fun t=>rec.tmps.getD t undef)) {u:oc} (hu:VR E (asIV c x) u) :
  YieldAt ox 0 P b #[u] E.w fun en B=>∃E',PostB (mP cfg.lp) T0 E (Sc cfg.lp (updP cfg.lp d z)) E' (Sc cfg.lp (updP cfg.lp d z')) /\
   ((e=i6/\en=.returned (.bool i7)/\B=E'.w)\/∃cd,e=iz cd/\en=.returned (.bool eb)/\Upd [b] E'.w B/\B.heap[b]?=iz (.loop { rec with state:=.done,pending:=iz cd })):=by
 obtain⟨V,τ,σ,A,o,ρ⟩:=hr;unfold y9 at h;split at h
 ·grind
 rename_i r1 L;split at h<;>try cases h
 rename_i υ;split at h<;>try cases h
 rename_i β;split at h
 ·grind
 rename_i μ K;split at h<;>try cases h
 rename_i hds2;cases C:μ.e.isPan with
 | true=>rw[C] at h;cases h
 | false =>
 rw[C,xe] at h;split at h
 ·grind
 rename_i y hq;cases h;have γ:b<E.w.heap.size:=qk hl;have hy:=run_yield (P:=P) (args:=#[u]) hl (by rw[σ];rfl);refine⟨_,_,_,_,hy,roundIn_of_wpIn trivial ?_⟩;have ε:(Fence.wide.inRound b).plain=ox:=rfl;have Z:FR E nt (PT.leaf) rec.tmps:=⟨ρ,fun t ht=>.unk _⟩;have Y:FR E nt (vt [pr] [asIV c x] (putL cfg.ls (ze cfg.lp idN 0 d) .leaf)) ((rec.params.zip #[u]).foldl (fun tmps (t,a)=>tmps.setIfInBounds t a) rec.tmps):=by
  have:=qqo (ps:=[pr]) (VRs.cons hu VRs.nil) (q96 hargs rfl Z)
  grind
 rw[A];refine nk (T:=T0) (E:=E) (a:={ tmps:=_,defers:=[] }) (S:=Sc cfg.lp (updP cfg.lp d z)) (ds:=[]) (round:=i6) (B:=mP cfg.lp) (fun _ _=>trivial) hm ε hcl hfr htt assign hok.1 p (by rw[qau];omega) (fun _ _=>trivial) Y (DS.nil (N:=0) (pm _)) (fun h=>by rw[hrf.1] at h;cases h) L (fun _ _=>trivial) (fun _ _=>trivial) ?_;intro Q a1 x1 k0 k1 k2 R;rw[υ] at k0;cases k0;have χ:=R.apart p hb;have X:Q.w.heap[b]?=iz (.loop rec):=(R.at_same p hb).trans hl;have p1:Pre T0 Q r1.S:=R.pre (fun _ _=>trivial) p;have φ:=run_beginRound (P:=P) X V;refine⟨_,φ,?_⟩;generalize ω:(Q.w.putObj b (.loop { rec with state:=.busy }))=W1;have hs1:Beside b Q.w W1:=by rw[<- ω];exact Beside.put _ _ _
 have ψ:W1.heap[b]?=iz (.loop { rec with state:=.busy }):=by rw[<- ω];exact gc (qk X)
 obtain⟨G,p2,hb2⟩:=p1.beside χ hs1;have hs0:Beside b E.w (E.w.putObj b (.loop { rec with state:=.busy })):=Beside.put _ _ _;obtain⟨W,κ,O⟩:=p.beside hb hs0;have U:(E.w.putObj b (.loop { rec with state:=.busy })).heap[b]?=iz (.loop { rec with state:=.busy }):=gc γ;have ξ:=R.beside p hb hs0 hs1 (by rw[ψ,U]);rw[o];show body.wpIn _ 0 P _ a1 (Q.at_ W1).w;rw[β] at k2;refine nk (T:=T0) (E:=Q.at_ W1) (a:=a1) (S:=r1.S) (ds:=[]) (round:=i6) (B:=mP cfg.lp) (fun _ _=>trivial) hm ε hcl hfr htt body hok.2 p2 R.le (fun _ _=>trivial) (k1.mono G) (k2.mono G (by show Q.w.heap.size<=W1.heap.size;rw[<- ω];simp)) (fun h=>by rw[hrf.2] at h;cases h) K (fun _ _=>trivial) (fun _ _=>trivial) ?_;intro E3 a3 x3 F m1 m2 mB;have δ:=ξ.trans mB;have D:VRs (E.at_ (E.w.putObj b (.loop { rec with state:=.busy }))) (ze (sQ cfg.lp).ps idN 0 (updP cfg.lp d z)) (cfg.ls.map fun t=>rec.tmps.getD t undef):=by
  show VRs _ (ze cfg.lp idN 0 (updP cfg.lp d z)) _;rw[qdg];exact hargs.mono W
 obtain⟨k,e4,_,ν⟩:=q08 (s:=sQ cfg.lp) (r:=⟨.tup [],μ.S,0,0⟩) (x:=updP cfg.lp d z) (y:=y.1) (z:=y.2) (u:=.tuple #[]) hq κ D δ (.tup (us:=[]) rfl (fun i h=>by simp at h));have hb4:=ν.apart κ O;have M:k.w.heap[b]?=iz (.loop { rec with state:=.busy }):=(ν.at_same κ O).trans U;have I:=fun j=>run_endRound (P:=P) j M;have hs4:Beside b k.w (k.w.putObj b (.loop rec)):=Beside.put _ _ _;have m:=ν.beside κ O hs0.symm hs4 (by rw[gc (qk M)];exact hl.symm);have H:PostB (mP cfg.lp) T0 E (Sc cfg.lp (updP cfg.lp d z)) (k.at_ (k.w.putObj b (.loop rec))) (Sc cfg.lp (updP cfg.lp d y.2)):=by
  have e1:ScB (sQ cfg.lp) y.1 y.2=Sc cfg.lp (updP cfg.lp d y.2):=qyi cfg.lp d y.2;rw[e1] at m;exact m
 rw[<- e4];have hrec:({ rec with state:=.ready,pending:=i6 }:Loop)=rec:=by
  cases rec;cases V;cases τ;rfl
 have f:∀cd,∃v n,(Instr.endRound b (iz cd)).run P k.w=.ok v n/\∃E',PostB (mP cfg.lp) T0 E (Sc cfg.lp (updP cfg.lp d z)) E' (Sc cfg.lp (updP cfg.lp d y.2)) /\
   ((iz cd=i6/\Ending.returned v=.returned (.bool i7)/\n=E'.w)\/∃cd',iz cd=iz cd'/\Ending.returned v=.returned (.bool eb)/\Upd [b] E'.w n/\n.heap[b]?=iz (.loop { rec with state:=.done,pending:=iz cd' })):=fun cd=>by
  refine⟨_,_,I (iz cd),k.at_ (k.w.putObj b (.loop rec)),H,.inr ⟨cd,rfl,rfl,?_,?_⟩⟩
  ·exact hs4.symm.upd.trans ((Beside.put k.w b _).upd)
  ·exact gc (qk M)
 cases α:μ.e with
 | normal =>
  rw[α] at F;cases F;refine⟨_,_,I i6,k.at_ (k.w.putObj b (.loop rec)),H,.inl ⟨rfl,rfl,?_⟩⟩;show k.w.putObj b (.loop { rec with state:=.ready,pending:=i6 })=k.w.putObj b (.loop rec)
  grind
 | ret =>
  rw[α] at F;cases F;obtain⟨v,n,ι,E',θ,g⟩:=f .ret;refine⟨v,n,ι,E',θ,?_⟩;rcases g with ⟨g,_⟩|⟨cd,g,η,ζ,J⟩
  ·grind
  ·exact .inr ⟨cd,g,η,ζ,by rw[A,o] at J;exact J⟩
 | exit i =>
  rw[α] at F;cases F;obtain⟨v,n,ι,E',θ,g⟩:=f (.exit i);refine⟨v,n,ι,E',θ,?_⟩;rcases g with ⟨g,_⟩|⟨cd,g,η,ζ,J⟩
  ·grind
  ·exact .inr ⟨cd,g,η,ζ,by rw[A,o] at J;exact J⟩
 | goto l =>
  rw[α] at F;cases F;obtain⟨v,n,ι,E',θ,g⟩:=f (.goto l);refine⟨v,n,ι,E',θ,?_⟩;rcases g with ⟨g,_⟩|⟨cd,g,η,ζ,J⟩
  ·grind
  ·exact .inr ⟨cd,g,η,ζ,by rw[A,o] at J;exact J⟩
 | pan q=>rw[α] at C;cases C
end
end Go.Jx
end

noncomputable section
namespace Go.Jx
open Go Go.Sx Go.RowKit
universe u

def ym(P:om)(gf:Nat)(us:Lz oc)(Rd:oh->Prop){α:Type}(V:α->oc->oh->oh->Prop)(xs:Lz α):Prop :=
 ∀(l:Nat) (J:Lz α->oh->Prop) (K:oh->Prop) (W:oh),(∀s A B,J s A->Upd [] A B->J s B)->(∀A B,K A->Upd [] A B->K B)->(∀s A,J s A->Rd A) ->
  (∀pre x post A0 A u,xs=pre++x::post->J pre A0->Upd [] A0 A->V x u A0 A->YieldAt ox 0 P l #[u] A fun e B=>(∀b,A0.heap.size<=b->b<A.heap.size->B.heap[b]?=A.heap[b]?)/\((e=.returned (.bool i7)/\J (pre++[x]) B)\/(e=.returned (.bool eb)/\K B))) ->
  J [] W->mf ox 0 P gf (#[.func (.yield l) #[] #[]]++us.toArray) W fun e B=>e=.returned (.tuple #[])/\(J xs B\/K B)
structure SmI where
 ips:List PK
 c:TC
 xs:ElP ips->Option (List (El c))
def q1e(E:Env)(s:SmI)(x:ElP s.ips)(us:Lz oc)(rows:Lz Nat):Prop :=
 (∀ρ k,Nums ρ k rows->VRs E (ze s.ips ρ k x) us)/\qdy E rows (zr s.ips idN 0 x)
structure ConI (P:om) (f:Nat) (s:SmI):Prop where
 callable:zg P f
 ns:nPI s.ips=0
 it:∀(E:Env) (x:ElP s.ips) (us:List oc) (rows:List Nat) (l:List (El s.c)),s.xs x=iz l->Gl E.m E.w->q1e E s x us rows ->
  ym P f us (fun W=>E.Le (E.at_ W)/\∀id∈rows,W.heap[E.ρ id]?=E.w.heap[E.ρ id]?) (fun x u A0 A=>∀E:Env,E.w=A->(∀b∈E.m,b<A0.heap.size)->VR E (asIV s.c x) u) l
def kj:(l:Lz PK)->ElP l->ElP (refs l)
 | [],_=>()
 | .dat _::l,x=>kj l x.2
 | .fn _::l,x=>kj l x
 | .bnd _ _::l,x=>kj l x
 | .ref _::l,x=>(x.1,kj l x.2)
theorem qe0:∀(l:Lz PK) (x:ElP l),updP l x (kj l x)=x
 | [],_=>rfl
 | .dat c::l,x=>xy (fun q=>(x.1,q)) (qe0 l x.2)
 | .fn _::l,x=>qe0 l x
 | .bnd _ _::l,x=>qe0 l x
 | .ref r::l,x=>xy (fun q=>(x.1,q)) (qe0 l x.2)
theorem qj4{D α:Type}(g:D->α->Oq (D × Oq fw)):∀(pre post:Lz α) (z z':D),foldB g pre z=iz (z',i6)->foldB g (pre++post) z=foldB g post z'
 | [],post,z,z',h=>by cases h;rfl
 | x::pre,post,z,z',h=>by
  simp only[foldB,rn] at h ⊢;cases hg:g z x with
  | none=>rw[hg] at h;cases h
  | some q =>
   obtain⟨z1,e⟩:=q;rw[hg] at h;cases e with
   | none=>exact qj4 g pre post z1 z' h
   | some e=>cases h
section
variable (P : om) (tt : Nat -> Oq TI)
def itB(S2:IS)(cfg:LpC)(id nt:Nat)(irows rows subs:Lz Nat)(w2:Nat)(assign body:fw):Bool :=
 ndB (id::(irows++(rows++subs)))&&(irows.all (rowB S2)&&(rows.all (rowB S2)&&(qi assign&&(qi body&&(!jo assign&&(!jo body&&(cfg.ls.all (fun t=>oo t nt)&&!w2.testBit id)))))))
def qcj(S2:IS)(cfg:LpC)(id nt:Nat)(fr:PT IV)(pr D:Nat)(assign body:fw)(irows rows subs:Lz Nat)(w:Nat)(q:ElP (refs cfg.lp) × Oq fw):Res :=
 ⟨.tup [],(jd (sQ cfg.lp) S2.next rows subs () q.1 S2).set id (.loop (cond q.2.isNone .ready .done) q.2 nt fr [pr] assign body D),2 ^ id,2 ^ id ||| (w ||| qn (irows++(rows++subs)))⟩
def itF(s:SmI)(cfg:LpC)(lf:Nat)(cl:Cl)(vs:Lz IV)(S:IS):Oq Res:=match vs with
 | .yield id::caps=>match rdP s.ips S caps with
  | none=>i6
  | some (xi,irows,_,S1,w1)=>match S1.heap.get id with
   | some (.loop .ready i6 nt fr [pr] assign body D)=>match rdP cfg.lp S1 (cfg.ls.map (slot fr)) with
    | none=>i6
    | some (d0,rows,subs,S2,w2)=>cond (itB S2 cfg id nt irows rows subs w2 assign body) (match fiP cfg.lp rows subs S2 d0 with
     | none=>i6
     | some d=>match s.xs xi with
      | none=>i6
      | some l=>match foldB (y9 P tt cfg s.c nt lf cl pr assign body d) l (kj cfg.lp d) with
       | none=>i6
       | some q=>iz (qcj S2 cfg id nt fr pr D assign body irows rows subs (w1 ||| w2) q)) i6
   | _=>i6
 | _=>i6
end
section
variable {P : om} {tt : Nat -> Oq TI}
theorem qus{s:SmI}{cfg:LpC}{lf:Nat}{cl:Cl}{vs:Lz IV}{S:IS}{r:Res}(h:itF P tt s cfg lf cl vs S=iz r) :
  ∃id caps xi irows isubs S1 w1 nt fr pr assign body D d0 rows subs S2 w2 d l q,vs=.yield id::caps/\rdP s.ips S caps=iz (xi,irows,isubs,S1,w1)/\S1.heap.get id=iz (.loop .ready i6 nt fr [pr] assign body D) /\
   rdP cfg.lp S1 (cfg.ls.map (slot fr))=iz (d0,rows,subs,S2,w2)/\itB S2 cfg id nt irows rows subs w2 assign body=i7/\fiP cfg.lp rows subs S2 d0=iz d/\s.xs xi=iz l /\
   foldB (y9 P tt cfg s.c nt lf cl pr assign body d) l (kj cfg.lp d)=iz q/\r=qcj S2 cfg id nt fr pr D assign body irows rows subs (w1 ||| w2) q:=by
 unfold itF at h;split at h<;>try cases h
 rename_i id caps;split at h
 ·grind
 rename_i xi irows isubs S1 w1 b;split at h<;>try cases h
 rename_i nt fr pr assign body D a;split at h
 ·grind
 grind
theorem zyw{s:SmI}{cfg:LpC}{lf:Nat}{cl:Cl}{vs:Lz IV}{S:IS}:FrO S (itF P tt s cfg lf cl vs S):=fun r h=>by
 obtain⟨m,n,C,f,j,K,p,u,B,t,c,g,D,J,a,e,o,w2,d,l,q,rfl,A,E,z,F,I,H,G,rfl⟩:=qus h;have x:=qeh _ A;have w:=qeh _ z;have v:=(qk9 e o).trans ((qjo a (zr (refs cfg.lp) (nuB a (mP cfg.lp) o.next) (mP cfg.lp) q.1) _).trans (qfc (newO (sQ cfg.lp) () q.1) _ 0));have k:=(x.trans w).trans (v.trans (FrX.set _ m (.loop (cond q.2.isNone .ready .done) q.2 u B [t] c g D)));refine⟨k.1,fun i y b=>k.2 i y ?_⟩;have b:(2 ^ m ||| ((p ||| w2) ||| qn (f++(a++e)))).testBit i=eb:=b;simp only[qma,dq,g9,Nat.zero_testBit] at b ⊢
 grind
theorem zxx{s:SmI}{cfg:LpC}{lf:Nat}{cl:Cl}{vs:Lz IV}{S:IS}{r:Res}(h:itF P tt s cfg lf cl vs S=iz r)(hw:r.wr=0):False:=by
 obtain⟨j,g,k,c,b,E,n,p,A,o,a,i,D,B,f,e,C,m,d,l,q,rfl,z,t,y,u,x,w,v,rfl⟩:=qus h;have:2 ^ j=0:=(or_zero hw).1
 grind
end
end Go.Jx
end

noncomputable section
namespace Go.Jx
open Go Go.Sx Go.RowKit
universe u

section
variable {P : om} {tt : Nat -> Oq TI}
theorem zsb(hm:P.follows .mixedOrders=i7)(htt:TT P tt){f:Nat}{s:SmI}{cfg:LpC}{lf:Nat}(hc:ConI P f s){cl:Cl}(hcl:ClOK P cl)(hfr:ClFr cl){vs:Lz IV}{S:IS}{r:Res}(h:itF P tt s cfg lf cl vs S=iz r)
   {T:TW} {E:Env} {us:Lz oc} (p:Pre T E S) (hrd:tin T.r r.rd) (hwr:tin T.w r.wr) (hv:VRs E vs us):zg P f/\mf ox 0 P f us.toArray E.w (RetE T E S r):=by
 refine⟨hc.callable,?_⟩;obtain⟨I,caps,xi,C,μ,S1,w1,nt,fr,pr,assign,body,D,d0,v,n,R,w2,d,l,q,rfl,Q,ho,ω,hb,h3,h4,h5,rfl⟩:=qus h;obtain⟨t1,t2⟩:=zp hwr;obtain⟨t3,t4⟩:=zp t2;obtain⟨t5,t6⟩:=zp t3;have L:=zi t1;have Y:=qmu t4;unfold itB at hb;simp only[xf] at hb;obtain⟨b1,b2,b3,b4,b5,b6,b7,b8,b9⟩:=hb;have hnd:=qc6 b1;obtain⟨u0,us,rfl,a1,a2⟩:=hv.inv;have hA:E.A I:=by cases a1;assumption
 obtain⟨E1,e1,q1,f1,il1,il2,iA,ib2,ib3,iok⟩:=qdm s.ips Q p t5 a2;have p1:=q1.pre p;have hle1:=q1.env p;obtain⟨z1,z2,z3,z4,z5⟩:=hle1.alw I hA;obtain⟨fn,tmps,g1,g2,g3⟩:=p1.st.objs I (T.sub _ L) z1 _ ho;have hls:VRs E1 (cfg.ls.map (slot fr)) (cfg.ls.map fun t=>tmps.getD t undef):=⟨by simp,fun i τ hi2=>by
   simp only[de];refine g2.get _ ?_;have:=(xz.1 b8) (cfg.ls[i]'(by simpa using τ)) (p5 _);simpa using this⟩
 obtain⟨y,e2,q2,f2,l1,l2,A2,c2,c3,cok⟩:=qdm cfg.lp ω p1 t6 hls;have U:=q2.pre p1;have β:=q2.env p1;obtain⟨_,y2,y3⟩:=vq cfg.lp h3 l2;have hq12:=Post.trans p q1 f1 q2;have hf12:=f1.trans f2 q1.le;have hS2:R.H I=iz (.loop .ready i6 nt fr [pr] assign body D):=by
   rw[(qeh _ ω).2 I (p1.bnd I z1) (by simpa using b9)];exact ho
 obtain⟨η,x2,x3,x4,x5⟩:=β.alw I z1;obtain⟨fn',tmps',g1',g2',g3'⟩:=U.st.objs I (T.sub _ L) η _ hS2;obtain⟨nq1,nq2⟩:=jbj.1 hnd;have nq3:=(dr.1 nq2);have F:Held T y R cfg.lp d v n:=⟨l1,l2,nq3.2.1,fun i τ=>Y i (gg _ τ),A2,cok,fun ι hι1 hι j o hj=>by
     obtain⟨id',g1,g2,g3,g4,_⟩:=qik h3 l2 U (fun i τ=>T.sub _ (Y i (gg _ (ge _ τ)))) (c3 _ _ hι (.inr hι1)) j o hj;exact⟨id',g1,g2,g3,g4⟩,
   fun i τ=>qod ((xz.1 b3) i τ),y3⟩
 have σ:I ∉ v++n:=fun τ=>nq1 (gg _ τ);have hirq:∀i,i∈C->i ∉ v++n:=fun i Q ω=>nq3.2.2 i Q i ω rfl;have κ:=F.pre U;have V:Live y R.H I:=⟨U.st.blk I (T.sub _ L) η _ hS2 rfl,_,hS2,rfl⟩;have υ:∀i,i ∉ v++n->T.r i->y.A i->Live y R.H i->∀k,(renE 0 (v++n) y).A k->Live (renE 0 (v++n) y) (Sc cfg.lp d).H k->(renE 0 (v++n) y).ρ k≠y.ρ i:=fun i τ ht ha ψ k hk hkl e=>by
   have hk1:k<(v++n).length:=by have:=hk.1;omega
   have hm1:=(q8 hk1).1;obtain⟨h0,o,ho1,ho2⟩:=hkl;have hl2:Live y R.H (ol 0 (v++n) k):=⟨h0,(F.obj U hk1 hk.2 ho1).live ho2⟩;have:=U.st.inj _ _ (T.sub _ (F.w _ hm1)) ht hk.2 ha hl2 ψ e;exact τ (this▸hm1)
 have ε:su (renE 0 (v++n) y) (Sc cfg.lp d) (y.ρ I):=⟨U.st.own I (T.sub _ L) η V,υ I σ (T.sub _ L) η V⟩;generalize hE0:renE 0 (v++n) y=E0 at κ ε υ;have γ:E0.w=y.w:=by rw[<- hE0];rfl
 have hE0m:E0.m=y.m:=by rw[<- hE0];rfl
 generalize hbk:y.ρ I=b at ε g1';obtain⟨rec,O⟩:∃rec:Loop,rec={ state:=.ready,pending:=i6,fn:=fn',tmps:=tmps',params:=[pr].toArray,assign:=assign,body:=body,defers:=y.ρ D }:=⟨_,rfl⟩;have hl0:E0.w.heap[b]?=iz (.loop rec):=by rw[γ,g1',O]
 have htm:tmps'=tmps:=by
   have Q:=g1';rw[e2,<- hbk,x2,g1] at Q;have Q:=gk Q;injection Q with Q
   injection Q with _ _ _ Q
   exact Q.symm
 have hargs:VRs E0 (ze cfg.lp idN 0 d) (cfg.ls.map fun t=>rec.tmps.getD t undef):=by
   have e:rec.tmps=tmps:=by rw[O];exact htm
   rw[e,<- hE0];exact argsP_env (E:=y) (E':=renE 0 (v++n) y) (ρ:=ol 0 (v++n)) (fun _ h=>h) rfl cfg.lp cok (dk (x6 _)) (fun j a=>Held.numTo y _ (by rw[F.len];omega)) (by rw[y2];exact c2 _ _ F.num.1 (.inr F.num.1))
 generalize hg:y9 P tt cfg s.c nt lf cl pr assign body d=g at h5;have hd0:updP cfg.lp d (kj cfg.lp d)=d:=qe0 _ _;have ζ:∀I,mP cfg.lp<=I->T0.w I:=fun _ _=>trivial
 -- the two states of affairs
 let J:Lz (El s.c)->oh->Prop:=fun G W=>∃z Ei,foldB g G (kj cfg.lp d)=iz (z,i6)/\PostB (mP cfg.lp) T0 E0 (Sc cfg.lp d) Ei (Sc cfg.lp (updP cfg.lp d z))/\Ei.w=W
 let K:oh->Prop:=fun W=>∃z cd Ei,foldB g l (kj cfg.lp d)=iz (z,iz cd)/\PostB (mP cfg.lp) T0 E0 (Sc cfg.lp d) Ei (Sc cfg.lp (updP cfg.lp d z))/\Upd [b] Ei.w W/\W.heap[b]?=iz (.loop { rec with state:=.done,pending:=iz cd })
 have hJ0:J [] E0.w:=⟨kj cfg.lp d,E0,rfl,by rw[hd0];exact PostB.refl (by rw[qau];omega) ζ κ,rfl⟩;have hJu:∀s A B,J s A->Upd [] A B->J s B:=fun G A B ⟨z,Ei,θ,M,φ⟩ u=>by
   subst φ;obtain⟨i1,χ⟩:=Post.idle (M.pre ζ κ) u;exact⟨z,Ei.at_ B,θ,M.trans (PostB.of M.le ζ i1 χ),rfl⟩
 have hKu:∀A B,K A->Upd [] A B->K B:=fun A B ⟨z,cd,Ei,θ,M,φ,k4⟩ u=>⟨z,cd,Ei,θ,M,φ.trans (u.mono (by simp)),(u.same _ (qk k4) (by simp)).trans k4⟩;have hns:Nums idN 0 μ:=by
   have:μ=[]:=p8.1 (by rw[il2,(qpx hc.ns).1]);rw[this];intro j I hj;simp at hj
 have hrow:∀(j:Nat) (o:IObj),(zr s.ips idN 0 xi)[j]?=iz o->∃i,C[j]?=iz i/\y.A i/\(o.blk=i7->y.hb i=i7)/\OR y i o:=fun j o hj=>by
   obtain⟨i,i1,χ,i3,i4⟩:=ib3 idN 0 hns (.inl (qpx hc.ns).2) j o hj;obtain⟨j1,j2,j3,j4,j5⟩:=β.alw i χ;exact⟨i,i1,j1,fun hb=>j5.trans (i3 hb),i4.mono β χ i3 (fun _ _=>by rw[e2])⟩
 have hread:q1e y s xi us C:=⟨fun ρ k hk=>(ib2 ρ k hk (.inl (qpx hc.ns).2)).mono β,hrow⟩;have hRd:∀G A,J G A->y.Le (y.at_ A)/\∀i∈C,A.heap[y.ρ i]?=y.w.heap[y.ρ i]?:=fun G A ⟨z,Ei,θ,M,φ⟩=>by
   subst φ;have ν:∀x,x<y.w.heap.size->(∀k,E0.A k->Live E0 (Sc cfg.lp d).H k->E0.ρ k≠x)->Ei.w.heap[x]?=y.w.heap[x]?:=fun x hx hn=>by
     rw[<- γ];exact M.same x (by rw[γ];exact hx) fun k _=>hn k
   have hle:y.Le (y.at_ Ei.w):=⟨fun _ h=>⟨h,rfl,rfl,rfl,rfl⟩,⟨fun x hx hxm=>⟨hxm,ν x hx fun k ha ψ e=>hxm (by rw[<- e,<- hE0m];exact κ.st.own k trivial ha ψ)⟩⟩⟩;refine⟨hle,fun i hin=>?_⟩;obtain⟨j,hj,rfl⟩:=db.1 hin;have hj2:j<(zr s.ips idN 0 xi).length:=by rw[qe,<- il1];exact hj
   obtain⟨i,i1,χ,i3,i4⟩:=hrow j _ (xc hj2);rw[xc hj] at i1;cases i1;obtain⟨cs,hcs⟩:=qod ((xz.1 b2) _ hin);have hTi:T.r C[j]:=T.sub _ (Y _ (ge _ hin));have i3:y.hb C[j]=i7:=U.st.blk _ hTi χ _ hcs rfl;have hlt:y.ρ C[j]<y.w.heap.size:=U.st.lo _ (U.st.own _ hTi χ ⟨i3,_,hcs,rfl⟩);exact ν _ hlt (υ _ (hirq _ hin) hTi χ ⟨i3,_,hcs,rfl⟩)
 have hround:∀G x N A0 A u,l=G++x::N->J G A0->Upd [] A0 A->(∀E:Env,E.w=A->(∀b∈E.m,b<A0.heap.size)->VR E (asIV s.c x) u)->YieldAt ox 0 P b #[u] A fun e B=>(∀c,A0.heap.size<=c->c<A.heap.size->B.heap[c]?=A.heap[c]?)/\((e=.returned (.bool i7)/\J (G++[x]) B)\/(e=.returned (.bool eb)/\K B)):=fun G x N A0 A u ψ ⟨z,Ei0,θ,k20,k30⟩ hup0 hu=>by
   subst k30;have hpi:=k20.pre ζ κ;obtain⟨i1,χ⟩:=Post.idle hpi hup0;have M:=k20.trans (PostB.of k20.le ζ i1 χ);have ξ:∀k,(Ei0.at_ A).A k->Live (Ei0.at_ A) (Sc cfg.lp (updP cfg.lp d z)).H k->(Ei0.at_ A).ρ k<Ei0.w.heap.size:=fun k ha ψ=>hpi.st.lo _ (hpi.st.own k trivial ha ψ);obtain⟨Ei,hEi⟩:∃Ei,Ei=Ei0.at_ A:=⟨_,rfl⟩;have hEw:Ei.w=A:=by rw[hEi];rfl
   rw[<- hEi] at M ξ;rw[<- hEw];have hb0:b<Ei0.w.heap.size:=qk ((k20.at_same κ ε).trans hl0);have Z:foldB g (x::N) z=iz q:=by
     rw[<- qj4 g G (x::N) _ _ θ,<- ψ];exact h5
   have hsnoc:foldB g (G++[x]) (kj cfg.lp d)=foldB g [x] z:=qj4 g G [x] _ _ θ;cases δ:g z x with
   | none=>simp only[foldB,δ] at Z;cases Z
   | some q1 =>
   obtain⟨z1,e⟩:=q1;rw[<- hg] at δ;have hlow:(E0.bel (mP cfg.lp)).Le Ei:=M.env κ;have hargsB:VRs (E0.bel (mP cfg.lp)) (ze cfg.lp idN 0 d) (cfg.ls.map fun t=>rec.tmps.getD t undef) :=
     argsP_env (E:=E0) (E':=E0.bel (mP cfg.lp)) (ρ:=idN) (fun _ h=>h) rfl cfg.lp cok (dk (x6 _)) (fun j hj hA=>⟨⟨hA,by show j<mP cfg.lp;omega⟩,rfl,rfl,rfl,rfl⟩) hargs
   have hst:=zum (E:=Ei) (b:=b) (rec:=rec) hm hcl hfr htt δ ⟨b4,b5⟩ ⟨by simpa using b6,by simpa using b7⟩ (M.pre ζ κ) (M.apart κ ε) ((M.at_same κ ε).trans hl0)
     (by rw[O];exact⟨rfl,rfl,rfl,rfl,rfl,g2'.size⟩) (hargsB.mono hlow) (hu Ei hEw (by rw[hEi];exact hpi.st.lo))
   obtain⟨fnr,tmpr,asr,bdr,hyr,hRr⟩:=hst;refine⟨fnr,tmpr,asr,bdr,hyr,hRr.mono fun en B hB=>?_⟩;obtain⟨E',m1,m2⟩:=hB;have hall:=M.trans m1;rw[hg] at δ;have X:∀c,Ei0.w.heap.size<=c->c<Ei.w.heap.size->E'.w.heap[c]?=Ei.w.heap[c]?:=fun c Q ω=>m1.same c ω fun k _ ha ψ e=>by
     have:=ξ k ha ψ;omega
   rcases m2 with ⟨rfl,rfl,rfl⟩|⟨cd,rfl,rfl,m3,m4⟩
   · refine⟨X,.inl ?_⟩;refine⟨rfl,z1,E',?_,hall,rfl⟩;rw[hsnoc];simp only[foldB,δ]
   · refine⟨fun c Q ω=>(m3.same c (qk ((X c Q ω).trans (ja2 ω))) (by simp;omega)).trans (X c Q ω),.inr ?_⟩;refine⟨rfl,z1,cd,E',?_,hall,m3,m4⟩;rw[ψ,qj4 g G (x::N) _ _ θ];simp only[foldB,δ]
 have hit:=hc.it y xi us C l h4 U.gl hread b J K E0.w hJu hKu hRd hround hJ0;have hu0:u0=.func (.yield b) #[] #[]:=by
   cases a1;rw[<- hbk,x2,z2]
 have hw:E0.w=E.w:=by rw[γ,e2,e1]
 rw[hw] at hit;rw[hu0,show (Value.func (.yield b) #[] #[]::us).toArray=#[.func (.yield b) #[] #[]]++us.toArray by simp];refine hit.mono fun en B ⟨hen,hB⟩=>?_
 -- what comes back
 have hfin:∀(z:ElP (refs cfg.lp)) (pe:Oq fw) (Ei:Env),q=(z,pe)->PostB (mP cfg.lp) T0 E0 (Sc cfg.lp d) Ei (Sc cfg.lp (updP cfg.lp d z))->Upd [b] Ei.w B ->
     B.heap[b]?=iz (.loop { rec with state:=cond pe.isNone .ready .done,pending:=pe })->RetE T E S (qcj R cfg I nt fr pr D assign body C v n (w1 ||| w2) q) en B:=fun z pe Ei hqz M hup hbl=>by
   subst hqz;rw[<- qyi cfg.lp d z,<- hE0] at M;obtain⟨m1,m2⟩:=F.back (s:=sQ cfg.lp) (x:=d) U M;have p3:=m1.pre U;have α:=m1.env U;obtain⟨n1,n2,n3,n4,n5⟩:=α.alw I η;have hlt:I<R.next:=U.bnd I η
   have hobj:(jd (sQ cfg.lp) R.next v n () z R).H I=iz (.loop .ready i6 nt fr [pr] assign body D):=by
     unfold jd;rw[kf,qh5,qm5,xx hlt,s6 (fun h=>σ (ge _ h)),qdv (fun h=>σ (gg _ h))];exact hS2
   have hL3:Live (mrgR y Ei R.next (mP (sQ cfg.lp).ps)) (jd (sQ cfg.lp) R.next v n () z R).H I:=⟨n5.trans V.1,_,hobj,rfl⟩;have hub:Upd [(mrgR y Ei R.next (mP (sQ cfg.lp).ps)).ρ I] (mrgR y Ei R.next (mP (sQ cfg.lp).ps)).w B:=by rw[n2,hbk];exact hup
   have hle4:=Env.at_le p3.st L n1 hL3 hub;obtain⟨w1',w2'⟩:=Post.write p3 (o':=.loop (cond pe.isNone .ready .done) pe nt fr [pr] assign body D) L n1 hL3 hub ⟨fn',tmps',by
     show B.heap[(mrgR y Ei R.next (mP (sQ cfg.lp).ps)).ρ I]?=_;rw[n2,hbk,hbl,O];have:y.ρ D=(mrgR y Ei R.next (mP (sQ cfg.lp).ps)).ρ D:=((α.alw D g3').2.1).symm;show iz (Obj.loop { state:=cond pe.isNone .ready .done,pending:=pe,fn:=fn',tmps:=tmps',params:=[pr].toArray,assign:=assign,body:=body,defers:=y.ρ D })=_;rw[this];rfl,(g2'.mono α).mono hle4,(hle4.alw D (α.alw D g3').1).1⟩
   have r1:=Post.trans p hq12 hf12 m1;have rf1:=hf12.trans m2 hq12.le;exact⟨_,_,hen,rfl,.tup (us:=[]) rfl (fun i h=>by simp at h),Post.trans p r1 rf1 w1',rf1.trans w2' r1.le⟩
 rcases hB with ⟨z,Ei,θ,M,φ⟩|⟨z,cd,Ei,θ,M,φ,k4⟩
 · refine hfin z i6 Ei (gk (h5.symm.trans θ)) M (by rw[φ];exact Upd.refl _ _) ?_;rw[<- φ,(M.at_same κ ε).trans hl0,O];rfl
 · exact hfin z (iz cd) Ei (gk (h5.symm.trans θ)) M φ k4
end
end Go.Jx
end

noncomputable section
namespace Go.Jx
open Go Go.Sx Go.RowKit
universe u

section
variable (P : om) (tt : Nat -> Oq TI)
end
section
variable {P : om} {tt : Nat -> Oq TI}
def qyo:Nat->Oq Nm:=fun k=>cond (od k 999999) (iz ⟨[],[],[],[],[],0,0,eb⟩) i6
end
end Go.Jx
end

noncomputable section
namespace Go.Jx
open Go Go.Sx Go.RowKit
universe u

section
variable {P : om} {tt : Nat -> Oq TI} {ft : Nat -> Oq FI}
end
end Go.Jx
end

noncomputable section
set_option maxRecDepth 100000
namespace Go.Proofs.YtaepcfidpcoofaaGreatDoor
open Go Go.Sx Go.RowKit Go.Jx
abbrev zqn:Type:=Int × Bq × Lz RType × Bool × Bool
abbrev zf:Type:=Int × Int
abbrev zc:Type:=Int × Bq × Int × Lz RExpr
abbrev zb:Type:=Int × Bq × zf
abbrev zzg:Type:=Bq × zc
abbrev zh3:Type:=Int × Bq × Int × Lz zc × Lz zzg × Lz RStmt × Lz RStmt × Lz RStmt
abbrev qlu:Type:=Int × Int
abbrev jc:Type:=zb × Int × Int
namespace S
def isSmall(b:Int):Bool:=decide (97<=b)&&decide (b<=122)
def isCap(b:Int):Bool:=decide (65<=b)&&decide (b<=90)
def isDig(b:Int):Bool:=decide (48<=b)&&decide (b<=57)
def isPart(b:Int):Bool:=isSmall b||isCap b||isDig b||decide (b=95)
def isLow(b:Int):Bool:=isPart b&&!isCap b
def isHigh(b:Int):Bool:=isPart b&&!isSmall b
def has(l:Lz Bq)(s:Bq):Bool:=l.any fun x=>keqS x s
def runL(l:Lz Int):Nat:=(l.takeWhile isPart).length
def run0(s:Bq):Int:=we (runL (za s))
def numGo:Lz Int->Int->Int × Int
 | [],n=>(n,0)
 | b::r,n=>if 1099511627776<10*n+(b-48) then (0,3) else numGo r (10*n+(b-48))
def number(s:Bq):Int × Int :=
 if (za s).all isDig=eb then (0,2)
 else if (za s)[0]?=iz 48/\1<s.size then (0,2)
 else numGo (za s) 0
def wordsT:Lz Bq:=[S.lit [84,114,117,101],S.lit [70,97,108,115,101],S.lit [86,111,105,100],S.lit [67,117,114,114,101,110,116],S.lit [82,101,115,117,108,116]]
def smallWords:Lz Bq:=[S.lit [116,114,117,101],S.lit [102,97,108,115,101],S.lit [118,111,105,100],S.lit [99,117,114,114,101,110,116],S.lit [114,101,115,117,108,116]]
def keywords:Lz Bq:=[S.lit [97,110,100],S.lit [97,115],S.lit [97,116,116,97,99,104,101,100],S.lit [99,104,101,99,107],S.lit [99,108,97,115,115],S.lit [99,114,101,97,116,101],S.lit [100,101,102,101,114,114,101,100],S.lit [100,101,116,97,99,104,97,98,108,101],S.lit [100,111],S.lit [101,108,115,101],S.lit [101,110,100],S.lit [101,110,115,117,114,101],S.lit [102,101,97,116,117,114,101],S.lit [102,114,111,109],S.lit [105,102],S.lit [105,109,112,108,105,101,115],S.lit [105,110,104,101,114,105,116],S.lit [105,110,118,97,114,105,97,110,116],S.lit [108,111,99,97,108],S.lit [108,111,111,112],S.lit [110,111,116],S.lit [111,108,100],S.lit [111,114],S.lit [112,117,116],S.lit [114,97,105,115,101],S.lit [114,101,100,101,102,105,110,101],S.lit [114,101,110,97,109,101],S.lit [114,101,113,117,105,114,101],S.lit [114,101,115,99,117,101],S.lit [114,101,116,114,121],S.lit [115,101,108,101,99,116],S.lit [115,101,112,97,114,97,116,101],S.lit [116,104,101,110],S.lit [117,110,100,101,102,105,110,101],S.lit [117,110,116,105,108],S.lit [118,97,114,105,97,110,116],S.lit [119,104,101,110]]
def signs:Lz Bq:=[S.lit [58,61],S.lit [47,61],S.lit [60,61],S.lit [62,61],S.lit [47,47],S.lit [61],S.lit [60],S.lit [62],S.lit [43],S.lit [45],S.lit [42],S.lit [37],S.lit [40],S.lit [41],S.lit [91],S.lit [93],S.lit [123],S.lit [125],S.lit [44],S.lit [59],S.lit [58],S.lit [46]]
def word(s:Bq):Int × Int :=
 if has keywords s||has wordsT s then (3,0)
 else if has smallWords s then (0,4)
 else if (za s).any isSmall&&(za s).any isCap then (0,2)
 else if 20<s.size then (0,3)
 else if (za s).any isSmall then (1,0)
 else (2,0)
def shape(s:Bq):Int × Int :=
 if has signs s then (5,0)
 else match (za s)[0]? with
  | none=>(0,2)
  | some b=>if runL (za s)<s.size then (0,2)
   else if b=95 then (0,2)
   else if isDig b then (if (number s).2=0 then (4,0) else (0,(number s).2))
   else word s
def value(s:Bq):Int × Int :=
 if (shape s).2=0 then (if (shape s).1=4 then number s else (0,2)) else (0,(shape s).2)
def signL(l:Lz Int):Bq:=match signs.find? (fun x=>(za x).isPrefixOf l) with|some x=>x|none=>S.lit []
def digs(s:Bq):Bool:=(za s).all isDig
def lows(s:Bq):Bool:=(za s).all isLow
def highs(s:Bq):Bool:=(za s).all isHigh
def isPre(s p:Bq):Bool:=(za p).isPrefixOf (za s)
def wordly(s:Bq):Bool:=(za s).all isPart&&(match (za s)[0]? with|some b=>isSmall b||isCap b|none=>eb)
end S
def qji:Sm:=⟨[],[(i7,.str)],fun _=>iz (S.keywords,())⟩
def qw0:Sm:=⟨[.list .str,.str],[(eb,.bool)],fun x=>iz (S.has x.1 x.2.1,())⟩
def spz2:Sm:=⟨[.str],[(eb,.int .i64)],fun x=>iz (S.run0 x.1,())⟩
def spz7:Sm:=⟨[.str],[(eb,.int .i64),(eb,.int .i64)],fun x=>iz ((S.number x.1).1,(S.number x.1).2,())⟩
def q30:Sm:=⟨[.str],[(eb,.int .i64),(eb,.int .i64)],fun x=>cond (S.wordly x.1) (iz ((S.word x.1).1,(S.word x.1).2,())) i6⟩
def qhh:Sm:=⟨[.str,.str],[(eb,.bool)],fun x=>iz (S.isPre x.1 x.2.1,())⟩
def spz3:Sm:=⟨[.list .str,.str],[(eb,.int .i64)],fun x=>iz (S.idx (fun y=>keqS x.2.1 y) x.1,())⟩
def qij:Sm:=⟨[.str],[(eb,.str)],fun x=>iz (S.signL (za x.1),())⟩
def qd1:Sm:=⟨[.str],[(eb,.int .i64),(eb,.int .i64)],fun x=>iz ((S.shape x.1).1,(S.shape x.1).2,())⟩
def spz4:SmR:=⟨[.dat .str,.fn 341],[(eb,.bool)],fun x=>iz ((S.digs x.1,()),())⟩
def spz5:SmR:=⟨[.dat .str,.fn 362],[(eb,.bool)],fun x=>iz ((S.lows x.1,()),())⟩
def spz6:SmR:=⟨[.dat .str,.fn 363],[(eb,.bool)],fun x=>iz ((S.highs x.1,()),())⟩
abbrev qkd:Type:=Lz zb × Lz zb × zf × Int
namespace S
def fits(s:Bq):Bool:=og s.size 1000000
def splitL:Lz Int->Lz (Lz Int)
 | []=>[[]]
 | b::r=>if b=10 then []::splitL r else match splitL r with
  | []=>[[b]]
  | l::ls=>(b::l)::ls
def lines(s:Bq):Lz Bq:=(splitL (za s)).map zq
def lastGo(c:Int):Lz Int->Nat->Int->Int
 | [],_,r=>r
 | b::l,i,r=>lastGo c l (i+1) (if b=c then we i else r)
def lastB(l:Lz Int)(c:Int):Int:=lastGo c l 0 (-1)
def sumLen:Lz (Lz Int)->Int
 | []=>0
 | l::r=>we l.length+1+sumLen r
def placeGo:Lz Int->Int->Int->Int × Int
 | [],n,c=>(n,c)
 | b::r,n,c=>if b=10 then placeGo r (n+1) 1 else placeGo r n (c+1)
def zv3(l:Lz (Lz Int))(p:Int × Int):Int × Int :=
 if p.1<1\/we l.length<p.1\/p.2<1 then (0,1)
 else match l[(p.1-1).toNat]? with
  | none=>(0,1)
  | some x=>if we x.length+1<p.2 then (0,1) else (p.2-1+sumLen (l.take (p.1-1).toNat),0)
def offset (s:Bq) (p:Int × Int):Int × Int:=zv3 (splitL (za s)) p
def placeOf(s:Bq)(n:Int):(Int × Int) × Int :=
 if n<0\/we s.size<n then ((0,0),1) else (placeGo ((za s).take n.toNat) 1 1,0)
end S
def spz9:Sm:=⟨[.str,.int .u8],[(eb,.int .i64)],fun x=>iz (S.lastB (za x.1) x.2.1,())⟩
def qv0:Sm:=⟨[.str,.int .u8],[(eb,.int .i64)],fun x=>iz (S.lastB (za x.1) x.2.1,())⟩
def qpl:Sm:=⟨[.str,.int .i64],[(eb,jl),(eb,.int .i64)],fun x=>cond (S.fits x.1) (iz ((S.placeOf x.1 x.2.1).1,(S.placeOf x.1 x.2.1).2,())) i6⟩
def qp1:Sm:=⟨[.str,.str],[(eb,.int .i64)],fun x=>cond (keqS x.2.1 (S.lit [10])) (iz (S.indexB (za x.1) 10,())) i6⟩
def spz8:Sm:=⟨[.str,.str,.int .i64,.int .i64],[(i7,.str)],fun x=>cond (keqS x.2.1 (S.lit [10])&&(ieqI x.2.2.1 0&&(ieqI x.2.2.2.1 (-1)&&S.fits x.1))) (iz (S.lines x.1,())) i6⟩
def qp0:Sm:=⟨[.str,.str],[(i7,.str)],fun x=>cond (keqS x.2.1 (S.lit [10])&&S.fits x.1) (iz (S.lines x.1,())) i6⟩
namespace S
def qsa:Lz Bq->Lz Int
 | []=>[]
 | s::l=>za s++10::qsa l
def q8a:Lz Bq->Int->Lz Int
 | [],_=>[]
 | s::l,n=>n::q8a l (n+(1+S.countB (za s) 10))
def join(l:Lz Bq):Bq × Lz Int × Int :=
 if 24<l.length\/20000<(qsa l).length then (S.lit [],[],3) else (zq (qsa l),q8a l 1,0)
end S
namespace S
def noteGo:Lz Int->Nat->Bool × Nat
 | [],n=>(i7,n)
 | b::r,n=>if b=10 then (i7,n) else if b<32\/126<b then (eb,n) else noteGo r (n+1)
def two(s:Bq)(a:Int):Bool:=decide (0<=a)&&decide (a+2<=we s.size)
def tok(r:Lz Int):Nat × Int × Int × Nat :=
 if [45,45].isPrefixOf r then
  (cond (noteGo (r.drop 2) 2).1 ((noteGo (r.drop 2) 2).2,6,0,0) (0,0,2,(noteGo (r.drop 2) 2).2))
 else if 0<runL r then (runL r,(shape (zq (r.take (runL r)))).1,(shape (zq (r.take (runL r)))).2,0)
 else if (signL r).size=0 then (0,0,2,0)
 else ((signL r).size,5,0,0)
def pcs:Nat->Lz Int->Nat->Lz (Int × Bq × Nat) × Oq (Nat × Int)
 | 0,_,_=>([],i6)
 | f+1,[],c=>([],i6)
 | f+1,b::r,c=>if b=32 then pcs f r (c+1)
  else if (tok (b::r)).2.2.1=0 then
   (((tok (b::r)).2.1,zq ((b::r).take (tok (b::r)).1),c)::(pcs f ((b::r).drop (tok (b::r)).1) (c+(tok (b::r)).1)).1,(pcs f ((b::r).drop (tok (b::r)).1) (c+(tok (b::r)).1)).2)
  else ([],iz (c+(tok (b::r)).2.2.2,(tok (b::r)).2.2.1))
def at_(n:Int)(l:Lz (Int × Bq × Nat)):Lz zb:=l.map fun x=>(x.1,x.2.1,n,we x.2.2)
def readL:Lz (Lz Int)->Int->Lz zb × zf × Int
 | [],_=>([],(0,0),0)
 | l::ls,n=>match (pcs (l.length+1) l 1).2 with
  | some (c,e)=>([],(n,we c),e)
  | none=>if (readL ls (n+1)).2.2=0 then (at_ n (pcs (l.length+1) l 1).1++(readL ls (n+1)).1,(0,0),0) else readL ls (n+1)
def isNote(t:zb):Bool:=decide (t.1=6)
def isTok(t:zb):Bool:=!isNote t
def lexed(r:Lz zb × zf × Int):qkd:=if r.2.2=0 then (r.1.filter isTok,r.1.filter isNote,(0,0),0) else ([],[],r.2.1,r.2.2)
def readG(s:Bq):qkd:=lexed (readL (splitL (za s)) 1)
def tokens(s:Bq):qkd:=if 20000<s.size then ([],[],(0,0),3)
 else if (readG s).2.2.2=0/\6000<(readG s).1.length then ([],[],(0,0),3) else readG s
end S
namespace S
def badB(b:Int):Bool:=decide (b<32)||decide (126<b)
def pieceX(r:Lz Int)(a:Nat):jc × Nat :=
 if [45,45].isPrefixOf r then (match r.findIdx? badB with
  | none=>(((6,zq r,0,0),we a,0),r.length)
  | some i=>(((0,S.lit [],0,0),we (a+i),2),r.length))
 else if 0<runL r/\¬r[0]?=iz 95 then (((((shape (zq (r.take (runL r)))).1,zq (r.take (runL r)),0,0),we a,(shape (zq (r.take (runL r)))).2),runL r))
 else if (signL r).size=0 then (((5,S.lit [],0,0),we a,2),0)
 else (((5,signL r,0,0),we a,0),(signL r).size)
def piecesGo:Nat->Lz Int->Nat->Lz jc
 | 0,_,_=>[]
 | f+1,[],_=>[]
 | f+1,b::r,a=>if b=32 then piecesGo f r (a+1)
  else if (pieceX (b::r) a).1.2.2=0 then (pieceX (b::r) a).1::piecesGo f ((b::r).drop (pieceX (b::r) a).2) (a+(pieceX (b::r) a).2)
  else [(pieceX (b::r) a).1]
def pieces(s:Bq):Lz jc:=piecesGo (s.size+1) (za s) 0
def rdGo(w:Int->Bool)(n:Int):Lz jc->Lz zb->Lz zb × Oq (zf × Int)
 | [],a=>(a,i6)
 | p::l,a=>if p.2.2=0 then rdGo w n l (cond (w p.1.1) (a++[(p.1.1,p.1.2.1,n,1+p.2.1)]) a) else ([],iz ((n,1+p.2.1),p.2.2))
end S
def spz1:SmR:=⟨[.dat .str,.fn 274],[(eb,.int .i64)],fun x=>iz ((S.idx S.badB (za x.1),()),())⟩
namespace S
def kinds(l:Lz zb):Lz (Int × Bq):=l.map fun t=>(t.1,t.2.1)
def pk(l:Lz (Int × Bq × Nat)):Lz (Int × Bq):=l.map fun x=>(x.1,x.2.1)
def plain(x:Int × Bq × Nat):Bool:=!decide (x.1=6)
def right(t:zb):Bool:=decide ((shape t.2.1).2=0)&&decide ((shape t.2.1).1=t.1)
def line(r:Lz Int):Lz (Int × Bq × Nat) × Oq (Nat × Int):=pcs (r.length+1) r 1
def needs(a b:zb):Bool:=!((line (za a.2.1++za b.2.1)).2.isNone&&decide (pk ((line (za a.2.1++za b.2.1)).1.filter plain)=kinds [a,b]))
def putB(bl:zb->zb->Bool):Lz zb->Lz Int
 | []=>[]
 | a::l=>match l with
  | []=>za a.2.1
  | b::_=>za a.2.1++(cond (bl a b) (32::putB bl l) (putB bl l))
def sameK(a b:Lz zb):Bool:=decide (kinds a=kinds b)
end S
def qor:Sm:=⟨[.str],[(eb,.list zd),(eb,jl),(eb,.int .i64)],fun x=>cond (S.fits x.1) (iz ((S.tokens x.1).1,(S.tokens x.1).2.2.1,(S.tokens x.1).2.2.2,())) i6⟩
end Go.Proofs.YtaepcfidpcoofaaGreatDoor
end

noncomputable section
namespace Go.Jx
open Go Go.Sx Go.RowKit
universe u

def vf{D α:Type}(g:D->α->Oq (D × Bool)):Lz α->D->Oq (D × Bool)
 | [],d=>iz (d,eb)
 | x::xs,d=>match g d x with
  | none=>i6
  | some (d',b)=>cond b (iz (d',i7)) (vf g xs d')
def endR:IEx->Oq Bool
 | .normal=>iz eb
 | .ret=>iz i7
 | _=>i6
def retR{D:Type}:Oq (D × Oq fw)->Oq (D × Bool)
 | some (d,i6)=>iz (d,eb)
 | some (d,iz .ret)=>iz (d,i7)
 | _=>i6
def qqv(b:Bool):Oq fw:=cond b (iz .ret) i6
theorem zrk{D:Type}{o:Oq (D × Oq fw)}{d:D}{b:Bool}(h:retR o=iz (d,b)):o=iz (d,qqv b):=by
 unfold retR at h;split at h<;>cases h<;>rfl
theorem qyq{D α:Type}(g:D->α->Oq (D × Oq fw)):∀(xs:Lz α) (d d':D) (b:Bool),vf (fun d x=>retR (g d x)) xs d=iz (d',b)->foldB g xs d=iz (d',qqv b)
 | [],d,d',b,h=>by cases h;rfl
 | x::xs,d,d',b,h=>by
  simp only[vf,foldB] at h ⊢;cases hg:retR (g d x) with
  | none=>rw[hg] at h;cases h
  | some q =>
   obtain⟨z,e⟩:=q;rw[hg] at h;rw[zrk hg];cases e with
   | false=>exact qyq g xs z d' b h
   | true=>cases h;rfl
section
variable (P : om) (tt : Nat -> Oq TI)
def qky(cfg:LpC)(c:TC)(nt lf:Nat)(clP:ClP)(pr:Nat)(assign body:fw)(d:ElP cfg.lp)(z:ElP (refs cfg.lp))(x:El c):Oq (ElP (refs cfg.lp) × Bool) :=
 zy P tt cfg.nm (mP cfg.lp) nt (clP (ElP (refs cfg.lp) × Bool)) lf i6 assign (vt [pr] [asIV c x] (putL cfg.ls (ze cfg.lp idN 0 d) .leaf)) (Sc cfg.lp (updP cfg.lp d z)) [] fun r1=>match r1.e with
  | .normal=>match r1.ds with
   | []=>zy P tt cfg.nm (mP cfg.lp) nt (clP (ElP (refs cfg.lp) × Bool)) lf i6 body r1.fr r1.S [] fun r2=>match r2.ds with
     | []=>match endR r2.e with
      | none=>i6
      | some b=>match runQ (sQ cfg.lp) ⟨.tup [],r2.S,0,0⟩ with
       | none=>i6
       | some y=>iz (y.2,b)
     | _=>i6
   | _=>i6
  | _=>i6
theorem z0e{cfg:LpC}{c:TC}{nt lf:Nat}{cl:Cl}{clP:ClP}(hcl:∀R,ClEq cl (clP R))(pr:Nat)(assign body:fw)(d:ElP cfg.lp)(z:ElP (refs cfg.lp))(x:El c) :
  qky P tt cfg c nt lf clP pr assign body d z x=retR (y9 P tt cfg c nt lf cl pr assign body d z x):=by
 unfold qky y9;rw[y1 (hcl _)];cases zh P tt cfg.nm (mP cfg.lp) nt cl lf i6 assign (vt [pr] [asIV c x] (putL cfg.ls (ze cfg.lp idN 0 d) .leaf)) (Sc cfg.lp (updP cfg.lp d z)) [] with
 | none=>rfl
 | some r1 =>
  simp only[bd];cases r1.e<;>try rfl
  simp only;cases r1.ds with
  | cons _ _=>rfl
  | nil =>
   simp only;rw[y1 (hcl _)];cases zh P tt cfg.nm (mP cfg.lp) nt cl lf i6 body r1.fr r1.S [] with
   | none=>rfl
   | some r2 =>
    simp only[bd];cases r2.ds with
    | cons _ _=>rfl
    | nil =>
     simp only;cases r2.e<;>cases runQ (sQ cfg.lp) ⟨.tup [],r2.S,0,0⟩<;>rfl
def itR(s:SmI)(cfg:LpC)(lf:Nat)(cl:Cl)(vs:Lz IV)(S:IS):Oq Res:=match vs with
 | .yield id::caps=>match rdP s.ips S caps with
  | none=>i6
  | some (xi,irows,_,S1,w1)=>match S1.heap.get id with
   | some (.loop .ready i6 nt fr [pr] assign body D)=>match rdP cfg.lp S1 (cfg.ls.map (slot fr)) with
    | none=>i6
    | some (d0,rows,subs,S2,w2)=>cond (itB S2 cfg id nt irows rows subs w2 assign body) (match fiP cfg.lp rows subs S2 d0 with
     | none=>i6
     | some d=>match s.xs xi with
      | none=>i6
      | some l=>match vf (fun z x=>retR (y9 P tt cfg s.c nt lf cl pr assign body d z x)) l (kj cfg.lp d) with
       | none=>i6
       | some z=>iz (qcj S2 cfg id nt fr pr D assign body irows rows subs (w1 ||| w2) (z.1,qqv z.2))) i6
   | _=>i6
 | _=>i6
def itRK(s:SmI)(cfg:LpC)(lf:Nat)(clP:ClP)(R:Type)(vs:Lz IV)(S:IS)(kk:Res->Oq R):Oq R:=match vs with
 | .yield id::caps=>match rdP s.ips S caps with
  | none=>i6
  | some (xi,irows,_,S1,w1)=>match S1.heap.get id with
   | some (.loop .ready i6 nt fr [pr] assign body D)=>match rdP cfg.lp S1 (cfg.ls.map (slot fr)) with
    | none=>i6
    | some (d0,rows,subs,S2,w2)=>cond (itB S2 cfg id nt irows rows subs w2 assign body) (match fiP cfg.lp rows subs S2 d0 with
     | none=>i6
     | some d=>match s.xs xi with
      | none=>i6
      | some l=>match vf (qky P tt cfg s.c nt lf clP pr assign body d) l (kj cfg.lp d) with
       | none=>i6
       | some z=>cond z.2 (kk (qcj S2 cfg id nt fr pr D assign body irows rows subs (w1 ||| w2) (z.1,iz .ret))) (kk (qcj S2 cfg id nt fr pr D assign body irows rows subs (w1 ||| w2) (z.1,i6)))) i6
   | _=>i6
 | _=>i6
end
section
variable {P : om} {tt : Nat -> Oq TI}
theorem zy5(s:SmI)(cfg:LpC)(lf:Nat)(cl:Cl)(clP:ClP)(hcl:∀R,ClEq cl (clP R))(R:Type)(vs:Lz IV)(S:IS)(kk:Res->Oq R):itRK P tt s cfg lf clP R vs S kk=ob (itR P tt s cfg lf cl vs S) kk:=by
 unfold itRK itR;cases vs with
 | nil=>rfl
 | cons v caps =>
 cases v<;>try rfl
 rename_i u;simp only;cases rdP s.ips S caps with
 | none=>rfl
 | some a =>
 obtain⟨p,m,_,n,C⟩:=a;simp only;cases n.heap.get u with
 | none=>rfl
 | some o =>
 cases o<;>try rfl
 rename_i r t k w j f g D;cases r<;>try rfl
 cases t<;>try rfl
 cases j with
 | nil=>rfl
 | cons pr j =>
 cases j with
 | cons _ _=>rfl
 | nil =>
 simp only;cases rdP cfg.lp n (cfg.ls.map (slot w)) with
 | none=>rfl
 | some b =>
 obtain⟨y,i,h,A,B⟩:=b;simp only[qp];cases fiP cfg.lp i h A y with
 | none=>rfl
 | some d =>
 simp only;cases s.xs p with
 | none=>rfl
 | some l =>
 have e:qky P tt cfg s.c k lf clP pr f g d=fun z x=>retR (y9 P tt cfg s.c k lf cl pr f g d z x):=by
  funext z x;exact z0e P tt hcl pr f g d z x
 simp only[e];cases vf (fun z x=>retR (y9 P tt cfg s.c k lf cl pr f g d z x)) l (kj cfg.lp d) with
 | none=>rfl
 | some q=>obtain⟨z,b⟩:=q;cases b<;>rfl
theorem qso{s:SmI}{cfg:LpC}{lf:Nat}{cl:Cl}{vs:Lz IV}{S:IS}{r:Res}(h:itR P tt s cfg lf cl vs S=iz r):itF P tt s cfg lf cl vs S=iz r:=by
 unfold itR at h;unfold itF;split at h<;>try cases h
 try simp only
 split at h
 ·grind
 rename_i g;try rw[g]
 try simp only
 split at h<;>try cases h
 rename_i f;try rw[f]
 try simp only
 split at h
 ·grind
 rename_i e;try rw[e]
 try simp only
 cases a:itB _ cfg _ _ _ _ _ _ _ _ with
 | false=>rw[a] at h;cases h
 | true =>
 rw[a] at h;simp only[xa] at h ⊢;split at h
 ·grind
 rename_i d;try rw[d]
 try simp only
 split at h
 ·grind
 rename_i c;try rw[c]
 try simp only
 split at h<;>cases h;rename_i b;rw[qyq _ _ _ _ _ b]
def itRx(P:om)(tt:Nat->Oq TI)(s:SmI)(cfg:LpC)(lf:Nat):Hx:=⟨itR P tt s cfg lf,fun clP R vs S kk=>itRK P tt s cfg lf clP R vs S kk,fun cl clP hcl R vs S kk=>zy5 s cfg lf cl clP hcl R vs S kk⟩
theorem qze(hm:P.follows .mixedOrders=i7)(htt:TT P tt){f:Nat}{s:SmI}(cfg:LpC)(lf:Nat)(hc:ConI P f s):HxOK P f (itRx P tt s cfg lf).f :=
 .of (fun c i g _ b S r h T E j p e a d=>zsb hm htt hc i g (qso h) p e a d) (fun c _ b S r h=>zyw r (qso h)) (fun c _ b S r h a _=>(zxx (qso h) a).elim)
end
end Go.Jx
end

noncomputable section
namespace Go.Jx
open Go Go.Sx Go.RowKit
theorem qi9{P:om}{f:Nat}{s:Sm}(h:Con P f s)(w:oh)(hg:Gl [] w)(x:ElA s.pts)(us:Lz oc)(y:ElR s.rts)(hf:s.f x=iz y)(hv:VRs (EM [] w) (argV s.pts x) us) :
  mi P f us.toArray w (Ret fun v w'=>(∃E',VR E' (tupI (resV s.rts 0 y)) v)/\Upd [] w w') :=
 (dc.1 (h.calls [] w x us y hf (fun b c=>by cases c) hg hv)).mono fun e w' g=>by
  obtain⟨v,E',rfl,rfl,d,a,j⟩:=g;exact⟨⟨E',d⟩,a.stp.os,a.stp.tape,a.stp.output,a.stp.size,fun b c _=>a.stp.same b c fun k _ i _=>i.elim⟩
theorem qli{E:Env}{k:ff}{n:Int}{v:oc}(h:VR E (.int k n) v):v=.int k n:=by cases h;rfl
theorem qx1{E:Env}{s:Bq}{v:oc}(h:VR E (.str s) v):v=.string s:=by cases h;rfl
theorem zdy{E:Env}{b:Bool}{v:oc}(h:VR E (.bool b) v):v=.bool b:=by cases h;rfl
end Go.Jx
end

noncomputable section
namespace Go.Sx
open Go Go.RowKit
section
variable {P : om} {ops : Array o8} {rest : Lz o8} {n : Nat} {σ : Nat -> oc} {w : oh} {d : Nat} {ty : ov} {pos : String} {aft : Array Edge} {g : Oq (Nat × Bool)}
theorem zfr{T:ov}{s:Bq}{k:Nat}{kk:ff}(hT:P.underlying T=iz .string)(hk:k<=s.size) :
  (f8 T (.string s) (iz (.int kk (k:Nat))) i6 i6).run P w=.ok (.string (s.extract k s.size)) w:=by
 have a:(0:Int)<=(k:Nat)/\((k:Nat):Int)<=s.size:=⟨by omega,by omega⟩;simp only[f8,xh,xm hT,xb,io,o6,fy,asIntOf];simp;omega
theorem zwi{T:ov}{s:Bq}{k:Nat}{kk:ff}(hT:P.underlying T=iz .string)(hk:k<=s.size) :
  (f8 T (.string s) i6 (iz (.int kk (k:Nat))) i6).run P w=.ok (.string (s.extract 0 k)) w:=by
 have a:(0:Int)<=(k:Nat)/\((k:Nat):Int)<=s.size:=⟨by omega,by omega⟩;simp only[f8,xh,xm hT,xb,io,o6,fy,asIntOf,dv];simp;omega
theorem zgp{Q:Exit->Act->oh->Prop}{T:ov}{x y:fh}{s:Bq}{k:Nat}{kk:ff}(hT:P.underlying T=iz .string)(hg:qf ops σ n g=i7)(hx:(okO n x&&okO n y)=i7)(ex:ev σ x=.string s)(ey:ev σ y=.int kk (k:Nat))(hk:k<=s.size)
  (kt:wpList P ops Q rest (Fr n (upd σ d (.string (s.extract k s.size)))) w):wpList P ops Q (⟨iz d,.slice T x (iz y) i6 i6,ty,pos,aft,g⟩::rest) (Fr n σ) w:=by
 simp only[xf] at hx;exact ju hg (by simp only[execOp,ql hx.1,ex,Option.map_none,jau,ql hx.2,ey,zfr hT hk,xh,xd,xb]) kt
theorem zj8{Q:Exit->Act->oh->Prop}{T:ov}{x y:fh}{s:Bq}{k:Nat}{kk:ff}(hT:P.underlying T=iz .string)(hg:qf ops σ n g=i7)(hx:(okO n x&&okO n y)=i7)(ex:ev σ x=.string s)(ey:ev σ y=.int kk (k:Nat))(hk:k<=s.size)
  (kt:wpList P ops Q rest (Fr n (upd σ d (.string (s.extract 0 k)))) w):wpList P ops Q (⟨iz d,.slice T x i6 (iz y) i6,ty,pos,aft,g⟩::rest) (Fr n σ) w:=by
 simp only[xf] at hx;exact ju hg (by simp only[execOp,ql hx.1,ex,Option.map_none,jau,ql hx.2,ey,zwi hT hk,xh,xd,xb]) kt
end
end Go.Sx
end

noncomputable section
namespace Go.Jx
open Go Go.Sx Go.RowKit
def qey(g:Nat):Lz IV->Bool
 | []=>eb
 | v::l=>match l with
  | []=>match v with
   | .fn f _=>od f g
   | _=>eb
  | _=>qey g l
def qeb(p:Lz IV->Bool)(a b:Hx):Hx:=⟨fun cl vs S=>cond (p vs) (a.f cl vs S) (b.f cl vs S),fun clP R vs S kk=>cond (p vs) (a.k clP R vs S kk) (b.k clP R vs S kk),fun cl clP h R vs S kk=>by
 cases p vs with
 | true=>exact a.eq cl clP h R vs S kk
 | false=>exact b.eq cl clP h R vs S kk⟩
theorem qhu{P:om}{f:Nat}{p:Lz IV->Bool}{a b:Hx}(ha:HxOK P f a.f)(hb:HxOK P f b.f):HxOK P f (qeb p a b).f:=by
 refine⟨fun d g j i c S r e=>?_,fun d g c S=>?_,fun d g c S r e=>?_⟩
 ·have e:cond (p c) (a.f d c S) (b.f d c S)=iz r:=e;cases h:p c with
  | true=>rw[h] at e;exact ha.fn d g j i c S r e
  | false=>rw[h] at e;exact hb.fn d g j i c S r e
 ·show FrO S (cond (p c) (a.f d c S) (b.f d c S));cases p c with
  | true=>exact ha.fr d g c S
  | false=>exact hb.fr d g c S
 ·have e:cond (p c) (a.f d c S) (b.f d c S)=iz r:=e;cases h:p c with
  | true=>rw[h] at e;exact ha.calm d g c S r e
  | false=>rw[h] at e;exact hb.calm d g c S r e
end Go.Jx
end

noncomputable section
set_option maxRecDepth 100000
namespace Go.Proofs.YtaepcfidpcoofaaGreatDoor
open Go Go.Sx Go.RowKit Go.Jx
theorem zwp:IdxFacts oa ttT.get zd qwd (cL qm7) (cL (cL (cR qm7))) (cB (cB (cR (cL (cR qm7))))) (cR (cR qm7)) :=
 ⟨by kernel_rfl,by kernel_rfl,fun c=>by kernel_rfl,fun R b f c d l g a S e=>by kernel_rfl,fun R b f c d l g a S e=>by kernel_rfl,fun R b f c d l g a S i e=>by kernel_rfl,fun R b f c d h S e=>by kernel_rfl,by kernel_rfl,by kernel_rfl,fun c=>by kernel_rfl⟩
theorem q9b:HxOK oa 282 (idxF zd):=znm zwp mixed ttOK z0i
theorem zm5:SixFacts oa ttT.get qve (cL qnh) (cL (cL (cR qnh))) (cB (cB (cR (cL (cR qnh))))) (cR (cR qnh)) :=
 ⟨by kernel_rfl,by kernel_rfl,fun e d=>by kernel_rfl,fun R f k e d i s g c b S j=>by kernel_rfl,fun R k e d i g c b a m l S o h j=>by kernel_rfl,fun R f k e d i n S j=>by kernel_rfl,by kernel_rfl,by kernel_rfl,fun e d=>by kernel_rfl⟩
theorem zvl:HxOK oa 340 sixF:=zqx zm5 mixed ttOK zv1
def nmz1:Nat->Oq Nm:=fun k=>cond (od k 999999) (iz ⟨[],[],[],[],[],0,0,eb⟩) i6
def stz1:Nat->Bool:=fun k=>eb
def hdz1:=stz1
abbrev Rtz1:Type:=(Int × Unit) × Unit
def qvs:Lz (Nat × Sm):=[]
def qoy:Lz (Nat × Hx):=[(340,zjk)]
def clz1(R:Type)(lf:Nat):ClK R:=zn oa ttT.get ftT.get (fun _ _=>i6) (smL qvs) (hxL qoy) lf 20 R
abbrev idz1:Nat:=273
def qqw(lf:Nat)(x1:Bq):Oq Rtz1:=(match (sixO (fun v0 v1=>(cond (iltI v1 (we 32)) (iz i7) (iz (iltI (we 126) v1)))) x1 i7 (o5 x1.size 1) 0) with|none=>i6|some v2=>(iz ((v2,()),())))
abbrev gz1:Type:=ElP [.dat .str,.fn 274]->Oq Rtz1
abbrev sz1(g:gz1):SmR:=⟨[.dat .str,.fn 274],[(eb,(.int .i64))],g⟩
abbrev Ez1(g:gz1)(J:JT Rtz1)(lf:Nat)(x1:Bq):=zm oa ttT.get nmz1 (mP [.dat .str,.fn 274]) qba.nt (clz1 _ lf) lf stz1 J qba.body [] (zk (ze [.dat .str,.fn 274] idN 0 (x1,())) 0 .leaf) (Sc [.dat .str,.fn 274] (x1,())) [] (z6 ttT.get qba (sz1 g))
theorem inz1(g:gz1)(J:JT Rtz1)(lf:Nat)(x1:Bq):Ez1 g J lf x1=qqw lf x1:=by kernel_rfl
theorem ndz1:(regs qba.body).Nodup:=by decide +kernel
theorem okz1:okC nmz1 stz1 hdz1 qba.body i6=i7:=by kernel_rfl
def Az1(g:gz1)(lf:Nat):JT Rtz1:=atQ oa ttT.get nmz1 qba (sz1 g) (clz1 _ lf) lf hdz1
def Fz1(lf:Nat)(x1:Bq):Oq Rtz1:=qqw lf x1
theorem zcj(g:gz1)(lf:Nat)(x1:Bq):Ez1 g (Az1 g lf) lf x1=Fz1 lf x1:=by
  refine(inz1 g (Az1 g lf) lf x1).trans ?_;rfl
theorem zub:zv oa qoy:=⟨zvl,trivial⟩
theorem mkz1{g:gz1}(hsm:SmOK oa qvs)(hg:∀(x:ElP [.dat .str,.fn 274]) (y:Rtz1),WfP [.dat .str,.fn 274] x->g x=iz y->∃lf,Fz1 lf x.1=iz y):ConR oa 273 ⟨[.dat .str,.fn 274],[(eb,(.int .i64))],g⟩ :=
 conTR (nmf:=nmz1) (sml:=qvs) (hxl:=qoy) (st:=stz1) (hd:=hdz1) 20 mixed ttOK ftOK hsm zub qzl (by kernel_rfl) (fun x=>by kernel_rfl) ndz1 okz1 fun x y z b a=>by
  obtain⟨lf,h⟩:=hg x (y,z) b a;exact⟨lf,(zcj g lf x.1).trans h⟩
theorem zyb(v:Int):(cond (iltI v (we 32)) (iz i7) (iz (iltI (we 126) v)))=iz (S.badB v):=by
 rw[qc,qc];unfold S.badB;show cond (decide (v<32)) _ (iz (decide (126<v)))=_;cases decide (v<32)<;>cases decide (126<v)<;>rfl
theorem zt1(r:Int)(h:128<=r):S.badB r=i7:=by
 unfold S.badB;rw[xt (show 126<r by omega),Bool.or_true]
theorem zdo(lf:Nat)(s:Bq):Fz1 lf s=iz ((S.idx S.badB (za s),()),()):=by
 have e:(fun(b:Nat) (a:Int)=>(cond (iltI a (we 32)) (iz i7) (iz (iltI (we 126) a))))=fun _ r=>iz (S.badB r):=by
  funext _ r;exact zyb r
 simp only[Fz1,qqw];rw[e,q66 zt1 (o5 s.size 1) 0 (by show s.size-0<s.size+1;omega)];rw[jb9];unfold S.idx;cases ia S.badB (za s) with
 | none=>rfl
 | some j=>simp only[x6]
theorem zmm:ConR oa idz1 spz1:=mkz1 trivial fun x y a h=>⟨0,(zdo 0 _).trans h⟩
def nmz2:Nat->Oq Nm:=fun k=>cond (od k 2) (iz ⟨[0,3],[],[],[],[],0,0,eb⟩) (i6)
def stz2:Nat->Bool:=fun k=>cond (od k 2) i7 (eb)
def hdz2:=stz2
abbrev Rtz2:Type:=Int × Unit
def q5r:Lz (Nat × Sm):=[]
def q8p:Lz (Nat × Hx):=[]
def clz2(R:Type)(lf:Nat):ClK R:=zn oa ttT.get ftT.get (nm1 271 nmz2) (smL q5r) (hxL q8p) lf 20 R
abbrev idz2:Nat:=271
def qbx(x1:Bq)(p:Int):NRes:=(NRes.mk (.node (iz (IV.str x1)) (.node i6 (.node (iz (IV.int .i64 p)) .leaf .leaf) .leaf) .leaf) (IS.mk .leaf 0) [] 0)
def q2t(lf:Nat)(x1:Bq)(L2:Int->Oq Rtz2):Oq Rtz2:=(L2 (we 0))
def qk1(lf:Nat)(x1:Bq)(L2:Int->Oq Rtz2)(p:Int):Oq Rtz2:=(cond (iltI p (we x1.size)) (match (jget (za x1) p) with|none=>i6|some v0=>(cond (Bool.not (iltI v0 (we 97))) (cond (Bool.not (iltI (we 122) v0)) (L2 (IntKind.i64.wrap (oe p (we 1)))) (cond (Bool.not (iltI v0 (we 65))) (cond (Bool.not (iltI (we 90) v0)) (L2 (IntKind.i64.wrap (oe p (we 1)))) (cond (Bool.not (iltI v0 (we 48))) (cond (Bool.not (iltI (we 57) v0)) (L2 (IntKind.i64.wrap (oe p (we 1)))) (cond (ieqI v0 (we 95)) (L2 (IntKind.i64.wrap (oe p (we 1)))) (iz (p,())))) (cond (ieqI v0 (we 95)) (L2 (IntKind.i64.wrap (oe p (we 1)))) (iz (p,()))))) (cond (Bool.not (iltI v0 (we 48))) (cond (Bool.not (iltI (we 57) v0)) (L2 (IntKind.i64.wrap (oe p (we 1)))) (cond (ieqI v0 (we 95)) (L2 (IntKind.i64.wrap (oe p (we 1)))) (iz (p,())))) (cond (ieqI v0 (we 95)) (L2 (IntKind.i64.wrap (oe p (we 1)))) (iz (p,())))))) (cond (Bool.not (iltI v0 (we 65))) (cond (Bool.not (iltI (we 90) v0)) (L2 (IntKind.i64.wrap (oe p (we 1)))) (cond (Bool.not (iltI v0 (we 48))) (cond (Bool.not (iltI (we 57) v0)) (L2 (IntKind.i64.wrap (oe p (we 1)))) (cond (ieqI v0 (we 95)) (L2 (IntKind.i64.wrap (oe p (we 1)))) (iz (p,())))) (cond (ieqI v0 (we 95)) (L2 (IntKind.i64.wrap (oe p (we 1)))) (iz (p,()))))) (cond (Bool.not (iltI v0 (we 48))) (cond (Bool.not (iltI (we 57) v0)) (L2 (IntKind.i64.wrap (oe p (we 1)))) (cond (ieqI v0 (we 95)) (L2 (IntKind.i64.wrap (oe p (we 1)))) (iz (p,())))) (cond (ieqI v0 (we 95)) (L2 (IntKind.i64.wrap (oe p (we 1)))) (iz (p,()))))))) (iz (p,())))
abbrev gz2:Type:=ElA [.str]->Oq Rtz2
abbrev sz2(g:gz2):Sm:=⟨[.str],[(eb,(.int .i64))],g⟩
abbrev Ez2(g:gz2)(J:JT Rtz2)(lf:Nat)(x1:Bq):=yr oa ttT.get nmz2 ue.nt (clz2 _ lf) lf stz2 J ue.body [] (zk (argV [.str] (x1,())) 0 .leaf) S0 [] (jf ttT.get ue (sz2 g))
abbrev Bz2(g:gz2)(J:JT Rtz2)(lf k:Nat)(ms:Lz Nat)(q:NRes):=nn oa ttT.get nmz2 ue.nt (clz2 _ lf) lf stz2 J k ue.body [] ms q (jf ttT.get ue (sz2 g))
theorem inz2(g:gz2)(J:JT Rtz2)(lf:Nat)(x1:Bq):Ez2 g J lf x1=q2t lf x1 (fun q=>J 2 [lf] (qbx x1 q)):=by kernel_rfl
theorem zpe(g:gz2)(J:JT Rtz2)(lf:Nat)(x1:Bq)(m1:Nat)(p:Int):Bz2 g J lf 2 [m1] (qbx x1 p)=qk1 lf x1 (fun q=>J 2 [m1] (qbx x1 q)) p:=by kernel_rfl
theorem ndz2:(regs ue.body).Nodup:=by decide +kernel
theorem okz2:okC nmz2 stz2 hdz2 ue.body i6=i7:=by kernel_rfl
def Az2(g:gz2)(lf:Nat):JT Rtz2:=atN oa ttT.get nmz2 ue (sz2 g) (clz2 _ lf) lf hdz2
def qmm(lf:Nat)(x1:Bq):Nat->(Int)->Oq Rtz2:=rounds fun K p=>qk1 lf x1 K p
theorem q9d(g:gz2)(lf:Nat)(x1:Bq):∀(n:Nat) (p:Int),Az2 g lf 2 [n] (qbx x1 p)=qmm lf x1 n p
 | 0,p=>sn 2 [0] rfl _
 | n+1,p=>by
  have ih:=q9d g lf x1 n;refine(c8 (qg 20 _) ndz2 okz2 2 [n+1] [n] rfl _).trans ((zpe g (Az2 g lf) lf x1 n p).trans ?_);rw[(show (fun q=>Az2 g lf 2 [n] (qbx x1 q))=(fun q=>qmm lf x1 n q) from funext ih)];rfl
def Fz2(lf:Nat)(x1:Bq):Oq Rtz2:=q2t lf x1 (fun q=>qmm lf x1 lf q)
theorem zd3(g:gz2)(lf:Nat)(x1:Bq):Ez2 g (Az2 g lf) lf x1=Fz2 lf x1:=by
  refine(inz2 g (Az2 g lf) lf x1).trans ?_;rw[(show (fun q=>Az2 g lf 2 [lf] (qbx x1 q))=(fun q=>qmm lf x1 lf q) from funext fun q=>q9d g lf x1 lf q)];rfl
theorem zd6:zv oa q8p:=trivial
theorem mkz2{g:gz2}(hsm:SmOK oa q5r)(hg:∀(x:ElA [.str]) (y:Rtz2),WfA [.str] x->g x=iz y->∃lf,Fz2 lf x.1=iz y):Con oa 271 ⟨[.str],[(eb,(.int .i64))],g⟩ :=
 conV (st:=stz2) (fun lf x=>Fz2 lf x.1) cm3 q7d zd6 ndz2 okz2 (fun lf x=>zd3 g lf x.1) hsm hg
def nmz3:Nat->Oq Nm:=fun k=>cond (od k 2) (iz ⟨[0,1,7,8],[],[],[],[],0,0,eb⟩) (i6)
def stz3:Nat->Bool:=fun k=>cond (od k 2) i7 (eb)
def hdz3:=stz3
abbrev Rtz3:Type:=Int × Unit
def q90:Lz (Nat × Sm):=[]
def q7s:Lz (Nat × Hx):=[]
def clz3(R:Type)(lf:Nat):ClK R:=zn oa ttT.get ftT.get (nm1 242 nmz3) (smL q90) (hxL q7s) lf 20 R
abbrev idz3:Nat:=242
def qb6(x1:(Lz Bq))(x2:Bq)(p:Int):NRes:=(NRes.mk (.node (iz (IV.lst TC.str x1)) (.node (iz (IV.str x2)) (.node i6 (.node (iz (IV.int .i64 (we x1.length))) .leaf .leaf) .leaf) .leaf) (.node i6 (.node i6 (.node (iz (IV.int .i64 p)) .leaf .leaf) .leaf) .leaf)) (IS.mk .leaf 0) [] 0)
def q6c(lf:Nat)(x1:(Lz Bq))(x2:Bq)(L2:Int->Oq Rtz3):Oq Rtz3:=(L2 (we 0))
def qii(lf:Nat)(x1:(Lz Bq))(x2:Bq)(L2:Int->Oq Rtz3)(p:Int):Oq Rtz3:=(cond (iltI p (we x1.length)) (match (jget x1 p) with|none=>i6|some v0=>(cond (keqS x2 v0) (iz (p,())) (L2 (IntKind.i64.wrap (oe p (we 1)))))) (iz ((ae 0),())))
abbrev gz3:Type:=ElA [(.list .str),.str]->Oq Rtz3
abbrev sz3(g:gz3):Sm:=⟨[(.list .str),.str],[(eb,(.int .i64))],g⟩
abbrev Ez3(g:gz3)(J:JT Rtz3)(lf:Nat)(x1:(Lz Bq))(x2:Bq):=yr oa ttT.get nmz3 bh.nt (clz3 _ lf) lf stz3 J bh.body [] (zk (argV [(.list .str),.str] (x1,x2,())) 0 .leaf) S0 [] (jf ttT.get bh (sz3 g))
abbrev Bz3(g:gz3)(J:JT Rtz3)(lf k:Nat)(ms:Lz Nat)(q:NRes):=nn oa ttT.get nmz3 bh.nt (clz3 _ lf) lf stz3 J k bh.body [] ms q (jf ttT.get bh (sz3 g))
theorem inz3(g:gz3)(J:JT Rtz3)(lf:Nat)(x1:(Lz Bq))(x2:Bq):Ez3 g J lf x1 x2=q6c lf x1 x2 (fun q=>J 2 [lf] (qb6 x1 x2 q)):=by kernel_rfl
theorem zvk(g:gz3)(J:JT Rtz3)(lf:Nat)(x1:(Lz Bq))(x2:Bq)(m1:Nat)(p:Int):Bz3 g J lf 2 [m1] (qb6 x1 x2 p)=qii lf x1 x2 (fun q=>J 2 [m1] (qb6 x1 x2 q)) p:=by kernel_rfl
theorem ndz3:(regs bh.body).Nodup:=by decide +kernel
theorem okz3:okC nmz3 stz3 hdz3 bh.body i6=i7:=by kernel_rfl
def Az3(g:gz3)(lf:Nat):JT Rtz3:=atN oa ttT.get nmz3 bh (sz3 g) (clz3 _ lf) lf hdz3
def qis(lf:Nat)(x1:(Lz Bq))(x2:Bq):Nat->(Int)->Oq Rtz3:=rounds fun K p=>qii lf x1 x2 K p
theorem zam(g:gz3)(lf:Nat)(x1:(Lz Bq))(x2:Bq):∀(n:Nat) (p:Int),Az3 g lf 2 [n] (qb6 x1 x2 p)=qis lf x1 x2 n p
 | 0,p=>sn 2 [0] rfl _
 | n+1,p=>by
  have ih:=zam g lf x1 x2 n;refine(c8 (qg 20 _) ndz3 okz3 2 [n+1] [n] rfl _).trans ((zvk g (Az3 g lf) lf x1 x2 n p).trans ?_);rw[(show (fun q=>Az3 g lf 2 [n] (qb6 x1 x2 q))=(fun q=>qis lf x1 x2 n q) from funext ih)];rfl
def Fz3(lf:Nat)(x1:(Lz Bq))(x2:Bq):Oq Rtz3:=q6c lf x1 x2 (fun q=>qis lf x1 x2 lf q)
theorem zqv(g:gz3)(lf:Nat)(x1:(Lz Bq))(x2:Bq):Ez3 g (Az3 g lf) lf x1 x2=Fz3 lf x1 x2:=by
  refine(inz3 g (Az3 g lf) lf x1 x2).trans ?_;rw[(show (fun q=>Az3 g lf 2 [lf] (qb6 x1 x2 q))=(fun q=>qis lf x1 x2 lf q) from funext fun q=>zam g lf x1 x2 lf q)];rfl
theorem zz6:zv oa q7s:=trivial
theorem mkz3{g:gz3}(hsm:SmOK oa q90)(hg:∀(x:ElA [(.list .str),.str]) (y:Rtz3),WfA [(.list .str),.str] x->g x=iz y->∃lf,Fz3 lf x.1 x.2.1=iz y):Con oa 242 ⟨[(.list .str),.str],[(eb,(.int .i64))],g⟩ :=
 conV (st:=stz3) (fun lf x=>Fz3 lf x.1 x.2.1) cm3 zro zz6 ndz3 okz3 (fun lf x=>zqv g lf x.1 x.2.1) hsm hg
abbrev qmk:Type:=Bool × Unit
abbrev zi1:Nat:=272
def q1t(lf:Nat)(x1:Bq)(x2:Bq):Oq qmk:=(cond (Bool.not (iltI (we x1.size) (we x2.size))) (cond (lchk (we 0) (we x2.size) (we x1.size) (we x1.size)) (iz ((keqS (au x1 0 (f7 (we x2.size))) x2),())) i6) (iz (eb,())))
def qif(lf:Nat)(x1:Bq)(x2:Bq):Oq qmk:=q1t lf x1 x2
theorem zis{g:ElA [.str,.str]->Oq qmk}(hsm:SmOK oa [])(hg:∀(x:ElA [.str,.str]) (y:qmk),WfA [.str,.str] x->g x=iz y->∃lf,qif lf x.1 x.2.1=iz y):Con oa 272 ⟨[.str,.str],[(eb,.bool)],g⟩ :=
 conU (fi:=q84) (hxl:=[]) (fun lf x=>qif lf x.1 x.2.1) cm3 q00 trivial hsm hg
def nmz4:Nat->Oq Nm:=fun k=>cond (od k 2) (iz ⟨[0,1,7,8],[],[],[],[],0,0,eb⟩) (cond (od k 999999) (iz ⟨[],[],[],[],[],0,0,eb⟩) i6)
def stz4:Nat->Bool:=fun k=>cond (od k 2) i7 (eb)
def hdz4:=stz4
abbrev Rtz4:Type:=(Bool × Unit) × Unit
def qsg:Lz (Nat × Sm):=[]
def qs4:Lz (Nat × Hx):=[]
def clz4(R:Type)(lf:Nat):ClK R:=zn oa ttT.get ftT.get (fun _ _=>i6) (smL qsg) (hxL qs4) lf 20 R
abbrev idz4:Nat:=359
def qcp(x1:Bq)(p:Int):NRes:=(NRes.mk (.node (iz (IV.str x1)) (.node (iz (IV.fn 341 [])) (.node i6 (.node (iz (IV.int .i64 (we x1.size))) .leaf .leaf) .leaf) .leaf) (.node i6 (.node i6 (.node (iz (IV.int .i64 p)) .leaf .leaf) .leaf) .leaf)) (IS.mk .leaf 0) [] 0)
def q8g(lf:Nat)(x1:Bq)(L2:Int->Oq Rtz4):Oq Rtz4:=(L2 (we 0))
def qja(lf:Nat)(x1:Bq)(L2:Int->Oq Rtz4)(p:Int):Oq Rtz4:=(cond (iltI p (we x1.size)) (match (jget (za x1) p) with|none=>i6|some v0=>(cond (Bool.not (iltI v0 (we 48))) (cond (Bool.not (Bool.not (iltI (we 57) v0))) (iz ((eb,()),())) (L2 (IntKind.i64.wrap (oe p (we 1))))) (iz ((eb,()),())))) (iz ((i7,()),())))
abbrev gz4:Type:=ElP [.dat .str,.fn 341]->Oq Rtz4
abbrev sz4(g:gz4):SmR:=⟨[.dat .str,.fn 341],[(eb,.bool)],g⟩
abbrev Ez4(g:gz4)(J:JT Rtz4)(lf:Nat)(x1:Bq):=zm oa ttT.get nmz4 (mP [.dat .str,.fn 341]) qu.nt (clz4 _ lf) lf stz4 J qu.body [] (zk (ze [.dat .str,.fn 341] idN 0 (x1,())) 0 .leaf) (Sc [.dat .str,.fn 341] (x1,())) [] (z6 ttT.get qu (sz4 g))
abbrev Bz4(g:gz4)(J:JT Rtz4)(lf k:Nat)(ms:Lz Nat)(q:NRes):=qj oa ttT.get nmz4 (mP [.dat .str,.fn 341]) qu.nt (clz4 _ lf) lf stz4 J k qu.body [] ms q (z6 ttT.get qu (sz4 g))
theorem inz4(g:gz4)(J:JT Rtz4)(lf:Nat)(x1:Bq):Ez4 g J lf x1=q8g lf x1 (fun q=>J 2 [lf] (qcp x1 q)):=by kernel_rfl
theorem zbp(g:gz4)(J:JT Rtz4)(lf:Nat)(x1:Bq)(m1:Nat)(p:Int):Bz4 g J lf 2 [m1] (qcp x1 p)=qja lf x1 (fun q=>J 2 [m1] (qcp x1 q)) p:=by kernel_rfl
theorem ndz4:(regs qu.body).Nodup:=by decide +kernel
theorem okz4:okC nmz4 stz4 hdz4 qu.body i6=i7:=by kernel_rfl
def Az4(g:gz4)(lf:Nat):JT Rtz4:=atQ oa ttT.get nmz4 qu (sz4 g) (clz4 _ lf) lf hdz4
def qj3(lf:Nat)(x1:Bq):Nat->(Int)->Oq Rtz4:=rounds fun K p=>qja lf x1 K p
theorem q1z(g:gz4)(lf:Nat)(x1:Bq):∀(n:Nat) (p:Int),Az4 g lf 2 [n] (qcp x1 p)=qj3 lf x1 n p
 | 0,p=>wg 2 [0] rfl _
 | n+1,p=>by
  have ih:=q1z g lf x1 n;refine(ki rfl (qg 20 _) ndz4 okz4 2 [n+1] [n] rfl _).trans ((zbp g (Az4 g lf) lf x1 n p).trans ?_);rw[(show (fun q=>Az4 g lf 2 [n] (qcp x1 q))=(fun q=>qj3 lf x1 n q) from funext ih)];rfl
def Fz4(lf:Nat)(x1:Bq):Oq Rtz4:=q8g lf x1 (fun q=>qj3 lf x1 lf q)
theorem zvm(g:gz4)(lf:Nat)(x1:Bq):Ez4 g (Az4 g lf) lf x1=Fz4 lf x1:=by
  refine(inz4 g (Az4 g lf) lf x1).trans ?_;rw[(show (fun q=>Az4 g lf 2 [lf] (qcp x1 q))=(fun q=>qj3 lf x1 lf q) from funext fun q=>q1z g lf x1 lf q)];rfl
theorem zrb:zv oa qs4:=trivial
theorem mkz4{g:gz4}(hsm:SmOK oa qsg)(hg:∀(x:ElP [.dat .str,.fn 341]) (y:Rtz4),WfP [.dat .str,.fn 341] x->g x=iz y->∃lf,Fz4 lf x.1=iz y):ConR oa 359 ⟨[.dat .str,.fn 341],[(eb,.bool)],g⟩ :=
 conTR (nmf:=nmz4) (sml:=qsg) (hxl:=qs4) (st:=stz4) (hd:=hdz4) 20 mixed ttOK ftOK hsm zrb qv4 (by kernel_rfl) (fun x=>by kernel_rfl) ndz4 okz4 fun x y z b a=>by
  obtain⟨lf,h⟩:=hg x (y,z) b a;exact⟨lf,(zvm g lf x.1).trans h⟩
def nmz5:Nat->Oq Nm:=fun k=>cond (od k 2) (iz ⟨[0,1,7,8],[],[],[],[],0,0,eb⟩) (cond (od k 999999) (iz ⟨[],[],[],[],[],0,0,eb⟩) i6)
def stz5:Nat->Bool:=fun k=>cond (od k 2) i7 (eb)
def hdz5:=stz5
abbrev Rtz5:Type:=(Bool × Unit) × Unit
def qrw:Lz (Nat × Sm):=[]
def qqs:Lz (Nat × Hx):=[]
def clz5(R:Type)(lf:Nat):ClK R:=zn oa ttT.get ftT.get (fun _ _=>i6) (smL qrw) (hxL qqs) lf 20 R
abbrev idz5:Nat:=359
def qcy(x1:Bq)(p:Int):NRes:=(NRes.mk (.node (iz (IV.str x1)) (.node (iz (IV.fn 362 [])) (.node i6 (.node (iz (IV.int .i64 (we x1.size))) .leaf .leaf) .leaf) .leaf) (.node i6 (.node i6 (.node (iz (IV.int .i64 p)) .leaf .leaf) .leaf) .leaf)) (IS.mk .leaf 0) [] 0)
def qy6(lf:Nat)(x1:Bq)(L2:Int->Oq Rtz5):Oq Rtz5:=(L2 (we 0))
def qjy(lf:Nat)(x1:Bq)(L2:Int->Oq Rtz5)(p:Int):Oq Rtz5:=(cond (iltI p (we x1.size)) (match (jget (za x1) p) with|none=>i6|some v0=>(cond (Bool.not (iltI v0 (we 97))) (cond (Bool.not (iltI (we 122) v0)) (cond (Bool.not (iltI v0 (we 65))) (cond (Bool.not (Bool.not (Bool.not (iltI (we 90) v0)))) (iz ((eb,()),())) (L2 (IntKind.i64.wrap (oe p (we 1))))) (L2 (IntKind.i64.wrap (oe p (we 1))))) (cond (Bool.not (iltI v0 (we 65))) (cond (Bool.not (iltI (we 90) v0)) (cond (Bool.not (iltI v0 (we 65))) (cond (Bool.not (Bool.not (Bool.not (iltI (we 90) v0)))) (iz ((eb,()),())) (L2 (IntKind.i64.wrap (oe p (we 1))))) (L2 (IntKind.i64.wrap (oe p (we 1))))) (cond (Bool.not (iltI v0 (we 48))) (cond (Bool.not (iltI (we 57) v0)) (cond (Bool.not (iltI v0 (we 65))) (cond (Bool.not (Bool.not (Bool.not (iltI (we 90) v0)))) (iz ((eb,()),())) (L2 (IntKind.i64.wrap (oe p (we 1))))) (L2 (IntKind.i64.wrap (oe p (we 1))))) (cond (ieqI v0 (we 95)) (cond (Bool.not (iltI v0 (we 65))) (cond (Bool.not (Bool.not (Bool.not (iltI (we 90) v0)))) (iz ((eb,()),())) (L2 (IntKind.i64.wrap (oe p (we 1))))) (L2 (IntKind.i64.wrap (oe p (we 1))))) (iz ((eb,()),())))) (cond (ieqI v0 (we 95)) (cond (Bool.not (iltI v0 (we 65))) (cond (Bool.not (Bool.not (Bool.not (iltI (we 90) v0)))) (iz ((eb,()),())) (L2 (IntKind.i64.wrap (oe p (we 1))))) (L2 (IntKind.i64.wrap (oe p (we 1))))) (iz ((eb,()),()))))) (cond (Bool.not (iltI v0 (we 48))) (cond (Bool.not (iltI (we 57) v0)) (cond (Bool.not (iltI v0 (we 65))) (cond (Bool.not (Bool.not (Bool.not (iltI (we 90) v0)))) (iz ((eb,()),())) (L2 (IntKind.i64.wrap (oe p (we 1))))) (L2 (IntKind.i64.wrap (oe p (we 1))))) (cond (ieqI v0 (we 95)) (cond (Bool.not (iltI v0 (we 65))) (cond (Bool.not (Bool.not (Bool.not (iltI (we 90) v0)))) (iz ((eb,()),())) (L2 (IntKind.i64.wrap (oe p (we 1))))) (L2 (IntKind.i64.wrap (oe p (we 1))))) (iz ((eb,()),())))) (cond (ieqI v0 (we 95)) (cond (Bool.not (iltI v0 (we 65))) (cond (Bool.not (Bool.not (Bool.not (iltI (we 90) v0)))) (iz ((eb,()),())) (L2 (IntKind.i64.wrap (oe p (we 1))))) (L2 (IntKind.i64.wrap (oe p (we 1))))) (iz ((eb,()),())))))) (cond (Bool.not (iltI v0 (we 65))) (cond (Bool.not (iltI (we 90) v0)) (cond (Bool.not (iltI v0 (we 65))) (cond (Bool.not (Bool.not (Bool.not (iltI (we 90) v0)))) (iz ((eb,()),())) (L2 (IntKind.i64.wrap (oe p (we 1))))) (L2 (IntKind.i64.wrap (oe p (we 1))))) (cond (Bool.not (iltI v0 (we 48))) (cond (Bool.not (iltI (we 57) v0)) (cond (Bool.not (iltI v0 (we 65))) (cond (Bool.not (Bool.not (Bool.not (iltI (we 90) v0)))) (iz ((eb,()),())) (L2 (IntKind.i64.wrap (oe p (we 1))))) (L2 (IntKind.i64.wrap (oe p (we 1))))) (cond (ieqI v0 (we 95)) (cond (Bool.not (iltI v0 (we 65))) (cond (Bool.not (Bool.not (Bool.not (iltI (we 90) v0)))) (iz ((eb,()),())) (L2 (IntKind.i64.wrap (oe p (we 1))))) (L2 (IntKind.i64.wrap (oe p (we 1))))) (iz ((eb,()),())))) (cond (ieqI v0 (we 95)) (cond (Bool.not (iltI v0 (we 65))) (cond (Bool.not (Bool.not (Bool.not (iltI (we 90) v0)))) (iz ((eb,()),())) (L2 (IntKind.i64.wrap (oe p (we 1))))) (L2 (IntKind.i64.wrap (oe p (we 1))))) (iz ((eb,()),()))))) (cond (Bool.not (iltI v0 (we 48))) (cond (Bool.not (iltI (we 57) v0)) (cond (Bool.not (iltI v0 (we 65))) (cond (Bool.not (Bool.not (Bool.not (iltI (we 90) v0)))) (iz ((eb,()),())) (L2 (IntKind.i64.wrap (oe p (we 1))))) (L2 (IntKind.i64.wrap (oe p (we 1))))) (cond (ieqI v0 (we 95)) (cond (Bool.not (iltI v0 (we 65))) (cond (Bool.not (Bool.not (Bool.not (iltI (we 90) v0)))) (iz ((eb,()),())) (L2 (IntKind.i64.wrap (oe p (we 1))))) (L2 (IntKind.i64.wrap (oe p (we 1))))) (iz ((eb,()),())))) (cond (ieqI v0 (we 95)) (cond (Bool.not (iltI v0 (we 65))) (cond (Bool.not (Bool.not (Bool.not (iltI (we 90) v0)))) (iz ((eb,()),())) (L2 (IntKind.i64.wrap (oe p (we 1))))) (L2 (IntKind.i64.wrap (oe p (we 1))))) (iz ((eb,()),()))))))) (iz ((i7,()),())))
abbrev gz5:Type:=ElP [.dat .str,.fn 362]->Oq Rtz5
abbrev sz5(g:gz5):SmR:=⟨[.dat .str,.fn 362],[(eb,.bool)],g⟩
abbrev Ez5(g:gz5)(J:JT Rtz5)(lf:Nat)(x1:Bq):=zm oa ttT.get nmz5 (mP [.dat .str,.fn 362]) qu.nt (clz5 _ lf) lf stz5 J qu.body [] (zk (ze [.dat .str,.fn 362] idN 0 (x1,())) 0 .leaf) (Sc [.dat .str,.fn 362] (x1,())) [] (z6 ttT.get qu (sz5 g))
abbrev Bz5(g:gz5)(J:JT Rtz5)(lf k:Nat)(ms:Lz Nat)(q:NRes):=qj oa ttT.get nmz5 (mP [.dat .str,.fn 362]) qu.nt (clz5 _ lf) lf stz5 J k qu.body [] ms q (z6 ttT.get qu (sz5 g))
theorem inz5(g:gz5)(J:JT Rtz5)(lf:Nat)(x1:Bq):Ez5 g J lf x1=qy6 lf x1 (fun q=>J 2 [lf] (qcy x1 q)):=by kernel_rfl
theorem znl(g:gz5)(J:JT Rtz5)(lf:Nat)(x1:Bq)(m1:Nat)(p:Int):Bz5 g J lf 2 [m1] (qcy x1 p)=qjy lf x1 (fun q=>J 2 [m1] (qcy x1 q)) p:=by kernel_rfl
theorem ndz5:(regs qu.body).Nodup:=by decide +kernel
theorem okz5:okC nmz5 stz5 hdz5 qu.body i6=i7:=by kernel_rfl
def Az5(g:gz5)(lf:Nat):JT Rtz5:=atQ oa ttT.get nmz5 qu (sz5 g) (clz5 _ lf) lf hdz5
def qmc(lf:Nat)(x1:Bq):Nat->(Int)->Oq Rtz5:=rounds fun K p=>qjy lf x1 K p
theorem q40(g:gz5)(lf:Nat)(x1:Bq):∀(n:Nat) (p:Int),Az5 g lf 2 [n] (qcy x1 p)=qmc lf x1 n p
 | 0,p=>wg 2 [0] rfl _
 | n+1,p=>by
  have ih:=q40 g lf x1 n;refine(ki rfl (qg 20 _) ndz5 okz5 2 [n+1] [n] rfl _).trans ((znl g (Az5 g lf) lf x1 n p).trans ?_);rw[(show (fun q=>Az5 g lf 2 [n] (qcy x1 q))=(fun q=>qmc lf x1 n q) from funext ih)];rfl
def Fz5(lf:Nat)(x1:Bq):Oq Rtz5:=qy6 lf x1 (fun q=>qmc lf x1 lf q)
theorem zh8(g:gz5)(lf:Nat)(x1:Bq):Ez5 g (Az5 g lf) lf x1=Fz5 lf x1:=by
  refine(inz5 g (Az5 g lf) lf x1).trans ?_;rw[(show (fun q=>Az5 g lf 2 [lf] (qcy x1 q))=(fun q=>qmc lf x1 lf q) from funext fun q=>q40 g lf x1 lf q)];rfl
theorem zrz:zv oa qqs:=trivial
theorem mkz5{g:gz5}(hsm:SmOK oa qrw)(hg:∀(x:ElP [.dat .str,.fn 362]) (y:Rtz5),WfP [.dat .str,.fn 362] x->g x=iz y->∃lf,Fz5 lf x.1=iz y):ConR oa 359 ⟨[.dat .str,.fn 362],[(eb,.bool)],g⟩ :=
 conTR (nmf:=nmz5) (sml:=qrw) (hxl:=qqs) (st:=stz5) (hd:=hdz5) 20 mixed ttOK ftOK hsm zrz qv4 (by kernel_rfl) (fun x=>by kernel_rfl) ndz5 okz5 fun x y z b a=>by
  obtain⟨lf,h⟩:=hg x (y,z) b a;exact⟨lf,(zh8 g lf x.1).trans h⟩
def nmz6:Nat->Oq Nm:=fun k=>cond (od k 2) (iz ⟨[0,1,7,8],[],[],[],[],0,0,eb⟩) (cond (od k 999999) (iz ⟨[],[],[],[],[],0,0,eb⟩) i6)
def stz6:Nat->Bool:=fun k=>cond (od k 2) i7 (eb)
def hdz6:=stz6
abbrev Rtz6:Type:=(Bool × Unit) × Unit
def qtr:Lz (Nat × Sm):=[]
def qr1:Lz (Nat × Hx):=[]
def clz6(R:Type)(lf:Nat):ClK R:=zn oa ttT.get ftT.get (fun _ _=>i6) (smL qtr) (hxL qr1) lf 20 R
abbrev idz6:Nat:=359
def qb2(x1:Bq)(p:Int):NRes:=(NRes.mk (.node (iz (IV.str x1)) (.node (iz (IV.fn 363 [])) (.node i6 (.node (iz (IV.int .i64 (we x1.size))) .leaf .leaf) .leaf) .leaf) (.node i6 (.node i6 (.node (iz (IV.int .i64 p)) .leaf .leaf) .leaf) .leaf)) (IS.mk .leaf 0) [] 0)
def q3p(lf:Nat)(x1:Bq)(L2:Int->Oq Rtz6):Oq Rtz6:=(L2 (we 0))
def qhj(lf:Nat)(x1:Bq)(L2:Int->Oq Rtz6)(p:Int):Oq Rtz6:=(cond (iltI p (we x1.size)) (match (jget (za x1) p) with|none=>i6|some v0=>(cond (Bool.not (iltI v0 (we 97))) (cond (Bool.not (iltI (we 122) v0)) (cond (Bool.not (iltI v0 (we 97))) (cond (Bool.not (Bool.not (Bool.not (iltI (we 122) v0)))) (iz ((eb,()),())) (L2 (IntKind.i64.wrap (oe p (we 1))))) (L2 (IntKind.i64.wrap (oe p (we 1))))) (cond (Bool.not (iltI v0 (we 65))) (cond (Bool.not (iltI (we 90) v0)) (cond (Bool.not (iltI v0 (we 97))) (cond (Bool.not (Bool.not (Bool.not (iltI (we 122) v0)))) (iz ((eb,()),())) (L2 (IntKind.i64.wrap (oe p (we 1))))) (L2 (IntKind.i64.wrap (oe p (we 1))))) (cond (Bool.not (iltI v0 (we 48))) (cond (Bool.not (iltI (we 57) v0)) (cond (Bool.not (iltI v0 (we 97))) (cond (Bool.not (Bool.not (Bool.not (iltI (we 122) v0)))) (iz ((eb,()),())) (L2 (IntKind.i64.wrap (oe p (we 1))))) (L2 (IntKind.i64.wrap (oe p (we 1))))) (cond (ieqI v0 (we 95)) (cond (Bool.not (iltI v0 (we 97))) (cond (Bool.not (Bool.not (Bool.not (iltI (we 122) v0)))) (iz ((eb,()),())) (L2 (IntKind.i64.wrap (oe p (we 1))))) (L2 (IntKind.i64.wrap (oe p (we 1))))) (iz ((eb,()),())))) (cond (ieqI v0 (we 95)) (cond (Bool.not (iltI v0 (we 97))) (cond (Bool.not (Bool.not (Bool.not (iltI (we 122) v0)))) (iz ((eb,()),())) (L2 (IntKind.i64.wrap (oe p (we 1))))) (L2 (IntKind.i64.wrap (oe p (we 1))))) (iz ((eb,()),()))))) (cond (Bool.not (iltI v0 (we 48))) (cond (Bool.not (iltI (we 57) v0)) (cond (Bool.not (iltI v0 (we 97))) (cond (Bool.not (Bool.not (Bool.not (iltI (we 122) v0)))) (iz ((eb,()),())) (L2 (IntKind.i64.wrap (oe p (we 1))))) (L2 (IntKind.i64.wrap (oe p (we 1))))) (cond (ieqI v0 (we 95)) (cond (Bool.not (iltI v0 (we 97))) (cond (Bool.not (Bool.not (Bool.not (iltI (we 122) v0)))) (iz ((eb,()),())) (L2 (IntKind.i64.wrap (oe p (we 1))))) (L2 (IntKind.i64.wrap (oe p (we 1))))) (iz ((eb,()),())))) (cond (ieqI v0 (we 95)) (cond (Bool.not (iltI v0 (we 97))) (cond (Bool.not (Bool.not (Bool.not (iltI (we 122) v0)))) (iz ((eb,()),())) (L2 (IntKind.i64.wrap (oe p (we 1))))) (L2 (IntKind.i64.wrap (oe p (we 1))))) (iz ((eb,()),())))))) (cond (Bool.not (iltI v0 (we 65))) (cond (Bool.not (iltI (we 90) v0)) (cond (Bool.not (iltI v0 (we 97))) (cond (Bool.not (Bool.not (Bool.not (iltI (we 122) v0)))) (iz ((eb,()),())) (L2 (IntKind.i64.wrap (oe p (we 1))))) (L2 (IntKind.i64.wrap (oe p (we 1))))) (cond (Bool.not (iltI v0 (we 48))) (cond (Bool.not (iltI (we 57) v0)) (cond (Bool.not (iltI v0 (we 97))) (cond (Bool.not (Bool.not (Bool.not (iltI (we 122) v0)))) (iz ((eb,()),())) (L2 (IntKind.i64.wrap (oe p (we 1))))) (L2 (IntKind.i64.wrap (oe p (we 1))))) (cond (ieqI v0 (we 95)) (cond (Bool.not (iltI v0 (we 97))) (cond (Bool.not (Bool.not (Bool.not (iltI (we 122) v0)))) (iz ((eb,()),())) (L2 (IntKind.i64.wrap (oe p (we 1))))) (L2 (IntKind.i64.wrap (oe p (we 1))))) (iz ((eb,()),())))) (cond (ieqI v0 (we 95)) (cond (Bool.not (iltI v0 (we 97))) (cond (Bool.not (Bool.not (Bool.not (iltI (we 122) v0)))) (iz ((eb,()),())) (L2 (IntKind.i64.wrap (oe p (we 1))))) (L2 (IntKind.i64.wrap (oe p (we 1))))) (iz ((eb,()),()))))) (cond (Bool.not (iltI v0 (we 48))) (cond (Bool.not (iltI (we 57) v0)) (cond (Bool.not (iltI v0 (we 97))) (cond (Bool.not (Bool.not (Bool.not (iltI (we 122) v0)))) (iz ((eb,()),())) (L2 (IntKind.i64.wrap (oe p (we 1))))) (L2 (IntKind.i64.wrap (oe p (we 1))))) (cond (ieqI v0 (we 95)) (cond (Bool.not (iltI v0 (we 97))) (cond (Bool.not (Bool.not (Bool.not (iltI (we 122) v0)))) (iz ((eb,()),())) (L2 (IntKind.i64.wrap (oe p (we 1))))) (L2 (IntKind.i64.wrap (oe p (we 1))))) (iz ((eb,()),())))) (cond (ieqI v0 (we 95)) (cond (Bool.not (iltI v0 (we 97))) (cond (Bool.not (Bool.not (Bool.not (iltI (we 122) v0)))) (iz ((eb,()),())) (L2 (IntKind.i64.wrap (oe p (we 1))))) (L2 (IntKind.i64.wrap (oe p (we 1))))) (iz ((eb,()),()))))))) (iz ((i7,()),())))
abbrev gz6:Type:=ElP [.dat .str,.fn 363]->Oq Rtz6
abbrev sz6(g:gz6):SmR:=⟨[.dat .str,.fn 363],[(eb,.bool)],g⟩
abbrev Ez6(g:gz6)(J:JT Rtz6)(lf:Nat)(x1:Bq):=zm oa ttT.get nmz6 (mP [.dat .str,.fn 363]) qu.nt (clz6 _ lf) lf stz6 J qu.body [] (zk (ze [.dat .str,.fn 363] idN 0 (x1,())) 0 .leaf) (Sc [.dat .str,.fn 363] (x1,())) [] (z6 ttT.get qu (sz6 g))
abbrev Bz6(g:gz6)(J:JT Rtz6)(lf k:Nat)(ms:Lz Nat)(q:NRes):=qj oa ttT.get nmz6 (mP [.dat .str,.fn 363]) qu.nt (clz6 _ lf) lf stz6 J k qu.body [] ms q (z6 ttT.get qu (sz6 g))
theorem inz6(g:gz6)(J:JT Rtz6)(lf:Nat)(x1:Bq):Ez6 g J lf x1=q3p lf x1 (fun q=>J 2 [lf] (qb2 x1 q)):=by kernel_rfl
theorem zyq(g:gz6)(J:JT Rtz6)(lf:Nat)(x1:Bq)(m1:Nat)(p:Int):Bz6 g J lf 2 [m1] (qb2 x1 p)=qhj lf x1 (fun q=>J 2 [m1] (qb2 x1 q)) p:=by kernel_rfl
theorem ndz6:(regs qu.body).Nodup:=by decide +kernel
theorem okz6:okC nmz6 stz6 hdz6 qu.body i6=i7:=by kernel_rfl
def Az6(g:gz6)(lf:Nat):JT Rtz6:=atQ oa ttT.get nmz6 qu (sz6 g) (clz6 _ lf) lf hdz6
def qle(lf:Nat)(x1:Bq):Nat->(Int)->Oq Rtz6:=rounds fun K p=>qhj lf x1 K p
theorem qx0(g:gz6)(lf:Nat)(x1:Bq):∀(n:Nat) (p:Int),Az6 g lf 2 [n] (qb2 x1 p)=qle lf x1 n p
 | 0,p=>wg 2 [0] rfl _
 | n+1,p=>by
  have ih:=qx0 g lf x1 n;refine(ki rfl (qg 20 _) ndz6 okz6 2 [n+1] [n] rfl _).trans ((zyq g (Az6 g lf) lf x1 n p).trans ?_);rw[(show (fun q=>Az6 g lf 2 [n] (qb2 x1 q))=(fun q=>qle lf x1 n q) from funext ih)];rfl
def Fz6(lf:Nat)(x1:Bq):Oq Rtz6:=q3p lf x1 (fun q=>qle lf x1 lf q)
theorem zzu(g:gz6)(lf:Nat)(x1:Bq):Ez6 g (Az6 g lf) lf x1=Fz6 lf x1:=by
  refine(inz6 g (Az6 g lf) lf x1).trans ?_;rw[(show (fun q=>Az6 g lf 2 [lf] (qb2 x1 q))=(fun q=>qle lf x1 lf q) from funext fun q=>qx0 g lf x1 lf q)];rfl
theorem zq0:zv oa qr1:=trivial
theorem mkz6{g:gz6}(hsm:SmOK oa qtr)(hg:∀(x:ElP [.dat .str,.fn 363]) (y:Rtz6),WfP [.dat .str,.fn 363] x->g x=iz y->∃lf,Fz6 lf x.1=iz y):ConR oa 359 ⟨[.dat .str,.fn 363],[(eb,.bool)],g⟩ :=
 conTR (nmf:=nmz6) (sml:=qtr) (hxl:=qr1) (st:=stz6) (hd:=hdz6) 20 mixed ttOK ftOK hsm zq0 qv4 (by kernel_rfl) (fun x=>by kernel_rfl) ndz6 okz6 fun x y z b a=>by
  obtain⟨lf,h⟩:=hg x (y,z) b a;exact⟨lf,(zzu g lf x.1).trans h⟩
theorem rangeB0{σ A R:Type}{T:(A->Oq R)->A->Oq R}(s:Bq)(mk:Int->σ->A)(g:Lz Int->Nat->σ->Oq R)(hl:s.size<LF)
  (hnil:∀K q,T K (mk (we s.size) q)=g [] s.size q)
  (hcons:∀K i v rest q,Rnd (za s) i v rest->iltI (we i) (we s.size)=i7->0<=v->v<256->(∀q',K (mk (we (i+1)) q')=g rest (i+1) q')->T K (mk (we i) q)=g (v::rest) i q)
  (q:σ):rounds T LF (mk (we 0) q)=g (za s) 0 q:=by
 refine range0 (za s) mk (fun _ _=>True) g (by rw[zt];exact hl) (fun K q _=>?_) (fun K i v rest q _ r h=>?_) q trivial
 ·rw[zt];exact hnil K q
 ·have a:=r.ilt;rw[zt] at a;have b:=ce r.mem
  grind
theorem qkv{R:Type}{T:(Int->Oq R)->Int->Oq R}(s:Bq)(g:Lz Int->Nat->Oq R)(hl:s.size<LF)
  (hnil:∀K,T K (we s.size)=g [] s.size)
  (hcons:∀K i v rest,Rnd (za s) i v rest->iltI (we i) (we s.size)=i7->0<=v->v<256->K (we (i+1))=g rest (i+1)->T K (we i)=g (v::rest) i):rounds T LF (we 0)=g (za s) 0 :=
 rangeB0 (σ:=Unit) s (fun i _=>i) (fun rest i _=>g rest i) hl (fun K _=>hnil K) (fun K i v rest _ r a b c h=>hcons K i v rest r a b c (h ())) ()
theorem qn9(a b:Int):decide (a<=b)=!decide (b<a):=by
 grind
theorem qxn(v:Int):S.isSmall v=(!iltI v (we 97)&&!iltI (we 122) v):=by simp only[S.isSmall,qn9,qc,oL]
theorem q4m(v:Int):S.isCap v=(!iltI v (we 65)&&!iltI (we 90) v):=by simp only[S.isCap,qn9,qc,oL]
theorem qj7(v:Int):S.isDig v=(!iltI v (we 48)&&!iltI (we 57) v):=by simp only[S.isDig,qn9,qc,oL]
theorem qpc(v:Int):S.isPart v=((!iltI v (we 97)&&!iltI (we 122) v)||(!iltI v (we 65)&&!iltI (we 90) v)||(!iltI v (we 48)&&!iltI (we 57) v)||ieqI v (we 95)):=by
 simp only[S.isPart,qxn,q4m,qj7,zx,oL]
theorem zyu(s:Bq)(hl:s.size<LF):Fz2 LF s=iz (S.run0 s,()):=by
 refine(qkv (R:=Rtz2) s (fun a i=>iz (we (i+S.runL a),())) hl (fun K=>?_) (fun K i v a r b _ _ h=>?_)).trans ?_
 ·simp only[qk1,jt];rfl
 ·simp only[qk1,b,r.get,r.next,h,xa];simp only[S.runL,jbd,qpc]
  grind
 ·unfold S.run0;rw[x6]
theorem q2o:Con oa idz2 spz2:=mkz2 trivial fun x y a h=>⟨LF,(zyu _ a.1).trans h⟩
theorem zgv{α:Type}(p:α->Bool)(rest:Lz α)(i:Nat)(v:α):(match (v::rest).findIdx? p with|some j=>we (i+j)|none=>-1)=cond (p v) (we i) (match rest.findIdx? p with|some j=>we (i+1+j)|none=>-1):=by
 grind
theorem zs3{α:Type}(p:α->Bool)(l:Lz α):(match l.findIdx? p with|some j=>we (0+j)|none=>-1)=S.idx p l:=by
 unfold S.idx
 grind
theorem zqj(l:Lz Bq)(s:Bq)(hl:l.length<LF):Fz3 LF l s=iz (S.idx (fun y=>keqS s y) l,()):=by
 refine(zst (R:=Rtz3) l (fun a i=>iz ((match a.findIdx? (fun y=>keqS s y) with|some j=>we (i+j)|none=>-1),())) hl (fun K=>?_) (fun K i v a r h=>?_)).trans ?_
 ·simp only[qii,jt,xe];rfl
 ·rw[zgv];simp only[qii,r.ilt,r.get,r.next,h,xa]
  grind
 ·rw[zs3]
theorem zrx:Con oa idz3 spz3:=mkz3 trivial fun x y a h=>⟨LF,(zqj _ _ (q94 a.1)).trans h⟩
theorem qtn{n m:Nat}(h:n<=m):lchk (we 0) (we n) (we m) (we m)=i7:=by
 simp[lchk];omega
theorem zxv(lf:Nat)(s p:Bq):qif lf s p=iz (S.isPre s p,()):=by
 simp only[qif,q1t,yq];unfold S.isPre;by_cases h:s.size<p.size
 ·rw[xt h];have:(za p).isPrefixOf (za s)=eb:=by
   cases a:(za p).isPrefixOf (za s) with
   | false=>rfl
   | true =>
    have:=(gj.1 a).length_le;rw[zt,zt] at this;omega
  grind
 ·rw[xq h,gh,xa,qtn (by omega),xa,qtx];rw[show f7 (we p.size)=p.size from rfl,qjm];refine xy (fun b=>iz (b,())) ?_;by_cases e:(za p) <+: (za s)
  ·rw[gj.2 e];have:=List.prefix_iff_eq_take.1 e;rw[zt] at this
   grind
  ·grind
theorem q4f:Con oa zi1 qhh:=zis trivial fun x y a h=>⟨0,(zxv 0 _ _).trans h⟩
theorem zcs(s:Bq)(hl:s.size<LF):Fz4 LF s=iz (((za s).all S.isDig,()),()):=by
 refine(qkv (R:=Rtz4) s (fun a i=>iz ((a.all S.isDig,()),())) hl (fun K=>?_) (fun K i v a r b _ _ h=>?_))
 ·simp only[qja,jt];rfl
 ·simp only[qja,b,r.get,r.next,h,xa,gu,qj7]
  grind
theorem zhk:ConR oa idz4 spz4:=mkz4 trivial fun x y a h=>⟨LF,(zcs _ a.1).trans h⟩
theorem ztn(s:Bq)(hl:s.size<LF):Fz5 LF s=iz (((za s).all S.isLow,()),()):=by
 refine(qkv (R:=Rtz5) s (fun a i=>iz ((a.all S.isLow,()),())) hl (fun K=>?_) (fun K i v a r b _ _ h=>?_))
 ·simp only[qjy,jt];rfl
 ·simp only[qjy,b,r.get,r.next,h,xa,gu,S.isLow,qpc,q4m]
  grind
theorem zpf:ConR oa idz5 spz5:=mkz5 trivial fun x y a h=>⟨LF,(ztn _ a.1).trans h⟩
theorem zhf(s:Bq)(hl:s.size<LF):Fz6 LF s=iz (((za s).all S.isHigh,()),()):=by
 refine(qkv (R:=Rtz6) s (fun a i=>iz ((a.all S.isHigh,()),())) hl (fun K=>?_) (fun K i v a r b _ _ h=>?_))
 ·simp only[qhj,jt];rfl
 ·simp only[qhj,b,r.get,r.next,h,xa,gu,S.isHigh,qpc,qxn]
  grind
theorem zcw:ConR oa idz6 spz6:=mkz6 trivial fun x y a h=>⟨LF,(zhf _ a.1).trans h⟩
abbrev qm2:Type:=Bool × Unit
abbrev zoq:Nat:=140
def zy4(lf:Nat)(x1:(Lz Bq))(x2:Bq):Oq qm2:=(iz ((Bool.not (iltI (S.idx (fun v0=>(keqS x2 v0)) x1) (we 0))),()))
def q17(lf:Nat)(x1:(Lz Bq))(x2:Bq):Oq qm2:=zy4 lf x1 x2
theorem zuw{g:ElA [(.list .str),.str]->Oq qm2}(hsm:SmOK oa [(242,spz3)])(hg:∀(x:ElA [(.list .str),.str]) (y:qm2),WfA [(.list .str),.str] x->g x=iz y->∃lf,q17 lf x.1 x.2.1=iz y):Con oa 140 ⟨[(.list .str),.str],[(eb,.bool)],g⟩ :=
 conU (fi:=q5a) (hxl:=[]) (fun lf x=>q17 lf x.1 x.2.1) cm3 zc7 trivial hsm hg
def nmz7:Nat->Oq Nm:=fun k=>cond (od k 5) (iz ⟨[0,4,20,21],[],[],[],[],0,0,eb⟩) (i6)
def stz7:Nat->Bool:=fun k=>cond (od k 5) i7 (eb)
def hdz7:=stz7
abbrev Rtz7:Type:=Int × Int × Unit
def zac:Lz (Nat × Sm):=[]
def q2q:Lz (Nat × Hx):=[(359,hxR spz4)]
def clz7(R:Type)(lf:Nat):ClK R:=zn oa ttT.get ftT.get (nm1 331 nmz7) (smL zac) (hxL q2q) lf 20 R
abbrev idz7:Nat:=331
def qci(x1:Bq)(p:Int × Int):NRes:=(NRes.mk (.node (iz (IV.str x1)) (.node i6 .leaf (.node i6 .leaf (.node i6 (.node (iz (IV.int .i64 p.1)) .leaf .leaf) .leaf))) (.node i6 (.node (iz (IV.int .i64 p.2)) .leaf (.node i6 (.node (iz (IV.int .i64 (we x1.size))) .leaf .leaf) .leaf)) .leaf)) (IS.mk .leaf 0) [] 0)
def qts(lf:Nat)(x1:Bq)(L5:(Int × Int)->Oq Rtz7):Oq Rtz7:=(cond (Bool.not (S.digs x1)) (iz ((we 0),((we 2),()))) (cond (iltI (we 1) (we x1.size)) (match (jget (za x1) (we 0)) with|none=>i6|some v0=>(cond (ieqI v0 (we 48)) (iz ((we 0),((we 2),()))) (L5 ((we 0),(we 0))))) (L5 ((we 0),(we 0)))))
def qje(lf:Nat)(x1:Bq)(L5:(Int × Int)->Oq Rtz7)(p:Int × Int):Oq Rtz7:=(cond (iltI p.1 (we x1.size)) (match (jget (za x1) p.1) with|none=>i6|some v0=>(cond (iltI (we 1099511627776) (IntKind.i64.wrap (oe (IntKind.i64.wrap (Int.mul (we 10) p.2)) (IntKind.i64.wrap (IntKind.u8.wrap (fq v0 (we 48))))))) (iz ((we 0),((we 3),()))) (L5 ((IntKind.i64.wrap (oe p.1 (we 1))),(IntKind.i64.wrap (oe (IntKind.i64.wrap (Int.mul (we 10) p.2)) (IntKind.i64.wrap (IntKind.u8.wrap (fq v0 (we 48)))))))))) (iz (p.2,((we 0),()))))
abbrev gz7:Type:=ElA [.str]->Oq Rtz7
abbrev sz7(g:gz7):Sm:=⟨[.str],[(eb,(.int .i64)),(eb,(.int .i64))],g⟩
abbrev Ez7(g:gz7)(J:JT Rtz7)(lf:Nat)(x1:Bq):=yr oa ttT.get nmz7 uw.nt (clz7 _ lf) lf stz7 J uw.body [] (zk (argV [.str] (x1,())) 0 .leaf) S0 [] (jf ttT.get uw (sz7 g))
abbrev Bz7(g:gz7)(J:JT Rtz7)(lf k:Nat)(ms:Lz Nat)(q:NRes):=nn oa ttT.get nmz7 uw.nt (clz7 _ lf) lf stz7 J k uw.body [] ms q (jf ttT.get uw (sz7 g))
theorem inz7(g:gz7)(J:JT Rtz7)(lf:Nat)(x1:Bq):Ez7 g J lf x1=qts lf x1 (fun q=>J 5 [lf] (qci x1 q)):=by kernel_rfl
theorem zfd(g:gz7)(J:JT Rtz7)(lf:Nat)(x1:Bq)(m1:Nat)(p:Int × Int):Bz7 g J lf 5 [m1] (qci x1 p)=qje lf x1 (fun q=>J 5 [m1] (qci x1 q)) p:=by kernel_rfl
theorem ndz7:(regs uw.body).Nodup:=by decide +kernel
theorem okz7:okC nmz7 stz7 hdz7 uw.body i6=i7:=by kernel_rfl
def Az7(g:gz7)(lf:Nat):JT Rtz7:=atN oa ttT.get nmz7 uw (sz7 g) (clz7 _ lf) lf hdz7
def qex(lf:Nat)(x1:Bq):Nat->(Int × Int)->Oq Rtz7:=rounds fun K p=>qje lf x1 K p
theorem q0k(g:gz7)(lf:Nat)(x1:Bq):∀(n:Nat) (p:Int × Int),Az7 g lf 5 [n] (qci x1 p)=qex lf x1 n p
 | 0,p=>sn 5 [0] rfl _
 | n+1,p=>by
  have ih:=q0k g lf x1 n;refine(c8 (qg 20 _) ndz7 okz7 5 [n+1] [n] rfl _).trans ((zfd g (Az7 g lf) lf x1 n p).trans ?_);rw[(show (fun q=>Az7 g lf 5 [n] (qci x1 q))=(fun q=>qex lf x1 n q) from funext ih)];rfl
def Fz7(lf:Nat)(x1:Bq):Oq Rtz7:=qts lf x1 (fun q=>qex lf x1 lf q)
theorem zxi(g:gz7)(lf:Nat)(x1:Bq):Ez7 g (Az7 g lf) lf x1=Fz7 lf x1:=by
  refine(inz7 g (Az7 g lf) lf x1).trans ?_;rw[(show (fun q=>Az7 g lf 5 [lf] (qci x1 q))=(fun q=>qex lf x1 lf q) from funext fun q=>q0k g lf x1 lf q)];rfl
theorem zxw:zv oa q2q:=⟨z8 zhk,trivial⟩
theorem mkz7{g:gz7}(hsm:SmOK oa zac)(hg:∀(x:ElA [.str]) (y:Rtz7),WfA [.str] x->g x=iz y->∃lf,Fz7 lf x.1=iz y):Con oa 331 ⟨[.str],[(eb,(.int .i64)),(eb,(.int .i64))],g⟩ :=
 conV (st:=stz7) (fun lf x=>Fz7 lf x.1) cm3 zgy zxw ndz7 okz7 (fun lf x=>zxi g lf x.1) hsm hg
abbrev qjj:Type:=Int × Int × Unit
abbrev zs2:Nat:=342
def q4q(lf:Nat)(x1:Bq):Oq qjj:=(cond (S.has S.keywords x1) (cond (S.has S.keywords x1) (iz ((we 3),((we 0),()))) (cond (S.has (ou (S.lit [116,114,117,101]) (ou (S.lit [102,97,108,115,101]) (ou (S.lit [118,111,105,100]) (ou (S.lit [99,117,114,114,101,110,116]) [(S.lit [114,101,115,117,108,116])])))) x1) (iz ((we 0),((we 4),()))) (cond (Bool.not (S.lows x1)) (cond (Bool.not (S.highs x1)) (iz ((we 0),((we 2),()))) (cond (iltI (we 20) (we x1.size)) (iz ((we 0),((we 3),()))) (cond (S.lows x1) (iz ((we 1),((we 0),()))) (iz ((we 2),((we 0),())))))) (cond (iltI (we 20) (we x1.size)) (iz ((we 0),((we 3),()))) (cond (S.lows x1) (iz ((we 1),((we 0),()))) (iz ((we 2),((we 0),())))))))) (cond (S.has (ou (S.lit [84,114,117,101]) (ou (S.lit [70,97,108,115,101]) (ou (S.lit [86,111,105,100]) (ou (S.lit [67,117,114,114,101,110,116]) [(S.lit [82,101,115,117,108,116])])))) x1) (iz ((we 3),((we 0),()))) (cond (S.has (ou (S.lit [116,114,117,101]) (ou (S.lit [102,97,108,115,101]) (ou (S.lit [118,111,105,100]) (ou (S.lit [99,117,114,114,101,110,116]) [(S.lit [114,101,115,117,108,116])])))) x1) (iz ((we 0),((we 4),()))) (cond (Bool.not (S.lows x1)) (cond (Bool.not (S.highs x1)) (iz ((we 0),((we 2),()))) (cond (iltI (we 20) (we x1.size)) (iz ((we 0),((we 3),()))) (cond (S.lows x1) (iz ((we 1),((we 0),()))) (iz ((we 2),((we 0),())))))) (cond (iltI (we 20) (we x1.size)) (iz ((we 0),((we 3),()))) (cond (S.lows x1) (iz ((we 1),((we 0),()))) (iz ((we 2),((we 0),())))))))))
def qkh(lf:Nat)(x1:Bq):Oq qjj:=q4q lf x1
theorem ze0{g:ElA [.str]->Oq qjj}(hsm:SmOK oa [(364,qji),(140,qw0)])(hg:∀(x:ElA [.str]) (y:qjj),WfA [.str] x->g x=iz y->∃lf,qkh lf x.1=iz y):Con oa 342 ⟨[.str],[(eb,(.int .i64)),(eb,(.int .i64))],g⟩ :=
 conU (fi:=qw9) (hxl:=[(359,qeb (qey 362) (hxR spz5) (hxR spz6))]) (fun lf x=>qkh lf x.1) cm3 zpc ⟨qhu (z8 zpf) (z8 zcw),trivial⟩ hsm hg
abbrev qmi:Type:=Int × Int × Unit
abbrev zzj:Nat:=275
def q6n(lf:Nat)(x1:Bq):Oq qmi:=(cond (keqS x1 (S.lit [])) (iz ((we 0),((we 2),()))) (cond (ieqI (S.run0 x1) (we x1.size)) (match (jget (za x1) (we 0)) with|none=>i6|some v0=>(cond (Bool.not (iltI v0 (we 48))) (cond (Bool.not (iltI (we 57) v0)) (cond (Bool.not (ieqI (S.number x1).2 (we 0))) (iz ((we 0),((S.number x1).2,()))) (iz ((we 4),((we 0),())))) (cond (ieqI (S.run0 x1) (we x1.size)) (match (jget (za x1) (we 0)) with|none=>i6|some v1=>(cond (Bool.not (ieqI v1 (we 95))) (match (cond (S.wordly x1) (iz ((S.word x1).1,((S.word x1).2,()))) i6) with|none=>i6|some v2=>(iz (v2.1,(v2.2.1,())))) (cond (keqS (S.signL (za x1)) x1) (iz ((we 5),((we 0),()))) (iz ((we 0),((we 2),())))))) (cond (keqS (S.signL (za x1)) x1) (iz ((we 5),((we 0),()))) (iz ((we 0),((we 2),())))))) (cond (ieqI (S.run0 x1) (we x1.size)) (match (jget (za x1) (we 0)) with|none=>i6|some v3=>(cond (Bool.not (ieqI v3 (we 95))) (match (cond (S.wordly x1) (iz ((S.word x1).1,((S.word x1).2,()))) i6) with|none=>i6|some v4=>(iz (v4.1,(v4.2.1,())))) (cond (keqS (S.signL (za x1)) x1) (iz ((we 5),((we 0),()))) (iz ((we 0),((we 2),())))))) (cond (keqS (S.signL (za x1)) x1) (iz ((we 5),((we 0),()))) (iz ((we 0),((we 2),()))))))) (cond (ieqI (S.run0 x1) (we x1.size)) (match (jget (za x1) (we 0)) with|none=>i6|some v5=>(cond (Bool.not (ieqI v5 (we 95))) (match (cond (S.wordly x1) (iz ((S.word x1).1,((S.word x1).2,()))) i6) with|none=>i6|some v6=>(iz (v6.1,(v6.2.1,())))) (cond (keqS (S.signL (za x1)) x1) (iz ((we 5),((we 0),()))) (iz ((we 0),((we 2),())))))) (cond (keqS (S.signL (za x1)) x1) (iz ((we 5),((we 0),()))) (iz ((we 0),((we 2),())))))))
def qiz(lf:Nat)(x1:Bq):Oq qmi:=q6n lf x1
theorem zmd{g:ElA [.str]->Oq qmi}(hsm:SmOK oa [(271,spz2),(331,spz7),(342,q30),(276,qij)])(hg:∀(x:ElA [.str]) (y:qmi),WfA [.str] x->g x=iz y->∃lf,qiz lf x.1=iz y):Con oa 275 ⟨[.str],[(eb,(.int .i64)),(eb,(.int .i64))],g⟩ :=
 conU (fi:=q7w) (hxl:=[]) (fun lf x=>qiz lf x.1) cm3 qxo trivial hsm hg
theorem zv0{α:Type}{b:Bool}{x y:α}(h:cond b (iz x) i6=iz y):b=i7/\x=y:=by
 cases b with
 | true=>exact⟨rfl,gk h⟩
 | false=>cases h
theorem zso{b:Int}(h:S.isDig b=i7):48<=b/\b<=57:=by
 simpa [S.isDig] using h
theorem zyi(l:Lz Bq)(s:Bq):S.has l s=!iltI (S.idx (fun y=>keqS s y) l) (we 0):=by
 have h:=S.idx_nonneg (fun y=>keqS s y) l;have e:S.has l s=l.any (fun y=>keqS s y):=by
  unfold S.has;refine xy (fun p=>List.any l p) (funext fun y=>?_);rw[qtx,qtx];by_cases h:za y=za s
  ·rw[xt h,xt h.symm]
  ·rw[xq h,xq fun e=>h e.symm]
 rw[e,qc];simp only[oL];by_cases a:S.idx (fun y=>keqS s y) l<0
 ·rw[xt a];cases b:l.any (fun y=>keqS s y) with
  | false=>rfl
  | true=>have:=h.2 b;omega
 ·rw[xq a];exact h.1 (by omega)
theorem q1l:Con oa zoq qw0:=zuw ⟨zrx,trivial⟩ fun x y a h=>⟨0,by
 refine Eq.trans ?_ h;exact xy (fun b=>iz (b,())) (zyi x.1 x.2.1).symm⟩
theorem zjf{n b:Int}(h0:0<=n)(h1:n<=1099511627776)(h2:48<=b)(h3:b<=57):IntKind.i64.wrap (oe (IntKind.i64.wrap (Int.mul (we 10) n)) (IntKind.i64.wrap (IntKind.u8.wrap (fq b (we 48)))))=10*n+(b-48):=by
 have e:IntKind.u8.wrap (fq b (we 48))=b-48:=by
  rw[show fq b (we 48)=b-48 from rfl];show (b-48) % 256=b-48;omega
 rw[e,show Int.mul (we 10) n=10*n from rfl,kn (a:=10*n) (by omega),kn (a:=b-48) (by omega),show oe (10*n) (b-48)=10*n+(b-48) from rfl,kn (by omega)]
theorem zdm(s:Bq)(hl:s.size<LF):Fz7 LF s=iz ((S.number s).1,(S.number s).2,()):=by
 have k:(za s).length<LF:=by rw[zt];exact hl
 have o:(∀b∈za s,S.isDig b=i7)->qex LF s LF (we 0,we 0)=iz ((S.numGo (za s) 0).1,(S.numGo (za s) 0).2,()):=fun d=>by
  refine range0 (σ:=Int) (R:=Rtz7) (za s) (fun i n=>(i,n)) (fun _ n=>0<=n/\n<=1099511627776) (fun a _ n=>iz ((S.numGo a n).1,(S.numGo a n).2,())) k (fun K n _=>?_) (fun K i v a n l r h=>?_) 0 (by omega)
  ·simp only[qje];rw[zt,jt];rfl
  ·have j:iltI (we i) (we s.size)=i7:=by have:=r.ilt;rwa [zt] at this
   obtain⟨q,p⟩:=zso (d v r.mem);simp only[qje,j,r.get,r.next,xa,zjf l.1 l.2 q p,S.numGo];rw[qc];simp only[oL];by_cases f:1099511627776<10*n+(v-48)
   ·rw[xt f,xa,xx f]
   ·rw[xq f,xe,xr f];exact h _ (by omega)
 simp only[Fz7,qts];unfold S.number S.digs;by_cases d:(za s).all S.isDig=i7
 ·rw[d,xr (by simp),gd,xe,o (xz.1 d),yq];by_cases g:1<s.size
  ·rw[xt g,xa];obtain⟨m,e⟩:∃b,(za s)[0]?=iz b:=⟨_,ql0 (by omega)⟩;rw[show jget (za s) (we 0)=iz m from bm.trans e,e];simp only[zx];simp only[oL];by_cases c:m=48
   ·rw[xt c,xx ⟨by rw[c],g⟩];rfl
   ·rw[xq c,xr (fun h=>c (gk h.1))];rfl
  ·rw[xq g,xr (fun h=>g h.2)];rfl
 ·rw[jao] at d;rw[d,xx rfl];rfl
theorem q6b:Con oa idz7 spz7:=mkz7 trivial fun x y a h=>⟨LF,(zdm x.1 a.1).trans h⟩
theorem qz3:Con oa 364 qji :=
 conK (nm:=fun _ _=>i6) (sm:=smL []) (hx:=hxL []) mixed ttOK ftOK (u6 trivial) (bp trivial) zzw fun x y hx h=>⟨20,1000,Eq.trans (show zn oa ttT.get ftT.get (fun _ _=>i6) (smL []) (hxL []) 1000 20 _ (.fn 364) [] S0 (runR qji)=iz (S.keywords,()) by kernel_rfl) h⟩
def qh7(s:Bq):Lz Bq->Oq (Bq × Unit)
 | []=>iz (S.lit [],())
 | x::r=>cond (S.isPre s x) (iz (x,())) (qh7 s r)
theorem q5e(s:Bq):∀l:Lz Bq,qh7 s l=iz ((match l.find? (fun x=>(za x).isPrefixOf (za s)) with|some x=>x|none=>S.lit []),())
 | []=>rfl
 | x::r=>by
  have ih:=q5e s r;simp only[qh7,List.find?_cons,S.isPre];cases (za x).isPrefixOf (za s) with
  | true=>rfl
  | false=>exact ih
theorem q3u:Con oa 276 qij :=
 conK (nm:=fun _ _=>i6) (sm:=smL [(272,qhh)]) (hx:=hxL []) mixed ttOK ftOK (u6 ⟨q4f,trivial⟩) (bp trivial) qy7 fun x y hx h=>⟨20,30,by
  obtain⟨s,u⟩:=x;exact(show zn oa ttT.get ftT.get (fun _ _=>i6) (smL [(272,qhh)]) (hxL []) 30 20 _ (.fn 276) (argV [.str] (s,u)) S0 (runR qij)=qh7 s S.signs by kernel_rfl).trans ((q5e s S.signs).trans h)⟩
theorem zcz{l:Lz Int}(h:l.all S.isPart=i7):l.all S.isLow=!l.any S.isCap:=by
 induction l with
 | nil=>rfl
 | cons b r ih =>
  rw[gu,xf] at h;rw[gu,List.any_cons,ih h.2,Bool.not_or];simp only[S.isLow,h.1,jae]
theorem zng{l:Lz Int}(h:l.all S.isPart=i7):l.all S.isHigh=!l.any S.isSmall:=by
 induction l with
 | nil=>rfl
 | cons b r ih =>
  rw[gu,xf] at h;rw[gu,List.any_cons,ih h.2,Bool.not_or];simp only[S.isHigh,h.1,jae]
theorem zik{s:Bq}(h:S.wordly s=i7):(za s).all S.isPart=i7/\((za s).any S.isSmall=i7\/(za s).any S.isCap=i7):=by
 unfold S.wordly at h
 grind
theorem zzt(lf:Nat)(s:Bq)(hw:S.wordly s=i7):qkh lf s=iz ((S.word s).1,(S.word s).2,()):=by
 obtain⟨a,b⟩:=zik hw;have d:S.lows s=!(za s).any S.isCap:=zcz a;have c:S.highs s=!(za s).any S.isSmall:=zng a;simp only[qkh,q4q,S.word,yq];show cond (S.has S.keywords s) (cond (S.has S.keywords s) _ _) (cond (S.has S.wordsT s) _ (cond (S.has S.smallWords s) _ _))=_
 grind
theorem zr0:Con oa zs2 q30:=ze0 ⟨qz3,q1l,trivial⟩ fun x y c h=>⟨0,by
 obtain⟨b,a⟩:=zv0 (show cond (S.wordly x.1) (iz ((S.word x.1).1,(S.word x.1).2,())) i6=iz y from h);exact(zzt 0 x.1 b).trans (xy iz a)⟩
theorem zut(l:Lz Int):S.runL l<=l.length:=by
 unfold S.runL;exact(jby _).length_le
theorem zco(l:Lz Int):S.runL l=l.length↔l.all S.isPart=i7:=by
 unfold S.runL;induction l with
 | nil=>simp
 | cons b r ih =>
  rw[jbd,gu]
  grind
theorem zcv:S.signs.all (fun x=>match (za x)[0]? with|some b=>!S.isPart b|none=>eb)=i7:=by decide +kernel
theorem zw8:S.signs.all (fun x=>keqS (S.signL (za x)) x)=i7:=by decide +kernel
theorem zdi(l:Lz Int):(S.signL l=S.lit []/\∀x∈S.signs,(za x).isPrefixOf l=eb)\/(S.signL l∈S.signs/\(za (S.signL l)).isPrefixOf l=i7):=by
 unfold S.signL
 grind
theorem qa5{l:Lz Bq}{s:Bq}:S.has l s=i7↔s∈l:=by
 unfold S.has;rw[r6];constructor
 ·rintro⟨x,a,h⟩;rw[<- xu h];exact a
 ·intro h;exact⟨s,h,xt rfl⟩
theorem zj4{s:Bq}(h0:¬s=S.lit []):keqS (S.signL (za s)) s=S.has S.signs s:=by
 cases a:S.has S.signs s with
 | true=>exact xz.1 zw8 s (qa5.1 a)
 | false =>
  unfold keqS;refine xq fun e=>?_;rcases zdi (za s) with ⟨b,_⟩|⟨b,_⟩
  ·grind
  ·rw[e] at b;rw[qa5.2 b] at a;cases a
theorem zwo{s:Bq}{b:Int}(hb:(za s)[0]?=iz b)(hp:S.isPart b=i7):S.has S.signs s=eb:=by
 cases a:S.has S.signs s with
 | false=>rfl
 | true =>
  have:=xz.1 zcv s (qa5.1 a)
  grind
theorem zc0(lf:Nat)(s:Bq):qiz lf s=iz ((S.shape s).1,(S.shape s).2,()):=by
 simp only[qiz,q6n];by_cases h:s=S.lit []
 ·rw[show keqS s (S.lit [])=i7 from xt h,xa,h];rw[show S.shape (S.lit [])=(0,2) by decide +kernel];rfl
 ·rw[show keqS s (S.lit [])=eb from xq h,xe];have j:0<s.size:=by
   cases m:s.size with
   | succ n=>omega
   | zero =>
    exact absurd (q9z (show za s=za (S.lit []) by
     have:(za s).length=0:=by rw[zt,m]
     rw[p8.1 this];rfl)) h
  obtain⟨b,g⟩:∃b,(za s)[0]?=iz b:=⟨_,ql0 j⟩;have q:jget (za s) (we 0)=iz b:=bm.trans g;have o:ieqI (S.run0 s) (we s.size)=decide (S.runL (za s)=s.size):=by unfold S.run0;exact qom _ _
  have p:S.runL (za s)<=s.size:=by have:=zut (za s);rwa [zt] at this
  rw[o,q,zj4 h];unfold S.shape;rw[g];simp only;by_cases c:S.runL (za s)=s.size
  ·have d:(za s).all S.isPart=i7:=(zco _).1 (by rw[c,zt]);have f:S.isPart b=i7:=xz.1 d b (p7 g);have k:=zwo g f;rw[xt c,k,xr (by simp),xr (show ¬S.runL (za s)<s.size by omega)];simp only[xa,xe,zx];have l:¬b=95->S.isDig b=eb->S.wordly s=i7:=fun t r=>by
    unfold S.wordly;rw[d,g];simp only[S.isPart,r,xq t,Bool.or_false] at f
    grind
   by_cases a:b=95
   ·have:S.isDig b=eb:=by subst a;rfl
    rw[xx a,a];rfl
   ·rw[xr a];simp only[oL];rw[xq a,gh,xa];by_cases i:S.isDig b=i7
    ·have e:=i;rw[qj7] at e
     grind
    ·rw[xr i,l a (by simpa using i)];have e:S.isDig b=eb:=by simpa using i
     rw[qj7] at e
     grind
  ·grind
theorem qkq:Con oa zzj qd1:=zmd ⟨q2o,q6b,zr0,q3u,trivial⟩ fun x y a h=>⟨0,(zc0 0 x.1).trans h⟩
theorem zlo(w:oh)(hg:Gl [] w)(s:Bq)(hs:s.size<9223372036854775808):mi oa 271 #[.string s] w (Ret fun v w'=>v=.int .i64 (we (S.runL (za s)))/\Upd [] w w') :=
 (qi9 (s:=spz2) q2o w hg (s,()) [.string s] (S.run0 s,()) rfl (.cons (.str s hs) .nil)).mono fun e w' a=>by
  cases e with
  | returned v=>obtain⟨⟨b,k⟩,u⟩:=a;exact⟨qli k,u⟩
  | panicked c=>exact a.elim
  | outgrown=>exact a.elim
theorem zju(w:oh)(hg:Gl [] w)(s:Bq)(hs:s.size<9223372036854775808):mi oa 276 #[.string s] w (Ret fun v w'=>v=.string (S.signL (za s))/\Upd [] w w') :=
 (qi9 (s:=qij) q3u w hg (s,()) [.string s] (S.signL (za s),()) rfl (.cons (.str s hs) .nil)).mono fun e w' a=>by
  cases e with
  | returned v=>obtain⟨⟨b,k⟩,u⟩:=a;exact⟨qx1 k,u⟩
  | panicked c=>exact a.elim
  | outgrown=>exact a.elim
theorem zy8(w:oh)(hg:Gl [] w)(s p:Bq)(hs:s.size<9223372036854775808)(hp:p.size<9223372036854775808):mi oa 272 #[.string s,.string p] w (Ret fun v w'=>v=.bool (S.isPre s p)/\Upd [] w w') :=
 (qi9 (s:=qhh) q4f w hg (s,p,()) [.string s,.string p] (S.isPre s p,()) rfl (.cons (.str s hs) (.cons (.str p hp) .nil))).mono fun e w' a=>by
  cases e with
  | returned v=>obtain⟨⟨b,k⟩,u⟩:=a;exact⟨zdy k,u⟩
  | panicked c=>exact a.elim
  | outgrown=>exact a.elim
theorem zyc(w:oh)(hg:Gl [] w)(s:Bq)(hs:s.size<9223372036854775808):mi oa 275 #[.string s] w (Ret fun v w'=>v=.tuple #[.int .i64 (S.shape s).1,.int .i64 (S.shape s).2]/\Upd [] w w') :=
 (qi9 (s:=qd1) qkq w hg (s,()) [.string s] ((S.shape s).1,(S.shape s).2,()) rfl (.cons (.str s hs) .nil)).mono fun e w' d=>by
  cases e with
  | returned v =>
   obtain⟨⟨f,k⟩,u⟩:=d;refine⟨?_,u⟩;have k:VR f (.tup [.int .i64 (S.shape s).1,.int .i64 (S.shape s).2]) v:=k;cases k with
   | tup h1 h2 =>
    rename_i g;match g,h1,h2 with
    | [a,b],h1,h2 =>
     have i:VR f (.int .i64 (S.shape s).1) a:=h2 0 (by simp) (by simp);have h:VR f (.int .i64 (S.shape s).2) b:=h2 1 (by simp) (by simp);rw[qli i,qli h]
  | panicked c=>exact d.elim
  | outgrown=>exact d.elim
theorem z0h(w:oh)(hg:Gl [] w)(s:Bq)(hs:s.size<9223372036854775808):mi oa 273 #[.string s,.func (.func 274) #[] #[]] w (Ret fun v w'=>v=.int .i64 (S.idx S.badB (za s))/\Upd [] w w') :=
 (dc.1 (zmm.calls (EM [] w) (s,()) [.string s,.func (.func 274) #[] #[]] (S.idx S.badB (za s),()) () rfl (preM (fun b c=>by cases c) hg) (.cons (.str s hs) (.cons (.fn (us:=[]) rfl (fun i h=>by simp at h)) .nil)))).mono fun e w' f=>by
  obtain⟨v,k,rfl,rfl,d,a⟩:=f;exact⟨qli d,a.os,a.tape,a.output,a.size,fun b c _=>a.same b c fun j _ g _=>g.elim⟩
def nmz8:Nat->Oq Nm:=fun k=>cond (od k 11) (iz ⟨[0,1,2,3,9,10],[(9,.str)],[],[],[],0,0,eb⟩) (i6)
def stz8:Nat->Bool:=fun k=>cond (od k 11) i7 (eb)
def hdz8:=stz8
abbrev Rtz8:Type:=(Lz Bq) × Unit
def qzr:Lz (Nat × Sm):=[(268,qw1),(278,qp1)]
def qye:Lz (Nat × Hx):=[]
def clz8(R:Type)(lf:Nat):ClK R:=zn oa ttT.get ftT.get (nm1 163 nmz8) (smL qzr) (hxL qye) lf 20 R
abbrev idz8:Nat:=163
def qcr(x1:Bq)(x2:Bq)(x3:Int)(x4:Int)(p:Int × (Lz Bq) × Bq × Int):NRes:=(NRes.mk (.node (iz (IV.str p.2.2.1)) (.node (iz (IV.str x2)) (.node (iz (IV.int .i64 p.1)) .leaf .leaf) (.node i6 (.node (iz (IV.arr 0)) .leaf .leaf) .leaf)) (.node (iz (IV.int .i64 x3)) .leaf (.node i6 (.node (iz (IV.int .i64 p.2.2.2)) .leaf .leaf) .leaf))) (IS.mk (.node (iz (IObj.arr TC.str p.2.1)) .leaf .leaf) 1) [] 0)
def qq5(lf:Nat)(x1:Bq)(x2:Bq)(x3:Int)(x4:Int)(L11:(Int × (Lz Bq) × Bq × Int)->Oq Rtz8):Oq Rtz8:=(cond (ieqI x4 (we 0)) (iz ([],())) (cond (keqS x2 (S.lit [])) i6 (cond (iltI x4 (we 0)) (match (cond (keqS x2 (S.lit [10])) (iz ((S.countB (za x1) (we 10)),())) i6) with|none=>i6|some v0=>(cond (iltI (imin (IntKind.i64.wrap (oe v0.1 (we 1))) (IntKind.i64.wrap (we (o5 x1.size 1)))) (we 0)) i6 (cond (og (o7 (f7 (imin (IntKind.i64.wrap (oe v0.1 (we 1))) (IntKind.i64.wrap (we (o5 x1.size 1))))) 16) 140737488355328) (L11 ((IntKind.i64.wrap (fq (imin (IntKind.i64.wrap (oe v0.1 (we 1))) (IntKind.i64.wrap (we (o5 x1.size 1)))) (we 1))),(S.rep (imin (IntKind.i64.wrap (oe v0.1 (we 1))) (IntKind.i64.wrap (we (o5 x1.size 1)))) (S.lit [])),x1,(we 0))) i6))) (cond (iltI (imin x4 (IntKind.i64.wrap (we (o5 x1.size 1)))) (we 0)) i6 (cond (og (o7 (f7 (imin x4 (IntKind.i64.wrap (we (o5 x1.size 1))))) 16) 140737488355328) (L11 ((IntKind.i64.wrap (fq (imin x4 (IntKind.i64.wrap (we (o5 x1.size 1)))) (we 1))),(S.rep (imin x4 (IntKind.i64.wrap (we (o5 x1.size 1)))) (S.lit [])),x1,(we 0))) i6)))))
def qag(lf:Nat)(x1:Bq)(x2:Bq)(x3:Int)(x4:Int)(L11:(Int × (Lz Bq) × Bq × Int)->Oq Rtz8)(p:Int × (Lz Bq) × Bq × Int):Oq Rtz8:=(cond (iltI p.2.2.2 p.1) (match (cond (keqS x2 (S.lit [10])) (iz ((S.indexB (za p.2.2.1) (we 10)),())) i6) with|none=>i6|some v0=>(cond (iltI v0.1 (we 0)) (match (jget p.2.1 p.2.2.2) with|none=>i6|some v1=>(match (av p.2.1 (f7 p.2.2.2)) with|none=>i6|some v2=>(cond (ieqI (IntKind.i64.wrap (oe p.2.2.2 (we 1))) (we (oq (List.set p.2.1 (f7 p.2.2.2) p.2.2.1)))) (iz ((List.set p.2.1 (f7 p.2.2.2) p.2.2.1),())) i6))) (cond (lchk (we 0) (IntKind.i64.wrap (oe v0.1 x3)) (we p.2.2.1.size) (we p.2.2.1.size)) (match (jget p.2.1 p.2.2.2) with|none=>i6|some v3=>(match (av p.2.1 (f7 p.2.2.2)) with|none=>i6|some v4=>(cond (lchk (IntKind.i64.wrap (oe v0.1 (we x2.size))) (we p.2.2.1.size) (we p.2.2.1.size) (we p.2.2.1.size)) (L11 (p.1,(List.set p.2.1 (f7 p.2.2.2) (au p.2.2.1 0 (f7 (IntKind.i64.wrap (oe v0.1 x3))))),(au p.2.2.1 (f7 (IntKind.i64.wrap (oe v0.1 (we x2.size)))) (f7 (we p.2.2.1.size))),(IntKind.i64.wrap (oe p.2.2.2 (we 1))))) i6))) i6))) (match (jget p.2.1 p.2.2.2) with|none=>i6|some v90=>(match (av p.2.1 (f7 p.2.2.2)) with|none=>i6|some v91=>(cond (ieqI (IntKind.i64.wrap (oe p.2.2.2 (we 1))) (we (oq (List.set p.2.1 (f7 p.2.2.2) p.2.2.1)))) (iz ((List.set p.2.1 (f7 p.2.2.2) p.2.2.1),())) i6))))
abbrev gz8:Type:=ElA [.str,.str,(.int .i64),(.int .i64)]->Oq Rtz8
abbrev sz8(g:gz8):Sm:=⟨[.str,.str,(.int .i64),(.int .i64)],[(i7,.str)],g⟩
abbrev Ez8(g:gz8)(J:JT Rtz8)(lf:Nat)(x1:Bq)(x2:Bq)(x3:Int)(x4:Int):=yr oa ttT.get nmz8 y5.nt (clz8 _ lf) lf stz8 J y5.body [] (zk (argV [.str,.str,(.int .i64),(.int .i64)] (x1,x2,x3,x4,())) 0 .leaf) S0 [] (jf ttT.get y5 (sz8 g))
abbrev Bz8(g:gz8)(J:JT Rtz8)(lf k:Nat)(ms:Lz Nat)(q:NRes):=nn oa ttT.get nmz8 y5.nt (clz8 _ lf) lf stz8 J k y5.body [] ms q (jf ttT.get y5 (sz8 g))
theorem inz8(g:gz8)(J:JT Rtz8)(lf:Nat)(x1:Bq)(x2:Bq)(x3:Int)(x4:Int):Ez8 g J lf x1 x2 x3 x4=qq5 lf x1 x2 x3 x4 (fun q=>J 11 [lf] (qcr x1 x2 x3 x4 q)):=by kernel_rfl
theorem zyl(g:gz8)(J:JT Rtz8)(lf:Nat)(x1:Bq)(x2:Bq)(x3:Int)(x4:Int)(m1:Nat)(p:Int × (Lz Bq) × Bq × Int):Bz8 g J lf 11 [m1] (qcr x1 x2 x3 x4 p)=qag lf x1 x2 x3 x4 (fun q=>J 11 [m1] (qcr x1 x2 x3 x4 q)) p:=by kernel_rfl
theorem ndz8:(regs y5.body).Nodup:=by decide +kernel
theorem okz8:okC nmz8 stz8 hdz8 y5.body i6=i7:=by kernel_rfl
def Az8(g:gz8)(lf:Nat):JT Rtz8:=atN oa ttT.get nmz8 y5 (sz8 g) (clz8 _ lf) lf hdz8
def qjk(lf:Nat)(x1:Bq)(x2:Bq)(x3:Int)(x4:Int):Nat->(Int × (Lz Bq) × Bq × Int)->Oq Rtz8:=rounds fun K p=>qag lf x1 x2 x3 x4 K p
theorem q53(g:gz8)(lf:Nat)(x1:Bq)(x2:Bq)(x3:Int)(x4:Int):∀(n:Nat) (p:Int × (Lz Bq) × Bq × Int),Az8 g lf 11 [n] (qcr x1 x2 x3 x4 p)=qjk lf x1 x2 x3 x4 n p
 | 0,p=>sn 11 [0] rfl _
 | n+1,p=>by
  have ih:=q53 g lf x1 x2 x3 x4 n;refine(c8 (qg 20 _) ndz8 okz8 11 [n+1] [n] rfl _).trans ((zyl g (Az8 g lf) lf x1 x2 x3 x4 n p).trans ?_);rw[(show (fun q=>Az8 g lf 11 [n] (qcr x1 x2 x3 x4 q))=(fun q=>qjk lf x1 x2 x3 x4 n q) from funext ih)];rfl
def Fz8(lf:Nat)(x1:Bq)(x2:Bq)(x3:Int)(x4:Int):Oq Rtz8:=qq5 lf x1 x2 x3 x4 (fun q=>qjk lf x1 x2 x3 x4 lf q)
theorem zdn(g:gz8)(lf:Nat)(x1:Bq)(x2:Bq)(x3:Int)(x4:Int):Ez8 g (Az8 g lf) lf x1 x2 x3 x4=Fz8 lf x1 x2 x3 x4:=by
  refine(inz8 g (Az8 g lf) lf x1 x2 x3 x4).trans ?_;rw[(show (fun q=>Az8 g lf 11 [lf] (qcr x1 x2 x3 x4 q))=(fun q=>qjk lf x1 x2 x3 x4 lf q) from funext fun q=>q53 g lf x1 x2 x3 x4 lf q)];rfl
theorem zzm:zv oa qye:=trivial
theorem mkz8{g:gz8}(hsm:SmOK oa qzr)(hg:∀(x:ElA [.str,.str,(.int .i64),(.int .i64)]) (y:Rtz8),WfA [.str,.str,(.int .i64),(.int .i64)] x->g x=iz y->∃lf,Fz8 lf x.1 x.2.1 x.2.2.1 x.2.2.2.1=iz y):Con oa 163 ⟨[.str,.str,(.int .i64),(.int .i64)],[(i7,.str)],g⟩ :=
 conV (st:=stz8) (fun lf x=>Fz8 lf x.1 x.2.1 x.2.2.1 x.2.2.2.1) cm3 zxm zzm ndz8 okz8 (fun lf x=>zdn g lf x.1 x.2.1 x.2.2.1 x.2.2.2.1) hsm hg
def nmz9:Nat->Oq Nm:=fun k=>cond (od k 2) (iz ⟨[0,1,5],[],[],[],[],0,0,eb⟩) (i6)
def stz9:Nat->Bool:=fun k=>cond (od k 2) i7 (eb)
def hdz9:=stz9
abbrev Rtz9:Type:=Int × Unit
def q2k:Lz (Nat × Sm):=[]
def q1v:Lz (Nat × Hx):=[]
def clz9(R:Type)(lf:Nat):ClK R:=zn oa ttT.get ftT.get (nm1 337 nmz9) (smL q2k) (hxL q1v) lf 20 R
abbrev idz9:Nat:=337
def qdc(x1:Bq)(x2:Int)(p:Int):NRes:=(NRes.mk (.node (iz (IV.str x1)) (.node (iz (IV.int .u8 x2)) .leaf (.node (iz (IV.int .i64 p)) .leaf .leaf)) .leaf) (IS.mk .leaf 0) [] 0)
def q7h(lf:Nat)(x1:Bq)(x2:Int)(L2:Int->Oq Rtz9):Oq Rtz9:=(L2 (IntKind.i64.wrap (fq (we x1.size) (we 1))))
def qg2(lf:Nat)(x1:Bq)(x2:Int)(L2:Int->Oq Rtz9)(p:Int):Oq Rtz9:=(cond (Bool.not (iltI p (we 0))) (match (jget (za x1) p) with|none=>i6|some v0=>(cond (ieqI v0 x2) (iz (p,())) (L2 (IntKind.i64.wrap (fq p (we 1)))))) (iz ((ae 0),())))
abbrev gz9:Type:=ElA [.str,(.int .u8)]->Oq Rtz9
abbrev sz9(g:gz9):Sm:=⟨[.str,(.int .u8)],[(eb,(.int .i64))],g⟩
abbrev Ez9(g:gz9)(J:JT Rtz9)(lf:Nat)(x1:Bq)(x2:Int):=yr oa ttT.get nmz9 bj.nt (clz9 _ lf) lf stz9 J bj.body [] (zk (argV [.str,(.int .u8)] (x1,x2,())) 0 .leaf) S0 [] (jf ttT.get bj (sz9 g))
abbrev Bz9(g:gz9)(J:JT Rtz9)(lf k:Nat)(ms:Lz Nat)(q:NRes):=nn oa ttT.get nmz9 bj.nt (clz9 _ lf) lf stz9 J k bj.body [] ms q (jf ttT.get bj (sz9 g))
theorem inz9(g:gz9)(J:JT Rtz9)(lf:Nat)(x1:Bq)(x2:Int):Ez9 g J lf x1 x2=q7h lf x1 x2 (fun q=>J 2 [lf] (qdc x1 x2 q)):=by kernel_rfl
theorem zym(g:gz9)(J:JT Rtz9)(lf:Nat)(x1:Bq)(x2:Int)(m1:Nat)(p:Int):Bz9 g J lf 2 [m1] (qdc x1 x2 p)=qg2 lf x1 x2 (fun q=>J 2 [m1] (qdc x1 x2 q)) p:=by kernel_rfl
theorem ndz9:(regs bj.body).Nodup:=by decide +kernel
theorem okz9:okC nmz9 stz9 hdz9 bj.body i6=i7:=by kernel_rfl
def Az9(g:gz9)(lf:Nat):JT Rtz9:=atN oa ttT.get nmz9 bj (sz9 g) (clz9 _ lf) lf hdz9
def qdp(lf:Nat)(x1:Bq)(x2:Int):Nat->(Int)->Oq Rtz9:=rounds fun K p=>qg2 lf x1 x2 K p
theorem q3c(g:gz9)(lf:Nat)(x1:Bq)(x2:Int):∀(n:Nat) (p:Int),Az9 g lf 2 [n] (qdc x1 x2 p)=qdp lf x1 x2 n p
 | 0,p=>sn 2 [0] rfl _
 | n+1,p=>by
  have ih:=q3c g lf x1 x2 n;refine(c8 (qg 20 _) ndz9 okz9 2 [n+1] [n] rfl _).trans ((zym g (Az9 g lf) lf x1 x2 n p).trans ?_);rw[(show (fun q=>Az9 g lf 2 [n] (qdc x1 x2 q))=(fun q=>qdp lf x1 x2 n q) from funext ih)];rfl
def Fz9(lf:Nat)(x1:Bq)(x2:Int):Oq Rtz9:=q7h lf x1 x2 (fun q=>qdp lf x1 x2 lf q)
theorem zb1(g:gz9)(lf:Nat)(x1:Bq)(x2:Int):Ez9 g (Az9 g lf) lf x1 x2=Fz9 lf x1 x2:=by
  refine(inz9 g (Az9 g lf) lf x1 x2).trans ?_;rw[(show (fun q=>Az9 g lf 2 [lf] (qdc x1 x2 q))=(fun q=>qdp lf x1 x2 lf q) from funext fun q=>q3c g lf x1 x2 lf q)];rfl
theorem zed:zv oa q1v:=trivial
theorem mkz9{g:gz9}(hsm:SmOK oa q2k)(hg:∀(x:ElA [.str,(.int .u8)]) (y:Rtz9),WfA [.str,(.int .u8)] x->g x=iz y->∃lf,Fz9 lf x.1 x.2.1=iz y):Con oa 337 ⟨[.str,(.int .u8)],[(eb,(.int .i64))],g⟩ :=
 conV (st:=stz9) (fun lf x=>Fz9 lf x.1 x.2.1) cm3 zcc zed ndz9 okz9 (fun lf x=>zb1 g lf x.1 x.2.1) hsm hg
abbrev qnf:Type:=zf × Int × Unit
abbrev zd5:Nat:=157
def q22(lf:Nat)(x1:Bq)(x2:Int):Oq qnf:=(cond (iltI x2 (we 0)) (iz (((we 0),(we 0)),((we 1),()))) (cond (iltI (we x1.size) x2) (iz (((we 0),(we 0)),((we 1),()))) (cond (lchk (we 0) x2 (we x1.size) (we x1.size)) (match (cond i7 (iz ((S.countB (za (au x1 0 (f7 x2))) (we 10)),())) i6) with|none=>i6|some v0=>(iz (((IntKind.i64.wrap (oe (we 1) v0.1)),(IntKind.i64.wrap (fq x2 (S.lastB (za (au x1 0 (f7 x2))) (we 10))))),((we 0),())))) i6)))
def qlx(lf:Nat)(x1:Bq)(x2:Int):Oq qnf:=q22 lf x1 x2
theorem zqt{g:ElA [.str,(.int .i64)]->Oq qnf}(hsm:SmOK oa [(268,qw1),(269,qv0)])(hg:∀(x:ElA [.str,(.int .i64)]) (y:qnf),WfA [.str,(.int .i64)] x->g x=iz y->∃lf,qlx lf x.1 x.2.1=iz y):Con oa 157 ⟨[.str,(.int .i64)],[(eb,jl),(eb,(.int .i64))],g⟩ :=
 conU (fi:=q0y) (hxl:=[]) (fun lf x=>qlx lf x.1 x.2.1) cm3 zs9 trivial hsm hg
theorem zwm(l:Lz Int):∃x xs,S.splitL l=x::xs:=by
 cases l with
 | nil=>exact⟨[],[],rfl⟩
 | cons b r =>
  unfold S.splitL;split
  ·exact⟨_,_,rfl⟩
  ·split<;>exact⟨_,_,rfl⟩
theorem qi3(r:Lz Int):S.splitL (10::r)=[]::S.splitL r:=by
 conv=>lhs;unfold S.splitL
 rw[xx rfl]
theorem qgm{b:Int}(h:¬b=10)(r:Lz Int):∃x xs,S.splitL r=x::xs/\S.splitL (b::r)=(b::x)::xs:=by
 obtain⟨x,xs,e⟩:=zwm r;refine⟨x,xs,e,?_⟩
 conv=>lhs;unfold S.splitL
 rw[xr h,e]
theorem qlg(l:Lz Int):(S.splitL l).length=l.count 10+1:=by
 induction l with
 | nil=>rfl
 | cons b r ih =>
  by_cases h:b=10
  ·subst h;rw[qi3,xw,ih,List.count_cons_self]
  ·obtain⟨x,d,c,a⟩:=qgm h r;rw[a,xw,jbz (fun e=>h e),<- ih,c,xw]
theorem zin{a:Lz Int}(h:∀b∈a,¬b=10)(r:Lz Int):S.splitL (a++10::r)=a::S.splitL r:=by
 induction a with
 | nil=>exact qi3 r
 | cons b a c =>
  have c:=c fun x e=>h x (xv _ e);obtain⟨x,g,d,f⟩:=qgm (h b x8) (a++10::r);rw[rn,f];rw[c] at d;cases d;rfl
theorem zah{a:Lz Int}(h:∀b∈a,¬b=10):S.splitL a=[a]:=by
 induction a with
 | nil=>rfl
 | cons b a c =>
  have c:=c fun x e=>h x (xv _ e);obtain⟨x,g,d,f⟩:=qgm (h b x8) a;rw[f];rw[c] at d;cases d;rfl
theorem zpp{l:Lz Int}(h:0<l.count 10):∃pre post,l=pre++10::post/\(∀b∈pre,¬b=10)/\S.indexB l 10=we pre.length:=by
 unfold S.indexB Go.Jx.S.idx;induction l with
 | nil=>simp at h
 | cons b r ih =>
  by_cases c:b=10
  ·subst c;exact⟨[],r,rfl,by simp,by simp[ri]⟩
  ·rw[jbz (fun e=>c e)] at h;obtain⟨pre,post,f,d,a⟩:=ih h;refine⟨b::pre,post,by rw[f];rfl,fun x hx=>?_,?_⟩
   ·rcases po.1 hx with rfl|hx
    ·exact c
    ·exact d x hx
   ·rw[ri,xq c];simp only[pu,p9]
    revert a
    cases ia (fun x=>decide (x=10)) r with
    | none=>intro a;exact absurd (show (-1:Int)=((pre.length:Nat):Int) from a) (by omega)
    | some j =>
     intro a;simp only[jau];have:j=pre.length:=jak a;rw[this];rfl
theorem qr6{s:Bq}(h:S.fits s=i7):s.size<=1000000:=xk h
theorem vn{α:Type}{b:Bool}{x y:α}(h:cond b (iz x) i6=iz y):b=i7/\x=y:=by
 cases b with
 | true=>exact⟨rfl,gk h⟩
 | false=>cases h
theorem q7m{a b:Int}(h:ieqI a b=i7):a=b:=by rw[zx] at h;exact xu h
theorem qfd{a b:Bq}(h:keqS a b=i7):a=b:=xu h
theorem zfg(s:Bq):zn oa ttT.get ftT.get (fun _ _=>i6) (smL [(366,qti)]) (hxL []) 30 20 _ (.fn 278) (argV [.str,.str] (s,S.lit [10],())) S0 (runR qp1)=cond (keqS (S.lit [10]) s) (iz (0,())) (iz (S.indexB (za s) 10,())):=by kernel_rfl
theorem zjd(s:Bq):(cond (keqS (S.lit [10]) s) (iz ((0:Int),())) (iz (S.indexB (za s) 10,())))=iz (S.indexB (za s) 10,()):=by
 cases h:keqS (S.lit [10]) s with
 | false=>rfl
 | true=>rw[<- qfd h];rfl
theorem zcb:Con oa 278 qp1 :=
 conK (nm:=fun _ _=>i6) (sm:=smL [(366,qti)]) (hx:=hxL []) mixed ttOK ftOK (u6 ⟨zvi,trivial⟩) (bp trivial) zsr fun x y hx h=>⟨20,30,by
  obtain⟨s,t,u⟩:=x;obtain⟨c,b⟩:=vn (show cond (keqS t (S.lit [10])) (iz (S.indexB (za s) 10,())) i6=iz y from h);have a:t=S.lit [10]:=qfd c;subst a;exact((zfg s).trans (zjd s)).trans (xy iz b)⟩
theorem qdb{n:Nat}(h:n<9223372036854775808):IntKind.i64.wrap (we n)=we n:=kn (by show -_<=(n:Int)/\(n:Int)<_;omega)
theorem zcm{α:Type}{l:Lz α}{i:Nat}{x:α}(h:l.length=i+1):l.set i x=l.take i++[x]:=by
 rw[jbl,xx (by omega),jbo (by omega)]
theorem take_set{α:Type}{l:Lz α}{i:Nat}{x:α}(h:i<l.length):(l.set i x).take (i+1)=l.take i++[x]:=by
 rw[jbl,xx h,List.take_append,jab,Nat.min_eq_left (by omega),jbt,Nat.min_eq_right (by omega),show i+1-i=1 by omega];rfl
theorem qc8{α:Type}{l:Lz α}{i:Nat}(h:i<l.length):jget l (we i)=iz l[i]:=bm.trans (xc h)
theorem qx4(s0:Bq):∀(k:Nat) (s:Bq) (i:Nat) (a:Lz Bq) (m:Nat),(S.splitL (za s)).length=k+1->a.length=i+k+1->s.size<=1000000->i+k<=1000000->k<m ->
  rounds (fun K p=>qag LF s0 (S.lit [10]) (we 0) (ae 0) K p) m (we (i+k),a,s,we i)=iz (a.take i++(S.splitL (za s)).map zq,())
 | k,s,i,a,0,_,_,_,_,h=>by omega
 | 0,s,i,a,m+1,h1,h2,h3,h4,_=>by
  show qag LF s0 (S.lit [10]) (we 0) (ae 0) _ _=_;have hn:∀b∈za s,¬b=10:=by
   rw[qlg] at h1
   grind
  have hi:i<a.length:=by omega
  simp only[qag,g8,jt,xe,qc8 hi];rw[show a[f7 (we i)]?=iz a[i] from xc hi];simp only[rx];rw[qi8 (by unfold LF;omega),qom,xt (by omega),xa,zah hn];show iz (a.set i s,())=_;rw[zcm (by omega),ga,jcj,yc]
 | k+1,s,i,a,m+1,h1,h2,h3,h4,hm=>by
  show qag LF s0 (S.lit [10]) (we 0) (ae 0) _ _=_;have hc:0<(za s).count 10:=by rw[qlg] at h1;omega
  obtain⟨pre,post,e1,e2,e3⟩:=zpp hc;have hsz:pre.length+(1+post.length)=s.size:=by rw[<- zt s,e1];simp;omega
  have hi:i<a.length:=by omega
  have hidx:S.indexB (za s) (we 10)=we pre.length:=e3;simp only[qag];rw[sc (show we i<we (i+(k+1)) by show (i:Int)<((i+(k+1):Nat):Int);omega),xa,show keqS (S.lit [10]) (S.lit [10])=i7 from xt rfl];simp only[xa,hidx,qc8 hi];rw[show a[f7 (we i)]?=iz a[i] from xc hi];have w0:IntKind.i64.wrap (oe (we pre.length) (we 0))=we pre.length:=by
   rw[show oe (we pre.length) (we 0)=we pre.length from rfl];exact qdb (by omega)
  have w1:IntKind.i64.wrap (oe (we pre.length) (we (m9 (S.lit [10]))))=we (pre.length+1):=by
   rw[show oe (we pre.length) (we (m9 (S.lit [10])))=we (pre.length+1) from rfl];exact qdb (by omega)
  rw[bq (show ¬we pre.length<we 0 by show ¬((pre.length:Nat):Int)<0;omega),xe,w0,w1,qtn (by omega),xa];simp only;rw[show lchk (we (pre.length+1)) (we s.size) (we s.size) (we s.size)=i7 by simp[lchk];omega,xa,qi8 (by unfold LF;omega)];have hd:za (s.extract (pre.length+1) s.size)=post:=by
   rw[qvx _ _ _ (xl _),e1];simp
  have ht:s.extract 0 pre.length=zq pre:=by
   rw[<- yc (s.extract 0 pre.length),qjm,e1];simp
  have hsp:S.splitL (za s)=pre::S.splitL post:=by rw[e1];exact zin e2 post
  have ih:=qx4 s0 k (s.extract (pre.length+1) s.size) (i+1) (a.set i (s.extract 0 pre.length)) m (by rw[hd];rw[hsp] at h1;simpa using h1) (by rw[rx];omega) (by rw[jaa];omega) (by omega) (by omega);rw[show i+1+k=i+(k+1) by omega] at ih;refine ih.trans ?_;rw[take_set hi,hd,hsp,ga,ht,gq];rfl
theorem zve(s:Bq)(hs:s.size<=1000000):Fz8 LF s (S.lit [10]) (we 0) (ae 0)=iz (S.lines s,()):=by
 have f:(za s).count 10<=s.size:=by have:=jay (a:=(10:Int)) (l:=za s);rwa [zt] at this
 have g:S.countB (za s) (we 10)=we ((za s).count 10):=rfl;simp only[Fz8,qq5];rw[show ieqI (ae 0) (we 0)=eb from rfl,xe,show keqS (S.lit [10]) (S.lit [])=eb by decide +kernel,xe,show iltI (ae 0) (we 0)=i7 from rfl,xa,show keqS (S.lit [10]) (S.lit [10])=i7 from xt rfl];simp only[xa,g];have e:IntKind.i64.wrap (oe (we ((za s).count 10)) (we 1))=we ((za s).count 10+1):=qi8 (by unfold LF;omega);have d:IntKind.i64.wrap (we (o5 s.size 1))=we (s.size+1):=qdb (by show s.size+1<_;omega);have c:imin (we ((za s).count 10+1)) (we (s.size+1))=we ((za s).count 10+1):=by
  unfold imin;rw[yq,xq (by omega),xe]
 rw[e,d,c,bq (show ¬we ((za s).count 10+1)<we 0 by show ¬(((za s).count 10+1:Nat):Int)<0;omega),xe,
  show og (o7 (f7 (we ((za s).count 10+1))) 16) 140737488355328=i7 from x7 (by show ((za s).count 10+1)*16<=_;omega),xa]
 have b:IntKind.i64.wrap (fq (we ((za s).count 10+1)) (we 1))=we (0+(za s).count 10):=by
  rw[show fq (we ((za s).count 10+1)) (we 1)=we (0+(za s).count 10) by show (((za s).count 10+1:Nat):Int)-1=((0+(za s).count 10:Nat):Int);omega];exact qdb (by omega)
 rw[b];have:=qx4 s ((za s).count 10) s 0 (S.rep (we ((za s).count 10+1)) (S.lit [])) LF (qlg _) (by unfold S.rep;simp) hs (by omega) (by unfold LF;omega);exact this.trans rfl
theorem zkt:Con oa idz8 spz8:=mkz8 ⟨zao,zcb,trivial⟩ fun x y m h=>⟨LF,by
 obtain⟨s,t,a,b,u⟩:=x;obtain⟨c,d⟩:=vn (show cond (keqS t (S.lit [10])&&(ieqI a 0&&(ieqI b (-1)&&S.fits s))) (iz (S.lines s,())) i6=iz y from h);simp only[xf] at c;obtain⟨i,g,f,e⟩:=c;have l:t=S.lit [10]:=qfd i;have k:a=we 0:=q7m g;have j:b=ae 0:=q7m f;subst l k j;exact(zve s (qr6 e)).trans (xy iz d)⟩
theorem zi7(s:Bq):zn oa ttT.get ftT.get (fun _ _=>i6) (smL [(163,spz8)]) (hxL []) 30 20 _ (.fn 87) (argV [.str,.str] (s,S.lit [10],())) S0 (runR qp0)=(match (cond (Bool.and i7 (S.fits s)) (iz (S.lines s,())) i6:Oq (Lz Bq × Unit)) with|none=>i6|some v=>iz (v.1,())):=by kernel_rfl
theorem znu:Con oa 87 qp0 :=
 conK (nm:=fun _ _=>i6) (sm:=smL [(163,spz8)]) (hx:=hxL []) mixed ttOK ftOK (u6 ⟨zkt,trivial⟩) (bp trivial) zno fun x y hx h=>⟨20,30,by
  obtain⟨s,t,u⟩:=x;obtain⟨a,c⟩:=vn (show cond (keqS t (S.lit [10])&&S.fits s) (iz (S.lines s,())) i6=iz y from h);simp only[xf] at a;have b:t=S.lit [10]:=qfd a.1;subst b;refine(zi7 s).trans ?_;rw[a.2];exact xy iz c⟩
theorem q8j(c b:Int):∀(l:Lz Int) (i:Nat) (r:Int),S.lastGo c (l++[b]) i r=if b=c then we (i+l.length) else S.lastGo c l i r
 | [],i,r=>rfl
 | x::l,i,r=>by
  show S.lastGo c (l++[b]) (i+1) _=_;rw[q8j c b l (i+1) _];simp only[xw];rw[show i+1+l.length=i+(l.length+1) by omega];rfl
theorem zci(l:Lz Int)(b c:Int):S.lastB (l++[b]) c=if b=c then we l.length else S.lastB l c:=by
 unfold S.lastB;rw[q8j,x6]
theorem qzn(s:Bq)(c:Int)(hs:s.size<9223372036854775808):∀(k m:Nat),k<=s.size->k<m ->
  rounds (fun K p=>qg2 LF s c K p) m (we k-1)=iz (S.lastB ((za s).take k) c,())
 | k,0,_,h=>by omega
 | 0,m+1,_,_=>rfl
 | k+1,m+1,hk,hm=>by
  show qg2 LF s c _ _=_;have e:we (k+1)-1=we k:=by show ((k+1:Nat):Int)-1=((k:Nat):Int);omega
  have hl:k<(za s).length:=by rw[zt];omega
  rw[e];simp only[qg2,qc8 hl];rw[bq (show ¬we k<we 0 by show ¬((k:Nat):Int)<0;omega),gh,xa,zx,jbn hl,zci];by_cases h:(za s)[k]=c
  ·grind
  ·rw[xq h,xe,xr h];have w:IntKind.i64.wrap (fq (we k) (we 1))=we k-1:=by
    rw[show fq (we k) (we 1)=we k-1 from rfl];exact kn (by show -_<=((k:Nat):Int)-1/\((k:Nat):Int)-1<_;omega)
   rw[w];exact qzn s c hs k m (by omega) (by omega)
theorem zdp(s:Bq)(c:Int)(hs:s.size<9223372036854775808):Fz9 LF s c=iz (S.lastB (za s) c,()):=by
 show qdp LF s c LF (IntKind.i64.wrap (fq (we s.size) (we 1)))=_;rw[show fq (we s.size) (we 1)=we s.size-1 from rfl,kn (a:=we s.size-1) (by show -_<=((s.size:Nat):Int)-1/\((s.size:Nat):Int)-1<_;omega)];refine(qzn s c hs s.size LF (xl _) hs).trans ?_;rw[r9 (by rw[zt];exact xl _)]
theorem zg6:Con oa idz9 spz9:=mkz9 trivial fun x y a h=>⟨LF,(zdp x.1 x.2.1 a.1).trans h⟩
theorem zda:Con oa 269 qv0 :=
 conK (nm:=fun _ _=>i6) (sm:=smL [(337,spz9)]) (hx:=hxL []) mixed ttOK ftOK (u6 ⟨zg6,trivial⟩) (bp trivial) zsg fun x y hx h=>⟨20,30,by
  obtain⟨s,c,u⟩:=x;exact(show zn oa ttT.get ftT.get (fun _ _=>i6) (smL [(337,spz9)]) (hxL []) 30 20 _ (.fn 269) (argV [.str,.int .u8] (s,c,u)) S0 (runR qv0)=iz (S.lastB (za s) c,()) by kernel_rfl).trans h⟩
theorem qpj:∀(l:Lz Int) (n:Int) (i:Nat) (r:Int),S.placeGo l n (we i-r)=(n+we (l.count 10),we (i+l.length)-S.lastGo 10 l i r)
 | [],n,i,r=>by simp[S.placeGo,S.lastGo]
 | b::l,n,i,r=>by
  unfold S.placeGo S.lastGo;by_cases h:b=10
  ·subst h;rw[xx rfl,xx rfl];have:=qpj l (n+1) (i+1) (we i);rw[show we (i+1)-we i=1 by show ((i+1:Nat):Int)-(i:Int)=1;omega] at this;rw[this,List.count_cons_self,xw,show i+1+l.length=i+(l.length+1) by omega];refine Prod.ext ?_ rfl;show n+1+((l.count 10:Nat):Int)=n+((l.count 10+1:Nat):Int);omega
  ·rw[xr h,xr h];have:=qpj l n (i+1) r;rw[show we (i+1)-r=we i-r+1 by show ((i+1:Nat):Int)-r=(i:Int)-r+1;omega] at this;rw[this,jbz (fun e=>h e),xw,show i+1+l.length=i+(l.length+1) by omega]
theorem zgk(l:Lz Int):S.placeGo l 1 1=(1+S.countB l 10,we l.length-S.lastB l 10):=by
 have:=qpj l 1 0 (-1);rw[x6] at this;exact this
theorem zkk(l:Lz Int)(c:Int):-1<=S.lastB l c/\S.lastB l c<we l.length\/S.lastB l c=-1:=by
 have h:∀(l:Lz Int) (i:Nat) (r:Int),S.lastGo c l i r=r\/(we i<=S.lastGo c l i r/\S.lastGo c l i r<we (i+l.length)):=by
  intro l;induction l with
  | nil=>intro i r;exact .inl rfl
  | cons b l ih =>
   intro i r;unfold S.lastGo;rcases ih (i+1) (if b=c then we i else r) with e|⟨d,a⟩
   ·rw[e];by_cases f:b=c
    ·rw[xx f];refine .inr ⟨gr _,?_⟩;show (i:Int)<((i+(b::l).length:Nat):Int);simp only[xw];omega
    ·rw[xr f];exact .inl rfl
   ·refine .inr ⟨?_,?_⟩
    ·have d:((i+1:Nat):Int)<=_:=d;show (i:Int)<=_;omega
    ·have a:_<((i+1+l.length:Nat):Int):=a;show _<((i+(b::l).length:Nat):Int);simp only[xw];omega
 rcases h l 0 (-1) with e|⟨d,a⟩
 ·exact .inr e
 ·rw[x6] at a;have d:(0:Int)<=S.lastB l c:=d;exact .inl ⟨by omega,a⟩
theorem zbu{s:Bq}{n:Int}(h0:¬n<0)(h1:¬we s.size<n):∃k:Nat,n=we k/\k<=s.size:=by
 have h1:¬(s.size:Int)<n:=h1;exact⟨n.toNat,by show n=((n.toNat:Nat):Int);omega,by omega⟩
theorem zl9(lf:Nat)(s:Bq)(n:Int)(hs:S.fits s=i7):qlx lf s n=iz ((S.placeOf s n).1,(S.placeOf s n).2,()):=by
 have j:=qr6 hs;simp only[qlx,q22,S.placeOf];by_cases d:n<0
 ·rw[sc (show n<we 0 from d),xa,xx (.inl d)];rfl
 ·by_cases e:we s.size<n
  ·rw[bq (show ¬n<we 0 from d),xe,sc e,xa,xx (.inr e)];rfl
  ·obtain⟨k,rfl,m⟩:=zbu d e;rw[bq (show ¬we k<we 0 from d),xe,bq e,xe,xr (by intro h;rcases h with h|h<;>contradiction),qtn m,xa,xa];have q:za (s.extract 0 (f7 (we k)))=(za s).take k:=qjm s k;have c:((za s).take k).length=k:=by rw[jab,zt];omega
   rw[q,zgk,show f7 (we k)=k from rfl];have p:S.countB ((za s).take k) 10=((((za s).take k).count 10:Nat):Int):=rfl;have o:((za s).take k).count 10<=k:=by have:=jay (a:=(10:Int)) (l:=(za s).take k);omega
   have f:=zkk ((za s).take k) 10;rw[c] at f;have f:-1<=S.lastB ((za s).take k) 10/\S.lastB ((za s).take k) 10<=(k:Int):=by
    rcases f with ⟨a,b⟩|a
    ·have b:_<(k:Int):=b;omega
    ·omega
   have i:IntKind.i64.wrap (oe (we 1) (S.countB ((za s).take k) (we 10)))=1+S.countB ((za s).take k) 10:=by
    rw[show oe (we 1) (S.countB ((za s).take k) (we 10))=1+S.countB ((za s).take k) 10 from rfl];exact kn (by rw[p];omega)
   have g:IntKind.i64.wrap (fq (we k) (S.lastB ((za s).take k) (we 10)))=we k-S.lastB ((za s).take k) 10:=by
    rw[show fq (we k) (S.lastB ((za s).take k) (we 10))=we k-S.lastB ((za s).take k) 10 from rfl];exact kn (by show _<=(k:Int)-_/\(k:Int)-_<_;omega)
   simp only[i,g,c];rfl
theorem qx9:Con oa zd5 qpl:=zqt ⟨zao,zda,trivial⟩ fun x y c h=>⟨0,by
 obtain⟨b,a⟩:=vn (show cond (S.fits x.1) (iz ((S.placeOf x.1 x.2.1).1,(S.placeOf x.1 x.2.1).2,())) i6=iz y from h);exact(zl9 0 x.1 x.2.1 b).trans (xy iz a)⟩
theorem qhw:∀(l:Lz Int) (x:Lz Int),x∈S.splitL l->(∀b∈x,b∈l)/\x.length<=l.length
 | [],x,h=>by
  have:x=[]:=by simpa [S.splitL] using h
  subst this;simp
 | b::r,x,h=>by
  by_cases hb:b=10
  ·subst hb;rw[qi3] at h;rcases po.1 h with rfl|h
   ·simp
   ·obtain⟨h1,h2⟩:=qhw r x h;exact⟨fun c hc=>xv _ (h1 c hc),by simp;omega⟩
  ·obtain⟨y,ys,e1,e2⟩:=qgm hb r;rw[e2] at h;rcases po.1 h with rfl|h
   ·obtain⟨h1,h2⟩:=qhw r y (by rw[e1];exact x8);refine⟨fun c hc=>?_,by simp;omega⟩;rcases po.1 hc with rfl|hc
    ·exact x8
    ·exact xv _ (h1 c hc)
   ·obtain⟨h1,h2⟩:=qhw r x (by rw[e1];exact xv _ h);exact⟨fun c hc=>xv _ (h1 c hc),by simp;omega⟩
theorem q0r{s:Bq}{x:Lz Int}(h:x∈S.splitL (za s)):za (zq x)=x/\(zq x).size=x.length/\x.length<=s.size:=by
 obtain⟨d,c⟩:=qhw _ x h;have e:za (zq x)=x:=qmf fun b a=>ce (d b a);refine⟨e,?_,by rw[<- zt s];exact c⟩;rw[<- zt,e]
theorem q15(s:Bq):(S.lines s).map za=S.splitL (za s):=by
 unfold S.lines;rw[jbx]
 conv=>rhs;rw[<- List.map_id (S.splitL (za s))]
 exact rq fun x a=>(q0r a).1
theorem zs0{s t:Bq}(h:t∈S.lines s):t.size<=s.size:=by
 obtain⟨x,a,rfl⟩:=dh.1 h;obtain⟨_,c,b⟩:=q0r a;omega

end Go.Proofs.YtaepcfidpcoofaaGreatDoor
end

noncomputable section

end

noncomputable section
set_option maxRecDepth 100000
namespace Go.Proofs.YtaepcfidpcoofaaGreatDoor
open Go Go.Sx Go.RowKit Go.Jx
theorem qzi{x:Bq}(h:x∈S.signs):1<=x.size/\x.size<=2:=by
 have:S.signs.all (fun x=>decide (1<=x.size/\x.size<=2))=i7:=by decide +kernel
 exact xu (xz.1 this x h)
theorem qll(d:Lz Int):S.runL d<=d.length:=(jby (p:=S.isPart)).length_le
theorem n9(d:Lz Int):S.signL d=S.lit []\/(S.signL d∈S.signs/\za (S.signL d)=d.take (S.signL d).size/\(S.signL d).size<=d.length):=by
 unfold S.signL;cases h:S.signs.find? (fun x=>(za x).isPrefixOf d) with
 | none=>exact .inl rfl
 | some x =>
  have b:=List.mem_of_find?_eq_some h;have a:=List.find?_some h;rw[gj] at a;refine .inr ⟨b,?_,?_⟩
  ·simp only;rw[<- zt x];exact List.prefix_iff_eq_take.1 a
  ·simp only;rw[<- zt x];exact a.length_le
theorem q02:∀(d:Lz Int) (n:Nat),n<=(S.noteGo d n).2/\(S.noteGo d n).2<=n+d.length
 | [],n=>by simp[S.noteGo]
 | b::r,n=>by
  unfold S.noteGo;split
  ·simp
  split
  ·simp
  have:=q02 r (n+1);simp only[xw];omega
theorem zo1{x:Bq}(h:x∈S.signs):S.shape x=(5,0):=by
 unfold S.shape;rw[xx];exact r6.2 ⟨x,h,xt rfl⟩
theorem zvo(s:Bq):¬(S.word s).1=6:=by
 unfold S.word;split
 ·decide
 split
 ·decide
 split
 ·decide
 split
 ·decide
 split<;>decide
theorem qt7(s:Bq):¬(S.shape s).1=6:=by
 unfold S.shape;split
 ·decide
 split
 ·decide
 split
 ·decide
 split
 ·decide
 split
 ·split
  ·decide
  ·show ¬(0:Int)=6;decide
 exact zvo s
def fin(N L:Lz zb)(q:Lz (Int × Bq × Nat) × Oq (Nat × Int))(more:Lz (Lz Int))(n:Int):qkd:=match q.2 with
 | some (c,e)=>([],[],(n,we c),e)
 | none=>if (S.readL more (n+1)).2.2=0 then (L++(S.at_ n q.1++(S.readL more (n+1)).1).filter S.isTok,N++(S.at_ n q.1++(S.readL more (n+1)).1).filter S.isNote,(0,0),0) else ([],[],(S.readL more (n+1)).2.1,(S.readL more (n+1)).2.2)
theorem qae:∀(f:Nat) (l:Lz Int) (c:Nat) (x:Nat × Int),(S.pcs f l c).2=iz x->¬x.2=0
 | 0,_,_,x,h=>by cases h
 | f+1,[],_,x,h=>by cases h
 | f+1,b::r,c,x,h=>by
  unfold S.pcs at h;split at h
  ·exact qae f r (c+1) x h
  split at h
  ·exact qae f _ _ x h
  ·rename_i h2;cases h;exact h2

theorem zqd{r:Lz Int}(h:(S.tok r).2.2.1=0)(hr:0<r.length):1<=(S.tok r).1/\(S.tok r).1<=r.length:=by
 unfold S.tok at h ⊢;split
 ·rename_i b;rw[xx b] at h;have d:=(gj.1 b).length_le;have d:2<=r.length:=d;have:=q02 (r.drop 2) 2;rw[gy] at this;cases f:(S.noteGo (r.drop 2) 2).1 with
  | true=>rw[xa];simp only;omega
  | false=>rw[f] at h;cases h
 ·rename_i b;rw[xr b] at h;split
  ·rename_i c;exact⟨c,qll r⟩
  ·rename_i c;rw[xr c] at h;split
   ·rename_i a;rw[xx a] at h;cases h
   ·rename_i a;rcases n9 r with e|⟨_,_,e⟩
    ·rw[e] at a;exact absurd rfl a
    ·simp only;omega
theorem qym:∀(r:Lz Int) (n:Nat),(∀b∈r,¬b=10)->S.noteGo r n=match r.findIdx? S.badB with|none=>(i7,n+r.length)|some i=>(eb,n+i)
 | [],n,_=>rfl
 | b::r,n,h=>by
  have ih:=qym r (n+1) fun c hc=>h c (xv _ hc);unfold S.noteGo;rw[xr (h b x8),ri];by_cases hb:b<32\/126<b
  ·have:S.badB b=i7:=by unfold S.badB;rw[jbi,du,du];exact hb
   grind
  ·have:S.badB b=eb:=by
    rw[jcb];intro e;unfold S.badB at e
    grind
   grind
theorem q2f(r:Lz Int)(h:[45,45].isPrefixOf r=i7)(hn:∀b∈r,¬b=10):S.noteGo (r.drop 2) 2=match r.findIdx? S.badB with|none=>(i7,r.length)|some i=>(eb,i):=by
 obtain⟨t,rfl⟩:=gj.1 h;show S.noteGo t 2=_;rw[qym t 2 fun b a=>hn b (gg _ a)];show _=match (45::45::t:Lz Int).findIdx? S.badB with|none=>(i7,_)|some i=>(eb,i)
 rw[ri,ri,show S.badB 45=eb from rfl]
 grind
theorem za7(r:Lz Int)(hr:∀b∈r,0<=b/\b<256)(h:r[0]?=iz 95):S.shape (zq (r.take (S.runL r)))=(0,2):=by
 cases r with
 | nil=>cases h
 | cons a r =>
  obtain rfl:a=95:=by simpa using h
  have c:S.runL (95::r)=S.runL r+1:=rfl;have g:(95::r:Lz Int).take (S.runL (95::r))=95::r.take (S.runL r):=by rw[c];rfl
  have d:za (zq ((95::r:Lz Int).take (S.runL (95::r))))=95::r.take (S.runL r):=by
   rw[qmf fun b d=>hr b (jaz d),g]
  have i:S.has S.signs (zq ((95::r:Lz Int).take (S.runL (95::r))))=eb:=by
   rw[jcb];intro e;obtain⟨x,f,j⟩:=r6.1 e;have:S.signs.all (fun x=>!decide ((za x)[0]?=iz 95))=i7:=by decide +kernel
   have k:=xz.1 this x f;rw[show x=_ from qfd j,d] at k
   grind
  unfold S.shape
  grind
theorem zoi(r:Lz Int)(a:Nat)(hr:∀b∈r,0<=b/\b<256)(hn:∀b∈r,¬b=10):((S.pieceX r a).1.2.2=(S.tok r).2.2.1)/\(S.pieceX r a).1.2.1=we (a+(S.tok r).2.2.2)/\((S.tok r).2.2.1=0->(S.pieceX r a).1.1=((S.tok r).2.1,zq (r.take (S.tok r).1),0,0)/\(S.pieceX r a).2=(S.tok r).1):=by
 unfold S.pieceX S.tok;by_cases c:[45,45].isPrefixOf r=i7
 ·rw[xx c,xx c,q2f r c hn]
  grind
 ·rw[xr c,xr c];by_cases g:0<S.runL r
  ·rw[xx g];by_cases i:r[0]?=iz 95
   ·have f:(S.signL r).size=0:=by
     rcases n9 r with e|⟨k,j,l⟩
     ·rw[e];rfl
     ·have m:=qzi k;have:S.signs.all (fun x=>!decide ((za x)[0]?=iz 95))=i7:=by decide +kernel
      grind
    rw[xr (fun h=>h.2 i),xx f,za7 r hr i]
    grind
   ·grind
  ·rw[xr (fun h=>g h.1),xr g];by_cases d:(S.signL r).size=0
   ·grind
   ·rw[xr d,xr d];refine⟨rfl,rfl,fun _=>⟨?_,rfl⟩⟩;rcases n9 r with e|⟨k,j,l⟩
    ·rw[e] at d;exact absurd rfl d
    ·show (5,S.signL r,0,0)=(5,zq (r.take (S.signL r).size),0,0);rw[<- j,yc]
theorem q6x{r:Lz Int}(h:(S.tok r).2.2.1=0):(S.tok r).2.2.2=0:=by
 unfold S.tok at h ⊢
 grind
theorem qjq(w:Int->Bool)(n:Int):∀(f:Nat) (r:Lz Int) (a:Nat) (acc:Lz zb),(∀b∈r,0<=b/\b<256)->(∀b∈r,¬b=10) ->
  S.rdGo w n (S.piecesGo f r a) acc=match (S.pcs f r (a+1)).2 with
   | some (c,e)=>([],iz ((n,we c),e))
   | none=>(acc++(S.at_ n (S.pcs f r (a+1)).1).filter (fun t=>w t.1),i6)
 | 0,r,a,acc,_,_=>by simp[S.piecesGo,S.rdGo,S.pcs,S.at_]
 | f+1,[],a,acc,_,_=>by simp[S.piecesGo,S.rdGo,S.pcs,S.at_]
 | f+1,b::r,a,acc,hr,hn=>by
  obtain⟨p1,p2,p3⟩:=zoi (b::r) a hr hn;have hp:S.pcs (f+1) (b::r) (a+1)=if b=32 then S.pcs f r (a+1+1) else if (S.tok (b::r)).2.2.1=0 then (((S.tok (b::r)).2.1,zq ((b::r).take (S.tok (b::r)).1),a+1)::(S.pcs f ((b::r).drop (S.tok (b::r)).1) (a+1+(S.tok (b::r)).1)).1,(S.pcs f ((b::r).drop (S.tok (b::r)).1) (a+1+(S.tok (b::r)).1)).2) else ([],iz (a+1+(S.tok (b::r)).2.2.2,(S.tok (b::r)).2.2.1)):=rfl
  have hq:S.piecesGo (f+1) (b::r) a=if b=32 then S.piecesGo f r (a+1) else if (S.pieceX (b::r) a).1.2.2=0 then (S.pieceX (b::r) a).1::S.piecesGo f ((b::r).drop (S.pieceX (b::r) a).2) (a+(S.pieceX (b::r) a).2) else [(S.pieceX (b::r) a).1]:=rfl
  rw[hp,hq];by_cases h32:b=32
  ·rw[xx h32,xx h32];exact qjq w n f r (a+1) acc (fun c hc=>hr c (xv _ hc)) (fun c hc=>hn c (xv _ hc))
  ·rw[xr h32,xr h32];by_cases h0:(S.tok (b::r)).2.2.1=0
   ·obtain⟨e1,e2⟩:=p3 h0;have h0':(S.pieceX (b::r) a).1.2.2=0:=p1.trans h0;rw[xx h0,xx h0'];have hrd:∀(p:jc) l ac,p.2.2=0->S.rdGo w n (p::l) ac=S.rdGo w n l (cond (w p.1.1) (ac++[(p.1.1,p.1.2.1,n,1+p.2.1)]) ac):=fun p l ac h=>by
     show (if p.2.2=0 then _ else _)=_
     grind
    rw[hrd _ _ _ h0',e2,qjq w n f _ (a+(S.tok (b::r)).1) _ (fun c hc=>hr c (ja0 hc)) (fun c hc=>hn c (ja0 hc)),show a+(S.tok (b::r)).1+1=a+1+(S.tok (b::r)).1 by omega];cases (S.pcs f ((b::r).drop (S.tok (b::r)).1) (a+1+(S.tok (b::r)).1)).2 with
    | some x=>rfl
    | none =>
     simp only;rw[p2,e1];have hz:(S.tok (b::r)).2.2.2=0:=q6x h0;rw[hz];have hcol:1+we (a+0)=we (a+1):=by show 1+((a+0:Nat):Int)=((a+1:Nat):Int);omega
     rw[hcol];simp only[S.at_,ga,jcg]
     grind
   ·have h0':¬(S.pieceX (b::r) a).1.2.2=0:=fun h=>h0 (p1.symm.trans h);rw[xr h0,xr h0'];have hrd:S.rdGo w n [(S.pieceX (b::r) a).1] acc=([],iz ((n,1+(S.pieceX (b::r) a).1.2.1),(S.pieceX (b::r) a).1.2.2)):=by
     show (if (S.pieceX (b::r) a).1.2.2=0 then _ else _)=_
     grind
    grind
theorem qsc{b:Int}{r:Lz Int}{a:Nat}(h:(S.pieceX (b::r) a).1.2.2=0):1<=(S.pieceX (b::r) a).2:=by
 revert h
 unfold S.pieceX;split
 ·intro _;cases ia S.badB (b::r)<;>simp
 split
 ·rename_i c;intro _;exact c.1
 split
 ·intro h;exact absurd (show (2:Int)=0 from h) (by decide)
 ·rename_i h;intro _;simp only;omega
theorem qm6:∀(n f g:Nat) (r:Lz Int) (a:Nat),r.length<=n->r.length<f->r.length<g->S.piecesGo f r a=S.piecesGo g r a
 | _,0,_,_,_,_,h,_=>by omega
 | _,_,0,_,_,_,_,h=>by omega
 | n,f+1,g+1,[],a,_,_,_=>rfl
 | 0,f+1,g+1,b::r,a,h,_,_=>by simp at h
 | n+1,f+1,g+1,b::r,a,h,hf,hg=>by
  simp only[xw] at h hf hg;show (if b=32 then S.piecesGo f r (a+1) else if (S.pieceX (b::r) a).1.2.2=0 then (S.pieceX (b::r) a).1::S.piecesGo f ((b::r).drop (S.pieceX (b::r) a).2) (a+(S.pieceX (b::r) a).2) else [(S.pieceX (b::r) a).1])=(if b=32 then S.piecesGo g r (a+1) else if (S.pieceX (b::r) a).1.2.2=0 then (S.pieceX (b::r) a).1::S.piecesGo g ((b::r).drop (S.pieceX (b::r) a).2) (a+(S.pieceX (b::r) a).2) else [(S.pieceX (b::r) a).1]);by_cases h32:b=32
  ·rw[xx h32,xx h32];exact qm6 n f g r (a+1) (by omega) (by omega) (by omega)
  ·rw[xr h32,xr h32];by_cases h0:(S.pieceX (b::r) a).1.2.2=0
   ·have:=qsc h0;rw[xx h0,xx h0,qm6 n f g ((b::r).drop (S.pieceX (b::r) a).2) (a+(S.pieceX (b::r) a).2) (by rw[gy,xw];omega) (by rw[gy,xw];omega) (by rw[gy,xw];omega)]
   ·rw[xr h0,xr h0]
def zag(x:jc):oc:=.agg #[.int .i64 x.1.1,.string x.1.2.1,.int .i64 x.1.2.2.1,.int .i64 x.1.2.2.2,.int .i64 x.2.1,.int .i64 x.2.2]
def kp(s:Bq)(a:Nat):Lz jc:=S.piecesGo (s.size+1) ((za s).drop a) a
theorem zr1(s:Bq){a:Nat}(h:s.size<=a):kp s a=[]:=by
 unfold kp;rw[jbo (by rw[zt];exact h)];rfl
theorem q6j(s:Bq){a:Nat}{b:Int}{r:Lz Int}(hd:(za s).drop a=b::r):kp s a=if b=32 then kp s (a+1) else if (S.pieceX (b::r) a).1.2.2=0 then (S.pieceX (b::r) a).1::kp s (a+(S.pieceX (b::r) a).2) else [(S.pieceX (b::r) a).1]:=by
 have d:r.length+1<=s.size:=by
  have:=xy oq hd;rw[gy,zt,xw] at this;omega
 have f:(za s).drop (a+1)=r:=by rw[<- ja4,hd];rfl
 have e:(za s).drop (a+(S.pieceX (b::r) a).2)=(b::r).drop (S.pieceX (b::r) a).2:=by rw[<- ja4,hd]
 unfold kp;rw[hd,f,e];show (if b=32 then S.piecesGo s.size r (a+1) else if (S.pieceX (b::r) a).1.2.2=0 then (S.pieceX (b::r) a).1::S.piecesGo s.size ((b::r).drop (S.pieceX (b::r) a).2) (a+(S.pieceX (b::r) a).2) else [(S.pieceX (b::r) a).1])=_;rw[qm6 r.length s.size (s.size+1) r (a+1) (xl _) (by omega) (by omega)];by_cases c:(S.pieceX (b::r) a).1.2.2=0
 ·have:=qsc c;rw[qm6 r.length s.size (s.size+1) ((b::r).drop (S.pieceX (b::r) a).2) (a+(S.pieceX (b::r) a).2) (by rw[gy,xw];omega) (by rw[gy,xw];omega) (by rw[gy,xw];omega)]
 ·rw[xr c,xr c]
theorem q4z{r:Lz Int}{a:Nat}(h:(S.pieceX r a).1.2.2=0):(S.pieceX r a).2<=r.length:=by
 revert h
 unfold S.pieceX;split
 ·grind
 split
 ·intro _;exact qll r
 split
 ·grind
 ·rename_i h;intro _;rcases n9 r with e|⟨_,_,e⟩
  ·rw[e] at h;exact absurd rfl h
  ·grind
def qcz(x:jc):Lz oc:=[.int .i64 x.1.1,.string x.1.2.1,.int .i64 x.1.2.2.1,.int .i64 x.1.2.2.2,.int .i64 x.2.1,.int .i64 x.2.2]
theorem qem{s:Bq}{a n:Nat}{b:Int}{x:jc}(hd:(za s).drop a=b::(za s).drop (a+1))(h32:¬b=32)(hx:S.pieceX ((za s).drop a) a=(x,n)) :
  kp s a=(if x.2.2=0 then x::kp s (a+n) else [x])/\(x.2.2=0->1<=n/\a+n<=s.size):=by
 have f:((za s).drop a).length=s.size-a:=by rw[gy,zt]
 have d:0<((za s).drop a).length:=by rw[hd];simp
 constructor
 ·rw[q6j s hd,xr h32,<- hd,hx]
 ·intro c;have e:(S.pieceX ((za s).drop a) a).1.2.2=0:=by rw[hx];exact c
  have h:=q4z e;rw[hd] at e;have g:=qsc e
  grind
theorem qrn:Fld oa 76 0 0:=Fld.mk (F := ⟨"Kind", 3,0, eb, "", "", 0⟩) ty76 rfl ty3
theorem qgi:Fld oa 76 1 1:=Fld.mk (F := ⟨"Text", 9,1, eb, "", "", 8⟩) ty76 rfl ty9
theorem np:Fld oa 240 0 0:=Fld.mk (F := ⟨"Token", 76,0, i7, "", "", 0⟩) nh rfl ty76
theorem qpe:Fld oa 240 2 5:=Fld.mk (F := ⟨"err", 30,5, eb, "", "cosigner/lex", 48⟩) nh rfl ty30
section
attribute [local irreducible] Go.wpList Go.wpQuiet Go.Code.wp
theorem zzk{b:Nat}{s:Bq}{cs0:Lz oc}(hs:s.size<9223372036854775807):ym oa 270 [.pointer (iz ⟨b,0,i6⟩)] (fun A=>Box A b (.string s::cs0)/\Gl [] A) (fun(x:jc) u _ _=>u=zag x) (S.pieces s):=by
 intro l J K W hJ hKu hR hy h0;have υ:∀{p A},J p A->Box A b (.string s::cs0)/\Gl [] A:=fun h=>hR _ _ h;refine dc.2 (Calls.mono (R:=Ret fun v B=>v=.tuple #[]/\(J (S.pieces s) B\/K B)) ?_ (fun e B h=>by cases e<;>first|exact⟨by rw[h.1],h.2⟩|exact h.elim));refine(enter (l:=[.func (.yield l) #[] #[],.pointer (iz ⟨b,0,i6⟩)]) Tryz.func270 rfl Tryz.ntmps270 rfl ?_);refine qw fun K1 hK1=>?_;refine qx ?_;refine j8 (v:=.int .i64 0) rfl rfl rfl ?_;refine gm ?_;refine hK1 _ _ ?_;refine wp_block ?_;refine zj6 (X:=Nat × Lz jc) ((fv 91).drop 2) (fun x=>[(3,.int .i64 (x.1:Int))]) (fun x D=>x.1<=s.size/\S.pieces s=x.2++kp s x.1/\J x.2 D) (fun x=>s.size-x.1) (0,[]) ⟨rfl,trivial⟩ ⟨pm _,rfl,h0⟩ ?_;rintro⟨at_,q⟩ τ D ⟨hk,κ,γ⟩;refine qw fun K2 hK2=>?_;refine qw fun K3 hK3=>?_;refine qx ?_;refine qh (v:=.int .i64 (at_:Int)) rfl rfl rfl ?_;refine qg0 (v:=.string s) ty9 rfl rfl rfl rfl (υ γ).1 rfl ?_;refine qth ty9.und rfl rfl rfl ?_;refine q1m rfl rfl rfl rfl ?_;refine gm ?_;refine hK3 _ _ ?_;refine c_if rfl rfl (fun hb=>?_) (fun hb=>?_)
 · refine wp_skip ?_;refine hK2 _ _ ?_;have hlt:at_<s.size:=by omega
   refine wp_block ?_;refine qw fun K4 hK4=>?_;refine qx ?_;refine qg0 (v:=.string s) ty9 rfl rfl rfl rfl (υ γ).1 rfl ?_;refine qh (v:=.int .i64 (at_:Int)) rfl rfl rfl ?_;refine zgp ty9.und rfl rfl rfl rfl hk ?_;refine j8 (v:=.string (s.extract at_ s.size)) rfl rfl rfl ?_;refine gm ?_;refine hK4 _ _ ?_;have f:Szs oa 240 [(0,4),(4,1),(5,1)]:=q4o ttOK (ty:=240) rfl rfl rfl;refine qw fun K5 hK5=>?_;refine qx ?_;refine qh (v:=.int .i64 (at_:Int)) rfl rfl rfl ?_;refine qxc (r:=[.int .i64 0,.string ⟨#[]⟩,.int .i64 0,.int .i64 0,.int .i64 (at_:Int),.int .i64 0]) nh f rfl rfl rfl rfl rfl ?_;refine zvg (zs:=[.int .i64 0,.string ⟨#[]⟩,.int .i64 0,.int .i64 0,.int .i64 0,.int .i64 0]) nh rfl rfl fun β w2 hβ u2 hz2 hx2=>?_;refine bg (v:=.agg #[.int .i64 0,.string ⟨#[]⟩,.int .i64 0,.int .i64 0,.int .i64 (at_:Int),.int .i64 0]) (cs':=[.int .i64 0,.string ⟨#[]⟩,.int .i64 0,.int .i64 0,.int .i64 (at_:Int),.int .i64 0]) nh rfl rfl rfl rfl hx2 rfl rfl rfl fun w3 u3 hz3 hx3=>?_;refine gm ?_;refine hK5 _ _ ?_;have θ:∀{w4:oh},Upd [β] w2 w4->Upd [] D w4:=fun Z=>⟨Z.os.trans u2.os,Z.tape.trans u2.tape,Z.output.trans u2.output,py u2.size Z.size,fun x hx hn=>(Z.same x (pz hx u2.size) (by simp;omega)).trans (u2.same x hx (by simp))⟩;have hj3:J q w3:=hJ _ _ _ γ (θ u3);have α:(s.extract at_ s.size).size<9223372036854775808:=by rw[jaa];omega
   refine qw fun K6 hK6=>?_;refine qx ?_;refine qh (v:=.string (s.extract at_ s.size)) rfl rfl rfl ?_;refine qew (l:=[.tmp 17]) (args:=[.string (s.extract at_ s.size)]) q7d rfl rfl rfl (zlo w3 (υ hj3).2 _ α) ?_;rintro _ w4 ⟨rfl,Z⟩;refine j8 (v:=.int .i64 (we (S.runL (za (s.extract at_ s.size))))) rfl rfl rfl ?_;refine gm ?_;refine hK6 _ _ ?_;have ν:J q w4:=hJ _ _ _ hj3 Z;have O:0<(s.extract at_ s.size).size:=by rw[jaa];omega
   obtain⟨b0,ρ,σ⟩:∃b0,(za s).drop at_=b0::(za s).drop (at_+1)/\((y8 (s.extract at_ s.size) 0).toNat:Int)=b0:=by
     have h1:at_<(za s).length:=by rw[zt];exact hlt
     refine⟨_,dw h1,?_⟩;have h2:(za (s.extract at_ s.size))[0]?=iz (za s)[at_]:=by
       rw[qvx s at_ s.size (xl _),jad];exact xc h1
     rw[ql0 O] at h2;have h3:=gk h2;rw[<- h3];unfold y8;rw[xn,xc (by simpa using O)];rfl
   have g:za (s.extract at_ s.size)=(za s).drop at_:=qvx s at_ s.size (xl _);have szs116':Szs oa 240 [(0,4),(4,1),(5,1)]:=f;refine q74 ((fv 91).drop 6) (fun x:jc × Nat=>[(6,.int .i64 (x.2:Int))]) (fun x Y=>(Upd [] D Y/\Box Y β (qcz x.1))/\kp s at_=(if x.1.2.2=0 then x.1::kp s (at_+x.2) else [x.1])/\(x.1.2.2=0->1<=x.2/\at_+x.2<=s.size)) ?_ ?_;refine wp_block ?_;refine qw fun K8 δ=>?_;refine qx ?_;refine qh (v:=.string (s.extract at_ s.size)) rfl rfl rfl ?_;refine qut (j:=0) ty9.und rfl rfl rfl rfl O ?_;refine q4u rfl rfl rfl rfl ?_;refine j8 rfl rfl rfl ?_;refine gm ?_;refine δ _ _ ?_;refine c_if rfl rfl (fun ε=>?_) (fun ε=>?_)
   · refine qw fun K9 φ=>?_;refine qx ?_;refine qh (v:=.int .i64 (at_:Int)) rfl rfl rfl ?_;refine qq0 rfl rfl rfl rfl (by omega) ?_;refine j8 (v:=.int .i64 ((at_:Int)+1)) rfl rfl rfl ?_;refine gm ?_;refine φ _ _ ?_;refine wp_exit ?_;have hl:kp s at_=kp s (at_+1):=by rw[q6j s ρ,xx (σ.symm.trans ε)]
     exact⟨(at_+1,q),by show s.size-(at_+1)<s.size-at_;omega,⟨hlt,by rw[<- hl];exact κ,ν⟩,_,rfl,(by repeat first|exact zw.refl _ _|refine zw.upd rfl ?_|refine zw.upds rfl ?_|refine zw.mix rfl ?_),rfl,trivial⟩
   · have h32':¬((y8 (s.extract at_ s.size) 0).toNat:Int)=32:=ε;have z:¬b0=32:=fun e=>ε (σ.trans e);have hu4:Upd [] D w4:=(θ u3).trans Z;have hgl4:Gl [] w4:=(υ ν).2;have hx4:Box w4 β [.int .i64 0,.string ⟨#[]⟩,.int .i64 0,.int .i64 0,.int .i64 (at_:Int),.int .i64 0]:=hx3.mono0 Z;have hβ1:D.heap.size<=β:=by omega
     have d:∀{v5 v6:oh},Upd [] D v5->Upd [β] v5 v6->Upd [] D v6:=fun V I=>⟨I.os.trans V.os,I.tape.trans V.tape,I.output.trans V.output,py V.size I.size,fun x hx hn=>(I.same x (pz hx V.size) (by simp;omega)).trans (V.same x hx (by simp))⟩;refine qw fun K9 φ=>?_;refine qx ?_;refine qh (v:=.string (s.extract at_ s.size)) rfl rfl rfl ?_;refine qew (l:=[.tmp 39,.const (.string ⟨#[45,45]⟩)]) (args:=[.string (s.extract at_ s.size),.string ⟨#[45,45]⟩]) q00 rfl rfl rfl (zy8 w4 hgl4 _ _ α (by decide)) ?_;rintro _ Y ⟨rfl,V⟩;have F:=hx4.mono0 V;have G:Upd [] D Y:=hu4.trans V;have hgl5:Gl [] Y:=(υ (hJ _ _ _ ν V)).2;refine j8 (v:=.bool (S.isPre (s.extract at_ s.size) ⟨#[45,45]⟩)) rfl rfl rfl ?_;refine gm ?_;refine φ _ _ ?_;have hpe:S.isPre (s.extract at_ s.size) ⟨#[45,45]⟩=[45,45].isPrefixOf ((za s).drop at_):=by
       unfold S.isPre;rw[g];rfl
     refine c_if (p:=[45,45].isPrefixOf ((za s).drop at_)=i7) rfl (by show iw (S.isPre _ _)=_;rw[hpe,Bool.decide_eq_true]) (fun hp=>?_) (fun hp=>?_)
     · -- a comment
       refine qw fun K10 T=>?_;refine qx ?_;refine qh (v:=.string (s.extract at_ s.size)) rfl rfl rfl ?_;refine jq np rfl rfl rfl ?_;refine jq qrn rfl rfl rfl ?_;refine bg (v:=.int .i64 6) (cs':=[.int .i64 6,.string ⟨#[]⟩,.int .i64 0,.int .i64 0,.int .i64 (at_:Int),.int .i64 0]) ty3 rfl rfl rfl rfl F rfl rfl rfl fun χ I hz6 w=>?_;refine jq np rfl rfl rfl ?_;refine jq qgi rfl rfl rfl ?_;refine bg (v:=.string (s.extract at_ s.size)) (cs':=[.int .i64 6,.string (s.extract at_ s.size),.int .i64 0,.int .i64 0,.int .i64 (at_:Int),.int .i64 0]) ty9 rfl rfl rfl rfl w rfl rfl rfl fun w7 ω hz7 M=>?_;refine gm ?_;refine T _ _ ?_;have hu7:Upd [] D w7:=d (d G I) ω;have hgl7:Gl [] w7:=(υ (hJ _ _ _ γ hu7)).2;refine qw fun K11 C=>?_;refine qx ?_;refine qh (v:=.string (s.extract at_ s.size)) rfl rfl rfl ?_;refine qth ty9.und rfl rfl rfl ?_;refine j8 rfl rfl rfl ?_;refine gm ?_;refine C _ _ ?_;refine qw fun K12 Q=>?_;refine qx ?_;refine qh (v:=.string (s.extract at_ s.size)) rfl rfl rfl ?_;refine qew (l:=[.tmp 48,.func 274]) (args:=[.string (s.extract at_ s.size),.func (.func 274) #[] #[]]) qzl rfl rfl rfl (z0h w7 hgl7 _ α) ?_;rintro _ w8 ⟨rfl,ψ⟩;have t:=M.mono0 ψ;have N:Upd [] D w8:=hu7.trans ψ;refine j8 rfl rfl rfl ?_;refine gm ?_;refine Q _ _ ?_;refine qw fun K13 P=>?_;refine qx ?_;refine qh rfl rfl rfl ?_;refine za0 rfl rfl rfl rfl ?_;refine gm ?_;refine P _ _ ?_;have hnl:((s.extract at_ s.size).size:Nat)=((za s).drop at_).length:=by rw[<- g,zt]
       refine c_if rfl rfl (fun η=>?_) (fun η=>?_)
       · obtain⟨i,ξ⟩:∃i,((za s).drop at_).findIdx? S.badB=iz i:=by
           cases hf:((za s).drop at_).findIdx? S.badB with
           | some i=>exact⟨i,rfl⟩
           | none =>
             have η:(0:Int)<=Go.Jx.S.idx S.badB (za (s.extract at_ s.size)):=η;rw[g] at η;unfold Go.Jx.S.idx at η;rw[hf] at η;exact absurd η (by decide)
         have hii:Go.Jx.S.idx S.badB (za (s.extract at_ s.size))=(i:Int):=by
           rw[g];unfold Go.Jx.S.idx;rw[ξ];rfl
         have hil:i<((za s).drop at_).length:=(ja7.1 ξ).1;rw[gy,zt] at hil;refine qx ?_;refine qh (v:=.int .i64 (at_:Int)) rfl rfl rfl ?_;refine qh (v:=.int .i64 (i:Int)) rfl rfl (xy (mq .i64) hii) ?_;refine qq0 rfl rfl rfl rfl (by omega) ?_;refine qxc (r:=[.int .i64 0,.string ⟨#[]⟩,.int .i64 0,.int .i64 0,.int .i64 ((at_:Int)+(i:Int)),.int .i64 2]) nh f rfl rfl rfl rfl rfl ?_;refine bg (v:=.agg #[.int .i64 0,.string ⟨#[]⟩,.int .i64 0,.int .i64 0,.int .i64 ((at_:Int)+(i:Int)),.int .i64 2]) (cs':=qcz ((0,S.lit [],0,0),we (at_+i),2)) nh rfl rfl rfl rfl t rfl rfl rfl fun w9 u9 hz9 L=>?_;refine gm ?_;have o:S.pieceX ((za s).drop at_) at_=(((0,S.lit [],0,0),we (at_+i),2),((za s).drop at_).length):=by
           unfold S.pieceX;rw[xx hp,ξ]
         exact⟨(((0,S.lit [],0,0),we (at_+i),2),((za s).drop at_).length),⟨⟨d N u9,L⟩,qem ρ z o⟩,_,rfl,(by repeat first|exact zw.refl _ _|refine zw.upd rfl ?_|refine zw.upds rfl ?_|refine zw.mix rfl ?_),xy (fun m:Nat=>mq .i64 (m:Int)) hnl,trivial⟩
       · have hf:((za s).drop at_).findIdx? S.badB=i6:=by
           cases hf:((za s).drop at_).findIdx? S.badB with
           | none=>rfl
           | some i =>
             refine absurd ?_ η;show (0:Int)<=Go.Jx.S.idx S.badB (za (s.extract at_ s.size));rw[g];unfold Go.Jx.S.idx;rw[hf];exact dj i
         refine wp_skip ?_;have hstr:zq ((za s).drop at_)=s.extract at_ s.size:=by rw[<- g,yc]
         have o:S.pieceX ((za s).drop at_) at_=(((6,s.extract at_ s.size,0,0),we at_,0),((za s).drop at_).length):=by
           unfold S.pieceX;rw[xx hp,hf,hstr]
         exact⟨(((6,s.extract at_ s.size,0,0),we at_,0),((za s).drop at_).length),⟨⟨N,t⟩,qem ρ z o⟩,_,rfl,(by repeat first|exact zw.refl _ _|refine zw.upd rfl ?_|refine zw.upds rfl ?_|refine zw.mix rfl ?_),xy (fun m:Nat=>mq .i64 (m:Int)) hnl,trivial⟩
     · -- no comment
       have E:S.runL (za (s.extract at_ s.size))=S.runL ((za s).drop at_):=by rw[g]
       have h95:(((za s).drop at_)[0]?=iz 95)↔((y8 (s.extract at_ s.size) 0).toNat:Int)=95:=by
         rw[ρ,σ];simp
       by_cases U:0<S.runL ((za s).drop at_)/\¬((za s).drop at_)[0]?=iz 95
       · refine qw fun K10 T=>?_;refine qx ?_;refine qh (v:=.int .i64 (we (S.runL (za (s.extract at_ s.size))))) rfl rfl rfl ?_;refine qsi rfl rfl rfl rfl ?_;refine qh (v:=.bool i7) rfl rfl (xy iw (xt (by rw[E];show (0:Int)<((S.runL _:Nat):Int);omega))) ?_;refine qh (v:=.string (s.extract at_ s.size)) rfl rfl rfl ?_;refine qut (j:=0) ty9.und rfl rfl rfl rfl O ?_;refine qwj rfl rfl rfl rfl ?_;refine qun (v:=.bool i7) rfl rfl rfl (xy iw (xt (fun e=>U.2 (h95.2 e)))) ?_;refine j8 (v:=.bool i7) rfl rfl rfl ?_;refine gm ?_;refine T _ _ ?_;refine q1w rfl rfl ?_;refine qw fun K11 C=>?_;refine qx ?_;have hrl:S.runL (za (s.extract at_ s.size))<=(s.extract at_ s.size).size:=by have h:=qll (za (s.extract at_ s.size));rw[zt] at h;exact h
         refine qh (v:=.string (s.extract at_ s.size)) rfl rfl rfl ?_;refine qh (v:=.int .i64 ((S.runL (za (s.extract at_ s.size)):Nat):Int)) rfl rfl rfl ?_;refine zj8 (k:=S.runL (za (s.extract at_ s.size))) ty9.und rfl rfl rfl rfl hrl ?_;refine jq np rfl rfl rfl ?_;refine jq qgi rfl rfl rfl ?_;obtain⟨c,H⟩:∃c,c=(s.extract at_ s.size).extract 0 (S.runL (za (s.extract at_ s.size))):=⟨_,rfl⟩;refine bg (v:=.string c) (cs':=[.int .i64 0,.string c,.int .i64 0,.int .i64 0,.int .i64 (at_:Int),.int .i64 0]) ty9 rfl rfl rfl (xy Value.string H.symm) F rfl rfl rfl fun χ I hz6 w=>?_;refine gm ?_;refine C _ _ ?_;have hu6:Upd [] D χ:=d G I;have htz:c.size<9223372036854775808:=by rw[H,jaa];omega
         have hts:zq (((za s).drop at_).take (S.runL ((za s).drop at_)))=c:=by
           rw[H,<- g,<- qjm,yc]
         refine qx ?_;refine jq np rfl rfl rfl ?_;refine jq qgi rfl rfl rfl ?_;refine qg0 (v:=.string c) ty9 rfl rfl rfl rfl w rfl ?_;refine qew (l:=[.tmp 72]) (args:=[.string c]) qxo rfl rfl rfl (zyc χ (υ (hJ _ _ _ γ hu6)).2 c htz) ?_;rintro _ w7 ⟨rfl,ω⟩;have M:=w.mono0 ω;refine qh rfl rfl rfl ?_;refine q05 (v:=.int .i64 (S.shape c).1) rfl rfl rfl rfl ?_;refine q05 (v:=.int .i64 (S.shape c).2) rfl rfl rfl rfl ?_;refine jq np rfl rfl rfl ?_;refine jq qrn rfl rfl rfl ?_;refine bg (v:=.int .i64 (S.shape c).1) (cs':=[.int .i64 (S.shape c).1,.string c,.int .i64 0,.int .i64 0,.int .i64 (at_:Int),.int .i64 0]) ty3 rfl rfl rfl rfl M rfl rfl rfl fun w8 ψ hz8 t=>?_;refine jq qpe rfl rfl rfl ?_;refine bg (v:=.int .i64 (S.shape c).2) (cs':=qcz (((S.shape c).1,c,0,0),we at_,(S.shape c).2)) ty30 rfl rfl rfl rfl t rfl rfl rfl fun w9 u9 hz9 L=>?_;refine gm ?_;have o:S.pieceX ((za s).drop at_) at_=((((S.shape c).1,c,0,0),we at_,(S.shape c).2),S.runL ((za s).drop at_)):=by
           unfold S.pieceX;rw[xr hp,xx U,hts]
         exact⟨((((S.shape c).1,c,0,0),we at_,(S.shape c).2),S.runL ((za s).drop at_)),⟨⟨d (d (hu6.trans ω) ψ) u9,L⟩,qem ρ z o⟩,_,rfl,(by repeat first|exact zw.refl _ _|refine zw.upd rfl ?_|refine zw.upds rfl ?_|refine zw.mix rfl ?_),xy (fun m:Nat=>mq .i64 (m:Int)) E,trivial⟩
       · refine q74 [56,57,58,59,60,61,62,63] (fun _:Unit=>[(56,.bool eb)]) (fun _ w'=>Y=w') ?_ ?_
         · refine qx ?_;refine qh (v:=.int .i64 (we (S.runL (za (s.extract at_ s.size))))) rfl rfl rfl ?_;refine qsi rfl rfl rfl rfl ?_;by_cases hr0:0<S.runL ((za s).drop at_)
           · have h9:((y8 (s.extract at_ s.size) 0).toNat:Int)=95:=by
               by_cases e:((za s).drop at_)[0]?=iz 95
               · exact h95.1 e
               · exact absurd ⟨hr0,e⟩ U
             refine qh (v:=.bool i7) rfl rfl (xy iw (xt (by rw[E];show (0:Int)<((S.runL _:Nat):Int);omega))) ?_;refine qh (v:=.string (s.extract at_ s.size)) rfl rfl rfl ?_;refine qut (j:=0) ty9.und rfl rfl rfl rfl O ?_;refine qwj rfl rfl rfl rfl ?_;refine qun (v:=.bool eb) rfl rfl rfl (xy iw (xq (fun e=>e h9))) ?_;refine j8 (v:=.bool eb) rfl rfl rfl ?_;refine gm ?_;exact⟨(),rfl,_,rfl,(by repeat first|exact zw.refl _ _|refine zw.upd rfl ?_|refine zw.upds rfl ?_|refine zw.mix rfl ?_),rfl,trivial⟩
           · refine qh (v:=.bool eb) rfl rfl (xy iw (xq (by rw[E];show ¬(0:Int)<((S.runL _:Nat):Int);omega))) ?_;refine qb9 rfl ?_;refine qb9 rfl ?_;refine qb9 rfl ?_;refine q7a (v:=.bool eb) rfl rfl rfl rfl ?_;refine j8 (v:=.bool eb) rfl rfl rfl ?_;refine gm ?_;exact⟨(),rfl,_,rfl,(by repeat first|exact zw.refl _ _|refine zw.upd rfl ?_|refine zw.upds rfl ?_|refine zw.mix rfl ?_),rfl,trivial⟩
         · rintro _ τ5 v5 hv5;subst v5;refine ziq rfl rfl ?_;refine qw fun K11 C=>?_;refine qx ?_;refine qh (v:=.string (s.extract at_ s.size)) rfl rfl rfl ?_;refine qew (l:=[.tmp 19]) (args:=[.string (s.extract at_ s.size)]) qy7 rfl rfl rfl (zju Y hgl5 _ α) ?_;rintro _ χ ⟨rfl,I⟩;have w:=F.mono0 I;obtain⟨c,ζ⟩:∃c,c=S.signL (za (s.extract at_ s.size)):=⟨_,rfl⟩;have H:c=S.signL ((za s).drop at_):=by rw[ζ,g]
           refine jq np rfl rfl rfl ?_;refine jq qrn rfl rfl rfl ?_;refine bg (v:=.int .i64 5) (cs':=[.int .i64 5,.string ⟨#[]⟩,.int .i64 0,.int .i64 0,.int .i64 (at_:Int),.int .i64 0]) ty3 rfl rfl rfl rfl w rfl rfl rfl fun w7 ω hz7 M=>?_;refine jq np rfl rfl rfl ?_;refine jq qgi rfl rfl rfl ?_;refine bg (v:=.string c) (cs':=[.int .i64 5,.string c,.int .i64 0,.int .i64 0,.int .i64 (at_:Int),.int .i64 0]) ty9 rfl rfl rfl (xy Value.string ζ.symm) M rfl rfl rfl fun w8 ψ hz8 t=>?_;refine gm ?_;refine C _ _ ?_;have N:Upd [] D w8:=d (d (G.trans I) ω) ψ;refine qw fun K12 Q=>?_;refine qx ?_;refine jq np rfl rfl rfl ?_;refine jq qgi rfl rfl rfl ?_;refine qg0 (v:=.string c) ty9 rfl rfl rfl rfl t rfl ?_;refine qth ty9.und rfl rfl rfl ?_;refine j8 rfl rfl rfl ?_;refine gm ?_;refine Q _ _ ?_;refine qw fun K13 P=>?_;refine qx ?_;refine qh rfl rfl rfl ?_;refine q4u rfl rfl rfl rfl ?_;refine gm ?_;refine P _ _ ?_;refine c_if rfl rfl (fun hz=>?_) (fun hz=>?_)
           · have hz:((c.size:Nat):Int)=0:=hz;have ι:c.size=0:=by omega
             have htl:c=S.lit []:=by
               apply ByteArray.ext;exact jbv ι
             refine qx ?_;refine jq qpe rfl rfl rfl ?_;refine bg (v:=.int .i64 2) (cs':=qcz ((5,c,0,0),we at_,2)) ty30 rfl rfl rfl rfl t rfl rfl rfl fun w9 u9 hz9 L=>?_;refine gm ?_;have o:S.pieceX ((za s).drop at_) at_=(((5,c,0,0),we at_,2),0):=by
               unfold S.pieceX;rw[xr hp,xr U,<- H,xx ι,htl]
             exact⟨(((5,c,0,0),we at_,2),0),⟨⟨d N u9,L⟩,qem ρ z o⟩,_,rfl,(by repeat first|exact zw.refl _ _|refine zw.upd rfl ?_|refine zw.upds rfl ?_|refine zw.mix rfl ?_),xy (fun m:Nat=>mq .i64 (m:Int)) ι,trivial⟩
           · have hz:¬((c.size:Nat):Int)=0:=hz;refine wp_skip ?_;have o:S.pieceX ((za s).drop at_) at_=(((5,c,0,0),we at_,0),c.size):=by
               unfold S.pieceX;rw[xr hp,xr U,<- H,xr (by omega)]
             exact⟨(((5,c,0,0),we at_,0),c.size),⟨⟨N,t⟩,qem ρ z o⟩,_,rfl,(by repeat first|exact zw.refl _ _|refine zw.upd rfl ?_|refine zw.upds rfl ?_|refine zw.mix rfl ?_),rfl,trivial⟩
   · rintro⟨x,n⟩ τ5 Y ⟨⟨G,F⟩,hlp,hn⟩;have hj5:J q Y:=hJ _ _ _ γ G;have y:S.pieces s=q++x::(if x.2.2=0 then kp s (at_+n) else []):=by
       rw[κ,hlp];split<;>rfl
     refine qw fun K7 hK7=>?_;refine qw fun K8 δ=>?_;refine(wpIn_wide (n:=0)).1 (wpIn_region_lit (zuz 2 rfl ?lo rfl ?_))
     case lo=>rintro⟨_,_,h⟩;exact(show False from h)
     dsimp only [jb5,List.take_zero,List.drop_succ_cons,jb9];refine qh (v:=.func (.yield l) #[] #[]) rfl rfl rfl ?_;refine zlg (ds:=qcz x) nh rfl rfl rfl rfl F rfl rfl ?_;refine gm ?_;refine zln ?_;refine zir rfl rfl rfl rfl rfl (hy _ _ _ D _ _ y γ G (by exact rfl)) ?_;rintro e χ ⟨hfr,⟨rfl,μ⟩|⟨rfl,hk6⟩⟩
     · have w:Box χ β (qcz x):=by
         obtain⟨t6,ht6⟩:=F;exact⟨t6,(hfr β (by omega) (qk ht6)).trans ht6⟩
       refine⟨_,rfl,q1b rfl ?lo rfl ?_⟩
       case lo=>rintro⟨_,_,h⟩;exact(show False from h)
       refine qy2 rfl rfl rfl ?_;refine qh (v:=.bool eb) rfl rfl rfl ?_;refine jq qpe rfl rfl rfl ?_;refine qg0 (v:=.int .i64 x.2.2) ty30 rfl rfl rfl rfl w rfl ?_;refine qwj rfl rfl rfl rfl ?_;refine q7a (v:=.bool (decide (x.2.2≠0))) rfl rfl rfl rfl ?_;refine gm ?_;refine δ _ _ ?_;refine c_if rfl rfl (fun he=>?_) (fun he=>?_)
       · rw[xr he] at y;rw[<- y] at μ;refine wp_ret ?_;exact ret0 Tryz.results270 ⟨rfl,.inl μ⟩
       · have he:x.2.2=0:=Decidable.not_not.1 he;obtain⟨n1,n2⟩:=hn he;rw[xx he] at y;refine wp_skip ?_;refine hK7 _ _ ?_;refine qx ?_;refine qh (v:=.int .i64 (at_:Int)) rfl rfl rfl ?_;refine qh (v:=.int .i64 (n:Int)) rfl rfl rfl ?_;refine qq0 rfl rfl rfl rfl (by omega) ?_;refine j8 (v:=.int .i64 ((at_+n:Nat):Int)) rfl rfl (xy (mq .i64) (by omega)) ?_;refine gm ?_;exact⟨(at_+n,q++[x]),by show s.size-(at_+n)<s.size-at_;omega,⟨n2,by show S.pieces s=(q++[x])++kp s (at_+n);rw[y,gq];rfl,μ⟩,_,rfl,(by repeat first|exact zw.refl _ _|refine zw.upd rfl ?_|refine zw.upds rfl ?_|refine zw.mix rfl ?_),rfl,trivial⟩
     · refine⟨_,rfl,q1b rfl ?lo rfl ?_⟩
       case lo=>rintro⟨_,_,h⟩;exact(show False from h)
       refine qy2 rfl rfl rfl ?_;refine qh (v:=.bool i7) rfl rfl rfl ?_;refine qb9 rfl ?_;refine qb9 rfl ?_;refine qb9 rfl ?_;refine qun (v:=.bool i7) rfl rfl rfl rfl ?_;refine gm ?_;refine δ _ _ ?_;refine q1w rfl rfl ?_;refine wp_ret ?_;exact ret0 Tryz.results270 ⟨rfl,.inr hk6⟩
 · refine wp_exit ?_;have e:q=S.pieces s:=by
     rw[κ,zr1 s (by omega),gz]
   rw[e] at γ;exact zt9 Tryz.results270 ⟨rfl,.inl γ⟩
end
theorem qyj:∀(l:Lz Int) (n:Int),(S.numGo l n).2=0\/(S.numGo l n).2=3
 | [],n=>.inl rfl
 | b::r,n=>by
  unfold S.numGo;split
  ·grind
  ·exact qyj r _
def sml6(p:Int × Int):Bool:=decide (0<=p.1)&&decide (p.1<=6)&&(decide (0<=p.2)&&decide (p.2<=6))
theorem zqa(s:Bq):sml6 (S.word s)=i7:=by
 unfold S.word;split
 ·rfl
 split
 ·rfl
 split
 ·rfl
 split
 ·rfl
 split<;>rfl
theorem zzr(s:Bq):sml6 (S.shape s)=i7:=by
 unfold S.shape;split
 ·rfl
 split
 ·rfl
 split
 ·rfl
 split
 ·rfl
 split
 ·split
  ·rfl
  ·have:(S.number s).2=0\/(S.number s).2=2\/(S.number s).2=3:=by
    unfold S.number;split
    ·grind
    split
    ·grind
    ·exact(qyj _ _).imp id .inr
   rcases this with e|e|e<;>(rw[e];rfl)
 ·exact zqa s
theorem zle{p:Int × Int}(h:sml6 p=i7):(0<=p.1/\p.1<=6)/\(0<=p.2/\p.2<=6):=by
 unfold sml6 at h
 grind
def okP(N:Nat)(x:jc):Prop:=(0<=x.1.1/\x.1.1<=6)/\x.1.2.1.size<=N/\x.1.2.2=(0,0)/\(0<=x.2.1/\x.2.1<=N)/\(0<=x.2.2/\x.2.2<=6)
theorem qms(l:Lz Int):(zq l).size=l.length:=by
 unfold zq;simp[m9]
theorem q01(r:Lz Int)(a N:Nat)(h:a+r.length<=N):okP N (S.pieceX r a).1:=by
 unfold S.pieceX;have f:(S.lit []).size=0:=rfl;split
 ·cases b:ia S.badB r with
  | none=>exact⟨(show (0:Int)<=6/\(6:Int)<=6 by decide),by rw[qms];omega,rfl,⟨by exact dj a,by show (a:Int)<=N;omega⟩,(show (0:Int)<=0/\(0:Int)<=6 by decide)⟩
  | some i =>
   have g:i<r.length:=(ja7.1 b).1;exact⟨(show (0:Int)<=0/\(0:Int)<=6 by decide),by show (S.lit []).size<=N;omega,rfl,⟨by exact dj (a+i),by show ((a+i:Nat):Int)<=N;omega⟩,(show (0:Int)<=2/\(2:Int)<=6 by decide)⟩
 split
 ·obtain⟨d,c⟩:=zle (zzr (zq (r.take (S.runL r))));exact⟨d,by rw[qms,jab];omega,rfl,⟨by exact dj a,by show (a:Int)<=N;omega⟩,c⟩
 split
 ·exact⟨(show (0:Int)<=5/\(5:Int)<=6 by decide),by show (S.lit []).size<=N;omega,rfl,⟨by exact dj a,by show (a:Int)<=N;omega⟩,(show (0:Int)<=2/\(2:Int)<=6 by decide)⟩
 ·refine⟨(show (0:Int)<=5/\(5:Int)<=6 by decide),?_,rfl,⟨by exact dj a,by show (a:Int)<=N;omega⟩,(show (0:Int)<=0/\(0:Int)<=6 by decide)⟩;show (S.signL r).size<=N;rcases n9 r with e|⟨_,_,e⟩
  ·grind
  ·omega
theorem qgo(N:Nat):∀(f:Nat) (r:Lz Int) (a:Nat),a+r.length<=N->∀x∈S.piecesGo f r a,okP N x
 | 0,r,a,_,x,hx=>by cases hx
 | f+1,[],a,_,x,hx=>by cases hx
 | f+1,b::r,a,h,x,hx=>by
  have e:S.piecesGo (f+1) (b::r) a=if b=32 then S.piecesGo f r (a+1) else if (S.pieceX (b::r) a).1.2.2=0 then (S.pieceX (b::r) a).1::S.piecesGo f ((b::r).drop (S.pieceX (b::r) a).2) (a+(S.pieceX (b::r) a).2) else [(S.pieceX (b::r) a).1]:=rfl
  have h':=h;rw[xw] at h';rw[e] at hx;split at hx
  ·exact qgo N f r (a+1) (by omega) x hx
  split at hx
  ·rename_i h0;rcases po.1 hx with rfl|hx
   ·exact q01 _ _ _ h
   ·have:=q4z h0;rw[xw] at this;exact qgo N f _ _ (by rw[gy,xw];omega) x hx
  ·rw[gn.1 hx];exact q01 _ _ _ h
theorem zfu{N:Nat}{x:jc}(h:okP N x)(hN:N<9223372036854775808)(E:Env):VR E (asIV cLexPiece x) (zag x):=by
 obtain⟨⟨j,p⟩,b,c,⟨i,o⟩,g,m⟩:=h;have a:∀n:Int,0<=n->n<9223372036854775808->VR E (.int .i64 n) (.int .i64 n):=fun n l f=>.int _ _ (kn ⟨by omega,f⟩);have e:x.1.2.2.1=0:=by rw[c]
 have d:x.1.2.2.2=0:=by rw[c]
 have k:VRs E [.int .i64 x.1.1,.str x.1.2.1,.int .i64 x.1.2.2.1,.int .i64 x.1.2.2.2,.int .i64 x.2.1,.int .i64 x.2.2] [.int .i64 x.1.1,.string x.1.2.1,.int .i64 x.1.2.2.1,.int .i64 x.1.2.2.2,.int .i64 x.2.1,.int .i64 x.2.2] :=
  .cons (a _ j (by omega)) (.cons (.str _ (by omega)) (.cons (a _ (by omega) (by omega)) (.cons (a _ (by omega) (by omega)) (.cons (a _ i (by omega)) (.cons (a _ g (by omega)) .nil)))))
 exact VR.agg k.1 k.2
def qwp:SmI:=⟨[.ref (.box [.dat .str])],cLexPiece,fun x=>cond (oo x.1.1.size 9223372036854775807) (iz (S.pieces x.1.1)) i6⟩
theorem q93:ConI oa 270 qwp:=by
 refine⟨zx9,rfl,fun E x μ a l Z B y=>?_⟩;obtain⟨⟨s,_⟩,_⟩:=x;obtain⟨w,rfl⟩:=vn (show cond (oo s.size 9223372036854775807) (iz (S.pieces s)) i6=iz l from Z);have w:s.size<9223372036854775807:=xk w;obtain⟨ζ,ε⟩:=y;obtain⟨i,D,σ,ξ,o⟩:=ε 0 _ rfl;have o:OR E i (.row [.str s]):=o;obtain⟨c,t,T,ν,R,Q⟩:=o;have δ:=ζ (fun k=>a.getD k 0) 0 (fun j V α=>by show a.getD (0+j) 0=V;rw[x6,xn,α];rfl);obtain⟨u,g,rfl,F,θ⟩:=VRs.inv (v:=.ptr (a.getD 0 0) 0) (cs:=[]) δ;obtain rfl:g=[]:=p8.1 θ.1.symm;have η:a.getD 0 0=i:=by rw[xn,D];rfl
 rw[η] at F;have q:u=.pointer (iz ⟨E.ρ i,0,i6⟩):=by cases F;rfl
 subst q;obtain⟨C,m,f⟩:∃C m,c.toList=C::m:=by
  cases β:c.toList with
  | nil=>have:=xy oq β;simp at this;simp [this] at R
  | cons h r=>exact⟨h,r,rfl⟩
 have X:VR E (.str s) C:=by
  have:=Q.2 0 (by simp) (by simp[f])
  grind
 obtain rfl:=qx1 X;have z:=p7 D;refine fun l J K W q1 P O M L=>zzk (b:=E.ρ i) (s:=s) (cs0:=m) w l J K W q1 P (fun p A Y=>?_) (fun n x d κ A u e U G q=>M n x d κ A u e U G fun ι _ _=>?_) L
 ·obtain⟨I,H⟩:=O p A Y;refine⟨⟨t,?_⟩,(B.mono I.tr).sub fun b γ=>by cases γ⟩;rw[H i z,T,<- f]
 ·rw[q];refine zfu (N:=s.size) (qgo s.size (s.size+1) (za s) 0 (dk ((x6 _).trans (zt s))) x ?_) (by omega) ι;show x∈S.pieces s
  grind
def qfk:Nat->Oq Nm:=fun k=>cond (od k 3) (iz ⟨[4,5,6,7,8,9,12,13,14,15,22,23,24,25,26,27,28,29,30,31,32,33,34,35,36,37,38,39,40,41,42,43,44,45,46,47,48,49],[],[(6,0,zd),(9,0,zd)],[],[],0,0,eb⟩) (cond (od k 999999) (iz ⟨[],[],[],[],[],0,0,eb⟩) i6)
def qef:Nat->Bool:=fun k=>cond (od k 3) i7 (eb)
def qvq:=qef
abbrev ku:Type:=((Lz zb) × zf × Int × Unit) × Unit
def qu6:Lz (Nat × Sm):=[]
def qoc:Lz (Nat × Hx):=[(270,itRx oa ttT.get qwp ⟨[4,5,6,7,8,9,10],[.ref (.box [.dat (.int .i64)]),.ref (.box [.fn 88]),.ref (.box [.arr zd]),.ref (.box [.dat jl]),.ref (.box [.dat (.int .i64)]),.ref (.box [.arr zd]),.ref (.box [.dat (.int .i64)])],qyo⟩ 0)]
def qnr(R:Type)(lf:Nat):ClK R:=zn oa ttT.get ftT.get (fun _ _=>i6) (smL qu6) (hxL qoc) lf 20 R
abbrev zgn:Nat:=86
def qco(x1:(Lz Bq))(x2:Int)(p:Int × Int × Int × Int × (Lz zb) × Int × (Lz zb)):NRes:=(NRes.mk (.node i6 (.node i6 (.node i6 (.node (iz (IV.ptr 3 0)) (.node (iz (IV.int .i64 p.1)) (.node (iz IV.unk) .leaf .leaf) (.node (iz IV.unk) .leaf .leaf)) (.node (iz IV.unk) (.node (iz IV.unk) .leaf .leaf) .leaf)) (.node i6 (.node i6 (.node (iz IV.unk) .leaf .leaf) .leaf) (.node (iz IV.unk) (.node (iz IV.unk) .leaf .leaf) .leaf))) (.node (iz (IV.ptr 1 0)) (.node (iz (IV.ptr 5 0)) (.node i6 (.node (iz IV.unk) .leaf .leaf) (.node (iz IV.unk) .leaf .leaf)) (.node (iz IV.unk) (.node (iz IV.unk) .leaf .leaf) .leaf)) (.node (iz (IV.lst TC.str x1)) (.node i6 (.node (iz IV.unk) .leaf .leaf) .leaf) (.node (iz IV.unk) (.node (iz IV.unk) .leaf .leaf) .leaf)))) (.node i6 (.node (iz (IV.ptr 0 0)) (.node (iz (IV.ptr 4 0)) (.node i6 (.node (iz IV.unk) .leaf .leaf) (.node (iz IV.unk) .leaf .leaf)) (.node (iz IV.unk) (.node (iz IV.unk) .leaf .leaf) .leaf)) (.node (iz IV.unk) (.node i6 (.node (iz IV.unk) .leaf .leaf) .leaf) (.node (iz IV.unk) (.node (iz IV.unk) .leaf .leaf) .leaf))) (.node (iz (IV.ptr 2 0)) (.node i6 (.node i6 (.node (iz IV.unk) .leaf .leaf) .leaf) (.node (iz IV.unk) (.node (iz IV.unk) .leaf .leaf) .leaf)) (.node (iz (IV.int .i64 (we x1.length))) (.node (iz IV.unk) (.node (iz IV.unk) .leaf .leaf) .leaf) (.node (iz IV.unk) (.node (iz IV.unk) .leaf .leaf) .leaf))))) (IS.mk (.node (iz (IObj.row [(IV.int .i64 p.2.1)])) (.node (iz (IObj.row [(IV.fn 88 [])])) (.node (iz (IObj.row (ou (IV.int .i64 p.2.2.1) [(IV.int .i64 p.2.2.2.1)]))) (.node (iz (IObj.arr zd p.2.2.2.2.1)) .leaf .leaf) .leaf) (.node (iz (IObj.row [(IV.arr 7)])) .leaf .leaf)) (.node (iz (IObj.row [(IV.arr 6)])) (.node (iz (IObj.row [(IV.int .i64 p.2.2.2.2.2.1)])) .leaf .leaf) (.node (iz (IObj.arr zd p.2.2.2.2.2.2)) .leaf .leaf))) 8) [] 0)
def qyx(lf:Nat)(x1:(Lz Bq))(x2:Int)(L3:(Int × Int × Int × Int × (Lz zb) × Int × (Lz zb))->Oq ku):Oq ku:=(L3 ((we 0),x2,(we 0),(we 0),[],(we 0),[]))
def qdn(lf:Nat)(x1:(Lz Bq))(x2:Int)(L3:(Int × Int × Int × Int × (Lz zb) × Int × (Lz zb))->Oq ku)(p:Int × Int × Int × Int × (Lz zb) × Int × (Lz zb)):Oq ku:=(cond (iltI p.1 (we x1.length)) (match (jget x1 p.1) with|none=>i6|some v0=>(match (cond (og (Nat.succ v0.size) 9223372036854775807) (iz (S.pieces v0)) (i6:Oq (Lz (El Go.Proofs.YtaepcfidpcoofaaGreatDoor.cLexPiece)))) with|none=>i6|some v1=>(match (vf (fun v2 v3=>(cond (Bool.not (ieqI v3.2.2 (we 0))) (iz (((v2.1.1,()),(((),()),(([],()),((((IntKind.i64.wrap (oe v2.1.1 v2.2.2.2.2.2.2.1.1)),(IntKind.i64.wrap (oe (we 1) v3.2.1))),()),((v3.2.2,()),((v2.2.2.2.2.2.1.1,()),((v2.2.2.2.2.2.2.1.1,()),()))))))),i7)) (cond (Bool.not (ieqI v3.1.1 (we 6))) (cond (og (o7 (o5 v2.2.2.2.2.2.1.1.length 1) 40) 140737488355328) (iz (((v2.1.1,()),(((),()),((v2.2.2.1.1,()),(((v2.2.2.2.1.1.1,v2.2.2.2.1.1.2),()),((v2.2.2.2.2.1.1,()),(((oz v2.2.2.2.2.2.1.1 (ou (v3.1.1,(v3.1.2.1,((IntKind.i64.wrap (oe v2.1.1 v2.2.2.2.2.2.2.1.1)),(IntKind.i64.wrap (oe (we 1) v3.2.1))))) [])),()),((v2.2.2.2.2.2.2.1.1,()),()))))))),eb)) i6) (iz (((v2.1.1,()),(((),()),((v2.2.2.1.1,()),(((v2.2.2.2.1.1.1,v2.2.2.2.1.1.2),()),((v2.2.2.2.2.1.1,()),((v2.2.2.2.2.2.1.1,()),((v2.2.2.2.2.2.2.1.1,()),()))))))),eb))))) v1 ((p.2.1,()),(((),()),((p.2.2.2.2.2.2,()),(((p.2.2.1,p.2.2.2.1),()),((p.2.2.2.2.2.1,()),((p.2.2.2.2.1,()),((p.1,()),())))))))) with|none=>i6|some v4=>(cond v4.2 (iz ((v4.1.2.2.1.1,((v4.1.2.2.2.1.1.1,v4.1.2.2.2.1.1.2),(v4.1.2.2.2.2.1.1,()))),())) (L3 ((IntKind.i64.wrap (oe p.1 (we 1))),v4.1.1.1,v4.1.2.2.2.1.1.1,v4.1.2.2.2.1.1.2,v4.1.2.2.2.2.2.1.1,v4.1.2.2.2.2.1.1,v4.1.2.2.1.1)))))) (iz ((p.2.2.2.2.1,(((we 0),(we 0)),((we 0),()))),())))
abbrev gz10:Type:=ElP [.dat (.list .str),.dat (.int .i64),.fn 88]->Oq ku
abbrev sz10(g:gz10):SmR:=⟨[.dat (.list .str),.dat (.int .i64),.fn 88],[(i7,zd),(eb,jl),(eb,(.int .i64))],g⟩
abbrev Ez10(g:gz10)(J:JT ku)(lf:Nat)(x1:(Lz Bq))(x2:Int):=zm oa ttT.get qfk (mP [.dat (.list .str),.dat (.int .i64),.fn 88]) fi86.nt (qnr _ lf) lf qef J fi86.body [] (zk (ze [.dat (.list .str),.dat (.int .i64),.fn 88] idN 0 (x1,x2,())) 0 .leaf) (Sc [.dat (.list .str),.dat (.int .i64),.fn 88] (x1,x2,())) [] (z6 ttT.get fi86 (sz10 g))
abbrev Bz10(g:gz10)(J:JT ku)(lf k:Nat)(ms:Lz Nat)(q:NRes):=qj oa ttT.get qfk (mP [.dat (.list .str),.dat (.int .i64),.fn 88]) fi86.nt (qnr _ lf) lf qef J k fi86.body [] ms q (z6 ttT.get fi86 (sz10 g))
theorem za2(g:gz10)(J:JT ku)(lf:Nat)(x1:(Lz Bq))(x2:Int):Ez10 g J lf x1 x2=qyx lf x1 x2 (fun q=>J 3 [lf] (qco x1 x2 q)):=by kernel_rfl
theorem zmu(g:gz10)(J:JT ku)(lf:Nat)(x1:(Lz Bq))(x2:Int)(m1:Nat)(p:Int × Int × Int × Int × (Lz zb) × Int × (Lz zb)):Bz10 g J lf 3 [m1] (qco x1 x2 p)=qdn lf x1 x2 (fun q=>J 3 [m1] (qco x1 x2 q)) p:=by kernel_rfl
theorem q51:(regs fi86.body).Nodup:=by decide +kernel
theorem q2p:okC qfk qef qvq fi86.body i6=i7:=by kernel_rfl
def Az10(g:gz10)(lf:Nat):JT ku:=atQ oa ttT.get qfk fi86 (sz10 g) (qnr _ lf) lf qvq
def qes(lf:Nat)(x1:(Lz Bq))(x2:Int):Nat->(Int × Int × Int × Int × (Lz zb) × Int × (Lz zb))->Oq ku:=rounds fun K p=>qdn lf x1 x2 K p
theorem q99(g:gz10)(lf:Nat)(x1:(Lz Bq))(x2:Int):∀(n:Nat) (p:Int × Int × Int × Int × (Lz zb) × Int × (Lz zb)),Az10 g lf 3 [n] (qco x1 x2 p)=qes lf x1 x2 n p
 | 0,p=>wg 3 [0] rfl _
 | n+1,p=>by
  have ih:=q99 g lf x1 x2 n;refine(ki rfl (qg 20 _) q51 q2p 3 [n+1] [n] rfl _).trans ((zmu g (Az10 g lf) lf x1 x2 n p).trans ?_);rw[(show (fun q=>Az10 g lf 3 [n] (qco x1 x2 q))=(fun q=>qes lf x1 x2 n q) from funext ih)];rfl
def Fz10(lf:Nat)(x1:(Lz Bq))(x2:Int):Oq ku:=qyx lf x1 x2 (fun q=>qes lf x1 x2 lf q)
theorem ziu(g:gz10)(lf:Nat)(x1:(Lz Bq))(x2:Int):Ez10 g (Az10 g lf) lf x1 x2=Fz10 lf x1 x2:=by
  refine(za2 g (Az10 g lf) lf x1 x2).trans ?_;rw[(show (fun q=>Az10 g lf 3 [lf] (qco x1 x2 q))=(fun q=>qes lf x1 x2 lf q) from funext fun q=>q99 g lf x1 x2 lf q)];rfl
theorem zka:zv oa qoc:=⟨qze mixed ttOK _ 0 q93,trivial⟩
theorem zh1{g:gz10}(hsm:SmOK oa qu6)(hg:∀(x:ElP [.dat (.list .str),.dat (.int .i64),.fn 88]) (y:ku),WfP [.dat (.list .str),.dat (.int .i64),.fn 88] x->g x=iz y->∃lf,Fz10 lf x.1 x.2.1=iz y):ConR oa 86 ⟨[.dat (.list .str),.dat (.int .i64),.fn 88],[(i7,zd),(eb,jl),(eb,(.int .i64))],g⟩ :=
 conTR (nmf:=qfk) (sml:=qu6) (hxl:=qoc) (st:=qef) (hd:=qvq) 20 mixed ttOK ftOK hsm zka q9x (by kernel_rfl) (fun x=>by kernel_rfl) q51 q2p fun x y z b a=>by
  obtain⟨lf,h⟩:=hg x (y,z) b a;exact⟨lf,(ziu g lf x.1 x.2.1).trans h⟩
def qe5:Nat->Oq Nm:=fun k=>cond (od k 3) (iz ⟨[4,5,6,7,8,9,12,13,14,15,22,23,24,25,26,27,28,29,30,31,32,33,34,35,36,37,38,39,40,41,42,43,44,45,46,47,48,49],[],[(6,0,zd),(9,0,zd)],[],[],0,0,eb⟩) (cond (od k 999999) (iz ⟨[],[],[],[],[],0,0,eb⟩) i6)
def qfs:Nat->Bool:=fun k=>cond (od k 3) i7 (eb)
def qnu:=qfs
abbrev wa:Type:=((Lz zb) × zf × Int × Unit) × Unit
def qo7:Lz (Nat × Sm):=[]
def qp7:Lz (Nat × Hx):=[(270,itRx oa ttT.get qwp ⟨[4,5,6,7,8,9,10],[.ref (.box [.dat (.int .i64)]),.ref (.box [.fn 198]),.ref (.box [.arr zd]),.ref (.box [.dat jl]),.ref (.box [.dat (.int .i64)]),.ref (.box [.arr zd]),.ref (.box [.dat (.int .i64)])],qyo⟩ 0)]
def qox(R:Type)(lf:Nat):ClK R:=zn oa ttT.get ftT.get (fun _ _=>i6) (smL qo7) (hxL qp7) lf 20 R
abbrev zxk:Nat:=86
def qc2(x1:(Lz Bq))(x2:Int)(p:Int × Int × Int × Int × (Lz zb) × Int × (Lz zb)):NRes:=(NRes.mk (.node i6 (.node i6 (.node i6 (.node (iz (IV.ptr 3 0)) (.node (iz (IV.int .i64 p.1)) (.node (iz IV.unk) .leaf .leaf) (.node (iz IV.unk) .leaf .leaf)) (.node (iz IV.unk) (.node (iz IV.unk) .leaf .leaf) .leaf)) (.node i6 (.node i6 (.node (iz IV.unk) .leaf .leaf) .leaf) (.node (iz IV.unk) (.node (iz IV.unk) .leaf .leaf) .leaf))) (.node (iz (IV.ptr 1 0)) (.node (iz (IV.ptr 5 0)) (.node i6 (.node (iz IV.unk) .leaf .leaf) (.node (iz IV.unk) .leaf .leaf)) (.node (iz IV.unk) (.node (iz IV.unk) .leaf .leaf) .leaf)) (.node (iz (IV.lst TC.str x1)) (.node i6 (.node (iz IV.unk) .leaf .leaf) .leaf) (.node (iz IV.unk) (.node (iz IV.unk) .leaf .leaf) .leaf)))) (.node i6 (.node (iz (IV.ptr 0 0)) (.node (iz (IV.ptr 4 0)) (.node i6 (.node (iz IV.unk) .leaf .leaf) (.node (iz IV.unk) .leaf .leaf)) (.node (iz IV.unk) (.node (iz IV.unk) .leaf .leaf) .leaf)) (.node (iz IV.unk) (.node i6 (.node (iz IV.unk) .leaf .leaf) .leaf) (.node (iz IV.unk) (.node (iz IV.unk) .leaf .leaf) .leaf))) (.node (iz (IV.ptr 2 0)) (.node i6 (.node i6 (.node (iz IV.unk) .leaf .leaf) .leaf) (.node (iz IV.unk) (.node (iz IV.unk) .leaf .leaf) .leaf)) (.node (iz (IV.int .i64 (we x1.length))) (.node (iz IV.unk) (.node (iz IV.unk) .leaf .leaf) .leaf) (.node (iz IV.unk) (.node (iz IV.unk) .leaf .leaf) .leaf))))) (IS.mk (.node (iz (IObj.row [(IV.int .i64 p.2.1)])) (.node (iz (IObj.row [(IV.fn 198 [])])) (.node (iz (IObj.row (ou (IV.int .i64 p.2.2.1) [(IV.int .i64 p.2.2.2.1)]))) (.node (iz (IObj.arr zd p.2.2.2.2.1)) .leaf .leaf) .leaf) (.node (iz (IObj.row [(IV.arr 7)])) .leaf .leaf)) (.node (iz (IObj.row [(IV.arr 6)])) (.node (iz (IObj.row [(IV.int .i64 p.2.2.2.2.2.1)])) .leaf .leaf) (.node (iz (IObj.arr zd p.2.2.2.2.2.2)) .leaf .leaf))) 8) [] 0)
def q85(lf:Nat)(x1:(Lz Bq))(x2:Int)(L3:(Int × Int × Int × Int × (Lz zb) × Int × (Lz zb))->Oq wa):Oq wa:=(L3 ((we 0),x2,(we 0),(we 0),[],(we 0),[]))
def qe2(lf:Nat)(x1:(Lz Bq))(x2:Int)(L3:(Int × Int × Int × Int × (Lz zb) × Int × (Lz zb))->Oq wa)(p:Int × Int × Int × Int × (Lz zb) × Int × (Lz zb)):Oq wa:=(cond (iltI p.1 (we x1.length)) (match (jget x1 p.1) with|none=>i6|some v0=>(match (cond (og (Nat.succ v0.size) 9223372036854775807) (iz (S.pieces v0)) (i6:Oq (Lz (El Go.Proofs.YtaepcfidpcoofaaGreatDoor.cLexPiece)))) with|none=>i6|some v1=>(match (vf (fun v2 v3=>(cond (Bool.not (ieqI v3.2.2 (we 0))) (iz (((v2.1.1,()),(((),()),(([],()),((((IntKind.i64.wrap (oe v2.1.1 v2.2.2.2.2.2.2.1.1)),(IntKind.i64.wrap (oe (we 1) v3.2.1))),()),((v3.2.2,()),((v2.2.2.2.2.2.1.1,()),((v2.2.2.2.2.2.2.1.1,()),()))))))),i7)) (cond (ieqI v3.1.1 (we 6)) (cond (og (o7 (o5 v2.2.2.2.2.2.1.1.length 1) 40) 140737488355328) (iz (((v2.1.1,()),(((),()),((v2.2.2.1.1,()),(((v2.2.2.2.1.1.1,v2.2.2.2.1.1.2),()),((v2.2.2.2.2.1.1,()),(((oz v2.2.2.2.2.2.1.1 (ou (v3.1.1,(v3.1.2.1,((IntKind.i64.wrap (oe v2.1.1 v2.2.2.2.2.2.2.1.1)),(IntKind.i64.wrap (oe (we 1) v3.2.1))))) [])),()),((v2.2.2.2.2.2.2.1.1,()),()))))))),eb)) i6) (iz (((v2.1.1,()),(((),()),((v2.2.2.1.1,()),(((v2.2.2.2.1.1.1,v2.2.2.2.1.1.2),()),((v2.2.2.2.2.1.1,()),((v2.2.2.2.2.2.1.1,()),((v2.2.2.2.2.2.2.1.1,()),()))))))),eb))))) v1 ((p.2.1,()),(((),()),((p.2.2.2.2.2.2,()),(((p.2.2.1,p.2.2.2.1),()),((p.2.2.2.2.2.1,()),((p.2.2.2.2.1,()),((p.1,()),())))))))) with|none=>i6|some v4=>(cond v4.2 (iz ((v4.1.2.2.1.1,((v4.1.2.2.2.1.1.1,v4.1.2.2.2.1.1.2),(v4.1.2.2.2.2.1.1,()))),())) (L3 ((IntKind.i64.wrap (oe p.1 (we 1))),v4.1.1.1,v4.1.2.2.2.1.1.1,v4.1.2.2.2.1.1.2,v4.1.2.2.2.2.2.1.1,v4.1.2.2.2.2.1.1,v4.1.2.2.1.1)))))) (iz ((p.2.2.2.2.1,(((we 0),(we 0)),((we 0),()))),())))
abbrev gz11:Type:=ElP [.dat (.list .str),.dat (.int .i64),.fn 198]->Oq wa
abbrev sz11(g:gz11):SmR:=⟨[.dat (.list .str),.dat (.int .i64),.fn 198],[(i7,zd),(eb,jl),(eb,(.int .i64))],g⟩
abbrev Ez11(g:gz11)(J:JT wa)(lf:Nat)(x1:(Lz Bq))(x2:Int):=zm oa ttT.get qe5 (mP [.dat (.list .str),.dat (.int .i64),.fn 198]) fi86.nt (qox _ lf) lf qfs J fi86.body [] (zk (ze [.dat (.list .str),.dat (.int .i64),.fn 198] idN 0 (x1,x2,())) 0 .leaf) (Sc [.dat (.list .str),.dat (.int .i64),.fn 198] (x1,x2,())) [] (z6 ttT.get fi86 (sz11 g))
abbrev Bz11(g:gz11)(J:JT wa)(lf k:Nat)(ms:Lz Nat)(q:NRes):=qj oa ttT.get qe5 (mP [.dat (.list .str),.dat (.int .i64),.fn 198]) fi86.nt (qox _ lf) lf qfs J k fi86.body [] ms q (z6 ttT.get fi86 (sz11 g))
theorem zkm(g:gz11)(J:JT wa)(lf:Nat)(x1:(Lz Bq))(x2:Int):Ez11 g J lf x1 x2=q85 lf x1 x2 (fun q=>J 3 [lf] (qc2 x1 x2 q)):=by kernel_rfl
theorem zqq(g:gz11)(J:JT wa)(lf:Nat)(x1:(Lz Bq))(x2:Int)(m1:Nat)(p:Int × Int × Int × Int × (Lz zb) × Int × (Lz zb)):Bz11 g J lf 3 [m1] (qc2 x1 x2 p)=qe2 lf x1 x2 (fun q=>J 3 [m1] (qc2 x1 x2 q)) p:=by kernel_rfl
theorem q8r:(regs fi86.body).Nodup:=by decide +kernel
theorem q3e:okC qe5 qfs qnu fi86.body i6=i7:=by kernel_rfl
def Az11(g:gz11)(lf:Nat):JT wa:=atQ oa ttT.get qe5 fi86 (sz11 g) (qox _ lf) lf qnu
def qgc(lf:Nat)(x1:(Lz Bq))(x2:Int):Nat->(Int × Int × Int × Int × (Lz zb) × Int × (Lz zb))->Oq wa:=rounds fun K p=>qe2 lf x1 x2 K p
theorem q8c(g:gz11)(lf:Nat)(x1:(Lz Bq))(x2:Int):∀(n:Nat) (p:Int × Int × Int × Int × (Lz zb) × Int × (Lz zb)),Az11 g lf 3 [n] (qc2 x1 x2 p)=qgc lf x1 x2 n p
 | 0,p=>wg 3 [0] rfl _
 | n+1,p=>by
  have ih:=q8c g lf x1 x2 n;refine(ki rfl (qg 20 _) q8r q3e 3 [n+1] [n] rfl _).trans ((zqq g (Az11 g lf) lf x1 x2 n p).trans ?_);rw[(show (fun q=>Az11 g lf 3 [n] (qc2 x1 x2 q))=(fun q=>qgc lf x1 x2 n q) from funext ih)];rfl
def Fz11(lf:Nat)(x1:(Lz Bq))(x2:Int):Oq wa:=q85 lf x1 x2 (fun q=>qgc lf x1 x2 lf q)
theorem zem(g:gz11)(lf:Nat)(x1:(Lz Bq))(x2:Int):Ez11 g (Az11 g lf) lf x1 x2=Fz11 lf x1 x2:=by
  refine(zkm g (Az11 g lf) lf x1 x2).trans ?_;rw[(show (fun q=>Az11 g lf 3 [lf] (qc2 x1 x2 q))=(fun q=>qgc lf x1 x2 lf q) from funext fun q=>q8c g lf x1 x2 lf q)];rfl
theorem zow:zv oa qp7:=⟨qze mixed ttOK _ 0 q93,trivial⟩
theorem zzv{g:gz11}(hsm:SmOK oa qo7)(hg:∀(x:ElP [.dat (.list .str),.dat (.int .i64),.fn 198]) (y:wa),WfP [.dat (.list .str),.dat (.int .i64),.fn 198] x->g x=iz y->∃lf,Fz11 lf x.1 x.2.1=iz y):ConR oa 86 ⟨[.dat (.list .str),.dat (.int .i64),.fn 198],[(i7,zd),(eb,jl),(eb,(.int .i64))],g⟩ :=
 conTR (nmf:=qe5) (sml:=qo7) (hxl:=qp7) (st:=qfs) (hd:=qnu) 20 mixed ttOK ftOK hsm zow q9x (by kernel_rfl) (fun x=>by kernel_rfl) q8r q3e fun x y z b a=>by
  obtain⟨lf,h⟩:=hg x (y,z) b a;exact⟨lf,(zem g lf x.1 x.2.1).trans h⟩
theorem sum_cons(x:Lz Int)(l:Lz (Lz Int)):S.sumLen (x::l)=(x.length:Int)+1+S.sumLen l:=rfl
theorem t8(x:Lz Int)(ls:Lz (Lz Int))(n:Int):S.readL (x::ls) n=(match (S.pcs (x.length+1) x 1).2 with
  | some (c,e)=>([],(n,we c),e)
  | none=>if (S.readL ls (n+1)).2.2=0 then (S.at_ n (S.pcs (x.length+1) x 1).1++(S.readL ls (n+1)).1,(0,0),0) else S.readL ls (n+1)):=rfl
theorem qjt:∀(A:Lz (Lz Int)) (n:Int),¬(S.readL A n).2.2=0->(S.readL A n).1=[]
 | [],n,h=>rfl
 | x::A,n,h=>by
  rw[t8] at h ⊢;split at h
  ·rfl
  ·split at h
   ·exact absurd rfl h
   ·rename_i h1;rw[xr h1];exact qjt A (n+1) h
theorem qu3:∀(A:Lz (Lz Int)) (n:Int),(S.readL A n).2.2=0->(S.readL A n).2.1=(0,0)
 | [],n,h=>rfl
 | x::A,n,h=>by
  rw[t8] at h ⊢;split at h
  ·rename_i h1;exact absurd h (qae _ _ _ _ h1)
  ·split at h
   ·rename_i h1;rw[xx h1]
   ·rename_i h1;exact absurd h h1
theorem qgu:∀(d:Lz Int) (x:Lz Int) (b:Int),x∈S.splitL d->b∈x->b∈d/\¬b=10
 | [],x,b,hx,hb=>by
  have hx:x∈([[]]:Lz (Lz Int)):=hx;rw[gn.1 hx] at hb;cases hb
 | c::d,x,b,hx,hb=>by
  by_cases hc:c=10
  ·subst hc;rw[qi3] at hx;rcases po.1 hx with rfl|hx
   ·cases hb
   ·obtain⟨h1,h2⟩:=qgu d x b hx hb;exact⟨xv _ h1,h2⟩
  ·obtain⟨y,ys,e1,e2⟩:=qgm hc d;rw[e2] at hx;rcases po.1 hx with rfl|hx
   ·rcases po.1 hb with rfl|hb
    ·exact⟨x8,hc⟩
    ·obtain⟨h1,h2⟩:=qgu d y b (by rw[e1];exact x8) hb;exact⟨xv _ h1,h2⟩
   ·obtain⟨h1,h2⟩:=qgu d x b (by rw[e1];exact xv _ hx) hb;exact⟨xv _ h1,h2⟩
noncomputable section
namespace S
def okL(ls:Lz Bq)(n:Int):Bool:=og ls.length 1000001&&(ls.all (fun s=>og s.size 1000000&&(za s).all fun b=>!decide (b=10))&&(decide (0<=n)&&decide (n<=1000001)))
def readX(w:Int->Bool)(ls:Lz Bq)(n:Int):Lz zb × zf × Int:=((readL (ls.map za) n).1.filter (fun t=>w t.1),(readL (ls.map za) n).2)
def wTok(k:Int):Bool:=!decide (k=6)
def wNote(k:Int):Bool:=decide (k=6)
end S
abbrev DRd:Type:=(Int × Unit) × (Unit × Unit) × (Lz zb × Unit) × (zf × Unit) × (Int × Unit) × (Lz zb × Unit) × (Int × Unit) × Unit
def rdD(first:Int)(out:Lz zb)(i:Int)(pl:zf)(e:Int):DRd:=((first,()),(((),()),(([],()),(((pl.1,pl.2),()),((e,()),((out,()),((i,()),())))))))
def Gtok:DRd->jc->Oq (DRd × Bool):=(fun v2 v3=>(cond (Bool.not (ieqI v3.2.2 (we 0))) (iz (((v2.1.1,()),(((),()),(([],()),((((ml mo (oe v2.1.1 v2.2.2.2.2.2.2.1.1)),(ml mo (oe (we 1) v3.2.1))),()),((v3.2.2,()),((v2.2.2.2.2.2.1.1,()),((v2.2.2.2.2.2.2.1.1,()),()))))))),i7)) (cond (Bool.not (ieqI v3.1.1 (we 6))) (cond (og (o7 (o5 v2.2.2.2.2.2.1.1.length 1) 40) 140737488355328) (iz (((v2.1.1,()),(((),()),((v2.2.2.1.1,()),(((v2.2.2.2.1.1.1,v2.2.2.2.1.1.2),()),((v2.2.2.2.2.1.1,()),(((oz v2.2.2.2.2.2.1.1 (ou (v3.1.1,(v3.1.2.1,((ml mo (oe v2.1.1 v2.2.2.2.2.2.2.1.1)),(ml mo (oe (we 1) v3.2.1))))) [])),()),((v2.2.2.2.2.2.2.1.1,()),()))))))),eb)) i6) (iz (((v2.1.1,()),(((),()),((v2.2.2.1.1,()),(((v2.2.2.2.1.1.1,v2.2.2.2.1.1.2),()),((v2.2.2.2.2.1.1,()),((v2.2.2.2.2.2.1.1,()),((v2.2.2.2.2.2.2.1.1,()),()))))))),eb)))))
def qke:DRd->jc->Oq (DRd × Bool):=(fun v2 v3=>(cond (Bool.not (ieqI v3.2.2 (we 0))) (iz (((v2.1.1,()),(((),()),(([],()),((((ml mo (oe v2.1.1 v2.2.2.2.2.2.2.1.1)),(ml mo (oe (we 1) v3.2.1))),()),((v3.2.2,()),((v2.2.2.2.2.2.1.1,()),((v2.2.2.2.2.2.2.1.1,()),()))))))),i7)) (cond (ieqI v3.1.1 (we 6)) (cond (og (o7 (o5 v2.2.2.2.2.2.1.1.length 1) 40) 140737488355328) (iz (((v2.1.1,()),(((),()),((v2.2.2.1.1,()),(((v2.2.2.2.1.1.1,v2.2.2.2.1.1.2),()),((v2.2.2.2.2.1.1,()),(((oz v2.2.2.2.2.2.1.1 (ou (v3.1.1,(v3.1.2.1,((ml mo (oe v2.1.1 v2.2.2.2.2.2.2.1.1)),(ml mo (oe (we 1) v3.2.1))))) [])),()),((v2.2.2.2.2.2.2.1.1,()),()))))))),eb)) i6) (iz (((v2.1.1,()),(((),()),((v2.2.2.1.1,()),(((v2.2.2.2.1.1.1,v2.2.2.2.1.1.2),()),((v2.2.2.2.2.1.1,()),((v2.2.2.2.2.2.1.1,()),((v2.2.2.2.2.2.2.1.1,()),()))))))),eb)))))
end
theorem qz0{ls:Lz Bq}{n:Int}(h:S.okL ls n=i7):ls.length<=1000001/\(∀s∈ls,s.size<=1000000/\∀b∈za s,¬b=10)/\0<=n/\n<=1000001:=by
 unfold S.okL at h;simp only[xf,du,xz,dt,rj] at h;exact⟨xk h.1,fun s a=>⟨xk (h.2.1 s a).1,(h.2.1 s a).2⟩,h.2.2⟩
theorem qn1{G:DRd->jc->Oq (DRd × Bool)}{w:Int->Bool}{first i n:Int}{N M:Nat}
  (hG:∀(out:Lz zb) (p:jc),out.length<M->okP N p->G (rdD first out i (0,0) 0) p=if p.2.2=0 then iz (rdD first (cond (w p.1.1) (out++[(p.1.1,p.1.2.1,n,1+p.2.1)]) out) i (0,0) 0,eb) else iz (rdD first out i (n,1+p.2.1) p.2.2,i7)) :
  ∀(ps:Lz jc) (out:Lz zb),out.length+ps.length<=M->(∀p∈ps,okP N p) ->
   ((S.rdGo w n ps out).2=i6->vf G ps (rdD first out i (0,0) 0)=iz (rdD first (S.rdGo w n ps out).1 i (0,0) 0,eb)/\(S.rdGo w n ps out).1.length<=out.length+ps.length) /\
   (∀pl e,(S.rdGo w n ps out).2=iz (pl,e)->∃out',vf G ps (rdD first out i (0,0) 0)=iz (rdD first out' i pl e,i7))
 | [],out,_,_=>⟨fun _=>⟨rfl,jal _ _⟩,fun pl e h=>by cases h⟩
 | p::ps,out,hM,hp=>by
  rw[xw] at hM;have hg:=hG out p (by omega) (hp p x8);have hr:S.rdGo w n (p::ps) out=if p.2.2=0 then S.rdGo w n ps (cond (w p.1.1) (out++[(p.1.1,p.1.2.1,n,1+p.2.1)]) out) else ([],iz ((n,1+p.2.1),p.2.2)):=rfl
  rw[hr];unfold vf;rw[hg];by_cases h0:p.2.2=0
  ·rw[xx h0,xx h0];have hl:(cond (w p.1.1) (out++[(p.1.1,p.1.2.1,n,1+p.2.1)]) out).length<=out.length+1:=by
    grind
   obtain⟨a1,a2⟩:=qn1 hG ps (cond (w p.1.1) (out++[(p.1.1,p.1.2.1,n,1+p.2.1)]) out) (by omega) (fun q hq=>hp q (xv _ hq))
   grind
  ·grind
theorem qni:∀(f:Nat) (r:Lz Int) (a:Nat),(S.piecesGo f r a).length<=f
 | 0,_,_=>xl _
 | f+1,[],_=>pm _
 | f+1,b::r,a=>by
  have e:S.piecesGo (f+1) (b::r) a=if b=32 then S.piecesGo f r (a+1) else if (S.pieceX (b::r) a).1.2.2=0 then (S.pieceX (b::r) a).1::S.piecesGo f ((b::r).drop (S.pieceX (b::r) a).2) (a+(S.pieceX (b::r) a).2) else [(S.pieceX (b::r) a).1]:=rfl
  rw[e];split
  ·exact jcd (qni f _ _)
  split
  ·rw[xw];exact Nat.succ_le_succ (qni f _ _)
  ·simp
theorem qk6{a b:Int}(h:-9223372036854775808<=a+b/\a+b<9223372036854775808):IntKind.i64.wrap (oe a b)=a+b:=kn h
theorem zew(first i n:Int)(N:Nat)(hn:n=first+i)(h:0<=n/\n<=4000000)(hN:N<=1000000)(out:Lz zb)(p:jc)(ho:out.length<1100000000000)(hp:okP N p):Gtok (rdD first out i (0,0) 0) p=if p.2.2=0 then iz (rdD first (cond (S.wTok p.1.1) (out++[(p.1.1,p.1.2.1,n,1+p.2.1)]) out) i (0,0) 0,eb) else iz (rdD first out i (n,1+p.2.1) p.2.2,i7):=by
 obtain⟨_,_,_,⟨g,f⟩,_⟩:=hp;have d:IntKind.i64.wrap (oe first i)=n:=by rw[hn];exact qk6 (by omega)
 have c:IntKind.i64.wrap (oe (we 1) p.2.1)=1+p.2.1:=qk6 (by show -9223372036854775808<=(1:Int)+p.2.1/\(1:Int)+p.2.1<_;omega);have e:og (o7 (o5 out.length 1) 40) 140737488355328=i7:=x7 (by show (out.length+1)*40<=_;omega);simp only[Gtok,rdD,d,c,e,xa,S.wTok,zx];by_cases b:p.2.2=0
 ·rw[xt (show p.2.2=we 0 from b),xx b];simp only[gd,xe];by_cases a:p.1.1=6
  ·grind
  ·rw[xq (show ¬p.1.1=we 6 from a),xq a];rfl
 ·grind
theorem zl2(ls:Lz Bq)(n:Int)(hl:ls.length<=1000001)(hs:∀s∈ls,s.size<=1000000/\∀b∈za s,¬b=10)(hn:0<=n/\n<=1000001) :
  Fz10 LF ls n=iz (((S.readX S.wTok ls n).1,(S.readX S.wTok ls n).2.1,(S.readX S.wTok ls n).2.2,()),()):=by
 have l:qes LF ls n LF (we 0,n,we 0,we 0,[],we 0,[])=(if (S.readL (ls.map za) (n+(0:Nat))).2.2=0 then iz (([]++(S.readL (ls.map za) (n+(0:Nat))).1.filter (fun t=>S.wTok t.1),(0,0),0,()),()) else iz (([],(S.readL (ls.map za) (n+(0:Nat))).2.1,(S.readL (ls.map za) (n+(0:Nat))).2.2,()),())):=by
  refine range0 (σ:=Lz zb) (R:=ku) ls (fun i q=>(i,n,we 0,we 0,q,we 0,[])) (fun i q=>q.length<=i*1000001) (fun a i q=>if (S.readL (a.map za) (n+(i:Nat))).2.2=0 then iz ((q++(S.readL (a.map za) (n+(i:Nat))).1.filter (fun t=>S.wTok t.1),(0,0),0,()),()) else iz (([],(S.readL (a.map za) (n+(i:Nat))).2.1,(S.readL (a.map za) (n+(i:Nat))).2.2,()),())) (by unfold LF;omega) (fun K q E=>?_) (fun K i v a q E r h=>?_) [] (pm _)
  ·simp only[qdn,jt,xe,jcj];show iz ((q,(0,0),0,()),())=if (0:Int)=0 then iz ((q++[],(0,0),0,()),()) else _
   grind
  ·obtain⟨D,o⟩:=hs v r.mem;have J:=r.lt;have u:og (Nat.succ v.size) 9223372036854775807=i7:=x7 (by omega);have H:(cond (og (Nat.succ v.size) 9223372036854775807) (iz (S.pieces v)) (i6:Oq (Lz (El cLexPiece))))=iz (S.pieces v):=by rw[u];rfl
   have F:(S.pieces v).length<=v.size+1:=qni _ _ _;have A:q.length+(S.pieces v).length<=(i+1)*1000001:=by
    grind
   have O:(i+1)*1000001<=1000001*1000001:=pw _ (by omega);have k:=qn1 (G:=Gtok) (w:=S.wTok) (first:=n) (i:=we i) (n:=n+(i:Nat)) (N:=v.size) (M:=1100000000000) (fun out p m j=>zew n (we i) (n+(i:Nat)) v.size rfl (by omega) D out p m j) (S.pieces v) q (by omega) (qgo v.size _ _ 0 (by rw[zt];omega));have d:=qjq S.wTok (n+(i:Nat)) (v.size+1) (za v) 0 q (fun b u=>ce u) o;have I:S.pieces v=S.piecesGo (v.size+1) (za v) 0:=rfl;rw[<- I] at d;have C:S.readL ((v::a).map za) (n+(i:Nat))=_:=t8 (za v) (a.map za) (n+(i:Nat));rw[zt] at C;rw[C];have g:qdn LF ls n K (we i,n,we 0,we 0,q,we 0,[])=match vf Gtok (S.pieces v) (rdD n q (we i) (0,0) 0) with
     | none=>i6
     | some v4=>cond v4.2 (iz ((v4.1.2.2.1.1,((v4.1.2.2.2.1.1.1,v4.1.2.2.2.1.1.2),(v4.1.2.2.2.2.1.1,()))),())) (K (we (i+1),v4.1.1.1,v4.1.2.2.2.1.1.1,v4.1.2.2.2.1.1.2,v4.1.2.2.2.2.2.1.1,v4.1.2.2.2.2.1.1,v4.1.2.2.1.1)):=by
    simp only[qdn,r.ilt,r.get,r.next,xa,H];rfl
   rw[g];cases j:(S.pcs (v.size+1) (za v) (0+1)).2 with
   | some x =>
    obtain⟨c,e⟩:=x;have L:=qae _ _ _ _ j;rw[j] at d;obtain⟨z,m⟩:=k.2 _ _ (by rw[d]);rw[m];simp only[rdD,xa]
    grind
   | none =>
    rw[j] at d;obtain⟨y,B⟩:=k.1 (by rw[d]);rw[d] at y B;simp only at y B;rw[y];simp only[rdD,xe];refine(h _ (by omega)).trans ?_;rw[show n+(i:Int)+1=n+((i+1:Nat):Int) by omega];by_cases f:(S.readL (a.map za) (n+((i+1:Nat):Int))).2.2=0
    ·rw[xx f,xx f,xx rfl];simp only[List.filter_append,gq]
    ·rw[xr f,xr f,xr f]
 refine l.trans ?_;rw[show n+((0:Nat):Int)=n by omega,jag];unfold S.readX;by_cases f:(S.readL (ls.map za) n).2.2=0
 ·rw[xx f,qu3 _ _ f,f]
 ·rw[xr f,qjt _ _ f];rfl
def qqt:SmR:=⟨[.dat (.list .str),.dat (.int .i64),.fn 88],[(i7,zd),(eb,jl),(eb,.int .i64)],fun x=>cond (S.okL x.1 x.2.1) (iz (((S.readX S.wTok x.1 x.2.1).1,(S.readX S.wTok x.1 x.2.1).2.1,(S.readX S.wTok x.1 x.2.1).2.2,()),())) i6⟩
theorem q2u:ConR oa zgn qqt:=zh1 trivial fun x y f h=>⟨LF,by
 obtain⟨b,a⟩:=vn (show cond (S.okL x.1 x.2.1) (iz (((S.readX S.wTok x.1 x.2.1).1,(S.readX S.wTok x.1 x.2.1).2.1,(S.readX S.wTok x.1 x.2.1).2.2,()),())) i6=iz y from h);obtain⟨e,d,c⟩:=qz0 b;exact(zl2 x.1 x.2.1 e d c).trans (xy iz a)⟩
theorem zc3(first i n:Int)(N:Nat)(hn:n=first+i)(h:0<=n/\n<=4000000)(hN:N<=1000000)(out:Lz zb)(p:jc)(ho:out.length<1100000000000)(hp:okP N p):qke (rdD first out i (0,0) 0) p=if p.2.2=0 then iz (rdD first (cond (S.wNote p.1.1) (out++[(p.1.1,p.1.2.1,n,1+p.2.1)]) out) i (0,0) 0,eb) else iz (rdD first out i (n,1+p.2.1) p.2.2,i7):=by
 obtain⟨_,_,_,⟨g,f⟩,_⟩:=hp;have d:IntKind.i64.wrap (oe first i)=n:=by rw[hn];exact qk6 (by omega)
 have c:IntKind.i64.wrap (oe (we 1) p.2.1)=1+p.2.1:=qk6 (by show -9223372036854775808<=(1:Int)+p.2.1/\(1:Int)+p.2.1<_;omega);have e:og (o7 (o5 out.length 1) 40) 140737488355328=i7:=x7 (by show (out.length+1)*40<=_;omega);simp only[qke,rdD,d,c,e,xa,S.wNote,zx];by_cases b:p.2.2=0
 ·rw[xt (show p.2.2=we 0 from b),xx b];simp only[gd,xe];by_cases a:p.1.1=6
  ·rw[xt (show p.1.1=we 6 from a),xt a];rfl
  ·grind
 ·grind
theorem zy9(ls:Lz Bq)(n:Int)(hl:ls.length<=1000001)(hs:∀s∈ls,s.size<=1000000/\∀b∈za s,¬b=10)(hn:0<=n/\n<=1000001) :
  Fz11 LF ls n=iz (((S.readX S.wNote ls n).1,(S.readX S.wNote ls n).2.1,(S.readX S.wNote ls n).2.2,()),()):=by
 have l:qgc LF ls n LF (we 0,n,we 0,we 0,[],we 0,[])=(if (S.readL (ls.map za) (n+(0:Nat))).2.2=0 then iz (([]++(S.readL (ls.map za) (n+(0:Nat))).1.filter (fun t=>S.wNote t.1),(0,0),0,()),()) else iz (([],(S.readL (ls.map za) (n+(0:Nat))).2.1,(S.readL (ls.map za) (n+(0:Nat))).2.2,()),())):=by
  refine range0 (σ:=Lz zb) (R:=wa) ls (fun i q=>(i,n,we 0,we 0,q,we 0,[])) (fun i q=>q.length<=i*1000001) (fun a i q=>if (S.readL (a.map za) (n+(i:Nat))).2.2=0 then iz ((q++(S.readL (a.map za) (n+(i:Nat))).1.filter (fun t=>S.wNote t.1),(0,0),0,()),()) else iz (([],(S.readL (a.map za) (n+(i:Nat))).2.1,(S.readL (a.map za) (n+(i:Nat))).2.2,()),())) (by unfold LF;omega) (fun K q E=>?_) (fun K i v a q E r h=>?_) [] (pm _)
  ·simp only[qe2,jt,xe,jcj];show iz ((q,(0,0),0,()),())=if (0:Int)=0 then iz ((q++[],(0,0),0,()),()) else _
   grind
  ·obtain⟨D,o⟩:=hs v r.mem;have J:=r.lt;have u:og (Nat.succ v.size) 9223372036854775807=i7:=x7 (by omega);have H:(cond (og (Nat.succ v.size) 9223372036854775807) (iz (S.pieces v)) (i6:Oq (Lz (El cLexPiece))))=iz (S.pieces v):=by rw[u];rfl
   have F:(S.pieces v).length<=v.size+1:=qni _ _ _;have A:q.length+(S.pieces v).length<=(i+1)*1000001:=by
    grind
   have O:(i+1)*1000001<=1000001*1000001:=pw _ (by omega);have k:=qn1 (G:=qke) (w:=S.wNote) (first:=n) (i:=we i) (n:=n+(i:Nat)) (N:=v.size) (M:=1100000000000) (fun out p m j=>zc3 n (we i) (n+(i:Nat)) v.size rfl (by omega) D out p m j) (S.pieces v) q (by omega) (qgo v.size _ _ 0 (by rw[zt];omega));have d:=qjq S.wNote (n+(i:Nat)) (v.size+1) (za v) 0 q (fun b u=>ce u) o;have I:S.pieces v=S.piecesGo (v.size+1) (za v) 0:=rfl;rw[<- I] at d;have C:S.readL ((v::a).map za) (n+(i:Nat))=_:=t8 (za v) (a.map za) (n+(i:Nat));rw[zt] at C;rw[C];have g:qe2 LF ls n K (we i,n,we 0,we 0,q,we 0,[])=match vf qke (S.pieces v) (rdD n q (we i) (0,0) 0) with
     | none=>i6
     | some v4=>cond v4.2 (iz ((v4.1.2.2.1.1,((v4.1.2.2.2.1.1.1,v4.1.2.2.2.1.1.2),(v4.1.2.2.2.2.1.1,()))),())) (K (we (i+1),v4.1.1.1,v4.1.2.2.2.1.1.1,v4.1.2.2.2.1.1.2,v4.1.2.2.2.2.2.1.1,v4.1.2.2.2.2.1.1,v4.1.2.2.1.1)):=by
    simp only[qe2,r.ilt,r.get,r.next,xa,H];rfl
   rw[g];cases j:(S.pcs (v.size+1) (za v) (0+1)).2 with
   | some x =>
    obtain⟨c,e⟩:=x;have L:=qae _ _ _ _ j;rw[j] at d;obtain⟨z,m⟩:=k.2 _ _ (by rw[d]);rw[m];simp only[rdD,xa]
    grind
   | none =>
    rw[j] at d;obtain⟨y,B⟩:=k.1 (by rw[d]);rw[d] at y B;simp only at y B;rw[y];simp only[rdD,xe];refine(h _ (by omega)).trans ?_;rw[show n+(i:Int)+1=n+((i+1:Nat):Int) by omega];by_cases f:(S.readL (a.map za) (n+((i+1:Nat):Int))).2.2=0
    ·rw[xx f,xx f,xx rfl];simp only[List.filter_append,gq]
    ·rw[xr f,xr f,xr f]
 refine l.trans ?_;rw[show n+((0:Nat):Int)=n by omega,jag];unfold S.readX;by_cases f:(S.readL (ls.map za) n).2.2=0
 ·rw[xx f,qu3 _ _ f,f]
 ·rw[xr f,qjt _ _ f];rfl
def qo8:SmR:=⟨[.dat (.list .str),.dat (.int .i64),.fn 198],[(i7,zd),(eb,jl),(eb,.int .i64)],fun x=>cond (S.okL x.1 x.2.1) (iz (((S.readX S.wNote x.1 x.2.1).1,(S.readX S.wNote x.1 x.2.1).2.1,(S.readX S.wNote x.1 x.2.1).2.2,()),())) i6⟩
theorem zav:ConR oa zxk qo8:=zzv trivial fun x y f h=>⟨LF,by
 obtain⟨b,a⟩:=vn (show cond (S.okL x.1 x.2.1) (iz (((S.readX S.wNote x.1 x.2.1).1,(S.readX S.wNote x.1 x.2.1).2.1,(S.readX S.wNote x.1 x.2.1).2.2,()),())) i6=iz y from h);obtain⟨e,d,c⟩:=qz0 b;exact(zy9 x.1 x.2.1 e d c).trans (xy iz a)⟩
abbrev qml:Type:=(Lz zb) × zf × Int × Unit
abbrev zwv:Nat:=31
def qzg(lf:Nat)(x1:Bq):Oq qml:=(cond (iltI (we 20000) (we x1.size)) (iz ([],(((we 0),(we 0)),((we 3),())))) (bd (cond (Bool.and i7 (S.fits x1)) (iz ((S.lines x1),())) i6) fun v0=>(bd (cond (S.okL v0.1 (we 1)) (iz (((S.readX S.wTok v0.1 (we 1)).1,((S.readX S.wTok v0.1 (we 1)).2.1,((S.readX S.wTok v0.1 (we 1)).2.2,()))),())) i6) fun v1=>(cond (ieqI v1.1.2.2.1 (we 0)) (cond (iltI (we 6000) (we v1.1.1.length)) (iz ([],(((we 0),(we 0)),((we 3),())))) (iz v1.1)) (iz v1.1)))))
def qk5(lf:Nat)(x1:Bq):Oq qml:=qzg lf x1
theorem zmo{g:ElA [.str]->Oq qml}(hsm:SmOK oa [(87,qp0)])(hg:∀(x:ElA [.str]) (y:qml),WfA [.str] x->g x=iz y->∃lf,qk5 lf x.1=iz y):Con oa 31 ⟨[.str],[(eb,(.list zd)),(eb,jl),(eb,(.int .i64))],g⟩ :=
 conU (fi:=fi31) (hxl:=[(86,qeb (qey 88) (hxR qqt) (hxR qo8))]) (fun lf x=>qk5 lf x.1) cm3 zpy ⟨qhu (z8 q2u) (z8 zav),trivial⟩ hsm hg
theorem zjr{s:Bq}(h:S.fits s=i7):S.okL (S.lines s) 1=i7:=by
 have d:=qr6 h;unfold S.okL;simp only[xf,du,xz,dt,rj];refine⟨x7 ?_,fun t c=>⟨x7 (py (zs0 c) d),fun b e=>?_⟩,by decide,by decide⟩
 ·unfold S.lines;rw[gt,qlg];have:=jay (a:=(10:Int)) (l:=za s);rw[zt] at this;omega
 ·have:za t∈S.splitL (za s):=by rw[<- q15];exact dh.2 ⟨t,c,rfl⟩
  exact(qgu _ _ b this e).2
theorem zfw(w:Int->Bool)(s:Bq):S.readX w (S.lines s) 1=((S.readL (S.splitL (za s)) 1).1.filter (fun t=>w t.1),(S.readL (S.splitL (za s)) 1).2):=by
 unfold S.readX;rw[q15]
theorem zsy{s:Bq}(h:(S.readL (S.splitL (za s)) 1).2.2=0):S.readG s=((S.readL (S.splitL (za s)) 1).1.filter S.isTok,(S.readL (S.splitL (za s)) 1).1.filter S.isNote,(0,0),0):=by
 unfold S.readG S.lexed;rw[xx h]
theorem zjv{s:Bq}(h:¬(S.readL (S.splitL (za s)) 1).2.2=0):S.readG s=([],[],(S.readL (S.splitL (za s)) 1).2.1,(S.readL (S.splitL (za s)) 1).2.2):=by
 unfold S.readG S.lexed;rw[xr h]
theorem zzn{s:Bq}(h:20000<s.size):S.tokens s=([],[],(0,0),3):=by
 unfold S.tokens;rw[xx h]
theorem zql{s:Bq}(h:¬20000<s.size)(h1:(S.readG s).2.2.2=0)(h2:6000<(S.readG s).1.length):S.tokens s=([],[],(0,0),3):=by
 unfold S.tokens;rw[xr h,xx ⟨h1,h2⟩]
theorem q8i{s:Bq}(h:¬20000<s.size)(h1:¬((S.readG s).2.2.2=0/\6000<(S.readG s).1.length)):S.tokens s=S.readG s:=by
 unfold S.tokens;rw[xr h,xr h1]
theorem zwg(lf:Nat)(s:Bq)(hs:S.fits s=i7):qk5 lf s=iz ((S.tokens s).1,(S.tokens s).2.2.1,(S.tokens s).2.2.2,()):=by
 have e:=zjr hs;have g:we 1=(1:Int):=rfl;have f:(fun t:zb=>S.wTok t.1)=S.isTok:=rfl;simp only[qk5,qzg,bd,yq,hs,Bool.and_true,xa,g,e,zfw,f];by_cases c:20000<s.size
 ·rw[xt c,xa,zzn c];rfl
 ·rw[xq c,xe];by_cases a:(S.readL (S.splitL (za s)) 1).2.2=0
  ·have b:=zsy a;rw[qep (show (S.readL (S.splitL (za s)) 1).2.2=we 0 from a),xa];by_cases d:6000<((S.readL (S.splitL (za s)) 1).1.filter S.isTok).length
   ·rw[xt d,xa,zql c (by rw[b]) (by rw[b];exact d)];rfl
   ·rw[xq d,xe,q8i c (by rw[b];exact fun h=>d h.2),b,qu3 _ _ a,a]
  ·have b:=zjv a;rw[sg (show ¬(S.readL (S.splitL (za s)) 1).2.2=we 0 from a),xe,q8i c (by rw[b];exact fun h=>a h.1),b,qjt _ _ a];rfl
theorem qly:Con oa zwv qor:=zmo ⟨znu,trivial⟩ fun x y c h=>⟨0,by
 obtain⟨b,a⟩:=vn (show cond (S.fits x.1) (iz ((S.tokens x.1).1,(S.tokens x.1).2.2.1,(S.tokens x.1).2.2.2,())) i6=iz y from h);exact(zwg 0 x.1 b).trans (xy iz a)⟩
theorem zxu{α:Type}{a b:Lz α}{i:Nat}{v w:α}(ha:a[i]?=iz v)(hb:b[i]?=iz w)(h:a.take i=b.take i):(a.take (i+1)=b.take (i+1))↔v=w:=by
 rw[jbr,jbr,ha,hb,h];simp
theorem zfb{l:Lz zb}(h:l.length*40<=140737488355328):l.length<LF:=by unfold LF;omega
def hs0:Bq:=(Go.Jx.S.lit [97,32,111,114,32,98,32,97,110,100,32,110,111,116,32,99,32,61,32,45,32,50])
def ht0:Lz zb:=[(1,(Go.Jx.S.lit [97]),1,1),(3,(Go.Jx.S.lit [111,114]),1,3),(1,(Go.Jx.S.lit [98]),1,6),(3,(Go.Jx.S.lit [97,110,100]),1,8),(3,(Go.Jx.S.lit [110,111,116]),1,12),(1,(Go.Jx.S.lit [99]),1,16),(5,(Go.Jx.S.lit [61]),1,18),(5,(Go.Jx.S.lit [45]),1,20),(4,(Go.Jx.S.lit [50]),1,22)]
theorem zgi:S.tokens hs0=(ht0,[],(0,0),0):=by kernel_rfl
theorem zjc:S.fits hs0=i7:=by kernel_rfl
def hs1:Bq:=(Go.Jx.S.lit [97,32,105,109,112,108,105,101,115,32,98,32,105,109,112,108,105,101,115,32,99])
def ht1:Lz zb:=[(1,(Go.Jx.S.lit [97]),1,1),(3,(Go.Jx.S.lit [105,109,112,108,105,101,115]),1,3),(1,(Go.Jx.S.lit [98]),1,11),(3,(Go.Jx.S.lit [105,109,112,108,105,101,115]),1,13),(1,(Go.Jx.S.lit [99]),1,21)]
theorem zo9:S.tokens hs1=(ht1,[],(0,0),0):=by kernel_rfl
theorem zd7:S.fits hs1=i7:=by kernel_rfl
def hs2:Bq:=(Go.Jx.S.lit [97,32,61,32,98,32,61,32,99])
def ht2:Lz zb:=[(1,(Go.Jx.S.lit [97]),1,1),(5,(Go.Jx.S.lit [61]),1,3),(1,(Go.Jx.S.lit [98]),1,5),(5,(Go.Jx.S.lit [61]),1,7),(1,(Go.Jx.S.lit [99]),1,9)]
theorem zmn:S.tokens hs2=(ht2,[],(0,0),0):=by kernel_rfl
theorem zxs:S.fits hs2=i7:=by kernel_rfl
def hs3:Bq:=(Go.Jx.S.lit [97,32,43])
def ht3:Lz zb:=[(1,(Go.Jx.S.lit [97]),1,1),(5,(Go.Jx.S.lit [43]),1,3)]
theorem zyo:S.tokens hs3=(ht3,[],(0,0),0):=by kernel_rfl
theorem ze9:S.fits hs3=i7:=by kernel_rfl
def hs4:Bq:=(Go.Jx.S.lit [120,32,58,61,32,49,59,32,50,59])
def ht4:Lz zb:=[(1,(Go.Jx.S.lit [120]),1,1),(5,(Go.Jx.S.lit [58,61]),1,3),(4,(Go.Jx.S.lit [49]),1,6),(5,(Go.Jx.S.lit [59]),1,7),(4,(Go.Jx.S.lit [50]),1,9),(5,(Go.Jx.S.lit [59]),1,10)]
theorem zv7:S.tokens hs4=(ht4,[],(0,0),0):=by kernel_rfl
theorem zvh:S.fits hs4=i7:=by kernel_rfl
def hs5:Bq:=(Go.Jx.S.lit [114,97,105,115,101,32,49,48,48,59])
def ht5:Lz zb:=[(3,(Go.Jx.S.lit [114,97,105,115,101]),1,1),(4,(Go.Jx.S.lit [49,48,48]),1,7),(5,(Go.Jx.S.lit [59]),1,10)]
theorem za9:S.tokens hs5=(ht5,[],(0,0),0):=by kernel_rfl
theorem zei:S.fits hs5=i7:=by kernel_rfl
def hs6:Bq:=(Go.Jx.S.lit [99,108,97,115,115,32,65,32,102,101,97,116,117,114,101,32,123,32,65,78,89,32,125,32,120,32,58,32,73,78,84,69,71,69,82,32,59,32,101,110,100])
def ht6:Lz zb:=[(3,(Go.Jx.S.lit [99,108,97,115,115]),1,1),(2,(Go.Jx.S.lit [65]),1,7),(3,(Go.Jx.S.lit [102,101,97,116,117,114,101]),1,9),(5,(Go.Jx.S.lit [123]),1,17),(2,(Go.Jx.S.lit [65,78,89]),1,19),(5,(Go.Jx.S.lit [125]),1,23),(1,(Go.Jx.S.lit [120]),1,25),(5,(Go.Jx.S.lit [58]),1,27),(2,(Go.Jx.S.lit [73,78,84,69,71,69,82]),1,29),(5,(Go.Jx.S.lit [59]),1,37),(3,(Go.Jx.S.lit [101,110,100]),1,39)]
theorem zpz:S.tokens hs6=(ht6,[],(0,0),0):=by kernel_rfl
theorem zct:S.fits hs6=i7:=by kernel_rfl
def hs7:Bq:=(Go.Jx.S.lit [99,108,97,115,115,32,65,78,89,32,101,110,100])
def ht7:Lz zb:=[(3,(Go.Jx.S.lit [99,108,97,115,115]),1,1),(2,(Go.Jx.S.lit [65,78,89]),1,7),(3,(Go.Jx.S.lit [101,110,100]),1,11)]
theorem zwz:S.tokens hs7=(ht7,[],(0,0),0):=by kernel_rfl
theorem zhd:S.fits hs7=i7:=by kernel_rfl
def hs8:Bq:=(Go.Jx.S.lit [99,108,97,115,115,32,65,32,120,32,101,110,100,32,99,108,97,115,115,32,66,32,101,110,100,32,100,101,102,101,114,114,101,100,32,99,108,97,115,115,32,67])
def ht8:Lz zb:=[(3,(Go.Jx.S.lit [99,108,97,115,115]),1,1),(2,(Go.Jx.S.lit [65]),1,7),(1,(Go.Jx.S.lit [120]),1,9),(3,(Go.Jx.S.lit [101,110,100]),1,11),(3,(Go.Jx.S.lit [99,108,97,115,115]),1,15),(2,(Go.Jx.S.lit [66]),1,21),(3,(Go.Jx.S.lit [101,110,100]),1,23),(3,(Go.Jx.S.lit [100,101,102,101,114,114,101,100]),1,27),(3,(Go.Jx.S.lit [99,108,97,115,115]),1,36),(2,(Go.Jx.S.lit [67]),1,42)]
theorem zw3:S.tokens hs8=(ht8,[],(0,0),0):=by kernel_rfl
theorem zcr:S.fits hs8=i7:=by kernel_rfl
def htab(x:Bq):Oq (Lz zb × zf × Int × Unit):=cond (keqS x hs0) (iz (ht0,(0,0),0,())) (cond (keqS x hs1) (iz (ht1,(0,0),0,())) (cond (keqS x hs2) (iz (ht2,(0,0),0,())) (cond (keqS x hs3) (iz (ht3,(0,0),0,())) (cond (keqS x hs4) (iz (ht4,(0,0),0,())) (cond (keqS x hs5) (iz (ht5,(0,0),0,())) (cond (keqS x hs6) (iz (ht6,(0,0),0,())) (cond (keqS x hs7) (iz (ht7,(0,0),0,())) (cond (keqS x hs8) (iz (ht8,(0,0),0,())) i6))))))))
def qyd:Sm:=⟨[.str],[(eb,.list zd),(eb,jl),(eb,.int .i64)],fun x=>htab x.1⟩
theorem ct{x s:Bq}{t:Lz zb}{y:Lz zb × zf × Int × Unit}(ht:S.tokens s=(t,[],(0,0),0))(hf:S.fits s=i7){z:Oq (Lz zb × zf × Int × Unit)}(h:cond (keqS x s) (iz (t,(0,0),0,())) z=iz y):(cond (S.fits x) (iz ((S.tokens x).1,(S.tokens x).2.2.1,(S.tokens x).2.2.2,())) i6=iz y)\/z=iz y:=by
 cases a:keqS x s with
 | false=>rw[a] at h;exact .inr h
 | true =>
  rw[a] at h;have e:x=s:=xu a
  grind
theorem zn0:Con oa 31 qyd:=⟨qly.callable,fun M w x a y hy=>qly.calls M w x a y (by
 have hy:htab x.1=iz y:=hy;unfold htab at hy;rcases ct zgi zjc hy with h|hy
 ·exact h
 rcases ct zo9 zd7 hy with h|hy
 ·exact h
 rcases ct zmn zxs hy with h|hy
 ·exact h
 rcases ct zyo ze9 hy with h|hy
 ·exact h
 rcases ct zv7 zvh hy with h|hy
 ·exact h
 rcases ct za9 zei hy with h|hy
 ·exact h
 rcases ct zpz zct hy with h|hy
 ·exact h
 rcases ct zwz zhd hy with h|hy
 ·exact h
 rcases ct zw3 zcr hy with h|hy
 ·exact h
 cases hy)⟩
end Go.Proofs.YtaepcfidpcoofaaGreatDoor
end

noncomputable section
namespace Go.Jx
open Go Go.Sx Go.RowKit
universe u

def panV(pt:Nat)(pc:Lz TC)(x:ElA pc):IV:=.iface pt (.agg (argV pc x))
def rdA:(cs:Lz TC)->Lz IV->Oq (ElA cs)
 | [],[]=>iz ()
 | .int k::cs,.int k' n::vs=>cond (kbeq k k') (match rdA cs vs with
  | some x=>iz (n,x)
  | none=>i6) i6
 | .bool::cs,.bool b::vs=>match rdA cs vs with
  | some x=>iz (b,x)
  | none=>i6
 | .str::cs,.str s::vs=>match rdA cs vs with
  | some x=>iz (s,x)
  | none=>i6
 | _,_=>i6
theorem qj2:∀(cs:Lz TC) {vs:Lz IV} {x:ElA cs},rdA cs vs=iz x->vs=argV cs x/\vs.all tw=i7
 | [],vs,x,h=>by
  cases vs with
  | nil=>exact⟨rfl,rfl⟩
  | cons v vs=>simp [rdA] at h
 | .int k::cs,vs,x,h=>by
  cases vs with
  | nil=>simp [rdA] at h
  | cons v vs =>
  cases v<;>try (simp [rdA] at h;done)
  rename_i k' n;simp only[rdA] at h;cases hk:kbeq k k' with
  | false=>rw[hk] at h;cases h
  | true =>
  rw[hk,xa] at h;split at h<;>cases h;rename_i y hy;obtain⟨e1,e2⟩:=qj2 cs hy;rw[<- c9 hk];exact⟨by show _=IV.int k n::argV cs y;rw[e1],by simp only[gu,e2,tw,dx]⟩
 | .bool::cs,vs,x,h=>by
  cases vs with
  | nil=>simp [rdA] at h
  | cons v vs =>
  cases v<;>try (simp [rdA] at h;done)
  rename_i b;simp only[rdA] at h;split at h<;>cases h;rename_i y hy;obtain⟨e1,e2⟩:=qj2 cs hy;exact⟨by show _=IV.bool b::argV cs y;rw[e1],by simp only[gu,e2,tw,dx]⟩
 | .str::cs,vs,x,h=>by
  cases vs with
  | nil=>simp [rdA] at h
  | cons v vs =>
  cases v<;>try (simp [rdA] at h;done)
  rename_i s;simp only[rdA] at h;split at h<;>cases h;rename_i y hy;obtain⟨e1,e2⟩:=qj2 cs hy;exact⟨by show _=IV.str s::argV cs y;rw[e1],by simp only[gu,e2,tw,dx]⟩
 | .list c::cs,vs,x,h=>by cases vs with
  | nil=>simp [rdA] at h
  | cons v vs=>cases v<;>simp [rdA] at h
 | .rl k::cs,vs,x,h=>by cases vs with
  | nil=>simp [rdA] at h
  | cons v vs=>cases v<;>simp [rdA] at h
 | .two a b::cs,vs,x,h=>by cases vs with
  | nil=>simp [rdA] at h
  | cons v vs=>cases v<;>simp [rdA] at h
def qsp(pt:Nat)(pc:Lz TC):IV->Oq (ElA pc)
 | .iface t (.agg cs)=>cond (od t pt) (rdA pc cs) i6
 | _=>i6
theorem zy6{pt:Nat}{pc:Lz TC}{v:IV}{x:ElA pc}(h:qsp pt pc v=iz x):v=panV pt pc x/\jg v=i7:=by
 unfold qsp at h;split at h<;>try cases h
 rename_i t d;cases a:od t pt with
 | false=>rw[a] at h;cases h
 | true =>
 rw[a,xa] at h;obtain⟨c,b⟩:=qj2 pc h;unfold panV;rw[<- c,xg a];exact⟨rfl,b⟩
structure SmP where
 ps:List PK
 rts:List (Bool × TC)
 pt:Nat
 pc:List TC
 f:ElP ps->Option (ElA pc ⊕ (ElR rts × ElP (refs ps)))
def SmP.r(s:SmP):SmR:=⟨s.ps,s.rts,fun x=>match s.f x with
 | some (.inr y)=>iz y
 | _=>i6⟩
def full(n:Nat):Nat:=2 ^ n-1
theorem zg9{n id:Nat}(h:id<n):(full n).testBit id=i7:=by unfold full;rw[jaw];simpa using h
def PanB(E:Env)(S:IS)(v:IV):aw->oh->Prop:=fun e w'=>∃u,e=.panicked [{ v:=u,recovered:=eb }]/\VR (E.at_ w') v u/\jg v=i7/\Post T0 E S (E.at_ w') (kill (full S.next) S)
def RetO(s:SmP)(E:Env)(x:ElP s.ps)(o:ElA s.pc ⊕ (ElR s.rts × ElP (refs s.ps))):aw->oh->Prop:=match o with
 | .inl p=>PanB E (Sc s.ps x) (panV s.pt s.pc p)
 | .inr (y,z)=>RetB (mP s.ps) T0 E (Sc s.ps x) ⟨vB s.r (mP s.ps) y,ScB s.r y z,0,0⟩
structure ConP (P:om) (f:Nat) (s:SmP):Prop where
 callable:zg P f
 calls:∀(E:Env) (x:ElP s.ps) (us:List oc) (o:ElA s.pc ⊕ (ElR s.rts × ElP (refs s.ps))),s.f x=iz o->Pre T0 E (Sc s.ps x)->VRs E (ze s.ps idN 0 x) us ->
  mf ox 0 P f us.toArray E.w (RetO s E x o)
theorem ConP.r{P:om}{f:Nat}{s:SmP}(h:ConP P f s):ConR P f s.r:=by
 refine⟨h.callable,fun E x b y z a p c=>?_⟩;have a:(match s.f x with|some (.inr y)=>iz y|_=>i6)=iz (y,z):=a;split at a<;>cases a;rename_i d;exact h.calls E x b _ d p c

def cpP(s:SmP)(vs:Lz IV)(S:IS):Oq Res :=
 match rdP s.ps S vs with
 | none=>i6
 | some (x0,rows,subs,S1,w)=>cond (ndB (rows++subs)) (match fiP s.ps rows subs S1 x0 with
  | none=>i6
  | some x=>match s.f x with
   | none=>i6
   | some (.inr (y,z))=>iz ⟨vB s.r S1.next y,jd s.r S1.next rows subs y z S1,0,(w ||| qn (rows++subs)) ||| cond (oo 0 rows.length) 0 (2 ^ S1.next)⟩
   | some (.inl q)=>cond (jg (panV s.pt s.pc q)) (iz ⟨.pan (panV s.pt s.pc q),kill (qn (rows++subs)) S1,0,(w ||| qn (rows++subs)) ||| cond (oo 0 rows.length) 0 (2 ^ S1.next)⟩) i6) i6
def cpPK{R:Type}(s:SmP)(vs:Lz IV)(S:IS)(kk:Res->Oq R):Oq R :=
 match rdP s.ps S vs with
 | none=>i6
 | some (x0,rows,subs,S1,w)=>cond (ndB (rows++subs)) (match fiP s.ps rows subs S1 x0 with
  | none=>i6
  | some x=>match s.f x with
   | none=>i6
   | some o=>match o with
    | .inr (y,z)=>kk ⟨vB s.r S1.next y,jd s.r S1.next rows subs y z S1,0,(w ||| qn (rows++subs)) ||| cond (oo 0 rows.length) 0 (2 ^ S1.next)⟩
    | .inl q=>cond (jg (panV s.pt s.pc q)) (kk ⟨.pan (panV s.pt s.pc q),kill (qn (rows++subs)) S1,0,(w ||| qn (rows++subs)) ||| cond (oo 0 rows.length) 0 (2 ^ S1.next)⟩) i6) i6
theorem zms{R:Type}(s:SmP)(vs:Lz IV)(S:IS)(kk:Res->Oq R):cpPK s vs S kk=ob (cpP s vs S) kk:=by
 simp only[cpPK,cpP];cases rdP s.ps S vs with
 | none=>rfl
 | some q =>
  obtain⟨c,b,a,d,w⟩:=q;simp only[qp];cases fiP s.ps b a d c with
  | none=>rfl
  | some x =>
   simp only;cases s.f x with
   | none=>rfl
   | some o =>
    cases o with
    | inr q=>rfl
    | inl q=>simp only[qp];rfl
def hxP(s:SmP):Hx:=⟨fun _ vs S=>cpP s vs S,fun _ _ vs S kk=>cpPK s vs S kk,fun _ _ _ _ vs S kk=>zms s vs S kk⟩
section
variable {P : om} {T : TW} {E : Env} {S : IS}
theorem q6h{W:Nat->Prop}{S:IS}{m:Nat}{w':oh}(p:Pre T E S)(hW:∀id,W id->T.w id)(hm:∀id,W id->E.A id->m.testBit id=i7)(h1:w'.os=E.w.os)(h2:w'.tape=E.w.tape)(h3:w'.output=E.w.output)(h4:E.w.heap.size<=w'.heap.size)
  (h5:∀b,b<E.w.heap.size->(∀id,W id->E.A id->Live E S.H id->E.ρ id≠b)->w'.heap[b]?=E.w.heap[b]?):Post T E S (E.at_ w') (kill m S)/\Fresh E S (E.at_ w') :=
 kill_post (E:=E.at_ w') (H':=fun _=>iz .dead) p hW hm ⟨h1,h2,h3,h4,h5,fun id h=>⟨h,rfl,rfl,rfl,rfl⟩,fun id h k=>absurd h k,(fun id _ _ h=>by obtain⟨_,o,h,k⟩:=h;cases h;cases k),fun b h=>Or.inl h,fun b h _=>Or.inl h⟩
theorem zwt{ps:Lz PK}{vs:Lz IV}{x0 x:ElP ps}{rows subs:Lz Nat}{S1:IS}{w:Nat}{us:Lz oc}(hrd:rdP ps S vs=iz (x0,rows,subs,S1,w))(hb1:ndB (rows++subs)=i7)(hfi:fiP ps rows subs S1 x0=iz x)(p:Pre T E S)(hwr:tin T.w (w ||| qn (rows++subs)))(hv:VRs E vs us) :
  ∃E1,E1.w=E.w/\Post T E S E1 S1/\Fresh E S E1/\Pre T0 (renE 0 (rows++subs) E1) (Sc ps x)/\VRs (renE 0 (rows++subs) E1) (ze ps idN 0 x) us/\(∀k,k<(rows++subs).length->Live (renE 0 (rows++subs) E1) (Sc ps x).H k->Live E1 S1.H (ol 0 (rows++subs) k))/\(∀id∈rows++subs,T.w id/\E1.A id):=by
 obtain⟨ζ,ε⟩:=zp hwr;obtain⟨E1,θ,q1,η,Z,J,A2,χ,φ,N⟩:=qdm ps hrd p ζ hv;have G:=q1.pre p;obtain⟨_,υ,τ⟩:=vq ps hfi J;have D:=qc6 hb1;have y:=qmu ε;generalize z:rows++subs=q at D y;have M:q.length=mP ps+nP ps:=by rw[<- z,xp,Z,J]
 have t:Nums (ol 0 q) 0 q:=fun j id P=>by
  rw[x6];unfold ol;rw[xr (by omega),rz,xn,P];rfl
 have f:Nums (ol 0 q) 0 rows:=by rw[<- z] at t ⊢;exact t.fst
 have C:Nums (ol 0 q) (mP ps) subs:=by
  have:=t;rw[<- z] at this;have:=this.snd
  grind
 have R:∀id∈rows,T.r id:=fun id hid=>T.sub _ (y id (by rw[<- z];exact ge _ hid));have n:=qik hfi J G R (φ _ _ C (.inr f));have α:∀k,k<mP ps->rows[k]?=iz (ol 0 q k):=fun k d=>by
  have m:k<rows.length:=by omega
  rw[xc m,<- f k _ (xc m),x6]
 have K:∀k,mP ps<=k->k<q.length->subs[k-mP ps]?=iz (ol 0 q k):=fun k m V=>by
  have U:k-mP ps<subs.length:=by omega
  rw[xc U,<- C _ _ (xc U),jb4 m]
 have s:∀k,k<mP ps->∃r i v,(∀ι,(zr ps ι (mP ps) x)[k]?=iz (objK r ι i v))/\mP ps<=i/\i+nK r<=q.length/\E1.A (ol 0 q k)/\((objK r (ol 0 q) i v).blk=i7->E1.hb (ol 0 q k)=i7)/\OR E1 (ol 0 q k) (objK r (ol 0 q) i v)/\((objK r (ol 0 q) i v).live=i7->∃o0,S1.H (ol 0 q k)=iz o0/\o0.live=i7)/\∀k'∈isK r,k'<mP ps:=fun k d=>by
  have m:k<(zr ps (ol 0 q) (mP ps) x).length:=by rw[qe];exact d
  obtain⟨r,i,v,Y,σ,ξ,X,W⟩:=um ps (ol 0 q) (mP ps) x k _ (xc m);obtain⟨id,i1,i2,i3,ω,ψ⟩:=n k _ (X (ol 0 q))
  grind
 have I:∀id∈q,E1.A id:=fun id hid=>by
  rw[<- z] at hid;rcases p4.1 hid with hid|hid
  ·obtain⟨k,d,rfl⟩:=db.1 hid
   grind
  ·grind
 have c:∀k,k<q.length->js E1 (renE 0 q E1) (ol 0 q k) k:=fun k d I=>⟨⟨by omega,I⟩,rfl,rfl,rfl,rfl⟩;have l:∀k o,k<q.length->E1.A (ol 0 q k)->(Sc ps x).H k=iz o->ObjTo E1 S1 (renE 0 q E1) (ol 0 q k) k o:=fun k o d g e=>by
  unfold Sc at e;rw[sw] at e;by_cases F:k<mP ps
  ·rw[pa (by rw[qe];exact F)] at e;obtain⟨r,i,v,Y,σ,ξ,X,W,ν,μ,κ⟩:=s k F;rw[Y idN] at e;cases e;exact⟨OR.objK_to (E:=E1) (E':=renE 0 q E1) (fun _ h=>h) rfl g (c k d) (fun j a b=>c j (by omega)) (fun j P=>c j (by have:=κ j P;omega)) ν,fun O=>μ (qfp.trans O),fun γ=>W (qbe.trans γ)⟩
  ·rw[pg (by rw[qe];omega),qe] at e;have β:=qkp _ _ _ (p7 e);rw[τ,K k (by omega) d] at e;have hid:=(q8 d).1;exact⟨OR.dat_to (E:=E1) (E':=renE 0 q E1) (fun _ h=>h) rfl g (c k d) β (G.st.objs _ (T.sub _ (y _ hid)) g _ e),fun O=>⟨_,e,O⟩,fun Q=>G.st.blk _ (T.sub _ (y _ hid)) g _ e Q⟩
 have B:Pre T0 (renE 0 q E1) (Sc ps x):=Pre.re G D (fun id h=>T.sub _ (y id h)) (by rw[qau,M]) l;have u:VRs (renE 0 q E1) (ze ps idN 0 x) us:=argsP_env (E:=E1) (E':=renE 0 q E1) (ρ:=ol 0 q) (fun _ h=>h) rfl ps N (dk (x6 _)) (fun j a=>c j (by omega)) (by rw[υ];exact χ _ _ f (.inr f));have L:∀k,k<q.length->Live (renE 0 q E1) (Sc ps x).H k->Live E1 S1.H (ol 0 q k):=fun k d ⟨δ,o,m,V⟩=>⟨δ,(l k o d (I _ (q8 d).1) m).live V⟩;exact⟨E1,θ,q1,η,B,u,L,fun id h=>⟨y id h,I id h⟩⟩
theorem zbs{f:Nat}{s:SmP}(hc:ConP P f s){vs:Lz IV}{x0 x:ElP s.ps}{rows subs:Lz Nat}{S1:IS}{w:Nat}{us:Lz oc}{q:ElA s.pc}{r:Res}(hrd:rdP s.ps S vs=iz (x0,rows,subs,S1,w))(hb1:ndB (rows++subs)=i7)(hfi:fiP s.ps rows subs S1 x0=iz x)(hf:s.f x=iz (.inl q))
  (hr:r.S=kill (qn (rows++subs)) S1) (p:Pre T E S) (hwr:tin T.w (w ||| qn (rows++subs))) (hv:VRs E vs us):mf ox 0 P f us.toArray E.w (RetP T E S r (panV s.pt s.pc q)):=by
 obtain⟨t,I,q1,o,g,c,k,D⟩:=zwt hrd hb1 hfi p hwr hv;have z:=q1.pre p;have a:=hc.calls _ x us _ hf g c;rw[show (renE 0 (rows++subs) t).w=E.w from I] at a;refine a.mono fun e w' G=>?_;obtain⟨u,rfl,C,A,B⟩:=G;have d:=B.stp;obtain⟨y,v⟩:=q6h (W:=fun i=>i∈rows++subs) (m:=qn (rows++subs)) (w':=w') z (fun i h=>(D i h).1) (fun i h _=>qin h) d.os d.tape d.output d.size (fun b F h=>by
  refine d.same b F fun j _ n H e=>?_;have l:j<(rows++subs).length:=by have:=n.1;omega
  have:=k j l H;exact h (ol 0 (rows++subs) j) (q8 l).1 n.2 this e)
 exact⟨u,t.at_ w',rfl,rfl,qeo A C,by rw[hr];exact Post.trans p q1 o y,by exact o.trans v q1.le⟩
theorem z0f{f:Nat}{s:SmP}(hc:ConP P f s){vs:Lz IV}{r:Res}(h:cpP s vs S=iz r){us:Lz oc}(p:Pre T E S)(hwr:tin T.w r.wr)(hv:VRs E vs us) :
  zg P f/\mf ox 0 P f us.toArray E.w (RetX T E S r):=by
 refine⟨hc.callable,?_⟩;have l:=h;unfold cpP at h;split at h
 ·grind
 rename_i j b a k w d;cases c:ndB (b++a) with
 | false=>rw[c] at h;cases h
 | true =>
 rw[c,xa] at h;split at h
 ·grind
 rename_i x g;split at h
 ·grind
 ·rename_i y z i;refine(q0g (s:=s.r) hc.r (r:=r) ?_ p hwr hv).2.mono fun _ _=>RetX.of;unfold exR;rw[show rdP s.r.ps S vs=iz (j,b,a,k,w) from d];simp only[c,xa];rw[show fiP s.r.ps b a k j=iz x from g];simp only;rw[show s.r.f x=iz (y,z) from by show (match s.f x with|some (.inr y)=>iz y|_=>i6)=_;rw[i]]
  grind
 ·rename_i q i;cases e:jg (panV s.pt s.pc q) with
  | false=>rw[e] at h;cases h
  | true =>
  rw[e,xa] at h;cases h;exact(zbs hc d c g i rfl p (zp hwr).1 hv).mono fun _ _ h=>h
theorem zvx{s:SmP}{vs:Lz IV}{S:IS}:FrO S (cpP s vs S):=fun r h=>by
 unfold cpP at h;split at h
 ·grind
 rename_i o a b c w e;cases g:ndB (a++b) with
 | false=>rw[g] at h;cases h
 | true =>
 rw[g,xa] at h;split at h
 ·grind
 have j:=qeh _ e;split at h
 ·grind
 ·rename_i y z m;cases h;have f:=(qk9 b c).trans ((qjo a (zr (refs s.ps) (nuB a (mP s.ps) c.next) (mP s.ps) z) _).trans (qfc (newO s.r y z) _ 0));have i:=j.trans f;rw[jbq,Nat.or_comm (qn b),<- qma] at i;have n:=i.trans (FrX.refl _ (cond (oo 0 a.length) 0 (2 ^ c.next)));exact n
 ·rename_i q m;cases d:jg (panV s.pt s.pc q) with
  | false=>rw[d] at h;cases h
  | true =>
  rw[d,xa] at h;cases h;have f:FrX c (kill (qn (a++b)) c) (qn (a++b)):=⟨by rw[qf6];exact xl _,fun p l k=>by rw[sx,xr (fun h=>by rw[k] at h;cases h.2)]⟩;exact(j.trans f).trans (FrX.refl _ (cond (oo 0 a.length) 0 (2 ^ c.next)))
theorem zyz{s:SmP}{vs:Lz IV}{S:IS}{r:Res}(h:cpP s vs S=iz r)(hw:r.wr=0):False:=by
 unfold cpP at h;split at h
 ·grind
 rename_i i a b f w g;cases e:ndB (a++b) with
 | false=>rw[e] at h;cases h
 | true =>
 rw[e,xa] at h;split at h
 ·grind
 have c:(w ||| qn (a++b)) ||| cond (oo 0 a.length) 0 (2 ^ f.next)=0->False:=fun hw=>by
  have k:qn (a++b)=0:=(or_zero (or_zero hw).1).2;cases a with
  | nil =>
   have j:2 ^ f.next=0:=(or_zero hw).2
   grind
  | cons id a =>
   have:=qin (l:=id::a++b) (id:=id) (by simp)
   grind
 split at h
 ·grind
 ·cases h;exact c hw
 ·cases d:jg _ with
  | false=>rw[d] at h;cases h
  | true=>rw[d,xa] at h;cases h;exact c hw
theorem z7{f:Nat}{s:SmP}(hc:ConP P f s):HxOK P f (hxP s).f :=
 ⟨fun c _ _ _ b S r h T E e p _ a d=>z0f hc h p a d,fun c _ b S=>zvx,fun c _ b S r h a _=>(zyz h a).elim⟩
end

def isPan:IV->Bool
 | .pan _=>i7
 | _=>eb
def panO(h:Hx):Hx:=⟨fun cl vs S=>ob (h.f cl vs S) (fun r=>cond (isPan r.v) (iz r) i6),fun clP R vs S kk=>h.k clP R vs S (fun r=>cond (isPan r.v) (kk r) i6),fun cl clP hcl R vs S kk=>by
 rw[h.eq cl clP hcl];cases h.f cl vs S with
 | none=>rfl
 | some r=>cases hp:isPan r.v<;>simp only[ob,hp,xa,xe]⟩
theorem qt4{h:Hx}{cl:Cl}{vs:Lz IV}{S:IS}{r:Res}(e:(panO h).f cl vs S=iz r):h.f cl vs S=iz r:=by
 have e:ob (h.f cl vs S) (fun r=>cond (isPan r.v) (iz r) i6)=iz r:=e;cases a:h.f cl vs S with
 | none=>rw[a] at e;cases e
 | some r' =>
  rw[a] at e;cases b:isPan r'.v<;>simp only[ob,b,xa,xe] at e
  ·grind
  ·grind
theorem qfe{P:om}{f:Nat}{h:Hx}(k:HxOK P f h.f):HxOK P f (panO h).f :=
 ⟨fun g a b c d S r e=>k.fn g a b c d S r (qt4 e),fun g a d S r e=>k.fr g a d S r (qt4 e),fun g a d S r e=>k.calm g a d S r (qt4 e)⟩

def zq2{α β:Type}:Oq β->Oq (α ⊕ β)
 | none=>i6
 | some b=>iz (.inr b)
def qd(tt:Nat->Oq TI)(fi:FI)(s:SmP)(r:CRes):Oq (ElA s.pc ⊕ (ElR s.rts × ElP (refs s.ps))):=match r.e with
 | .pan q=>match ul r.ds r.S with
  | none=>i6
  | some _=>match qsp s.pt s.pc q with
   | none=>i6
   | some x=>iz (.inl x)
 | _=>zq2 (z6 tt fi s.r r)
section
variable {P : om} {tt : Nat -> Oq TI} {ft : Nat -> Oq FI}
theorem zn5{fi:FI}{f:Nat}{nm:Nat->Oq Nm}{cl:Cl}{lf:Nat}{s:SmP}{x:ElP s.ps}{o:ElA s.pc ⊕ (ElR s.rts × ElP (refs s.ps))}{r1:CRes}(hm:P.follows .mixedOrders=i7)(htt:TT P tt)
  (hfi:∃fn,P.funcs[f]?=iz fn/\fn.body=iz fi.body/\fn.ntmps=fi.nt/\fn.results=fi.res.toArray/\(fn.name == "runtime.NumGoroutine") = eb/\qi fi.body=i7) (hcl:ClOK P cl) (hfr:ClFr cl)
  (hb:og (ze s.ps idN 0 x).length fi.nt=i7) (hr1:zh P tt nm (mP s.ps) fi.nt cl lf i6 fi.body (zk (ze s.ps idN 0 x) 0 .leaf) (Sc s.ps x) []=iz r1) (h:qd tt fi s r1=iz o)
  {E:Env} {us:Lz oc} (p:Pre T0 E (Sc s.ps x)) (hv:VRs E (ze s.ps idN 0 x) us) :
  mf ox 0 P f us.toArray E.w (RetO s E x o):=by
 unfold qd at h;split at h
 ·rename_i q G;split at h
  ·grind
  rename_i mk j;obtain⟨γ,wr⟩:=mk;split at h<;>cases h;rename_i U i;obtain⟨L,n⟩:=zy6 i;obtain⟨fn,K,J,β,α,Z,I⟩:=hfi;refine jbc K J trivial ?_;refine nk (T:=T0) (E:=E) (S:=Sc s.ps x) (ds:=[]) (round:=i6) (B:=mP s.ps) (fun _ _=>trivial) hm rfl hcl hfr htt fi.body I p (by rw[qau];omega) (fun _ _=>trivial) ?_ (DS.nil (N:=E.w.heap.size) (xl _)) (fun _=>rfl) hr1 (fun _ _=>trivial) (fun _ _=>trivial) ?_
  ·have:=FR.enter (nt:=fi.nt) hv (xk hb)
   grind
  intro O t R d X D l;rw[G] at d;obtain⟨u,rfl,d⟩:=d;have C:=l.pre (fun _ _=>trivial) p;have c:il ox 0 P fn t.tmps (PanB E (Sc s.ps x) q) t.defers (.panicking [{ v:=u,recovered:=eb }]) O.w:=by
   refine qgf (E0:=E) (S0':=Sc s.ps x) (B:=mP s.ps) (by simp) (xl _) (fun _ _=>trivial) C D l j (fun _ _=>trivial) fun M a V g=>?_;obtain⟨A,Q⟩:=q6h (T:=T0) (W:=fun _=>True) (m:=full (Sc s.ps x).next) (w':=M.w) p (fun _ _=>trivial) (fun e _ k=>zg9 (p.bnd e k)) a.os a.tape a.output a.size (fun b hb h=>a.same b hb fun e Y k H=>h e trivial k H);exact⟨u,rfl,qeo n (g _ _ d),n,A⟩
  rw[L] at c;exact c
 ·rename_i F;cases a:z6 tt fi s.r r1 with
  | none=>rw[a] at h;cases h
  | some yz =>
   rw[a] at h;cases h;obtain⟨y,z⟩:=yz;exact qyf (s:=s.r) hm htt hfi hcl hfr hb hr1 a p hv
def atP(P:om)(tt:Nat->Oq TI)(nm:Nat->Oq Nm)(fi:FI)(s:SmP)(clK:ClK (ElA s.pc ⊕ (ElR s.rts × ElP (refs s.ps))))(lf:Nat)(hd:Nat->Bool)(k:Nat)(ns:Lz Nat)(x:NRes):Oq (ElA s.pc ⊕ (ElR s.rts × ElP (refs s.ps))) :=
 atNB P tt nm (mP s.ps) fi.nt fi.body clK lf hd (qd tt fi s) k ns x
variable {nm : Nat -> Oq Nm} {lf : Nat} {st hd : Nat -> Bool} {cl : Cl}
theorem qmb(hz:frzF nm=i7){fi:FI}{s:SmP}{clK:ClK (ElA s.pc ⊕ (ElR s.rts × ElP (refs s.ps)))}(h:ClEq cl clK)(hn:(regs fi.body).Nodup)(hl:okC nm st hd fi.body i6=i7)(k:Nat)(ns ns':Lz Nat)(hd':dn (hd k) ns=iz ns')(x:NRes) :
  atP P tt nm fi s clK lf hd k ns x=qj P tt nm (mP s.ps) fi.nt clK lf st (atP P tt nm fi s clK lf hd) k fi.body [] ns' x (qd tt fi s):=qol (q0z hz) h hn hl k ns ns' hd' x
theorem qo4{fi:FI}{s:SmP}{clK:ClK (ElA s.pc ⊕ (ElR s.rts × ElP (refs s.ps)))}(k:Nat)(ns:Lz Nat)(hd':dn (hd k) ns=i6)(x:NRes):atP P tt nm fi s clK lf hd k ns x=i6:=qsh k ns hd' x
theorem conTP{sml:Lz (Nat × Sm)}{hxl:Lz (Nat × Hx)}{f:Nat}{s:SmP}{fi:FI}{nmf:Nat->Oq Nm}{st hd:Nat->Bool}(n:Nat)(hm:P.follows .mixedOrders=i7)(htt:TT P tt)(hft:FT P ft)(hsm:SmOK P sml)
  (hhx:zv P hxl) (hC:zg P f) (h3:ft f=iz fi) (h4:∀x,og (ze s.ps idN 0 x).length fi.nt=i7) (hn:(regs fi.body).Nodup) (hl:okC nmf st hd fi.body i6=i7)
  (hrun:∀(x:ElP s.ps) (o:ElA s.pc ⊕ (ElR s.rts × ElP (refs s.ps))),WfP s.ps x->s.f x=iz o->∃lf,
   zm P tt nmf (mP s.ps) fi.nt (zn P tt ft (fun _ _=>i6) (smL sml) (hxL hxl) lf n (ElA s.pc ⊕ (ElR s.rts × ElP (refs s.ps)))) lf st
    (atNB P tt nmf (mP s.ps) fi.nt fi.body (zn P tt ft (fun _ _=>i6) (smL sml) (hxL hxl) lf n (ElA s.pc ⊕ (ElR s.rts × ElP (refs s.ps)))) lf hd (qd tt fi s)) fi.body [] (zk (ze s.ps idN 0 x) 0 .leaf) (Sc s.ps x) [] (qd tt fi s)=iz o)
  (hz:frzF nmf=i7:=by rfl):ConP P f s:=by
 have d:mB nmf (mP s.ps)=0:=by unfold mB;rw[hz];rfl
 have c:ExOK P (exH (smL sml) (hxL hxl)):=qsq (u6 hsm) (bp hhx);refine⟨hC,fun E x h o g p e=>?_⟩;obtain⟨lf,b⟩:=hrun x o (qxi p e) g;rw[<- qtw d (qg n _) hn hl,y1 (qg n _)] at b;cases a:zh P tt nmf (mP s.ps) fi.nt (jz P tt ft (fun _ _=>i6) (exH (smL sml) (hxL hxl)) lf n) lf i6 fi.body (zk (ze s.ps idN 0 x) 0 .leaf) (Sc s.ps x) [] with
 | none=>rw[a] at b;cases b
 | some r1 =>
  rw[a] at b;exact zn5 hm htt (hft f fi h3) (qcu hm htt hft c n) (sr c n) (h4 x) a b p e
end
end Go.Jx
end

noncomputable section
namespace Go.Jx
open Go Go.Sx Go.RowKit
end Go.Jx
end

noncomputable section
set_option maxRecDepth 100000
namespace Go.Proofs.YtaepcfidpcoofaaGreatDoor
open Go Go.Sx Go.RowKit Go.Jx
abbrev DPr:Type:=Lz zb × Int × zf × Lz Bq × Unit
abbrev DSl:Type:=Int × Int × Int × Unit
abbrev pkP:PK:=.ref (.box [.dat (.list zd),.dat (.int .i64),.dat jl,.dat (.list .str)])
abbrev pI:Lz TC:=[.int .i64,.int .i64,.int .i64]
class Fuel where
 n:Nat
 h:n<=68719476736
def bs{A B C:Type}(x:Oq (A ⊕ B))(k:B->Oq (A ⊕ C)):Oq (A ⊕ C):=match x with
 | none=>i6
 | some v=>match v with
  | .inl a=>iz (.inl a)
  | .inr b=>k b
def yh(l:Lz zc):Lz RExpr:=fc (α:=zc) (fun v=>RExpr.mk v) l
def qz7(l:Lz RExpr):Lz RExpr:=fc (α:=zc) (fun v=>RExpr.mk v) (fc (β:=zc) (fun v=>match v with|.mk x=>x) l)
def zl(x:zc):zc:=(x.1,x.2.1,x.2.2.1,qz7 x.2.2.2)
class Rec (R:Type) (D:outParam Type) where
 un:R->D
instance:Rec RExpr zc:=⟨fun v=>match v with|.mk x=>x⟩
instance:Rec RType zqn:=⟨fun v=>match v with|.mk x=>x⟩
instance:Rec RStmt zh3:=⟨fun v=>match v with|.mk x=>x⟩
def unL{R D:Type}[Rec R D](l:Lz R):Lz D:=fc (fun v=>Rec.un v) l
theorem qph:∀l:Lz RExpr,qz7 l=l
 | []=>rfl
 | .mk x::l=>xy (fun q=>RExpr.mk x::q) (qph l)
theorem qz(x:zc):zl x=x:=by unfold zl;rw[qph]
theorem qj6(l:Lz RExpr):yh (unL l)=l:=qph l
namespace S
abbrev KT:Type:=Int × Bq
def kt(t:zb):KT:=(t.1,t.2.1)
def tkA(l:Lz KT)(a:Nat):KT:=match l[a]? with
 | some t=>t
 | none=>(0,⟨#[]⟩)
def tkD(l:Lz zb)(a:Nat):zb:=match l[a]? with
 | some t=>t
 | none=>(0,⟨#[]⟩,0,0)
def place(l:Lz zb)(e:zf)(a:Nat):zf:=match l[a]? with
 | some t=>t.2.2
 | none=>e
def kts(l:Lz zb):Lz KT:=l.map kt
abbrev PR(α:Type):Type:=Oq ((Int × Nat) ⊕ (α × Nat))
inductive Pr (α:Type):Type
 | ret (v:α)
 | stop
 | fail (e:Int)
 | peek (k:KT->Pr α)
 | peek2 (k:KT->Pr α)
 | next (k:Pr α)
def Pr.bind{α β:Type}:Pr α->(α->Pr β)->Pr β
 | .ret v,f=>f v
 | .stop,_=>.stop
 | .fail e,_=>.fail e
 | .peek k,f=>.peek fun t=>(k t).bind f
 | .peek2 k,f=>.peek2 fun t=>(k t).bind f
 | .next k,f=>.next (k.bind f)
def run{α:Type}(l:Lz KT):Nat->Pr α->PR α
 | a,.ret v=>iz (.inr (v,a))
 | _,.stop=>i6
 | a,.fail e=>iz (.inl (e,a))
 | a,.peek k=>run l a (k (tkA l a))
 | a,.peek2 k=>run l a (k (tkA l (a+1)))
 | a,.next k=>cond (oo a l.length) (run l (a+1) k) i6
def out{α ρ:Type}(f:α->ρ)(p:DPr)(r:PR α):Oq (DSl ⊕ (ρ × DPr × Unit)):=match r with
 | none=>i6
 | some (.inl (e,a))=>iz (.inl ((place p.1 p.2.2.1 a).1,(place p.1 p.2.2.1 a).2,e,()))
 | some (.inr (v,a))=>iz (.inr (f v,(p.1,we a,p.2.2.1,p.2.2.2.1,()),()))
def ok(p:DPr):Bool:=Bool.not (iltI p.2.1 0)&&Bool.not (iltI (we (oq (α:=zb) p.1)) p.2.1)
def dRun{α ρ:Type}(f:α->ρ)(p:DPr)(t:Pr α):Oq (DSl ⊕ (ρ × DPr × Unit)):=cond (ok p) (out f p (run (kts p.1) p.2.1.toNat t)) i6
def dPeek(p:DPr)(k:Int):Oq ((zb × Unit) × DPr × Unit):=cond (ok p&&Bool.not (iltI k 0)&&Bool.not (iltI 1 k)) (iz ((tkD p.1 (oe p.2.1 k).toNat,()),p,())) i6
def dPlace(p:DPr):Oq ((zf × Unit) × DPr × Unit):=cond (ok p) (iz ((place p.1 p.2.2.1 p.2.1.toNat,()),p,())) i6
def isT(t:KT)(s:Bq):Bool:=keqS t.2 s&&(decide (t.1=3)||decide (t.1=5))
def is(s:Bq):Pr Bool:=.peek fun t=>.ret (isT t s)
def may(s:Bq):Pr Bool:=.peek fun t=>cond (isT t s) (.next (.ret i7)) (.ret eb)
def must(s:Bq):Pr Unit:=.peek fun t=>cond (isT t s) (.next (.ret ())) (.fail 2)
def kind(k:Int):Pr Bq:=.peek fun t=>cond (ieqI t.1 k) (.next (.ret t.2)) (.fail 2)
def class_(no:Lz Bq):Pr Bq:=.peek fun t=>cond (ieqI t.1 2&&has no t.2) (.fail 4) (kind 2)
end S
abbrev un1{α:Type}(v:α):α × Unit:=(v,())
abbrev un0(v:Unit):Unit:=()
def jk:SmR:=⟨[pkP,.dat (.int .i64)],[(eb,zd)],fun x=>S.dPeek x.1 x.2.1⟩
def qeg:SmR:=⟨[pkP],[(eb,jl)],fun x=>S.dPlace x.1⟩
def qjr:Nat->Oq Nm:=fun k=>cond (od k 999999) (iz ⟨[],[],[],[],[],0,0,eb⟩) i6
def qig:Nat->Bool:=fun k=>eb
def qwf:=qig
abbrev qa2:Type:=(zb × Unit) × DPr × Unit
def qn7:Lz (Nat × Sm):=[]
def qpa:Lz (Nat × Hx):=[]
def q4h(R:Type)(lf:Nat):ClK R:=zn oa ttT.get ftT.get (fun _ _=>i6) (smL qn7) (hxL qpa) lf 20 R
def qim(lf:Nat)(x1:(Lz zb))(x2:Int)(x3:zf)(x4:(Lz Bq))(x5:Int):Oq qa2:=(cond (Bool.not (iltI (IntKind.i64.wrap (oe x2 x5)) (we x1.length))) (iz ((((we 0),((S.lit []),((we 0),(we 0)))),()),((x1,(x2,(x3,(x4,())))),()))) (bd (jget x1 (IntKind.i64.wrap (oe x2 x5))) fun v0=>(iz ((v0,()),((x1,(x2,(x3,(x4,())))),())))))
abbrev gz12:Type:=ElP [pkP,.dat (.int .i64)]->Oq qa2
abbrev sz12(g:gz12):SmR:=⟨[pkP,.dat (.int .i64)],[(eb,zd)],g⟩
abbrev Ez12(g:gz12)(J:JT qa2)(lf:Nat)(x1:(Lz zb))(x2:Int)(x3:zf)(x4:(Lz Bq))(x5:Int):=zm oa ttT.get qjr (mP [pkP,.dat (.int .i64)]) tq.nt (q4h _ lf) lf qig J tq.body [] (zk (ze [pkP,.dat (.int .i64)] idN 0 ((x1,x2,x3,x4,()),x5,())) 0 .leaf) (Sc [pkP,.dat (.int .i64)] ((x1,x2,x3,x4,()),x5,())) [] (z6 ttT.get tq (sz12 g))
theorem zt3(g:gz12)(J:JT qa2)(lf:Nat)(x1:(Lz zb))(x2:Int)(x3:zf)(x4:(Lz Bq))(x5:Int):Ez12 g J lf x1 x2 x3 x4 x5=qim lf x1 x2 x3 x4 x5:=by kernel_rfl
theorem zr9:(regs tq.body).Nodup:=by decide +kernel
theorem zm7:okC qjr qig qwf tq.body i6=i7:=by kernel_rfl
def Az12(g:gz12)(lf:Nat):JT qa2:=atQ oa ttT.get qjr tq (sz12 g) (q4h _ lf) lf qwf
def Fz12(lf:Nat)(x1:(Lz zb))(x2:Int)(x3:zf)(x4:(Lz Bq))(x5:Int):Oq qa2:=qim lf x1 x2 x3 x4 x5
theorem zpl(g:gz12)(lf:Nat)(x1:(Lz zb))(x2:Int)(x3:zf)(x4:(Lz Bq))(x5:Int):Ez12 g (Az12 g lf) lf x1 x2 x3 x4 x5=Fz12 lf x1 x2 x3 x4 x5:=by
  refine(zt3 g (Az12 g lf) lf x1 x2 x3 x4 x5).trans ?_;rfl
theorem zza:zv oa qpa:=trivial
theorem zr7{g:gz12}(hsm:SmOK oa qn7)(hg:∀(x:ElP [pkP,.dat (.int .i64)]) (y:qa2),WfP [pkP,.dat (.int .i64)] x->g x=iz y->∃lf,Fz12 lf x.1.1 x.1.2.1 x.1.2.2.1 x.1.2.2.2.1 x.2.1=iz y):ConR oa 139 ⟨[pkP,.dat (.int .i64)],[(eb,zd)],g⟩ :=
 conTR (nmf:=qjr) (sml:=qn7) (hxl:=qpa) (st:=qig) (hd:=qwf) 20 mixed ttOK ftOK hsm zza zos (by kernel_rfl) (fun x=>by kernel_rfl) zr9 zm7 fun x y z b a=>by
  obtain⟨lf,h⟩:=hg x (y,z) b a;exact⟨lf,(zpl g lf x.1.1 x.1.2.1 x.1.2.2.1 x.1.2.2.2.1 x.2.1).trans h⟩
def qju:Nat->Oq Nm:=fun k=>cond (od k 999999) (iz ⟨[],[],[],[],[],0,0,eb⟩) i6
def qjb:Nat->Bool:=fun k=>eb
def qsw:=qjb
abbrev qbd:Type:=(zf × Unit) × DPr × Unit
def qqp:Lz (Nat × Sm):=[]
def qvu:Lz (Nat × Hx):=[]
def q7q(R:Type)(lf:Nat):ClK R:=zn oa ttT.get ftT.get (fun _ _=>i6) (smL qqp) (hxL qvu) lf 20 R
def qia(lf:Nat)(x1:(Lz zb))(x2:Int)(x3:zf)(x4:(Lz Bq)):Oq qbd:=(cond (iltI x2 (we x1.length)) (bd (jget x1 x2) fun v0=>(iz ((v0.2.2,()),((x1,(x2,(x3,(x4,())))),())))) (iz ((x3,()),((x1,(x2,(x3,(x4,())))),()))))
abbrev gz13:Type:=ElP [pkP]->Oq qbd
abbrev sz13(g:gz13):SmR:=⟨[pkP],[(eb,jl)],g⟩
abbrev Ez13(g:gz13)(J:JT qbd)(lf:Nat)(x1:(Lz zb))(x2:Int)(x3:zf)(x4:(Lz Bq)):=zm oa ttT.get qju (mP [pkP]) ta.nt (q7q _ lf) lf qjb J ta.body [] (zk (ze [pkP] idN 0 ((x1,x2,x3,x4,()),())) 0 .leaf) (Sc [pkP] ((x1,x2,x3,x4,()),())) [] (z6 ttT.get ta (sz13 g))
theorem zbd(g:gz13)(J:JT qbd)(lf:Nat)(x1:(Lz zb))(x2:Int)(x3:zf)(x4:(Lz Bq)):Ez13 g J lf x1 x2 x3 x4=qia lf x1 x2 x3 x4:=by kernel_rfl
theorem zll:(regs ta.body).Nodup:=by decide +kernel
theorem zb3:okC qju qjb qsw ta.body i6=i7:=by kernel_rfl
def Az13(g:gz13)(lf:Nat):JT qbd:=atQ oa ttT.get qju ta (sz13 g) (q7q _ lf) lf qsw
def Fz13(lf:Nat)(x1:(Lz zb))(x2:Int)(x3:zf)(x4:(Lz Bq)):Oq qbd:=qia lf x1 x2 x3 x4
theorem zjx(g:gz13)(lf:Nat)(x1:(Lz zb))(x2:Int)(x3:zf)(x4:(Lz Bq)):Ez13 g (Az13 g lf) lf x1 x2 x3 x4=Fz13 lf x1 x2 x3 x4:=by
  refine(zbd g (Az13 g lf) lf x1 x2 x3 x4).trans ?_;rfl
theorem zqg:zv oa qvu:=trivial
theorem za1{g:gz13}(hsm:SmOK oa qqp)(hg:∀(x:ElP [pkP]) (y:qbd),WfP [pkP] x->g x=iz y->∃lf,Fz13 lf x.1.1 x.1.2.1 x.1.2.2.1 x.1.2.2.2.1=iz y):ConR oa 217 ⟨[pkP],[(eb,jl)],g⟩ :=
 conTR (nmf:=qju) (sml:=qqp) (hxl:=qvu) (st:=qjb) (hd:=qsw) 20 mixed ttOK ftOK hsm zqg zc4 (by kernel_rfl) (fun x=>by kernel_rfl) zll zb3 fun x y z b a=>by
  obtain⟨lf,h⟩:=hg x (y,z) b a;exact⟨lf,(zjx g lf x.1.1 x.1.2.1 x.1.2.2.1 x.1.2.2.2.1).trans h⟩
theorem qa6{l:Lz zb}(h:WfE (.list zd) l):l.length<=140737488355328:=by
 have a:=h.1;have:bsz zd=40:=rfl;rw[this] at a;have a:oq (α:=zb) l*40<=140737488355328:=a;show oq (α:=zb) l<=_;omega
theorem qop{l:Lz zb}{at_:Int}{e:zf}{fm:Lz Bq}(h:S.ok (l,at_,e,fm,())=i7):∃a:Nat,at_=we a/\a<=l.length:=by
 unfold S.ok at h;rw[qc,qc] at h;simp only[xf,dt,rj] at h;obtain⟨c,b⟩:=h;have b:¬((l.length:Int)<at_):=b;have c:¬at_<0:=c;refine⟨at_.toNat,?_,?_⟩
 ·show at_=((at_.toNat:Nat):Int);omega
 ·omega
theorem yx{α:Type}{b:Bool}{x:Oq α}{y:α}(h:cond b x i6=iz y):b=i7/\x=iz y:=by
 cases b with
 | false=>cases h
 | true=>exact⟨rfl,h⟩
theorem w64{i:Int}(h1:-9223372036854775808<=i)(h2:i<=9223372036854775807):IntKind.i64.wrap i=i:=by
 simp only[ag,az,m8];simp;omega
theorem iof(a:Nat):(we a).toNat=a:=rfl
theorem zod{l:Lz zb}{e:zf}{fm:Lz Bq}{at_ k:Int}(hl:WfE (.list zd) l)(h:(S.ok (l,at_,e,fm,())&&Bool.not (iltI k 0)&&Bool.not (iltI 1 k))=i7):Fz12 0 l at_ e fm k=iz ((S.tkD l (oe at_ k).toNat,()),(l,at_,e,fm,()),()):=by
 simp only[xf] at h;obtain⟨⟨m,f⟩,d⟩:=h;obtain⟨a,rfl,o⟩:=qop m;have hl:=qa6 hl;have hl:l.length<=140737488355328:=hl;rw[qc] at f d;have f:¬k<0:=by simpa using f
 have d:¬1<k:=by simpa using d
 obtain⟨n,rfl⟩:∃n:Nat,k=n:=⟨k.toNat,by omega⟩;have g:IntKind.i64.wrap (oe (we a) n)=((a+n:Nat):Int):=by
  show IntKind.i64.wrap ((a:Int)+n)=_;rw[w64 (by omega) (by omega)];omega
 show qim 0 l (we a) e fm n=_;unfold qim;rw[g,qc];have j:(oe (we a) n).toNat=a+n:=by show ((a:Int)+n).toNat=_;omega
 rw[j];by_cases b:a+n<l.length
 ·have:decide (((a+n:Nat):Int)<we l.length)=i7:=xt (by show ((a+n:Nat):Int)<(l.length:Int);omega);rw[this];have i:jget l ((a+n:Nat):Int)=iz l[a+n]:=by
   unfold jget;rw[xx (by omega)];have:(((a+n:Nat):Int)).toNat=a+n:=by omega
   rw[this,xc b]
  have c:S.tkD l (a+n)=l[a+n]:=by unfold S.tkD;rw[xc b]
  rw[i,c];rfl
 ·have:decide (((a+n:Nat):Int)<we l.length)=eb:=xq (by show ¬((a+n:Nat):Int)<(l.length:Int);omega);rw[this];have c:S.tkD l (a+n)=(0,⟨#[]⟩,0,0):=by unfold S.tkD;rw[p6 (by omega)]
  rw[c];rfl
theorem qbc:ConR oa 139 jk:=zr7 trivial fun x y a h=>⟨0,(zod (e:=x.1.2.2.1) (fm:=x.1.2.2.2.1) a.1.1 (yx h).1).trans (yx h).2⟩
theorem zzc{l:Lz zb}{e:zf}{fm:Lz Bq}{at_:Int}(h:S.ok (l,at_,e,fm,())=i7):Fz13 0 l at_ e fm=iz ((S.place l e at_.toNat,()),(l,at_,e,fm,()),()):=by
 obtain⟨a,rfl,f⟩:=qop h;show qia 0 l (we a) e fm=_;unfold qia;rw[qc,iof];by_cases b:a<l.length
 ·have:decide (we a<we l.length)=i7:=xt (by show (a:Int)<(l.length:Int);omega);rw[this];have d:jget l (we a)=iz l[a]:=by
   unfold jget;rw[xx (by show (0:Int)<=(a:Int);omega),iof,xc b]
  have c:S.place l e a=l[a].2.2:=by unfold S.place;rw[xc b]
  rw[d,c];rfl
 ·have:decide (we a<we l.length)=eb:=xq (by show ¬(a:Int)<(l.length:Int);omega);rw[this];have c:S.place l e a=e:=by unfold S.place;rw[p6 (by omega)]
  rw[c];rfl
theorem q33:ConR oa 217 qeg:=za1 trivial fun x y a h=>⟨0,(zzc (e:=x.1.2.2.1) (fm:=x.1.2.2.2.1) (yx h).1).trans (yx h).2⟩
section
namespace S
def dFail(p:DPr)(e:Int):Oq (DSl ⊕ (Unit × DPr × Unit)):=cond (ok p) (iz (.inl ((place p.1 p.2.2.1 p.2.1.toNat).1,(place p.1 p.2.2.1 p.2.1.toNat).2,e,()))) i6
def dIs(p:DPr)(s:Bq):Oq (DSl ⊕ ((Bool × Unit) × DPr × Unit)):=dRun un1 p (is s)
def dMay(p:DPr)(s:Bq):Oq (DSl ⊕ ((Bool × Unit) × DPr × Unit)):=dRun un1 p (may s)
def dMust(p:DPr)(s:Bq):Oq (DSl ⊕ (Unit × DPr × Unit)):=dRun un0 p (must s)
def dKind(p:DPr)(k:Int):Oq (DSl ⊕ ((Bq × Unit) × DPr × Unit)):=cond (Bool.not (ieqI k 0)) (dRun un1 p (kind k)) i6
def dClass(p:DPr)(no:Lz Bq):Oq (DSl ⊕ ((Bq × Unit) × DPr × Unit)):=dRun un1 p (class_ no)
end S
theorem run_bind{α β:Type}{l:Lz S.KT}{f:α->S.Pr β}:∀{t:S.Pr α} {a:Nat},S.run l a (t.bind f)=match S.run l a t with
  | none=>i6
  | some (.inl e)=>iz (.inl e)
  | some (.inr v)=>S.run l v.2 (f v.1)
 | .ret v,a=>rfl
 | .stop,a=>rfl
 | .fail e,a=>rfl
 | .peek k,a=>run_bind (t:=k _)
 | .peek2 k,a=>run_bind (t:=k _)
 | .next k,a=>by
  show cond _ (S.run l (a+1) (k.bind f)) i6=match cond _ (S.run l (a+1) k) i6 with|none=>i6|some (.inl e)=>iz (.inl e)|some (.inr v)=>S.run l v.2 (f v.1)
  cases oo a l.length
  ·rfl
  ·exact run_bind (t:=k)
theorem kh{α:Type}{l:Lz S.KT}:∀{t:S.Pr α} {a b:Nat} {v:α},S.run l a t=iz (.inr (v,b))->a<=b/\(a<=l.length->b<=l.length)
 | .ret v,a,b,_,h=>by cases h;exact⟨xl _,fun h=>h⟩
 | .stop,a,b,_,h=>by cases h
 | .fail e,a,b,_,h=>by cases h
 | .peek k,a,b,_,h=>kh (t:=k _) h
 | .peek2 k,a,b,_,h=>kh (t:=k _) h
 | .next k,a,b,_,h=>by
  have h:cond (oo a l.length) (S.run l (a+1) k) i6=_:=h;cases hb:oo a l.length with
  | false=>rw[hb] at h;cases h
  | true =>
   rw[hb] at h;have hb:a<l.length:=by simpa using hb
   obtain⟨h1,h2⟩:=kh (t:=k) h;exact⟨by omega,fun _=>h2 (by omega)⟩
section
variable {α β ρ σ : Type} {l : Lz zb} {e : zf} {fm : Lz Bq}
theorem wm:(S.kts l).length=l.length:=by unfold S.kts;rw[gt]
theorem qfw{a:Nat}(ha:a<=l.length):S.ok (l,we a,e,fm,())=i7:=by
 unfold S.ok;rw[qc,qc];simp only[xf,dt,rj];exact⟨by show ¬(a:Int)<0;omega,by show ¬(l.length:Int)<(a:Int);omega⟩
theorem vo{f:α->ρ}{a:Nat}{t:S.Pr α}(ha:a<=l.length):S.dRun f (l,we a,e,fm,()) t=S.out f (l,we a,e,fm,()) (S.run (S.kts l) a t):=by
 unfold S.dRun;rw[qfw ha];rfl
theorem qq{f:α->ρ}{g:β->σ}{a:Nat}(ha:a<=l.length){t:S.Pr α}{k:α->S.Pr β}{K:ρ × DPr × Unit->Oq (DSl ⊕ (σ × DPr × Unit))}
  (h:∀v b,S.run (S.kts l) a t=iz (.inr (v,b))->a<=b->b<=l.length->K (f v,(l,we b,e,fm,()),())=S.dRun g (l,we b,e,fm,()) (k v)) :
  bs (S.dRun f (l,we a,e,fm,()) t) K=S.dRun g (l,we a,e,fm,()) (t.bind k):=by
 rw[vo ha,vo ha,run_bind];cases c:S.run (S.kts l) a t with
 | none=>rfl
 | some r =>
  cases r with
  | inl q=>rfl
  | inr q =>
   obtain⟨v,b⟩:=q;obtain⟨j,i⟩:=kh c;have d:b<=l.length:=by have:=i (by rw[wm];exact ha);rwa [wm] at this
   show K (f v,(l,we b,e,fm,()),())=_;rw[h v b c j d,vo d];rfl
theorem qcd{c:Bool}{X Y:Oq (DSl ⊕ (ρ × DPr × Unit))}{f:α->ρ}{p:DPr}{x y:S.Pr α}(h1:c=i7->X=S.dRun f p x)(h2:c=eb->Y=S.dRun f p y):cond c X Y=S.dRun f p (cond c x y):=by
 cases c
 ·exact h2 rfl
 ·exact h1 rfl
theorem retP{f:α->ρ}{a:Nat}(ha:a<=l.length){v:α}:iz (fe (f v,(l,we a,e,fm,()),()))=S.dRun f (l,we a,e,fm,()) (.ret v):=by rw[vo ha];rfl
theorem ck{f:α->ρ}{a:Nat}(ha:a<=l.length){k:S.KT->S.Pr α}:S.dRun f (l,we a,e,fm,()) (.peek k)=S.dRun f (l,we a,e,fm,()) (k (S.tkA (S.kts l) a)):=by rw[vo ha,vo ha];rfl
theorem qc4{f:α->ρ}{a:Nat}(ha:a<l.length){k:S.Pr α}:S.dRun f (l,we a,e,fm,()) (.next k)=S.dRun f (l,we (a+1),e,fm,()) k:=by
 rw[vo (ra ha),vo ha];show S.out f _ (cond (oo a (S.kts l).length) _ i6)=_;rw[wm,show oo a l.length=i7 by simpa using ha];rfl
end
def kz:SmP:=⟨[pkP,.dat (.int .i64)],[],113,pI,fun x=>S.dFail x.1 x.2.1⟩
def qgs:SmP:=⟨[pkP,.dat .str],[(eb,.bool)],113,pI,fun x=>S.dIs x.1 x.2.1⟩
def ji:SmP:=⟨[pkP,.dat .str],[(eb,.bool)],113,pI,fun x=>S.dMay x.1 x.2.1⟩
def nv:SmP:=⟨[pkP,.dat .str],[],113,pI,fun x=>S.dMust x.1 x.2.1⟩
def ni:SmP:=⟨[pkP,.dat (.int .i64)],[(eb,.str)],113,pI,fun x=>S.dKind x.1 x.2.1⟩
def sh:SmP:=⟨[pkP],[(eb,.str)],113,pI,fun x=>S.dKind x.1 1⟩
def qx7:SmP:=⟨[pkP,.dat (.list .str)],[(eb,.str)],113,pI,fun x=>S.dClass x.1 x.2.1⟩
end
def qgd:Nat->Oq Nm:=fun k=>cond (od k 999999) (iz ⟨[],[],[],[],[],0,0,eb⟩) i6
def qnd:Nat->Bool:=fun k=>eb
def qwm:Nat->Bool:=fun k=>eb
abbrev cq:Type:=DSl ⊕ ((Unit) × DPr × Unit)
def qqx:Lz (Nat × Sm):=[]
def qt9:Lz (Nat × Hx):=[(217,hxR qeg)]
def qns(R:Type)(lf:Nat):ClK R:=zn oa ttT.get ftT.get (fun _ _=>i6) (smL qqx) (hxL qt9) lf 20 R
abbrev zxl:Nat:=137
def q23(lf:Nat)(x1:(Lz zb))(x2:Int)(x3:zf)(x4:(Lz Bq))(x5:Int):Oq cq:=(bd (S.dPlace (x1,(x2,(x3,(x4,()))))) fun v0=>(iz (Sum.inl (v0.1.1.1,(v0.1.1.2,(x5,()))))))
theorem zd1(g:ElP [pkP,.dat (.int .i64)]->Oq cq)(J:Nat->Lz Nat->NRes->Oq cq)(lf:Nat)(x1:(Lz zb))(x2:Int)(x3:zf)(x4:(Lz Bq))(x5:Int):zm oa ttT.get qgd (mP [pkP,.dat (.int .i64)]) ui.nt (qns _ lf) lf qnd J ui.body [] (zk (ze [pkP,.dat (.int .i64)] idN 0 ((x1,x2,x3,x4,()),x5,())) 0 .leaf) (Sc [pkP,.dat (.int .i64)] ((x1,x2,x3,x4,()),x5,())) [] (qd ttT.get ui ⟨[pkP,.dat (.int .i64)],[],113,pI,g⟩)=q23 lf x1 x2 x3 x4 x5:=by kernel_rfl
theorem znk:(regs ui.body).Nodup:=by decide +kernel
theorem zpi:okC qgd qnd qwm ui.body i6=i7:=by kernel_rfl
def Az14(g:ElP [pkP,.dat (.int .i64)]->Oq cq)(lf:Nat):Nat->Lz Nat->NRes->Oq cq:=atP oa ttT.get qgd ui ⟨[pkP,.dat (.int .i64)],[],113,pI,g⟩ (qns _ lf) lf qwm
def Fz14(lf:Nat)(x1:(Lz zb))(x2:Int)(x3:zf)(x4:(Lz Bq))(x5:Int):Oq cq:=q23 lf x1 x2 x3 x4 x5
theorem zvb(g:ElP [pkP,.dat (.int .i64)]->Oq cq)(lf:Nat)(x1:(Lz zb))(x2:Int)(x3:zf)(x4:(Lz Bq))(x5:Int):zm oa ttT.get qgd (mP [pkP,.dat (.int .i64)]) ui.nt (qns _ lf) lf qnd (Az14 g lf) ui.body [] (zk (ze [pkP,.dat (.int .i64)] idN 0 ((x1,x2,x3,x4,()),x5,())) 0 .leaf) (Sc [pkP,.dat (.int .i64)] ((x1,x2,x3,x4,()),x5,())) [] (qd ttT.get ui ⟨[pkP,.dat (.int .i64)],[],113,pI,g⟩)=Fz14 lf x1 x2 x3 x4 x5:=by
  refine(zd1 g (Az14 g lf) lf x1 x2 x3 x4 x5).trans ?_;rfl
theorem zo3(hrz13:ConR oa 217 qeg):zv oa qt9:=⟨z8 hrz13,trivial⟩
theorem zdz{g:ElP [pkP,.dat (.int .i64)]->Oq cq}(hsm:SmOK oa qqx)(hrz13:ConR oa 217 qeg)(hg:∀(x:ElP [pkP,.dat (.int .i64)]) (y:cq),WfP [pkP,.dat (.int .i64)] x->g x=iz y->∃lf,Fz14 lf x.1.1 x.1.2.1 x.1.2.2.1 x.1.2.2.2.1 x.2.1=iz y):ConP oa 137 ⟨[pkP,.dat (.int .i64)],[],113,pI,g⟩ :=
 conTP (nmf:=qgd) (sml:=qqx) (hxl:=qt9) (st:=qnd) (hd:=qwm) 20 mixed ttOK ftOK hsm (zo3 hrz13) zw6 (by kernel_rfl) (fun x=>by kernel_rfl) znk zpi fun x y b a=>by
  obtain⟨lf,h⟩:=hg x y b a;exact⟨lf,(zvb g lf x.1.1 x.1.2.1 x.1.2.2.1 x.1.2.2.2.1 x.2.1).trans h⟩
def qeq:Nat->Oq Nm:=fun k=>cond (od k 999999) (iz ⟨[],[],[],[],[],0,0,eb⟩) i6
def qkl:Nat->Bool:=fun k=>eb
def qqk:Nat->Bool:=fun k=>eb
abbrev ci:Type:=DSl ⊕ ((Bool × Unit) × DPr × Unit)
def qo2:Lz (Nat × Sm):=[]
def qvo:Lz (Nat × Hx):=[(139,hxR jk)]
def qpg(R:Type)(lf:Nat):ClK R:=zn oa ttT.get ftT.get (fun _ _=>i6) (smL qo2) (hxL qvo) lf 20 R
abbrev zxq:Nat:=142
def qyg(lf:Nat)(x1:(Lz zb))(x2:Int)(x3:zf)(x4:(Lz Bq))(x5:Bq):Oq ci:=(bd (S.dPeek (x1,(x2,(x3,(x4,())))) (we 0)) fun v0=>(cond (keqS v0.1.1.2.1 x5) (cond (ieqI v0.1.1.1 (we 3)) (iz (fe ((i7,()),v0.2))) (iz (fe (((ieqI v0.1.1.1 (we 5)),()),v0.2)))) (iz (fe ((eb,()),v0.2)))))
theorem zcg(g:ElP [pkP,.dat .str]->Oq ci)(J:Nat->Lz Nat->NRes->Oq ci)(lf:Nat)(x1:(Lz zb))(x2:Int)(x3:zf)(x4:(Lz Bq))(x5:Bq):zm oa ttT.get qeq (mP [pkP,.dat .str]) bo.nt (qpg _ lf) lf qkl J bo.body [] (zk (ze [pkP,.dat .str] idN 0 ((x1,x2,x3,x4,()),x5,())) 0 .leaf) (Sc [pkP,.dat .str] ((x1,x2,x3,x4,()),x5,())) [] (qd ttT.get bo ⟨[pkP,.dat .str],[(eb,.bool)],113,pI,g⟩)=qyg lf x1 x2 x3 x4 x5:=by kernel_rfl
theorem zx0:(regs bo.body).Nodup:=by decide +kernel
theorem zb2:okC qeq qkl qqk bo.body i6=i7:=by kernel_rfl
def Az15(g:ElP [pkP,.dat .str]->Oq ci)(lf:Nat):Nat->Lz Nat->NRes->Oq ci:=atP oa ttT.get qeq bo ⟨[pkP,.dat .str],[(eb,.bool)],113,pI,g⟩ (qpg _ lf) lf qqk
def Fz15(lf:Nat)(x1:(Lz zb))(x2:Int)(x3:zf)(x4:(Lz Bq))(x5:Bq):Oq ci:=qyg lf x1 x2 x3 x4 x5
theorem zbn(g:ElP [pkP,.dat .str]->Oq ci)(lf:Nat)(x1:(Lz zb))(x2:Int)(x3:zf)(x4:(Lz Bq))(x5:Bq):zm oa ttT.get qeq (mP [pkP,.dat .str]) bo.nt (qpg _ lf) lf qkl (Az15 g lf) bo.body [] (zk (ze [pkP,.dat .str] idN 0 ((x1,x2,x3,x4,()),x5,())) 0 .leaf) (Sc [pkP,.dat .str] ((x1,x2,x3,x4,()),x5,())) [] (qd ttT.get bo ⟨[pkP,.dat .str],[(eb,.bool)],113,pI,g⟩)=Fz15 lf x1 x2 x3 x4 x5:=by
  refine(zcg g (Az15 g lf) lf x1 x2 x3 x4 x5).trans ?_;rfl
theorem zyd(hrz12:ConR oa 139 jk):zv oa qvo:=⟨z8 hrz12,trivial⟩
theorem zd8{g:ElP [pkP,.dat .str]->Oq ci}(hsm:SmOK oa qo2)(hrz12:ConR oa 139 jk)(hg:∀(x:ElP [pkP,.dat .str]) (y:ci),WfP [pkP,.dat .str] x->g x=iz y->∃lf,Fz15 lf x.1.1 x.1.2.1 x.1.2.2.1 x.1.2.2.2.1 x.2.1=iz y):ConP oa 142 ⟨[pkP,.dat .str],[(eb,.bool)],113,pI,g⟩ :=
 conTP (nmf:=qeq) (sml:=qo2) (hxl:=qvo) (st:=qkl) (hd:=qqk) 20 mixed ttOK ftOK hsm (zyd hrz12) zkp (by kernel_rfl) (fun x=>by kernel_rfl) zx0 zb2 fun x y b a=>by
  obtain⟨lf,h⟩:=hg x y b a;exact⟨lf,(zbn g lf x.1.1 x.1.2.1 x.1.2.2.1 x.1.2.2.2.1 x.2.1).trans h⟩
def qe8:Nat->Oq Nm:=fun k=>cond (od k 999999) (iz ⟨[],[],[],[],[],0,0,eb⟩) i6
def qih:Nat->Bool:=fun k=>eb
def qt2:Nat->Bool:=fun k=>eb
abbrev br:Type:=DSl ⊕ ((Bool × Unit) × DPr × Unit)
def qpq:Lz (Nat × Sm):=[]
def qtb:Lz (Nat × Hx):=[(142,hxP qgs)]
def qre(R:Type)(lf:Nat):ClK R:=zn oa ttT.get ftT.get (fun _ _=>i6) (smL qpq) (hxL qtb) lf 20 R
abbrev zww:Nat:=138
def qzf(lf:Nat)(x1:(Lz zb))(x2:Int)(x3:zf)(x4:(Lz Bq))(x5:Bq):Oq br:=(bs (S.dIs (x1,(x2,(x3,(x4,())))) x5) fun v0=>(cond (Bool.not v0.1.1) (iz (fe ((eb,()),v0.2))) (iz (fe ((i7,()),((v0.2.1.1,((IntKind.i64.wrap (oe v0.2.1.2.1 (we 1))),v0.2.1.2.2)),()))))))
theorem zru(g:ElP [pkP,.dat .str]->Oq br)(J:Nat->Lz Nat->NRes->Oq br)(lf:Nat)(x1:(Lz zb))(x2:Int)(x3:zf)(x4:(Lz Bq))(x5:Bq):zm oa ttT.get qe8 (mP [pkP,.dat .str]) uc.nt (qre _ lf) lf qih J uc.body [] (zk (ze [pkP,.dat .str] idN 0 ((x1,x2,x3,x4,()),x5,())) 0 .leaf) (Sc [pkP,.dat .str] ((x1,x2,x3,x4,()),x5,())) [] (qd ttT.get uc ⟨[pkP,.dat .str],[(eb,.bool)],113,pI,g⟩)=qzf lf x1 x2 x3 x4 x5:=by kernel_rfl
theorem zkq:(regs uc.body).Nodup:=by decide +kernel
theorem zbl:okC qe8 qih qt2 uc.body i6=i7:=by kernel_rfl
def Az16(g:ElP [pkP,.dat .str]->Oq br)(lf:Nat):Nat->Lz Nat->NRes->Oq br:=atP oa ttT.get qe8 uc ⟨[pkP,.dat .str],[(eb,.bool)],113,pI,g⟩ (qre _ lf) lf qt2
def Fz16(lf:Nat)(x1:(Lz zb))(x2:Int)(x3:zf)(x4:(Lz Bq))(x5:Bq):Oq br:=qzf lf x1 x2 x3 x4 x5
theorem zdx(g:ElP [pkP,.dat .str]->Oq br)(lf:Nat)(x1:(Lz zb))(x2:Int)(x3:zf)(x4:(Lz Bq))(x5:Bq):zm oa ttT.get qe8 (mP [pkP,.dat .str]) uc.nt (qre _ lf) lf qih (Az16 g lf) uc.body [] (zk (ze [pkP,.dat .str] idN 0 ((x1,x2,x3,x4,()),x5,())) 0 .leaf) (Sc [pkP,.dat .str] ((x1,x2,x3,x4,()),x5,())) [] (qd ttT.get uc ⟨[pkP,.dat .str],[(eb,.bool)],113,pI,g⟩)=Fz16 lf x1 x2 x3 x4 x5:=by
  refine(zru g (Az16 g lf) lf x1 x2 x3 x4 x5).trans ?_;rfl
theorem zne(hp_d_parser_is:ConP oa 142 qgs):zv oa qtb:=⟨z7 hp_d_parser_is,trivial⟩
theorem ze2{g:ElP [pkP,.dat .str]->Oq br}(hsm:SmOK oa qpq)(hp_d_parser_is:ConP oa 142 qgs)(hg:∀(x:ElP [pkP,.dat .str]) (y:br),WfP [pkP,.dat .str] x->g x=iz y->∃lf,Fz16 lf x.1.1 x.1.2.1 x.1.2.2.1 x.1.2.2.2.1 x.2.1=iz y):ConP oa 138 ⟨[pkP,.dat .str],[(eb,.bool)],113,pI,g⟩ :=
 conTP (nmf:=qe8) (sml:=qpq) (hxl:=qtb) (st:=qih) (hd:=qt2) 20 mixed ttOK ftOK hsm (zne hp_d_parser_is) zv8 (by kernel_rfl) (fun x=>by kernel_rfl) zkq zbl fun x y b a=>by
  obtain⟨lf,h⟩:=hg x y b a;exact⟨lf,(zdx g lf x.1.1 x.1.2.1 x.1.2.2.1 x.1.2.2.2.1 x.2.1).trans h⟩
def qei:Nat->Oq Nm:=fun k=>cond (od k 999999) (iz ⟨[],[],[],[],[],0,0,eb⟩) i6
def qjh:Nat->Bool:=fun k=>eb
def qs0:Nat->Bool:=fun k=>eb
abbrev bx:Type:=DSl ⊕ ((Unit) × DPr × Unit)
def qsv:Lz (Nat × Sm):=[]
def qoo:Lz (Nat × Hx):=[(138,hxP ji),(137,panO (hxP kz))]
def qvi(R:Type)(lf:Nat):ClK R:=zn oa ttT.get ftT.get (fun _ _=>i6) (smL qsv) (hxL qoo) lf 20 R
abbrev zoc:Nat:=144
def qzp(lf:Nat)(x1:(Lz zb))(x2:Int)(x3:zf)(x4:(Lz Bq))(x5:Bq):Oq bx:=(bs (S.dMay (x1,(x2,(x3,(x4,())))) x5) fun v0=>(cond (Bool.not v0.1.1) (bs (S.dFail v0.2.1 (we 2)) fun v1=>i6) (iz (fe ((),v0.2)))))
theorem zx3(g:ElP [pkP,.dat .str]->Oq bx)(J:Nat->Lz Nat->NRes->Oq bx)(lf:Nat)(x1:(Lz zb))(x2:Int)(x3:zf)(x4:(Lz Bq))(x5:Bq):zm oa ttT.get qei (mP [pkP,.dat .str]) uu.nt (qvi _ lf) lf qjh J uu.body [] (zk (ze [pkP,.dat .str] idN 0 ((x1,x2,x3,x4,()),x5,())) 0 .leaf) (Sc [pkP,.dat .str] ((x1,x2,x3,x4,()),x5,())) [] (qd ttT.get uu ⟨[pkP,.dat .str],[],113,pI,g⟩)=qzp lf x1 x2 x3 x4 x5:=by kernel_rfl
theorem zk4:(regs uu.body).Nodup:=by decide +kernel
theorem zxj:okC qei qjh qs0 uu.body i6=i7:=by kernel_rfl
def Az17(g:ElP [pkP,.dat .str]->Oq bx)(lf:Nat):Nat->Lz Nat->NRes->Oq bx:=atP oa ttT.get qei uu ⟨[pkP,.dat .str],[],113,pI,g⟩ (qvi _ lf) lf qs0
def Fz17(lf:Nat)(x1:(Lz zb))(x2:Int)(x3:zf)(x4:(Lz Bq))(x5:Bq):Oq bx:=qzp lf x1 x2 x3 x4 x5
theorem zdl(g:ElP [pkP,.dat .str]->Oq bx)(lf:Nat)(x1:(Lz zb))(x2:Int)(x3:zf)(x4:(Lz Bq))(x5:Bq):zm oa ttT.get qei (mP [pkP,.dat .str]) uu.nt (qvi _ lf) lf qjh (Az17 g lf) uu.body [] (zk (ze [pkP,.dat .str] idN 0 ((x1,x2,x3,x4,()),x5,())) 0 .leaf) (Sc [pkP,.dat .str] ((x1,x2,x3,x4,()),x5,())) [] (qd ttT.get uu ⟨[pkP,.dat .str],[],113,pI,g⟩)=Fz17 lf x1 x2 x3 x4 x5:=by
  refine(zx3 g (Az17 g lf) lf x1 x2 x3 x4 x5).trans ?_;rfl
theorem zgc(hp_d_parser_may:ConP oa 138 ji)(hp_d_parser_fail:ConP oa 137 kz):zv oa qoo:=⟨z7 hp_d_parser_may,⟨qfe (z7 hp_d_parser_fail),trivial⟩⟩
theorem zg5{g:ElP [pkP,.dat .str]->Oq bx}(hsm:SmOK oa qsv)(hp_d_parser_may:ConP oa 138 ji)(hp_d_parser_fail:ConP oa 137 kz)(hg:∀(x:ElP [pkP,.dat .str]) (y:bx),WfP [pkP,.dat .str] x->g x=iz y->∃lf,Fz17 lf x.1.1 x.1.2.1 x.1.2.2.1 x.1.2.2.2.1 x.2.1=iz y):ConP oa 144 ⟨[pkP,.dat .str],[],113,pI,g⟩ :=
 conTP (nmf:=qei) (sml:=qsv) (hxl:=qoo) (st:=qjh) (hd:=qs0) 20 mixed ttOK ftOK hsm (zgc hp_d_parser_may hp_d_parser_fail) zh2 (by kernel_rfl) (fun x=>by kernel_rfl) zk4 zxj fun x y b a=>by
  obtain⟨lf,h⟩:=hg x y b a;exact⟨lf,(zdl g lf x.1.1 x.1.2.1 x.1.2.2.1 x.1.2.2.2.1 x.2.1).trans h⟩
def qg3:Nat->Oq Nm:=fun k=>cond (od k 999999) (iz ⟨[],[],[],[],[],0,0,eb⟩) i6
def qmw:Nat->Bool:=fun k=>eb
def qqg:Nat->Bool:=fun k=>eb
abbrev cz:Type:=DSl ⊕ ((Bq × Unit) × DPr × Unit)
def qnw:Lz (Nat × Sm):=[]
def qwh:Lz (Nat × Hx):=[(139,hxR jk),(137,panO (hxP kz))]
def qoz(R:Type)(lf:Nat):ClK R:=zn oa ttT.get ftT.get (fun _ _=>i6) (smL qnw) (hxL qwh) lf 20 R
abbrev zs8:Nat:=243
def qh4(lf:Nat)(x1:(Lz zb))(x2:Int)(x3:zf)(x4:(Lz Bq))(x5:Int):Oq cz:=(bd (S.dPeek (x1,(x2,(x3,(x4,())))) (we 0)) fun v0=>(cond (Bool.not (ieqI v0.1.1.1 x5)) (bs (S.dFail v0.2.1 (we 2)) fun v1=>i6) (bd (jget v0.2.1.1 (IntKind.i64.wrap (fq (IntKind.i64.wrap (oe v0.2.1.2.1 (we 1))) (we 1)))) fun v2=>(iz (fe ((v2.2.1,()),((v0.2.1.1,((IntKind.i64.wrap (oe v0.2.1.2.1 (we 1))),v0.2.1.2.2)),())))))))
theorem zl0(g:ElP [pkP,.dat (.int .i64)]->Oq cz)(J:Nat->Lz Nat->NRes->Oq cz)(lf:Nat)(x1:(Lz zb))(x2:Int)(x3:zf)(x4:(Lz Bq))(x5:Int):zm oa ttT.get qg3 (mP [pkP,.dat (.int .i64)]) bi.nt (qoz _ lf) lf qmw J bi.body [] (zk (ze [pkP,.dat (.int .i64)] idN 0 ((x1,x2,x3,x4,()),x5,())) 0 .leaf) (Sc [pkP,.dat (.int .i64)] ((x1,x2,x3,x4,()),x5,())) [] (qd ttT.get bi ⟨[pkP,.dat (.int .i64)],[(eb,.str)],113,pI,g⟩)=qh4 lf x1 x2 x3 x4 x5:=by kernel_rfl
theorem zkw:(regs bi.body).Nodup:=by decide +kernel
theorem zrg:okC qg3 qmw qqg bi.body i6=i7:=by kernel_rfl
def Az18(g:ElP [pkP,.dat (.int .i64)]->Oq cz)(lf:Nat):Nat->Lz Nat->NRes->Oq cz:=atP oa ttT.get qg3 bi ⟨[pkP,.dat (.int .i64)],[(eb,.str)],113,pI,g⟩ (qoz _ lf) lf qqg
def Fz18(lf:Nat)(x1:(Lz zb))(x2:Int)(x3:zf)(x4:(Lz Bq))(x5:Int):Oq cz:=qh4 lf x1 x2 x3 x4 x5
theorem zj3(g:ElP [pkP,.dat (.int .i64)]->Oq cz)(lf:Nat)(x1:(Lz zb))(x2:Int)(x3:zf)(x4:(Lz Bq))(x5:Int):zm oa ttT.get qg3 (mP [pkP,.dat (.int .i64)]) bi.nt (qoz _ lf) lf qmw (Az18 g lf) bi.body [] (zk (ze [pkP,.dat (.int .i64)] idN 0 ((x1,x2,x3,x4,()),x5,())) 0 .leaf) (Sc [pkP,.dat (.int .i64)] ((x1,x2,x3,x4,()),x5,())) [] (qd ttT.get bi ⟨[pkP,.dat (.int .i64)],[(eb,.str)],113,pI,g⟩)=Fz18 lf x1 x2 x3 x4 x5:=by
  refine(zl0 g (Az18 g lf) lf x1 x2 x3 x4 x5).trans ?_;rfl
theorem z0a(hrz12:ConR oa 139 jk)(hp_d_parser_fail:ConP oa 137 kz):zv oa qwh:=⟨z8 hrz12,⟨qfe (z7 hp_d_parser_fail),trivial⟩⟩
theorem zvj{g:ElP [pkP,.dat (.int .i64)]->Oq cz}(hsm:SmOK oa qnw)(hrz12:ConR oa 139 jk)(hp_d_parser_fail:ConP oa 137 kz)(hg:∀(x:ElP [pkP,.dat (.int .i64)]) (y:cz),WfP [pkP,.dat (.int .i64)] x->g x=iz y->∃lf,Fz18 lf x.1.1 x.1.2.1 x.1.2.2.1 x.1.2.2.2.1 x.2.1=iz y):ConP oa 243 ⟨[pkP,.dat (.int .i64)],[(eb,.str)],113,pI,g⟩ :=
 conTP (nmf:=qg3) (sml:=qnw) (hxl:=qwh) (st:=qmw) (hd:=qqg) 20 mixed ttOK ftOK hsm (z0a hrz12 hp_d_parser_fail) zpu (by kernel_rfl) (fun x=>by kernel_rfl) zkw zrg fun x y b a=>by
  obtain⟨lf,h⟩:=hg x y b a;exact⟨lf,(zj3 g lf x.1.1 x.1.2.1 x.1.2.2.1 x.1.2.2.2.1 x.2.1).trans h⟩
def qfr:Nat->Oq Nm:=fun k=>cond (od k 999999) (iz ⟨[],[],[],[],[],0,0,eb⟩) i6
def qno:Nat->Bool:=fun k=>eb
def qq7:Nat->Bool:=fun k=>eb
abbrev cp:Type:=DSl ⊕ ((Bq × Unit) × DPr × Unit)
def qrj:Lz (Nat × Sm):=[]
def qo0:Lz (Nat × Hx):=[(243,hxP ni)]
def qrf(R:Type)(lf:Nat):ClK R:=zn oa ttT.get ftT.get (fun _ _=>i6) (smL qrj) (hxL qo0) lf 20 R
abbrev zpw:Nat:=249
def q0c(lf:Nat)(x1:(Lz zb))(x2:Int)(x3:zf)(x4:(Lz Bq)):Oq cp:=(bs (S.dKind (x1,(x2,(x3,(x4,())))) (we 1)) fun v0=>(iz (fe v0)))
theorem zhz(g:ElP [pkP]->Oq cp)(J:Nat->Lz Nat->NRes->Oq cp)(lf:Nat)(x1:(Lz zb))(x2:Int)(x3:zf)(x4:(Lz Bq)):zm oa ttT.get qfr (mP [pkP]) y0.nt (qrf _ lf) lf qno J y0.body [] (zk (ze [pkP] idN 0 ((x1,x2,x3,x4,()),())) 0 .leaf) (Sc [pkP] ((x1,x2,x3,x4,()),())) [] (qd ttT.get y0 ⟨[pkP],[(eb,.str)],113,pI,g⟩)=q0c lf x1 x2 x3 x4:=by kernel_rfl
theorem zbk:(regs y0.body).Nodup:=by decide +kernel
theorem zn6:okC qfr qno qq7 y0.body i6=i7:=by kernel_rfl
def Az19(g:ElP [pkP]->Oq cp)(lf:Nat):Nat->Lz Nat->NRes->Oq cp:=atP oa ttT.get qfr y0 ⟨[pkP],[(eb,.str)],113,pI,g⟩ (qrf _ lf) lf qq7
def Fz19(lf:Nat)(x1:(Lz zb))(x2:Int)(x3:zf)(x4:(Lz Bq)):Oq cp:=q0c lf x1 x2 x3 x4
theorem zvf(g:ElP [pkP]->Oq cp)(lf:Nat)(x1:(Lz zb))(x2:Int)(x3:zf)(x4:(Lz Bq)):zm oa ttT.get qfr (mP [pkP]) y0.nt (qrf _ lf) lf qno (Az19 g lf) y0.body [] (zk (ze [pkP] idN 0 ((x1,x2,x3,x4,()),())) 0 .leaf) (Sc [pkP] ((x1,x2,x3,x4,()),())) [] (qd ttT.get y0 ⟨[pkP],[(eb,.str)],113,pI,g⟩)=Fz19 lf x1 x2 x3 x4:=by
  refine(zhz g (Az19 g lf) lf x1 x2 x3 x4).trans ?_;rfl
theorem zcp(hp_d_parser_kind:ConP oa 243 ni):zv oa qo0:=⟨z7 hp_d_parser_kind,trivial⟩
theorem zzf{g:ElP [pkP]->Oq cp}(hsm:SmOK oa qrj)(hp_d_parser_kind:ConP oa 243 ni)(hg:∀(x:ElP [pkP]) (y:cp),WfP [pkP] x->g x=iz y->∃lf,Fz19 lf x.1.1 x.1.2.1 x.1.2.2.1 x.1.2.2.2.1=iz y):ConP oa 249 ⟨[pkP],[(eb,.str)],113,pI,g⟩ :=
 conTP (nmf:=qfr) (sml:=qrj) (hxl:=qo0) (st:=qno) (hd:=qq7) 20 mixed ttOK ftOK hsm (zcp hp_d_parser_kind) zsh (by kernel_rfl) (fun x=>by kernel_rfl) zbk zn6 fun x y b a=>by
  obtain⟨lf,h⟩:=hg x y b a;exact⟨lf,(zvf g lf x.1.1 x.1.2.1 x.1.2.2.1 x.1.2.2.2.1).trans h⟩
def qga:Nat->Oq Nm:=fun k=>cond (od k 999999) (iz ⟨[],[],[],[],[],0,0,eb⟩) i6
def qka:Nat->Bool:=fun k=>eb
def qrq:Nat->Bool:=fun k=>eb
abbrev bv:Type:=DSl ⊕ ((Bq × Unit) × DPr × Unit)
def qqr:Lz (Nat × Sm):=[(140,qw0)]
def qoj:Lz (Nat × Hx):=[(139,hxR jk),(137,panO (hxP kz)),(243,hxP ni)]
def qtc(R:Type)(lf:Nat):ClK R:=zn oa ttT.get ftT.get (fun _ _=>i6) (smL qqr) (hxL qoj) lf 20 R
abbrev zeu:Nat:=141
def qld(lf:Nat)(x1:(Lz zb))(x2:Int)(x3:zf)(x4:(Lz Bq))(x5:(Lz Bq)):Oq bv:=(bd (S.dPeek (x1,(x2,(x3,(x4,())))) (we 0)) fun v0=>(cond (ieqI v0.1.1.1 (we 2)) (cond (S.has x5 v0.1.1.2.1) (bs (S.dFail v0.2.1 (we 4)) fun v1=>i6) (bs (S.dKind v0.2.1 (we 2)) fun v2=>(iz (fe v2)))) (bs (S.dKind v0.2.1 (we 2)) fun v3=>(iz (fe v3)))))
theorem ztl(g:ElP [pkP,.dat (.list .str)]->Oq bv)(J:Nat->Lz Nat->NRes->Oq bv)(lf:Nat)(x1:(Lz zb))(x2:Int)(x3:zf)(x4:(Lz Bq))(x5:(Lz Bq)):zm oa ttT.get qga (mP [pkP,.dat (.list .str)]) uq.nt (qtc _ lf) lf qka J uq.body [] (zk (ze [pkP,.dat (.list .str)] idN 0 ((x1,x2,x3,x4,()),x5,())) 0 .leaf) (Sc [pkP,.dat (.list .str)] ((x1,x2,x3,x4,()),x5,())) [] (qd ttT.get uq ⟨[pkP,.dat (.list .str)],[(eb,.str)],113,pI,g⟩)=qld lf x1 x2 x3 x4 x5:=by kernel_rfl
theorem zku:(regs uq.body).Nodup:=by decide +kernel
theorem zvy:okC qga qka qrq uq.body i6=i7:=by kernel_rfl
def Az20(g:ElP [pkP,.dat (.list .str)]->Oq bv)(lf:Nat):Nat->Lz Nat->NRes->Oq bv:=atP oa ttT.get qga uq ⟨[pkP,.dat (.list .str)],[(eb,.str)],113,pI,g⟩ (qtc _ lf) lf qrq
def Fz20(lf:Nat)(x1:(Lz zb))(x2:Int)(x3:zf)(x4:(Lz Bq))(x5:(Lz Bq)):Oq bv:=qld lf x1 x2 x3 x4 x5
theorem zm9(g:ElP [pkP,.dat (.list .str)]->Oq bv)(lf:Nat)(x1:(Lz zb))(x2:Int)(x3:zf)(x4:(Lz Bq))(x5:(Lz Bq)):zm oa ttT.get qga (mP [pkP,.dat (.list .str)]) uq.nt (qtc _ lf) lf qka (Az20 g lf) uq.body [] (zk (ze [pkP,.dat (.list .str)] idN 0 ((x1,x2,x3,x4,()),x5,())) 0 .leaf) (Sc [pkP,.dat (.list .str)] ((x1,x2,x3,x4,()),x5,())) [] (qd ttT.get uq ⟨[pkP,.dat (.list .str)],[(eb,.str)],113,pI,g⟩)=Fz20 lf x1 x2 x3 x4 x5:=by
  refine(ztl g (Az20 g lf) lf x1 x2 x3 x4 x5).trans ?_;rfl
theorem za6(hrz12:ConR oa 139 jk)(hp_d_parser_fail:ConP oa 137 kz)(hp_d_parser_kind:ConP oa 243 ni):zv oa qoj:=⟨z8 hrz12,⟨qfe (z7 hp_d_parser_fail),⟨z7 hp_d_parser_kind,trivial⟩⟩⟩
theorem zu2{g:ElP [pkP,.dat (.list .str)]->Oq bv}(hsm:SmOK oa qqr)(hrz12:ConR oa 139 jk)(hp_d_parser_fail:ConP oa 137 kz)(hp_d_parser_kind:ConP oa 243 ni)(hg:∀(x:ElP [pkP,.dat (.list .str)]) (y:bv),WfP [pkP,.dat (.list .str)] x->g x=iz y->∃lf,Fz20 lf x.1.1 x.1.2.1 x.1.2.2.1 x.1.2.2.2.1 x.2.1=iz y):ConP oa 141 ⟨[pkP,.dat (.list .str)],[(eb,.str)],113,pI,g⟩ :=
 conTP (nmf:=qga) (sml:=qqr) (hxl:=qoj) (st:=qka) (hd:=qrq) 20 mixed ttOK ftOK hsm (za6 hrz12 hp_d_parser_fail hp_d_parser_kind) zoh (by kernel_rfl) (fun x=>by kernel_rfl) zku zvy fun x y b a=>by
  obtain⟨lf,h⟩:=hg x y b a;exact⟨lf,(zm9 g lf x.1.1 x.1.2.1 x.1.2.2.1 x.1.2.2.2.1 x.2.1).trans h⟩
section
variable {l : Lz zb} {e : zf} {fm : Lz Bq} {at_ k : Int} {s : Bq} {no : Lz Bq} {a : Nat}
theorem vd(l:Lz zb)(a:Nat):S.tkA (S.kts l) a=((S.tkD l a).1,(S.tkD l a).2.1):=by
 unfold S.tkA S.kts S.tkD;rw[ru];cases l[a]?<;>rfl
theorem qbn(ha:a<=l.length):S.dPeek (l,we a,e,fm,()) 0=iz ((S.tkD l a,()),(l,we a,e,fm,()),()):=by
 unfold S.dPeek;rw[qfw ha];rfl
theorem zoe{α ρ:Type}{f:α->ρ}{p:DPr}{t:S.Pr α}{y}(h:S.dRun f p t=iz y):∃a:Nat,a<=p.1.length/\p=(p.1,we a,p.2.2.1,p.2.2.2.1,()):=by
 obtain⟨l,i,e,d,⟨⟩⟩:=p;obtain⟨a,c,b⟩:=qop (yx h).1
 grind
theorem mkP{α ρ:Type}{f:α->ρ}{p:DPr}{t:S.Pr α}{y}{F:Lz zb->Int->zf->Lz Bq->Oq (DSl ⊕ (ρ × DPr × Unit))}(h:S.dRun f p t=iz y)
  (hF:∀a,a<=p.1.length->F p.1 (we a) p.2.2.1 p.2.2.2.1=S.dRun f (p.1,we a,p.2.2.1,p.2.2.2.1,()) t):F p.1 p.2.1 p.2.2.1 p.2.2.2.1=iz y:=by
 obtain⟨a,c,b⟩:=zoe h
 grind
theorem qbz(hl:l.length<=140737488355328)(ha:a<=l.length):IntKind.i64.wrap (oe (we a) (we 1))=we (a+1):=by
 show IntKind.i64.wrap ((a:Int)+1)=((a+1:Nat):Int);rw[w64 (by omega) (by omega)];omega
theorem zpq(h:S.isT (S.tkA (S.kts l) a) s=i7):a<l.length:=by
 by_cases b:a<l.length
 ·grind
 ·rw[vd] at h;have:S.tkD l a=(0,⟨#[]⟩,0,0):=by unfold S.tkD;rw[p6 (by omega)]
  rw[this] at h;simp[S.isT] at h
theorem qhx(hk:¬k=0)(h:ieqI (S.tkA (S.kts l) a).1 k=i7):a<l.length:=by
 by_cases b:a<l.length
 ·grind
 ·rw[vd,zx] at h;have:S.tkD l a=(0,⟨#[]⟩,0,0):=by unfold S.tkD;rw[p6 (by omega)]
  grind
theorem zi3:Fz14 0 l at_ e fm k=S.dFail (l,at_,e,fm,()) k:=by
 show bd (S.dPlace (l,at_,e,fm,())) (fun a=>iz (Sum.inl (a.1.1.1,a.1.1.2,k,())))=_;unfold S.dPlace S.dFail;cases S.ok (l,at_,e,fm,())<;>rfl
theorem qdq:ConP oa zxl kz:=zdz trivial q33 fun x y a h=>⟨0,(zi3 (e:=x.1.2.2.1) (fm:=x.1.2.2.2.1)).trans h⟩
theorem qos{α ρ:Type}{f:α->ρ}(ha:a<=l.length){K}:bs (S.dFail (l,we a,e,fm,()) k) K=S.dRun f (l,we a,e,fm,()) (.fail k):=by
 unfold S.dFail;rw[qfw ha,vo ha];rfl
theorem F_is(ha:a<=l.length):Fz15 0 l (we a) e fm s=S.dIs (l,we a,e,fm,()) s:=by
 show bd (S.dPeek (l,we a,e,fm,()) 0) (fun b=>_)=_;rw[qbn ha];unfold S.dIs S.is;rw[ck ha,<- retP ha,vd];simp only[bd,S.isT,zx]
 grind
theorem qzx:ConP oa zxq qgs:=zd8 trivial qbc fun x y f h=>⟨0,mkP (F:=fun a b c d=>Fz15 0 a b c d x.2.1) h fun a e=>F_is e⟩
theorem zwr(hl:l.length<=140737488355328)(ha:a<=l.length):Fz16 0 l (we a) e fm s=S.dMay (l,we a,e,fm,()) s:=by
 show bs (S.dIs (l,we a,e,fm,()) s) (fun c=>cond (Bool.not c.1.1) (iz (.inr ((eb,()),c.2))) (iz (.inr ((i7,()),(c.2.1.1,IntKind.i64.wrap (oe c.2.1.2.1 (we 1)),c.2.1.2.2),()))))=S.dRun un1 _ ((S.is s).bind fun b=>cond b (S.Pr.next (S.Pr.ret i7)) (S.Pr.ret eb));refine qq ha fun v b f i h=>?_;cases f;cases g:S.isT (S.tkA (S.kts l) a) s with
 | false=>exact retP ha
 | true =>
  have d:=zpq g;rw[xa,qc4 d,<- retP d];simp only[gd,xe,qbz hl ha]
theorem qaz:ConP oa zww ji:=ze2 trivial qzx fun x y e h=>⟨0,mkP (F:=fun a b c d=>Fz16 0 a b c d x.2.1) h fun a f=>zwr (qa6 e.1.1) f⟩
theorem qj8(s:Bq){T:Lz S.KT}:S.run T a (S.may s)=cond (S.isT (S.tkA T a) s) (cond (oo a T.length) (iz (.inr (i7,a+1))) i6) (iz (.inr (eb,a))):=by
 show S.run T a (cond _ _ _)=_;cases S.isT (S.tkA T a) s<;>rfl
theorem zta(ha:a<=l.length):Fz17 0 l (we a) e fm s=S.dMust (l,we a,e,fm,()) s:=by
 have g:S.dMust (l,we a,e,fm,()) s=S.dRun un0 (l,we a,e,fm,()) ((S.may s).bind fun b=>cond b (.ret ()) (.fail 2)):=by
  unfold S.dMust S.must S.may;rw[ck ha];show _=S.dRun un0 _ (.peek fun t=>(cond (S.isT t s) (S.Pr.next (S.Pr.ret i7)) (S.Pr.ret eb)).bind fun b=>cond b (S.Pr.ret ()) (S.Pr.fail 2));rw[ck ha];cases S.isT (S.tkA (S.kts l) a) s<;>rfl
 rw[g];show bs (S.dMay (l,we a,e,fm,()) s) (fun c=>cond (Bool.not c.1.1) (bs (S.dFail c.2.1 (we 2)) fun h=>i6) (iz (.inr ((),c.2))))=_;refine qq ha fun v b i j d=>?_;cases v with
 | true=>exact retP (f:=un0) d
 | false=>exact qos d
theorem qw2:ConP oa zoc nv:=zg5 trivial qaz qdq fun x y f h=>⟨0,mkP (F:=fun a b c d=>Fz17 0 a b c d x.2.1) h fun a e=>zta e⟩
theorem znx(hl:l.length<=140737488355328)(ha:a<=l.length)(hk0:¬k=0):Fz18 0 l (we a) e fm k=S.dRun un1 (l,we a,e,fm,()) (S.kind k):=by
 show qh4 0 l (we a) e fm k=_;unfold qh4 S.kind;rw[ck ha];rw[show (we 0)=(0:Int) from rfl,qbn ha,vd];simp only[bd];cases f:ieqI (S.tkD l a).1 k with
 | false =>
  simp only[gh,xa,xe];exact qos ha
 | true =>
  have b:a<l.length:=qhx (k:=k) hk0 (by rw[vd];exact f);have d:S.tkD l a=l[a]:=by unfold S.tkD;rw[xc b]
  have c:IntKind.i64.wrap (fq (we (a+1)) (we 1))=we a:=by
   show IntKind.i64.wrap (((a+1:Nat):Int)-1)=(a:Int);rw[w64 (by omega) (by omega)];omega
  have g:jget l (we a)=iz l[a]:=by
   unfold jget
   grind
  simp only[gd,xe,xa,qbz hl ha,c,g,bd];rw[qc4 b,<- retP b,d]
theorem qnv:ConP oa zs8 ni:=zvj trivial qbc qdq fun x y f h=>⟨0,by
 have h:cond (Bool.not (ieqI x.2.1 0)) (S.dRun un1 x.1 (S.kind x.2.1)) i6=iz y:=h;obtain⟨e,j⟩:=yx h;exact mkP (F:=fun a b c d=>Fz18 0 a b c d x.2.1) j fun a g=>znx (qa6 f.1.1) g (fun i=>by rw[i] at e;cases e)⟩
theorem zkh:Fz19 0 l at_ e fm=S.dKind (l,at_,e,fm,()) 1:=by
 show bs (S.dKind (l,at_,e,fm,()) 1) (fun a=>iz (.inr a))=_;cases S.dKind (l,at_,e,fm,()) 1 with
 | none=>rfl
 | some v=>cases v<;>rfl
theorem qvz:ConP oa zpw sh:=zzf trivial qnv fun x y a h=>⟨0,(zkh (e:=x.1.2.2.1) (fm:=x.1.2.2.2.1)).trans h⟩
theorem zp8(ha:a<=l.length):Fz20 0 l (we a) e fm no=S.dClass (l,we a,e,fm,()) no:=by
 have c:S.dKind (l,we a,e,fm,()) (we 2)=S.dRun un1 (l,we a,e,fm,()) (S.kind 2):=rfl;unfold S.dClass S.class_;show qld 0 l (we a) e fm no=_;unfold qld;rw[show (we 0)=(0:Int) from rfl,qbn ha,ck ha,vd];simp only[bd,c];have d:bs (S.dRun un1 (l,we a,e,fm,()) (S.kind 2)) (fun b=>iz (.inr b))=S.dRun un1 (l,we a,e,fm,()) (S.kind 2):=by
  cases S.dRun un1 (l,we a,e,fm,()) (S.kind 2) with
  | none=>rfl
  | some v=>cases v<;>rfl
 cases ieqI (S.tkD l a).1 2<;>cases f:S.has no (S.tkD l a).2.1;all_goals first
  | exact d
  | exact qos ha
theorem zwe:ConP oa zeu qx7:=zu2 ⟨q1l,trivial⟩ qbc qdq qnv fun x y f h=>⟨0,mkP (F:=fun a b c d=>Fz20 0 a b c d x.2.1) h fun a e=>zp8 e⟩
end
end Go.Proofs.YtaepcfidpcoofaaGreatDoor
end

section
set_option maxRecDepth 100000
noncomputable section
namespace Go.Proofs.YtaepcfidpcoofaaGreatDoor
open Go Go.Sx Go.RowKit Go.Jx
namespace S
def lev{α:Type}(s:Bq)(f:Int->Bool->α):α:=cond (keqS s (Go.Jx.S.lit [105,109,112,108,105,101,115])) (f 0 i7) (cond (keqS s (Go.Jx.S.lit [111,114])) (f 1 i7) (cond (keqS s (Go.Jx.S.lit [97,110,100])) (f 2 i7) (cond (keqS s (Go.Jx.S.lit [61])) (f 3 i7) (cond (keqS s (Go.Jx.S.lit [47,61])) (f 3 i7) (cond (keqS s (Go.Jx.S.lit [60])) (f 3 i7) (cond (keqS s (Go.Jx.S.lit [60,61])) (f 3 i7) (cond (keqS s (Go.Jx.S.lit [62])) (f 3 i7) (cond (keqS s (Go.Jx.S.lit [62,61])) (f 3 i7) (cond (keqS s (Go.Jx.S.lit [43])) (f 4 i7) (cond (keqS s (Go.Jx.S.lit [45])) (f 4 i7) (cond (keqS s (Go.Jx.S.lit [42])) (f 5 i7) (cond (keqS s (Go.Jx.S.lit [47,47])) (f 5 i7) (cond (keqS s (Go.Jx.S.lit [37])) (f 5 i7) (f 0 eb))))))))))))))
def wrd{α:Type}(s:Bq)(f:zc->Bool->α):α:=cond (keqS s (Go.Jx.S.lit [84,114,117,101])) (f (we 2,Go.Jx.S.lit [],we 1,[]) i7) (cond (keqS s (Go.Jx.S.lit [70,97,108,115,101])) (f (we 2,Go.Jx.S.lit [],we 0,[]) i7) (cond (keqS s (Go.Jx.S.lit [86,111,105,100])) (f (we 3,Go.Jx.S.lit [],we 0,[]) i7) (cond (keqS s (Go.Jx.S.lit [67,117,114,114,101,110,116])) (f (we 4,Go.Jx.S.lit [],we 0,[]) i7) (cond (keqS s (Go.Jx.S.lit [82,101,115,117,108,116])) (f (we 5,Go.Jx.S.lit [],we 0,[]) i7) (f (we 0,Go.Jx.S.lit [],we 0,[]) eb)))))
def opT(k:Int)(t:KT):Bq:=lev t.2 fun n b=>(cond b (cond (ieqI n k) (cond (ieqI t.1 3) t.2 (cond (ieqI t.1 5) t.2 (Go.Jx.S.lit []))) (Go.Jx.S.lit [])) (Go.Jx.S.lit []))
def opr(k:Int):Pr Bq:=.peek fun t=>.ret (opT k t)
def more{α:Type}(s:Bq)(one:Pr α):Nat->Lz α->Pr (Lz α)
 | 0,_=>.stop
 | n+1,acc=>(may s).bind fun b=>cond b (one.bind fun x=>more s one n (acc++[x])) (.ret acc)
def someT{α:Type}(n:Nat)(s:Bq)(one:Pr α):Pr (Lz α):=one.bind fun x=>more s one n [x]
def kid(l:Lz zc):Lz RExpr:=fc (α:=zc) (mk 1) l
def binE(op:Bq)(a b:zc):zc:=(we 7,op,we 0,[RExpr.mk a,RExpr.mk b])
def unE(k:Int)(op:Bq)(a:zc):zc:=(k,op,we 0,[RExpr.mk a])
def callE(nm:Bq)(n:Int)(l:Lz zc):zc:=(we 6,nm,n,kid l)
def add1(k:Int):Int:=IntKind.i64.wrap (oe k (we 1))
def levelL(L:Int->Pr zc)(k:Int):Nat->zc->Pr zc
 | 0,_=>.stop
 | j+1,x=>(opr k).bind fun op=>cond (keqS op (Go.Jx.S.lit [])) (.ret x) (.next (cond (ieqI k 0) ((L k).bind fun y=>.ret (binE op x y)) (cond (ieqI k 3) ((L (add1 k)).bind fun y=>.ret (binE op x y)) ((L (add1 k)).bind fun y=>levelL L k j (binE op x y)))))
def callL(A:Pr (Lz zc)):Nat->zc->Pr zc
 | 0,_=>.stop
 | j+1,x=>(may (Go.Jx.S.lit [46])).bind fun b=>cond b ((kind 1).bind fun nm=>A.bind fun l=>callL A j (callE nm (we 1) (x::l))) (.ret x)
def prim2(E C:Pr zc):Pr zc:=(may (Go.Jx.S.lit [40])).bind fun b=>cond b (E.bind fun x=>(must (Go.Jx.S.lit [41])).bind fun _=>.ret x)
  ((must (Go.Jx.S.lit [97,116,116,97,99,104,101,100])).bind fun _=>C.bind fun x=>(must (Go.Jx.S.lit [97,115])).bind fun _=>(kind 1).bind fun nm=>.ret (unE (we 10) nm x))
mutual
def expr:Nat->Pr zc
 | 0=>.stop
 | n+1=>level n 0
def level:Nat->Int->Pr zc
 | 0,_=>.stop
 | n+1,k=>cond (ieqI k 6) (front n) ((level n (add1 k)).bind fun x=>levelL (level n) k n x)
def front:Nat->Pr zc
 | 0=>.stop
 | n+1=>.peek fun t=>(may (Go.Jx.S.lit [45])).bind fun b=>cond b ((front n).bind fun x=>.ret (unE (we 8) t.2 x)) ((may (Go.Jx.S.lit [110,111,116])).bind fun b=>cond b ((front n).bind fun x=>.ret (unE (we 8) t.2 x))
   ((may (Go.Jx.S.lit [111,108,100])).bind fun b=>cond b ((front n).bind fun x=>.ret (unE (we 9) (Go.Jx.S.lit []) x)) (call n)))
def call:Nat->Pr zc
 | 0=>.stop
 | n+1=>(primary n).bind fun x=>callL (args n) n x
def primary:Nat->Pr zc
 | 0=>.stop
 | n+1=>.peek fun t=>cond (ieqI t.1 4) (.next (.ret (we 1,Go.Jx.S.lit [],(value t.2).1,[]))) (cond (ieqI t.1 1) (.next ((args n).bind fun l=>.ret (callE t.2 (we 0) l)))
   (cond (ieqI t.1 3) (wrd t.2 fun x b=>cond b (.next (.ret x)) (prim2 (expr n) (call n))) (prim2 (expr n) (call n))))
def args:Nat->Pr (Lz zc)
 | 0=>.stop
 | n+1=>(may (Go.Jx.S.lit [40])).bind fun b=>cond b ((someT n (Go.Jx.S.lit [44]) (expr n)).bind fun l=>(must (Go.Jx.S.lit [41])).bind fun _=>.ret l) (.ret [])
end
def dOperator(p:DPr)(k:Int):Oq (DSl ⊕ ((Bq × Unit) × DPr × Unit)):=dRun un1 p (opr k)
section
variable [Φ : Fuel]
def dExpr(p:DPr):Oq (DSl ⊕ ((zc × Unit) × DPr × Unit)):=dRun un1 p (expr Φ.n)
def dLevel(p:DPr)(k:Int):Oq (DSl ⊕ ((zc × Unit) × DPr × Unit)):=dRun un1 p (level Φ.n k)
def dFront(p:DPr):Oq (DSl ⊕ ((zc × Unit) × DPr × Unit)):=dRun un1 p (front Φ.n)
def dCall(p:DPr):Oq (DSl ⊕ ((zc × Unit) × DPr × Unit)):=dRun un1 p (call Φ.n)
def dPrimary(p:DPr):Oq (DSl ⊕ ((zc × Unit) × DPr × Unit)):=dRun un1 p (primary Φ.n)
def dArgs(p:DPr):Oq (DSl ⊕ ((Lz zc × Unit) × DPr × Unit)):=dRun un1 p (args Φ.n)
def dSomeExpr(p:DPr)(s:Bq):Oq (DSl ⊕ ((Lz zc × Unit) × DPr × Unit)):=dRun un1 p (someT Φ.n s (expr Φ.n))
end
end S
def ql7:SmP:=⟨[pkP,.dat (.int .i64)],[(eb,.str)],113,pI,fun x=>S.dOperator x.1 x.2.1⟩
def qxx:Sm:=⟨[.str,cExpr,cExpr],[(eb,cExpr)],fun x=>iz (S.binE x.1 x.2.1 x.2.2.1,())⟩
section
variable [Φ : Fuel]
def cv:SmP:=⟨[pkP],[(eb,cExpr)],113,pI,fun x=>S.dExpr x.1⟩
def qa8:SmP:=⟨[pkP,.dat (.int .i64)],[(eb,cExpr)],113,pI,fun x=>S.dLevel x.1 x.2.1⟩
def tb:SmP:=⟨[pkP],[(eb,cExpr)],113,pI,fun x=>S.dFront x.1⟩
def sp:SmP:=⟨[pkP],[(eb,cExpr)],113,pI,fun x=>S.dCall x.1⟩
def qks:SmP:=⟨[pkP],[(eb,cExpr)],113,pI,fun x=>S.dPrimary x.1⟩
def qa3:SmP:=⟨[pkP],[(eb,.list cExpr)],113,pI,fun x=>S.dArgs x.1⟩
def qnl:SmP:=⟨[pkP,.dat .str,.bnd 67 0],[(eb,.list cExpr)],113,pI,fun x=>S.dSomeExpr x.1 x.2.1⟩
end
end Go.Proofs.YtaepcfidpcoofaaGreatDoor
end

noncomputable section
set_option maxRecDepth 100000
namespace Go.Proofs.YtaepcfidpcoofaaGreatDoor
open Go Go.Sx Go.RowKit Go.Jx
def qul:Sm:=⟨[.str],[(eb,.int .i64),(eb,.int .i64)],fun x=>iz ((S.value x.1).1,(S.value x.1).2,())⟩
abbrev qlm:Type:=Int × Int × Unit
abbrev ztf:Nat:=254
def qxj(lf:Nat)(x1:Bq):Oq qlm:=(cond (Bool.not (ieqI (S.shape x1).2 (we 0))) (iz ((we 0),((S.shape x1).2,()))) (cond (Bool.not (ieqI (S.shape x1).1 (we 4))) (iz ((we 0),((we 2),()))) (iz ((S.number x1).1,((S.number x1).2,())))))
def qip(lf:Nat)(x1:Bq):Oq qlm:=qxj lf x1
theorem zsw{g:ElA [.str]->Oq qlm}(hsm:SmOK oa [(275,qd1),(331,spz7)])(hg:∀(x:ElA [.str]) (y:qlm),WfA [.str] x->g x=iz y->∃lf,qip lf x.1=iz y):Con oa 254 ⟨[.str],[(eb,(.int .i64)),(eb,(.int .i64))],g⟩ :=
 conU (fi:=q41) (hxl:=[]) (fun lf x=>qip lf x.1) cm3 zrt trivial hsm hg
theorem zrj(lf:Nat)(s:Bq):qip lf s=iz ((S.value s).1,(S.value s).2,()):=by
 simp only[qip,qxj,S.value,zx];simp only[oL];by_cases h:(S.shape s).2=0
 ·rw[xt h,xx h];by_cases a:(S.shape s).1=4
  ·rw[xt a,xx a];rfl
  ·rw[xq a,xr a];rfl
 ·rw[xq h,xr h];rfl
theorem q82:Con oa ztf qul:=zsw ⟨qkq,q6b,trivial⟩ fun x y a h=>⟨0,(zrj 0 x.1).trans h⟩
end Go.Proofs.YtaepcfidpcoofaaGreatDoor
end
