/- Texts: Dt6, Dt7, Dt8, Dt9, Dt10, Dq5, Drd. -/
import Derived.Test.YtaepcfidpcoofaaGreatDoorMb5
import Derived.Test.YtaepcfidpcoofaaGreatDoorRows
import Derived.Test.YtaepcfidpcoofaaGreatDoorMb3
import Derived.ProofKit
import Derived.OpenShut
import Derived.LaidMore
import Derived.Lay
import Derived.Lib.LaidTab
import Derived.Stop.LaidErr
set_option linter.unusedVariables false
set_option linter.unusedSectionVars false
set_option linter.unusedSimpArgs false
set_option linter.unnecessarySimpa false
open Bool renaming false->eb,true->i7
open Go renaming TypeId->ov,Value->oc,World->oh
open Go.IntKind renaming bits->az,signed->m8,wrap->ag
open Go.Proofs.Tryz renaming prog->oa
open Int renaming add->oe,ofNat->we,sub->fq
open List renaming append->oz,length->oq
open Nat renaming add->o5,ble->og,blt->oo,mul->o7
open Option renaming none->i6,some->iz
noncomputable section
set_option maxRecDepth 100000
namespace Go.Proofs.YtaepcfidpcoofaaGreatDoor
open Go Go.Sx Go.RowKit Go.Jx
section
namespace S
def RP:Bq:=Go.Jx.S.lit [41]
def qT(T:Lz KT)(a:Nat):Nat:=(T.take a).countP fun t=>keqS t.2 RP
def dT(T:Lz KT)(a:Nat):Int:=(pT T a:Int)-(qT T a:Int)
end S
def NoBr(T:Lz S.KT):Prop:=∀t∈T,¬t.1=5->keqS t.2 S.LP=eb/\keqS t.2 S.RP=eb
def Bal(T:Lz S.KT)(a b:Nat):Prop:=a<=b/\S.dT T b=S.dT T a/\∀i,a<=i->i<=b->S.dT T a<=S.dT T i
section
variable {T : Lz S.KT} {a b c : Nat}
theorem zy1(h:a<T.length):S.qT T (a+1)=S.qT T a+cond (keqS (S.tkA T a).2 S.RP) 1 0:=by
 unfold S.qT S.tkA;rw[jbr,xc h,jbm]
 grind
theorem qhf(h:a<T.length):S.dT T (a+1)=S.dT T a+cond (keqS (S.tkA T a).2 S.LP) 1 0-cond (keqS (S.tkA T a).2 S.RP) 1 0:=by
 unfold S.dT;rw[q4e h,zy1 h]
 grind
theorem qru:keqS S.LP S.RP=eb:=by decide +kernel
theorem zws:keqS S.RP S.LP=eb:=by decide +kernel
theorem qio:keqS S.LP S.LP=i7:=by decide +kernel
theorem zrw:keqS S.RP S.RP=i7:=by decide +kernel
theorem zgb(h:a<T.length)(e:(S.tkA T a).2=S.LP):S.dT T (a+1)=S.dT T a+1:=by
 rw[qhf h,e,qio,qru];simp
theorem zhy(h:a<T.length)(e:(S.tkA T a).2=S.RP):S.dT T (a+1)=S.dT T a-1:=by
 rw[qhf h,e,zws,zrw];simp
theorem Bal.refl:Bal T a a:=⟨xl _,rfl,fun i c b=>by rw[show i=a by omega];exact gr _⟩
theorem Bal.trans(h1:Bal T a b)(h2:Bal T b c):Bal T a c:=⟨py h1.1 h2.1,h2.2.1.trans h1.2.1,fun i e d=>by
 by_cases h:i<=b
 ·exact h1.2.2 i e h
 ·rw[<- h1.2.1];exact h2.2.2 i (by omega) d⟩
theorem Bal.one(h:a<T.length)(h1:keqS (S.tkA T a).2 S.LP=eb)(h2:keqS (S.tkA T a).2 S.RP=eb):Bal T a (a+1):=by
 have e:S.dT T (a+1)=S.dT T a:=by rw[qhf h,h1,h2];simp
 refine⟨df _,e,fun i c b=>?_⟩
 grind
theorem Bal.par(ha:a<T.length)(hb:b<T.length)(h1:(S.tkA T a).2=S.LP)(h2:(S.tkA T b).2=S.RP)(h:Bal T (a+1) b):Bal T a (b+1):=by
 have k:=zgb ha h1;have j:=zhy hb h2;obtain⟨g,f,e⟩:=h;refine⟨by omega,by omega,fun i d c=>?_⟩
 grind
theorem Bal.isT{s:Bq}(h:a<T.length)(hk:S.isT (S.tkA T a) s=i7)(h1:keqS s S.LP=eb)(h2:keqS s S.RP=eb):Bal T a (a+1) :=
 Bal.one h (by rw[co hk];exact h1) (by rw[co hk];exact h2)
theorem Bal.kd(hT:NoBr T)(h:a<T.length)(hk:¬(S.tkA T a).1=5):Bal T a (a+1):=Bal.one h (hT _ (qg7 h) hk).1 (hT _ (qg7 h) hk).2
theorem q3t{k:Int}{t:S.KT}{s:Bq}(hs:∀(α:Type) (f:Int->Bool->α),S.lev s f=f 0 eb)(h:keqS (S.opT k t) (Go.Jx.S.lit [])=eb):keqS t.2 s=eb:=by
 cases a:keqS t.2 s with
 | false=>rfl
 | true =>
  have e:t.2=s:=xu a;have b:S.opT k t=Go.Jx.S.lit []:=by unfold S.opT;rw[e,hs];rfl
  rw[b] at h;exact absurd (h.symm.trans (by decide +kernel:keqS (Go.Jx.S.lit []) (Go.Jx.S.lit [])=i7)) (by decide)
theorem q7z{s:Bq}(h:S.lev s (fun _ b=>b)=eb):∀(α:Type) (f:Int->Bool->α),S.lev s f=f 0 eb:=by
 rcases q6t s with ⟨n,_,_,_,h2⟩|h2
 ·grind
 ·grind
theorem Bal.op{k:Int}(h:a<T.length)(hop:keqS (S.opT k (S.tkA T a)) (Go.Jx.S.lit [])=eb):Bal T a (a+1):=Bal.one h (q3t (q7z (by decide +kernel)) hop) (q3t (q7z (by decide +kernel)) hop)
theorem q2j{α:Type}{one:S.Pr α}{s:Bq}(hs:keqS s S.LP=eb/\keqS s S.RP=eb)(h:∀{a v b},S.run T a one=iz (.inr (v,b))->Bal T a b):∀(n:Nat) {acc:Lz α} {a b:Nat} {v},S.run T a (S.more s one n acc)=iz (.inr (v,b))->Bal T a b
 | 0,acc,a,b,v,hr=>by cases hr
 | n+1,acc,a,b,v,hr=>by
  unfold S.more at hr;rcases q9 hr with ⟨h1,h2,h3⟩|h3
  ·obtain⟨u,c,h4,h5⟩:=zz h3;exact(Bal.isT h1 h2 hs.1 hs.2).trans ((h h4).trans (q2j hs h n h5))
  ·cases h3;exact Bal.refl
theorem q3i{L:Int->S.Pr zc}{k:Int}(hL:∀{q a v b},S.run T a (L q)=iz (.inr (v,b))->Bal T a b):∀(n:Nat) {x:zc} {a b:Nat} {v},S.run T a (S.levelL L k n x)=iz (.inr (v,b))->Bal T a b
 | 0,x,a,b,v,hr=>by cases hr
 | n+1,x,a,b,v,hr=>by
  unfold S.levelL at hr;have hr:S.run T a (cond (keqS (S.opT k (S.tkA T a)) (Go.Jx.S.lit [])) (.ret x) (.next (cond (ieqI k 0) ((L k).bind fun y=>.ret (S.binE (S.opT k (S.tkA T a)) x y)) (cond (ieqI k 3) ((L (S.add1 k)).bind fun y=>.ret (S.binE (S.opT k (S.tkA T a)) x y)) ((L (S.add1 k)).bind fun y=>S.levelL L k n (S.binE (S.opT k (S.tkA T a)) x y))))))=iz (.inr (v,b)):=hr;cases hop:keqS (S.opT k (S.tkA T a)) (Go.Jx.S.lit []) with
  | true=>rw[hop] at hr;cases hr;exact Bal.refl
  | false =>
   rw[hop] at hr;obtain⟨hlt,hr⟩:=yb hr;refine(Bal.op hlt hop).trans ?_;cases k0:ieqI k 0 with
   | true=>rw[k0] at hr;obtain⟨y,c,h4,h5⟩:=zz hr;cases h5;exact hL h4
   | false =>
    rw[k0] at hr;cases k3:ieqI k 3 with
    | true=>rw[k3] at hr;obtain⟨y,c,h4,h5⟩:=zz hr;cases h5;exact hL h4
    | false=>rw[k3] at hr;obtain⟨y,c,h4,h5⟩:=zz hr;exact(hL h4).trans (q3i hL n h5)
theorem q98(hT:NoBr T){A:S.Pr (Lz zc)}(hA:∀{a v b},S.run T a A=iz (.inr (v,b))->Bal T a b):∀(n:Nat) {x:zc} {a b:Nat} {v},S.run T a (S.callL A n x)=iz (.inr (v,b))->Bal T a b
 | 0,x,a,b,v,hr=>by cases hr
 | n+1,x,a,b,v,hr=>by
  unfold S.callL at hr;rcases q9 hr with ⟨h1,h2,h3⟩|h3
  ·obtain⟨h4,h5,h6⟩:=qde h3;obtain⟨l,c,h7,h8⟩:=zz h6;exact(Bal.isT h1 h2 (by decide +kernel) (by decide +kernel)).trans ((Bal.kd hT h4 (by rw[h5];decide)).trans ((hA h7).trans (q98 hT hA n h8)))
  ·cases h3;exact Bal.refl
structure BlE (T:List S.KT) (n:Nat):Prop where
 expr:∀{a v b},S.run T a (S.expr n)=iz (.inr (v,b))->Bal T a b
 level:∀{a v b} {k:Int},S.run T a (S.level n k)=iz (.inr (v,b))->Bal T a b
 front:∀{a v b},S.run T a (S.front n)=iz (.inr (v,b))->Bal T a b
 call:∀{a v b},S.run T a (S.call n)=iz (.inr (v,b))->Bal T a b
 primary:∀{a v b},S.run T a (S.primary n)=iz (.inr (v,b))->Bal T a b
 args:∀{a v b},S.run T a (S.args n)=iz (.inr (v,b))->Bal T a b
theorem blE(hT:NoBr T):∀n,BlE T n
 | 0=>by constructor<;>(intros;rename_i h;cases h)
 | n+1=>by
  have ih:=blE hT n;refine⟨fun {a v b} hr=>ih.level hr,fun {a v b k} hr=>?_,fun {a v b} hr=>?_,fun {a v b} hr=>?_,fun {a v b} hr=>?_,fun {a v b} hr=>?_⟩
  ·have hr:S.run T a (cond (ieqI k 6) (S.front n) ((S.level n (S.add1 k)).bind fun x=>S.levelL (S.level n) k n x))=iz (.inr (v,b)):=hr;cases hk:ieqI k 6 with
   | true=>rw[hk] at hr;exact ih.front hr
   | false =>
    rw[hk] at hr;obtain⟨x,c,h1,h2⟩:=zz hr;exact(ih.level h1).trans (q3i (fun h=>ih.level h) n h2)
  ·unfold S.front at hr
   have hr:S.run T a ((S.may (Go.Jx.S.lit [45])).bind fun b=>cond b ((S.front n).bind fun x=>.ret (S.unE (we 8) (S.tkA T a).2 x)) ((S.may (Go.Jx.S.lit [110,111,116])).bind fun b=>cond b ((S.front n).bind fun x=>.ret (S.unE (we 8) (S.tkA T a).2 x))
     ((S.may (Go.Jx.S.lit [111,108,100])).bind fun b=>cond b ((S.front n).bind fun x=>.ret (S.unE (we 9) (Go.Jx.S.lit []) x)) (S.call n))))=iz (.inr (v,b)):=hr
   rcases q9 hr with ⟨h1,h2,h3⟩|hr
   ·obtain⟨x,c,h4,h5⟩:=zz h3;cases h5;exact(Bal.isT h1 h2 (by decide +kernel) (by decide +kernel)).trans (ih.front h4)
   rcases q9 hr with ⟨h1,h2,h3⟩|hr
   ·obtain⟨x,c,h4,h5⟩:=zz h3;cases h5;exact(Bal.isT h1 h2 (by decide +kernel) (by decide +kernel)).trans (ih.front h4)
   rcases q9 hr with ⟨h1,h2,h3⟩|hr
   ·obtain⟨x,c,h4,h5⟩:=zz h3;cases h5;exact(Bal.isT h1 h2 (by decide +kernel) (by decide +kernel)).trans (ih.front h4)
   ·exact ih.call hr
  ·unfold S.call at hr;obtain⟨x,c,h4,h5⟩:=zz hr;exact(ih.primary h4).trans (q98 hT (fun h=>ih.args h) n h5)
  ·unfold S.primary at hr
   have hr:S.run T a (cond (ieqI (S.tkA T a).1 4) (.next (.ret (we 1,Go.Jx.S.lit [],(S.value (S.tkA T a).2).1,[]))) (cond (ieqI (S.tkA T a).1 1) (.next ((S.args n).bind fun l=>.ret (S.callE (S.tkA T a).2 (we 0) l)))
     (cond (ieqI (S.tkA T a).1 3) (S.wrd (S.tkA T a).2 fun x b=>cond b (.next (.ret x)) (S.prim2 (S.expr n) (S.call n))) (S.prim2 (S.expr n) (S.call n)))))=iz (.inr (v,b)):=hr
   have hp2:∀{v b},S.run T a (S.prim2 (S.expr n) (S.call n))=iz (.inr (v,b))->Bal T a b:=fun {v b} hr=>by
    unfold S.prim2 at hr;rcases q9 hr with ⟨h1,h2,h3⟩|h3
    ·obtain⟨x,c,h4,h5⟩:=zz h3;obtain⟨h6,h7,h8⟩:=vu h5;cases h8;exact Bal.par h1 h6 (co h2) (co h7) (ih.expr h4)
    ·obtain⟨h1,h2,h4⟩:=vu h3;obtain⟨x,c,h5,h6⟩:=zz h4;obtain⟨h7,h8,h9⟩:=vu h6;obtain⟨g1,g2,g3⟩:=qde h9;cases g3;exact(Bal.isT h1 h2 (by decide +kernel) (by decide +kernel)).trans ((ih.call h5).trans ((Bal.isT h7 h8 (by decide +kernel) (by decide +kernel)).trans (Bal.kd hT g1 (by rw[g2];decide))))
   cases h4:ieqI (S.tkA T a).1 4 with
   | true =>
    rw[h4] at hr;obtain⟨h1,h2⟩:=yb hr;cases h2;rw[zx] at h4;exact Bal.kd hT h1 (by rw[xu h4];decide)
   | false =>
    rw[h4] at hr;cases h5:ieqI (S.tkA T a).1 1 with
    | true =>
     rw[h5] at hr;obtain⟨h1,h2⟩:=yb hr;obtain⟨l,c,h6,h7⟩:=zz h2;cases h7;rw[zx] at h5;exact(Bal.kd hT h1 (by rw[xu h5];decide)).trans (ih.args h6)
    | false =>
     rw[h5] at hr;cases h6:ieqI (S.tkA T a).1 3 with
     | false=>rw[h6] at hr;exact hp2 hr
     | true =>
      rw[h6] at hr;simp only[xa,xe] at hr;rw[zx] at h6;rcases q56 (S.tkA T a).2 with ⟨x,hl,⟨w,hw,hx⟩,hf⟩|hf
      ·rw[hf] at hr;obtain⟨h1,h2⟩:=yb hr;cases h2;exact Bal.kd hT h1 (by rw[xu h6];decide)
      ·obtain⟨x,hf⟩:=hf _ fun x b=>cond b (.next (.ret x)) (S.prim2 (S.expr n) (S.call n))
       grind
  ·unfold S.args at hr;rcases q9 hr with ⟨h1,h2,h3⟩|h3
   ·obtain⟨l,c,h4,h5⟩:=zz h3;obtain⟨h6,h7,h8⟩:=vu h5;cases h8;unfold S.someT at h4;obtain⟨x,d,g1,g2⟩:=zz h4;exact Bal.par h1 h6 (co h2) (co h7) ((ih.expr g1).trans (q2j ⟨by decide +kernel,by decide +kernel⟩ (fun h=>ih.expr h) n g2))
   ·cases h3;exact Bal.refl
end
end
section
def Nz{α:Type}:S.Pr α->Prop
 | .ret _=>True
 | .stop=>True
 | .fail e=>¬e=0
 | .peek k=>∀t,Nz (k t)
 | .peek2 k=>∀t,Nz (k t)
 | .next k=>Nz k
def Few:Nat->zc->Prop
 | 0,_=>False
 | n+1,x=>∀k∈unL x.2.2.2,Few n k
section
variable {α β : Type} {T : Lz S.KT} {a b c : Nat}
theorem Nz.run:∀{t:S.Pr α} {a b:Nat} {e:Int},Nz t->S.run T a t=iz (.inl (e,b))->¬e=0
 | .ret v,a,b,e,h,hr=>by cases hr
 | .stop,a,b,e,h,hr=>by cases hr
 | .fail e',a,b,e,h,hr=>by cases hr;exact h
 | .peek k,a,b,e,h,hr=>Nz.run (t:=k _) (h _) hr
 | .peek2 k,a,b,e,h,hr=>Nz.run (t:=k _) (h _) hr
 | .next k,a,b,e,h,hr=>by
  have hr:cond (oo a T.length) (S.run T (a+1) k) i6=_:=hr;cases hb:oo a T.length with
  | false=>rw[hb] at hr;cases hr
  | true=>rw[hb] at hr;exact Nz.run (t:=k) h hr
theorem Nz.bind{f:α->S.Pr β}(hf:∀v,Nz (f v)):∀{t:S.Pr α},Nz t->Nz (t.bind f)
 | .ret v,h=>hf v
 | .stop,h=>trivial
 | .fail e,h=>h
 | .peek k,h=>fun t=>Nz.bind hf (h t)
 | .peek2 k,h=>fun t=>Nz.bind hf (h t)
 | .next k,h=>Nz.bind (t:=k) hf h
theorem Nz.ret{v:α}:Nz (.ret v):=trivial
theorem Nz.cond{c:Bool}{x y:S.Pr α}(hx:Nz x)(hy:Nz y):Nz (cond c x y):=by cases c<;>assumption
theorem Nz.may{s:Bq}:Nz (S.may s):=fun t=>Nz.cond (x:=.next (.ret i7)) trivial trivial
theorem Nz.must{s:Bq}:Nz (S.must s):=fun t=>Nz.cond (x:=.next (.ret ())) trivial (by decide:¬(2:Int)=0)
theorem Nz.kind{k:Int}:Nz (S.kind k):=fun t=>Nz.cond (x:=.next (.ret t.2)) trivial (by decide:¬(2:Int)=0)
theorem Nz.more{s:Bq}{one:S.Pr α}(h:Nz one):∀(n:Nat) {acc:Lz α},Nz (S.more s one n acc)
 | 0,acc=>trivial
 | n+1,acc=>Nz.bind (fun v=>Nz.cond (Nz.bind (fun x=>Nz.more h n) h) Nz.ret) Nz.may
theorem Nz.levelL{L:Int->S.Pr zc}{k:Int}(h:∀q,Nz (L q)):∀(n:Nat) {x:zc},Nz (S.levelL L k n x)
 | 0,x=>trivial
 | n+1,x=>fun t=>Nz.cond trivial (Nz.cond (Nz.bind (fun y=>Nz.ret) (h _)) (Nz.cond (Nz.bind (fun y=>Nz.ret) (h _)) (Nz.bind (fun y=>Nz.levelL h n) (h _))))
theorem Nz.callL{A:S.Pr (Lz zc)}(h:Nz A):∀(n:Nat) {x:zc},Nz (S.callL A n x)
 | 0,x=>trivial
 | n+1,x=>Nz.bind (fun v=>Nz.cond (Nz.bind (fun nm=>Nz.bind (fun l=>Nz.callL h n) h) Nz.kind) Nz.ret) Nz.may
theorem Nz.prim2{E C:S.Pr zc}(hE:Nz E)(hC:Nz C):Nz (S.prim2 E C) :=
 Nz.bind (fun v=>Nz.cond (Nz.bind (fun x=>Nz.bind (fun _=>Nz.ret) Nz.must) hE) (Nz.bind (fun _=>Nz.bind (fun x=>Nz.bind (fun _=>Nz.bind (fun a=>Nz.ret) Nz.kind) Nz.must) hC) Nz.must)) Nz.may
theorem q4r{Q:α->Prop}(s:Bq)(f:zc->Bool->α)(h:∀(x:zc) (b:Bool),x.2.2.2=[]->Q (f x b)):Q (S.wrd s f):=by
 unfold S.wrd
 grind
structure NzE (n:Nat):Prop where
 expr:Nz (S.expr n)
 level:∀k,Nz (S.level n k)
 front:Nz (S.front n)
 call:Nz (S.call n)
 primary:Nz (S.primary n)
 args:Nz (S.args n)
theorem nzE:∀n,NzE n
 | 0=>⟨trivial,fun _=>trivial,trivial,trivial,trivial,trivial⟩
 | n+1=>by
  have ih:=nzE n;refine⟨ih.level 0,fun k=>Nz.cond ih.front (Nz.bind (fun x=>Nz.levelL ih.level n) (ih.level _)),fun t=>?_,Nz.bind (fun x=>Nz.callL ih.args n) ih.primary,fun t=>?_,?_⟩
  ·exact Nz.bind (fun v=>Nz.cond (Nz.bind (fun x=>Nz.ret) ih.front) (Nz.bind (fun v=>Nz.cond (Nz.bind (fun x=>Nz.ret) ih.front) (Nz.bind (fun v=>Nz.cond (Nz.bind (fun x=>Nz.ret) ih.front) ih.call) Nz.may)) Nz.may)) Nz.may
  ·have h2:=Nz.prim2 ih.expr ih.call;exact Nz.cond trivial (Nz.cond (Nz.bind (t:=S.args n) (fun l=>Nz.ret) ih.args) (Nz.cond (q4r (Q:=Nz) _ _ fun x b _=>Nz.cond trivial h2) h2))
  ·exact Nz.bind (fun v=>Nz.cond (Nz.bind (fun l=>Nz.bind (fun _=>Nz.ret) Nz.must) (Nz.bind (fun x=>Nz.more ih.expr n) ih.expr)) Nz.ret) Nz.may
theorem Few.mono:∀{n m:Nat} {x:zc},n<=m->Few n x->Few m x
 | 0,m,x,_,h=>h.elim
 | n+1,0,x,h1,h=>absurd h1 (by omega)
 | n+1,m+1,x,h1,h=>fun k hk=>Few.mono (Nat.le_of_succ_le_succ h1) (h k hk)
theorem q3h:∀l:Lz zc,unL (S.kid l)=l
 | []=>rfl
 | x::l=>xy (x::·) (q3h l)
theorem Few.bin{n:Nat}{op:Bq}{x y:zc}(hx:Few n x)(hy:Few n y):Few (n+1) (S.binE op x y):=fun k a=>by
 have a:k∈[x,y]:=a
 grind
theorem Few.un{n:Nat}{q:Int}{op:Bq}{x:zc}(hx:Few n x):Few (n+1) (S.unE q op x):=fun k a=>by
 have a:k∈[x]:=a
 grind
theorem Few.call{n:Nat}{q:Int}{op:Bq}{l:Lz zc}(h:∀x∈l,Few n x):Few (n+1) (S.callE op q l):=fun k a=>by
 have e:unL (S.callE op q l).2.2.2=l:=q3h l
 grind
theorem zay{one:S.Pr zc}{s:Bq}(h:∀{a v b},S.run T a one=iz (.inr (v,b))->Few (b-a) v):∀(n:Nat) {acc:Lz zc} {o a b:Nat} {v},o<=a->(∀x∈acc,Few (a-o) x)->S.run T a (S.more s one n acc)=iz (.inr (v,b))->∀x∈v,Few (b-o) x
 | 0,acc,o,a,b,v,ho,h0,hr=>by cases hr
 | n+1,acc,o,a,b,v,ho,h0,hr=>by
  unfold S.more at hr;rcases q9 hr with ⟨h1,h2,h3⟩|h3
  ·obtain⟨u,c,h4,h5⟩:=zz h3;have hc:=(kh h4).1;refine zay h n (by omega) (fun x hx=>?_) h5;rcases p4.1 hx with hx|hx
   ·exact(h0 x hx).mono (by omega)
   ·simp only[po,jan,or_false] at hx;rw[hx];exact(h h4).mono (by omega)
  ·cases h3;exact h0
theorem q5o{L:Int->S.Pr zc}{k:Int}(hL:∀{q a v b},S.run T a (L q)=iz (.inr (v,b))->Few (b-a) v):∀(n:Nat) {x:zc} {o a b:Nat} {v},o<=a->Few (a-o) x->S.run T a (S.levelL L k n x)=iz (.inr (v,b))->Few (b-o) v
 | 0,x,o,a,b,v,ho,h0,hr=>by cases hr
 | n+1,x,o,a,b,v,ho,h0,hr=>by
  unfold S.levelL at hr;have hr:S.run T a (cond (keqS (S.opT k (S.tkA T a)) (Go.Jx.S.lit [])) (.ret x) (.next (cond (ieqI k 0) ((L k).bind fun y=>.ret (S.binE (S.opT k (S.tkA T a)) x y)) (cond (ieqI k 3) ((L (S.add1 k)).bind fun y=>.ret (S.binE (S.opT k (S.tkA T a)) x y)) ((L (S.add1 k)).bind fun y=>S.levelL L k n (S.binE (S.opT k (S.tkA T a)) x y))))))=iz (.inr (v,b)):=hr;cases hop:keqS (S.opT k (S.tkA T a)) (Go.Jx.S.lit []) with
  | true=>rw[hop] at hr;cases hr;exact h0
  | false =>
   rw[hop] at hr;obtain⟨hlt,hr⟩:=yb hr;have key:∀{q y c},S.run T (a+1) (L q)=iz (.inr (y,c))->a+1<=c/\Few (c-o) (S.binE (S.opT k (S.tkA T a)) x y):=fun {q y c} h4=>by
    have hc:=(kh h4).1;exact⟨hc,(Few.bin (n:=c-o-1) (h0.mono (by omega)) ((hL h4).mono (by omega))).mono (by omega)⟩
   cases k0:ieqI k 0 with
   | true=>rw[k0] at hr;obtain⟨y,c,h4,h5⟩:=zz hr;cases h5;exact(key h4).2
   | false =>
    rw[k0] at hr;cases k3:ieqI k 3 with
    | true=>rw[k3] at hr;obtain⟨y,c,h4,h5⟩:=zz hr;cases h5;exact(key h4).2
    | false =>
     rw[k3] at hr;obtain⟨y,c,h4,h5⟩:=zz hr;have:=(key h4).1;exact q5o hL n (by omega) (key h4).2 h5
theorem q92{A:S.Pr (Lz zc)}(hA:∀{a v b},S.run T a A=iz (.inr (v,b))->∀x∈v,Few (b-a) x):∀(n:Nat) {x:zc} {o a b:Nat} {v},o<=a->Few (a-o) x->S.run T a (S.callL A n x)=iz (.inr (v,b))->Few (b-o) v
 | 0,x,o,a,b,v,ho,h0,hr=>by cases hr
 | n+1,x,o,a,b,v,ho,h0,hr=>by
  unfold S.callL at hr;rcases q9 hr with ⟨h1,h2,h3⟩|h3
  ·obtain⟨h4,h5,h6⟩:=qde h3;obtain⟨l,c,h7,h8⟩:=zz h6;have hc:=(kh h7).1;refine q92 hA n (by omega) ((Few.call (n:=c-o-1) fun y hy=>?_).mono (by omega)) h8;rcases po.1 hy with rfl|hy
   ·exact h0.mono (by omega)
   ·exact(hA h7 y hy).mono (by omega)
  ·cases h3;exact h0
structure FwE (T:List S.KT) (n:Nat):Prop where
 expr:∀{a v b},S.run T a (S.expr n)=iz (.inr (v,b))->Few (b-a) v
 level:∀{a v b} {k:Int},S.run T a (S.level n k)=iz (.inr (v,b))->Few (b-a) v
 front:∀{a v b},S.run T a (S.front n)=iz (.inr (v,b))->Few (b-a) v
 call:∀{a v b},S.run T a (S.call n)=iz (.inr (v,b))->Few (b-a) v
 primary:∀{a v b},S.run T a (S.primary n)=iz (.inr (v,b))->Few (b-a) v
 args:∀{a v b},S.run T a (S.args n)=iz (.inr (v,b))->∀x∈v,Few (b-a) x
theorem fwE(T:Lz S.KT):∀n,FwE T n
 | 0=>⟨fun {a v b} h=>(by cases h),fun {a v b k} h=>(by cases h),fun {a v b} h=>(by cases h),fun {a v b} h=>(by cases h),fun {a v b} h=>(by cases h),fun {a v b} h=>(by cases h)⟩
 | n+1=>by
  have ih:=fwE T n;refine⟨fun {a v b} hr=>ih.level hr,fun {a v b k} hr=>?_,fun {a v b} hr=>?_,fun {a v b} hr=>?_,fun {a v b} hr=>?_,fun {a v b} hr=>?_⟩
  ·have hr:S.run T a (cond (ieqI k 6) (S.front n) ((S.level n (S.add1 k)).bind fun x=>S.levelL (S.level n) k n x))=iz (.inr (v,b)):=hr;cases hk:ieqI k 6 with
   | true=>rw[hk] at hr;exact ih.front hr
   | false =>
    rw[hk] at hr;obtain⟨x,c,h1,h2⟩:=zz hr;exact q5o (fun h=>ih.level h) n (kh h1).1 (ih.level h1) h2
  ·unfold S.front at hr
   have hr:S.run T a ((S.may (Go.Jx.S.lit [45])).bind fun b=>cond b ((S.front n).bind fun x=>.ret (S.unE (we 8) (S.tkA T a).2 x)) ((S.may (Go.Jx.S.lit [110,111,116])).bind fun b=>cond b ((S.front n).bind fun x=>.ret (S.unE (we 8) (S.tkA T a).2 x))
     ((S.may (Go.Jx.S.lit [111,108,100])).bind fun b=>cond b ((S.front n).bind fun x=>.ret (S.unE (we 9) (Go.Jx.S.lit []) x)) (S.call n))))=iz (.inr (v,b)):=hr
   have key:∀{x c} {q:Int} {op:Bq},S.run T (a+1) (S.front n)=iz (.inr (x,c))->Few (c-a) (S.unE q op x):=fun {x c q op} h4=>by
    have hc:=(kh h4).1;exact(Few.un (ih.front h4)).mono (by omega)
   rcases q9 hr with ⟨h1,h2,h3⟩|hr
   ·obtain⟨x,c,h4,h5⟩:=zz h3;cases h5;exact key h4
   rcases q9 hr with ⟨h1,h2,h3⟩|hr
   ·obtain⟨x,c,h4,h5⟩:=zz h3;cases h5;exact key h4
   rcases q9 hr with ⟨h1,h2,h3⟩|hr
   ·obtain⟨x,c,h4,h5⟩:=zz h3;cases h5;exact key h4
   ·exact ih.call hr
  ·unfold S.call at hr;obtain⟨x,c,h4,h5⟩:=zz hr;exact q92 (fun h=>ih.args h) n (kh h4).1 (ih.primary h4) h5
  ·have hp2:∀{v b},S.run T a (S.prim2 (S.expr n) (S.call n))=iz (.inr (v,b))->Few (b-a) v:=fun {v b} hr=>by
    unfold S.prim2 at hr;rcases q9 hr with ⟨h1,h2,h3⟩|h3
    ·obtain⟨x,c,h4,h5⟩:=zz h3;obtain⟨h6,h7,h8⟩:=vu h5;cases h8;exact(ih.expr h4).mono (by omega)
    ·obtain⟨h1,h2,h4⟩:=vu h3;obtain⟨x,c,h5,h6⟩:=zz h4;obtain⟨h7,h8,h9⟩:=vu h6;obtain⟨g1,g2,g3⟩:=qde h9;cases g3;have hc:=(kh h5).1;exact(Few.un (ih.call h5)).mono (by omega)
   have h1:∀{x:zc} {v b},x.2.2.2=[]->S.run T a (.next (.ret x))=iz (.inr (v,b))->Few (b-a) v:=fun {x v b} hx hr=>by
    obtain⟨g1,g2⟩:=yb hr;cases g2;rw[show a+1-a=0+1 by omega];intro k hk;rw[hx] at hk;cases hk
   unfold S.primary at hr
   have hr:S.run T a (cond (ieqI (S.tkA T a).1 4) (.next (.ret (we 1,Go.Jx.S.lit [],(S.value (S.tkA T a).2).1,[]))) (cond (ieqI (S.tkA T a).1 1) (.next ((S.args n).bind fun l=>.ret (S.callE (S.tkA T a).2 (we 0) l)))
     (cond (ieqI (S.tkA T a).1 3) (S.wrd (S.tkA T a).2 fun x b=>cond b (.next (.ret x)) (S.prim2 (S.expr n) (S.call n))) (S.prim2 (S.expr n) (S.call n)))))=iz (.inr (v,b)):=hr
   cases h4:ieqI (S.tkA T a).1 4 with
   | true=>rw[h4] at hr;exact h1 (x:=(we 1,Go.Jx.S.lit [],(S.value (S.tkA T a).2).1,[])) rfl hr
   | false =>
    rw[h4] at hr;cases h5:ieqI (S.tkA T a).1 1 with
    | true =>
     rw[h5] at hr;obtain⟨g1,g2⟩:=yb hr;obtain⟨l,c,h6,h7⟩:=zz g2;cases h7;have hc:=(kh h6).1;exact(Few.call (ih.args h6)).mono (by omega)
    | false =>
     rw[h5] at hr;cases h6:ieqI (S.tkA T a).1 3 with
     | false=>rw[h6] at hr;exact hp2 hr
     | true =>
      rw[h6] at hr;simp only[xa,xe] at hr;refine q4r (Q:=fun p=>∀v b,S.run T a p=iz (.inr (v,b))->Few (b-a) v) (S.tkA T a).2 (fun x b=>cond b (.next (.ret x)) (S.prim2 (S.expr n) (S.call n))) (fun x bb hx v b hr=>?_) v b hr
      grind
  ·unfold S.args at hr;rcases q9 hr with ⟨h1,h2,h3⟩|h3
   ·obtain⟨l,c,h4,h5⟩:=zz h3;obtain⟨h6,h7,h8⟩:=vu h5;cases h8;unfold S.someT at h4;obtain⟨x,d,g1,g2⟩:=zz h4;have hd:=(kh g1).1;have h:=zay (o:=a+1) (fun h=>ih.expr h) n hd (fun y hy=>by
     simp only[po,jan,or_false] at hy;rw[hy];exact ih.expr g1) g2
    exact fun y hy=>(h y hy).mono (by omega)
   ·cases h3;exact fun x hx=>by cases hx
end
end
section
theorem q97{f:zc->Oq Int}:∀{l:Lz zc} {m:Int},(∀x∈l,∃d,f x=iz d)->∃d,S.depL f l m=iz d
 | [],m,h=>⟨m,rfl⟩
 | x::l,m,h=>by
  obtain⟨d,hd⟩:=h x x8;unfold S.depL;rw[hd];exact q97 fun y hy=>h y (xv _ hy)
theorem qza:∀{n:Nat} {x:zc},Few n x->∃d,S.dep n x=iz d
 | 0,x,h=>h.elim
 | n+1,x,h=>by
  obtain⟨d,hd⟩:=q97 (f:=S.dep n) (l:=unL x.2.2.2) (m:=0) fun y hy=>qza (h y hy);unfold S.dep
  grind
theorem q6d{f:zc->zc->Oq Bool}:∀{l m:Lz zc},l.length=m.length->(∀x∈l,∀y∈m,∃b,f x y=iz b)->∃b,S.eqL f l m=iz b
 | [],m,e,h=>⟨i7,rfl⟩
 | x::l,[],e,h=>by cases e
 | x::l,y::m,e,h=>by
  obtain⟨b,hb⟩:=h x x8 y x8;unfold S.eqL;rw[hb];cases b with
  | false=>exact⟨_,rfl⟩
  | true=>exact q6d (Nat.succ.inj e) fun u hu v hv=>h u (xv _ hu) v (xv _ hv)
theorem q43:∀{n:Nat} {x y:zc},Few n x\/Few n y->∃b,S.eqE n x y=iz b
 | 0,x,y,h=>by rcases h with h|h<;>exact h.elim
 | n+1,x,y,h=>by
  unfold S.eqE;cases ieqI x.1 y.1 with
  | false=>exact⟨_,rfl⟩
  | true =>
   cases keqS x.2.1 y.2.1 with
   | false=>exact⟨_,rfl⟩
   | true =>
    cases ieqI x.2.2.1 y.2.2.1 with
    | false=>exact⟨_,rfl⟩
    | true =>
     simp only[xa];unfold S.eqQ;cases hl:ieqI (we (unL x.2.2.2).length) (we (unL y.2.2.2).length) with
     | false=>exact⟨_,rfl⟩
     | true =>
      rw[zx] at hl;refine q6d (jak (xu hl)) fun u hu v hv=>q43 ?_;rcases h with h|h
      ·exact .inl (h u hu)
      ·exact .inr (h v hv)
theorem q80{n:Nat}{x:zc}(hn:n<=68719476736)(h:Few n x):∃d,S.depR x=iz d:=by
 obtain⟨d,a⟩:=qza h;exact qh6 (g:=fun n=>S.dep n x) hn a
theorem qvc{n:Nat}{x y:zc}(hn:n<=68719476736)(h:Few n x\/Few n y):∃b,S.eqR x y=iz b:=by
 obtain⟨d,a⟩:=q43 h;exact qh6 (g:=fun n=>S.eqE n x y) hn a
section
variable {f : zc -> Oq (Lz Bq)} {r q : Oq (Lz Bq)} {l : Lz zc}
theorem j6(h1:∃A,r=iz A)(h2:∃A,q=iz A):∃A,S.cat r q=iz A:=by
 obtain⟨A,rfl⟩:=h1;obtain⟨B,rfl⟩:=h2;exact⟨_,rfl⟩
theorem jh{A:Lz Bq}:∃B,iz A=iz B:=⟨A,rfl⟩
theorem zmj{x:zc}{k:Int}(h:∃A,f x=iz A):∃A,S.within f x k=iz A:=by
 unfold S.within;cases iltI (S.levelOf x) k
 ·grind
 ·exact j6 jh (j6 h jh)
theorem q5f{s:Bq}:∀{l:Lz zc} {i:Nat},(∀x∈l,∃A,f x=iz A)->∃A,S.wlist f s l i=iz A
 | [],i,h=>jh
 | x::l,i,h=>by
  refine j6 ?_ (j6 (h x x8) (q5f fun y hy=>h y (xv _ hy)));cases iltI 0 (we i)<;>exact jh
theorem q5v(h:∀x∈l,∃A,f x=iz A):∃A,S.wargs f l=iz A:=by
 unfold S.wargs;cases iltI 0 (we l.length)
 ·grind
 ·exact j6 jh (j6 (q5f h) jh)
theorem zie(hz:∃A,f S.zE=iz A)(h:∀x∈l,∃A,f x=iz A)(i:Nat):∃A,f (S.kidAt l i)=iz A:=by
 unfold S.kidAt;cases a:l[i]? with
 | none=>exact hz
 | some x=>exact h x (p7 a)
theorem ya{c:Bool}(h1:∃A,r=iz A)(h2:∃A,q=iz A):∃A,cond c r q=iz A:=by cases c<;>assumption
theorem q7k(n:Nat):S.wexpr (n+1) S.zE=iz [Go.Jx.S.lit []]:=rfl
theorem q18:∀{n:Nat} {x:zc},Few n x->∃W,S.wexpr (n+1) x=iz W
 | 0,x,h=>h.elim
 | n+1,x,h=>by
  have hk:∀k∈unL x.2.2.2,∃W,S.wexpr (n+1) k=iz W:=fun k hk=>q18 (h k hk);have hz:∃W,S.wexpr (n+1) S.zE=iz W:=⟨_,q7k n⟩;have h0:∀i k,∃W,S.within (S.wexpr (n+1)) (S.kidAt (unL x.2.2.2) i) k=iz W:=fun i k=>zmj (zie hz hk i);have hd:∀k∈(unL x.2.2.2).drop 1,∃W,S.wexpr (n+1) k=iz W:=fun k h=>hk k (ja0 h);unfold S.wexpr
  exact ya jh (ya (ya jh jh) (ya jh (ya jh (ya jh (ya (ya (j6 (h0 0 _) (j6 jh (j6 jh (q5v hd)))) (j6 jh (q5v hk)))
   (ya (j6 (h0 0 _) (j6 jh (h0 1 _))) (ya (j6 jh (h0 0 _)) (ya (j6 jh (h0 0 _)) (ya (j6 jh (j6 (h0 0 _) jh)) jh)))))))))
theorem zqz{n:Nat}{x:zc}(hn:n<68719476736)(h:Few n x):∃W,S.wexprR x=iz W:=by
 obtain⟨W,a⟩:=q18 h;exact qh6 (g:=fun n=>S.wexpr n x) hn a
def Lw(r:Oq (Lz Bq))(c:Nat):Prop:=∀W,r=iz W->W.length<=c
theorem Lw.le{c d:Nat}(h:Lw r c)(hc:c<=d):Lw r d:=fun W e=>py (h W e) hc
theorem Lw.none{c:Nat}:Lw i6 c:=fun W e=>by cases e
theorem Lw.some{A:Lz Bq}:Lw (iz A) A.length:=fun W e=>by cases e;exact xl _
theorem Lw.cat{c d:Nat}(h1:Lw r c)(h2:Lw q d):Lw (S.cat r q) (c+d):=fun W e=>by
 cases r with
 | none=>cases e
 | some A =>
  cases q with
  | none=>cases e
  | some B =>
   cases e;have:=h1 A rfl;have:=h2 B rfl
   grind
theorem Lw.cond{b:Bool}{c:Nat}(h1:Lw r c)(h2:Lw q c):Lw (cond b r q) c:=by cases b<;>assumption
theorem Lw.within{x:zc}{k:Int}{c:Nat}(h:Lw (f x) c):Lw (S.within f x k) (c+2):=by
 unfold S.within;refine Lw.cond ?_ (h.le (by omega));exact(Lw.cat Lw.some (Lw.cat h Lw.some)).le (by show 1+(c+1)<=c+2;omega)
def Sl(f:zc->Oq (Lz Bq)):Lz zc->Nat->Prop
 | [],c=>True
 | x::l,c=>∃c1 c2,Lw (f x) c1/\Sl f l c2/\c1+1+c2<=c
theorem Lw.wlist{s:Bq}:∀{l:Lz zc} {i c:Nat},Sl f l c->Lw (S.wlist f s l i) c
 | [],i,c,h=>fun W e=>by cases e;exact pm _
 | x::l,i,c,⟨c1,c2,h1,h2,h3⟩=>by
  have hd:Lw (_root_.cond (iltI 0 (we i)) (Option.some [s]) (Option.some [])) 1:=by cases iltI 0 (we i)<;>(intro W e;cases e;simp)
  exact(Lw.cat hd (Lw.cat h1 (Lw.wlist h2))).le (by omega)
theorem Lw.wargs{c:Nat}(h:Sl f l c):Lw (S.wargs f l) (c+2):=by
 unfold S.wargs;refine Lw.cond ?_ (Lw.some.le (by simp));exact(Lw.cat Lw.some (Lw.cat (Lw.wlist h) Lw.some)).le (by show 1+(c+1)<=c+2;omega)
theorem Sl.drop{c:Nat}(h:Sl f l c):∃a b,(l≠[]->Lw (f (S.kidAt l 0)) a)/\Sl f (l.drop 1) b/\a+b<=c:=by
 cases l with
 | nil=>exact⟨0,0,fun h=>absurd rfl h,trivial,by omega⟩
 | cons x l =>
  obtain⟨i,g,e,d,j⟩:=h;exact⟨i,g,fun _=>e,d,by omega⟩
theorem Sl.two{c:Nat}(hz:Lw (f S.zE) 1)(h:Sl f l c):∃a b,Lw (f (S.kidAt l 0)) a/\Lw (f (S.kidAt l 1)) b/\a+b<=c+2/\a<=c+1:=by
 cases l with
 | nil=>exact⟨1,1,hz,hz,by omega,by omega⟩
 | cons x l =>
  obtain⟨e,p,d,i,n⟩:=h;cases l with
  | nil=>exact⟨e,1,d,hz,by omega,by omega⟩
  | cons y l =>
   obtain⟨j,o,g,m,k⟩:=i;exact⟨e,j,d,g,by omega,by omega⟩
theorem zdv{n:Nat}{x:zc}{c:Nat}(h:Sl (S.wexpr n) (unL x.2.2.2) c):Lw (S.wexpr (n+1) x) (c+9):=by
 have j:Lw (S.wexpr n S.zE) 1:=by
  cases n with
  | zero=>exact Lw.none
  | succ n=>rw[q7k];exact Lw.some
 obtain⟨a,b,f,l,q,p⟩:=h.two j;obtain⟨v,u,m,g,r⟩:=h.drop;have one:∀s:Bq,Lw (iz [s]) (c+9):=fun s=>Lw.some.le (by show 1<=c+9;omega);have d:∀s:Bq,Lw (iz [s]) 1:=fun s=>Lw.some;unfold S.wexpr;refine Lw.cond (one _) (Lw.cond (Lw.cond (one _) (one _)) (Lw.cond (one _) (Lw.cond (one _) (Lw.cond (one _) (Lw.cond ?_ (Lw.cond ?_ (Lw.cond ?_ (Lw.cond ?_ (Lw.cond ?_ (one _))))))))))
 ·refine Lw.cond ?_ ((Lw.cat (d _) (Lw.wargs h)).le (by omega));by_cases i:unL x.2.2.2=[]
  ·have t:=(Lw.cat (Lw.within (k:=7) f) (Lw.cat (d (Go.Jx.S.lit [46])) (Lw.cat (d x.2.1) (Lw.wargs g))));rw[i] at f g ⊢;have o:Lw (S.wargs (S.wexpr n) (([]:Lz zc).drop 1)) 0:=fun W e=>by cases e;exact pm _
   exact(Lw.cat (Lw.within f) (Lw.cat (d _) (Lw.cat (d _) o))).le (by omega)
  ·exact(Lw.cat (Lw.within (m i)) (Lw.cat (d _) (Lw.cat (d _) (Lw.wargs g)))).le (by omega)
 ·exact(Lw.cat (Lw.within f) (Lw.cat (d _) (Lw.within l))).le (by omega)
 ·exact(Lw.cat (d _) (Lw.within f)).le (by omega)
 ·exact(Lw.cat (d _) (Lw.within f)).le (by omega)
 ·exact(Lw.cat (d _) (Lw.cat (Lw.within f) (Lw.some (A:=[Go.Jx.S.lit [97,115],x.2.1])))).le (by show 1+(a+2+2)<=c+9;omega)
end
def Cn(m:Nat)(x:zc)(c:Nat):Prop:=Few m x/\1<=c/\∀q,∃w,Lw (S.wexpr q x) w/\w+1<=10*c
theorem q67{f:zc->Int->Oq (Bool × Int)}{m:Nat}(hf:∀y (n:Nat),n<=400->∃r,f y n=iz r/\(r.1=i7->∃c:Nat,r.2=n+c/\n+c<=400/\Cn m y c)):∀(l:Lz zc) (n:Nat),n<=400 ->
  ∃r,S.cntL f l n=iz r/\(r.1=i7->∃c:Nat,r.2=n+c/\n+c<=400/\(∀y∈l,Few m y)/\∀q,Sl (S.wexpr q) l (10*c))
 | [],n,hn=>⟨_,rfl,fun _=>⟨0,by show (n:Int)=n+(0:Nat);omega,hn,fun y hy=>(by cases hy),fun q=>trivial⟩⟩
 | x::l,n,hn=>by
  obtain⟨r,h1,h2⟩:=hf x n hn;unfold S.cntL;rw[h1];cases hr:r.1 with
  | false=>exact⟨_,by simp only[hr];rfl,fun h=>by cases h⟩
  | true =>
   obtain⟨c,e,hc,k1,k2,k3⟩:=h2 hr;obtain⟨s,h3,h4⟩:=q67 hf l (n+c) hc;refine⟨s,?_,fun hs=>?_⟩
   ·grind
   ·obtain⟨d,e2,hd,g1,g2⟩:=h4 hs;refine⟨c+d,by omega,by omega,fun y hy=>?_,fun q=>?_⟩
    ·grind
    ·obtain⟨w,hw,hw2⟩:=k3 q;exact⟨w,10*d,hw,g2 q,by omega⟩
theorem q0o{n:Nat}(h:n<=400):S.add1 (n:Int)=((n+1:Nat):Int):=by
 show IntKind.i64.wrap ((n:Int)+1)=_;rw[w64 (by omega) (by omega)];omega
theorem q0a:∀(m:Nat) (x:zc) (d n:Nat),d<=61->62<=d+m->n<=400->∃r,S.cntE m x d n=iz r/\(r.1=i7->∃c:Nat,r.2=n+c/\n+c<=400/\Cn m x c)
 | 0,x,d,n,h1,h2,h3=>by omega
 | m+1,x,d,n,h1,h2,h3=>by
  unfold S.cntE;rw[q0o h3,q0o (by omega)];cases hc:iltI 60 (d:Int)||(iltI 400 ((n+1:Nat):Int)||iltI 100 (we (unL x.2.2.2).length)) with
  | true=>exact⟨_,rfl,fun h=>by cases h⟩
  | false =>
   rw[g9,g9,qc,qc] at hc;have hd:=gx hc.1;have hn:=gx hc.2.1;obtain⟨r,g1,g2⟩:=q67 (f:=fun y n=>S.cntE m y ((d+1:Nat):Int) n) (m:=m) (fun y n hn=>q0a m y (d+1) n (by omega) (by omega) hn) (unL x.2.2.2) (n+1) (by omega);refine⟨r,g1,fun hr=>?_⟩;obtain⟨c,e,hc,k1,k2⟩:=g2 hr;refine⟨c+1,by omega,by omega,k1,by omega,fun q=>?_⟩;cases q with
   | zero=>exact⟨0,Lw.none,by omega⟩
   | succ q=>exact⟨10*c+9,zdv (k2 q),by omega⟩
theorem zzl(x:zc):∃r,S.cntE 70 x 0 0=iz r/\(r.1=i7->Few 70 x/\∀q W,S.wexpr q x=iz W->W.length<=4000):=by
 obtain⟨r,h,g⟩:=q0a 70 x 0 0 (by omega) (by omega) (by omega);refine⟨r,h,fun d=>?_⟩;obtain⟨c,e,k,b,j,a⟩:=g d;refine⟨b,fun q W f=>?_⟩;obtain⟨w,i,l⟩:=a q;have:=i W f;omega
end
def tkW(s:Bq):zb:=((S.shape s).1,s,0,0)
theorem qzz:∀(W:Lz Bq) (acc:Lz zb),(S.wtokL W acc).2=i7->(S.wtokL W acc).1=acc++W.map tkW/\∀s∈W,(S.shape s).2=0
 | [],acc,h=>⟨(gz _).symm,fun s hs=>by cases hs⟩
 | s::W,acc,h=>by
  unfold S.wtokL at h ⊢;cases hs:ieqI (S.shape s).2 0 with
  | false=>rw[hs] at h;cases h
  | true =>
   rw[hs] at h;obtain⟨h1,h2⟩:=qzz W _ h;rw[zx] at hs;refine⟨?_,fun t ht=>?_⟩
   ·simp only[xa];rw[h1,gq];rfl
   ·grind
theorem zf4{s:Bq}(h:(S.shape s).2=0):S.right (tkW s)=i7:=by
 unfold S.right;rw[xf,du,du];exact⟨h,rfl⟩
theorem zqu{W:Lz Bq}(h:∀s∈W,(S.shape s).2=0):∀t∈W.map tkW,S.right t=i7:=fun t a=>by
 obtain⟨s,b,rfl⟩:=dh.1 a;exact zf4 (h s b)
theorem q0m:∀(l:Lz Int) (n:Int),1<=n->n<=1099511627776->l.all S.isDig=i7->(S.numGo l n).2=0->(2:Int) ^ l.length*n<=1099511627776
 | [],n,h1,h2,h3,h4=>by simpa using h2
 | b::r,n,h1,h2,h3,h4=>by
  rw[gu,xf] at h3;have hb:48<=b:=by
   have:=h3.1;unfold S.isDig at this
   grind
  unfold S.numGo at h4;split at h4
  ·grind
  ·have ih:=q0m r (10*n+(b-48)) (by omega) (by omega) h3.2 h4;refine Int.le_trans ?_ ih;rw[xw,Int.pow_succ,Int.mul_assoc];exact jam (by omega) (jb7 (Int.pow_pos (by decide)))
theorem zue{s:Bq}(h:(S.number s).2=0):s.size<=41:=by
 unfold S.number at h;split at h
 ·grind
 ·rename_i a;split at h
  ·grind
  ·rename_i c;rw[<- zt] at c ⊢;generalize za s=l at h a c ⊢;cases l with
   | nil=>exact pm _
   | cons b r =>
    have a:(b::r).all S.isDig=i7:=by simpa using a
    rw[gu,xf] at a;have f:48<=b/\b<=57:=by
     have:=a.1;unfold S.isDig at this
     grind
    by_cases d:b=48
    ·grind
    ·unfold S.numGo at h;split at h
     ·grind
     ·have j:=q0m r _ (by omega) (by omega) a.2 h;rw[xw];by_cases e:r.length<=40
      ·omega
      ·exfalso;have i:(2:Int) ^ 41<=2 ^ r.length:=by
        have:=Nat.pow_le_pow_right (n:=2) (by decide) (show 41<=r.length by omega)
        grind
       have g:(2:Int) ^ r.length*1<=2 ^ r.length*(10*0+(b-48)):=jam (by omega) (jb7 (Int.pow_pos (by decide)))
       grind
theorem quz:∀s∈S.signs++S.keywords++S.wordsT,s.size<=41:=by
 have h:(S.signs++S.keywords++S.wordsT).all (fun s=>og s.size 41)=i7:=by decide +kernel
 exact fun s a=>xk (xz.1 h s a)
theorem zft{s:Bq}(h:(S.word s).2=0):s.size<=41:=by
 unfold S.word at h;split at h
 ·rename_i hw;rw[jbi] at hw;rcases hw with hw|hw
  ·exact quz s (ge _ (gg _ (qa5.1 hw)))
  ·exact quz s (gg _ (qa5.1 hw))
 ·grind
theorem zp6{s:Bq}(h:(S.shape s).2=0):s.size<=41:=by
 unfold S.shape at h;split at h
 ·rename_i a;exact quz s (ge _ (ge _ (qa5.1 a)))
 ·split at h
  ·grind
  ·split at h
   ·grind
   ·split at h
    ·grind
    ·split at h
     ·split at h
      ·rename_i b;exact zue b
      ·grind
     ·exact zft h
theorem q59{t:zb}(h:S.right t=i7):t.2.1.size<=41:=zp6 (by rw[ye h])
def wsz(k:Lz S.KT):Nat:=(k.map fun t=>t.2.size+1).sum
theorem ztm(k m:Lz S.KT):wsz (k++m)=wsz k+wsz m:=by
 unfold wsz;rw[jas,List.sum_append]
theorem qlp(t:S.KT)(k:Lz S.KT):wsz (t::k)=t.2.size+1+wsz k:=by
 unfold wsz;rw[ga,List.sum_cons]
theorem qf4(t:zb)(l:Lz zb):S.kts (t::l)=(t.1,t.2.1)::S.kts l:=rfl
theorem q4t(l m:Lz zb):S.kts (l++m)=S.kts l++S.kts m:=jas
theorem qpn:∀l:Lz zb,(S.putB S.always l).length<=wsz (S.kts l)/\wsz (S.kts l)<=(S.putB S.always l).length+1
 | []=>⟨pm _,pm _⟩
 | [a]=>by
  rw[qzm,qf4,qlp];have e1:qtg S.always (iz a) []=0:=rfl;have e2:S.putB S.always []=[]:=rfl;have e3:wsz (S.kts [])=0:=rfl
  grind
 | a::b::l=>by
  have ih:=qpn (b::l);rw[qzm,qf4,qlp];have e1:qtg S.always (iz a) (b::l)=1:=rfl
  grind
theorem zy7{l:Lz zb}(h:∀t∈l,S.right t=i7):wsz (S.kts l)<=42*l.length:=by
 induction l with
 | nil=>exact pm _
 | cons t l ih =>
  have c:=q59 (h t x8);have b:=ih fun u a=>h u (xv _ a);rw[qf4,qlp,xw]
  grind
theorem q32{l:Lz zb}(hr:∀t∈l,S.right t=i7)(h6:l.length<=6000)(hs:(S.putB S.always l).length<=20000) :
  (S.tokens (putS S.always l)).2.2.2=0/\S.kts (S.tokens (putS S.always l)).1=S.kts l/\(∀t∈(S.tokens (putS S.always l)).1,S.right t=i7)/\S.fits (putS S.always l)=i7:=by
 obtain⟨d,c⟩:=zb6 S.always (fun a b h=>by cases h) hr;have c:S.kts (S.readG (putS S.always l)).1=S.kts l:=c;have f:=q8w (bl:=S.always) hr;have g:(S.readG (putS S.always l)).1.length=l.length:=by
  have:=xy oq c;unfold S.kts at this
  grind
 have e:S.tokens (putS S.always l)=S.readG (putS S.always l):=by
  unfold S.tokens
  grind
 rw[e];exact⟨by rw[d],c,zio _,x7 (by omega)⟩
theorem zuk{l:Lz zb}(hr:∀t∈l,S.right t=i7)(h6:l.length<=6000)(hs:(S.putB S.always l).length<=20000):S.dWrite l=iz (putS S.always l,0,()):=by
 unfold S.dWrite;have d:S.smallL l=i7:=xz.2 fun t a=>x7 (by have:=q59 (hr t a);omega);have b:l.any (fun t=>!S.right t)=eb:=List.any_eq_false.2 fun t a=>by rw[hr t a];decide
 have c:S.put S.always l=(putS S.always l,0):=by
  unfold S.put;rw[xr (by omega),xr (by rw[b];decide),xr (by omega)];rfl
 grind
theorem q12:∀(s:Bq) (W:Lz Bq),S.putB S.always (tkW s::W.map tkW)=za s++(Lib.joinTail [32] (W.map (·.data.toList))).map fun b=>(b.toNat:Int)
 | s,[]=>(gz _).symm
 | s,x::W=>by
  have e:S.putB S.always (tkW s::(x::W).map tkW)=za s++32::S.putB S.always (tkW x::W.map tkW):=rfl;have e2:Lib.joinTail [32] ((x::W).map (·.data.toList))=[32]++x.data.toList++Lib.joinTail [32] (W.map (·.data.toList)):=rfl;rw[e,q12 x W,e2,jas,jas];rfl
theorem zsq(W:Lz Bq):S.joinW W (Go.Jx.S.lit [32])=putS S.always (W.map tkW):=by
 rw[<- yc (S.joinW W (Go.Jx.S.lit [32]))];unfold putS;congr 1;cases W with
 | nil=>rfl
 | cons s W =>
  have e:S.joinW (s::W) (Go.Jx.S.lit [32])=⟨(s.data.toList++Lib.joinTail [32] (W.map (·.data.toList))).toArray⟩:=by
   unfold S.joinW;rw[ga,show (Go.Jx.S.lit [32]).data.toList=[32] from rfl,Lib.join_cons]
  rw[e];refine Eq.trans ?_ (q12 s W).symm;unfold za
  grind
theorem zf9:S.shape S.LP=(5,0):=by decide +kernel
theorem zey:S.shape S.RP=(5,0):=by decide +kernel
theorem zme{t:zb}(h:S.right t=i7)(h5:¬t.1=5):keqS t.2.1 S.LP=eb/\keqS t.2.1 S.RP=eb:=by
 have a:=ye h;constructor
 ·refine xq fun e=>h5 ?_;rw[e,zf9] at a
  grind
 ·refine xq fun e=>h5 ?_;rw[e,zey] at a
  grind
theorem qxg{l:Lz zb}(h:∀t∈l,S.right t=i7):NoBr (S.kts l):=fun k b c=>by
 obtain⟨t,a,rfl⟩:=dh.1 b;exact zme (h t a) c
theorem NoBr.lp{T:Lz S.KT}(h:NoBr T):NoLP T:=fun t a e=>(h t a (by rw[e];decide)).1
theorem zi0(W:Lz Bq):S.cb W=(S.kts (W.map tkW)).countP fun t=>keqS t.2 S.LP:=by
 unfold S.cb S.kts;rw[List.countP_map,List.countP_map];rfl
theorem nobr{x:zc}{q:Nat}{W:Lz Bq}{l A B C:Lz zb}{u w:zb}(hF:Few 70 x)(hq:S.wexpr q x=iz W)(hk:S.kts l=S.kts (W.map tkW))(hr:∀t∈l,S.right t=i7)(h6:l.length<=6000)(hz:wsz (S.kts l)<=20001)
  (hl:l=A++u::(B++w::C)) (hu:u.2.1=S.LP):∃t y p h b,S.dWrite (A++B++C)=iz (t,0,())/\S.exprOf t=iz (y,p,h,())/\S.eqR x y=iz b/\(h=0->b=eb):=by
 have M:∀t∈A++B++C,S.right t=i7:=fun t L=>hr t (by
  rw[hl];simp only[p4,po] at L ⊢;rcases L with (h|h)|h
  ·exact .inl h
  ·exact .inr (.inr (.inl h))
  ·exact .inr (.inr (.inr (.inr h))))
 have g:(A++B++C).length<=6000:=by
  have:=xy oq hl;simp only[xp,xw] at this ⊢;omega
 have Z:wsz (S.kts (A++B++C))+2<=wsz (S.kts l):=by
  rw[hl];simp only[q4t,qf4,ztm,qlp];omega
 have f:(S.putB S.always (A++B++C)).length<=20000:=by have:=(qpn (A++B++C)).1;omega
 obtain⟨O,F,J,N⟩:=q32 M g f;have D:=zuk M g f;generalize putS S.always (A++B++C)=t at O F J N D;have U:(S.tokens t).1.length<=6000:=by
  have:=xy oq F;rw[wm,wm] at this;omega
 obtain⟨r,j⟩:=q3g (T:=S.kts (S.tokens t).1) (a:=0) (pm _) (by rw[wm];omega);have c:S.exprOf t=S.wholeT S.zE S.exprR S.depR (S.tokens t).1 (S.placeOf t (we t.size)).1:=by
  unfold S.exprOf S.wholeS;rw[N,O];rfl
 generalize (S.placeOf t (we t.size)).1=pl at c;generalize (S.tokens t).1=T at F J U j c;obtain⟨n,E⟩:=qq4 j;obtain⟨K,m⟩:=qvc (x:=x) (y:=S.zE) (n:=70) (by decide) (.inl hF);unfold S.wholeT at c;rw[j] at c;cases r with
 | inl s =>
  obtain⟨Y,a⟩:=s;have I:=Nz.run (nzE n).expr E;simp only[sg I,gh,xa] at c;exact⟨t,S.zE,S.place T pl a,Y,K,D,c,m,fun h=>absurd h I⟩
 | inr s =>
  obtain⟨v,a⟩:=s;have k:=(fwE _ n).expr E;have α:a<=T.length:=by
   have:=(kh E).2 (pm _)
   rwa [wm] at this
  obtain⟨d,R⟩:=q80 (x:=v) (n:=a-0) (by omega) k;obtain⟨P,o⟩:=qvc (x:=x) (y:=v) (n:=70) (by decide) (.inl hF);simp only[R,bd] at c;cases e:ieqI (we a) (we T.length) with
  | false=>rw[e] at c;exact⟨t,S.zE,S.place T pl a,2,K,D,c,m,fun h=>absurd h (by decide)⟩
  | true =>
   rw[e] at c;rw[zx] at e;have e:=jak (xu e);simp only[xa] at c;cases z:iltI 40 d with
   | true =>
    rw[z] at c;have I:0<T.length:=by
     rcases jbh T.length with h|h
     ·rw[e,h] at k;exact k.elim
     ·exact h
    obtain⟨Q,ht0,_⟩:=q88 (l:=T) (i:=0) (gr _) (by omega);simp only[xa,ht0] at c;exact⟨t,S.zE,Q.2.2,3,K,D,c,m,fun h=>absurd h (by decide)⟩
   | false =>
    rw[z] at c;refine⟨t,v,(0,0),0,P,D,c,o,fun _=>?_⟩;cases P with
    | false=>rfl
    | true =>
     exfalso;have G:=qxk o;subst G;have H:=(brE (qxg J).lp n).expr E q W hq;have X:S.pT (S.kts T) 0=0:=rfl;have V:S.pT (S.kts T) a=(S.kts T).countP fun t=>keqS t.2 S.LP:=by
      unfold S.pT;rw[r9 (by rw[wm];omega)]
     rw[X,V,F,zi0,<- hk,hl] at H;simp only[q4t,qf4,jbm,jap,hu,qio] at H;simp only[dv] at H;omega
theorem zgq{x:zc}(hF:Few 70 x)(hW:∀q W,S.wexpr q x=iz W->W.length<=4000):∃s e,S.exprText x=iz (s,e,())/\S.fits s=i7/\(e=0 ->
  ∃q W,S.wexpr q x=iz W/\(∀t∈(S.tokens s).1,S.right t=i7)/\S.kts (S.tokens s).1=S.kts (W.map tkW)/\(S.tokens s).1.length<=6000/\wsz (S.kts (S.tokens s).1)<=20001/\(S.tokens s).2.2.2=0/\∃n,S.run (S.kts (S.tokens s).1) 0 (S.expr n)=iz (.inr (x,(S.tokens s).1.length))):=by
 have c:S.fits (Go.Jx.S.lit [])=i7:=by decide +kernel
 obtain⟨d,D⟩:=q80 (by decide) hF;obtain⟨W,l⟩:=zqz (by decide) hF;obtain⟨q,_,B⟩:=nx l;have m:=hW q W B;unfold S.exprText;simp only[D,l,bd];cases iltI 40 d with
 | true=>exact⟨_,_,rfl,c,fun h=>absurd h (by decide)⟩
 | false =>
  have F:og W.length 1099511627776=i7:=x7 (by omega);simp only[F,xa,xe];cases G:(S.wtokL W []).2 with
  | false=>exact⟨_,_,rfl,c,fun h=>absurd h (by decide)⟩
  | true =>
   obtain⟨p,I⟩:=qzz W [] G;rw[jag] at p;have k:=zqu I;simp only[xa,p];have O:(W.map tkW).length=W.length:=gt _;obtain⟨r,g⟩:=q3g (T:=S.kts (W.map tkW)) (a:=0) (pm _) (by rw[wm];omega);obtain⟨n,C⟩:=qq4 g;unfold S.rereadT;rw[g];cases r with
   | inl s =>
    obtain⟨P,a⟩:=s;have H:=Nz.run (nzE n).expr C;simp only[sg H,xe]
    grind
   | inr s =>
    obtain⟨v,a⟩:=s;simp only[];cases f:ieqI (we a) (we (W.map tkW).length) with
    | false=>exact⟨_,_,rfl,c,fun h=>absurd h (by decide)⟩
    | true =>
     rw[zx] at f;have f:=jak (xu f);simp only[xa];obtain⟨b,i⟩:=qvc (x:=v) (y:=x) (n:=70) (by decide) (.inr hF);rw[i];cases b with
     | false=>exact⟨_,_,rfl,c,fun h=>absurd h (by decide)⟩
     | true =>
      have z:=qxk i;subst z;simp only[xa];unfold S.dJoin;rw[zsq];have N:=q8w (bl:=S.always) k;have M:=qpn (W.map tkW);have w:=zy7 k;have j:og (putS S.always (W.map tkW)).size 100000000=i7:=x7 (by omega);rw[j];simp only[xa];cases o:iltI 20000 (we (putS S.always (W.map tkW)).size)||iltI 6000 (we W.length) with
      | true=>exact⟨_,_,rfl,c,fun h=>absurd h (by decide)⟩
      | false =>
       rw[g9,qc,qc] at o;have E:¬(20000:Int)<((putS S.always (W.map tkW)).size:Int):=gx o.1;obtain⟨L,u,K,J⟩:=q32 k (by omega) (by omega);have A:(S.tokens (putS S.always (W.map tkW))).1.length=(W.map tkW).length:=by
        have:=xy oq u
        rwa [wm,wm] at this
       grind
abbrev wr(i:Int):Int:=ag IntKind.i64 i
def finR(x:zc)(l:Lz zb)(a b:Int):Oq (Bool × Unit):=cond (lchk (we 0) a (we l.length) (we l.length)) (cond (og (o7 (o5 0 (oq (lsub l (we 0) a))) 40) 140737488355328)
 (cond (lchk (wr (oe a (we 1))) b (we l.length) (we l.length)) (cond (og (o7 (o5 (oq (lsub l (we 0) a)) (oq (lsub l (wr (oe a (we 1))) b))) 40) 140737488355328)
 (cond (lchk (wr (oe b (we 1))) (we l.length) (we l.length) (we l.length)) (cond (og (o7 (o5 (oq (oz (lsub l (we 0) a) (lsub l (wr (oe a (we 1))) b))) (oq (lsub l (wr (oe b (we 1))) (we l.length)))) 40) 140737488355328)
 (bd (S.dWrite (oz (oz (lsub l (we 0) a) (lsub l (wr (oe a (we 1))) b)) (lsub l (wr (oe b (we 1))) (we l.length)))) fun v=>bd (S.exprOf v.1) fun w=>bd (S.dSameR (zl x) (zl w.1)) fun s=>cond (ieqI v.2.1 (we 0)) (cond (iltI a b) (cond (Bool.not (ieqI w.2.2.1 (we 0))) (iz (i7,())) (iz (Bool.not s.1,()))) (iz (eb,()))) (iz (eb,())))
 i6) i6) i6) i6) i6) i6
theorem zb8(lf:Nat)(x1:zc)(x2:Int)(K:(Int × (Lz zb) × Int × Int × Int)->Oq jb)(i:Int)(l:Lz zb)(z a d:Int):qnq lf x1 x2 K (i,l,z,a,d) =
  cond (iltI i (we l.length)) (bd (jget l i) fun v0=>cond (keqS v0.2.1 S.LP) (bd (jget l i) fun v1=>cond (keqS v1.2.1 S.RP) (cond (ieqI (wr (fq (wr (oe d (we 1))) (we 1))) (we 0)) (finR x1 l a i) (K (wr (oe i (we 1)),l,z,a,wr (fq (wr (oe d (we 1))) (we 1)))))
   (K (wr (oe i (we 1)),l,z,a,wr (oe d (we 1))))) (bd (jget l i) fun v=>cond (keqS v.2.1 S.RP) (cond (ieqI (wr (fq d (we 1))) (we 0)) (finR x1 l a i) (K (wr (oe i (we 1)),l,z,a,wr (fq d (we 1))))) (K (wr (oe i (we 1)),l,z,a,d)))) (finR x1 l a z):=rfl
theorem zvs(lf:Nat)(x1:zc)(x2:Int)(K:((Lz zb) × Int × (Lz Int))->Oq jb)(L:(Int × (Lz zb) × Int × Int × Int)->Oq jb)(l:Lz zb)(i:Int)(o:Lz Int):qsk lf x1 x2 K L (l,i,o) =
  cond (iltI i (we l.length)) (bd (jget l i) fun v0=>cond (keqS v0.2.1 S.LP) (cond (ieqI i (we 0)) (cond (og (o7 (o5 o.length 1) 8) 140737488355328) (K (l,wr (oe i (we 1)),oz o [i])) i6)
   (bd (jget l (wr (fq i (we 1)))) fun v=>cond (Bool.not (ieqI v.1 (we 1))) (cond (og (o7 (o5 o.length 1) 8) 140737488355328) (K (l,wr (oe i (we 1)),oz o [i])) i6) (K (l,wr (oe i (we 1)),o)))) (K (l,wr (oe i (we 1)),o)))
   (cond (ieqI (we o.length) (we 0)) (iz (i7,())) (cond (ieqI (we o.length) (we 0)) i6 (bd (jget o (Int.tmod (wr x2) (we o.length))) fun _=>bd (o[(Int.tmod (wr x2) (we o.length)).toNat]?) fun v=>L (v,l,v,v,we 0)))):=rfl
theorem zx5(lf:Nat)(x1:zc)(x2:Int)(L:((Lz zb) × Int × (Lz Int))->Oq jb):qse lf x1 x2 L =
  bd (S.lExprsR (zl x1) (we 0) (we 0)) fun c=>cond (Bool.not c.1.1) (iz (i7,())) (bd (S.exprText (zl x1)) fun v=>bd (cond (S.fits v.1) (iz ((S.tokens v.1).1,(S.tokens v.1).2.2.1,(S.tokens v.1).2.2.2,())) i6) fun w=>cond (Bool.not (ieqI v.2.1 (we 0))) (iz (i7,())) (cond (Bool.not (ieqI w.2.2.1 (we 0))) (iz (i7,())) (L (w.1,we 0,[])))):=rfl
theorem qj5{i:Nat}(h:i<=6000):wr (oe (we i) (we 1))=we (i+1):=by
 show IntKind.i64.wrap ((i:Int)+1)=_;rw[w64 (by omega) (by omega)];rfl
theorem zxe{i:Nat}(h:i<=6000)(h0:¬i=0):wr (fq (we i) (we 1))=we (i-1):=by
 show IntKind.i64.wrap ((i:Int)-1)=_;rw[w64 (by omega) (by omega)]
 grind
theorem zgu{d:Int}(h0:-7000<=d)(h:d<=7000):wr (oe d (we 1))=d+1:=w64 (i:=d+1) (by omega) (by omega)
theorem zkz{d:Int}(h0:-7000<=d)(h:d<=7000):wr (fq d (we 1))=d-1:=w64 (i:=d-1) (by omega) (by omega)
theorem zbz{l:Lz zb}{i:Nat}(h:i<l.length):S.tkA (S.kts l) i=(l[i].1,l[i].2.1):=by
 unfold S.tkA S.kts;rw[ru,xc h];rfl
theorem q3x(T:Lz S.KT)(i:Nat):S.dT T i<=i:=by
 unfold S.dT S.pT;have a:=List.countP_le_length (p:=fun t:S.KT=>keqS t.2 S.LP) (l:=T.take i)
 grind
theorem q2l{n:Nat}(h:n<=6000):n<LF:=Nat.lt_of_le_of_lt h (by decide)
theorem ztx{x1:zc}{x2:Int}{lf:Nat}{l:Lz zb}{a:Nat}(ha:a<l.length)(hlp:l[a].2.1=S.LP)(hb:Bal (S.kts l) 0 l.length)(h6:l.length<=6000)(hfin:∀b,a<b->b<l.length->finR x1 l (we a) (we b)=iz (i7,()))(z:Int) :
  qap lf x1 x2 LF (we a,l,z,we a,we 0)=iz (i7,()):=by
 unfold qap;have m:S.dT (S.kts l) 0=0:=rfl;refine qq6 (μ:=fun p=>l.length-p.1.toNat) (g:=fun _=>iz (i7,())) (I:=fun p=>p.2.1=l/\p.2.2.2.1=we a/\∃i:Nat,p.1=we i/\a<=i/\i<=l.length/\p.2.2.2.2=S.dT (S.kts l) i-S.dT (S.kts l) a/\(i=a\/1<=p.2.2.2.2))
  ?_ LF _ ⟨rfl,rfl,a,rfl,xl _,ra ha,by show (0:Int)=_;omega,.inl rfl⟩ (q2l (by omega))
 rintro K ⟨v,u,z,D,d⟩ ⟨j,h,i,q,L,C,t,s⟩ B;have j:l=u:=j.symm;have h:D=we a:=h;have q:v=we i:=q;subst j h q;have t:d=S.dT (S.kts l) i-S.dT (S.kts l) a:=t;have s:i=a\/1<=d:=s;have J:=hb.2.2 a (pm _) (ra ha);have H:=hb.2.1;have A:0<=d:=by
  grind
 rw[zb8];by_cases f:i<l.length
 ·have G:=hb.2.2 i (pm _) C;have F:=q3x (S.kts l) i;have E:=q3x (S.kts l) a;have c:=qhf (T:=S.kts l) (a:=i) (by rw[wm];exact f);rw[zbz f] at c;have o:∀n,n=S.dT (S.kts l) (i+1)-S.dT (S.kts l) a->1<=n->K (we (i+1),l,z,we a,n)=iz (i7,()):=fun n j h =>
   B _ ⟨rfl,rfl,i+1,rfl,by omega,f,j,.inr h⟩ (by show l.length-(i+1)<l.length-i;omega)
  rw[sc (x:=we i) (y:=we l.length) (by show (i:Int)<l.length;omega),qc8 f,qj5 (by omega)];simp only[xa,bd];cases k:keqS l[i].2.1 S.LP with
  | true =>
   have e:l[i].2.1=S.LP:=xu k;rw[e,qru];simp only[xa,xe];rw[e,qio,qru] at c;simp only[xa,xe] at c;rw[zgu (by omega) (by omega)];exact o _ (by omega) (by omega)
  | false =>
   have w:¬i=a:=fun e=>by
    subst e;rw[hlp,qio] at k;cases k
   rw[k] at c;simp only[xe];cases r:keqS l[i].2.1 S.RP with
   | true =>
    rw[r] at c;simp only[xa,xe] at c ⊢;rw[zkz (by omega) (by omega)];cases m:ieqI (d-1) (we 0) with
    | true=>exact hfin i (by omega) f
    | false =>
     rw[zx] at m;have m:¬d-1=0:=gx m;exact o _ (by omega) (by omega)
   | false =>
    rw[r] at c;simp only[xe] at c ⊢;exact o _ (by omega) (by omega)
 ·exfalso;have e:i=l.length:=by omega
  subst e;omega
theorem zre{x:zc}{q:Nat}{W:Lz Bq}{l:Lz zb}(hF:Few 70 x)(hq:S.wexpr q x=iz W)(hk:S.kts l=S.kts (W.map tkW))(hr:∀t∈l,S.right t=i7)(h6:l.length<=6000)(hz:wsz (S.kts l)<=20001)
  {a b:Nat} (hab:a<b) (hb:b<l.length) (hlp:(l[a]'(jci hab hb)).2.1=S.LP):finR x l (we a) (we b)=iz (i7,()):=by
 have f:a<l.length:=by omega
 have z:lsub l (we 0) (we a)=l.take a:=rfl;have w:lsub l (we (a+1)) (we b)=(l.drop (a+1)).take (b-(a+1)):=by
  show (l.take b).drop (a+1)=_;rw[List.drop_take]
 have r:lsub l (we (b+1)) (we l.length)=l.drop (b+1):=by
  show (l.take l.length).drop (b+1)=_
  grind
 have e:l=l.take a++l[a]::((l.drop (a+1)).take (b-(a+1))++l[b]::l.drop (b+1)):=by
  have j:l.drop b=l[b]::l.drop (b+1):=dw hb;have i:l.drop a=l[a]::l.drop (a+1):=dw f;have g:(l.drop (a+1)).take (b-(a+1))++l.drop b=l.drop (a+1):=by
   have:=dz (b-(a+1)) (l.drop (a+1));rw[ja4,show a+1+(b-(a+1))=b by omega] at this
   grind
  rw[<- j,g,<- i,dz]
 obtain⟨t,y,p,h,s,o,n,m,k⟩:=nobr hF hq hk hr h6 hz e hlp;have C:lchk (we 0) (we a) (we l.length) (we l.length)=i7:=cu.2 ⟨gr _,by show (0:Int)<=a;omega,by show (a:Int)<=l.length;omega,gr _⟩;have B:lchk (we (a+1)) (we b) (we l.length) (we l.length)=i7:=cu.2 ⟨by show (0:Int)<=((a+1:Nat):Int);omega,by show ((a+1:Nat):Int)<=b;omega,by show (b:Int)<=l.length;omega,gr _⟩;have A:lchk (we (b+1)) (we l.length) (we l.length) (we l.length)=i7:=cu.2 ⟨by show (0:Int)<=((b+1:Nat):Int);omega,by show ((b+1:Nat):Int)<=l.length;omega,gr _,gr _⟩;have F:(l.take a).length<=l.length:=List.length_take_le' a l;have E:((l.drop (a+1)).take (b-(a+1))).length<=l.length:=by rw[jab,gy];omega
 have D:(l.drop (b+1)).length<=l.length:=by rw[gy];omega
 have c:∀{u v:Nat},u<=12000->v<=12000->og (o7 (o5 u v) 40) 140737488355328=i7:=fun {u v} H G=>x7 (by show (u+v)*40<=_;omega);unfold finR;rw[qj5 (by omega),qj5 (by omega),z,w,r,C,B,A,c (by omega) (by omega),c (by omega) (by omega),c (by show (l.take a++_).length<=_;rw[xp];omega) (by omega)];simp only[xa];show bd (S.dWrite (l.take a++(l.drop (a+1)).take (b-(a+1))++l.drop (b+1))) _=_;rw[o];simp only[bd,n,qz,S.dSameR,m,S.oU];rw[show ieqI 0 (we 0)=i7 from rfl,sc (show we a<we b from by show (a:Int)<b;omega)];simp only[xa];cases d:ieqI h (we 0) with
 | false=>rfl
 | true =>
  rw[zx] at d;rw[k (xu d)];rfl
theorem zq7{x1:zc}{x2:Int}{l:Lz zb}(hx:0<=x2/\x2<256)(h6:l.length<=6000)(h21:∀(a:Nat) (h:a<l.length),l[a].2.1=S.LP->qap LF x1 x2 LF (we a,l,we a,we a,we 0)=iz (i7,())) :
  qak LF x1 x2 LF (l,we 0,[])=iz (i7,()):=by
 unfold qak;refine qq6 (μ:=fun p=>l.length-p.2.1.toNat) (g:=fun _=>iz (i7,())) (I:=fun p=>p.1=l/\∃i:Nat,p.2.1=we i/\i<=l.length/\p.2.2.length<=i/\∀o∈p.2.2,∃a:Nat,o=we a/\∃h:a<l.length,l[a].2.1=S.LP)
  ?_ LF _ ⟨rfl,0,rfl,pm _,xl _,fun o C=>by cases C⟩ (q2l (by omega))
 rintro K ⟨r,z,o⟩ ⟨d,i,n,M,q,c⟩ G;have d:l=r:=d.symm;have n:z=we i:=n;subst d n;have c:∀u∈o,∃a:Nat,u=we a/\∃h:a<l.length,l[a].2.1=S.LP:=c;have q:o.length<=i:=q;rw[zvs];by_cases m:i<l.length
 ·have j:∀f,f.length<=i+1->(∀u∈f,∃a:Nat,u=we a/\∃h:a<l.length,l[a].2.1=S.LP)->K (l,we (i+1),f)=iz (i7,()):=fun f d L =>
   G _ ⟨rfl,i+1,rfl,m,d,L⟩ (by show l.length-(i+1)<l.length-i;omega)
  rw[sc (x:=we i) (y:=we l.length) (by show (i:Int)<l.length;omega),qc8 m,qj5 (by omega)];simp only[xa,bd];cases F:keqS l[i].2.1 S.LP with
  | false=>exact j o (by omega) c
  | true =>
   have D:og (o7 (o5 o.length 1) 8) 140737488355328=i7:=x7 (by show (o.length+1)*8<=_;omega);have B:K (l,we (i+1),oz o [(we i)])=iz (i7,()):=j _ (by show (o++[we i]).length<=_;rw[xp];show o.length+1<=_;omega) fun u hu=>by
    rcases p4.1 hu with hu|hu
    ·exact c u hu
    ·simp only[po,jan,or_false] at hu;exact⟨i,hu,m,xu F⟩
   rw[D,B];simp only[xa];cases b:ieqI (we i) (we 0) with
   | true=>rfl
   | false =>
    rw[zx] at b;have b:¬i=0:=fun e=>gx b (xy we e);rw[zxe (by omega) b,qc8 (show i-1<l.length by omega)];simp only[xe];cases Bool.not (ieqI l[i-1].1 (we 1)) with
    | true=>rfl
    | false=>exact j o (by omega) c
 ·rw[bq (x:=we i) (y:=we l.length) (by show ¬(i:Int)<l.length;omega)];simp only[xe];cases b:ieqI (we o.length) (we 0) with
  | true=>rfl
  | false =>
   rw[zx] at b;have b:¬o.length=0:=fun e=>gx b (xy we e);simp only[xe];have A:wr x2=x2:=w64 (by omega) (by omega);rw[A];have J:0<=Int.tmod x2 (we o.length):=Int.tmod_nonneg _ hx.1;have H:Int.tmod x2 (we o.length)<we o.length:=Int.tmod_lt_of_pos _ (by show (0:Int)<(o.length:Int);omega);obtain⟨v,w,t,s⟩:=q88 J H;rw[w,t];simp only[bd];obtain⟨a,rfl,E,k⟩:=c v s;exact h21 a E k
theorem ztc(x1:zc)(x2:Int)(hx:0<=x2/\x2<256):Fz43 LF x1 x2=iz (i7,()):=by
 unfold Fz43;rw[zx5];simp only[qz];obtain⟨r,B,w⟩:=zzl x1;have e:S.lExprsR x1 (we 0) (we 0)=iz ((r.1,()),(r.2,()),()):=by
  unfold S.lExprsR
  grind
 rw[e];simp only[bd];cases p:r.1 with
 | false=>rfl
 | true =>
  obtain⟨i,v⟩:=w p;obtain⟨s,A,z,y,x⟩:=zgq i v;simp only[z,y,gd,xa,xe];cases h:ieqI A (we 0) with
  | false=>rfl
  | true =>
   rw[zx] at h;obtain⟨q,W,o,g,m,d,l,k,n,j⟩:=x (xu h);rw[k];show qak LF x1 x2 LF ((S.tokens s).1,we 0,[])=iz (i7,());refine zq7 hx d fun a u c=>?_;refine ztx u c ((blE (qxg g) n).expr j) d (fun b f t=>?_) _;exact zre i o m g d l f t c
theorem zlr{n:Int}(h:IntKind.u8.wrap n=n):0<=n/\n<256:=by
 simp only[ag,az,m8] at h
 grind
theorem conz43:Con oa 6 ⟨[cExpr,.int .u8],[(eb,.bool)],fun _=>iz (i7,())⟩ :=
 zfy ⟨zhx,qly,zqo,zmk q37,zfp,zn2,trivial⟩ zch fun x y b a=>⟨LF,by
  cases a;exact ztc x.1 x.2.1 (zlr b.2.1)⟩
end Go.Proofs.YtaepcfidpcoofaaGreatDoor
end

section
set_option maxRecDepth 100000
noncomputable section
namespace Go.Proofs.YtaepcfidpcoofaaGreatDoor
open Go Go.Sx Go.ChangeShapes Go.WideShapes Go.ChangeAt Go.RowKit Go.Jx
theorem ownKnobT:ownKnob Tryz.prog.godebug=i6:=by kernel_rfl
theorem laidT:laidOutB oa=i7:=by kernel_rfl
theorem trw_of{H:Type}{en:ov × oc->H}{W:oh}{T:ov}{v:oc}{d:DataW H}{ps:Lz MemPlace}(h:DataW.Trod en oa W 0 (fun _=>i7) i7 T v d ps)(hw:∀n∈d.weights oa T,n<=reachBytes):TRW oa W T v.cells.toList:=by
 obtain⟨a,h⟩:=h;exact⟨H,en,a,_,h,hw⟩
theorem rd3:RdT oa (.int .i64) 3:=fun N=>qxq Tryz.underlying3 (by kernel_rfl) (by kernel_rfl)
theorem rd5:RdT oa (.int .u8) 5:=fun N=>qxq Tryz.underlying5 (by kernel_rfl) (by kernel_rfl)
theorem rd9:RdT oa .str 9:=fun N=>zjb Tryz.underlying9 (by kernel_rfl) (by kernel_rfl)
theorem rd35:RdT oa cExpr 35
 | 0=>ziv (by kernel_rfl) (by kernel_rfl)
 | N+1=>zkj Tryz.underlying35 (rd3 _) (rd9 _) (rd3 _) (zfz (M:=N) (k:=1) (xl _) Tryz.underlying33 (rd35 N) (by decide) (by kernel_rfl) (by kernel_rfl)) rfl rfl rfl rfl (by kernel_rfl) (by kernel_rfl)
def qh3:Lz Int:=match y6 4 with|some l=>l|none=>[]
def powZ:Lz Int:=match gl6 3 with|some l=>l|none=>[]
def laidL:Lz (String × DataW Unit) := [("math/bits.deBruijn32tab", Rows.laid_math_bits_deBruijn32tab), ("math/bits.deBruijn64tab", Rows.laid_math_bits_deBruijn64tab), ("internal/strconv.uint64pow10", Rows.laid_internal_strconv_uint64pow10), ("unicode/utf8.acceptRanges", Rows.laid_unicode_utf8_acceptRanges), ("unicode.White_Space", Rows.laid_unicode_White_Space), ("strings.asciiSpace", Rows.laid_strings_asciiSpace), ("unicode/utf8.first", Rows.laid_unicode_utf8_first)]
theorem zj7:(Rows.laid_strings_asciiSpace:DataW Unit)=Lib.tabData .u8 qh3:=by kernel_rfl
theorem zse:(Rows.laid_internal_strconv_uint64pow10:DataW Unit)=Lib.tabData .u64 powZ:=by kernel_rfl
theorem q5s{W:oh}{name:String}{g:Nat}{cs:Array oc}(hg:Tryz.prog.globalNamed name=iz g)(h:W.var? oa name=iz cs):∃t fz,W.heap[g]?=iz (.cells cs t fz):=by
 unfold World.var? at h;rw[hg] at h;simp only[ja9] at h;split at h
 ·cases h;exact⟨_,_,by assumption⟩
 ·cases h
theorem gl_of_laid{W:oh}(h:laidMetH oa laidL W):Gl [] W:=⟨fun b a=>by
 rw[MakeChecks.laidMetH_plain _ _ _ (by kernel_rfl)] at h;have p:=h.tail.tail;have o:=h.tail.tail.tail.tail.tail;have r:Lib.TabIs oa W "internal/strconv.uint64pow10" .u64 powZ:=Lib.tabIs_of_head (g:=3) (t:=385) (e:=372) (n:=20) (by kernel_rfl) (by kernel_rfl) Tryz.underlying385 Tryz.underlying372 (by kernel_rfl) (by kernel_rfl) (by rw[<- zse];exact p);have q:Lib.TabIs oa W "strings.asciiSpace" .u8 qh3:=Lib.tabIs_of_head (g:=4) (t:=377) (e:=5) (n:=256) (by kernel_rfl) (by kernel_rfl) Tryz.underlying377 Tryz.underlying5 (by kernel_rfl) (by kernel_rfl) (by rw[<- zj7];exact o);refine⟨by simp,?_⟩;have j:b=3\/b=4:=by
  unfold glB at a;match b,a with
  | 0,a=>exact absurd a (by simp[y6,gl6])
  | 1,a=>exact absurd a (by simp[y6,gl6])
  | 2,a=>exact absurd a (by simp[y6,gl6])
  | 3,_=>exact .inl rfl
  | 4,_=>exact .inr rfl
  | b+5,a=>exact absurd a (by simp[y6,gl6])
 rcases j with rfl|rfl
 ·obtain⟨t,k,f⟩:=q5s (g:=3) (by kernel_rfl) r;exact⟨_,f,_,t,k,rfl,fun l c=>absurd c (by simp[y6]),fun l c=>by
   rw[show gl6 3=iz powZ from rfl] at c;cases c;rfl⟩
 ·obtain⟨t,k,f⟩:=q5s (g:=4) (by kernel_rfl) q;refine⟨_,f,_,t,k,rfl,fun l c i n m=>?_,fun l c=>absurd c (by simp[gl6])⟩;rw[show y6 4=iz qh3 from rfl] at c;cases c;have d:qh3.all (fun z=>decide (IntKind.u8.wrap z=z))=i7:=by kernel_rfl
  exact⟨by simp[m],xu (xz.1 d n (p7 m))⟩⟩
end Go.Proofs.YtaepcfidpcoofaaGreatDoor

end
end
