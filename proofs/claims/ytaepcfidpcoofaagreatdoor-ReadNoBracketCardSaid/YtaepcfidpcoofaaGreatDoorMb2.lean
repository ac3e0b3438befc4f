/- Texts: Jg, Jh, Ji, Jj, Jk, Jl, Jm, Jnm, Jnn, Jnp, Jn, Jo, Jp, Jq. -/
import Derived.Test.YtaepcfidpcoofaaGreatDoorMb1
import Derived.OrdersIn
import Derived.RangeFuncLeaves
import Derived.RangeFuncNested
import Derived.Scope
set_option linter.unusedVariables false
set_option linter.unusedSectionVars false
set_option linter.unusedSimpArgs false
set_option linter.unnecessarySimpa false
open Array renaming replicate->fg
open BitVec renaming ofInt->aj
open Bool renaming false->eb,true->i7
open Go renaming Addr->f9,CallsIn->mf,Code->fw,Deferred->ip,Ending->aw,Field->ic,IntKind->ff,LeavesInM->il,Oper->o8,Operand->fh,Program->om,ResultVar->iu,TypeDesc->fd,TypeId->ov,Value->oc,World->oh
open Go.Call renaming operands->mg
open Go.Deferred renaming ofValue->ma
open Go.Fence renaming wide->ox
open Go.Instr renaming buildSlice->mc,loadAt->af,slice->io,sliceAt->f8,sliceBound->fy,sliceBounds->o6,sureAddr->mh
open Go.IntKind renaming bits->az,signed->m8,wrap->ag
open Go.Op renaming equalIn->mj,intArith->im,intCmp->al,operands->ot
open Go.Region renaming binds->mu,wanted->my
open Go.World renaming cell?->fu
open List renaming range->fv
open Nat renaming beq->od,ble->og,blt->oo
open Option renaming none->i6,some->iz
open Or renaming inr->ig
noncomputable section
namespace Go.Jx
open Go Go.Sx Go.RowKit
universe u

def evo(nt:Nat)(fr:PT IV):fh->Oq IV
 | .tmp t=>cond (oo t nt) (iz (slot fr t)) i6
 | .const v=>ofV v
 | .func f=>iz (.fn f [])
 | .global g=>cond (glB g) (iz (.gp g)) i6
def evL(nt:Nat)(fr:PT IV):Lz fh->Oq (Lz IV)
 | []=>iz []
 | x::l=>match evo nt fr x with
  | some v=>match evL nt fr l with
   | some vs=>iz (v::vs)
   | none=>i6
  | none=>i6
def evP(nt:Nat)(fr:PT IV):Lz (Nat × fh)->Oq (Lz (Nat × IV))
 | []=>iz []
 | x::l=>match evo nt fr x.2 with
  | some v=>match evP nt fr l with
   | some vs=>iz ((x.1,v)::vs)
   | none=>i6
  | none=>i6
def evM(nt:Nat)(fr:PT IV):Oq fh->Oq (Oq IV)
 | none=>iz i6
 | some x=>match evo nt fr x with
  | some v=>iz (iz v)
  | none=>i6
section
variable {P : om} {tt : Nat -> Oq TI} {T : TW} {E : Env} {S : IS} {nt : Nat} {fr : PT IV} {a : Act}
theorem qpw{x:fh}{v:IV}(hf:FR E nt fr a.tmps)(h:evo nt fr x=iz v):VR E v (a.eval x):=by
 cases x with
 | tmp t =>
  simp only[evo] at h;cases b:oo t nt with
  | false=>rw[b] at h;cases h
  | true=>rw[b,xa] at h;cases h;exact hf.get t (by simpa using b)
 | const c=>exact qee E h
 | func f=>cases h;exact .fn (us:=[]) rfl (fun i h=>by simp at h)
 | global g =>
  simp only[evo] at h;cases b:glB g with
  | false=>rw[b] at h;cases h
  | true=>rw[b,xa] at h;cases h;exact .gp b
def OK(E:Env)(nt:Nat)(fr:PT IV)(a:Act)(l:Lz fh):Prop:=∀x∈l,∀v,evo nt fr x=iz v->VR E v (a.eval x)
theorem OK.of{l:Lz fh}(hf:FR E nt fr a.tmps):OK E nt fr a l:=fun x _ v h=>qpw hf h
theorem OK.mono{E':Env}(e:E.Le E'){l:Lz fh}(h:OK E nt fr a l):OK E' nt fr a l:=fun x b v c=>(h x b v c).mono e
theorem qna:∀{l:Lz fh} {vs:Lz IV},OK E nt fr a l->evL nt fr l=iz vs->VRs E vs (l.map a.eval)
 | [],vs,hf,h=>by cases h;exact VRs.nil
 | x::l,vs,hf,h=>by
  unfold evL at h;split at h<;>try cases h
  rename_i v hv;split at h<;>cases h;rename_i vs hvs;exact VRs.cons (hf x x8 v hv) (qna (fun y hy=>hf y (xv _ hy)) hvs)
theorem qnt:∀{l:Lz (Nat × fh)} {vs:Lz (Nat × IV)},OK E nt fr a (l.map (·.2))->evP nt fr l=iz vs->VPs E vs (l.map fun p=>(p.1,a.eval p.2))
 | [],vs,hf,h=>by cases h;trivial
 | x::l,vs,hf,h=>by
  unfold evP at h;split at h<;>try cases h
  rename_i v hv;split at h<;>cases h;rename_i vs hvs;exact⟨rfl,hf _ (by simp) v hv,qnt (fun y hy=>hf y (by simp only[ga];exact xv _ hy)) hvs⟩
theorem yd{x:Oq fh}{v:Oq IV}(hf:OK E nt fr a x.toList)(h:evM nt fr x=iz v):VO E v (x.map a.eval):=by
 cases x with
 | none=>cases h;trivial
 | some x =>
  simp only[evM] at h;split at h<;>cases h;rename_i v b;exact hf x (by simp) v b

def evV(nt:Nat)(fr:PT IV):fh->Oq oc
 | .tmp t=>cond (oo t nt) (toV (slot fr t)) i6
 | .const v=>iz v
 | .func f=>iz (.func (.func f) #[] #[])
 | .global _=>i6
def evG(nt:Nat)(fr:PT IV)(x:fh):oc:=match evV nt fr x with|some v=>v|none=>.tuple #[]
def qvd:Op->Bool
 | .select _ _=>eb
 | _=>i7
def qt(P:om)(nt:Nat)(fr:PT IV)(S:IS)(o:o8):Oq Res :=
 cond (qvd o.op&&o.op.operands.toList.all (fun x=>(evV nt fr x).isSome))
  (match calm P (execOp (evG nt fr) o) with
  | some (.value u)=>match ofV u with
   | some v=>iz ⟨v,S,0,0⟩
   | none=>i6
  | _=>i6) i6
def kr(P:om)(T:TW)(E:Env)(S:IS)(s:Sem Next)(r:Res):Prop :=
 ∃N u E',s.run P E.w=.ok N E'.w/\(N=.value u\/N=.skip/\u=undef)/\VR E' r.v u/\Post T E S E' r.S/\Fresh E S E'
theorem Good.res{e:Sem oc}{r:Res}(h:Good P T E S e r):kr P T E S (do pure (.value (<- e))) r:=by
 obtain⟨u,f,d,c,b,a⟩:=h;exact⟨.value u,u,f,by simp only[xh,d,xb,xd],.inl rfl,c,b,a⟩
theorem qay.res{e:Sem Unit}{r:Res}(h:qay P T E S e r):kr P T E S (do e;pure .skip) r:=by
 obtain⟨f,d,c,b,a⟩:=h;refine⟨.skip,undef,f,by simp only[xh,d,xb,xd],.inr ⟨rfl,rfl⟩,?_,b,a⟩;rw[c];exact .tup (us:=[]) rfl (fun i h=>by simp at h)
theorem q5t{o:o8}{r:Res}(p:Pre T E S)(hf:OK E nt fr a o.op.operands.toList)(h:qt P nt fr S o=iz r):kr P T E S (execOp a.eval o) r:=by
 unfold qt at h;cases j:(qvd o.op&&o.op.operands.toList.all (fun x=>(evV nt fr x).isSome)) with
 | false=>rw[j] at h;cases h
 | true =>
 rw[j,xa] at h;simp only[xf] at j;have n:execOp a.eval o=execOp (evG nt fr) o:=by
  refine execOp_congr o (fun q b e=>by rw[e] at j;exact absurd j.1 (by simp[qvd])) fun x k=>?_;have l:=(xz.1 j.2) x (by simpa using k);unfold evG;cases d:evV nt fr x with
  | none=>rw[d] at l;cases l
  | some v =>
   cases x with
   | tmp t =>
    simp only[evV] at d;cases i:oo t nt with
    | false=>rw[i] at d;cases d
    | true=>rw[i,xa] at d;exact zgt d (hf (.tmp t) (by simpa using k) _ (by simp only[evo,i,xa]))
   | const c=>cases d;rfl
   | func f=>cases d;rfl
   | global g=>cases d
 rw[n];split at h<;>try cases h
 rename_i u m;split at h<;>cases h;rename_i v d;exact⟨.value u,u,E,qpm m E.w,.inl rfl,qee E d,Post.refl p,Fresh.refl E S⟩

def ieqI:Int->Int->Bool
 | .ofNat m,.ofNat n=>od m n
 | .negSucc m,.negSucc n=>od m n
 | _,_=>eb
theorem zx(a b:Int):ieqI a b=decide (a=b):=by
 have c:∀m n:Nat,od m n=decide (m=n):=fun m n=>by
  rw[jaf];simp
 cases a with
 | ofNat m =>
  cases b with
  | ofNat n=>simp only[ieqI,c];exact jcf.2 ⟨fun h=>by rw[h],fun h=>jak h⟩
  | negSucc n=>symm;simp only[ieqI];exact xq (fun h=>by cases h)
 | negSucc m =>
  cases b with
  | ofNat n=>symm;simp only[ieqI];exact xq (fun h=>by cases h)
  | negSucc n=>simp only[ieqI,c];exact jcf.2 ⟨fun h=>by rw[h],fun h=>Int.negSucc.inj h⟩
def ior(k:ff)(a b:Int):Int:=k.wrap ((aj k.bits a ||| aj k.bits b).toNat)
def iand(k:ff)(a b:Int):Int:=k.wrap ((aj k.bits a &&& aj k.bits b).toNat)
def ibin:BinOp->ff->Int->Int->Oq IV
 | .lss,_,a,b=>iz (.bool (iltI a b))
 | .gtr,_,a,b=>iz (.bool (iltI b a))
 | .leq,_,a,b=>iz (.bool (!iltI b a))
 | .geq,_,a,b=>iz (.bool (!iltI a b))
 | .eql,_,a,b=>iz (.bool (ieqI a b))
 | .neq,_,a,b=>iz (.bool (!ieqI a b))
 | .add,k,a,b=>iz (.int k (k.wrap (a+b)))
 | .sub,k,a,b=>iz (.int k (k.wrap (a-b)))
 | .mul,k,a,b=>iz (.int k (k.wrap (a*b)))
 | .quo,k,a,b=>cond (ieqI b 0) i6 (iz (.int k (k.wrap (a.tdiv b))))
 | .rem,k,a,b=>cond (ieqI b 0) i6 (iz (.int k (a.tmod b)))
 | .and,k,a,b=>iz (.int k (iand k a b))
 | .or,k,a,b=>iz (.int k (ior k a b))
 | .xor,k,a,b=>iz (.int k (k.wrap ((aj k.bits a ^^^ aj k.bits b).toNat)))
 | .andNot,k,a,b=>iz (.int k (k.wrap ((aj k.bits a &&& ~~~aj k.bits b).toNat)))
 | _,_,_,_=>i6
theorem qpi(k:ff)(n:Int):k.wrap n=n↔k.min<=n/\n<=k.max:=by
 cases k<;>simp only[IntKind.min,IntKind.max,ag,az,m8,dv,p9,jae,Bool.false_and,pu,rp,ge_iff_le]<;>(repeat' split)<;>omega
theorem yy(k:ff)(n:Int):k.wrap (k.wrap n)=k.wrap n:=by
 rw[qpi];cases k<;>simp only[IntKind.min,IntKind.max,ag,az,m8,dv,p9,jae,Bool.false_and,pu,rp,ge_iff_le]<;>(repeat' split)<;>omega
theorem q8l(k:ff):k.min<=0/\0<=k.max:=by cases k<;>decide
theorem zsl{k:ff}{a:Int}(b:Int)(h:k.wrap a=a):k.wrap (a.tmod b)=a.tmod b:=by
 rw[qpi] at h ⊢;have f:=q8l k;rcases Int.le_total 0 a with h0|h0
 ·have e:=Int.tmod_nonneg b h0;have d:a.tmod b<=a:=by
   have:=Int.natAbs_tmod a b;have c:a.natAbs % b.natAbs<=a.natAbs:=Nat.mod_le _ _;omega
  omega
 ·have e:a.tmod b<=0:=by
   have:=Int.tmod_nonneg b (show 0<=-a by omega);rw[Int.neg_tmod] at this;omega
  have d:a<=a.tmod b:=by
   have:=Int.natAbs_tmod a b;have c:a.natAbs % b.natAbs<=a.natAbs:=Nat.mod_le _ _;omega
  omega
theorem zu8{k:ff}{a:Int}(n:Nat)(h:k.wrap a=a):k.wrap (a.fdiv (2 ^ n))=a.fdiv (2 ^ n):=by
 rw[qpi] at h ⊢;have f:=q8l k;have b:(0:Int)<2 ^ n:=Int.pow_pos (by omega);rw[Int.fdiv_eq_ediv_of_nonneg _ (jb7 b)];rcases Int.le_total 0 a with h0|h0
 ·have c:=Int.ediv_nonneg h0 (jb7 b);have e:=Int.ediv_le_self (2 ^ n) h0;omega
 ·have c:a / 2 ^ n<=0:=by
   rcases jb8 0 (a / 2 ^ n) with h5|h5
   ·have:=Int.mul_ediv_self_le (x:=a) (k:=2 ^ n) (by omega);have d:0<2 ^ n*(a / 2 ^ n):=Int.mul_pos b h5;omega
   ·grind
  have e:a<=a / 2 ^ n:=by
   have j:=Int.lt_mul_ediv_self_add (x:=a) (k:=2 ^ n) b;rcases jb8 (a / 2 ^ n) a with h4|h4
   ·exfalso;have h5:2 ^ n*(a / 2 ^ n)<=1*(a / 2 ^ n):=jbw (by omega) c;have d:2 ^ n*(a / 2 ^ n)<=2 ^ n*(a-1):=jam (by omega) (jb7 b);have i:2 ^ n*(a-1)=2 ^ n*a-2 ^ n:=by rw[Int.mul_sub,Int.mul_one]
    have g:(2:Int) ^ n*a<=1*a:=jbw (by omega) h0;omega
   ·grind
  omega
def ishl(k:ff)(a b:Int):Int:=k.wrap (a*2 ^ (min b.toNat k.bits))
def qiq:BinOp->ff->Int->Int->Oq IV
 | .shl,k,a,b=>cond (iltI b 0) i6 (iz (.int k (ishl k a b)))
 | .shr,k,a,b=>cond (iltI b 0) i6 (iz (.int k (a.fdiv (2 ^ (min b.toNat k.bits)))))
 | _,_,_,_=>i6
theorem zbr{w:oh}{op:BinOp}{k k':ff}{x y:Int}{v:IV}{ty:ov}(hx:k.wrap x=x)(h:qiq op k x y=iz v):∃u,(binOp op ty (.int k x) (.int k' y)).run P w=.ok u w/\VR E v u:=by
 cases op<;>try cases h
 all_goals
  simp only[qiq] at h;cases a:iltI y 0 with
  | true=>rw[a] at h;cases h
  | false =>
   rw[a,xe] at h;cases h;rw[qc] at a;have a:=gx a;first
   | exact⟨.int k (ishl k x y),by simp only[binOp,Op.shift,a,p9,xd];rfl,.int _ _ (yy _ _)⟩
   | exact⟨_,by simp only[binOp,Op.shift,a,p9,xd],.int _ _ (zu8 _ hx)⟩
theorem zxn{w:oh}{op:BinOp}{k:ff}{x y:Int}{v:IV}{ty:ov}(hx:k.wrap x=x)(h:ibin op k x y=iz v):∃u,(binOp op ty (.int k x) (.int k y)).run P w=.ok u w/\VR E v u:=by
 have d:∀a b:Int,(!iltI b a)=decide (a<=b):=fun a b=>by
  rw[qc,<- decide_not];exact jcf.2 (by omega)
 have e:∀a b:Int,(!ieqI a b)=(a != b):=fun a b=>by
  rw[zx];rw[jaf];simp
 cases op with
 | lss=>cases h;exact⟨.bool (decide (x<y)),by simp only[binOp,ne_eq,pq,p9,al,xd],by rw[qc];exact .bool _⟩
 | gtr=>cases h;exact⟨.bool (decide (x > y)),by simp only[binOp,ne_eq,pq,p9,al,xd],by rw[qc];exact .bool _⟩
 | leq=>cases h;exact⟨.bool (decide (x<=y)),by simp only[binOp,ne_eq,pq,p9,al,xd],by rw[d];exact .bool _⟩
 | geq=>cases h;exact⟨.bool (decide (x ≥ y)),by simp only[binOp,ne_eq,pq,p9,al,xd],by rw[d];exact .bool _⟩
 | eql=>cases h;exact⟨.bool (x==y),by simp only[binOp,ne_eq,pq,p9,al,xd],by rw[show ieqI x y=(x==y) from by rw[zx];rfl];exact .bool _⟩
 | neq=>cases h;exact⟨.bool (x != y),by simp only[binOp,ne_eq,pq,p9,al,xd],by rw[e];exact .bool _⟩
 | add=>cases h;exact⟨_,by simp only[binOp,ne_eq,pq,p9,im,xd],.int _ _ (yy _ _)⟩
 | sub=>cases h;exact⟨_,by simp only[binOp,ne_eq,pq,p9,im,xd],.int _ _ (yy _ _)⟩
 | mul=>cases h;exact⟨_,by simp only[binOp,ne_eq,pq,p9,im,xd],.int _ _ (yy _ _)⟩
 | quo =>
  simp only[ibin] at h;cases c:ieqI y 0 with
  | true=>rw[c] at h;cases h
  | false =>
   rw[c,xe] at h;cases h;rw[zx] at c;have c:=gx c;exact⟨_,by simp only[binOp,ne_eq,pq,p9,Op.intDiv,c,xd],.int _ _ (yy _ _)⟩
 | rem =>
  simp only[ibin] at h;cases c:ieqI y 0 with
  | true=>rw[c] at h;cases h
  | false =>
   rw[c,xe] at h;cases h;rw[zx] at c;have c:=gx c;exact⟨_,by simp only[binOp,ne_eq,pq,p9,Op.intDiv,c,xd],.int _ _ (zsl _ hx)⟩
 | and=>cases h;exact⟨.int k (iand k x y),by simp only[binOp,ne_eq,pq,p9,Op.intBits,xd];rfl,.int _ _ (yy _ _)⟩
 | or=>cases h;exact⟨.int k (ior k x y),by simp only[binOp,ne_eq,pq,p9,Op.intBits,xd];rfl,.int _ _ (yy _ _)⟩
 | xor=>cases h;exact⟨_,by simp only[binOp,ne_eq,pq,p9,Op.intBits,xd],.int _ _ (yy _ _)⟩
 | andNot=>cases h;exact⟨_,by simp only[binOp,ne_eq,pq,p9,Op.intBits,xd],.int _ _ (yy _ _)⟩
 | _=>cases h

def oget{α β:Type u}(x:Oq α)(f:α->Oq β):Oq β:=match x with|some a=>f a|none=>i6
theorem zo{α β:Type u}{x:Oq α}{f:α->Oq β}{b:β}(h:oget x f=iz b):∃a,x=iz a/\f a=iz b:=by
 cases x with
 | none=>cases h
 | some a=>exact⟨a,rfl,h⟩
def isSl:fd->Bool
 | .slice _=>i7
 | _=>eb
def ieq1:fd->IV->IV->Oq Bool
 | .int _,.int k a,.int k' b=>cond (kbeq k k') (iz (keqI a b)) i6
 | .string,.str a,.str b=>iz (keqS a b)
 | .bool,.bool a,.bool b=>iz (keqB a b)
 | _,_,_=>i6
def ieqF(tt:Nat->Oq TI):Lz ic->Lz IV->Lz IV->Oq Bool
 | [],_,_=>iz i7
 | f::fs,xs,ys=>match tt f.type,xs[f.offset]?,ys[f.offset]? with
  | some tf,iz x,iz y=>match ieq1 tf.und x y,ieqF tt fs xs ys with
   | some b,iz r=>cond (decide (f.name ≠ "_") && qv tf.und) (iz (b&&r)) i6
   | _,_=>i6
  | _,_,_=>i6
def ieqP(P:om)(tt:Nat->Oq TI)(f:ic)(tf:TI)(xs ys:Lz IV):Oq Bool:=match tf.und with
 | .struct gs=>cond (P.stoodInHeld f.type) i6 (ieqF tt gs.toList ((xs.drop f.offset).take tf.sz) ((ys.drop f.offset).take tf.sz))
 | D=>match xs[f.offset]?,ys[f.offset]? with
  | some x,iz y=>cond (qv D) (ieq1 D x y) i6
  | _,_=>i6
def ieqG(P:om)(tt:Nat->Oq TI):Lz ic->Lz IV->Lz IV->Oq Bool
 | [],_,_=>iz i7
 | f::fs,xs,ys=>match tt f.type with
  | none=>i6
  | some tf=>match ieqP P tt f tf xs ys,ieqG P tt fs xs ys with
   | some b,iz r=>cond (decide (f.name ≠ "_")) (iz (b&&r)) i6
   | _,_=>i6
def eqOK(P:om)(T:ov):Bool:=!P.stoodInHeld T&&!P.eqGuardType P.depth T
def isSh:BinOp->Bool
 | .shl=>i7
 | .shr=>i7
 | _=>eb
def isQR:BinOp->Bool
 | .quo=>i7
 | .rem=>i7
 | _=>eb
def vr(P:om)(tt:Nat->Oq TI)(nt:Nat)(fr:PT IV)(S:IS)(o:o8)(op:BinOp)(T:ov)(ti:TI):IV->IV->Oq Res
 | .int k a,.int k' b=>match qiq op k a b with
  | some v=>iz ⟨v,S,0,0⟩
  | none=>cond (isSh op) i6 (cond (decide (k=k')) (match ibin op k a b with|some v=>iz ⟨v,S,0,0⟩|none=>cond (isQR op) i6 (qt P nt fr S o)) (qt P nt fr S o))
 | .str a,.str b=>match op with
  | .eql=>match ieq1 ti.und (.str a) (.str b) with|some r=>iz ⟨.bool r,S,0,0⟩|none=>i6
  | .neq=>match ieq1 ti.und (.str a) (.str b) with|some r=>iz ⟨.bool (!r),S,0,0⟩|none=>i6
  | .add=>cond (oo (a.size+b.size) 9223372036854775808) (iz ⟨.str (a++b),S,0,0⟩) i6
  | _=>qt P nt fr S o
 | .agg xs,.agg ys=>match ti.und with
  | .struct fs=>match ieqG P tt fs.toList xs ys with
   | some r=>cond (eqOK P T) (match op with
    | .eql=>iz ⟨.bool r,S,0,0⟩
    | .neq=>iz ⟨.bool (!r),S,0,0⟩
    | _=>i6) i6
   | none=>i6
  | _=>qt P nt fr S o
 | .sl _ _ _ _ _,.nilsl=>cond (isSl ti.und) (match op with
  | .eql=>iz ⟨.bool eb,S,0,0⟩
  | .neq=>iz ⟨.bool i7,S,0,0⟩
  | _=>i6) i6
 | .lst _ l,.nilsl=>cond (isSl ti.und) (match l with
  | []=>i6
  | _::_=>match op with
   | .eql=>iz ⟨.bool eb,S,0,0⟩
   | .neq=>iz ⟨.bool i7,S,0,0⟩
   | _=>i6) i6
 | _,_=>qt P nt fr S o
def qal(tt:Nat->Oq TI)(S:IS)(ty:Nat)(lo hi mx:Oq IV)(s:Bq):Oq Res :=
 match tt ty,mx with
 | some ti,i6=>match ti.und with
  | .string=>match bndI lo 0,bndI hi s.size with
   | some a,iz b=>cond (lchk a b s.size s.size) (iz ⟨.str (s.extract a.toNat b.toNat),S,0,0⟩) i6
   | _,_=>i6
  | _=>i6
 | _,_=>i6
def qao(tt:Nat->Oq TI)(S:IS)(ty:Nat)(lo hi mx:Oq IV)(id:Nat)(wh:Bool):Oq Res :=
 match tt ty,mx with
 | some ti,i6=>match ti.und with
  | .slice e=>match tt e with
   | none=>i6
   | some te=>match S.heap.get id with
    | some (.arr c l)=>match bndI lo 0,bndI hi l.length with
     | some a,iz b=>cond wh (cond (ieqI a 0&&ieqI b l.length) (iz ⟨.arr id,S,2 ^ id,0⟩) i6)
      (cond (od te.sz (csz c)&&lchk a b l.length l.length) (iz ⟨.lst c (lsub l a b),S.set id (.frz c l),0,2 ^ id⟩) i6)
     | _,_=>i6
    | some (.frz c l)=>match bndI lo 0,bndI hi l.length with
     | some a,iz b=>cond (od te.sz (csz c)&&lchk a b l.length l.length) (iz ⟨.lst c (lsub l a b),S,2 ^ id,0⟩) i6
     | _,_=>i6
    | _=>i6
  | _=>i6
 | _,_=>i6
def qaw(tt:Nat->Oq TI)(S:IS)(ty:Nat)(s:Bq)(i:Int):Oq Res :=
 match tt ty with
 | some ti=>match ti.und with
  | .string=>match jget (za s) i with
   | some x=>iz ⟨.int .u8 x,S,0,0⟩
   | none=>i6
  | _=>i6
 | none=>i6
def iun(op:UnOp)(S:IS):IV->Oq Res
 | .int k n=>match op with
  | .neg=>iz ⟨.int k (k.wrap (0-n)),S,0,0⟩
  | _=>i6
 | .bool b=>match op with
  | .not=>iz ⟨.bool (!b),S,0,0⟩
  | _=>i6
 | _=>i6
def imax(a b:Int):Int:=cond (iltI a b) b a
def imin(a b:Int):Int:=cond (iltI b a) b a
def imm(f:Int->Int->Int)(P:om)(nt:Nat)(fr:PT IV)(S:IS)(o:o8)(v u:IV):Oq Res:=match v,u with
 | .int k a,.int k' b=>cond (kbeq k k') (iz ⟨.int k (f a b),S,0,0⟩) (qt P nt fr S o)
 | _,_=>qt P nt fr S o
theorem q3q(a b:Int):imax a b=if b > a then b else a:=by
 unfold imax;rw[qc]
 grind
theorem q35(a b:Int):imin a b=if b<a then b else a:=by
 unfold imin;rw[qc]
 grind
def iop(P:om)(tt:Nat->Oq TI)(nt:Nat)(fr:PT IV)(S:IS)(o:o8):Oq Res :=
 match o.op with
 | .move x=>oget (evo nt fr x) fun v=>iz ⟨v,S,0,0⟩
 | .assign x=>oget (evo nt fr x) fun v=>iz ⟨v,S,0,0⟩
 | .pick c x y=>oget (evo nt fr c) fun c=>match c with
  | .bool b=>oget (evo nt fr (cond b x y)) fun v=>iz ⟨v,S,0,0⟩
  | _=>i6
 | .alloc T=>qgz tt S T
 | .box T x=>oget (evo nt fr x) fun v=>ibox S v
 | .build T ps=>oget (evP nt fr ps.toList) fun l=>match qdt tt S T l with
  | some r=>iz r
  | none=>qt P nt fr S o
 | .buildSlice T len ps=>oget (evP nt fr ps.toList) fun l=>match qev tt S T len l with
  | some r=>iz r
  | none=>qe1 tt S T len l
 | .load T x=>oget (evo nt fr x) fun v=>yk tt S T v
 | .store T x y=>oget (evo nt fr x) fun v=>oget (evo nt fr y) fun u=>nq tt S T v u
 | .binOp op T x y _=>oget (evo nt fr x) fun v=>oget (evo nt fr y) fun u=>match tt T with
  | some ti=>vr P tt nt fr S o op T ti v u
  | none=>i6
 | .convert src dst x=>oget (evo nt fr x) fun v=>match v with
  | .sl id off len s c=>istr tt S src dst (.sl id off len s c)
  | .lst c l=>istr tt S src dst (.lst c l)
  | .arr id=>istr tt S src dst (.arr id)
  | .int k n=>match tt src,tt dst with
   | some ts,iz td=>match ts.und,td.und with
    | .int _,.int k'=>iz ⟨.int k' (k'.wrap n),S,0,0⟩
    | _,_=>qt P nt fr S o
   | _,_=>qt P nt fr S o
  | _=>qt P nt fr S o
 | .makeInterface T x=>oget (evo nt fr x) fun v=>qdj tt S T v
 | .makeFunc (.func f) first caps=>match first.toList with
  | []=>oget (evL nt fr caps.toList) fun vs=>iz ⟨.fn f vs,S,0,0⟩
  | _=>match caps.toList with
   | []=>oget (evL nt fr first.toList) fun vs=>iz ⟨.bfn f vs,S,0,0⟩
   | _=>i6
 | .makeMap T i6=>zae S
 | .makeSlice T x y=>oget (evo nt fr x) fun v=>cond (qlq x y) (qdf tt S T v) (oget (evo nt fr y) fun u=>qaa tt S T v u)
 | .slice T x lo hi mx=>oget (evo nt fr x) fun v=>match v with
  | .sl id off len s c=>oget (evM nt fr lo) fun lo=>oget (evM nt fr hi) fun hi=>oget (evM nt fr mx) fun mx=>cn tt S T lo hi mx (.sl id off len s c)
  | .lst c l=>oget (evM nt fr lo) fun lo=>oget (evM nt fr hi) fun hi=>oget (evM nt fr mx) fun mx=>cn tt S T lo hi mx (.lst c l)
  | .str s=>oget (evM nt fr lo) fun lo=>oget (evM nt fr hi) fun hi=>oget (evM nt fr mx) fun mx=>qal tt S T lo hi mx s
  | .arr id=>oget (evM nt fr lo) fun lo=>oget (evM nt fr hi) fun hi=>oget (evM nt fr mx) fun mx=>qao tt S T lo hi mx id (q24 o.pos)
  | _=>qt P nt fr S o
 | .fieldAddr T x f=>oget (evo nt fr x) fun v=>qgr tt S T f v
 | .nilCheck x=>oget (evo nt fr x) fun v=>match v with
  | .ptr id off=>iz ⟨.ptr id off,S,0,0⟩
  | _=>qt P nt fr S o
 | .field T x f=>oget (evo nt fr x) fun v=>qeu tt S T f v
 | .indexAddr T x y=>oget (evo nt fr x) fun v=>oget (evo nt fr y) fun u=>cf tt S T v u
 | .lookup T x y ok=>oget (evo nt fr x) fun v=>oget (evo nt fr y) fun u=>match v with
  | .map id=>cr tt S T (.map id) u ok
  | _=>qt P nt fr S o
 | .mapUpdate T x y z=>oget (evo nt fr x) fun v=>oget (evo nt fr y) fun u=>oget (evo nt fr z) fun t=>qbg tt S T v u t
 | .insert T x y z=>oget (evo nt fr x) fun v=>oget (evo nt fr y) fun u=>oget (evo nt fr z) fun t=>qbg tt S T v u t
 | .range T x=>oget (evo nt fr x) fun v=>qfa tt S T v
 | .next x b=>oget (evo nt fr x) fun v=>nb S v b
 | .typeAssert x xT asserted ok=>oget (evo nt fr x) fun v=>match v with
  | .iface t y=>qg8 tt S xT asserted ok (.iface t y)
  | _=>qt P nt fr S o
 | .extract x i=>oget (evo nt fr x) fun v=>qfo S i v
 | .call ⟨.builtin .append,args,ts⟩=>match args.toList,ts.toList with
  | [x,y],[t1,t2]=>oget (evo nt fr x) fun v=>oget (evo nt fr y) fun u=>iapp tt S t1 t2 v u
  | _,_=>i6
 | .call ⟨.builtin .delete,args,ts⟩=>match args.toList,ts.toList with
  | [x,y],[t1,_]=>oget (evo nt fr x) fun v=>oget (evo nt fr y) fun u=>qg6 tt S t1 v u
  | _,_=>i6
 | .call ⟨.builtin .len,args,ts⟩=>match args.toList,ts.toList with
  | [x],[t1]=>oget (evo nt fr x) fun v=>match v with
   | .lst c l=>ilen tt S t1 (.lst c l)
   | .arr id=>ilen tt S t1 (.arr id)
   | .str s=>ilen tt S t1 (.str s)
   | .sl id off len s c=>ilen tt S t1 (.sl id off len s c)
   | .map id=>ilen tt S t1 (.map id)
   | _=>qt P nt fr S o
  | _,_=>i6
 | .call ⟨.builtin .max,args,_⟩=>match args.toList with
  | [x,y]=>oget (evo nt fr x) fun v=>oget (evo nt fr y) fun u=>imm imax P nt fr S o v u
  | _=>qt P nt fr S o
 | .call ⟨.builtin .min,args,_⟩=>match args.toList with
  | [x,y]=>oget (evo nt fr x) fun v=>oget (evo nt fr y) fun u=>imm imin P nt fr S o v u
  | _=>qt P nt fr S o
 | .unOp op _ x=>oget (evo nt fr x) fun v=>match iun op S v with
  | some r=>iz r
  | none=>qt P nt fr S o
 | .index T x y=>oget (evo nt fr x) fun v=>oget (evo nt fr y) fun u=>match v,u with
  | .str s,.int _ i=>qaw tt S T s i
  | _,_=>qt P nt fr S o
 | _=>i6
theorem qmy{w:oh}{ty:ov}{e:ov}{a:f9}{l c:Nat}(hT:P.underlying ty=iz (.slice e)):(Op.equal ty (.slice (iz a) l c) (.slice i6 0 0)).run P w=.ok eb w:=by
 have h:∀b,(mj (b+1) ty (.slice (iz a) l c) (.slice i6 0 0)).run P w=.ok eb w:=fun b=>by
  simp[mj,xh,xm hT]
 exact h 9999
theorem ka{v:IV}{u:oc}{s:Sem Next}{rd wr:Nat}(p:Pre T E S)(h:s.run P E.w=.ok (.value u) E.w)(hv:VR E v u):kr P T E S s ⟨v,S,rd,wr⟩ :=
 ⟨.value u,u,E,h,.inl rfl,hv,Post.refl p,Fresh.refl E S⟩
theorem q5j{D:fd}{a b:Bq}{r:Bool}(h:ieq1 D (.str a) (.str b)=iz r):r=decide (a=b):=by
 cases D<;>first|(cases h;done)|skip
 cases h;rfl
theorem q8n{D:fd}{k:ov}{x y:IV}{ux uy:oc}{r:Bool}{w:oh}{d:Nat}(h:ieq1 D x y=iz r)(hk:P.underlying k=iz D)(hx:VR E x ux)(hy:VR E y uy):(mj (d+1) k ux uy).run P w=.ok r w:=by
 unfold ieq1 at h;split at h<;>try cases h
 ·rename_i f a e b;cases c:kbeq f e with
  | false=>rw[c] at h;cases h
  | true =>
   rw[c,xa] at h;cases h;have:=c9 c;subst this;cases hx;cases hy;exact EqV.int hk d w
 ·cases hx;cases hy;exact EqV.str hk d w
 ·cases hx;cases hy;exact EqV.bool hk d w
theorem zrn(htt:TT P tt){T0:ov}{fs:Array ic}{xs ys:Lz IV}{us vs:Lz oc}{r:Bool}{w:oh}{d:Nat}(hT:P.underlying T0=iz (.struct fs))(hst:P.stoodInHeld T0=eb)(hx:VRs E xs us)(hy:VRs E ys vs)(h:ieqF tt fs.toList xs ys=iz r) :
  (mj (d+1+1) T0 (.agg us.toArray) (.agg vs.toArray)).run P w=.ok r w:=by
 rw[mj];obtain⟨l⟩:=fs;simp only[xh,xm hT,xb,jb1,hst,pu,p9,ne_eq,List.forIn_toArray];clear hT;simp only at h;induction l generalizing r with
 | nil=>cases h;simp [xd]
 | cons f l ih =>
  unfold ieqF at h;split at h<;>try cases h
  rename_i k x y a j g;split at h<;>try cases h
  rename_i b t s z;cases c:(decide (f.name ≠ "_") && qv k.und) with
  | false=>rw[c] at h;cases h
  | true =>
  rw[c,xa] at h;cases h;simp only[xf,rp] at c;obtain⟨u,q,i⟩:=hx.get j;obtain⟨v,p,e⟩:=hy.get g;have o:(part f.type us.toArray f.offset).run P w=.ok u w:=qd9 (htt _ _ a) c.2 (by simpa using q);have n:(part f.type vs.toArray f.offset).run P w=.ok v w:=qd9 (htt _ _ a) c.2 (by simpa using p);have m:(mj (d+1) f.type u v).run P w=.ok b w:=q8n s (htt _ _ a).und i e;simp only[List.forIn_cons,xh,c.1,not_false_eq_true,dv,o,n,m,xb];cases b with
  | false=>simp [xd,xb]
  | true =>
   simp only[gd,pu,p9,xd,xb,jae]
   grind
theorem VRs.part{E:Env}{cs:Lz IV}{us:Lz oc}(h:VRs E cs us)(o n:Nat):VRs E ((cs.drop o).take n) ((us.drop o).take n):=(h.drop o).take n
theorem q0f{T0:ov}{D:fd}{size bytes off:Nat}{zero:oc}{us:Lz oc}{gs:Array ic}{w:oh}(h:Ty P T0 D size bytes zero)(hd:D=.struct gs):(part T0 us.toArray off).run P w=.ok (.agg ((us.drop off).take size).toArray) w:=by
 have a:qv D=eb:=by rw[hd];rfl
 simp only[_root_.Go.part,xh,qce h,a,xb,Sx.run_sizeOf h,xd,gh,dv]
 grind
theorem zby(htt:TT P tt){f:ic}{tf:TI}{xs ys:Lz IV}{us vs:Lz oc}{b:Bool}{w:oh}{d:Nat}(htf:tt f.type=iz tf)(hx:VRs E xs us)(hy:VRs E ys vs)(h:ieqP P tt f tf xs ys=iz b) :
  ∃u v,(part f.type us.toArray f.offset).run P w=.ok u w/\(part f.type vs.toArray f.offset).run P w=.ok v w/\(mj (d+1+1) f.type u v).run P w=.ok b w:=by
 have a:=htt _ _ htf;unfold ieqP at h;split at h
 ·rename_i o l;cases c:P.stoodInHeld f.type with
  | true=>rw[c] at h;cases h
  | false =>
  rw[c,xe] at h;exact⟨_,_,q0f a l,q0f a l,zrn htt (l▸a.und) c (hx.part _ _) (hy.part _ _) h⟩
 ·split at h
  ·rename_i x y k i;cases e:qv tf.und with
   | false=>rw[e] at h;cases h
   | true =>
   rw[e,xa] at h;obtain⟨u,n,j⟩:=hx.get k;obtain⟨v,m,g⟩:=hy.get i;exact⟨u,v,qd9 a e (by simpa using n),qd9 a e (by simpa using m),q8n h a.und j g⟩
  ·grind
theorem zkv(htt:TT P tt){T0:ov}{fs:Array ic}{xs ys:Lz IV}{us vs:Lz oc}{r:Bool}{w:oh}(hT:P.underlying T0=iz (.struct fs))(hst:P.stoodInHeld T0=eb)(hx:VRs E xs us)(hy:VRs E ys vs)(h:ieqG P tt fs.toList xs ys=iz r) :
  (Op.equal T0 (.agg us.toArray) (.agg vs.toArray)).run P w=.ok r w:=by
 unfold Op.equal;show (mj (9997+1+1+1) T0 _ _).run P w=_;rw[mj];obtain⟨l⟩:=fs;simp only[xh,xm hT,xb,jb1,hst,pu,p9,ne_eq,List.forIn_toArray];clear hT;simp only at h;induction l generalizing r with
 | nil=>cases h;simp [xd]
 | cons f l ih =>
  unfold ieqG at h;split at h
  ·grind
  rename_i k c;split at h<;>try cases h
  rename_i b m j n;cases a:decide (f.name ≠ "_") with
  | false=>rw[a] at h;cases h
  | true =>
  rw[a,xa] at h;cases h;have a:=xu a;obtain⟨u,v,i,g,e⟩:=zby (w:=w) (d:=9997) htt c hx hy j;simp only[List.forIn_cons,xh,a,not_false_eq_true,dv,i,g,e,xb];cases b with
  | false=>simp [xd,xb]
  | true =>
   simp only[gd,pu,p9,xd,xb,jae]
   grind
theorem zti{o:o8}{op:BinOp}{ty ty':ov}{ti:TI}{x y:fh}{v u:IV}{r:Res}(htt:TT P tt)(hti:tt ty=iz ti)(hop:o.op=.binOp op ty x y ty')(p:Pre T E S)(hf:OK E nt fr a o.op.operands.toList)(h:vr P tt nt fr S o op ty ti v u=iz r)
  (hv:VR E v (a.eval x)) (hu:VR E u (a.eval y)):kr P T E S (execOp a.eval o) r:=by
 have g:qt P nt fr S o=iz r->kr P T E S (execOp a.eval o) r:=fun h=>q5t p hf h;have j:=(htt _ _ hti).und;unfold vr at h;split at h
 ·rename_i k R k' α;have L:k.wrap R=R:=by generalize a.eval x=e at hv;cases hv;assumption
  have i:∀{z:IV} {zu:oc},(binOp op ty (.int k R) (.int k' α)).run P E.w=.ok zu E.w->VR E z zu->kr P T E S (execOp a.eval o) ⟨z,S,0,0⟩:=fun D C=>by
   refine ka p ?_ C;generalize d:a.eval x=e1 at hv;generalize f:a.eval y=e2 at hu;cases hv;cases hu;simp only[execOp,hop,d,f,xh,sd,xb,D,xd]
  split at h
  ·rename_i z ε;cases h;obtain⟨zu,D,C⟩:=zbr (P:=P) (E:=E) (w:=E.w) (ty:=ty) (k':=k') L ε;exact i D C
  ·cases M:isSh op with
   | true=>rw[M] at h;cases h
   | false =>
   rw[M,xe] at h;cases O:decide (k=k') with
   | false=>rw[O,xe] at h;exact g h
   | true =>
   rw[O,xa] at h;have O:=xu O;subst O;split at h
   ·rename_i z q;cases h;obtain⟨zu,D,C⟩:=zxn (P:=P) (E:=E) (w:=E.w) (ty:=ty) L q;exact i D C
   ·cases G:isQR op with
    | true=>rw[G] at h;cases h
    | false=>rw[G] at h;exact g h
 ·rename_i J I;have δ:J.size<9223372036854775808:=by generalize a.eval x=e at hv;cases hv;assumption
  have γ:I.size<9223372036854775808:=by generalize a.eval y=e at hu;cases hu;assumption
  have i:∀{z:IV} {zu:oc},(binOp op ty (.string J) (.string I)).run P E.w=.ok zu E.w->VR E z zu->kr P T E S (execOp a.eval o) ⟨z,S,0,0⟩:=fun D C=>by
   refine ka p ?_ C;generalize d:a.eval x=e1 at hv;generalize f:a.eval y=e2 at hu;cases hv;cases hu;have H:(eqGuard op ty x y (.string J) (.string I)).run P E.w=.ok () E.w:=by cases op<;>rfl
   simp only[execOp,hop,d,f,xh,H,xb,D,xd]
  split at h
  ·split at h<;>cases h;rename_i b q;have V:(J.toList==I.toList)=b:=by rw[q50];exact(q5j q).symm
   exact i (by simp only[binOp,Op.stringOp,V,xd]) (.bool _)
  ·split at h<;>cases h;rename_i b q;have V:(J.toList==I.toList)=b:=by rw[q50];exact(q5j q).symm
   exact i (by simp only[binOp,Op.stringOp,V,xd]) (.bool _)
  ·cases q:oo (J.size+I.size) 9223372036854775808 with
   | false=>rw[q] at h;cases h
   | true =>
    rw[q,xa] at h;cases h;have q:J.size+I.size<9223372036854775808:=by simpa using q
    have ζ:¬(((J.size+I.size:Nat):Int) > IntKind.i64.max):=by
     have:IntKind.i64.max=9223372036854775807:=by decide
     rw[this];omega
    exact i (by simp only[binOp,Op.stringOp,ζ,p9,xd]) (.str _ (by rw[ByteArray.size_append];exact q))
  ·exact g h
 ·rename_i β Z;split at h
  ·rename_i θ U;split at h<;>try cases h
   rename_i b q;cases G:eqOK P ty with
   | false=>rw[G] at h;cases h
   | true =>
   rw[G,xa] at h;simp only[eqOK,xf,dt] at G;rw[U] at j;have N:∀{us vs:Lz oc},VRs E β us->VRs E Z vs->(Op.equal ty (.agg us.toArray) (.agg vs.toArray)).run P E.w=.ok b E.w:=fun D C=>zkv htt j G.1 D C q;generalize d:a.eval x=e1 at hv;generalize f:a.eval y=e2 at hu;cases hv with
   | agg hl1 hh1 =>
   cases hu with
   | agg hl2 hh2 =>
   have Y:=N ⟨hl1,hh1⟩ ⟨hl2,hh2⟩;split at h<;>cases h
   ·refine ka p ?_ (.bool _);simp only[execOp,hop,d,f,xh,qyl G.2,xb,binOp,Y,xd]
   ·refine ka p ?_ (.bool _);simp only[execOp,hop,d,f,xh,qyl G.2,xb,binOp,Y,xd]
  ·exact g h
 ·rename_i X A K s c;cases m:isSl ti.und with
  | false=>rw[m] at h;cases h
  | true =>
  rw[m,xa] at h;obtain⟨e,B⟩:∃e,P.underlying ty=iz (.slice e):=by
   cases Q:ti.und<;>rw[Q] at m<;>first|(cases m;done)|skip
   rw[Q] at j;exact⟨_,j⟩
  generalize d:a.eval x=e1 at hv;generalize f:a.eval y=e2 at hu;cases hu;cases hv with
  | sl F hA D C h3 h4 h5 =>
  split at h<;>cases h
  ·refine ka p (u:=.bool eb) ?_ (.bool _);have H:(eqGuard .eql ty x y (.slice (iz ⟨E.ρ X,A,i6⟩) K F) (.slice i6 0 0)).run P E.w=.ok () E.w:=rfl;simp only[execOp,hop,d,f,xh,H,xb,binOp,qmy B,xd]
  ·refine ka p (u:=.bool i7) ?_ (.bool _);have H:(eqGuard .neq ty x y (.slice (iz ⟨E.ρ X,A,i6⟩) K F) (.slice i6 0 0)).run P E.w=.ok () E.w:=rfl;simp only[execOp,hop,d,f,xh,H,xb,binOp,qmy B,xd,gh]
 ·rename_i c l;cases m:isSl ti.und with
  | false=>rw[m] at h;cases h
  | true =>
  rw[m,xa] at h;obtain⟨e,B⟩:∃e,P.underlying ty=iz (.slice e):=by
   cases Q:ti.und<;>rw[Q] at m<;>first|(cases m;done)|skip
   rw[Q] at j;exact⟨_,j⟩
  generalize d:a.eval x=e1 at hv;generalize f:a.eval y=e2 at hu;cases hu;cases hv with
  | lst0 hc=>cases h
  | lst us D C h3 q hh hc hu =>
  rename_i b A F W t η;split at h
  ·cases h
  split at h<;>cases h
  ·refine ka p (u:=.bool eb) ?_ (.bool _);generalize (_::_:Lz (El c)).length=n at d;have H:(eqGuard .eql ty x y (.slice (iz ⟨b,A,i6⟩) n F) (.slice i6 0 0)).run P E.w=.ok () E.w:=rfl;simp only[execOp,hop,d,f,xh,H,xb,binOp,qmy B,xd]
  ·refine ka p (u:=.bool i7) ?_ (.bool _);generalize (_::_:Lz (El c)).length=n at d;have H:(eqGuard .neq ty x y (.slice (iz ⟨b,A,i6⟩) n F) (.slice i6 0 0)).run P E.w=.ok () E.w:=rfl;simp only[execOp,hop,d,f,xh,H,xb,binOp,qmy B,xd,gh]
 ·exact g h
theorem zc2{ty:Nat}{lo hi mx:Oq IV}{ulo uhi umx:Oq oc}{id:Nat}{wh:Bool}{ux:oc}{r:Res}(htt:TT P tt)(p:Pre T E S)(h:qao tt S ty lo hi mx id wh=iz r)(hrd:tin T.r r.rd)(hwr:tin T.w r.wr)(hx:VR E (.arr id) ux)(vl:VO E lo ulo)(vh:VO E hi uhi)(vm:VO E mx umx) :
  Good P T E S (f8 ty ux ulo uhi umx) r:=by
 unfold qao at h;split at h<;>try cases h
 rename_i α D;have j:=htt _ _ D;split at h<;>try cases h
 rename_i e Q;rw[Q] at j;split at h
 ·grind
 rename_i A F;have G:=htt _ _ F;cases hx with
 | arr hA hh =>
 rename_i i f H;split at h<;>try cases h
 ·rename_i c l s;split at h<;>try cases h
  rename_i a b z y;cases wh with
  | true =>
   rw[xa] at h;cases d:(ieqI a 0&&ieqI b l.length) with
   | false=>rw[d] at h;cases h
   | true =>
   rw[d,xa] at h;cases h;simp only[xf,zx] at d;have O:=xu d.1;have N:=xu d.2;subst O;subst N;obtain⟨q,cap,q1,M,L,K,I⟩:=p.st.objs id (zi hrd) hA _ s;rw[hh] at q1;have B:H=q/\i=l.length/\f=cap:=by cases q1;exact⟨rfl,rfl,rfl⟩
   obtain⟨J,o,x⟩:=B;rw[J,o,x] at hh ⊢;have k:=qd3 (P:=P) (E:=E) (w:=E.w) (a:=q) (len:=l.length) (cap:=cap) (m:=cap) (mx:=i6) j G z y (.inl ⟨rfl,rfl⟩) vl vh vm (gr 0) (by omega) (by omega) (gr _);have X:(if (cap:Int)=0 then q else q.map (·.add ((0:Int).toNat*A.sz)))=q:=by
    split
    ·rfl
    ·rcases I with ⟨_,g⟩|⟨_,g,_⟩
     ·omega
     ·subst g;simp only[jau,Int.toNat_zero,jbf];rw[ja _ rfl]
   rw[X] at k;have W:((l.length:Int).toNat-(0:Int).toNat)=l.length:=by simp
   have V:((cap:Int).toNat-(0:Int).toNat)=cap:=by simp
   rw[W,V] at k;exact Good.same p k (.arr hA hh)
  | false =>
   rw[xe] at h;cases d:(od A.sz (csz c)&&lchk a b l.length l.length) with
   | false=>rw[d] at h;cases h
   | true =>
   rw[d,xa] at h;cases h;simp only[xf] at d;have C:=xg d.1;obtain⟨v,t,Z,Y⟩:=cu.1 d.2;obtain⟨U,R,n⟩:=Post.freeze p (zi hwr) hA s;rw[hh] at n;obtain⟨q,cap,q1,M,L,K,I⟩:=p.st.objs id (T.sub _ (zi hwr)) hA _ s;rw[hh] at q1;have B:i=l.length/\f=cap:=by cases q1;exact⟨rfl,rfl⟩
   obtain⟨o,x⟩:=B;rw[o,x] at n ⊢;have k:=qd3 (P:=P) (E:=E) (w:=E.w) (a:=H) (len:=l.length) (cap:=cap) (m:=cap) (mx:=i6) j G z y (.inl ⟨rfl,rfl⟩) vl vh vm v t (by omega) (gr _);rw[C] at k;exact⟨_,E.less id,k,VR.lsub (E:=E.less id) (u:=.nilFunc) n v t (by omega) (gr _) (by omega),U,R⟩
 ·rename_i c l s;split at h<;>try cases h
  rename_i a b z y;cases d:(od A.sz (csz c)&&lchk a b l.length l.length) with
  | false=>rw[d] at h;cases h
  | true =>
  rw[d,xa] at h;cases h;simp only[xf] at d;have C:=xg d.1;obtain⟨v,t,Z,Y⟩:=cu.1 d.2;have n:VR E (.lst c l) (E.hd id):=p.st.objs id (zi hrd) hA _ s;rw[hh] at n;have o:i=l.length/\l.length<=f:=by cases n<;>exact⟨rfl,by first|assumption|simp⟩
  obtain⟨o,x⟩:=o;rw[o] at n ⊢;have k:=qd3 (P:=P) (E:=E) (w:=E.w) (a:=H) (len:=l.length) (cap:=f) (m:=f) (mx:=i6) j G z y (.inl ⟨rfl,rfl⟩) vl vh vm v t (by omega) (gr _);rw[C] at k;exact Good.same p k (VR.lsub (u:=.nilFunc) n v t (by omega) (gr _) (by omega))
theorem zqs{ty:Nat}{lo hi mx:Oq IV}{ulo uhi umx:Oq oc}{s:Bq}{ux:oc}{r:Res}(htt:TT P tt)(p:Pre T E S)(h:qal tt S ty lo hi mx s=iz r)(hx:VR E (.str s) ux)(vl:VO E lo ulo)(vh:VO E hi uhi)(vm:VO E mx umx) :
  Good P T E S (f8 ty ux ulo uhi umx) r:=by
 unfold qal at h;split at h<;>try cases h
 rename_i q f;split at h<;>try cases h
 rename_i c;have d:=(htt _ _ f).und;rw[c] at d;split at h<;>try cases h
 rename_i l b i j;cases g:lchk l b s.size s.size with
 | false=>rw[g] at h;cases h
 | true =>
 rw[g,xa] at h;cases h;obtain⟨o,y,v,t⟩:=cu.1 g;cases hx with
 | str _ hz =>
 cases umx with
 | some _=>exact vm.elim
 | none =>
 refine Good.same p (u:=.string (s.extract l.toNat b.toNat)) ?_ (.str _ (by simp[jaa];omega));have k:∀u,ulo=iz u->∀a,(fy u b.toNat a).run P E.w=.ok l.toNat E.w:=fun u c a=>by
  subst c;cases lo with
  | none=>exact vl.elim
  | some x=>exact qf7 i vl o (by omega)
 have e:ulo=i6->l=0:=fun c=>by
  subst c;cases lo with
  | some _=>exact vl.elim
  | none=>simpa [bndI] using i.symm
 have n:(o6 eb s.size s.size ulo uhi i6).run P E.w=.ok (l.toNat,b.toNat,s.size) E.w:=by
  cases uhi with
  | none =>
   cases hi with
   | some _=>exact vh.elim
   | none =>
   have:(s.size:Int)=b:=by simpa [bndI] using j
   subst this;cases ulo with
   | none=>have:=e rfl;subst this;simp only[o6,xh,xd,xb];rfl
   | some u=>have:=k u rfl;simp only[rr] at this;simp only[o6,xh,xd,xb,this,rr]
  | some u2 =>
   have m:∀a,(fy u2 s.size a).run P E.w=.ok b.toNat E.w:=fun a=>by
    cases hi with
    | none=>exact vh.elim
    | some x=>exact qf7 j vh (by omega) (by omega)
   cases ulo with
   | none=>have:=e rfl;subst this;simp only[o6,xh,xd,xb,m];rfl
   | some u=>have:=k u rfl;simp only[o6,xh,xd,xb,m,this]
 simp only[f8,xh,xm d,xb,io,n,xd,Option.isSome_none,pu,p9]
theorem zr4{ty:Nat}{s:Bq}{k:ff}{i:Int}{r:Res}(htt:TT P tt)(p:Pre T E S)(h:qaw tt S ty s i=iz r):Good P T E S (Instr.index ty (.string s) (.int k i)) r:=by
 unfold qaw at h;split at h<;>try cases h
 rename_i q c;split at h<;>try cases h
 rename_i f;have a:=(htt _ _ c).und;rw[f] at a;split at h<;>cases h;rename_i x e;obtain⟨o,t,d⟩:=qm0 e;simp only[za,ru,Option.map_eq_some_iff] at d;obtain⟨b,n,m⟩:=d;have l:s[i.toNat]?=iz b:=by
  obtain⟨j,g⟩:=x9.1 n;rw[getElem?_pos s i.toNat (by simpa using j)];simp only[pj];rw[<- g];rfl
 subst m;refine Good.same p (u:=.int .u8 b.toNat) ?_ (.int _ _ (IntWalk.u8_in _ ⟨by omega,by have:=b.toNat_lt;omega⟩));simp only[Instr.index,asIntOf,xh,xd,xb,xm a,o,dv,l]
theorem zl1{op:UnOp}{x:IV}{ux:oc}{r:Res}(p:Pre T E S)(h:iun op S x=iz r)(hx:VR E x ux):Good P T E S (Op.unary op ux) r:=by
 unfold iun at h;split at h<;>try cases h
 all_goals
  cases hx;split at h<;>cases h
 ·exact Good.same p (by simp only[Op.unary,im,xd]) (.int _ _ (yy _ _))
 ·exact Good.same p (by simp only[Op.unary,xd]) (.bool _)
theorem zog{o:o8}{r:Res}(htt:TT P tt)(p:Pre T E S)(hf:OK E nt fr a o.op.operands.toList)(h:iop P tt nt fr S o=iz r)(hrd:tin T.r r.rd)(hwr:tin T.w r.wr):kr P T E S (execOp a.eval o) r:=by
 have L:qt P nt fr S o=iz r->kr P T E S (execOp a.eval o) r:=fun h=>q5t p hf h;obtain⟨α,op,δ,ι,χ,g⟩:=o;have A:∀{x v},x∈op.operands.toList->evo nt fr x=iz v->VR E v (a.eval x):=fun hm h=>hf _ hm _ h;cases op with
 | move x =>
  obtain⟨v,j,d⟩:=zo h;cases d;exact ka p (by simp only[execOp,xd]) (A (by simp[ot]) j)
 | assign x =>
  obtain⟨v,j,d⟩:=zo h;cases d;exact ka p (by simp only[execOp,xd]) (A (by simp[ot]) j)
 | pick c x y =>
  obtain⟨v,j,d⟩:=zo h;split at d<;>try cases d
  rename_i b;obtain⟨u,D,B⟩:=zo d;cases B;have hc:=A (by simp[ot]) j;generalize υ:a.eval c=e at hc;cases hc;refine ka p (u:=a.eval (cond b x y)) ?_ (A (by cases b<;>simp [ot]) D);simp only[execOp,υ,asBool,xh,xd,xb]
  grind
 | alloc e=>exact(zsm htt p h).res
 | box e x =>
  obtain⟨v,j,d⟩:=zo h;exact(zna p d (A (by simp[ot]) j)).res
 | build t ps =>
  obtain⟨l,j,d⟩:=zo h;split at d;rotate_left
  ·grind
  rename_i r' ρ;cases d;have:=zt4 htt p ρ (qnt (fun y C=>hf y (by simpa [ot] using C)) j);have e:ps.map (fun(i,x)=>(i,a.eval x))=(ps.toList.map fun p=>(p.1,a.eval p.2)).toArray:=by
   grind
  have:=this.res;rw[<- e] at this;exact this
 | buildSlice t n ps =>
  obtain⟨l,j,d⟩:=zo h;have γ:=qnt (fun y C=>hf y (by simpa [ot] using C)) j;have:Good P T E S (mc t n (ps.toList.map fun p=>(p.1,a.eval p.2)).toArray) r:=by
   split at d
   ·rename_i D;cases d;exact zvp htt p D γ
   ·exact zph htt p d γ
  have e:ps.map (fun(i,x)=>(i,a.eval x))=(ps.toList.map fun p=>(p.1,a.eval p.2)).toArray:=by
   grind
  have:=this.res;rw[<- e] at this;exact this
 | load t x =>
  obtain⟨v,j,d⟩:=zo h;exact(zk7 htt p d hrd (A (by simp[ot]) j)).res
 | store t x y =>
  obtain⟨v,j,d⟩:=zo h;obtain⟨u,D,B⟩:=zo d;exact(zzo htt p B hwr (A (by simp[ot]) j) (A (by simp[ot]) D)).res
 | binOp op t x y t' =>
  obtain⟨v,j,d⟩:=zo h;obtain⟨u,D,B⟩:=zo d;split at B<;>try cases B
  rename_i ti μ;exact zti (a:=a) htt μ rfl p hf B (A (by simp[ot]) j) (A (by simp[ot]) D)
 | convert src α x =>
  obtain⟨v,j,d⟩:=zo h;split at d
  ·exact(qwe htt p d hrd (A (by simp[ot]) j)).res
  ·exact(qwe htt p d hrd (A (by simp[ot]) j)).res
  ·exact(qwe htt p d hrd (A (by simp[ot]) j)).res
  ·split at d
   ·rename_i k n _ _ ε td κ ν;split at d
    ·rename_i k0 U σ τ;cases d;have G:=A (by simp[ot]) j;generalize υ:a.eval x=e at G;cases G;refine ka p (u:=.int U (U.wrap n)) ?_ (.int _ _ (yy _ _));have ω:=(htt _ _ κ).und;have ψ:=(htt _ _ ν).und;rw[τ] at ψ;rw[σ] at ω;have X:(convert src α (.int k n)).run P E.w=.ok (.int U (U.wrap n)) E.w:=by simp[convert,xm ω,xm ψ,Conv.intToInt]
     simp only[execOp,υ,xh,X,xb,xd]
    ·grind
   ·grind
  ·grind
 | makeInterface t x =>
  obtain⟨v,j,d⟩:=zo h;exact(zk3 htt p d (A (by simp[ot]) j)).res
 | makeFunc fn first caps =>
  cases fn<;>try cases h
  rename_i f;simp only[iop] at h;split at h
  ·rename_i ζ;obtain⟨vs,j,d⟩:=zo h;cases d;have W:=qna (l:=caps.toList) (fun y C=>hf y (by simp only[ot,jbb];exact gg _ C)) j;refine ka p (u:=.func (.func f) #[] (caps.toList.map a.eval).toArray) ?_ (.fn W.1 W.2);have F:first=#[]:=by
    grind
   have H:caps.map a.eval=(caps.toList.map a.eval).toArray:=by apply jch<;>simp
   simp only[execOp,Instr.makeFunc,xh,xd,xb,F,H];simp
  ·split at h<;>try cases h
   rename_i φ;obtain⟨vs,j,d⟩:=zo h;cases d;have W:=qna (l:=first.toList) (fun y C=>hf y (by simp only[ot,jbb];exact ge _ C)) j;refine ka p (u:=.func (.func f) (first.toList.map a.eval).toArray #[]) ?_ (.bfn W.1 W.2);have F:caps=#[]:=by
    grind
   have H:first.map a.eval=(first.toList.map a.eval).toArray:=by apply jch<;>simp
   simp only[execOp,Instr.makeFunc,xh,xd,xb,F,H];simp
 | makeMap t rsv =>
  cases rsv with
  | some _=>cases h
  | none=>exact(zon p h).res
 | makeSlice t x y =>
  obtain⟨v,j,d⟩:=zo h;cases ξ:qlq x y with
  | true =>
   rw[ξ,xa] at d;have e:=z0b ξ;subst e;exact(zkx htt p d (A (by simp[ot]) j)).res
  | false =>
   rw[ξ,xe] at d;obtain⟨u,D,B⟩:=zo d;exact(zls htt p B (A (by simp[ot]) j) (A (by simp[ot]) D)).res
 | slice t x lo hi mx =>
  obtain⟨v,j,d⟩:=zo h;split at d
  ·obtain⟨l,D,B⟩:=zo d;obtain⟨m,N,M⟩:=zo B;obtain⟨n,Z,Y⟩:=zo M;exact(q1h htt p Y (A (by simp[ot]) j) (yd (fun y C=>hf y (by cases lo<;>simp at C;subst C;simp [ot])) D) (yd (fun y C=>hf y (by cases hi<;>simp at C;subst C;simp [ot])) N) (yd (fun y C=>hf y (by cases mx<;>simp at C;subst C;simp [ot])) Z)).res
  ·obtain⟨l,D,B⟩:=zo d;obtain⟨m,N,M⟩:=zo B;obtain⟨n,Z,Y⟩:=zo M;exact(q1h htt p Y (A (by simp[ot]) j) (yd (fun y C=>hf y (by cases lo<;>simp at C;subst C;simp [ot])) D) (yd (fun y C=>hf y (by cases hi<;>simp at C;subst C;simp [ot])) N) (yd (fun y C=>hf y (by cases mx<;>simp at C;subst C;simp [ot])) Z)).res
  ·obtain⟨l,D,B⟩:=zo d;obtain⟨m,N,M⟩:=zo B;obtain⟨n,Z,Y⟩:=zo M;exact(zqs htt p Y (A (by simp[ot]) j) (yd (fun y C=>hf y (by cases lo<;>simp at C;subst C;simp [ot])) D) (yd (fun y C=>hf y (by cases hi<;>simp at C;subst C;simp [ot])) N) (yd (fun y C=>hf y (by cases mx<;>simp at C;subst C;simp [ot])) Z)).res
  ·obtain⟨l,D,B⟩:=zo d;obtain⟨m,N,M⟩:=zo B;obtain⟨n,Z,Y⟩:=zo M;exact(zc2 htt p Y hrd hwr (A (by simp[ot]) j) (yd (fun y C=>hf y (by cases lo<;>simp at C;subst C;simp [ot])) D) (yd (fun y C=>hf y (by cases hi<;>simp at C;subst C;simp [ot])) N) (yd (fun y C=>hf y (by cases mx<;>simp at C;subst C;simp [ot])) Z)).res
  ·grind
 | field t x f =>
  obtain⟨v,j,d⟩:=zo h;exact(zhb htt p d (A (by simp[ot]) j)).res
 | nilCheck x =>
  obtain⟨v,j,d⟩:=zo h;have G:=A (by simp[ot]) j;split at d
  ·cases d;generalize O:a.eval x=u at G;cases G with
   | ptr hA=>exact⟨.value _,_,E,by simp only[execOp,O,xd],.inl rfl,.ptr hA,Post.refl p,Fresh.refl E S⟩
  ·grind
 | fieldAddr t x f =>
  obtain⟨v,j,d⟩:=zo h;exact(zzq htt p d (A (by simp[ot]) j)).res
 | indexAddr t x y =>
  obtain⟨v,j,d⟩:=zo h;obtain⟨u,D,B⟩:=zo d;exact(zk1 htt p B hrd (A (by simp[ot]) j) (A (by simp[ot]) D)).res
 | lookup t x y ok =>
  obtain⟨v,j,d⟩:=zo h;obtain⟨u,D,B⟩:=zo d;split at B
  ·exact(zuo htt p B hrd (A (by simp[ot]) j) (A (by simp[ot]) D)).res
  ·grind
 | mapUpdate t x y z =>
  obtain⟨v,j,d⟩:=zo h;obtain⟨u,D,B⟩:=zo d;obtain⟨s,N,M⟩:=zo B;exact(qxw htt p M hwr (A (by simp[ot]) j) (A (by simp[ot]) D) (A (by simp[ot]) N)).res
 | insert t x y z =>
  obtain⟨v,j,d⟩:=zo h;obtain⟨u,D,B⟩:=zo d;obtain⟨s,N,M⟩:=zo B;exact(qxw htt p M hwr (A (by simp[ot]) j) (A (by simp[ot]) D) (A (by simp[ot]) N)).res
 | range t x =>
  obtain⟨v,j,d⟩:=zo h;exact(zuj htt p d (A (by simp[ot]) j)).res
 | next x b =>
  obtain⟨v,j,d⟩:=zo h;exact(zsk p d hrd hwr (A (by simp[ot]) j)).res
 | typeAssert x xT asserted ok =>
  obtain⟨v,j,d⟩:=zo h;split at d
  ·exact(zkl htt p d (A (by simp[ot]) j)).res
  ·grind
 | extract x i =>
  obtain⟨v,j,d⟩:=zo h;exact(zje p d (A (by simp[ot]) j)).res
 | unOp uo t x =>
  obtain⟨v,j,d⟩:=zo h;split at d
  ·rename_i q ρ;cases d;exact(zl1 p ρ (A (by simp[ot]) j)).res
  ·grind
 | index t x y =>
  obtain⟨v,j,d⟩:=zo h;obtain⟨u,D,B⟩:=zo d;split at B
  ·rename_i s0 k0 i0;have G:=A (by simp[ot]) j;have O:=A (by simp[ot]) D;have:=fun k=>(zr4 (k:=k) htt p B).res;generalize K:a.eval x=F at G;generalize J:a.eval y=H at O;cases G;cases O with
   | int k2 i2 d =>
   have:=this k0;simp only[execOp,K,J] at this ⊢
   grind
  ·grind
 | call c =>
  obtain⟨R,args,ε⟩:=c;cases R with
  | builtin b =>
   cases b<;>first|(cases h;done)|skip
   case max =>
    simp only[iop] at h;split at h
    ·rename_i x y Q;obtain⟨v,j,d⟩:=zo h;obtain⟨u,D,B⟩:=zo d;have F:args=#[x,y]:=by apply r4.1;simpa using Q
     subst F;have G:=A (by simp[ot,mg]) j;have O:=A (by simp[ot,mg]) D;unfold imm at B;split at B
     ·rename_i k θ U η;cases I:kbeq k U with
      | false=>rw[I,xe] at B;exact L B
      | true =>
      rw[I,xa] at B;cases B;have I:=c9 I;subst I;generalize K:a.eval x=F at G;generalize J:a.eval y=H at O;cases G with
      | int _ _ w1 =>
      cases O with
      | int _ _ w2 =>
      refine ka p (u:=.int k (imax θ η)) ?_ (.int _ _ ?_)
      ·simp[execOp,resolve,invoke,builtin,xd,K,J,Builtin.max_,Builtin.max2,q3q]
      ·rw[q3q];split<;>assumption
     ·grind
    ·grind
   case min =>
    simp only[iop] at h;split at h
    ·rename_i x y Q;obtain⟨v,j,d⟩:=zo h;obtain⟨u,D,B⟩:=zo d;have F:args=#[x,y]:=by apply r4.1;simpa using Q
     subst F;have G:=A (by simp[ot,mg]) j;have O:=A (by simp[ot,mg]) D;unfold imm at B;split at B
     ·rename_i k θ U η;cases I:kbeq k U with
      | false=>rw[I,xe] at B;exact L B
      | true =>
      rw[I,xa] at B;cases B;have I:=c9 I;subst I;generalize K:a.eval x=F at G;generalize J:a.eval y=H at O;cases G with
      | int _ _ w1 =>
      cases O with
      | int _ _ w2 =>
      refine ka p (u:=.int k (imin θ η)) ?_ (.int _ _ ?_)
      ·simp[execOp,resolve,invoke,builtin,xd,K,J,Builtin.min_,Builtin.min2,q35]
      ·rw[q35];split<;>assumption
     ·grind
    ·grind
   case len =>
    simp only[iop] at h;split at h<;>try cases h
    rename_i x V Q β;obtain⟨v,j,d⟩:=zo h;have F:args=#[x]:=by apply r4.1;simpa using Q
    have H:ε=#[V]:=by apply r4.1;simpa using β
    subst F;subst H;have hrun:∀{r},ilen tt S V v=iz r->tin T.r r.rd->kr P T E S (execOp a.eval ⟨α,.call ⟨.builtin .len,#[x],#[V]⟩,δ,ι,χ,g⟩) r:=fun hh W=>by
     have:=(zp3 (tr:=δ) htt p hh W (A (by simp[ot,mg]) j)).res;simpa [kr,execOp,resolve,invoke,builtin,xh,xd,xb] using this
    grind
   case delete =>
    simp only[iop] at h;split at h<;>try cases h
    rename_i x y V t2 Q β;obtain⟨v,j,d⟩:=zo h;obtain⟨u,D,B⟩:=zo d;have F:args=#[x,y]:=by apply r4.1;simpa using Q
    have H:ε=#[V,t2]:=by apply r4.1;simpa using β
    subst F;subst H;have:=(zwd (t2:=t2) (tr:=δ) htt p B hwr (A (by simp[ot,mg]) j) (A (by simp[ot,mg]) D)).res;simpa [kr,execOp,resolve,invoke,builtin,xh,xd,xb] using this
   case append =>
    simp only[iop] at h;split at h<;>try cases h
    rename_i x y V t2 Q β;obtain⟨v,j,d⟩:=zo h;obtain⟨u,D,B⟩:=zo d;have F:args=#[x,y]:=by apply r4.1;simpa using Q
    have H:ε=#[V,t2]:=by apply r4.1;simpa using β
    subst F;subst H;have:=(zl5 (tr:=δ) htt p B hrd hwr (A (by simp[ot,mg]) j) (A (by simp[ot,mg]) D)).res;simpa [kr,execOp,resolve,invoke,builtin,xh,xd,xb] using this
  | _=>cases h
 | _=>cases h
end
end Go.Jx
end

noncomputable section
namespace Go.Jx
open Go Go.Sx Go.RowKit
universe u

inductive Tgt
 | fn (f:Nat)
 | yield (id:Nat)
abbrev Cl:=Tgt->Lz IV->IS->Oq Res
def q0(P:om)(tt:Nat->Oq TI)(nt:Nat)(cl:Cl)(fr:PT IV)(S:IS)(o:o8):Oq Res :=
 match o.op with
 | .call ⟨.value x,args,_⟩=>oget (evo nt fr x) fun v=>oget (evL nt fr args.toList) fun vs=>match v with
  | .fn f caps=>cl (.fn f) (vs++caps) S
  | .bfn f bs=>cl (.fn f) (bs++vs) S
  | .yield id=>cl (.yield id) vs S
  | _=>i6
 | .panic x=>oget (evo nt fr x) fun v=>match v with
  | .iface t u=>iz ⟨.pan (.iface t u),S,0,0⟩
  | _=>i6
 | _=>iop P tt nt fr S o
def qy:IV->Oq IV
 | .pan p=>iz p
 | _=>i6
theorem zcn{v p:IV}(h:qy v=iz p):v=.pan p:=by
 cases v<;>first|(cases h;done)|(cases h;rfl)
def tw:IV->Bool
 | .int _ _=>i7
 | .bool _=>i7
 | .str _=>i7
 | _=>eb
def qpf:IV->Bool
 | .agg cs=>cs.all tw
 | v=>tw v
def jg:IV->Bool
 | .iface _ v=>qpf v
 | v=>qpf v
theorem qzj{E E':Env}{v:IV}{u:oc}(hf:tw v=i7)(h:VR E v u):VR E' v u:=by
 cases h<;>first|(cases hf;done)|skip
 ·exact .bool _
 ·rename_i k n h;exact .int k n h
 ·rename_i s h;exact .str s h
theorem q2e{E E':Env}{v:IV}{u:oc}(hf:qpf v=i7)(h:VR E v u):VR E' v u:=by
 cases v<;>first|exact qzj hf h|skip
 cases h with
 | agg hl hh=>exact .agg hl fun i a b=>qzj (xz.1 hf _ (p5 _)) (hh i a b)
theorem qeo{E E':Env}{v:IV}{u:oc}(hf:jg v=i7)(h:VR E v u):VR E' v u:=by
 cases v<;>first|exact q2e hf h|skip
 cases h with
 | iface hh=>exact .iface (q2e hf hh)
theorem VR.noPan{E:Env}{v:IV}{u:oc}(h:VR E v u):qy v=i6:=by cases h<;>rfl
def RetE(T:TW)(E:Env)(S:IS)(r:Res):aw->oh->Prop:=fun e w'=>∃u E',e=.returned u/\E'.w=w'/\VR E' r.v u/\Post T E S E' r.S/\Fresh E S E'
def RetP(T:TW)(E:Env)(S:IS)(r:Res)(p:IV):aw->oh->Prop:=fun e w'=>∃u E',e=.panicked [{ v:=u,recovered:=eb }]/\E'.w=w'/\VR E' p u/\Post T E S E' r.S/\Fresh E S E'
def RetX(T:TW)(E:Env)(S:IS)(r:Res)(e:aw)(w':oh):Prop:=match qy r.v with
 | none=>RetE T E S r e w'
 | some p=>RetP T E S r p e w'
theorem RetX.of{T:TW}{E:Env}{S:IS}{r:Res}{e:aw}{w':oh}(h:RetE T E S r e w'):RetX T E S r e w':=by
 obtain⟨u,f,d,c,a,b⟩:=h;unfold RetX;rw[a.noPan];exact⟨u,f,d,c,a,b⟩
theorem RetX.val{T:TW}{E:Env}{S:IS}{r:Res}{e:aw}{w':oh}(h:RetX T E S r e w')(hp:qy r.v=i6):RetE T E S r e w':=by
 unfold RetX at h
 grind
theorem RetX.pan{T:TW}{E:Env}{S:IS}{r:Res}{e:aw}{w':oh}{p:IV}(h:RetX T E S r e w')(hp:qy r.v=iz p):RetP T E S r p e w':=by
 unfold RetX at h
 grind
structure ClOK (P:om) (cl:Cl):Prop where
 fn:∀f vs S r,cl (.fn f) vs S=iz r->∀(T:TW) (E:Env) (us:List oc),Pre T E S->tin T.r r.rd->tin T.w r.wr->VRs E vs us->zg P f/\mf ox 0 P f us.toArray E.w (RetX T E S r)
 yl:∀id vs S r,cl (.yield id) vs S=iz r->∀(T:TW) (E:Env) (us:List oc),Pre T E S->tin T.r r.rd->tin T.w r.wr->VRs E vs us->E.A id->YieldAt ox 0 P (E.ρ id) us.toArray E.w (RetX T E S r)
section
variable {P : om} {tt : Nat -> Oq TI} {T : TW} {E : Env} {S : IS} {nt : Nat} {fr : PT IV} {a : Act} {cl : Cl} {F : Fence} {Q : Exit -> Act -> oh -> Prop}

theorem zlp{o:o8}{r:Res}(h:iop P tt nt fr S o=iz r):nu o=i7:=by
 obtain⟨c,b,e,a,d,g⟩:=o;cases b<;>first|rfl|cases h
theorem qjs{o:o8}{r:Res}(hF:F.plain=ox)(hcl:ClOK P cl)(htt:TT P tt)(p:Pre T E S)(hf:OK E nt fr a o.op.operands.toList)(h:q0 P tt nt cl fr S o=iz r)(hrd:tin T.r r.rd)(hwr:tin T.w r.wr)
  {K:Act->oh->Prop} (hK:∀u E',VR E' r.v u->Post T E S E' r.S->Fresh E S E'->K (a.put o.dst u) E'.w) (hP:∀p,qy r.v=iz p->∀u E',VR E' p u->Post T E S E' r.S->Fresh E S E'->Q (.panic [{ v:=u,recovered:=eb }]) a E'.w):o.wpIn F 0 P a E.w K Q:=by
 refine⟨fun f _=>c7 hF f,?_⟩;have R:iop P tt nt fr S o=iz r->o.uponIn F 0 P a K Q ((o.semAt F.round a.eval).run P E.w):=fun h=>by
  rw[qdi (zlp h)];obtain⟨N,u,E',L,t,V,B,ι⟩:=zog htt p hf h hrd hwr;rw[L];rcases t with rfl|⟨rfl,rfl⟩
  ·exact hK u E' V B ι
  ·exact hK undef E' V B ι
 unfold q0 at h;split at h
 ·rename_i x args σ b;obtain⟨v,L,t⟩:=zo h;obtain⟨ξ,V,B⟩:=zo t;have D:nu o=i7:=by obtain⟨dst,op,O,k,q,g⟩:=o;simp only at b;subst b;rfl
  rw[qdi D];have θ:∀y,y=x\/y∈args.toList->y∈o.op.operands.toList:=fun y hy=>by
   rw[b];simp only[ot,mg];rcases hy with rfl|hy
   ·simp
   ·simp only[jbb];exact gg _ hy
  have z:=hf x (θ x (.inl rfl)) v L;have ε:=qna (l:=args.toList) (fun y hy=>hf y (θ y (.inr hy))) V;have η:args.map a.eval=(args.toList.map a.eval).toArray:=by apply jch<;>simp
  have i:∀e s,RetX T E S r e s->(match e,s with
    | .returned v,w''=>K (a.put o.dst v) w''
    | .panicked chain,w''=>Q (.panic chain) a w''
    | .outgrown,_=>LetsOut Q):=fun e s A=>by
   cases Z:qy r.v with
   | none =>
    obtain⟨u,E',rfl,rfl,Y,X,W⟩:=A.val Z;exact hK u E' Y X W
   | some p =>
    obtain⟨u,E',rfl,rfl,Y,X,W⟩:=A.pan Z;exact hP p Z u E' Y X W
  split at B
  ·rename_i f U;generalize H:a.eval x=ex at z;cases z with
   | fn hl hh =>
   rename_i M;have ζ:VRs E U M:=⟨hl,hh⟩;obtain⟨J,β⟩:=hcl.fn f _ S r B T E _ p hrd hwr (ε.append ζ);obtain⟨fn,G,γ,α⟩:=J;have I:fn.body.isNone=eb:=by cases h:fn.body<;>simp [h] at γ ⊢
   have c:(execOp a.eval o).run P E.w=.ok (.enter f (args.toList.map a.eval++M).toArray) E.w:=by
    obtain⟨dst,op,O,k,q,g⟩:=o;simp only at b;subst b;simp only[execOp,resolve,H,ma,invoke,callFunc,η,xh,xd,xb,jb1,G,I,α,pu,p9];simp
   rw[c];exact⟨fun C=>(by rw[qav hF] at C;cases C),(qhv (m:=0) hF (dc.1 β)).mono fun e s A=>by
    have:=i e s A;cases e<;>exact this⟩
  ·rename_i f bs;generalize H:a.eval x=ex at z;cases z with
   | bfn hl hh =>
   rename_i M;have ζ:VRs E bs M:=⟨hl,hh⟩;obtain⟨J,β⟩:=hcl.fn f _ S r B T E _ p hrd hwr (ζ.append ε);obtain⟨fn,G,γ,α⟩:=J;have I:fn.body.isNone=eb:=by cases h:fn.body<;>simp [h] at γ ⊢
   have c:(execOp a.eval o).run P E.w=.ok (.enter f (M++args.toList.map a.eval).toArray) E.w:=by
    obtain⟨dst,op,O,k,q,g⟩:=o;simp only at b;subst b;simp only[execOp,resolve,H,ma,invoke,callFunc,η,xh,xd,xb,jb1,G,I,α,pu,p9];simp
   rw[c];exact⟨fun C=>(by rw[qav hF] at C;cases C),(qhv (m:=0) hF (dc.1 β)).mono fun e s A=>by
    have:=i e s A;cases e<;>exact this⟩
  ·rename_i id;generalize H:a.eval x=ex at z;cases z with
   | yield hA =>
   obtain⟨fn,j,d,n,μ,ν⟩:=hcl.yl id _ S r B T E _ p hrd hwr ε hA;have c:(execOp a.eval o).run P E.w=.ok (.round (E.ρ id) fn j d n) E.w:=by
    obtain⟨dst,op,O,k,q,g⟩:=o;simp only at b;subst b;have t:(ma (.func (.yield (E.ρ id)) #[] #[]) (args.toList.map a.eval).toArray).run P E.w=.ok { target:=.fn (.yield (E.ρ id)) #[],args:=(args.toList.map a.eval).toArray } E.w:=by
     simp only[ma,xd];simp
    simp only[execOp,resolve,H,η,xh,t,xb,invoke,μ]
   rw[c];have δ:RoundIn F 0 P (E.ρ id) fn j d n E.w (RetX T E S r):=by
    have L:RoundIn F.plain 0 P (E.ρ id) fn j d n E.w (RetX T E S r):=by rw[hF];exact ν
    exact L
   exact⟨fun C=>(by rw[qav hF] at C;cases C),δ.mono fun e s A=>by
    have:=i e s A;cases e<;>exact this⟩
  ·cases B
 ·rename_i x b;obtain⟨v,L,t⟩:=zo h;have D:nu o=i7:=by obtain⟨dst,op,O,k,q,g⟩:=o;simp only at b;subst b;rfl
  rw[qdi D];have z:=hf x (by rw[b];simp [ot]) v L;split at t
  ·rename_i κ y;cases t;generalize H:a.eval x=ex at z;cases z with
   | iface hv =>
   rename_i u;have c:(execOp a.eval o).run P E.w=.halt (.panic (.iface κ u)) E.w:=by
    obtain⟨dst,op,O,k,q,g⟩:=o;simp only at b;subst b;simp only[execOp,H];rfl
   rw[c];exact hP _ rfl _ E (.iface hv) (Post.refl p) (Fresh.refl E S)
  ·cases t
 ·exact R h

def jn(ops:Lz o8)(nt:Nat)(fr:PT IV):Oq (Nat × Bool)->Bool
 | none=>i7
 | some (j,want)=>match jv ops j with
  | none=>eb
  | some t=>cond (oo t nt) (match slot fr t with
   | .bool b=>cond want b (!b)
   | _=>eb) eb
def qhn(ops:Lz o8):Oq (Nat × Bool)->Oq Nat
 | none=>i6
 | some (j,_)=>jv ops j
def gOK(ops:Lz o8)(fr:PT IV)(g:Oq (Nat × Bool)):Bool:=match qhn ops g with
 | none=>i7
 | some t=>wd (slot fr t)
theorem q0t{ops:Lz o8}{o:o8}(hk:gOK ops fr o.guard=i7)(hs:a.tmps.size=nt)(hf:∀t,qhn ops o.guard=iz t->t<nt->VR E (slot fr t) (a.tmps.getD t undef)):my o (yielded ops.toArray a.tmps)=jn ops nt fr o.guard:=by
 unfold my jn;unfold gOK at hk;cases g:o.guard with
 | none=>rfl
 | some q =>
  obtain⟨j,f⟩:=q;simp only;have e:(ops.toArray[j]?).bind (·.dst)=jv ops j:=by rw[th];simp
  unfold yielded;rw[e];cases i:jv ops j with
  | none=>simp
  | some t =>
   simp only[ja9];by_cases b:t<nt
   ·have k:oo t nt=i7:=by simpa using b
    rw[k,xa];have d:=hf t (by rw[g];exact i) b;have c:wd (slot fr t)=i7:=by
     have l:qhn ops o.guard=iz t:=by rw[g];exact i
     grind
    have m:a.tmps[t]?=iz (a.tmps.getD t undef):=by
     rw[ja2 (by rw[hs];exact b)];simp [rc,hs,b]
    rw[m];generalize a.tmps.getD t undef=u at d;generalize slot fr t=x at d c;cases d<;>first|(cases c;done)|(simp;done)|skip
    grind
   ·have k:oo t nt=eb:=by
     cases h:oo t nt with
     | false=>rfl
     | true=>exact absurd (by simpa using h) b
    grind
def putD:Oq Tmp->IV->PT IV->PT IV
 | none,_,fr=>fr
 | some d,v,fr=>fr.set v d
theorem FR.putD{d:Oq Tmp}{v:IV}{u:oc}(h:FR E nt fr a.tmps)(hv:VR E v u):FR E nt (putD d v fr) (a.put d u).tmps:=by
 cases d with
 | none=>exact h
 | some d=>exact h.put hv

structure FRes:Type where
 fr:PT IV
 S:IS
 rd:Nat
 wr:Nat
 p:Option IV
def PanR(E:Env):Oq IV->Exit->Prop
 | none,x=>x=.normal
 | some p,x=>∃u,x=.panic [{ v:=u,recovered:=eb }]/\VR E p u
def iseq(P:om)(tt:Nat->Oq TI)(nt:Nat)(cl:Cl)(ops:Lz o8):Lz o8->PT IV->IS->Oq FRes
 | [],fr,S=>iz ⟨fr,S,0,0,i6⟩
 | o::l,fr,S=>cond (gOK ops fr o.guard) (cond (jn ops nt fr o.guard)
  (match q0 P tt nt cl fr S o with
  | none=>i6
  | some r=>match qy r.v with
   | some p=>iz ⟨fr,r.S,r.rd,r.wr,iz p⟩
   | none=>match iseq P tt nt cl ops l (putD o.dst r.v fr) r.S with
    | none=>i6
    | some q=>iz ⟨q.fr,q.S,r.rd ||| q.rd,r.wr ||| q.wr,q.p⟩)
  (iseq P tt nt cl ops l (putD o.dst (.tup []) fr) S)) i6
theorem qua{ops:Lz o8}(hF:F.plain=ox)(hcl:ClOK P cl)(htt:TT P tt):∀(l:Lz o8) (fr:PT IV) (S:IS) (E:Env) (a:Act) (q:FRes),Pre T E S->FR E nt fr a.tmps->iseq P tt nt cl ops l fr S=iz q->tin T.r q.rd->tin T.w q.wr ->
  (∀E' a' x,PanR E' q.p x->FR E' nt q.fr a'.tmps->a'.defers=a.defers->Post T E S E' q.S->Fresh E S E'->Q x a' E'.w)->wpListIn F 0 P ops.toArray Q l a E.w
 | [],fr,S,E,a,q,p,hf,h,hrd,hwr,hQ=>by
  cases h;exact hQ E a _ rfl hf rfl (Post.refl p) (Fresh.refl E S)
 | o::l,fr,S,E,a,q,p,hf,h,hrd,hwr,hQ=>by
  unfold iseq at h;cases hgk:gOK ops fr o.guard with
  | false=>rw[hgk] at h;cases h
  | true =>
  rw[hgk,xa] at h;have hw:=q0t (ops:=ops) (o:=o) hgk hf.size (fun t _ ht=>hf.get t ht);unfold wpListIn;rw[hw];have hput:∀u,(a.put o.dst u).defers=a.defers:=fun u=>by cases o.dst<;>rfl
  cases hg:jn ops nt fr o.guard with
  | true =>
   rw[hg,xa] at h;rw[xx rfl];split at h
   ·grind
   rename_i r hr;split at h
   ·rename_i pv hpv;cases h;refine qjs hF hcl htt p (OK.of hf) hr hrd hwr (fun u E' k1 k2 k3=>?_) fun p' hp' u E' k1 k2 k3=>?_
    ·rw[k1.noPan] at hpv;cases hpv
    ·rw[hpv] at hp';cases hp';exact hQ E' a _ ⟨u,rfl,k1⟩ (hf.mono (k2.env p)) rfl k2 k3
   rename_i hpv;split at h<;>cases h;rename_i q hq;obtain⟨t1,t2⟩:=zp hrd;obtain⟨t3,t4⟩:=zp hwr;refine qjs hF hcl htt p (OK.of hf) hr t1 t3 (fun u E' k1 k2 k3=>?_) fun p' hp'=>by rw[hpv] at hp';cases hp'
   have p':=k2.pre p;exact qua hF hcl htt l _ _ E' _ q p' (FR.putD (hf.mono (k2.env p)) k1) hq t2 t4 fun E'' a' x m0 m1 m2 m3 m4=>hQ E'' a' x m0 m1 (m2.trans (hput u)) (Post.trans p k2 k3 m3) (k3.trans m4 k2.le)
  | false =>
   rw[hg,xe] at h;rw[xr (by simp)];refine⟨fun f _=>c7 hF f,?_⟩;exact qua hF hcl htt l _ _ E _ q p (FR.putD hf (.tup (us:=[]) rfl (fun i h=>by simp at h))) h hrd hwr fun E'' a' x m0 m1 m2 m3 m4=>hQ E'' a' x m0 m1 (m2.trans (hput undef)) m3 m4
end
end Go.Jx
end

noncomputable section
namespace Go.Jx
open Go Go.Sx Go.RowKit
universe u

def ix(D wt:Nat->Bool):Nat->Nat
 | 0=>0
 | k+1=>if D k=i7/\wt k=i7 then k+1 else ix D wt k
theorem t7{D wt:Nat->Bool}{k:Nat}(h:D k=i7/\wt k=i7):ix D wt (k+1)=k+1:=xx h
theorem u5{D wt:Nat->Bool}{k:Nat}(h:¬(D k=i7/\wt k=i7)):ix D wt (k+1)=ix D wt k:=xr h
theorem q09{D wt:Nat->Bool}{j:Nat}(h1:∀i,i<j->wt i=i7->D i=i7):∀n,j<=n->(∀i,j<=i->i<n->wt i=i7->D i=eb)->ix D wt n=ix (fun _=>i7) wt j:=by
 have f:∀k,k<=j->ix D wt k=ix (fun _=>i7) wt k:=by
  intro k;induction k with
  | zero=>intro _;rfl
  | succ k ih =>
   intro o;by_cases d:wt k=i7
   ·rw[t7 ⟨h1 k (by omega) d,d⟩,t7 ⟨rfl,d⟩]
   ·rw[u5 (fun h=>d h.2),u5 (fun h=>d h.2)];exact ih (by omega)
 intro n;induction n with
 | zero =>
      intro l _;have e:j=0:=by omega
      subst e;rfl
 | succ n ih =>
  intro l g;by_cases m:j=n+1
  ·rw[<- m];exact f j (xl _)
  ·rw[u5 (fun h=>by
    have:=g n (by omega) (by omega) h.2;rw[this] at h;exact absurd h.1 (by simp))]
   exact ih (by omega) fun i a b c=>g i a (by omega) c
theorem qn3(wt:Nat->Bool):∀j,ix (fun _=>i7) wt j<=j
 | 0=>xl _
 | j+1=>by
  unfold ix;split
  ·grind
  ·exact jcd (qn3 wt j)
theorem qta{D D' wt:Nat->Bool}{j:Nat}(hD:∀i,D' i=i7↔D i=i7\/i=j):∀n,(wt j=i7->∀i,j<i->i<n->wt i=i7->D i=eb)->ix D' wt n=if j<n/\wt j=i7 then j+1 else ix D wt n:=by
 intro n;induction n with
 | zero=>intro _;rfl
 | succ n l =>
  intro o;have l:=l fun a i b c d=>o a i b (by omega) d;by_cases m:n=j
  ·subst m;by_cases e:wt n=i7
   ·rw[t7 ⟨(hD n).2 (.inr rfl),e⟩,xx ⟨by omega,e⟩]
   ·rw[u5 (fun h=>e h.2),xr (fun h=>e h.2),l,xr (fun h=>e h.2),u5 (fun h=>e h.2)]
  ·have f:D' n=i7↔D n=i7:=⟨fun h=>((hD n).1 h).resolve_right m,fun h=>(hD n).2 (.inl h)⟩;by_cases k:D n=i7/\wt n=i7
   ·rw[t7 ⟨f.2 k.1,k.2⟩];have g:¬(j<n+1/\wt j=i7):=fun g=>by
     grind
    rw[xr g,t7 k]
   ·rw[u5 (fun h=>k ⟨f.1 h.1,h.2⟩),l];by_cases g:j<n/\wt j=i7
    ·grind
    ·rw[xr g,xr (fun h=>g ⟨by omega,h.2⟩),u5 k]

def Env.bel(E:Env)(k:Nat):Env:={ E with A:=fun id=>E.A id/\id<k }
theorem Env.bel_le{E E':Env}(h:E.Le E')(k:Nat):(E.bel k).Le (E'.bel k) :=
 ⟨fun e d=>let ⟨a,b,c⟩:=h.alw e d.1;⟨⟨a,d.2⟩,b,c⟩,h.tr⟩
theorem Env.bel_mono(E:Env){k k':Nat}(h:k<=k'):(E.bel k).Le (E.bel k'):=⟨fun b a=>⟨⟨a.1,pz a.2 h⟩,rfl,rfl,rfl,rfl⟩,Tr.refl _ _⟩
theorem Env.bel_self(E:Env)(k:Nat):(E.bel k).Le E:=⟨fun b a=>⟨a.1,rfl,rfl,rfl,rfl⟩,Tr.refl _ _⟩
theorem OR.bel{E:Env}{id k k':Nat}{o:IObj}(h:k<=k')(ho:OR (E.bel k) id o):OR (E.bel k') id o:=by
 cases o with
 | dead=>trivial
 | row cs=>obtain⟨b,t,f,e,d,i⟩:=ho;exact⟨b,t,f,e,d,i.mono (E.bel_mono h)⟩
 | arr c l=>obtain⟨a,n,f,e,d,i,q⟩:=ho;exact⟨a,n,f,e,d,i,q.imp (fun h=>h) fun⟨z,y,b,t,x,w,u⟩=>⟨z,y,b,t,x,w,u.mono (E.bel_mono h)⟩⟩
 | frz c l=>exact VR.mono (E.bel_mono h) ho
 | map es=>obtain⟨g,c,f,e,d,i⟩:=ho;exact⟨g,c,f,e.mono (E.bel_mono h),d.mono (E.bel_mono h),i⟩
 | tmap kc vc es=>obtain⟨g,c,f,e,d,i⟩:=ho;exact⟨g,c,f,e.mono (E.bel_mono h),d.mono (E.bel_mono h),i⟩
 | iter s p=>exact ho
 | defs on=>exact ho
 | bld j=>obtain⟨p,v,f,e,d⟩:=ho;exact⟨p,v,f,e,d.mono (E.bel_mono h)⟩
 | loop st pend nt fr ps assign body D=>obtain⟨r,m,f,e,d⟩:=ho;exact⟨r,m,f,e.mono (E.bel_mono h),((E.bel_mono h).alw _ d).1⟩
theorem OR.of_bel{E:Env}{id k:Nat}{o:IObj}(ho:OR (E.bel k) id o):OR E id o:=by
 cases o with
 | dead=>trivial
 | row cs=>obtain⟨b,t,f,e,d,i⟩:=ho;exact⟨b,t,f,e,d,i.mono (E.bel_self k)⟩
 | arr c l=>obtain⟨a,n,f,e,d,i,q⟩:=ho;exact⟨a,n,f,e,d,i,q.imp (fun h=>h) fun⟨z,y,b,t,x,w,u⟩=>⟨z,y,b,t,x,w,u.mono (E.bel_self k)⟩⟩
 | frz c l=>exact VR.mono (E.bel_self k) ho
 | map es=>obtain⟨g,c,f,e,d,i⟩:=ho;exact⟨g,c,f,e.mono (E.bel_self k),d.mono (E.bel_self k),i⟩
 | tmap kc vc es=>obtain⟨g,c,f,e,d,i⟩:=ho;exact⟨g,c,f,e.mono (E.bel_self k),d.mono (E.bel_self k),i⟩
 | iter s p=>exact ho
 | defs on=>exact ho
 | bld j=>obtain⟨p,v,f,e,d⟩:=ho;exact⟨p,v,f,e,d.mono (E.bel_self k)⟩
 | loop st pend nt fr ps assign body D=>obtain⟨r,m,f,e,d⟩:=ho;exact⟨r,m,f,e.mono (E.bel_self k),((E.bel_self k).alw _ d).1⟩
theorem OR.mv{E E':Env}(e:E.Le E'){id:Nat}{o:IObj}(hρ:E'.ρ id=E.ρ id/\E'.κ id=E.κ id/\E'.hd id=E.hd id/\E'.hb id=E.hb id)(hB:o.blk=i7->E.hb id=i7)(hs:o.live=i7->E.hb id=i7->E'.w.heap[E.ρ id]?=E.w.heap[E.ρ id]?)(h:OR E id o):OR E' id o:=by
 obtain⟨m,I,y,H⟩:=hρ;cases o with
 | dead=>trivial
 | frz c l=>show VR E' (.lst c l) (E'.hd id);rw[y];exact VR.mono e h
 | row cs=>obtain⟨b,t,g,f,d,n⟩:=h;exact⟨b,t,by rw[m,hs rfl (hB rfl),g],by rw[I,f],d,n.mono e⟩
 | arr c l =>
  obtain⟨a,u,g,f,d,n,r⟩:=h;refine⟨a,u,by rw[y,g],f,d,n,?_⟩;rcases r with ⟨r,x⟩|⟨r,x,b,t,B,A,z⟩
  ·grind
  ·exact .inr ⟨by rw[H,r],by rw[m,x],b,t,by rw[m,hs rfl r,B],A,z.mono e⟩
 | map es=>obtain⟨i,c,g,f,d,n⟩:=h;exact⟨i,c,by rw[m,hs rfl (hB rfl),g],f.mono e,d.mono e,n⟩
 | tmap k v es=>obtain⟨i,c,g,f,d,n⟩:=h;exact⟨i,c,by rw[m,hs rfl (hB rfl),g],f.mono e,d.mono e,n⟩
 | iter s p=>show _/\_;rw[m,hs rfl (hB rfl)];exact h
 | defs on=>show _=_;rw[m,hs rfl (hB rfl)];exact h
 | bld j=>obtain⟨p,v,g,f,d⟩:=h;exact⟨p,v,by rw[m,hs rfl (hB rfl),g],by rw[m];exact f,d.mono e⟩
 | loop st pend nt fr ps assign body D =>
  obtain⟨C,q,g,f,d⟩:=h;obtain⟨G,F,_⟩:=e.alw D d;exact⟨C,q,by rw[m,hs rfl (hB rfl),g,F],f.mono e,G⟩

structure Reg (P:om) (tt:Nat->Option TI) (nt:Nat) (cl:Cl) (ops:List o8) (fr:Nat->PT IV) (S:Nat->IS) (v:Nat->IV) (rd wr:Nat->Nat) (run:Nat->Bool) (B:Nat->Nat) (Wr:Nat->Nat->Bool) (ok:Nat->Bool):Prop where
 step:∀i o,ops[i]?=iz o->ok i=i7->(run i=jn ops nt (fr i) o.guard/\gOK ops (fr i) o.guard=i7)/\(run i=i7->q0 P tt nt cl (fr i) (S i) o=iz ⟨v i,S (i+1),rd i,wr i⟩) /\
  (run i=eb->v i=.tup []/\S (i+1)=S i)/\qy (v i)=i6
 put:∀i o,ops[i]?=iz o->fr (i+1)=putD o.dst (v i) (fr i)
 mono:∀i,i<ops.length->(S i).next<=(S (i+1)).next
 small:∀i,i<ops.length->∀id,(rd i).testBit id=i7\/(wr i).testBit id=i7->id<(S i).next
 wrs:∀i id,i<ops.length->(Wr i id=i7↔(wr i).testBit id=i7\/((S i).next<=id/\id<(S (i+1)).next))
 back:∀(i:Nat) (o:o8),ops[i]?=iz o->∀e∈o.after,mu .any e=i7->e.on<i
 bef:∀(i:Nat) (o:o8) (j:Nat),ops[i]?=iz o->(B i).testBit j=i7->∃e,e∈o.after/\mu .any e=i7/\(j=e.on\/(B e.on).testBit j=i7)
 free:∀(i j:Nat) (oi oj:o8),i<j->ops[i]?=iz oi->ops[j]?=iz oj->(B j).testBit i=eb ->
  oi.apart ops.toArray oj=i7/\(∀id,Wr i id=i7->Wr j id=eb/\(rd j).testBit id=eb)/\(∀id,(rd i).testBit id=i7->Wr j id=eb)
 frame:∀i,i<ops.length->∀id,id<(S i).next->(wr i).testBit id=eb->(S (i+1)).H id=(S i).H id
namespace Reg
section
variable {P : om} {tt : Nat -> Oq TI} {nt : Nat} {cl : Cl} {ops : Lz o8} {fr : Nat -> PT IV} {S : Nat -> IS} {v : Nat -> IV} {rd wr : Nat -> Nat} {run : Nat -> Bool} {B : Nat -> Nat} {Wr : Nat -> Nat -> Bool} {ok : Nat -> Bool}
variable {F : Fence} {Q : Exit -> Act -> oh -> Prop} {T : TW} {E0 : Env}

theorem mono_le(R:Reg P tt nt cl ops fr S v rd wr run B Wr ok):∀{i j:Nat},i<=j->j<=ops.length->(S i).next<=(S j).next:=by
 intro i j a;induction j with
 | zero=>intro _;rw[show i=0 by omega];exact xl _
 | succ j ih =>
  intro b;by_cases h:i=j+1
  ·grind
  ·exact py (ih (by omega) (by omega)) (R.mono j (by omega))
def wtS(ops:Lz o8)(t i:Nat):Bool:=match jv ops i with|some d=>od d t|none=>eb
theorem qqz{t i:Nat}:wtS ops t i=i7↔jv ops i=iz t:=by
 unfold wtS;cases h:jv ops i with
 | none=>simp
 | some d=>simp
theorem slot_at(R:Reg P tt nt cl ops fr S v rd wr run B Wr ok)(t:Nat):∀j,j<=ops.length->slot (fr j) t=slot (fr (ix (fun _=>i7) (wtS ops t) j)) t
 | 0,_=>rfl
 | j+1,hj=>by
  have h4:=R.put j _ (xc (by omega));have hd:jv ops j=(ops[j]'(by omega)).dst:=by rw[th,xc (by omega)];rfl
  by_cases hw:wtS ops t j=i7
  ·rw[t7 ⟨rfl,hw⟩]
  ·rw[u5 (fun h=>hw h.2),<- R.slot_at t j (by omega),h4];have hne:(ops[j]'(by omega)).dst≠iz t:=fun e=>hw (qqz.2 (hd.trans e));cases e:(ops[j]'(by omega)).dst with
   | none=>rfl
   | some d=>rw[e] at hne;unfold putD;rw[vp,xr (fun h=>hne (by rw[h]))]
theorem heap_at(R:Reg P tt nt cl ops fr S v rd wr run B Wr ok)(id:Nat):∀j,j<=ops.length->id<(S j).next->(S j).H id=(S (ix (fun _=>i7) (fun i=>Wr i id) j)).H id
 | 0,_,_=>rfl
 | j+1,hj,hid=>by
  by_cases hw:Wr j id=i7
  ·rw[t7 (wt:=fun i=>Wr i id) ⟨rfl,hw⟩]
  ·rw[u5 (wt:=fun i=>Wr i id) (fun h=>hw h.2)];have h1:¬((wr j).testBit id=i7\/((S j).next<=id/\id<(S (j+1)).next)):=fun h=>hw ((R.wrs j id (by omega)).2 h);have h2:id<(S j).next:=by
    grind
   have h3:(wr j).testBit id=eb:=by
    grind
   rw[R.frame j (by omega) id h2 h3];exact R.heap_at id j (by omega) h2

structure Inv (ops:List o8) (nt:Nat) (fr:Nat->PT IV) (S:Nat->IS) (Wr:Nat->Nat->Bool) (T:TW) (E0:Env) (D:Nat->Bool) (E:Env) (a:Act):Prop where
 objs:∀id,T.r id->E.A id->∀o,(S (ix D (fun i=>Wr i id) ops.length)).H id=iz o->OR (E.bel (S (ix D (fun i=>Wr i id) ops.length)).next) id o
 blk:∀id,T.r id->E.A id->∀o,(S (ix D (fun i=>Wr i id) ops.length)).H id=iz o->o.blk=i7->E.hb id=i7
 own:∀id,T.r id->E.A id->Live E (fun id=>(S (ix D (fun i=>Wr i id) ops.length)).H id) id->E.ρ id∈E.m
 inj:∀i j,T.r i->T.r j->E.A i->E.A j->Live E (fun id=>(S (ix D (fun i=>Wr i id) ops.length)).H id) i->Live E (fun id=>(S (ix D (fun i=>Wr i id) ops.length)).H id) j->E.ρ i=E.ρ j->i=j
 lo:∀b∈E.m,b<E.w.heap.size
 gl:Gl E.m E.w
 ids:∀id,E.A id->E0.A id\/∃i,i<ops.length/\D i=i7/\(S i).next<=id/\id<(S (i+1)).next
 stp:Stp T.w E0 (S 0).H E (fun id=>(S (ix D (fun i=>Wr i id) ops.length)).H id)
 size:a.tmps.size=nt
 slots:∀t,t<nt->VR (E.bel (S (ix D (wtS ops t) ops.length)).next) (slot (fr (ix D (wtS ops t) ops.length)) t) (a.tmps.getD t undef)
structure Nx (ops:List o8) (D:Nat->Bool) (B:Nat->Nat) (j:Nat):Prop where
 lt:j<ops.length
 not:D j=eb
 ahead:∀i,(B j).testBit i=i7->D i=i7
 closed:∀i,i<ops.length->D i=i7->∀k,(B i).testBit k=i7->D k=i7
theorem qw6{D:Nat->Bool}{j:Nat}{wt:Nat->Bool}(N:Nx ops D B j)(h1:∀i,i<j->wt i=i7->(B j).testBit i=i7)(h2:∀i,j<i->i<ops.length->wt i=i7->(B i).testBit j=i7)(hj:wt j=i7->False\/True) :
  (∀i,j<i->i<ops.length->wt i=i7->D i=eb)/\(D j=eb->ix D wt ops.length=ix (fun _=>i7) wt j):=by
 have d:∀i,j<i->i<ops.length->wt i=i7->D i=eb:=fun i c b a=>by
  cases f:D i with
  | false=>rfl
  | true =>
   have:=N.closed i b f j (h2 i c b a);rw[N.not] at this;cases this
 refine⟨d,fun e=>?_⟩;refine q09 (fun i c a=>N.ahead i (h1 i c a)) _ (ra N.lt) fun i c b a=>?_;rcases dm j i with h|h
 ·exact d i h b a
 ·rw[show i=j by omega];exact e
theorem look_here(R:Reg P tt nt cl ops fr S v rd wr run B Wr ok){D:Nat->Bool}{j:Nat}{oj:o8}(N:Nx ops D B j)(hj:ops[j]?=iz oj){t:Nat}(ht:t∈oj.looksAt ops.toArray\/oj.dst=iz t) :
  (∀i,j<i->i<ops.length->wtS ops t i=i7->D i=eb)/\ix D (wtS ops t) ops.length=ix (fun _=>i7) (wtS ops t) j:=by
 have l:∀i,wtS ops t i=i7->∃a,ops[i]?=iz a/\a.dst=iz t:=fun i h=>by
  have:=qqz.1 h;rw[th] at this;cases m:ops[i]? with
  | none=>rw[m] at this;cases this
  | some a=>rw[m] at this;exact⟨a,rfl,this⟩
 have h:=qw6 (wt:=wtS ops t) N (fun i d h=>by
  cases e:(B j).testBit i with
  | true=>rfl
  | false =>
   obtain⟨a,f,b⟩:=l i h;obtain⟨k,c,g⟩:=Oper.apart_spec (R.free i j a oj d f hj e).1;rcases ht with ht|ht
   ·exact absurd ht (k t b)
   ·exact absurd ht (c t b)) (fun i d n h=>by
  cases e:(B i).testBit j with
  | true=>rfl
  | false =>
   obtain⟨a,f,b⟩:=l i h;obtain⟨k,c,g⟩:=Oper.apart_spec (R.free j i oj a d hj f e).1;rcases ht with ht|ht
   ·exact absurd ht (g t b)
   ·exact absurd b (c t ht)) (fun _=>.inr trivial)
 exact⟨h.1,h.2 N.not⟩
theorem touch_here(R:Reg P tt nt cl ops fr S v rd wr run B Wr ok){D:Nat->Bool}{j:Nat}{oj:o8}(N:Nx ops D B j)(hj:ops[j]?=iz oj){id:Nat}(ht:(rd j).testBit id=i7\/Wr j id=i7) :
  (∀i,j<i->i<ops.length->Wr i id=i7->D i=eb)/\ix D (fun i=>Wr i id) ops.length=ix (fun _=>i7) (fun i=>Wr i id) j:=by
 have h:=qw6 (wt:=fun i=>Wr i id) N (fun i a h=>by
  cases d:(B j).testBit i with
  | true=>rfl
  | false =>
   have c:i<ops.length:=jci a N.lt;obtain⟨_,b,e⟩:=R.free i j _ oj a (xc c) hj d;obtain⟨g,f⟩:=b id h;rcases ht with ht|ht
   ·rw[f] at ht;cases ht
   ·rw[g] at ht;cases ht) (fun i a c h=>by
  cases d:(B i).testBit j with
  | true=>rfl
  | false =>
   obtain⟨_,b,e⟩:=R.free j i oj _ a hj (xc c) d;rcases ht with ht|ht
   ·have:=e id ht;rw[this] at h;cases h
   ·have:=(b id ht).1;rw[this] at h;cases h) (fun _=>.inr trivial)
 exact⟨h.1,h.2 N.not⟩
end
end Reg
end Go.Jx
end

noncomputable section
namespace Go.Jx
open Go Go.Sx Go.RowKit
universe u
namespace Reg
section
variable {P : om} {tt : Nat -> Oq TI} {nt : Nat} {cl : Cl} {ops : Lz o8} {fr : Nat -> PT IV} {S : Nat -> IS} {v : Nat -> IV} {rd wr : Nat -> Nat} {run : Nat -> Bool} {B : Nat -> Nat} {Wr : Nat -> Nat -> Bool} {ok : Nat -> Bool}
variable {F : Fence} {Q : Exit -> Act -> oh -> Prop} {T : TW} {E0 : Env}

def mrg(E E':Env)(k:Nat):Env :=
 { ρ:=fun id=>open Classical in if k<=id/\E'.A id then E'.ρ id else E.ρ id
   κ:=fun id=>open Classical in if k<=id/\E'.A id then E'.κ id else E.κ id
   hd:=fun id=>open Classical in if k<=id/\E'.A id then E'.hd id else E.hd id
   hb:=fun id=>open Classical in if k<=id/\E'.A id then E'.hb id else E.hb id
   A:=fun id=>E.A id\/(k<=id/\E'.A id)
   m:=E'.m
   w:=E'.w }
def Tj(rd wr k:Nat):TW:=⟨fun id=>rd.testBit id=i7\/wr.testBit id=i7\/k<=id,fun id=>wr.testBit id=i7\/k<=id,fun id h=>.inr h⟩
theorem slots_here(R:Reg P tt nt cl ops fr S v rd wr run B Wr ok){D:Nat->Bool}{j:Nat}{oj:o8}{E:Env}{a:Act}(N:Nx ops D B j)(I:Inv ops nt fr S Wr T E0 D E a)(hj:ops[j]?=iz oj){t:Nat}(ht:t∈oj.looksAt ops.toArray)(hn:t<nt) :
  VR (E.bel (S j).next) (slot (fr j) t) (a.tmps.getD t undef):=by
 have h:=(R.look_here N hj (.inl ht)).2;have b:=I.slots t hn;rw[h,<- R.slot_at t j (ra N.lt)] at b;exact b.mono (E.bel_mono (R.mono_le (qn3 _ _) (ra N.lt)))
theorem pre_here(R:Reg P tt nt cl ops fr S v rd wr run B Wr ok){D:Nat->Bool}{j:Nat}{oj:o8}{E:Env}{a:Act}(N:Nx ops D B j)(I:Inv ops nt fr S Wr T E0 D E a)(hj:ops[j]?=iz oj)
  (hrd:∀id,(rd j).testBit id=i7->T.r id) (hwr:∀id,(wr j).testBit id=i7->T.w id):Pre (Tj (rd j) (wr j) (S j).next) (E.bel (S j).next) (S j):=by
 have b:∀id,(Tj (rd j) (wr j) (S j).next).r id->id<(S j).next->T.r id/\(S j).H id=(S (ix D (fun i=>Wr i id) ops.length)).H id/\(S (ix D (fun i=>Wr i id) ops.length)).next<=(S j).next:=fun id h g=>by
  have f:(rd j).testBit id=i7\/Wr j id=i7:=by
   rcases h with h|h|h
   ·grind
   ·exact .inr ((R.wrs j id N.lt).2 (.inl h))
   ·omega
  have A:T.r id:=by
   rcases h with h|h|h
   ·grind
   ·exact T.sub _ (hwr id h)
   ·omega
  have e:=(R.touch_here N hj f).2;rw[e];exact⟨A,R.heap_at id j (ra N.lt) g,R.mono_le (qn3 _ _) (ra N.lt)⟩
 have c:∀id,(Tj (rd j) (wr j) (S j).next).r id->id<(S j).next->Live (E.bel (S j).next) (S j).H id->Live E (fun id=>(S (ix D (fun i=>Wr i id) ops.length)).H id) id:=fun id h g ⟨F,o,u,C⟩=>⟨F,o,by rw[(b id h g).2.1] at u;exact u,C⟩
 refine⟨⟨fun id f d o l=>?_,fun id f d o l p=>?_,fun id f d z=>?_,fun i k y x s q K J G=>?_,I.lo⟩,fun id h=>h.2,fun id h=>.inr h,I.gl⟩
 ·obtain⟨n,m,t⟩:=b id f d.2;rw[m] at l;exact(I.objs id n d.1 o l).bel t
 ·obtain⟨n,m,t⟩:=b id f d.2;rw[m] at l;exact I.blk id n d.1 o l p
 ·exact I.own id (b id f d.2).1 d.1 (c id f d.2 z)
 ·exact I.inj i k (b i y s.2).1 (b k x q.2).1 s.1 q.1 (c i y s.2 K) (c k x q.2 J) G
theorem inv_next(R:Reg P tt nt cl ops fr S v rd wr run B Wr ok){D D':Nat->Bool}{j:Nat}{oj:o8}{E E2:Env}{a:Act}{u:oc}(N:Nx ops D B j)(I:Inv ops nt fr S Wr T E0 D E a)(hj:ops[j]?=iz oj)
   (hrd:∀id,(rd j).testBit id=i7->T.r id) (hwr:∀id,(wr j).testBit id=i7->T.w id) (hnw:∀id,(S 0).next<=id->T.w id) (hbnd:∀id,E0.A id->id<(S 0).next) (hD:∀i,D' i=i7↔D i=i7\/i=j)
   (hv:VR E2 (v j) u) (k1:Post (Tj (rd j) (wr j) (S j).next) (E.bel (S j).next) (S j) E2 (S (j+1))) (k2:Fresh (E.bel (S j).next) (S j) E2) :
   Inv ops nt fr S Wr T E0 D' (mrg E E2 (S j).next) (a.put oj.dst u):=by
 have σ:=R.pre_here N I hj hrd hwr;have F:(E.bel (S j).next).Le E2:=k1.stp.le σ.st;have hS0:(S 0).next<=(S j).next:=R.mono_le (pm _) (ra N.lt)
 have hjj:=R.mono j N.lt
 -- old ids are not among the new ones
 have τ:∀id,E.A id->(S j).next<=id->¬id<(S (j+1)).next:=fun id hA n ν=>by
   rcases I.ids id hA with h|⟨i,h1,η,h3,h4⟩
   · grind
   · have hij:i≠j:=fun e=>by rw[e,N.not] at η;cases η
     rcases Nat.lt_or_gt_of_ne hij with h|h
     · have:=R.mono_le (i:=i+1) (j:=j) h (ra N.lt);omega
     · have:=R.mono_le (i:=j+1) (j:=i) h (ra h1);omega
 have l:∀id,E.A id->(mrg E E2 (S j).next).ρ id=E.ρ id/\(mrg E E2 (S j).next).κ id=E.κ id/\(mrg E E2 (S j).next).hd id=E.hd id/\(mrg E E2 (S j).next).hb id=E.hb id:=fun id hA=>by
   have:¬((S j).next<=id/\E2.A id):=fun h=>τ id hA h.1 (k1.bnd id h.2);exact⟨xr this,xr this,xr this,xr this⟩
 have hE:E.Le (mrg E E2 (S j).next):=⟨fun id hA=>⟨.inl hA,l id hA⟩,F.tr⟩;have η:∀id,E2.A id->(mrg E E2 (S j).next).A id/\(mrg E E2 (S j).next).ρ id=E2.ρ id/\(mrg E E2 (S j).next).κ id=E2.κ id/\(mrg E E2 (S j).next).hd id=E2.hd id/\(mrg E E2 (S j).next).hb id=E2.hb id:=fun id hA=>by
   by_cases n:(S j).next<=id
   · exact⟨.inr ⟨n,hA⟩,xx ⟨n,hA⟩,xx ⟨n,hA⟩,xx ⟨n,hA⟩,xx ⟨n,hA⟩⟩
   · have α:(E.bel (S j).next).A id:=ja3 fun hn=>n (k2.fr id hA hn);obtain⟨_,b2,b3,b4,b5⟩:=F.alw id α;exact⟨.inl α.1,by rw[b2];exact xr fun h=>n h.1,by rw[b3];exact xr fun h=>n h.1,by rw[b4];exact xr fun h=>n h.1,by rw[b5];exact xr fun h=>n h.1⟩
 have hE2:E2.Le ((mrg E E2 (S j).next).bel (S (j+1)).next):=⟨fun id hA=>let ⟨U,s,ξ⟩:=η id hA;⟨⟨U,k1.bnd id hA⟩,s,ξ⟩,Tr.refl _ _⟩;have hidx:∀id,(∀i,j<i->i<ops.length->Wr i id=i7->Wr j id=i7->D i=eb):=fun id i L γ c hwj=>(R.touch_here N hj (.inr hwj)).1 i L γ c;have X:∀id,ix D' (fun i=>Wr i id) ops.length=if Wr j id=i7 then j+1 else ix D (fun i=>Wr i id) ops.length:=fun id=>by
   rw[qta (j:=j) hD ops.length (fun c i L γ V=>hidx id i L γ V c)]
   grind
 -- what is written lies among what the operation may write
 have G:∀id,Wr j id=i7->(Tj (rd j) (wr j) (S j).next).w id:=fun id h=>by
   rcases(R.wrs j id N.lt).1 h with h|h
   · exact .inl h
   · exact .inr h.1
 have Y:∀id,Wr j id=i7->T.w id:=fun id h=>by
   rcases(R.wrs j id N.lt).1 h with h|h
   · grind
   · grind
 have hWA:∀id,Wr j id=i7->(mrg E E2 (S j).next).A id->E2.A id:=fun id h hA=>by
   rcases hA with hA|hA
   · rcases(R.wrs j id N.lt).1 h with h|h
     · exact(F.alw id ⟨hA,R.small j N.lt id (.inr h)⟩).1
     · grind
   · grind
 have ω:∀id,¬Wr j id=i7->(mrg E E2 (S j).next).A id->E.A id:=fun id h hA=>by
   rcases hA with hA|hA
   · grind
   · exact absurd ((R.wrs j id N.lt).2 (.inr ⟨hA.1,k1.bnd id hA.2⟩)) h
 have x:∀id,(Tj (rd j) (wr j) (S j).next).w id->(E.bel (S j).next).A id->Wr j id=i7:=fun id h hA=>by
   rcases h with h|h
   · exact(R.wrs j id N.lt).2 (.inl h)
   · have:=hA.2;omega
 have M:∀id,Wr j id=i7->id<(S j).next->(S j).H id=(S (ix D (fun i=>Wr i id) ops.length)).H id:=fun id h ν=>by
   rw[(R.touch_here N hj (.inr h)).2];exact R.heap_at id j (ra N.lt) ν
 -- blocks of what is not written stay
 have ψ:∀id,¬Wr j id=i7->T.r id->E.A id->Live E (fun id=>(S (ix D (fun i=>Wr i id) ops.length)).H id) id->E2.w.heap[E.ρ id]?=E.w.heap[E.ρ id]?:=fun id c ζ hA β=>by
   refine k1.stp.same (E.ρ id) (I.lo _ (I.own id ζ hA β)) fun p φ ha γ e=>?_;have y:=x p φ ha;have hL':Live E (fun id=>(S (ix D (fun i=>Wr i id) ops.length)).H id) p:=by
     obtain⟨K,o,g,J⟩:=γ;exact⟨K,o,by rw[M p y ha.2] at g;exact g,J⟩
   have:=I.inj p id (T.sub _ (Y p y)) ζ ha.1 hA hL' β e;rw[this] at y;exact c y
 have C:∀id,¬Wr j id=i7->E.A id->Live (mrg E E2 (S j).next) (fun id=>(S (ix D' (fun i=>Wr i id) ops.length)).H id) id->Live E (fun id=>(S (ix D (fun i=>Wr i id) ops.length)).H id) id:=fun id h hA ⟨K,o,g,J⟩=>⟨(l id hA).2.2.2.symm.trans K,o,by simp only at g ⊢;rw[X id,xr h] at g;exact g,J⟩;have f:∀id,Wr j id=i7->E2.A id->Live (mrg E E2 (S j).next) (fun id=>(S (ix D' (fun i=>Wr i id) ops.length)).H id) id->Live E2 (S (j+1)).H id:=fun id h hA ⟨K,o,g,J⟩=>⟨(η id hA).2.2.2.2.symm.trans K,o,by simp only at g;rw[X id,xx h] at g;exact g,J⟩;have hWold:∀id,Wr j id=i7->E.A id->(E.bel (S j).next).A id:=fun id h hA=>by
   rcases(R.wrs j id N.lt).1 h with h|h
   · exact⟨hA,R.small j N.lt id (.inr h)⟩
   · exact absurd h.2 (τ id hA h.1)
 have z:∀id,Wr j id=i7->E.A id->Live (mrg E E2 (S j).next) (fun id=>(S (ix D' (fun i=>Wr i id) ops.length)).H id) id->Live E (fun id=>(S (ix D (fun i=>Wr i id) ops.length)).H id) id:=fun id h hA β=>by
   have α:=hWold id h hA;obtain⟨K,o,g,J⟩:=k1.stp.old id (G id h) α (f id h (F.alw id α).1 β);exact⟨K,o,by rw[M id h α.2] at g;exact g,J⟩
 -- the step as a whole
 have χ:Stp T.w E (fun id=>(S (ix D (fun i=>Wr i id) ops.length)).H id) (mrg E E2 (S j).next) (fun id=>(S (ix D' (fun i=>Wr i id) ops.length)).H id):=by
   refine⟨k1.stp.os,k1.stp.tape,k1.stp.output,k1.stp.size,fun b α hn=>?_,hE.alw,fun id hA hnA β=>?_,fun id φ hA β=>?_,k1.stp.memo,fun b α ν=>?_⟩
   · refine k1.stp.same b α fun id φ ha γ e=>?_;have c:=x id φ ha;obtain⟨K,o,g,J⟩:=γ;exact hn id (Y id c) ha.1 ⟨K,o,by rw[M id c ha.2] at g;exact g,J⟩ e
   · have Q:=hA.resolve_left hnA;have c:Wr j id=i7:=(R.wrs j id N.lt).2 (.inr ⟨Q.1,k1.bnd id Q.2⟩);have e1:(mrg E E2 (S j).next).ρ id=E2.ρ id:=xx Q;rw[e1];rcases k1.stp.new id Q.2 (fun h=>hnA h.1) (f id c Q.2 β) with h|⟨O,U,s,ξ,ι⟩
     · exact .inl h
     · have W:=x O U s;obtain⟨K,o,g,J⟩:=ξ;exact .inr ⟨O,Y O W,s.1,⟨K,o,by rw[M O W s.2] at g;exact g,J⟩,ι⟩
   · by_cases c:Wr j id=i7
     · exact z id c hA β
     · exact C id c hA β
   · rcases k1.stp.mem b α ν with h|⟨id,U,s,⟨K,o,g,J⟩,ι⟩
     · exact .inl h
     · have c:=x id U s;exact .inr ⟨id,Y id c,s.1,⟨K,o,by rw[M id c s.2] at g;exact g,J⟩,ι⟩
 refine⟨fun id ζ hA o Z=>?_,fun id ζ hA o Z hbk=>?_,fun id ζ hA β=>?_,fun i k a1 a2 a3 a4 υ a6 μ=>?_,k1.st.lo,(k1.pre σ).gl,fun id hA=>?_,I.stp.trans (fun id hA hn=>?_) χ,?_,fun t φ=>?_⟩
 · by_cases c:Wr j id=i7
   · rw[X id,xx c] at Z ⊢;have q:=hWA id c hA;exact(k1.st.objs id ((Tj _ _ _).sub _ (G id c)) q o Z).mv hE2 (η id q).2 (k1.st.blk id ((Tj _ _ _).sub _ (G id c)) q o Z) fun _ _=>rfl
   · rw[X id,xr c] at Z ⊢;have m:=ω id c hA;exact(I.objs id ζ m o Z).mv (Env.bel_le hE _) (l id m) (I.blk id ζ m o Z) fun γ α=>ψ id c ζ m ⟨α,o,Z,γ⟩
 · by_cases c:Wr j id=i7
   · rw[X id,xx c] at Z;have q:=hWA id c hA;rw[(η id q).2.2.2.2];exact k1.st.blk id ((Tj _ _ _).sub _ (G id c)) q o Z hbk
   · rw[X id,xr c] at Z;have m:=ω id c hA;rw[(l id m).2.2.2];exact I.blk id ζ m o Z hbk
 · by_cases c:Wr j id=i7
   · have q:=hWA id c hA;rw[(η id q).2.1];exact k1.st.own id ((Tj _ _ _).sub _ (G id c)) q (f id c q β)
   · have m:=ω id c hA;rw[(l id m).1];have hL1:=C id c m β;have hm:=I.own id ζ m hL1;rcases k1.stp.mem _ hm (I.lo _ hm) with h|⟨p,U,s,⟨K,o,g,J⟩,ι⟩
     · exact h
     · exfalso;have y:=x p U s;have e:=I.inj p id (T.sub _ (Y p y)) ζ s.1 m ⟨K,o,by rw[M p y s.2] at g;exact g,J⟩ hL1 ι;rw[e] at y;exact c y
 · -- two of one block
   have key:∀i k,T.r i->T.r k->(mrg E E2 (S j).next).A i->(mrg E E2 (S j).next).A k->Live (mrg E E2 (S j).next) (fun id=>(S (ix D' (fun i=>Wr i id) ops.length)).H id) i->Live (mrg E E2 (S j).next) (fun id=>(S (ix D' (fun i=>Wr i id) ops.length)).H id) k ->
       (mrg E E2 (S j).next).ρ i=(mrg E E2 (S j).next).ρ k->E.A k->i=k:=by
     intro i k a1 a2 a3 a4 υ a6 μ θ;have hLk:Live E (fun id=>(S (ix D (fun i=>Wr i id) ops.length)).H id) k:=by
       by_cases c:Wr j k=i7
       · exact z k c θ a6
       · exact C k c θ a6
     by_cases L:E.A i
     · have hLi:Live E (fun id=>(S (ix D (fun i=>Wr i id) ops.length)).H id) i:=by
         by_cases c:Wr j i=i7
         · exact z i c L υ
         · exact C i c L υ
       rw[(l i L).1,(l k θ).1] at μ;exact I.inj i k a1 a2 L θ hLi hLk μ
     · have Q:=a3.resolve_left L;have c:Wr j i=i7:=(R.wrs j i N.lt).2 (.inr ⟨Q.1,k1.bnd i Q.2⟩);have e1:(mrg E E2 (S j).next).ρ i=E2.ρ i:=xx Q;rw[e1,(l k θ).1] at μ;rcases k1.stp.new i Q.2 (fun h=>L h.1) (f i c Q.2 υ) with h|⟨O,U,s,ξ,ι⟩
       · have:E.ρ k<E.w.heap.size:=I.lo _ (I.own k a2 θ hLk);have h':E.w.heap.size<=E2.ρ i:=h;omega
       · have W:=x O U s;obtain⟨K,o,g,J⟩:=ξ;have hL0:Live E (fun id=>(S (ix D (fun i=>Wr i id) ops.length)).H id) O:=⟨K,o,by rw[M O W s.2] at g;exact g,J⟩;have e2:O=k:=I.inj O k (T.sub _ (Y O W)) a2 s.1 θ hL0 hLk (ι.symm.trans μ);subst e2;have i2:=(η i Q.2);have hA0:=F.alw O s;exact k1.st.inj i O ((Tj _ _ _).sub _ (G i c)) ((Tj _ _ _).sub _ U) Q.2 hA0.1 (f i c Q.2 υ) (f O W hA0.1 a6) (by rw[μ];exact hA0.2.1.symm)
   by_cases θ:E.A k
   · exact key i k a1 a2 a3 a4 υ a6 μ θ
   · by_cases L:E.A i
     · exact(key k i a2 a1 a4 a3 a6 υ μ.symm L).symm
     · have ε:=a3.resolve_left L;have δ:=a4.resolve_left θ;have V:Wr j i=i7:=(R.wrs j i N.lt).2 (.inr ⟨ε.1,k1.bnd i ε.2⟩);have hwk:Wr j k=i7:=(R.wrs j k N.lt).2 (.inr ⟨δ.1,k1.bnd k δ.2⟩);rw[(η i ε.2).2.1,(η k δ.2).2.1] at μ;exact k1.st.inj i k ((Tj _ _ _).sub _ (G i V)) ((Tj _ _ _).sub _ (G k hwk)) ε.2 δ.2 (f i V ε.2 υ) (f k hwk δ.2 a6) μ
 · rcases hA with hA|hA
   · rcases I.ids id hA with h|⟨i,U,s,ξ,ι⟩
     · exact .inl h
     · exact .inr ⟨i,U,(hD i).2 (.inl s),ξ,ι⟩
   · exact .inr ⟨j,N.lt,(hD j).2 (.inr rfl),hA.1,k1.bnd id hA.2⟩
 · rcases I.ids id hA with h|⟨i,U,s,ξ,ι⟩
   · exact absurd h hn
   · exact hnw id (py (R.mono_le (pm _) (ra U)) ξ)
 · cases hd:oj.dst with
   | none=>exact I.size
   | some d=>simp [Act.put,I.size]
 · have c:wtS ops t j=i7↔oj.dst=iz t:=by rw[qqz,th,hj];rfl
   by_cases hd:oj.dst=iz t
   · have e:ix D' (wtS ops t) ops.length=j+1:=by
       rw[qta (j:=j) hD ops.length (fun _ i L γ V=>(R.look_here N hj (.inr hd)).1 i L γ V),xx ⟨N.lt,c.2 hd⟩]
     rw[e];have h4:=R.put j oj hj;rw[h4,hd];have e1:slot (putD (iz t) (v j) (fr j)) t=v j:=by unfold putD;rw[vp,xx rfl]
     have e2:(a.put (iz t) u).tmps.getD t undef=u:=by simp[Act.put,I.size,φ]
     rw[e1,e2];exact hv.mono hE2
   · have e:ix D' (wtS ops t) ops.length=ix D (wtS ops t) ops.length:=by
       rw[qta (j:=j) hD ops.length (fun h=>absurd (c.1 h) hd),xr (fun h=>hd (c.1 h.2))]
     rw[e];have e2:(a.put oj.dst u).tmps.getD t undef=a.tmps.getD t undef:=by
       cases hdd:oj.dst with
       | none=>rfl
       | some d =>
         have hne:d≠t:=fun h=>hd (by rw[hdd,h]);simp[Act.put,rc,jbp hne]
     rw[e2];exact(I.slots t φ).mono (Env.bel_le hE _)
end
end Reg
end Go.Jx
end

noncomputable section
namespace Go.Jx
open Go Go.Sx Go.RowKit
universe u
namespace Reg
section
variable {P : om} {tt : Nat -> Oq TI} {nt : Nat} {cl : Cl} {ops : Lz o8} {fr : Nat -> PT IV} {S : Nat -> IS} {v : Nat -> IV} {rd wr : Nat -> Nat} {run : Nat -> Bool} {B : Nat -> Nat} {Wr : Nat -> Nat -> Bool} {ok : Nat -> Bool}
variable {F : Fence} {Q : Exit -> Act -> oh -> Prop} {T : TW} {E0 : Env}

theorem closed_of(R:Reg P tt nt cl ops fr S v rd wr run B Wr ok){D:Nat->Bool}(hd:∀(i:Nat) (o:o8),ops[i]?=iz o->D i=i7->∀e∈o.after,mu .any e=i7->D e.on=i7) :
  ∀i,i<ops.length->D i=i7->∀k,(B i).testBit k=i7->D k=i7:=by
 intro i;induction i using Nat.strongRecOn with
 | _ i ih =>
  intro g j k f;have a:=xc g;obtain⟨e,c,b,l⟩:=R.bef i _ k a f;have h:=hd i _ a j e c b;have d:=R.back i _ a e c b
  grind
theorem inv_end(R:Reg P tt nt cl ops fr S v rd wr run B Wr ok){D:Nat->Bool}{E:Env}{a:Act}(I:Inv ops nt fr S Wr T E0 D E a)(hall:∀i,i<ops.length->D i=i7)(hbnd:∀id,E0.A id->id<(S 0).next) :
  FR E nt (fr ops.length) a.tmps/\St T.r E (S ops.length).H/\Stp T.w E0 (S 0).H E (S ops.length).H/\(∀id,E.A id->id<(S ops.length).next)/\Fresh E0 (S 0) E:=by
 have k:∀n,ix D n ops.length=ix (fun _=>i7) n ops.length:=fun n=>q09 (fun i F _=>hall i F) _ (xl _) (fun i a b _=>absurd b (by omega));have d:∀id,E.A id->id<(S ops.length).next:=fun id h=>by
  rcases I.ids id h with h|⟨i,s,G,x,u⟩
  ·exact pz (hbnd id h) (R.mono_le (pm _) (xl _))
  ·exact pz u (R.mono_le s (xl _))
 have q:∀id,id<(S ops.length).next->(S (ix D (fun i=>Wr i id) ops.length)).H id=(S ops.length).H id:=fun id h=>by
  rw[k];exact(R.heap_at id _ (xl _) h).symm
 have m:∀id,id<(S ops.length).next->Live E (S ops.length).H id->Live E (fun id=>(S (ix D (fun i=>Wr i id) ops.length)).H id) id:=fun id h ⟨L,o,K,J⟩=>⟨L,o,by simp only;rw[q id h];exact K,J⟩
 refine⟨⟨I.size,fun t z=>?_⟩,⟨fun id l c o p=>?_,fun id l c o p=>I.blk id l c o (by rw[q id (d id c)];exact p),fun id l c C=>I.own id l c (m id (d id c) C),fun i j g f e y O N M=>I.inj i j g f e y (m i (d i e) O) (m j (d j y) N) M,I.lo⟩,?_,d,⟨fun id c Q=>?_⟩⟩
 ·have:=(I.slots t z).mono (E.bel_self _);rw[k,<- R.slot_at t _ (xl _)] at this
  grind
 ·have:=I.objs id l c;rw[q id (d id c)] at this;exact(this o p).of_bel
 ·have h:=I.stp;exact⟨h.os,h.tape,h.output,h.size,h.same,h.alw,fun id g f e=>h.new id g f (m id (d id g) e),fun id g f e=>h.old id g f (m id (d id (h.alw id f).1) e),h.memo,h.mem⟩
 ·rcases I.ids id c with h|⟨i,s,G,x,u⟩
  ·grind
  ·exact py (R.mono_le (pm _) (ra s)) x
theorem any_sound(R:Reg P tt nt cl ops fr S v rd wr run B Wr ok)(hF:F.plain=ox)(hcl:ClOK P cl)(htt:TT P tt)(hrd:∀j,j<ops.length->∀id,(rd j).testBit id=i7->T.r id)(hwr:∀j,j<ops.length->∀id,(wr j).testBit id=i7->T.w id)
   (hnw:∀id,(S 0).next<=id->T.w id) (hbnd:∀id,E0.A id->id<(S 0).next) {ds:Lz ip} {bad:Nat->Bool} {PQ:IV->Prop}
   (hok:∀j,j<ops.length->(∀i,(B j).testBit i=i7->bad i=eb)->bad j=eb->ok j=i7)
   (hbad:∀j oj,ops[j]?=iz oj->bad j=i7->(run j=i7/\run j=jn ops nt (fr j) oj.guard/\gOK ops (fr j) oj.guard=i7)/\v j=.unk/\∃p,jg p=i7/\PQ p/\q0 P tt nt cl (fr j) (S j) oj=iz ⟨.pan p,S (j+1),rd j,wr j⟩)
   (hP:∀p D E a a' u,PQ p->Inv ops nt fr S Wr T E0 D E a'->a.tmps.size=nt->a.defers=ds->VR E p u->Q (.panic [{ v:=u,recovered:=eb }]) a E.w)
   (hQ:(∀i,i<ops.length->bad i=eb)->∀E a,FR E nt (fr ops.length) a.tmps->a.defers=ds->St T.r E (S ops.length).H->Stp T.w E0 (S 0).H E (S ops.length).H->(∀id,E.A id->id<(S ops.length).next)->Fresh E0 (S 0) E->Q .normal a E.w) :
   ∀(fuel:Nat) (rem:Lz Nat) (listed:Array Bool) (E:Env) (a:Act),rem.length=fuel->rem.Nodup->(∀i,i∈rem↔i<ops.length/\listed.getD i eb=eb)->listed.size=ops.length ->
     (∀(i:Nat) (o:o8),ops[i]?=iz o->listed.getD i eb=i7->∀e∈o.after,mu .any e=i7->listed.getD e.on eb=i7) ->
     (∀i,listed.getD i eb=i7->bad i=eb)->Inv ops nt fr S Wr T E0 (fun i=>listed.getD i eb) E a->a.defers=ds->wpAnyIn F 0 P .any ops.toArray Q fuel listed a E.w:=by
 have O:∀(listed:Array Bool) (E:Env) (a:Act),(∀i,listed.getD i eb=i7->bad i=eb)->listed.size=ops.length->Region.ready .any ops.toArray listed=[]->Inv ops nt fr S Wr T E0 (fun i=>listed.getD i eb) E a->a.defers=ds->Q .normal a E.w:=by
   intro listed E a n m V I s;have β:∀i,i<ops.length->listed.getD i eb=i7:=by
     intro i;induction i using Nat.strongRecOn with
     | _ i ih =>
       intro l;cases hl:listed.getD i eb with
       | true=>rfl
       | false =>
         have hm:i∈Region.ready .any ops.toArray listed:=by
           refine mem_ready.2 ⟨?_,_,by simp,fun e ι C=>ih e.on (R.back i _ (xc l) e ι C) (jci (R.back i _ (xc l) e ι C) l)⟩;exact getD_in (by rw[m];exact l) hl
         rw[V] at hm;cases hm
   obtain⟨ν,ε,τ,h4,h5⟩:=R.inv_end I β hbnd;exact hQ (fun i l=>n i (β i l)) E a ν s ε τ h4 h5
 intro fuel;induction fuel with
 | zero =>
   intro rem listed E a M δ y m U n I s;have σ:Region.ready .any ops.toArray listed=[]:=by
     apply List.eq_nil_iff_forall_not_mem.2;intro i l;obtain⟨ν,o,ε,_⟩:=mem_ready.1 l;have b:i<ops.length:=by
       rcases dm i ops.length with h|h
       · exact h
       · rw[Array.getElem?_eq_none (by simpa using h)] at ε;cases ε
     have:=(y i).2 ⟨b,getD_both ν⟩;rw[List.eq_nil_of_length_eq_zero M] at this;cases this
   exact⟨σ,O listed E a n m σ I s⟩
 | succ fuel ih =>
   intro rem listed E a M δ y m U n I s;refine⟨fun σ=>O listed E a n m σ I s,fun j hj=>?_⟩;obtain⟨ν,oj,ε,τ⟩:=mem_ready.1 hj;have d:ops[j]?=iz oj:=by simpa using ε
   have b:j<ops.length:=(x9.1 d).1;have η:=getD_both ν;have α:=R.closed_of (D:=fun i=>listed.getD i eb) U;have N:Nx ops (fun i=>listed.getD i eb) B j:=⟨b,η,fun i l=>by
     obtain⟨e,φ,υ,e3⟩:=R.bef j oj i d l;have μ:=τ e φ υ;rcases e3 with e3|e3
     · rw[e3];exact μ
     · exact α e.on (jci (R.back j oj d e φ υ) b) μ i e3,α⟩
   have k:∀i,(listed.setIfInBounds j i7).getD i eb=i7↔listed.getD i eb=i7\/i=j:=fun i=>by
     by_cases e:i=j
     · subst e;constructor
       · intro _;exact .inr rfl
       · intro _;simp [m,b]
     · rw[getD_set_ne eb (jcm e)];exact⟨.inl,fun h=>h.resolve_right e⟩
   -- the rest, from whatever state that fits
   have K:bad j=eb->∀ψ a',Inv ops nt fr S Wr T E0 (fun i=>(listed.setIfInBounds j i7).getD i eb) ψ a'->a'.defers=ds->wpAnyIn F 0 P .any ops.toArray Q fuel (listed.setIfInBounds j i7) a' ψ.w:=by
     intro z ψ a' I' κ;have θ:j∈rem:=(y j).2 ⟨b,η⟩;refine ih (rem.erase j) _ ψ a' (by rw[List.length_erase_of_mem θ,M];rfl) (δ.erase j) (fun i=>?_) (by simp[m]) (fun i o ho l e ι C=>?_) (fun i l=>by
       rcases(k i).1 l with h|h
       · exact n i h
       · rw[h];exact z) I' κ
     · rw[δ.mem_erase_iff,y i];constructor
       · rintro⟨e,ω,ζ⟩;exact⟨ω,by rw[getD_set_ne eb (jcm e)];exact ζ⟩
       · rintro⟨ω,ζ⟩;have e:i≠j:=fun e=>by
           have:=(k i).2 (.inr e);rw[this] at ζ;cases ζ
         exact⟨e,ω,by rw[getD_set_ne eb (jcm e)] at ζ;exact ζ⟩
     · rw[k];rcases(k i).1 l with h|h
       · exact .inl (U i o ho h e ι C)
       · subst h;rw[d] at ho;cases ho;exact .inl (τ e ι C)
   have Y:∀u,(a.put oj.dst u).defers=ds:=fun u=>by rw[<- s];cases oj.dst<;>rfl
   have L:=R.pre_here N I d (hrd j b) (hwr j b);have J:=fun hgk=>q0t (E:=E.bel (S j).next) (fr:=fr j) (ops:=ops) (o:=oj) hgk I.size (fun t ρ hn=>R.slots_here N I d (by
     unfold Oper.looksAt;cases hg:oj.guard with
     | none=>rw[hg] at ρ;cases ρ
     | some q =>
       obtain⟨gi,gw⟩:=q;rw[hg] at ρ;have:jv ops gi=iz t:=ρ;rw[th] at this;refine gg _ ?_;simp only[pf];rw[this];simp) hn)
   have Z:∀x∈oj.op.operands.toList,∀v,evo nt (fr j) x=iz v->VR (E.bel (S j).next) v (a.eval x):=fun x hx v G=>by
     cases x with
     | tmp t =>
       simp only[evo] at G;cases C:oo t nt with
       | false=>rw[C] at G;cases G
       | true =>
         rw[C,xa] at G;cases G;exact R.slots_here N I d (by
           unfold Oper.looksAt;exact ge _ (List.mem_filterMap.2 ⟨.tmp t,hx,rfl⟩)) (by simpa using C)
     | const c=>exact qee _ G
     | func f=>cases G;exact .fn (us:=[]) rfl (fun i h=>by simp at h)
     | global g =>
       simp only[evo] at G;cases C:glB g with
       | false=>rw[C] at G;cases G
       | true=>rw[C,xa] at G;cases G;exact .gp C
   unfold wpOpIn;rw[ε];simp only;cases z:bad j with
   | true =>
     obtain⟨⟨b1,b2,b3⟩,b4,pv,b5,b6,b7⟩:=hbad j oj d z;rw[J b3,<- b2,b1,xx rfl];refine qjs hF hcl htt L (a:=a) Z b7 (fun id h=>.inl h) (fun id h=>.inl h) (fun u χ ξ _ _=>by cases ξ) fun p' W u χ ξ g2 g3=>?_;cases W;exact hP pv _ (mrg E χ (S j).next) a _ u b6 (R.inv_next N I d (hrd j b) (hwr j b) hnw hbnd (D':=fun i=>(listed.setIfInBounds j i7).getD i eb) k (u:=undef) (by rw[b4];exact .unk _) g2 g3) I.size s (qeo b5 ξ)
   | false =>
   obtain⟨s1,s2,s3,s4⟩:=R.step j oj d (hok j b (fun i l=>n i (N.ahead i l)) z);rw[J s1.2,<- s1.1];cases X:run j with
   | true =>
     rw[xx rfl];have γ:=s2 X;refine qjs hF hcl htt L (a:=a) Z γ (fun id h=>.inl h) (fun id h=>.inl h) (fun u χ ξ g2 g3=>?_) fun p' W=>by rw[s4] at W;cases W
     · exact K z (mrg E χ (S j).next) _ (R.inv_next N I d (hrd j b) (hwr j b) hnw hbnd (D':=fun i=>(listed.setIfInBounds j i7).getD i eb) k ξ g2 g3) (Y u)
   | false =>
     rw[xr (by simp)];refine⟨fun f _=>c7 hF f,?_⟩;obtain⟨φ,υ⟩:=s3 X;have hp:Post (Tj (rd j) (wr j) (S j).next) (E.bel (S j).next) (S j) (E.bel (S j).next) (S (j+1)):=by rw[υ];exact Post.refl L
     exact K z (mrg E (E.bel (S j).next) (S j).next) _ (R.inv_next N I d (hrd j b) (hwr j b) hnw hbnd (D':=fun i=>(listed.setIfInBounds j i7).getD i eb) k (u:=undef) (by rw[φ];exact .tup (us:=[]) rfl (fun i h=>by simp at h)) hp (Fresh.refl _ _)) (Y undef)
theorem inv_start(R:Reg P tt nt cl ops fr S v rd wr run B Wr ok){a:Act}(p:Pre T E0 (S 0))(hf:FR E0 nt (fr 0) a.tmps):Inv ops nt fr S Wr T E0 (fun i=>(fg ops.length eb).getD i eb) E0 a:=by
 have g:∀m n,ix (fun i=>(fg ops.length eb).getD i eb) m n=0:=fun m n=>by
  induction n with
  | zero=>rfl
  | succ n ih=>rw[u5 (fun h=>by
    have:(fg ops.length eb).getD n eb=eb:=r8 _ _;rw[this] at h;exact absurd h.1 (by simp)),ih]
 have q:E0.Le (E0.bel (S 0).next):=⟨fun b h=>⟨⟨h,p.bnd b h⟩,rfl,rfl,rfl,rfl⟩,Tr.refl _ _⟩;have f:∀b,Live E0 (fun b=>(S (ix (fun i=>(fg ops.length eb).getD i eb) (fun i=>Wr i b) ops.length)).H b) b->Live E0 (S 0).H b:=fun b ⟨w,o,l,u⟩=>⟨w,o,by simp only at l;rw[g] at l;exact l,u⟩;refine⟨fun b d e o c=>?_,fun b d e o c=>p.st.blk b d e o (by rw[g] at c;exact c),fun b d e s=>p.st.own b d e (f b s),fun i j E D C A z y x=>p.st.inj i j E D C A (f i z) (f j y) x,p.st.lo,p.gl,fun b h=>.inl h,?_,hf.size,fun t r=>?_⟩
 ·rw[g] at c ⊢;exact(p.st.objs b d e o c).mv q ⟨rfl,rfl,rfl,rfl⟩ (p.st.blk b d e o c) fun _ _=>rfl
 ·exact⟨rfl,rfl,rfl,xl _,fun _ _ _=>rfl,fun _ h=>⟨h,rfl,rfl,rfl,rfl⟩,fun _ h k=>absurd h k,fun b _ _ h=>f b h,fun _ h=>.inl h,fun _ h _=>.inl h⟩
 ·rw[g];exact(hf.get t r).mono q
end
end Reg
end Go.Jx
end

noncomputable section
namespace Go.Jx
open Go Go.Sx Go.RowKit
universe u

def FrR(S:IS)(r:Res):Prop:=S.next<=r.S.next/\∀id,id<S.next->r.wr.testBit id=eb->r.S.H id=S.H id
def FrO(S:IS)(x:Oq Res):Prop:=∀r,x=iz r->FrR S r
def ClFr(cl:Cl):Prop:=∀tgt vs S,FrO S (cl tgt vs S)
theorem FrO.none{S:IS}:FrO S i6:=fun r h=>by cases h
theorem FrO.same{S:IS}{v:IV}{rd wr:Nat}:FrO S (iz ⟨v,S,rd,wr⟩):=fun r h=>by cases h;exact⟨xl _,fun _ _ _=>rfl⟩
theorem FrO.new{S:IS}{v:IV}{o:IObj}{rd wr:Nat}:FrO S (iz ⟨v,S.new o,rd,wr⟩):=fun r h=>by
 cases h;refine⟨df _,fun b a _=>?_⟩;rw[IS.H_new,up_ne _ _ (by omega)]
theorem FrO.set{S:IS}{v:IV}{o:IObj}{rd id:Nat}:FrO S (iz ⟨v,S.set id o,rd,2 ^ id⟩):=fun r h=>by
 cases h;refine⟨xl _,fun k b a=>?_⟩;rw[IS.H_set,up_ne _ _ (qam a)]
theorem FrO.mv{S:IS}{v:IV}{o o':IObj}{rd id:Nat}:FrO S (iz ⟨v,(S.set id o').new o,rd,2 ^ id⟩):=fun r h=>by
 cases h;refine⟨df _,fun k a b=>?_⟩;rw[IS.H_new,up_ne _ _ (show k≠(S.set id o').next from Nat.ne_of_lt a),IS.H_set,up_ne _ _ (qam b)]
theorem FrO.new2{S:IS}{v:IV}{o o':IObj}{rd wr:Nat}:FrO S (iz ⟨v,(S.new o').new o,rd,wr⟩):=fun r h=>by
 cases h;refine⟨jcd (df _),fun a b _=>?_⟩;rw[IS.H_new,up_ne _ _ (show a≠(S.new o').next by simp only[IS.new];omega),IS.H_new,up_ne _ _ (by omega)]
theorem FrO.cond{S:IS}{c:Bool}{x y:Oq Res}(h:FrO S x)(k:FrO S y):FrO S (cond c x y):=by cases c;exact k;exact h
theorem FrO.oget{S:IS}{α:Type}{x:Oq α}{f:α->Oq Res}(h:∀a,FrO S (f a)):FrO S (oget x f):=by
 cases x with
 | none=>exact FrO.none
 | some a=>exact h a
section
variable {P : om} {tt : Nat -> Oq TI} {T : TW} {E : Env} {S : IS} {nt : Nat} {fr : PT IV} {a : Act} {cl : Cl} {F : Fence} {Q : Exit -> Act -> oh -> Prop}
theorem zo7{ty:ov}{x:IV}:FrO S (yk tt S ty x):=by unfold yk;repeat' (first|exact FrO.none|exact FrO.same|apply FrO.cond|split)
theorem FrO.icl{S S2:IS}{c:TC}{cs:Lz IV}{x:El c}{r:Lz IV}{w id:Nat}{v:IV}{o:IObj}{rd:Nat}(h:icl c S cs=iz (x,r,S2,w)):FrO S (iz ⟨v,S2.set id o,rd,w ||| 2 ^ id⟩):=fun r e=>by
 cases e;obtain⟨a,b⟩:=qan c _ _ _ _ _ _ h;refine⟨dk a.symm,fun k f d=>?_⟩;rw[dq,g9] at d;rw[IS.H_set,up_ne _ _ (qam d.2)]
 grind
theorem zc5{ty:ov}{x y:IV}:FrO S (nq tt S ty x y):=by unfold nq;repeat' (first|exact FrO.none|exact FrO.set|apply FrO.cond|(rename_i h;exact FrO.icl h)|split)
theorem zqb{ty:ov}:FrO S (qgz tt S ty):=by unfold qgz;repeat' (first|exact FrO.none|exact FrO.new|exact FrO.new2|apply FrO.cond|split)
theorem zyr{v:IV}:FrO S (ibox S v):=by unfold ibox;exact FrO.cond FrO.new FrO.none
theorem q5x{ty:ov}{ps}:FrO S (qdt tt S ty ps):=by unfold qdt;repeat' (first|exact FrO.none|exact FrO.same|apply FrO.cond|split)
theorem zt6{ty n:Nat}{ps}:FrO S (qe1 tt S ty n ps):=by unfold qe1;repeat' (first|exact FrO.none|exact FrO.new|apply FrO.cond|split)
theorem q0b{ty n:Nat}{ps}:FrO S (qev tt S ty n ps):=by unfold qev;repeat' (first|exact FrO.none|exact FrO.new|apply FrO.cond|split)
theorem zpo{ty f:Nat}{x:IV}:FrO S (qgr tt S ty f x):=by unfold qgr;repeat' (first|exact FrO.none|exact FrO.same|apply FrO.cond|split)
theorem zj5{ty:Nat}{x y:IV}:FrO S (cf tt S ty x y):=by unfold cf;repeat' (first|exact FrO.none|exact FrO.same|apply FrO.cond|split)
theorem zi4{ty:Nat}{lo hi mx:Oq IV}{x:IV}:FrO S (cn tt S ty lo hi mx x):=by unfold cn;repeat' (first|exact FrO.none|exact FrO.same|apply FrO.cond|split)
theorem zx8{t1 t2:Nat}{x y:IV}:FrO S (qc9 tt S t1 t2 x y):=by unfold qc9;repeat' (first|exact FrO.none|exact FrO.same|exact FrO.new|exact FrO.set|exact FrO.mv|apply FrO.cond|split)
theorem zxg{ty:Nat}{x:IV}:FrO S (ilen tt S ty x):=by unfold ilen;repeat' (first|exact FrO.none|exact FrO.same|apply FrO.cond|split)
theorem znj{s d:Nat}{x:IV}:FrO S (istr tt S s d x):=by unfold istr;repeat' (first|exact FrO.none|exact FrO.same|apply FrO.cond|split)
theorem zec{ty:Nat}{x k:IV}{ok:Bool}:FrO S (cr tt S ty x k ok):=by unfold cr;repeat' (first|exact FrO.none|exact FrO.same|apply FrO.cond|split)
theorem zhq{ty:Nat}{x k v:IV}:FrO S (qbg tt S ty x k v):=by unfold qbg;repeat' (first|exact FrO.none|exact FrO.set|apply FrO.cond|split)
theorem zdw{ty:Nat}{x k:IV}:FrO S (qg6 tt S ty x k):=by unfold qg6;repeat' (first|exact FrO.none|exact FrO.set|apply FrO.cond|split)
theorem zh6{ty:Nat}{x:IV}:FrO S (qfa tt S ty x):=by unfold qfa;repeat' (first|exact FrO.none|exact FrO.new|apply FrO.cond|split)
theorem zuv{x:IV}{b:Bool}:FrO S (nb S x b):=by unfold nb;repeat' (first|exact FrO.none|exact FrO.same|exact FrO.set|apply FrO.cond|split)
theorem zf6{ty f:Nat}{x:IV}:FrO S (qeu tt S ty f x):=by unfold qeu;repeat' (first|exact FrO.none|exact FrO.same|apply FrO.cond|split)
theorem znh{x:IV}{i:Nat}:FrO S (qfo S i x):=by unfold qfo;repeat' (first|exact FrO.none|exact FrO.same|apply FrO.cond|split)
theorem ze7{ty:Nat}{x:IV}:FrO S (qdj tt S ty x):=by unfold qdj;repeat' (first|exact FrO.none|exact FrO.same|apply FrO.cond|split)
theorem zof{t1 t2:Nat}{ok:Bool}{x:IV}:FrO S (qg8 tt S t1 t2 ok x):=by unfold qg8;repeat' (first|exact FrO.none|exact FrO.same|apply FrO.cond|split)
theorem FrO.nd{S:IS}{v:IV}{o o1 o2:IObj}{rd:Nat}:FrO S (iz ⟨v,((S.new o1).set S.next o2).new o,rd,0⟩):=fun r h=>by
 cases h;refine⟨by simp[IS.new,IS.set];omega,fun k a _=>?_⟩;simp only[IS.H_new,IS.H_set];rw[show ((S.new o1).set S.next o2).next=S.next+1 from rfl,up_ne _ _ (by omega),up_ne _ _ (by omega),up_ne _ _ (by omega)]
theorem zj2{c:TC}{y:IV}{l:Lz (El c)}{S':IS}{rd w:Nat}(h:tsrc S c y=iz (l,S',rd,w)):S'.next=S.next/\∀id,w.testBit id=eb->S'.H id=S.H id:=by
 unfold tsrc at h;split at h<;>try cases h
 ·grind
 ·grind
 ·grind
 ·split at h<;>try cases h
  rename_i d e;cases b:(od _ (csz c)&&og _ d.length) with
  | false=>rw[b] at h;cases h
  | true =>
  rw[b,xa] at h;split at h<;>cases h;rename_i a;exact qtv (qan c) _ _ _ _ _ _ a
 ·grind
theorem q5i{t1 t2 id:Nat}{y:IV}:FrO S (cg tt S t1 t2 id y):=fun r h=>by
 unfold cg at h;split at h<;>try cases h
 split at h
 ·grind
 split at h
 ·grind
 rename_i f c e wr d;split at h<;>try cases h
 split at h
 ·grind
 cases b:og _ 140737488355328 with
 | false=>rw[b] at h;cases h
 | true =>
 rw[b,xa] at h;cases h;obtain⟨j,i⟩:=zj2 d;refine⟨by simp[IS.new,IS.set];omega,fun k g a=>?_⟩;rw[dq,g9] at a;show (((c.set id .dead).new _).H k)=_;rw[IS.H_new,IS.H_set,up_ne _ _ (by show k≠c.next;omega),up_ne _ _ (qam a.2)]
 grind
theorem zu1{c:TC}{v v':IV}{S':IS}{w:Nat}(h:coeV S c v=iz (v',S',w)):S.next<=S'.next/\∀id,id<S.next->w.testBit id=eb->S'.H id=S.H id:=by
 unfold coeV at h;split at h<;>try cases h
 ·exact⟨df _,fun id i _=>by rw[IS.H_new,up_ne _ _ (by omega)]⟩
 ·grind
 ·rename_i e d a s f;split at h<;>try cases h
  rename_i j l;cases b:(od d 0&&od s (csz c)&&og (a*s) j.length&&og (a*bsz c) 140737488355328&&qgb c) with
  | false=>rw[b] at h;cases h
  | true =>
  rw[b,xa] at h;split at h<;>cases h;exact⟨df _,fun k g b=>by rw[IS.H_new,up_ne _ _ (show k≠(S.set e .dead).next from Nat.ne_of_lt g),IS.H_set,up_ne _ _ (qam b)]⟩
theorem zde{t1 t2:Nat}{c:TC}{x y:IV}:FrO S (ng tt S t1 t2 c x y):=fun r h=>by
 unfold ng at h;split at h<;>try cases h
 rename_i g n w d;split at h<;>cases h;rename_i a b;obtain⟨f,m⟩:=zu1 d;obtain⟨e,l⟩:=q5i a b;refine⟨py f e,fun k i j=>?_⟩
 grind
theorem zgm{t1 t2:Nat}{x y:IV}:FrO S (iapp tt S t1 t2 x y):=by unfold iapp vk;repeat' (first|exact FrO.none|exact q5i|exact zde|exact zx8|exact FrO.nd|apply FrO.cond|split)
theorem zun{ty:Nat}{lo hi mx:Oq IV}{id:Nat}{wh:Bool}:FrO S (qao tt S ty lo hi mx id wh):=by unfold qao;repeat' (first|exact FrO.none|exact FrO.same|exact FrO.set|apply FrO.cond|split)
theorem zfn{ty:Nat}{lo hi mx:Oq IV}{s:Bq}:FrO S (qal tt S ty lo hi mx s):=by unfold qal;repeat' (first|exact FrO.none|exact FrO.same|apply FrO.cond|split)
theorem zeq{ty:Nat}{s:Bq}{i:Int}:FrO S (qaw tt S ty s i):=by unfold qaw;repeat' (first|exact FrO.none|exact FrO.same|apply FrO.cond|split)
theorem zjz{op:UnOp}{x:IV}:FrO S (iun op S x):=by unfold iun;repeat' (first|exact FrO.none|exact FrO.same|apply FrO.cond|split)
theorem qrl{o:o8}:FrO S (qt P nt fr S o):=by unfold qt;repeat' (first|exact FrO.none|exact FrO.same|apply FrO.cond|split)
theorem zkc{o:o8}{op:BinOp}{T0:Nat}{ti:TI}{x y:IV}:FrO S (vr P tt nt fr S o op T0 ti x y):=by unfold vr;repeat' (first|exact FrO.none|exact FrO.same|exact qrl|apply FrO.cond|split)
theorem zw2{f:Int->Int->Int}{o:o8}{x y:IV}:FrO S (imm f P nt fr S o x y):=by unfold imm;repeat' (first|exact FrO.none|exact FrO.same|exact qrl|apply FrO.cond|split)
theorem q9o{ty:Nat}{n m:Int}:FrO S (imkC tt S ty n m):=by unfold imkC;repeat' (first|exact FrO.none|exact FrO.new|apply FrO.cond|split)
theorem zdu{ty:Nat}{v:IV}:FrO S (qdf tt S ty v):=by unfold qdf;repeat' (first|exact FrO.none|exact q9o|split)
theorem ztt{ty:Nat}{v u:IV}:FrO S (qaa tt S ty v u):=by unfold qaa;repeat' (first|exact FrO.none|exact q9o|apply FrO.cond|split)
theorem zkf{o:o8}:FrO S (iop P tt nt fr S o):=by
 unfold iop
 repeat' (first|exact FrO.none|exact FrO.same|exact zo7|exact zc5|exact zqb|exact zyr|exact q5x|exact zt6|exact q0b|exact zpo|exact zf6|exact zj5|exact zi4|exact zgm|exact zfn|exact zun|exact zeq|exact zxg|exact znj|exact zec|exact zhq|exact zdw
                | exact zh6|exact zuv|exact znh|exact ze7|exact zof|exact qrl|exact zkc|exact zw2|exact zdu|exact ztt|exact FrO.new|(apply FrO.oget;intro _)|apply FrO.cond|(rename_i a;first|exact fun r h=>zjz r (a.trans h)|exact fun r h=>q0b r (a.trans h)|exact fun r h=>q5x r (a.trans h))|split)
theorem qd2(hcl:ClFr cl){o:o8}:FrO S (q0 P tt nt cl fr S o):=by
 unfold q0;repeat' (first|exact FrO.none|exact FrO.same|exact hcl _ _ _|exact zkf|(apply FrO.oget;intro _)|split)

structure Rec:Type where
 fr:PT IV
 S:IS
 v:IV
 rd:Nat
 wr:Nat
 run:Bool
structure Recs:Type where
 l:List Rec
 fr:PT IV
 S:IS
 pn:Option (Nat × IV)
def y4(bs:Lz Nat)(k:Nat):Oq (Nat × IV)->Bool
 | none=>eb
 | some x=>(bs.getD k 0).testBit x.1
def qr(P:om)(tt:Nat->Oq TI)(nt:Nat)(cl:Cl)(ops:Lz o8)(bs:Lz Nat):Lz o8->Nat->Oq (Nat × IV)->PT IV->IS->Oq Recs
 | [],_,pn,fr,S=>iz ⟨[],fr,S,pn⟩
 | o::l,k,pn,fr,S=>cond (y4 bs k pn)
  (match qr P tt nt cl ops bs l (k+1) pn (putD o.dst .unk fr) S with
  | none=>i6
  | some q=>iz ⟨⟨fr,S,.unk,0,0,eb⟩::q.l,q.fr,q.S,q.pn⟩)
  (cond (gOK ops fr o.guard) (cond (jn ops nt fr o.guard)
  (match q0 P tt nt cl fr S o with
  | none=>i6
  | some r=>match qy r.v with
   | some p=>match pn with
    | some _=>i6
    | none=>cond (jg p) (match qr P tt nt cl ops bs l (k+1) (iz (k,p)) (putD o.dst .unk fr) r.S with
     | none=>i6
     | some q=>iz ⟨⟨fr,S,.unk,r.rd,r.wr,i7⟩::q.l,q.fr,q.S,q.pn⟩) i6
   | none=>match qr P tt nt cl ops bs l (k+1) pn (putD o.dst r.v fr) r.S with
    | none=>i6
    | some q=>iz ⟨⟨fr,S,r.v,r.rd,r.wr,i7⟩::q.l,q.fr,q.S,q.pn⟩)
  (match qr P tt nt cl ops bs l (k+1) pn (putD o.dst (.tup []) fr) S with
  | none=>i6
  | some q=>iz ⟨⟨fr,S,.tup [],0,0,eb⟩::q.l,q.fr,q.S,q.pn⟩)) i6)
def Recs.frA(q:Recs)(i:Nat):PT IV:=match q.l[i]? with|some r=>r.fr|none=>q.fr
def Recs.SA(q:Recs)(i:Nat):IS:=match q.l[i]? with|some r=>r.S|none=>q.S
def Recs.vA(q:Recs)(i:Nat):IV:=match q.l[i]? with|some r=>r.v|none=>.tup []
def Recs.rdA(q:Recs)(i:Nat):Nat:=match q.l[i]? with|some r=>r.rd|none=>0
def Recs.wrA(q:Recs)(i:Nat):Nat:=match q.l[i]? with|some r=>r.wr|none=>0
def Recs.runA(q:Recs)(i:Nat):Bool:=match q.l[i]? with|some r=>r.run|none=>eb
def okB(bs:Lz Nat)(pn:Oq (Nat × IV))(i:Nat):Bool:=match pn with
 | none=>i7
 | some x=>!od i x.1&&!(bs.getD i 0).testBit x.1
theorem zen{bs:Lz Nat}{i:Nat}{p:IV}:okB bs (iz (i,p)) i=eb:=by unfold okB;simp
theorem zwu{bs:Lz Nat}{i:Nat}{pn:Oq (Nat × IV)}(h:y4 bs i pn=i7):okB bs pn i=eb:=by
 cases pn with
 | none=>cases h
 | some x=>unfold okB;simp only[y4] at h;simp only;rw[h];simp
structure RecOK (P:om) (tt:Nat->Option TI) (nt:Nat) (cl:Cl) (ops:List o8) (bs:List Nat) (q:Recs) (k i:Nat) (o:o8):Prop where
 put:q.frA (i+1)=putD o.dst (q.vA i) (q.frA i)
 fra:FrR (q.SA i) ⟨.unk,q.SA (i+1),0,q.wrA i⟩
 step:okB bs q.pn (k+i)=i7->(q.runA i=jn ops nt (q.frA i) o.guard/\gOK ops (q.frA i) o.guard=i7)/\(q.runA i=i7->q0 P tt nt cl (q.frA i) (q.SA i) o=iz ⟨q.vA i,q.SA (i+1),q.rdA i,q.wrA i⟩) /\
   (q.runA i=eb->q.vA i=.tup []/\q.SA (i+1)=q.SA i)/\qy (q.vA i)=i6
 pan:∀p,q.pn=iz (k+i,p)->(q.runA i=i7/\q.runA i=jn ops nt (q.frA i) o.guard/\gOK ops (q.frA i) o.guard=i7)/\q.vA i=.unk/\jg p=i7/\q0 P tt nt cl (q.frA i) (q.SA i) o=iz ⟨.pan p,q.SA (i+1),q.rdA i,q.wrA i⟩
theorem qnj{ops:Lz o8}{bs:Lz Nat}:∀{l:Lz o8} {k:Nat} {pn:Oq (Nat × IV)} {fr:PT IV} {S:IS} {q:Recs},qr P tt nt cl ops bs l k pn fr S=iz q->∀x,pn=iz x->q.pn=iz x
 | [],k,pn,fr,S,q,h,x,hx=>by cases h;exact hx
 | o::l,k,pn,fr,S,q,h,x,hx=>by
  unfold qr at h;cases hsk:y4 bs k pn with
  | true =>
   rw[hsk,xa] at h;split at h<;>cases h;rename_i q1 hq;exact qnj hq x hx
  | false =>
  rw[hsk,xe] at h;cases hgk:gOK ops fr o.guard with
  | false=>rw[hgk] at h;cases h
  | true =>
  rw[hgk,xa] at h;cases hw:jn ops nt fr o.guard with
  | true =>
   rw[hw,xa] at h;split at h
   ·grind
   split at h
   ·grind
   ·split at h<;>cases h;rename_i q1 hq;exact qnj hq x hx
  | false =>
   rw[hw,xe] at h;split at h<;>cases h;rename_i q1 hq;exact qnj hq x hx
theorem qhm{ops:Lz o8}{bs:Lz Nat}:∀{l:Lz o8} {k:Nat} {pn:Oq (Nat × IV)} {fr:PT IV} {S:IS} {q:Recs},qr P tt nt cl ops bs l k pn fr S=iz q->pn=i6->∀x,q.pn=iz x->k<=x.1
 | [],k,pn,fr,S,q,h,hp,x,hx=>by cases h;simp only at hx;rw[hp] at hx;cases hx
 | o::l,k,pn,fr,S,q,h,hp,x,hx=>by
  subst hp;unfold qr at h;rw[show y4 bs k i6=eb from rfl,xe] at h;cases hgk:gOK ops fr o.guard with
  | false=>rw[hgk] at h;cases h
  | true =>
  rw[hgk,xa] at h;cases hw:jn ops nt fr o.guard with
  | true =>
   rw[hw,xa] at h;split at h
   ·grind
   split at h
   ·rename_i p hp;simp only at h;cases hf:jg p with
    | false=>rw[hf] at h;cases h
    | true =>
    rw[hf,xa] at h;split at h<;>cases h;rename_i q1 hq;rw[qnj hq _ rfl] at hx
    grind
   ·split at h<;>cases h;rename_i q1 hq;exact Nat.le_of_succ_le (qhm hq rfl x hx)
  | false =>
   rw[hw,xe] at h;split at h<;>cases h;rename_i q1 hq;exact Nat.le_of_succ_le (qhm hq rfl x hx)
theorem qcl(hcl:ClFr cl){ops:Lz o8}{bs:Lz Nat}:∀{l:Lz o8} {k:Nat} {pn:Oq (Nat × IV)} {fr:PT IV} {S:IS} {q:Recs},qr P tt nt cl ops bs l k pn fr S=iz q->(∀x,pn=iz x->x.1<k) ->
  q.l.length=l.length/\q.frA 0=fr/\q.SA 0=S/\(∀x,pn=iz x->q.pn=iz x)/\(∀x,q.pn=iz x->x.1<k+l.length)/\∀i o,l[i]?=iz o->RecOK P tt nt cl ops bs q k i o
 | [],k,pn,fr,S,q,h,hk=>by cases h;exact⟨rfl,rfl,rfl,fun _ h=>h,fun x h=>pz (hk x h) (jal _ _),fun i o h=>by simp at h⟩
 | o::l,k,pn,fr,S,q,h,hk=>by
  have hk1:∀x,pn=iz x->x.1<k+1:=fun x hx=>Nat.lt_succ_of_lt (hk x hx);have tail:∀{q1:Recs} {r0:Rec},q1.l.length=l.length->(∀i o,l[i]?=iz o->RecOK P tt nt cl ops bs q1 (k+1) i o)->RecOK P tt nt cl ops bs ⟨r0::q1.l,q1.fr,q1.S,q1.pn⟩ k 0 o->∀i o',(o::l)[i]?=iz o'->RecOK P tt nt cl ops bs ⟨r0::q1.l,q1.fr,q1.S,q1.pn⟩ k i o':=by
   intro q1 r0 hl ht h0 i o' ho;cases i with
   | zero =>
    grind
   | succ i =>
    obtain⟨a,b,c,d⟩:=ht i o' (by simpa using ho);have e:k+(i+1)=k+1+i:=by omega
    exact⟨a,b,fun h=>c (by rw[<- e];exact h),fun p hp=>d p (by rw[<- e];exact hp)⟩
  have lenq:∀{q1:Recs} {r0:Rec},q1.l.length=l.length->(∀x,q1.pn=iz x->x.1<k+1+l.length)->(r0::q1.l).length=(o::l).length/\∀x,q1.pn=iz x->x.1<k+(o::l).length:=fun hl hx=>⟨by simp[hl],fun x h=>by have:=hx x h;simp only[xw];omega⟩;unfold qr at h;cases hsk:y4 bs k pn with
  | true =>
   rw[hsk,xa] at h;split at h<;>cases h;rename_i q1 hq;obtain⟨h1,h2,h3,h4,h5,h6⟩:=qcl hcl hq hk1;refine⟨(lenq (r0:=⟨fr,S,.unk,0,0,eb⟩) h1 h5).1,rfl,rfl,h4,(lenq (r0:=⟨fr,S,.unk,0,0,eb⟩) h1 h5).2,tail h1 h6 ?_⟩;cases hpn:pn with
   | none=>rw[hpn] at hsk;cases hsk
   | some x =>
   have e:=h4 x hpn;rw[hpn] at hsk;refine⟨h2,by show FrR S ⟨.unk,q1.SA 0,0,0⟩;rw[h3];exact⟨xl _,fun _ _ _=>rfl⟩,fun hok=>?_,fun p hp=>?_⟩
   ·simp only[e] at hok;rw[zwu (by simpa using hsk)] at hok;cases hok
   ·grind
  | false =>
  rw[hsk,xe] at h;cases hgk:gOK ops fr o.guard with
  | false=>rw[hgk] at h;cases h
  | true =>
  rw[hgk,xa] at h;have nopan:∀{q1:Recs},(∀x,pn=iz x->q1.pn=iz x)->(pn=i6->∀x,q1.pn=iz x->k+1<=x.1)->∀p,q1.pn≠iz (k+0,p):=by
   intro q1 h4 h7 p hp;cases hpn:pn with
   | none=>have:k+1<=k+0:=h7 hpn _ hp;omega
   | some x =>
    grind
  cases hw:jn ops nt fr o.guard with
  | true =>
   rw[hw,xa] at h;split at h
   ·grind
   rename_i r hr;have hfr:=qd2 hcl r hr;split at h
   ·rename_i p hp;split at h
    ·grind
    have hfl:jg p=i7:=by
     grind
    rw[hfl,xa] at h;split at h<;>cases h;rename_i q1 hq;obtain⟨h1,h2,h3,h4,h5,h6⟩:=qcl hcl hq (fun x hx=>by cases hx;exact dy k);have e:=h4 _ rfl;refine⟨(lenq (r0:=⟨fr,S,.unk,r.rd,r.wr,i7⟩) h1 h5).1,rfl,rfl,(fun _ h=>by cases h),(lenq (r0:=⟨fr,S,.unk,r.rd,r.wr,i7⟩) h1 h5).2,tail h1 h6 ?_⟩;refine⟨h2,by show FrR S ⟨.unk,q1.SA 0,0,r.wr⟩;rw[h3];exact hfr,fun hok=>?_,fun p' hp'=>?_⟩
    ·simp only[e] at hok;rw[show k+0=k from rfl,zen] at hok;cases hok
    ·simp only[e,pj,rg] at hp';rw[<- hp'.2];refine⟨⟨rfl,hw.symm,hgk⟩,rfl,hfl,?_⟩;show q0 P tt nt cl fr S o=iz ⟨.pan p,q1.SA 0,r.rd,r.wr⟩;rw[h3,hr,<- zcn hp]
   ·rename_i hnp;split at h<;>cases h;rename_i q1 hq;obtain⟨h1,h2,h3,h4,h5,h6⟩:=qcl hcl hq hk1;refine⟨(lenq (r0:=⟨fr,S,r.v,r.rd,r.wr,i7⟩) h1 h5).1,rfl,rfl,h4,(lenq (r0:=⟨fr,S,r.v,r.rd,r.wr,i7⟩) h1 h5).2,tail h1 h6 ?_⟩;refine⟨h2,by show FrR S ⟨.unk,q1.SA 0,0,r.wr⟩;rw[h3];exact hfr,fun _=>⟨⟨hw.symm,hgk⟩,fun _=>?_,fun h=>absurd (show i7=eb from h) (by simp),hnp⟩,fun p hp=>(nopan h4 (qhm hq) p hp).elim⟩;show q0 P tt nt cl fr S o=iz ⟨r.v,q1.SA 0,r.rd,r.wr⟩;rw[h3];exact hr
  | false =>
   rw[hw,xe] at h;split at h<;>cases h;rename_i q1 hq;obtain⟨h1,h2,h3,h4,h5,h6⟩:=qcl hcl hq hk1;refine⟨(lenq (r0:=⟨fr,S,.tup [],0,0,eb⟩) h1 h5).1,rfl,rfl,h4,(lenq (r0:=⟨fr,S,.tup [],0,0,eb⟩) h1 h5).2,tail h1 h6 ?_⟩;exact⟨h2,by show FrR S ⟨.unk,q1.SA 0,0,0⟩;rw[h3];exact⟨xl _,fun _ _ _=>rfl⟩,fun _=>⟨⟨hw.symm,hgk⟩,fun h=>absurd (show eb=i7 from h) (by simp),fun _=>⟨rfl,h3⟩,rfl⟩,fun p hp=>(nopan h4 (qhm hq) p hp).elim⟩

def qb3(o:o8)(acc:Lz Nat):Nat:=o.after.toList.foldl (fun s e=>cond (mu .any e) (s ||| 2 ^ e.on ||| acc.getD e.on 0) s) 0
def befs:Lz o8->Lz Nat->Lz Nat
 | [],acc=>acc
 | o::l,acc=>befs l (acc++[qb3 o acc])
theorem zjo{o:o8}{acc:Lz Nat}{j:Nat}(h:(qb3 o acc).testBit j=i7):∃e,e∈o.after/\mu .any e=i7/\(j=e.on\/(acc.getD e.on 0).testBit j=i7):=by
 have:∀(l:Lz Edge) (s:Nat),(l.foldl (fun s e=>cond (mu .any e) (s ||| 2 ^ e.on ||| acc.getD e.on 0) s) s).testBit j=i7->s.testBit j=i7\/∃e,e∈l/\mu .any e=i7/\(j=e.on\/(acc.getD e.on 0).testBit j=i7):=by
  intro l;induction l with
  | nil=>intro s h;exact .inl h
  | cons e l ih =>
   grind
 rcases this _ _ h with h|⟨e,b,a⟩
 ·grind
 ·grind
theorem q65:∀(l:Lz o8) (acc:Lz Nat),(∀i,i<acc.length->(befs l acc).getD i 0=acc.getD i 0)/\(befs l acc).length=acc.length+l.length /\
  ∀i o,l[i]?=iz o->(befs l acc).getD (acc.length+i) 0=qb3 o ((befs l acc).take (acc.length+i))
 | [],acc=>⟨fun _ _=>rfl,by simp[befs],fun i o h=>by simp at h⟩
 | o::l,acc=>by
  obtain⟨h1,h2,h3⟩:=q65 l (acc++[qb3 o acc]);unfold befs;have hl:(acc++[qb3 o acc]).length=acc.length+1:=by simp
  refine⟨fun i hi=>?_,by rw[h2,hl];simp;omega,fun i o' ho=>?_⟩
  ·grind
  ·cases i with
   | zero =>
    simp only[xo,pj] at ho;subst ho;rw[g8,h1 acc.length (by omega)];have e:(befs l (acc++[qb3 o acc])).take acc.length=acc:=by
     apply d9;intro i;rw[gb];by_cases hi:i<acc.length
     ·rw[xx hi];have:=h1 i (by omega)
      grind
     ·grind
    grind
   | succ i =>
    grind
def qiy(ops:Lz o8):Bool :=
 (ops.zipIdx.all fun p=>p.1.after.toList.all fun e=>!mu .any e||oo e.on p.2) &&
 (ops.zipIdx.all fun p=>ops.zipIdx.all fun q=>!oo q.2 p.2||((befs ops []).getD p.2 0).testBit q.2||q.1.apart ops.toArray p.1)
def qcw(b rd wf:Nat):Lz (Nat × Nat)->Nat->Bool
 | [],_=>i7
 | x::l,i=>cond (b.testBit i) (qcw b rd wf l (i+1)) (od (x.2 &&& (rd ||| wf)) 0&&od (x.1 &&& wf) 0&&qcw b rd wf l (i+1))
theorem q70{a b:Nat}(h:a &&& b=0)(i:Nat)(ha:a.testBit i=i7):b.testBit i=eb:=by
 have:(a &&& b).testBit i=eb:=by rw[h];simp
 grind
theorem q9i{b rd wf:Nat}:∀{l:Lz (Nat × Nat)} {k:Nat},qcw b rd wf l k=i7->∀i x,l[i]?=iz x->b.testBit (k+i)=eb->(x.2 &&& (rd ||| wf)=0)/\(x.1 &&& wf=0)
 | [],k,h,i,x,hx,hb=>by simp at hx
 | y::l,k,h,i,x,hx,hb=>by
  unfold qcw at h;have hrest:qcw b rd wf l (k+1)=i7:=by
   grind
  cases i with
  | zero =>
   simp only[xo,pj] at hx;subst hx;rw[g8] at hb;rw[hb,xe] at h;simp only[xf] at h;exact⟨xg h.1.1,xg h.1.2⟩
  | succ i=>exact q9i hrest i x (by simpa using hx) (by rw[show k+1+i=k+(i+1) by omega];exact hb)
def s9(n n':Nat):Nat:=2 ^ n'-2 ^ n
def q1p(l:Lz Rec)(S:IS):IS:=match l with|[]=>S|q::_=>q.S
def ichk:Lz Rec->IS->Lz Nat->Lz (Nat × Nat)->Bool
 | [],_,_,_=>i7
 | r::l,S,bs,acc =>
  let n':=(q1p l S).next
  let wf:=r.wr ||| s9 r.S.next n'
  og r.S.next n'&&oo r.rd (2 ^ r.S.next)&&oo r.wr (2 ^ r.S.next)&&qcw (bs.headD 0) r.rd wf acc 0&&ichk l S bs.tail (acc++[(r.rd,wf)])
end
end Go.Jx
end

noncomputable section
namespace Go.Jx
open Go Go.Sx Go.RowKit
universe u

theorem zqh{n n':Nat}(h:n<=n')(id:Nat):(s9 n n').testBit id=i7↔n<=id/\id<n':=by
 unfold s9;have e:2 ^ n'-2 ^ n=2 ^ n*(2 ^ (n'-n)-1):=by
  rw[Nat.mul_sub,Nat.mul_one,<- Nat.pow_add,show n+(n'-n)=n' by omega]
 grind
theorem q45{x n id:Nat}(hx:x<2 ^ n)(h:x.testBit id=i7):id<n:=by
 rcases dm id n with h'|h'
 ·grind
 ·have:=Nat.testBit_lt_two_pow (pz hx (Nat.pow_le_pow_right (by omega) h'))
  grind
def sA(rs:Lz Rec)(S:IS)(i:Nat):IS:=match rs[i]? with|some r=>r.S|none=>S
def wfA(rs:Lz Rec)(S:IS)(i:Nat):Nat:=match rs[i]? with|some r=>r.wr ||| s9 r.S.next (sA rs S (i+1)).next|none=>0
theorem qiv:∀{rs:Lz Rec} {S:IS} {bs:Lz Nat} {acc:Lz (Nat × Nat)},ichk rs S bs acc=i7->∀(i:Nat) (r:Rec),rs[i]?=iz r ->
  (r.S.next<=(sA rs S (i+1)).next/\r.rd<2 ^ r.S.next/\r.wr<2 ^ r.S.next) /\
  (∀m x,acc[m]?=iz x->(bs.getD i 0).testBit m=eb->x.2 &&& (r.rd ||| wfA rs S i)=0/\x.1 &&& wfA rs S i=0) /\
  (∀k q,k<i->rs[k]?=iz q->(bs.getD i 0).testBit (acc.length+k)=eb->wfA rs S k &&& (r.rd ||| wfA rs S i)=0/\q.rd &&& wfA rs S i=0)
 | [],S,bs,acc,h,i,r,hr=>by simp at hr
 | r0::l,S,bs,acc,h,i,r,hr=>by
  have hs1:sA (r0::l) S 1=q1p l S:=by cases l<;>rfl
  unfold ichk at h;simp only[xf] at h;rw[<- hs1] at h;obtain⟨⟨⟨⟨h1,h2⟩,h3⟩,h4⟩,h5⟩:=h;have hw0:wfA (r0::l) S 0=r0.wr ||| s9 r0.S.next (sA (r0::l) S 1).next:=rfl
  have hwS:∀i,wfA (r0::l) S (i+1)=wfA l S i:=fun i=>rfl;cases i with
  | zero =>
   simp only[xo,pj] at hr;subst hr;refine⟨⟨xk h1,by simpa using h2,by simpa using h3⟩,fun m x hx hb=>?_,fun k q hk=>absurd hk (by omega)⟩;have:=q9i h4 m x hx (by rw[x6];cases bs with|nil=>simp|cons b bs=>simpa [List.headD] using hb)
   grind
  | succ i =>
   have hr':l[i]?=iz r:=by simpa using hr
   obtain⟨k1,k2,k3⟩:=qiv h5 i r hr';have hbs:bs.tail.getD i 0=bs.getD (i+1) 0:=by cases bs<;>simp
   rw[hbs] at k2 k3;refine⟨k1,fun m x hx hb=>?_,fun k q hk hq hb=>?_⟩
   ·grind
   ·rw[hwS];cases k with
    | zero =>
     simp only[xo,pj] at hq;subst hq;rw[hw0];exact k2 acc.length (r0.rd,_) (by simp) (by simpa using hb)
    | succ k =>
     rw[hwS];exact k3 k q (by omega) (by simpa using hq) (by rw[show (acc++[(r0.rd,r0.wr ||| s9 r0.S.next (sA (r0::l) S 1).next)]).length+k=acc.length+(k+1) by simp;omega];exact hb)
def orRd:Lz Rec->Nat
 | []=>0
 | r::l=>r.rd ||| orRd l
def orWr:Lz Rec->Nat
 | []=>0
 | r::l=>r.wr ||| orWr l
theorem qrz{T:Nat->Prop}:∀{rs:Lz Rec},tin T (orRd rs)->∀(i:Nat) (r:Rec),rs[i]?=iz r->tin T r.rd
 | [],h,i,r,hr=>by simp at hr
 | r0::l,h,i,r,hr=>by
  obtain⟨h1,h2⟩:=zp h;cases i with
  | zero=>simp only[xo,pj] at hr;subst hr;exact h1
  | succ i=>exact qrz h2 i r (by simpa using hr)
theorem qo5{T:Nat->Prop}:∀{rs:Lz Rec},tin T (orWr rs)->∀(i:Nat) (r:Rec),rs[i]?=iz r->tin T r.wr
 | [],h,i,r,hr=>by simp at hr
 | r0::l,h,i,r,hr=>by
  obtain⟨h1,h2⟩:=zp h;cases i with
  | zero=>simp only[xo,pj] at hr;subst hr;exact h1
  | succ i=>exact qo5 h2 i r (by simpa using hr)
def qax(m:Nat):Nat->IS->IS
 | 0,S=>S
 | k+1,S=>qax m k (cond (m.testBit k) (S.set k .dead) S)
def kill(m:Nat)(S:IS):IS:=qax m S.next S
theorem qtq(m:Nat):∀(k:Nat) (S:IS),(qax m k S).next=S.next/\∀id,(qax m k S).H id=if id<k/\m.testBit id=i7 then iz .dead else S.H id
 | 0,S=>⟨rfl,fun id=>by rw[xr (fun h=>absurd h.1 (Nat.not_lt_zero _))];rfl⟩
 | k+1,S=>by
  obtain⟨h1,h2⟩:=qtq m k (cond (m.testBit k) (S.set k .dead) S);have hn:(cond (m.testBit k) (S.set k .dead) S).next=S.next:=by cases m.testBit k<;>rfl
  refine⟨h1.trans hn,fun id=>?_⟩;show (qax m k _).H id=_;rw[h2];by_cases ha:id<k/\m.testBit id=i7
  ·grind
  ·rw[xr ha];by_cases hb:id<k+1/\m.testBit id=i7
   ·have e:id=k:=by
     grind
    rw[xx hb,<- e,hb.2,xa,IS.H_set,zj]
   ·rw[xr hb];cases hk:m.testBit k with
    | false=>rfl
    | true =>
     rw[xa,IS.H_set,up_ne]
     grind
theorem qf6(m:Nat)(S:IS):(kill m S).next=S.next:=(qtq m _ S).1
theorem sx(m:Nat)(S:IS)(id:Nat):(kill m S).H id=if id<S.next/\m.testBit id=i7 then iz .dead else S.H id:=(qtq m _ S).2 id
theorem q06:∀(k:Nat) (S:IS),qax 0 k S=S
 | 0,S=>rfl
 | k+1,S=>by
  show qax 0 k (cond (Nat.testBit 0 k) _ _)=S;rw[Nat.zero_testBit,xe];exact q06 k S
theorem zt0(S:IS):kill 0 S=S:=q06 _ S
theorem kill_post{T:TW}{W:Nat->Prop}{E0 E:Env}{S:IS}{H':Heap}{m:Nat}(p:Pre T E0 S)(hW:∀id,W id->T.w id)(hm:∀id,W id->E0.A id->m.testBit id=i7)(st:Stp W E0 S.H E H') :
  Post T E0 S (E0.at_ E.w) (kill m S)/\Fresh E0 S (E0.at_ E.w):=by
 have l:∀b,b<E0.w.heap.size->b ∉ E0.m->E.w.heap[b]?=E0.w.heap[b]?:=fun b c k=>st.same b c fun id f a q e=>k (e▸p.st.own id (T.sub _ (hW id f)) a q);have y:E0.Le (E0.at_ E.w):=⟨fun id h=>⟨h,rfl,rfl,rfl,rfl⟩,⟨fun b c k=>⟨k,l b c k⟩⟩⟩;have C:∀id,E0.A id->∀o,(kill m S).H id=iz o->o.live=i7->m.testBit id=eb/\S.H id=iz o:=fun id a o d g=>by
  rw[sx] at d;by_cases h:id<S.next/\m.testBit id=i7
  ·rw[xx h] at d;cases d;cases g
  ·rw[xr h] at d;refine⟨?_,d⟩;cases c:m.testBit id with
   | false=>rfl
   | true=>exact absurd ⟨p.bnd id a,c⟩ h
 have q:∀id,E0.A id->Live (E0.at_ E.w) (kill m S).H id->Live E0 S.H id:=fun id a ⟨J,o,D,v⟩=>⟨J,o,(C id a o D v).2,v⟩;have n:∀id,T.r id->E0.A id->∀o,(kill m S).H id=iz o->o.live=i7->E0.hb id=i7->E.w.heap[E0.ρ id]?=E0.w.heap[E0.ρ id]?:=fun id f a o d g c=>by
  obtain⟨D,v⟩:=C id a o d g;have t:Live E0 S.H id:=⟨c,o,v,g⟩;refine st.same _ (p.st.lo _ (p.st.own id f a t)) fun s x B z e=>?_;have:=p.st.inj s id (T.sub _ (hW s x)) f B a z t e
  grind
 refine⟨⟨⟨fun id f a o d=>?_,fun id f a o d c=>?_,fun id f a g=>p.st.own id f a (q id a g),fun i j O N G F M L K=>p.st.inj i j O N G F (q i G M) (q j F L) K,fun b c=>pz (p.st.lo b c) st.size⟩,?_,fun id h=>by rw[qf6];exact p.bnd id h,by rw[qf6];exact xl _⟩,⟨fun id h k=>absurd h k⟩⟩
 ·by_cases u:id<S.next/\m.testBit id=i7
  ·have e:(kill m S).H id=iz .dead:=by rw[sx,xx u]
   rw[e] at d;cases d;trivial
  ·have e:S.H id=iz o:=by rw[sx,xr u] at d;exact d
   refine OR.mv y ⟨rfl,rfl,rfl,rfl⟩ (p.st.blk id f a o e) (fun g c=>?_) (p.st.objs id f a o e);exact n id f a o d g c
 ·by_cases u:id<S.next/\m.testBit id=i7
  ·have e:(kill m S).H id=iz .dead:=by rw[sx,xx u]
   rw[e] at d;cases d;cases c
  ·have e:S.H id=iz o:=by rw[sx,xr u] at d;exact d
   exact p.st.blk id f a o e c
 ·exact⟨st.os,st.tape,st.output,st.size,fun b c h=>st.same b c fun id I a g e=>h id (hW id I) a g e,fun id h=>⟨h,rfl,rfl,rfl,rfl⟩,fun id h k=>absurd h k,fun id f a g=>q id a g,fun b c=>.inl c,fun b c _=>.inl c⟩
def iany(P:om)(tt:Nat->Oq TI)(nt:Nat)(cl:Cl)(ops:Lz o8)(fr:PT IV)(S:IS):Oq FRes :=
 match qr P tt nt cl ops (befs ops []) ops 0 i6 fr S with
 | none=>i6
 | some q=>cond (ichk q.l q.S (befs ops []) []) (match q.pn with
  | none=>iz ⟨q.fr,q.S,orRd q.l,orWr q.l,i6⟩
  | some x=>iz ⟨.leaf,kill (orWr q.l) S,orRd q.l,orWr q.l,iz x.2⟩) i6
section
variable {P : om} {tt : Nat -> Oq TI} {T : TW} {E : Env} {S : IS} {nt : Nat} {fr : PT IV} {a : Act} {cl : Cl} {F : Fence} {Q : Exit -> Act -> oh -> Prop}
theorem qwo{α:Type u}{l:Lz α}{i:Nat}{x:α}(h:l[i]?=iz x):(x,i)∈l.zipIdx:=by
 grind
theorem zl4{ops:Lz o8}{q:Recs}(hfr:ClFr cl)(hok:qiy ops=i7)(h:qr P tt nt cl ops (befs ops []) ops 0 i6 fr S=iz q)(hc:ichk q.l q.S (befs ops []) []=i7) :
  Reg P tt nt cl ops q.frA q.SA q.vA q.rdA q.wrA q.runA (fun i=>(befs ops []).getD i 0) (fun i id=>(q.wrA i).testBit id||(og (q.SA i).next id&&oo id (q.SA (i+1)).next)) (okB (befs ops []) q.pn):=by
 obtain⟨K,ε,δ,γ,β,D⟩:=qcl hfr h (fun _ h=>by cases h);obtain⟨κ,ι,α⟩:=q65 ops [];have ζ:∀i,sA q.l q.S i=q.SA i:=fun i=>rfl;have a:∀i,i<ops.length->∃r,q.l[i]?=iz r:=fun i c=>⟨_,xc (by rw[K];exact c)⟩;have k:∀{i r},q.l[i]?=iz r->q.SA i=r.S/\q.rdA i=r.rd/\q.wrA i=r.wr:=fun h=>by
  simp[Recs.SA,Recs.rdA,Recs.wrA,h]
 have d:∀i,i<ops.length->(q.SA i).next<=(q.SA (i+1)).next:=fun i c=>by
  obtain⟨r,n⟩:=a i c;obtain⟨⟨R,H,G⟩,_⟩:=qiv hc i r n
  grind
 have g:∀i,i<ops.length->∀id,(q.rdA i).testBit id=i7\/(q.wrA i).testBit id=i7->id<(q.SA i).next:=fun i c id hb=>by
  obtain⟨r,n⟩:=a i c;obtain⟨⟨R,H,G⟩,_⟩:=qiv hc i r n;obtain⟨s,t,e3⟩:=k n;rw[t,e3] at hb;rw[s];rcases hb with hb|hb
  ·exact q45 H hb
  ·exact q45 G hb
 have m:∀i id,i<ops.length->(((q.wrA i).testBit id||(og (q.SA i).next id&&oo id (q.SA (i+1)).next))=i7↔(q.wrA i).testBit id=i7\/((q.SA i).next<=id/\id<(q.SA (i+1)).next)):=fun i id c=>by
  simp
 have u:∀i id,i<ops.length->(((q.wrA i).testBit id||(og (q.SA i).next id&&oo id (q.SA (i+1)).next))=i7↔(wfA q.l q.S i).testBit id=i7):=fun i id c=>by
  obtain⟨r,n⟩:=a i c;obtain⟨s,t,e3⟩:=k n;rw[m i id c];have:wfA q.l q.S i=r.wr ||| s9 r.S.next (q.SA (i+1)).next:=by simp only[wfA,n];rfl
  rw[this,dq,jbi,e3,s];have I:=d i c;rw[s] at I;rw[zqh I]
 simp only[qiy,xf] at hok;refine⟨fun i o p U=>(D i o p).step (by rw[x6];exact U),fun i o p=>(D i o p).put,d,g,m,fun i o p e W hb=>?_,fun i o j p hb=>?_,fun i j O N B E x hb=>?_,fun i c id b T=>?_⟩
 ·have f:=(xz.1 hok.1) (o,i) (qwo p);have C:=(xz.1 f) e (by simpa using W);simp only[hb,gd,Bool.false_or] at C;simpa using C
 ·have f:=α i o p;simp only[rh,x6] at f;rw[f] at hb;obtain⟨e,s,t,e3⟩:=zjo hb;refine⟨e,s,t,?_⟩;rcases e3 with e3|e3
  ·exact .inl e3
  ·right;simp only[xn,gb] at e3 ⊢;split at e3
   ·exact e3
   ·simp at e3
 ·have z:j<ops.length:=(x9.1 x).1;have A:i<ops.length:=by omega
  refine⟨?_,?_⟩
  ·have f:=(xz.1 hok.2) (N,j) (qwo x);have C:=(xz.1 f) (O,i) (qwo E);have F:oo i j=i7:=by simpa using B
   simp only[F,gd,Bool.false_or,hb] at C;exact C
  ·obtain⟨L,v⟩:=a j z;obtain⟨_,_,Q⟩:=qiv hc j L v;obtain⟨M,w⟩:=a i A;obtain⟨s,t,e3⟩:=k v;obtain⟨θ,X,η⟩:=k w;obtain⟨Z,Y⟩:=Q i M B w (by simpa using hb);have y:∀id,(wfA q.l q.S j).testBit id=eb->((q.wrA j).testBit id||(og (q.SA j).next id&&oo id (q.SA (j+1)).next))=eb:=fun id J=>by
    cases V:((q.wrA j).testBit id||(og (q.SA j).next id&&oo id (q.SA (j+1)).next)) with
    | false=>rfl
    | true=>rw[(u j id z).1 V] at J;cases J
   refine⟨fun id b=>?_,fun id b=>?_⟩
   ·have f:=q70 Z id ((u i id A).1 b);rw[dq,g9] at f;exact⟨y id f.2,by rw[t];exact f.1⟩
   ·rw[X] at b;exact y id (q70 Y id b)
 ·exact(D i _ (xc c)).fra.2 id b T
theorem zbj{ops:Lz o8}{rid:Nat}{q:FRes}(hm:P.follows .mixedOrders=i7)(hF:F.plain=ox)(hcl:ClOK P cl)(hfr:ClFr cl)(htt:TT P tt)(hok:qiy ops=i7)(p:Pre T E S)(hf:FR E nt fr a.tmps)(h:iany P tt nt cl ops fr S=iz q)(hrd:tin T.r q.rd)(hwr:tin T.w q.wr)
  (hQ:∀E' a' x,PanR E' q.p x->FR E' nt q.fr a'.tmps->a'.defers=a.defers->Post T E S E' q.S->Fresh E S E'->Q x a' E'.w):(Code.region rid ops.toArray i7).wpIn F 0 P Q a E.w:=by
 unfold iany at h;split at h
 ·cases h
 rename_i g ξ;cases δ:ichk g.l g.S (befs ops []) [] with
 | false=>rw[δ] at h;cases h
 | true =>
 rw[δ,xa] at h;have R:=zl4 hfr hok ξ δ;obtain⟨ι,θ,z,s5,υ,η⟩:=qcl hfr ξ (fun _ h=>by cases h);have s:g.frA ops.length=g.fr/\g.SA ops.length=g.S:=by
  have:g.l[ops.length]?=i6:=p6 (by rw[ι];exact xl _);simp[Recs.frA,Recs.SA,this]
 refine wpIn_region_any hm ?_;obtain⟨q1,α⟩:=Post.idle (w':={ E.w with drawn:=E.w.drawn+1 }) p ⟨rfl,rfl,rfl,xl _,fun _ _ _=>rfl⟩;have L:=q1.pre p;have U:=hf.mono (q1.env p);have f:∀i,i<ops.length->∃r,g.l[i]?=iz r/\g.rdA i=r.rd/\g.wrA i=r.wr:=fun i n=>by
  have H:i<g.l.length:=by rw[ι];exact n
  exact⟨_,xc H,by simp[Recs.rdA,H],by simp[Recs.wrA,H]⟩
 have e:(E.at_ { E.w with drawn:=E.w.drawn+1 }).w={ E.w with drawn:=E.w.drawn+1 }:=rfl;cases d:g.pn with
 | none =>
  rw[d] at h;cases h;have ζ:=R.inv_start (T:=T) (a:=a) (E0:=E.at_ { E.w with drawn:=E.w.drawn+1 }) (by rw[z];exact L) (by rw[θ];exact U);have Y:=R.any_sound (T:=T) (E0:=E.at_ { E.w with drawn:=E.w.drawn+1 }) (Q:=Q) (ds:=a.defers) (bad:=fun _=>eb) (PQ:=fun _=>False) hF hcl htt
   (fun j k b c=>by obtain⟨r,y,v,Z⟩:=f j k;rw[v] at c;exact qrz hrd j r y b c)
   (fun j k b c=>by obtain⟨r,y,v,Z⟩:=f j k;rw[Z] at c;exact qo5 hwr j r y b c)
   (by rw[z];exact p.nw) (by rw[z];exact p.bnd) (fun j k y v=>by rw[d];rfl) (fun j κ k c=>by cases c) (fun β D E' ρ a' u C=>C.elim)
   (fun _ E' a' J N I M ν μ=>by
    rw[s.1] at J;rw[s.2] at I M ν;rw[z] at M μ;have G:S.next<=g.S.next:=by
     have:=R.mono_le (pm ops.length) (xl _)
     rwa [s.2,z] at this
    have χ:Post T (E.at_ { E.w with drawn:=E.w.drawn+1 }) S E' g.S:=⟨I,M,ν,G⟩;exact hQ E' a' _ rfl J N (Post.trans p q1 α χ) (α.trans μ (xl _)))
   ops.toArray.size (fv ops.length) (fg ops.length eb) (E.at_ { E.w with drawn:=E.w.drawn+1 }) a (by simp) List.nodup_range (fun i=>by
    rw[jbs];exact⟨fun h=>⟨h,r8 _ _⟩,fun h=>h.1⟩) (by simp) (fun i o ψ n=>by
     rw[r8] at n;cases n) (fun i n=>rfl) ζ rfl
  rw[e] at Y;simpa using Y
 | some x =>
 rw[d] at h;cases h;obtain⟨B,X⟩:∃B:TW,B=⟨T.r,fun b=>(orWr g.l).testBit b=i7\/S.next<=b,fun b h=>by
  rcases h with h|h
  ·exact T.sub _ (hwr b h)
  ·exact T.sub _ (p.nw b h)⟩:=⟨_,rfl⟩
 have V:B.r=T.r:=by rw[X]
 have A:∀b,B.w b↔((orWr g.l).testBit b=i7\/S.next<=b):=fun b=>by rw[X]
 have ε:∀b,B.w b->T.w b:=fun b h=>by
  rcases(A b).1 h with h|h
  ·exact hwr b h
  ·exact p.nw b h
 have K:Pre B (E.at_ { E.w with drawn:=E.w.drawn+1 }) S:=⟨by rw[V];exact L.st,L.bnd,fun b h=>(A b).2 (.inr h),L.gl⟩;have ζ:=R.inv_start (T:=B) (a:=a) (E0:=E.at_ { E.w with drawn:=E.w.drawn+1 }) (by rw[z];exact K) (by rw[θ];exact U);have O:x.1<ops.length:=by have:=υ x d;simpa using this
 have hJ:=(η x.1 _ (xc O)).pan x.2 (by rw[x6,d]);have Y:=R.any_sound (T:=B) (E0:=E.at_ { E.w with drawn:=E.w.drawn+1 }) (Q:=Q) (ds:=a.defers) (bad:=fun i=>od i x.1) (PQ:=fun β=>β=x.2) hF hcl htt
  (fun j k b c=>by obtain⟨r,y,v,Z⟩:=f j k;rw[v] at c;rw[V];exact qrz hrd j r y b c)
  (fun j k b c=>by obtain⟨r,y,v,Z⟩:=f j k;rw[Z] at c;exact(A b).2 (.inl (qo5 (T:=fun b=>(orWr g.l).testBit b=i7) (fun _ h=>h) j r y b c)))
  (by rw[z];exact K.nw) (by rw[z];exact p.bnd)
  (fun j k y v=>by
   rw[d];have v:od j x.1=eb:=v;unfold okB;simp only[v,gh,jae,dt];cases c:((befs ops []).getD j 0).testBit x.1 with
   | false=>rfl
   | true=>have:=y x.1 c;simp at this)
  (fun j κ k c=>by
   have e:j=x.1:=xg c;obtain⟨J,N,I,M⟩:=(η j κ k).pan x.2 (by rw[x6,e,d]);exact⟨J,N,x.2,I,rfl,M⟩)
  (fun β D E' ρ a' u C I' J N I=>by
   subst C;obtain⟨τ,σ⟩:=kill_post (T:=T) (W:=B.w) (m:=orWr g.l) L ε (fun b φ ω=>by
    rcases(A b).1 φ with h|h
    ·exact h
    ·exact absurd (p.bnd b ω) (Nat.not_lt.2 h)) (by have:=I'.stp;rw[z] at this;exact this)
   exact hQ ((E.at_ { E.w with drawn:=E.w.drawn+1 }).at_ E'.w) ρ _ ⟨u,rfl,qeo hJ.2.2.1 I⟩ ⟨J,fun t _=>.unk _⟩ N (Post.trans p q1 α τ) (α.trans σ (xl _)))
  (fun γ=>by have:=γ x.1 O;simp at this)
  ops.toArray.size (fv ops.length) (fg ops.length eb) (E.at_ { E.w with drawn:=E.w.drawn+1 }) a (by simp) List.nodup_range (fun i=>by
   rw[jbs];exact⟨fun h=>⟨h,r8 _ _⟩,fun h=>h.1⟩) (by simp) (fun i o ψ n=>by
    rw[r8] at n;cases n) (fun i n=>by rw[r8] at n;cases n) ζ rfl
 rw[e] at Y;simpa using Y
end
end Go.Jx
end

noncomputable section
namespace Go.Jx
open Go Go.Sx Go.RowKit
universe u

structure PostB (B:Nat) (T:TW) (E:Env) (S:IS) (E':Env) (S':IS):Prop where
 st:St T.r E' S'.H
 os:E'.w.os=E.w.os
 tape:E'.w.tape=E.w.tape
 output:E'.w.output=E.w.output
 size:E.w.heap.size<=E'.w.heap.size
 same:∀b,b<E.w.heap.size->(∀id,T.w id->E.A id->Live E S.H id->E.ρ id≠b)->E'.w.heap[b]?=E.w.heap[b]?
 alw:∀id,id<B->E.A id->E'.A id/\E'.ρ id=E.ρ id/\E'.κ id=E.κ id/\E'.hd id=E.hd id/\E'.hb id=E.hb id
 new:∀id,B<=id->E'.A id->Live E' S'.H id->E.w.heap.size<=E'.ρ id\/∃j,T.w j/\E.A j/\Live E S.H j/\E'.ρ id=E.ρ j
 old:∀id,id<B->T.w id->E.A id->Live E' S'.H id->Live E S.H id
 memo:∀b∈E'.m,b∈E.m\/E.w.heap.size<=b
 mem:∀b∈E.m,b<E.w.heap.size->b∈E'.m\/∃id,T.w id/\E.A id/\Live E S.H id/\E.ρ id=b
 bnd:∀id,E'.A id->id<S'.next
 le:B<=S'.next
 fr:∀id,id<B->E'.A id->E.A id
theorem PostB.of{B:Nat}{T:TW}{E:Env}{S:IS}{E':Env}{S':IS}(hB:B<=S.next)(hT:∀id,B<=id->T.w id)(h:Post T E S E' S')(f:Fresh E S E'):PostB B T E S E' S' :=
 ⟨h.st,h.stp.os,h.stp.tape,h.stp.output,h.stp.size,h.stp.same,fun id _ a=>h.stp.alw id a,fun id d a b=>by
  by_cases c:E.A id
  ·exact .inr ⟨id,hT id d,c,h.stp.old id (hT id d) c b,(h.stp.alw id c).2.1⟩
  ·exact h.stp.new id a c b,fun id _ e a b=>h.stp.old id e a b,h.stp.memo,h.stp.mem,h.bnd,py hB h.le,
  fun id d a=>ja3 fun g=>by have:=f.fr id a g;omega⟩
theorem PostB.refl{B:Nat}{T:TW}{E:Env}{S:IS}(hB:B<=S.next)(hT:∀id,B<=id->T.w id)(p:Pre T E S):PostB B T E S E S:=PostB.of hB hT (Post.refl p) (Fresh.refl E S)
theorem PostB.pre{B:Nat}{T:TW}{E E':Env}{S S':IS}(hT:∀id,B<=id->T.w id)(h:PostB B T E S E' S')(p:Pre T E S):Pre T E' S':=⟨h.st,h.bnd,fun id c=>hT id (py h.le c),p.gl.mono ⟨fun b d a=>⟨fun i=>by
  rcases h.memo b i with h1|h1
  ·exact a h1
  ·omega,h.same b d fun id hT g f e=>a (e▸p.st.own id (T.sub _ hT) g f)⟩⟩⟩
theorem PostB.trans{B:Nat}{T:TW}{E E' E'':Env}{S S' S'':IS}(h:PostB B T E S E' S')(k:PostB B T E' S' E'' S''):PostB B T E S E'' S'':=by
 have q:∀a,T.w a->E'.A a->Live E' S'.H a->E.w.heap.size<=E'.ρ a\/∃j,T.w j/\E.A j/\Live E S.H j/\E'.ρ a=E.ρ j:=fun a f c d=>by
  rcases dm a B with hb|hb
  ·have i:=h.fr a hb c;exact .inr ⟨a,f,i,h.old a hb f i d,(h.alw a hb i).2.1⟩
  ·exact h.new a hb c d
 refine⟨k.st,k.os.trans h.os,k.tape.trans h.tape,k.output.trans h.output,py h.size k.size,fun b hb p=>?_,fun a hb c=>?_,fun a hb c d=>?_,fun a hb f c d=>h.old a hb f c (k.old a hb f (h.alw a hb c).1 d),fun b hb=>?_,fun b hb g=>?_,k.bnd,k.le,fun a hb c=>h.fr a hb (k.fr a hb c)⟩
 ·refine(k.same b (pz hb h.size) fun a f c d e=>?_).trans (h.same b hb p)
  grind
 ·obtain⟨r,F,D,C,z⟩:=h.alw a hb c;obtain⟨y,x,v,u,t⟩:=k.alw a hb r
  grind
 ·rcases k.new a hb c d with h1|⟨j,o,n,m,l⟩
  ·exact .inl (py h.size h1)
  ·grind
 ·rcases k.memo b hb with h1|h1
  ·exact h.memo b h1
  ·exact .inr (py h.size h1)
 ·rcases h.mem b hb g with h1|h1
  ·rcases k.mem b h1 (pz g h.size) with s|⟨a,o,n,m,l⟩
   ·grind
   ·grind
  ·grind
theorem PostB.full{T:TW}{E:Env}{S:IS}{E':Env}{S':IS}(p:Pre T E S)(h:PostB S.next T E S E' S'):Post T E S E' S'/\Fresh E S E' :=
 ⟨⟨h.st,⟨h.os,h.tape,h.output,h.size,h.same,fun a b=>h.alw a (p.bnd a b) b,fun a b c d=>h.new a (jac fun e=>c (h.fr a e b)) b d,fun a f b d=>h.old a (p.bnd a b) f b d,h.memo,h.mem⟩,h.bnd,h.le⟩,
  ⟨fun a b c=>jac fun e=>c (h.fr a e b)⟩⟩
theorem PostB.env{B:Nat}{T:TW}{E:Env}{S:IS}{E':Env}{S':IS}(p:Pre T E S)(h:PostB B T E S E' S'):(E.bel B).Le E' :=
 ⟨fun a f=>h.alw a f.2 f.1,⟨fun b d c=>⟨fun l=>by
  rcases h.memo b l with h1|h1
  ·exact c h1
  ·have g:b<E.w.heap.size:=d;omega,h.same b d fun a i k j e=>c (e▸p.st.own a (T.sub _ i) k j)⟩⟩⟩

def bc(q:Lz Nat)(id:Nat):Oq Nat:=match q with
 | []=>i6
 | x::q=>cond (od x id) (iz 0) (match bc q id with|some k=>iz (k+1)|none=>i6)
theorem q6a:∀{q:Lz Nat} {id k:Nat},bc q id=iz k->q[k]?=iz id
 | [],id,k,h=>by cases h
 | x::q,id,k,h=>by
  unfold bc at h;cases hb:od x id with
  | true=>rw[hb,xa] at h;cases h;simp [xg hb]
  | false =>
   rw[hb,xe] at h;split at h<;>cases h;rename_i k hk;simpa using q6a hk
def ndB:Lz Nat->Bool
 | []=>i7
 | x::q=>(bc q x).isNone&&ndB q
theorem q5w:∀{q:Lz Nat} {id:Nat},bc q id=i6->id ∉ q
 | [],id,_=>by simp
 | x::q,id,h=>by
  unfold bc at h;cases hb:od x id with
  | true=>rw[hb] at h;cases h
  | false =>
   rw[hb,xe] at h;have h2:bc q id=i6:=by cases hp:bc q id<;>rw[hp] at h<;>first|rfl|cases h
   have:=q5w h2;simp only[po,not_or];exact⟨fun e=>by (rw[e,dg] at hb;cases hb),this⟩
theorem qc6:∀{q:Lz Nat},ndB q=i7->q.Nodup
 | [],_=>List.nodup_nil
 | x::q,h=>by
  simp only[ndB,xf,Option.isNone_iff_eq_none] at h;exact jbj.2 ⟨q5w h.1,qc6 h.2⟩
def nw(B:Nat)(q:Lz Nat)(id:Nat):Oq Nat:=cond (oo id B) (iz id) (match bc q id with|some k=>iz (B+k)|none=>i6)
def ol(B:Nat)(q:Lz Nat)(id:Nat):Nat:=if id<B then id else q.getD (id-B) 0
theorem quv{B:Nat}{q:Lz Nat}{id k:Nat}(h:nw B q id=iz k):ol B q k=id/\k<B+q.length:=by
 unfold nw at h;cases a:oo id B with
 | true =>
      rw[a,xa] at h;cases h;have:id<B:=by simpa using a
      exact⟨xx this,by omega⟩
 | false =>
  rw[a,xe] at h;split at h<;>cases h;rename_i j b;have c:=q6a b;have d:=(x9.1 c).1;refine⟨?_,by omega⟩;unfold ol
  grind

abbrev Fz:=Nat->Oq (Σ c:TC,Lz (El c))
def ren0(z:Fz)(B:Nat)(q:Lz Nat):IV->IV
 | .arr id=>match z id with
  | some x=>.lst x.1 x.2
  | none=>match nw B q id with|some k=>.arr k|none=>.unk
 | .aptr id s i off=>match nw B q id with|some k=>.aptr k s i off|none=>.unk
 | .sl id off len s c=>match nw B q id with|some k=>.sl k off len s c|none=>.unk
 | .ptr id off=>match nw B q id with|some k=>.ptr k off|none=>.unk
 | .map id=>match nw B q id with|some k=>.map k|none=>.unk
 | .yield id=>match nw B q id with|some k=>.yield k|none=>.unk
 | .fn f cs=>match cs with|[]=>.fn f []|_=>.unk
 | .bfn _ _=>.unk
 | .iface _ _=>.unk
 | .agg _=>.unk
 | .tup cs=>match cs with|[]=>.tup []|_=>.unk
 | v=>v
def ren1(z:Fz)(B:Nat)(q:Lz Nat):IV->IV
 | .fn f cs=>.fn f (cs.map (ren0 z B q))
 | .bfn f cs=>.bfn f (cs.map (ren0 z B q))
 | .agg cs=>.agg (cs.map (ren0 z B q))
 | .tup cs=>.tup (cs.map (ren0 z B q))
 | .iface t v=>.iface t (ren0 z B q v)
 | v=>ren0 z B q v
def ren2(z:Fz)(B:Nat)(q:Lz Nat):IV->IV
 | .fn f cs=>.fn f (cs.map (ren1 z B q))
 | .bfn f cs=>.bfn f (cs.map (ren1 z B q))
 | .agg cs=>.agg (cs.map (ren1 z B q))
 | .tup cs=>.tup (cs.map (ren1 z B q))
 | .iface t v=>.iface t (ren1 z B q v)
 | v=>ren0 z B q v
def renE(B:Nat)(q:Lz Nat)(E:Env):Env:=⟨fun id=>E.ρ (ol B q id),fun id=>E.κ (ol B q id),fun id=>E.hd (ol B q id),fun id=>E.hb (ol B q id),fun id=>id<B+q.length/\E.A (ol B q id),E.m,E.w⟩
section
variable {E : Env} {B : Nat} {q : Lz Nat}
theorem qby:∀(c:TC) (x:El c) (v:IV),v∈cel c x->(∃k n,v=.int k n)\/(∃b,v=.bool b)\/(∃s,v=.str s)\/(∃c l,v=.lst c l)\/(∃c x o,v=.eptr c x o)
 | .int k,n,v,h=>.inl ⟨k,n,by simpa [cel] using h⟩
 | .bool,b,v,h=>.inr (.inl ⟨b,by simpa [cel] using h⟩)
 | .str,s,v,h=>.inr (.inr (.inl ⟨s,by simpa [cel] using h⟩))
 | .list c,l,v,h=>.inr (.inr (.inr (.inl ⟨c,l,by simpa [cel] using h⟩)))
 | .rl k,l,v,h=>.inr (.inr (.inr (.inl ⟨rcC k,l.map (un k),by simpa [cel] using h⟩)))
 | .two a b,x,v,h=>by
  simp only[cel,p4] at h;rcases h with h|h
  ·exact qby a x.1 v h
  ·exact qby b x.2 v h
theorem VR.noid{E':Env}(hm:∀b,b∈E'.m->b∈E.m)(hw:E'.w=E.w){v:IV}{u:oc}(h:VR E v u):(∀c (l:Lz (El c)),v=.lst c l->VR E' v u)/\(∀c x o,v=.eptr c x o->VR E' v u)/\(∀c (x:El c),v∈cel c x->VR E' v u):=by
 have a:∀{v:IV} {u:oc},VR E v u->(∃k n,v=.int k n)\/(∃b,v=.bool b)\/(∃s,v=.str s)\/(∃c l,v=.lst c l)\/(∃c x o,v=.eptr c x o)->VR E' v u:=by
  intro v u h;induction h with
  | bool b=>intro _;exact .bool b
  | int k n h=>intro _;exact .int k n h
  | str s h=>intro _;exact .str s h
  | lst0 h=>intro _;exact .lst0 h
  | lst us h1 h2 h3 hb hh hc hu ih =>
   intro _;refine .lst us h1 h2 h3 (fun h=>hb (hm _ h)) (by rw[hw];exact hh) hc fun i f j d=>ih i f j d ?_;exact qby _ _ _ (p5 d)
  | eptr us hb hh hc hu ih =>
   intro _;exact .eptr us (fun h=>hb (hm _ h)) (by rw[hw];exact hh) hc fun j d=>ih j d (qby _ _ _ (p5 d))
  | _=>rintro(⟨_,_,h⟩|⟨_,h⟩|⟨_,h⟩|⟨_,_,h⟩|⟨_,_,_,h⟩)<;>cases h
 exact⟨fun c l e=>a h (.inr (.inr (.inr (.inl ⟨c,l,e⟩)))),fun c x o e=>a h (.inr (.inr (.inr (.inr ⟨c,x,o,e⟩)))),fun c x hm=>a h (qby c x v hm)⟩
def FzOK(E:Env)(z:Fz):Prop:=∀id x,z id=iz x->E.A id->VR E (.lst x.1 x.2) (E.hd id)
variable {z : Fz}
theorem tp(hz:FzOK E z){v:IV}{u:oc}(h:VR E v u):VR (renE B q E) (ren0 z B q v) u:=by
 have l:∀{id k:Nat},nw B q id=iz k->E.A id->(renE B q E).A k/\(renE B q E).ρ k=E.ρ id/\(renE B q E).κ k=E.κ id/\(renE B q E).hd k=E.hd id:=fun w a=>by
   obtain⟨g,r⟩:=quv w;exact⟨⟨r,by rw[g];exact a⟩,by simp only[renE,g],by simp only[renE,g],by simp only[renE,g]⟩
 have p:=VR.noid (E:=E) (E':=renE B q E) (fun _ h=>h) rfl h;cases h with
 | unk u=>exact .unk u
 | bool b=>exact .bool b
 | int k n h=>exact .int k n h
 | str s h=>exact .str s h
 | lst0 h=>exact .lst0 h
 | lst o g r h3 hb hh hc hu=>exact p.1 _ _ rfl
 | eptr o hb hh hc hu=>exact p.2.1 _ _ _ rfl
 | arr a hh =>
   simp only[ren0];split
   · rename_i x t;have:=hz _ x t a;rw[hh] at this;exact(VR.noid (E:=E) (E':=renE B q E) (fun _ h=>h) rfl this).1 _ _ rfl
   · split
     · rename_i k c;obtain⟨d,e,j,m⟩:=l c a;exact .arr d (m.trans hh)
     · exact .unk _
 | aptr a =>
   simp only[ren0];split
   · rename_i k c;obtain⟨d,e,j,m⟩:=l c a;rw[<- e];exact .aptr d
   · exact .unk _
 | nilsl=>exact .nilsl
 | sl cap a g r h3 h4 h5 =>
   simp only[ren0];split
   · rename_i k c;obtain⟨d,e,j,m⟩:=l c a;rw[<- e];exact .sl cap d g r (by rw[j];exact h3) h4 (by rw[j];exact h5)
   · exact .unk _
 | nilptr=>exact .nilptr
 | gp hg=>exact .gp hg
 | ptr a =>
   simp only[ren0];split
   · rename_i k c;obtain⟨d,e,j,m⟩:=l c a;rw[<- e];exact .ptr d
   · exact .unk _
 | nilmap=>exact .nilmap
 | map a =>
   simp only[ren0];split
   · rename_i k c;obtain⟨d,e,j,m⟩:=l c a;rw[<- e];exact .map d
   · exact .unk _
 | nilfn=>exact .nilfn
 | fn hl hh =>
   rename_i f cs o;cases cs with
   | nil =>
            have:o=[]:=by simpa using hl.symm
            subst this;exact .fn (cs:=[]) rfl (fun i h=>by simp at h)
   | cons _ _=>exact .unk _
 | bfn hl hh=>exact .unk _
 | yield a =>
   simp only[ren0];split
   · rename_i k c;obtain⟨d,e,j,m⟩:=l c a;rw[<- e];exact .yield d
   · exact .unk _
 | nili=>exact .nili
 | iface h=>exact .unk _
 | agg hl hh=>exact .unk _
 | tup hl hh =>
   rename_i cs o;cases cs with
   | nil =>
            have:o=[]:=by simpa using hl.symm
            subst this;exact .tup (cs:=[]) rfl (fun i h=>by simp at h)
   | cons _ _=>exact .unk _
theorem yn{f:IV->IV}(hf:∀{v u},VR E v u->VR (renE B q E) (f v) u){cs:Lz IV}{us:Lz oc}(h:VRs E cs us):VRs (renE B q E) (cs.map f) us :=
 ⟨by simp[h.1],fun i a b=>by simp only[de];exact hf (h.2 i (by simpa using a) b)⟩
theorem qdk(hz:FzOK E z){v:IV}{u:oc}(h:VR E v u):VR (renE B q E) (ren1 z B q v) u:=by
 cases v<;>try exact tp hz h
 ·cases h with
  | fn hl hh=>have:=yn (B:=B) (q:=q) (tp hz) ⟨hl,hh⟩;exact .fn this.1 this.2
 ·cases h with
  | bfn hl hh=>have:=yn (B:=B) (q:=q) (tp hz) ⟨hl,hh⟩;exact .bfn this.1 this.2
 ·cases h with
  | iface h=>exact .iface (tp hz h)
 ·cases h with
  | agg hl hh=>have:=yn (B:=B) (q:=q) (tp hz) ⟨hl,hh⟩;exact .agg this.1 this.2
 ·cases h with
  | tup hl hh=>have:=yn (B:=B) (q:=q) (tp hz) ⟨hl,hh⟩;exact .tup this.1 this.2
theorem qg4(hz:FzOK E z){v:IV}{u:oc}(h:VR E v u):VR (renE B q E) (ren2 z B q v) u:=by
 cases v<;>try exact tp hz h
 ·cases h with
  | fn hl hh=>have:=yn (B:=B) (q:=q) (qdk hz) ⟨hl,hh⟩;exact .fn this.1 this.2
 ·cases h with
  | bfn hl hh=>have:=yn (B:=B) (q:=q) (qdk hz) ⟨hl,hh⟩;exact .bfn this.1 this.2
 ·cases h with
  | iface h=>exact .iface (qdk hz h)
 ·cases h with
  | agg hl hh=>have:=yn (B:=B) (q:=q) (qdk hz) ⟨hl,hh⟩;exact .agg this.1 this.2
 ·cases h with
  | tup hl hh=>have:=yn (B:=B) (q:=q) (qdk hz) ⟨hl,hh⟩;exact .tup this.1 this.2
end
end Go.Jx
end

noncomputable section
namespace Go.Jx
open Go Go.Sx Go.RowKit
universe u

def PT.mapv{α:Type u}(f:α->α):PT α->PT α
 | .leaf=>.leaf
 | .node v l r=>.node (match v with|some x=>iz (f x)|none=>i6) (l.mapv f) (r.mapv f)
theorem PT.get_mapv{α:Type u}(f:α->α):∀(t:PT α) (n:Nat),(t.mapv f).get n=(t.get n).map f
 | .leaf,n=>rfl
 | .node v l r,n=>by
  simp only[PT.mapv,PT.get];cases hb:od n 0 with
  | true=>cases v<;>rfl
  | false =>
   cases hc:od (n % 2) 1 with
   | true=>exact PT.get_mapv f l _
   | false=>exact PT.get_mapv f r _
def PT.vals{α:Type u}:PT α->Lz α
 | .leaf=>[]
 | .node v l r=>(match v with|some x=>[x]|none=>[])++(l.vals++r.vals)
def renO(z:Fz)(B:Nat)(q:Lz Nat):IObj->IObj
 | .row cs=>.row (cs.map (ren2 z B q))
 | .map es=>.map (es.map fun e=>(ren2 z B q e.1,ren2 z B q e.2))
 | .loop st pend nt fr ps assign body D=>match nw B q D with
  | some k=>.loop st pend nt (fr.mapv (ren2 z B q)) ps assign body k
  | none=>.dead
 | .bld j=>match nw B q j with|some k=>.bld k|none=>.dead
 | o=>o
def low0(N:Nat):IV->Bool
 | .bool _=>i7
 | .int _ _=>i7
 | .str _=>i7
 | .lst _ _=>i7
 | .eptr _ _ _=>i7
 | .unk=>i7
 | .nilsl=>i7
 | .nilptr=>i7
 | .gp _=>i7
 | .nilmap=>i7
 | .nilfn=>i7
 | .nili=>i7
 | .arr id=>oo id N
 | .aptr id _ _ _=>oo id N
 | .sl id _ _ _ _=>oo id N
 | .ptr id _=>oo id N
 | .map id=>oo id N
 | .yield id=>oo id N
 | _=>eb
def low1(N:Nat):IV->Bool
 | .fn _ cs=>cs.all (low0 N)
 | .bfn _ cs=>cs.all (low0 N)
 | .agg cs=>cs.all (low0 N)
 | .tup cs=>cs.all (low0 N)
 | .iface _ v=>low0 N v
 | v=>low0 N v
def low2(N:Nat):IV->Bool
 | .fn _ cs=>cs.all (low1 N)
 | .bfn _ cs=>cs.all (low1 N)
 | .agg cs=>cs.all (low1 N)
 | .tup cs=>cs.all (low1 N)
 | .iface _ v=>low1 N v
 | v=>low0 N v
def lowO(N:Nat):IObj->Bool
 | .row cs=>cs.all (low2 N)
 | .map es=>es.all fun e=>low2 N e.1&&low2 N e.2
 | .loop _ _ _ fr _ _ _ D=>oo D N&&fr.vals.all (low2 N)
 | .bld j=>oo j N
 | _=>i7
section
variable {E E' : Env} {N : Nat}
structure LowOK (E E':Env) (N:Nat):Prop where
 alw:∀id,id<N->E.A id->E'.A id/\E'.ρ id=E.ρ id/\E'.κ id=E.κ id/\E'.hd id=E.hd id/\E'.hb id=E.hb id
 m:∀b,b∈E'.m->b∈E.m
 w:E'.w=E.w
theorem qaj(h:LowOK E E' N){v:IV}{u:oc}(hl:low0 N v=i7)(hv:VR E v u):VR E' v u:=by
 have i:=VR.noid h.m h.w hv;cases hv<;>try (cases hl;done)
 ·exact .unk _
 ·exact .bool _
 ·exact .int _ _ (by assumption)
 ·exact .str _ (by assumption)
 ·grind
 ·grind
 ·grind
 ·rename_i a j;obtain⟨b,c,d,e,f⟩:=h.alw _ (by simpa [low0] using hl) a;exact .arr b (e.trans j)
 ·rename_i a;obtain⟨b,c,d,e,f⟩:=h.alw _ (by simpa [low0] using hl) a;rw[<- c];exact .aptr b
 ·exact .nilsl
 ·rename_i g a p o n l k;obtain⟨b,c,d,e,f⟩:=h.alw _ (by simpa [low0] using hl) a;rw[<- c];exact .sl g b p o (by rw[d];exact n) l (by rw[d];exact k)
 ·exact .nilptr
 ·exact .gp (by assumption)
 ·rename_i a;obtain⟨b,c,d,e,f⟩:=h.alw _ (by simpa [low0] using hl) a;rw[<- c];exact .ptr b
 ·exact .nilmap
 ·rename_i a;obtain⟨b,c,d,e,f⟩:=h.alw _ (by simpa [low0] using hl) a;rw[<- c];exact .map b
 ·exact .nilfn
 ·rename_i a;obtain⟨b,c,d,e,f⟩:=h.alw _ (by simpa [low0] using hl) a;rw[<- c];exact .yield b
 ·exact .nili
theorem w6{f:IV->Bool}(hf:∀{v u},f v=i7->VR E v u->VR E' v u){cs:Lz IV}{us:Lz oc}(hl:cs.all f=i7)(h:VRs E cs us):VRs E' cs us :=
 ⟨h.1,fun i a b=>hf ((xz.1 hl) _ (p5 a)) (h.2 i a b)⟩
theorem qdz(h:LowOK E E' N){v:IV}{u:oc}(hl:low1 N v=i7)(hv:VR E v u):VR E' v u:=by
 cases v<;>try exact qaj h hl hv
 ·cases hv with
  | fn hl' hh=>have:=w6 (qaj h) hl ⟨hl',hh⟩;exact .fn this.1 this.2
 ·cases hv with
  | bfn hl' hh=>have:=w6 (qaj h) hl ⟨hl',hh⟩;exact .bfn this.1 this.2
 ·cases hv with
  | iface hv=>exact .iface (qaj h hl hv)
 ·cases hv with
  | agg hl' hh=>have:=w6 (qaj h) hl ⟨hl',hh⟩;exact .agg this.1 this.2
 ·cases hv with
  | tup hl' hh=>have:=w6 (qaj h) hl ⟨hl',hh⟩;exact .tup this.1 this.2
theorem tg(h:LowOK E E' N){v:IV}{u:oc}(hl:low2 N v=i7)(hv:VR E v u):VR E' v u:=by
 cases v<;>try exact qaj h hl hv
 ·cases hv with
  | fn hl' hh=>have:=w6 (qdz h) hl ⟨hl',hh⟩;exact .fn this.1 this.2
 ·cases hv with
  | bfn hl' hh=>have:=w6 (qdz h) hl ⟨hl',hh⟩;exact .bfn this.1 this.2
 ·cases hv with
  | iface hv=>exact .iface (qdz h hl hv)
 ·cases hv with
  | agg hl' hh=>have:=w6 (qdz h) hl ⟨hl',hh⟩;exact .agg this.1 this.2
 ·cases hv with
  | tup hl' hh=>have:=w6 (qdz h) hl ⟨hl',hh⟩;exact .tup this.1 this.2
theorem PT.vals_get{α:Type u}:∀{t:PT α} {n:Nat} {x:α},t.get n=iz x->x∈t.vals
 | .leaf,n,x,h=>by cases h
 | .node v l r,n,x,h=>by
  simp only[PT.get] at h;simp only[PT.vals,p4];cases hb:od n 0 with
  | true=>rw[hb,xa] at h;subst h;exact .inl (by simp)
  | false =>
   rw[hb,xe] at h;cases hc:od (n % 2) 1 with
   | true=>rw[hc,xa] at h;exact .inr (.inl (PT.vals_get h))
   | false=>rw[hc,xe] at h;exact .inr (.inr (PT.vals_get h))
theorem zmc(h:LowOK E E' N){id:Nat}{o:IObj}(hid:id<N)(hA:E.A id)(hl:lowO N o=i7)(ho:OR E id o):OR E' id o:=by
 obtain⟨Z,k,Y,P,O⟩:=h.alw id hid hA;have U:∀{c:TC} {l:Lz (El c)} {cells:Array oc},ARel E c l cells->ARel E' c l cells:=fun ⟨Q,d,b⟩=>⟨Q,d,fun i T j J=>(VR.noid h.m h.w (b i T j J)).2.2 _ _ (p5 J)⟩;cases o with
 | dead=>trivial
 | row cs=>obtain⟨cells,t,d,b,f,n⟩:=ho;exact⟨cells,t,by rw[k,h.w];exact d,by rw[Y];exact b,f,w6 (tg h) hl n⟩
 | arr c l =>
  obtain⟨a,G,d,b,f,n,V⟩:=ho;exact⟨a,G,by rw[P];exact d,b,f,n,V.imp (fun⟨x,y⟩=>⟨by rw[O];exact x,y⟩) fun⟨r,u,cells,t,M,H,L⟩=>⟨by rw[O];exact r,by rw[k];exact u,cells,t,by rw[k,h.w];exact M,H,U L⟩⟩
 | frz c l=>show VR E' _ (E'.hd id);rw[P];exact(VR.noid h.m h.w ho).1 _ _ rfl
 | map es =>
  obtain⟨g,c,d,b,f,n⟩:=ho;simp only[lowO] at hl;have C:(es.map (·.1)).all (low2 N)=i7:=by
   grind
  have B:(es.map (·.2)).all (low2 N)=i7:=by
   grind
  exact⟨g,c,by rw[k,h.w];exact d,w6 (tg h) C b,w6 (tg h) B f,n⟩
 | tmap kc vc es =>
  obtain⟨g,c,d,b,f,n⟩:=ho;have I:∀(c:TC) (x:El c),low2 N (asIV c x)=i7:=fun c x=>by
   cases c<;>try rfl
   simp only[asIV,low2];rw[xz];intro y R;rcases qby _ _ _ R with ⟨_,_,e⟩|⟨_,e⟩|⟨_,e⟩|⟨_,_,e⟩|⟨_,_,_,e⟩<;>subst e<;>rfl
  refine⟨g,c,by rw[k,h.w];exact d,w6 (tg h) ?_ b,w6 (tg h) ?_ f,n⟩
  ·rw[xz];intro x z;obtain⟨e,F,rfl⟩:=dh.1 z;obtain⟨X,_,rfl⟩:=dh.1 F;exact I _ _
  ·rw[xz];intro x z;obtain⟨e,F,rfl⟩:=dh.1 z;obtain⟨X,_,rfl⟩:=dh.1 F;exact I _ _
 | iter s p=>show _/\_;rw[k,h.w];exact ho
 | defs on=>show _=_;rw[k,h.w];exact ho
 | bld j =>
  obtain⟨p,v,d,b,f⟩:=ho;cases f with
  | arr hA hh =>
   obtain⟨r,u,M,H,L⟩:=h.alw j (by simpa [lowO] using hl) hA;exact⟨p,_,by rw[k,h.w];exact d,by rw[k];exact b,.arr r (H.trans hh)⟩
 | loop st pend nt fr ps assign body D =>
  obtain⟨W,q,d,b,f⟩:=ho;simp only[lowO,xf] at hl;obtain⟨r,u,_⟩:=h.alw D (by simpa using hl.1) f;refine⟨W,q,by rw[k,h.w,u];exact d,⟨b.size,fun t S=>?_⟩,r⟩;have:=b.get t S;unfold slot at this ⊢;cases K:fr.get t with
  | none=>exact .unk _
  | some x =>
   rw[K] at this;exact tg h ((xz.1 hl.2) x (PT.vals_get K)) this
end
section
variable {E : Env} {B : Nat} {q : Lz Nat} {z : Fz}
theorem zad(hz:FzOK E z){id k:Nat}{o:IObj}(hk:ol B q k=id)(ho:OR E id o):OR (renE B q E) k (renO z B q o):=by
 have r:(renE B q E).ρ k=E.ρ id:=by simp only[renE,hk]
 have T:(renE B q E).κ k=E.κ id:=by simp only[renE,hk]
 have L:(renE B q E).hd k=E.hd id:=by simp only[renE,hk]
 have K:(renE B q E).hb k=E.hb id:=by simp only[renE,hk]
 have d:∀{v:IV} {u:oc},VR E v u->_:=fun h=>VR.noid (E:=E) (E':=renE B q E) (fun _ h=>h) rfl h;cases o with
 | dead=>trivial
 | row cs =>
  obtain⟨e,t,m,f,g,A⟩:=ho;refine⟨e,t,by rw[r];exact m,by rw[T];exact f,by simpa using g,?_⟩;rw[gt];exact yn (qg4 hz) A
 | arr c l =>
  obtain⟨a,I,m,f,g,A,R⟩:=ho;exact⟨a,I,by rw[L];exact m,f,g,A,R.imp (fun⟨x,y⟩=>⟨by rw[K];exact x,y⟩) fun⟨Z,Y,e,t,X,W,M,V,U⟩=>⟨by rw[K];exact Z,by rw[r];exact Y,e,t,by rw[r];exact X,W,M,V,fun i O j J=>(d (U i O j J)).2.2 _ _ (p5 J)⟩⟩
 | frz c l=>show VR _ _ ((renE B q E).hd k);rw[L];exact(d ho).1 _ _ rfl
 | map es =>
  obtain⟨n,c,m,f,g,A⟩:=ho;refine⟨n,c,by rw[r];exact m,?_,?_,A⟩
  ·have:=yn (B:=B) (q:=q) (qg4 hz) f;simpa [jbx,Function.comp_def] using this
  ·have:=yn (B:=B) (q:=q) (qg4 hz) g;simpa [jbx,Function.comp_def] using this
 | tmap kc vc es =>
  obtain⟨n,c,m,f,g,A⟩:=ho;have hk:∀(c:TC) (x:El c) (u:oc),VR E (asIV c x) u->VR (renE B q E) (asIV c x) u:=fun c x u h=>by
   cases c with
   | two a b =>
    cases h with
    | agg hl hh=>exact .agg hl fun i a b=>(d (hh i a b)).2.2 _ _ (p5 a)
   | int k=>exact(d h).2.2 (.int k) x (by simp[cel,asIV])
   | bool=>exact(d h).2.2 .bool x (by simp[cel,asIV])
   | str=>exact(d h).2.2 .str x (by simp[cel,asIV])
   | list c=>exact(d h).2.2 (.list c) x (by simp[cel,asIV])
   | rl k=>exact(d h).2.2 (.rl k) x (by simp[cel,asIV])
  refine⟨n,c,by rw[r];exact m,⟨f.1,fun i a b=>?_⟩,⟨g.1,fun i a b=>?_⟩,A⟩
  ·have:=f.2 i a b;simp only[tmEs,de] at this ⊢
   grind
  ·have:=g.2 i a b;simp only[tmEs,de] at this ⊢
   grind
 | iter s p=>show _/\_;rw[r];exact ho
 | defs on=>show _=_;rw[r];exact ho
 | bld j =>
  obtain⟨p,v,m,f,g⟩:=ho;simp only[renO];split
  ·rename_i G w;obtain⟨F,H⟩:=quv w;cases g with
   | arr hA hh =>
    have Q:(renE B q E).hd G=E.hd j:=by simp only[renE,F]
    exact⟨p,_,by rw[r];exact m,by rw[r];exact f,.arr ⟨H,by rw[F];exact hA⟩ (Q.trans hh)⟩
  ·trivial
 | loop st pend nt fr ps assign body D =>
  obtain⟨S,C,m,f,g⟩:=ho;simp only[renO];split
  ·rename_i G w;obtain⟨F,H⟩:=quv w;refine⟨S,C,?_,⟨f.size,fun t N=>?_⟩,⟨H,by rw[F];exact g⟩⟩
   ·rw[r];have:(renE B q E).ρ G=E.ρ D:=by simp only[renE,F]
    rw[this];exact m
   ·have:=qg4 (B:=B) (q:=q) hz (f.get t N);unfold slot at this ⊢;rw[PT.get_mapv];cases P:fr.get t with
    | none=>exact .unk _
    | some x=>rw[P] at this;exact this
  ·trivial
theorem q6y{o:IObj}(h:(renO z B q o).live=i7):o.live=i7:=by cases o<;>first|rfl|(cases h;done)
theorem qxv{o:IObj}(h:(renO z B q o).blk=i7):o.blk=i7:=by cases o<;>first|rfl|(cases h;done)

def qf2:Lz (Oq IObj)->Nat->PT IObj->PT IObj
 | [],_,t=>t
 | o::l,i,t=>qf2 l (i+1) (match o with|some x=>t.set x i|none=>t)
theorem qyz:∀(l:Lz (Oq IObj)) (i:Nat) (t:PT IObj) (k:Nat),(∀j,i<=j->t.get j=i6)->(qf2 l i t).get k=if k<i then t.get k else (l[k-i]?).join
 | [],i,t,k,h=>by
  unfold qf2
  grind
 | o::l,i,t,k,h=>by
  unfold qf2;rw[qyz l (i+1) _ k (fun j hj=>by
   cases o with
   | none=>exact h j (by omega)
   | some x=>simp only;rw[PT.get_set,xr (by omega)];exact h j (by omega))]
  by_cases hk:k<i
  ·rw[xx (by omega),xx hk];cases o with
   | none=>rfl
   | some x=>simp only;rw[PT.get_set,xr (by omega)]
  ·rw[xr hk];by_cases hk2:k=i
   ·subst hk2;rw[xx (by omega),Nat.sub_self];cases o with
    | none=>simp only;rw[h k (xl _)];rfl
    | some x=>simp only;rw[PT.get_set,xx rfl];rfl
   ·grind
def qah(z:Fz)(B:Nat)(q:Lz Nat)(o:IObj):IObj:=cond (lowO B o) o (renO z B q o)
def nrmS(z:Fz)(B:Nat)(q:Lz Nat)(S:IS):IS :=
 ⟨qf2 ((fv B).map (fun id=>match S.heap.get id with|some o=>iz (qah z B q o)|none=>i6)++q.map (fun id=>match S.heap.get id with|some o=>iz (renO z B q o)|none=>i6)) 0 .leaf,B+q.length⟩
theorem qvb{S:IS}(k:Nat):(nrmS z B q S).H k=if k<B then (match S.heap.get k with|some o=>iz (qah z B q o)|none=>i6) else if k<B+q.length then (match S.heap.get (ol B q k) with|some o=>iz (renO z B q o)|none=>i6) else i6:=by
 unfold nrmS IS.H;simp only;rw[qyz _ _ _ _ (fun j _=>rfl),xr (by omega),rz];by_cases a:k<B
 ·grind
 ·rw[xr a,pg (by simp;omega)];simp only[gt,List.length_range,ru];by_cases c:k<B+q.length
  ·rw[xx c];have b:k-B<q.length:=by omega
   have e:ol B q k=q[k-B]:=by unfold ol;rw[xr a,xn,xc b];rfl
   grind
  ·grind
theorem qys{T:TW}{S:IS}(p:Pre T E S)(hB:B<=S.next)(hT:∀id,B<=id->T.w id)(hz:FzOK E z)(hn:ndB q=i7)(hq:q.all (fun id=>og B id)=i7) :
  PostB B T E S (renE B q E) (nrmS z B q S):=by
 have I:∀id∈q,B<=id:=fun id M=>xk ((xz.1 hq) id M);have J:=qc6 hn;have t:LowOK E (renE B q E) B:=⟨fun id l O=>by
  have e:ol B q id=id:=xx l;exact⟨⟨by omega,by rw[e];exact O⟩,by simp only[renE,e],by simp only[renE,e],by simp only[renE,e],by simp only[renE,e]⟩,fun _ h=>h,rfl⟩
 have C:∀id,B<=id->id<B+q.length->B<=ol B q id:=fun id h1 h2=>by
  have h3:id-B<q.length:=by omega
  unfold ol;rw[xr (by omega),xn,xc h3];exact I _ (p5 h3)
 have F:∀i j,i<B+q.length->j<B+q.length->ol B q i=ol B q j->i=j:=fun i j M R h=>by
  rcases dm i B with h1|h1
  ·have L:ol B q i=i:=xx h1;rcases dm j B with h2|h2
   ·rwa [L,show ol B q j=j from xx h2] at h
   ·grind
  ·rcases dm j B with h2|h2
   ·have N:ol B q j=j:=xx h2
    grind
   ·have h3:i-B<q.length:=by omega
    have P:j-B<q.length:=by omega
    have L:ol B q i=q[i-B]:=by unfold ol;rw[xr (by omega),xn,xc h3];rfl
    have N:ol B q j=q[j-B]:=by unfold ol;rw[xr (by omega),xn,xc P];rfl
    rw[L,N] at h;have:=(List.getElem_inj J).1 h;omega
 have u:∀id,id<B+q.length->T.r id->T.r (ol B q id):=fun id h1 h2=>by
  rcases dm id B with h3|h3
  ·rw[show ol B q id=id from xx h3];exact h2
  ·exact T.sub _ (hT _ (C id h3 h1))
 have s:∀{id:Nat} {o:IObj},id<B+q.length->(nrmS z B q S).H id=iz o->∃m,S.H (ol B q id)=iz m/\((id<B/\o=qah z B q m)\/o=renO z B q m):=fun {id o} l h=>by
  rw[qvb] at h;by_cases h1:id<B
  ·rw[xx h1] at h;rw[show ol B q id=id from xx h1];split at h<;>cases h;rename_i m x;exact⟨m,x,.inl ⟨h1,rfl⟩⟩
  ·rw[xr h1,xx l] at h;split at h<;>cases h;rename_i m x;exact⟨m,x,.inr rfl⟩
 have g:∀id,id<B+q.length->Live (renE B q E) (nrmS z B q S).H id->Live E S.H (ol B q id):=fun id l ⟨Q,o,h1,h2⟩=>by
  obtain⟨m,A,G⟩:=s l h1;refine⟨Q,m,A,?_⟩;rcases G with ⟨_,rfl⟩|rfl
  ·unfold qah at h2;cases n:lowO B m<;>rw[n] at h2
   ·exact q6y h2
   ·exact h2
  ·exact q6y h2
 refine⟨⟨fun id y k o x=>?_,fun id y k o x n=>?_,fun id y k D=>p.st.own _ (u id k.1 y) k.2 (g id k.1 D),fun i j a b c d e f h=>F i j c.1 d.1 (p.st.inj _ _ (u i c.1 a) (u j d.1 b) c.2 d.2 (g i c.1 e) (g j d.1 f) h),p.st.lo⟩,
  rfl,rfl,rfl,xl _,fun _ _ _=>rfl,t.alw,fun id n k D=>.inr ⟨ol B q id,hT _ (C id n k.1),k.2,g id k.1 D,rfl⟩,fun id n y k D=>?_,fun b h=>.inl h,fun b h _=>.inl h,fun id k=>k.1,jal _ _,fun id n k=>?_⟩
 ·obtain⟨m,A,G⟩:=s k.1 x;have v:=p.st.objs _ (u id k.1 y) k.2 m A;rcases G with ⟨l,rfl⟩|rfl
  ·unfold qah;have e:ol B q id=id:=xx l;rw[e] at v A;cases n:lowO B m with
   | true=>exact zmc t l (by have:=k.2;rwa [e] at this) n v
   | false=>exact zad hz e v
  ·exact zad hz rfl v
 ·obtain⟨m,A,G⟩:=s k.1 x;refine p.st.blk _ (u id k.1 y) k.2 m A ?_;rcases G with ⟨l,rfl⟩|rfl
  ·unfold qah at n;cases K:lowO B m<;>rw[K] at n
   ·exact qxv n
   ·exact n
  ·exact qxv n
 ·have e:ol B q id=id:=xx n;have:=g id (by omega) D
  rwa [e] at this
 ·have e:ol B q id=id:=xx n;have:=k.2
  rwa [e] at this
end
end Go.Jx
end

noncomputable section
namespace Go.Jx
open Go Go.Sx Go.RowKit
universe u

structure Nm where
 keep:List Nat
 crs:List (Nat × TC)
 crc:List (Nat × Nat × TC)
 crm:List (Nat × TC × TC)
 crd:List (Nat × Nat × TC × TC)
 lr:Nat
 lw:Nat
 /-- Forget slots only. -/
 fo:Bool:=eb

section
variable {E : Env} {S : IS} {T : TW}
def coeS(nt:Nat):Lz (Nat × TC)->PT IV->IS->Oq (PT IV × IS × Nat)
 | [],fr,S=>iz (fr,S,0)
 | (t,c)::l,fr,S=>cond (oo t nt) (match coeV S c (slot fr t) with
  | none=>i6
  | some (v,S1,w1)=>match coeS nt l (fr.set v t) S1 with
   | none=>i6
   | some (fr2,S2,w2)=>iz (fr2,S2,w1 ||| w2)) i6
theorem zat{nt:Nat}{tmps:Array oc}:∀(l:Lz (Nat × TC)) {E:Env} {S:IS} {fr fr':PT IV} {S':IS} {w:Nat},coeS nt l fr S=iz (fr',S',w)->Pre T E S->tin T.w w->FR E nt fr tmps ->
  ∃E',E'.w=E.w/\Post T E S E' S'/\Fresh E S E'/\FR E' nt fr' tmps
 | [],E,S,fr,fr',S',w,h,p,hw,hf=>by cases h;exact⟨E,rfl,Post.refl p,Fresh.refl E S,hf⟩
 | (t,c)::l,E,S,fr,fr',S',w,h,p,hw,hf=>by
  simp only[coeS] at h;cases hb:oo t nt with
  | false=>rw[hb] at h;cases h
  | true =>
  rw[hb,xa] at h;have ht:t<nt:=by simpa using hb
  split at h
  ·grind
  rename_i v S1 w1 h1;split at h<;>cases h;rename_i h2;obtain⟨g1,g2⟩:=zp hw;obtain⟨E1,e1,q1,f1,hv⟩:=qb8 p h1 g1 (hf.get t ht);have hf1:FR E1 nt (fr.set v t) tmps:=⟨hf.size,fun k hk=>by
   rw[vp];by_cases e:k=t
   ·grind
   ·rw[xr e];exact(hf.mono (q1.env p)).get k hk⟩
  obtain⟨E2,e2,q2,f2,k2⟩:=zat l h2 (q1.pre p) g2 hf1;exact⟨E2,e2.trans e1,Post.trans p q1 f1 q2,f1.trans f2 q1.le,k2⟩
def coeW(S:IS)(c:TC)(v:IV):Oq (IV × IS × Nat):=match c with
 | .list (.list d)=>match icl (.list d) S [v] with
  | some (x,[],S1,w)=>iz (.lst d x,S1,w)
  | _=>i6
 | c=>coeV S c v
theorem zc1{c:TC}{v v':IV}{S':IS}{w:Nat}{u:oc}(p:Pre T E S)(h:coeW S c v=iz (v',S',w))(hw:tin T.w w)(hv:VR E v u) :
  ∃E',E'.w=E.w/\Post T E S E' S'/\Fresh E S E'/\VR E' v' u:=by
 unfold coeW at h;split at h
 ·rename_i d;split at h<;>cases h;rename_i x g;obtain⟨q,m,q1,k,f,e,l,a,i⟩:=tn (.list d) g p hw (VRs.cons hv VRs.nil);obtain⟨j,b,rfl,o,n⟩:=VRs.inv (v:=.lst d x) (cs:=[]) a
  grind
 ·exact qb8 p h hw hv
def qge(fr:PT IV)(S:IS)(t off:Nat)(c:TC):Oq (IS × Nat) :=
 match slot fr t with
 | .ptr id o=>match S.heap.get id with
  | some (.row cs)=>match cs[o+off]? with
   | some v=>match coeW S c v with
    | none=>i6
    | some (v',S1,w1)=>match S1.heap.get id with
     | some (.row cs1)=>cond (oo (o+off) cs1.length) (iz (S1.set id (.row (cs1.set (o+off) v')),w1 ||| 2 ^ id)) i6
     | _=>i6
   | none=>i6
  | _=>i6
 | _=>i6
theorem zz1{nt:Nat}{tmps:Array oc}{fr:PT IV}{t off:Nat}{c:TC}{S':IS}{w:Nat}(ht:t<nt)(h:qge fr S t off c=iz (S',w))(p:Pre T E S)(hw:tin T.w w)(hf:FR E nt fr tmps) :
  ∃E',E'.w=E.w/\Post T E S E' S'/\Fresh E S E':=by
 unfold qge at h;split at h<;>try cases h
 rename_i b o U;split at h<;>try cases h
 rename_i η V;split at h<;>try cases h
 rename_i v R;split at h
 ·grind
 rename_i M γ δ Z;split at h<;>try cases h
 rename_i g f;cases z:oo (o+off) g.length with
 | false=>rw[z] at h;cases h
 | true =>
 rw[z,xa] at h;cases h;have W:o+off<g.length:=by simpa using z
 obtain⟨β,α⟩:=zp hw;have n:=zi α;have d:=hf.get t ht;rw[U] at d;cases y:tmps.getD t undef<;>rw[y] at d<;>cases d;rename_i G;obtain⟨a,N,F,ζ,ε,Q⟩:=p.st.objs b (T.sub _ n) G _ V;obtain⟨u,m,s⟩:=Q.get R;obtain⟨j,A,q1,I,x⟩:=zc1 p Z β s;have r:=q1.pre p;obtain⟨B,J,κ,ι,θ⟩:=(q1.env p).alw b G;obtain⟨q,ty1,D,P,O,C⟩:=r.st.objs b (T.sub _ n) B _ f;rw[J,A,F] at D;cases D;have Y:Live j γ.H b:=⟨r.st.blk b (T.sub _ n) B _ f rfl,_,f,rfl⟩;obtain⟨L,K⟩:=Post.write r (o':=.row (g.set (o+off) M)) (w':=j.w) n B Y (Upd.refl _ _) ⟨a,N,by rw[show (j.at_ j.w).ρ b=E.ρ b from J,show (j.at_ j.w).w=E.w from A];exact F,P,by simpa using O,by
  rw[rx];refine⟨by rw[rx];exact C.1,fun i X l=>?_⟩;rw[ja8];by_cases e:o+off=i
  ·rw[xx e];subst e;rw[gb] at m;split at m
   ·have k:o+off<a.toList.length:=by simp at l;simp;omega
    rw[xc k] at m;cases m;simp only[jcc];exact x
   ·grind
  ·rw[xr e];exact C.2 i (by simpa using X) l⟩
 exact⟨j,A,Post.trans p q1 I L,I.trans K q1.le⟩
def coeC(nt:Nat)(fr:PT IV):Lz (Nat × Nat × TC)->IS->Oq (IS × Nat)
 | [],S=>iz (S,0)
 | (t,off,c)::l,S=>cond (oo t nt) (match qge fr S t off c with
  | none=>i6
  | some (S1,w1)=>match coeC nt fr l S1 with
   | none=>i6
   | some (S2,w2)=>iz (S2,w1 ||| w2)) i6
theorem qzb{nt:Nat}{tmps:Array oc}{fr:PT IV}:∀(l:Lz (Nat × Nat × TC)) {E:Env} {S S':IS} {w:Nat},coeC nt fr l S=iz (S',w)->Pre T E S->tin T.w w->FR E nt fr tmps ->
  ∃E',E'.w=E.w/\Post T E S E' S'/\Fresh E S E'
 | [],E,S,S',w,h,p,hw,hf=>by cases h;exact⟨E,rfl,Post.refl p,Fresh.refl E S⟩
 | (t,off,c)::l,E,S,S',w,h,p,hw,hf=>by
  simp only[coeC] at h;cases hb:oo t nt with
  | false=>rw[hb] at h;cases h
  | true =>
  rw[hb,xa] at h;split at h
  ·grind
  rename_i S1 w1 h1;split at h<;>cases h;rename_i h2;obtain⟨g1,g2⟩:=zp hw;obtain⟨E1,e1,q1,f1⟩:=zz1 (by simpa using hb) h1 p g1 hf;obtain⟨E2,e2,q2,f2⟩:=qzb l h2 (q1.pre p) g2 (hf.mono (q1.env p));exact⟨E2,e2.trans e1,Post.trans p q1 f1 q2,f1.trans f2 q1.le⟩

def qmh(kc vc:TC)(S:IS):Lz (IV × IV)->Oq (Lz (El kc × El vc))
 | []=>iz []
 | (k,v)::es=>match icl kc S [k],icl vc S [v],qmh kc vc S es with
  | some (x,[],_,0),iz (y,[],_,0),iz r=>iz ((x,y)::r)
  | _,_,_=>i6
theorem qzd{kc vc:TC}(hk:yp kc=i7)(hv:yp vc=i7){S:IS}{E:Env}:∀{es:Lz (IV × IV)} {r:Lz (El kc × El vc)} {us vs:Lz oc},qmh kc vc S es=iz r->VRs E (es.map (·.1)) us->VRs E (es.map (·.2)) vs ->
  VRs E ((tmEs kc vc r).map (·.1)) us/\VRs E ((tmEs kc vc r).map (·.2)) vs
 | [],r,us,vs,h,h1,h2=>by cases h;exact⟨h1,h2⟩
 | (k,v)::es,r,us,vs,h,h1,h2=>by
  unfold qmh at h;split at h<;>cases h;rename_i hx hy hr;obtain⟨u,us,rfl,a1,a2⟩:=h1.inv;obtain⟨w,vs,rfl,b1,b2⟩:=h2.inv;obtain⟨c1,c2⟩:=qzd hk hv hr a2 b2;exact⟨VRs.cons (qbv hx a1 (fun a b e=>by subst e;cases hk)) c1,VRs.cons (qbv hy b1 (fun a b e=>by subst e;cases hv)) c2⟩
def n6(S:IS)(kc vc:TC):IV->Oq (IS × Nat)
 | .map id=>match S.heap.get id with
  | some (.map es)=>cond (yp kc&&yp vc) (match qmh kc vc S es with
   | some r=>iz (S.set id (.tmap kc vc r),2 ^ id)
   | none=>i6) i6
  | some (.tmap _ _ _)=>iz (S,0)
  | _=>i6
 | _=>i6
theorem qng{kc vc:TC}{v:IV}{u:oc}{S':IS}{w:Nat}(p:Pre T E S)(h:n6 S kc vc v=iz (S',w))(hw:tin T.w w)(hv:VR E v u):∃E',E'.w=E.w/\Post T E S E' S'/\Fresh E S E':=by
 unfold n6 at h;split at h<;>try cases h
 rename_i d;split at h<;>try cases h
 ·rename_i t f;cases a:(yp kc&&yp vc) with
  | false=>rw[a] at h;cases h
  | true =>
  rw[a,xa] at h;simp only[xf] at a;split at h<;>cases h;rename_i r k;have g:=zi hw;cases hv with
  | map hA =>
  obtain⟨b,c,s,q,o,e⟩:=p.st.objs d (T.sub _ g) hA _ f;obtain⟨n,m⟩:=qzd a.1 a.2 k q o;have l:Live E S.H d:=⟨p.st.blk d (T.sub _ g) hA _ f rfl,_,f,rfl⟩;obtain⟨j,i⟩:=Post.write p (o':=.tmap kc vc r) (w':=E.w) g hA l (Upd.refl _ _) ⟨b,c,s,n,m,e⟩;exact⟨E,rfl,j,i⟩
 ·exact⟨E,rfl,Post.refl p,Fresh.refl E S⟩
def coeM(nt:Nat)(fr:PT IV):Lz (Nat × TC × TC)->IS->Oq (IS × Nat)
 | [],S=>iz (S,0)
 | (t,kc,vc)::l,S=>cond (oo t nt) (match n6 S kc vc (slot fr t) with
  | none=>i6
  | some (S1,w1)=>match coeM nt fr l S1 with
   | none=>i6
   | some (S2,w2)=>iz (S2,w1 ||| w2)) i6
theorem q5h{nt:Nat}{tmps:Array oc}{fr:PT IV}:∀(l:Lz (Nat × TC × TC)) {E:Env} {S S':IS} {w:Nat},coeM nt fr l S=iz (S',w)->Pre T E S->tin T.w w->FR E nt fr tmps ->
  ∃E',E'.w=E.w/\Post T E S E' S'/\Fresh E S E'
 | [],E,S,S',w,h,p,hw,hf=>by cases h;exact⟨E,rfl,Post.refl p,Fresh.refl E S⟩
 | (t,kc,vc)::l,E,S,S',w,h,p,hw,hf=>by
  simp only[coeM] at h;cases hb:oo t nt with
  | false=>rw[hb] at h;cases h
  | true =>
  rw[hb,xa] at h;split at h
  ·grind
  rename_i S1 w1 h1;split at h<;>cases h;rename_i h2;obtain⟨g1,g2⟩:=zp hw;obtain⟨E1,e1,q1,f1⟩:=qng p h1 g1 (hf.get t (by simpa using hb));obtain⟨E2,e2,q2,f2⟩:=q5h l h2 (q1.pre p) g2 (hf.mono (q1.env p));exact⟨E2,e2.trans e1,Post.trans p q1 f1 q2,f1.trans f2 q1.le⟩
def q79(fr:PT IV)(S:IS)(t off:Nat):Oq (IV × Nat) :=
 match slot fr t with
 | .ptr id o=>match S.heap.get id with
  | some (.row cs)=>match cs[o+off]? with
   | some v=>iz (v,id)
   | none=>i6
  | _=>i6
 | _=>i6
def coeD(nt:Nat)(fr:PT IV):Lz (Nat × Nat × TC × TC)->IS->Oq (IS × Nat)
 | [],S=>iz (S,0)
 | (t,off,kc,vc)::l,S=>cond (oo t nt) (match q79 fr S t off with
  | none=>i6
  | some (v,id)=>match n6 S kc vc v with
   | none=>i6
   | some (S1,w1)=>match coeD nt fr l S1 with
    | none=>i6
    | some (S2,w2)=>iz (S2,2 ^ id ||| (w1 ||| w2))) i6
theorem q6w{nt:Nat}{tmps:Array oc}{fr:PT IV}:∀(l:Lz (Nat × Nat × TC × TC)) {E:Env} {S S':IS} {w:Nat},coeD nt fr l S=iz (S',w)->Pre T E S->tin T.w w->FR E nt fr tmps ->
  ∃E',E'.w=E.w/\Post T E S E' S'/\Fresh E S E'
 | [],E,S,S',w,h,p,hw,hf=>by cases h;exact⟨E,rfl,Post.refl p,Fresh.refl E S⟩
 | (t,off,kc,vc)::l,E,S,S',w,h,p,hw,hf=>by
  simp only[coeD] at h;cases hb:oo t nt with
  | false=>rw[hb] at h;cases h
  | true =>
  rw[hb,xa] at h;split at h
  ·grind
  rename_i v id hc;split at h
  ·grind
  rename_i S1 w1 h1;split at h<;>cases h;rename_i h2;obtain⟨g0,g12⟩:=zp hw;obtain⟨g1,g2⟩:=zp g12;have hsl:=hf.get t (by simpa using hb);unfold q79 at hc;split at hc<;>try cases hc
  rename_i id' o hs;split at hc<;>try cases hc
  rename_i cs ho;split at hc<;>cases hc;rename_i hv;rw[hs] at hsl;cases hsp:tmps.getD t undef<;>rw[hsp] at hsl<;>cases hsl;rename_i hA;obtain⟨cells,ty,k1,k2,k3,k4⟩:=p.st.objs id (T.sub _ (zi g0)) hA _ ho;obtain⟨u,hu,hvu⟩:=k4.get hv;obtain⟨E1,e1,q1,f1⟩:=qng p h1 g1 hvu;obtain⟨E2,e2,q2,f2⟩:=q6w l h2 (q1.pre p) g2 (hf.mono (q1.env p));exact⟨E2,e2.trans e1,Post.trans p q1 f1 q2,f1.trans f2 q1.le⟩
end

def ids0:IV->Lz Nat
 | .arr id=>[id]
 | .aptr id _ _ _=>[id]
 | .sl id _ _ _ _=>[id]
 | .ptr id _=>[id]
 | .map id=>[id]
 | .yield id=>[id]
 | _=>[]
def ids1:IV->Lz Nat
 | .fn _ cs=>cs.flatMap ids0
 | .bfn _ cs=>cs.flatMap ids0
 | .agg cs=>cs.flatMap ids0
 | .tup cs=>cs.flatMap ids0
 | .iface _ v=>ids0 v
 | v=>ids0 v
def ids2:IV->Lz Nat
 | .fn _ cs=>cs.flatMap ids1
 | .bfn _ cs=>cs.flatMap ids1
 | .agg cs=>cs.flatMap ids1
 | .tup cs=>cs.flatMap ids1
 | .iface _ v=>ids1 v
 | v=>ids0 v
def idsO:IObj->Lz Nat
 | .row cs=>cs.flatMap ids2
 | .map es=>es.flatMap fun e=>ids2 e.1++ids2 e.2
 | .loop _ _ _ fr _ _ _ D=>D::fr.vals.flatMap ids2
 | .bld j=>[j]
 | _=>[]
def clos(S:IS)(B:Nat):Nat->Lz Nat->Lz Nat->Lz Nat
 | 0,_,acc=>acc
 | _+1,[],acc=>acc
 | n+1,id::w,acc=>cond (oo id B||(bc acc id).isSome) (clos S B n w acc) (match S.heap.get id with
  | some .dead=>clos S B n w acc
  | some (.frz _ _)=>clos S B n w acc
  | some o=>clos S B n (w++idsO o) (acc++[id])
  | none=>clos S B n w acc)
def qi2(S:IS):Nat->Lz Nat
 | 0=>[]
 | B+1=>qi2 S B++(match S.heap.get B with|some o=>idsO o|none=>[])
def ql4(S:IS)(B:Nat):Nat->Nat
 | 0=>0
 | k+1=>ql4 S B k ||| (match S.heap.get k with|some o=>cond (lowO B o) 0 (2 ^ k)|none=>0)
def qv6(z:Fz)(B:Nat)(q:Lz Nat)(fr:PT IV):Lz Nat->PT IV->PT IV
 | [],r=>r
 | t::l,r=>qv6 z B q fr l (r.set (ren2 z B q (slot fr t)) t)
def qc5:Lz Nat->IS->Oq (IS × Nat)
 | [],S=>iz (S,0)
 | D::ds,S=>match S.heap.get D with
  | some (.defs i7)=>match qc5 ds (S.set D .dead) with
   | some (S',w)=>iz (S',2 ^ D ||| w)
   | none=>i6
  | _=>i6
def qgg(S:IS)(B:Nat):Fz:=fun id=>cond (oo id B) i6 (match S.heap.get id with|some (.frz c l)=>iz ⟨c,l⟩|_=>i6)
structure NRes where
 fr:PT IV
 S:IS
 ds:List Nat
 wr:Nat
def qc7(fr:PT IV):Lz Nat->PT IV->PT IV
 | [],r=>r
 | t::l,r=>qc7 fr l (r.set (slot fr t) t)
theorem q2h{E:Env}{nt:Nat}{fr:PT IV}{tmps:Array oc}(hf:FR E nt fr tmps):∀(l:Lz Nat) (r:PT IV),FR E nt r tmps->FR E nt (qc7 fr l r) tmps
 | [],r,h=>h
 | t::l,r,h=>by
  refine q2h hf l _ ⟨h.size,fun k hk=>?_⟩;rw[vp];by_cases e:k=t
  ·subst e;rw[xx rfl];exact hf.get k hk
  ·rw[xr e];exact h.get k hk
def jy(nt:Nat)(m:Oq Nm)(B:Nat)(fr:PT IV)(S:IS)(ds:Lz Nat):Oq NRes :=
 match m with
 | none=>iz ⟨fr,S,ds,0⟩
 | some m=>cond m.fo (iz ⟨qc7 fr m.keep .leaf,S,ds,0⟩) (match coeS nt m.crs fr S with
  | none=>i6
  | some (fr1,S1,w1)=>match coeC nt fr1 m.crc S1 with
   | none=>i6
   | some (S2,w2)=>match coeM nt fr1 m.crm S2 with
    | none=>i6
    | some (S3,w3)=>match coeD nt fr1 m.crd S3 with
     | none=>i6
     | some (S4,w4)=>match qc5 ds S4 with
      | none=>i6
      | some (S5,w5) =>
      let q:=clos S5 B 1000 (m.keep.flatMap (fun t=>ids2 (slot fr1 t))++qi2 S5 B) []
      cond (ndB q&&q.all (fun id=>og B id)) (iz ⟨qv6 (qgg S5 B) B q fr1 m.keep .leaf,nrmS (qgg S5 B) B q S5,[],(w1 ||| (w2 ||| (w3 ||| (w4 ||| w5)))) ||| ql4 S5 B B⟩) i6)
def hidL(hid:Lz Nat):Lz ip:=hid.map fun b=>({ target:=.collected b,args:=#[] }:ip)
structure DS (N:Nat) (E:Env) (ds:List Nat) (l:List ip):Prop where
 le:N<=E.w.heap.size
 da:∀D∈ds,E.A D/\N<=E.ρ D
 hi:∃hid,l=ds.map (fun D=>({ target:=.collected (E.ρ D),args:=#[] }:ip))++hidL hid/\hid.Nodup/\∀b∈hid,N<=b/\b ∉ E.m/\E.w.heap[b]?=iz (.deferred (iz []))
theorem DS.nil{N:Nat}{E:Env}(h:N<=E.w.heap.size):DS N E [] []:=⟨h,fun D c=>(by cases c),[],rfl,List.nodup_nil,fun b a=>by cases a⟩
theorem DS.mono{N:Nat}{E E':Env}(e:E.Le E')(hs:E.w.heap.size<=E'.w.heap.size){ds:Lz Nat}{l:Lz ip}(h:DS N E ds l):DS N E' ds l:=by
 obtain⟨k,d,a,j,i,g⟩:=h;refine⟨py k hs,fun D c=>?_,a,?_,i,fun b f=>?_⟩
 ·obtain⟨s,r,_⟩:=e.alw D (d D c).1
  grind
 ·rw[j];congr 1;exact rq fun D c=>by rw[(e.alw D (d D c).1).2.1]
 ·obtain⟨q,n,m⟩:=g b f;obtain⟨p,o⟩:=e.tr.keep b (qk m) n
  grind
theorem Post.aside{T:TW}{E:Env}{S:IS}{id:Nat}(p:Pre T E S)(hT:T.w id)(hA:E.A id)(ho:S.heap.get id=iz (.defs i7)) :
  Post T E S (E.less id) (S.set id .dead)/\Fresh E S (E.less id)/\E.ρ id∈E.m/\E.ρ id ∉ (E.less id).m/\E.w.heap[E.ρ id]?=iz (.deferred (iz [])):=by
 have l:=p.st;have r:=E.less_le id;have u:=l.blk id (T.sub _ hT) hA _ ho rfl;have C:Live E S.H id:=⟨u,_,ho,rfl⟩;have z:E.w.heap[E.ρ id]?=iz (.deferred (iz [])):=l.objs id (T.sub _ hT) hA _ ho;have t:∀j,Live (E.less id) (up S.H id (iz .dead)) j->j≠id/\Live E S.H j:=fun j h=>by
  have g:j≠id:=fun e=>by subst e;obtain⟨_,o,y,x⟩:=h;rw[zj] at y;cases y;cases x
  exact⟨g,(Live.up_ne (E:=E) g).1 h⟩
 refine⟨⟨?_,?_,p.bnd,xl _⟩,⟨fun _ h k=>absurd h k⟩,l.own id (T.sub _ hT) hA C,fun B=>?_,z⟩
 ·rw[IS.H_set];refine⟨fun j q n o g=>?_,fun j q n o g s=>?_,fun j q n h=>?_,fun i j a b c d e f h=>l.inj i j a b c d (t i e).2 (t j f).2 h,fun b u=>l.lo b (Env.less_mem u)⟩
  ·by_cases e:j=id
   ·subst e;rw[zj] at g;cases g;trivial
   ·rw[Jx.up_ne _ _ e] at g;exact(l.objs j q n o g).mono r n (l.blk j q n o g) fun _ _=>rfl
  ·by_cases e:j=id
   ·subst e;rw[zj] at g;cases g;cases s
   ·rw[Jx.up_ne _ _ e] at g;exact l.blk j q n o g s
  ·obtain⟨y,x⟩:=t j h;rcases Env.less_out (id:=id) (l.own j q n x) with v|⟨v,D⟩
   ·exact v
   ·exact absurd (l.inj j id q (T.sub _ hT) n hA x C D) y
 ·rw[IS.H_set];refine⟨rfl,rfl,rfl,xl _,fun _ _ _=>rfl,r.alw,fun j h k=>absurd h k,fun j _ _ h=>(t j h).2,fun b h=>.inl (Env.less_mem h),fun b h _=>?_⟩;rcases Env.less_out (id:=id) h with v|⟨v,D⟩
  ·grind
  ·grind
 ·unfold Env.less at B;rw[u] at B;have:=(jat.1 B).2;rw[dg] at this
  grind
theorem q3z{T:TW}{N:Nat}:∀{ds:Lz Nat} {E:Env} {S S':IS} {w:Nat} {hid:Lz Nat},Pre T E S->(∀D∈ds,E.A D/\N<=E.ρ D)->hid.Nodup->(∀b∈hid,N<=b/\b ∉ E.m/\E.w.heap[b]?=iz (.deferred (iz [])))->qc5 ds S=iz (S',w)->tin T.w w ->
  ∃E',E'.w=E.w/\Post T E S E' S'/\Fresh E S E'/\∃hid',ds.map (fun D=>({ target:=.collected (E.ρ D),args:=#[] }:ip))++hidL hid=hidL hid'/\hid'.Nodup/\(∀b∈hid',N<=b/\b ∉ E'.m/\E'.w.heap[b]?=iz (.deferred (iz [])))/\∀b∈hid',b∈hid\/b∈E.m
 | [],E,S,S',w,hid,p,hd,hn,hh,h,hw=>by
  cases h;exact⟨E,rfl,Post.refl p,Fresh.refl E S,hid,rfl,hn,hh,fun b hb=>.inl hb⟩
 | D::ds,E,S,S',w,hid,p,hd,hn,hh,h,hw=>by
  unfold qc5 at h;split at h<;>try cases h
  rename_i ho;split at h<;>cases h;rename_i S1 w1 h1;obtain⟨t1,t2⟩:=zp hw;obtain⟨hA,hN⟩:=hd D x8;obtain⟨q1,q2,m1,m2,m3⟩:=Post.aside p (zi t1) hA ho;have p1:=q1.pre p;obtain⟨E',e1,e2,e3,hid',g1,g2,g3,g4⟩:=q3z (ds:=ds) (hid:=hid) p1 (fun D' hD'=>hd D' (xv _ hD')) hn (fun b hb=>⟨(hh b hb).1,fun hm=>(hh b hb).2.1 (Env.less_mem hm),(hh b hb).2.2⟩) h1 t2;have hle:=e2.env p1;refine⟨E',e1,Post.trans p q1 q2 e2,q2.trans e3 q1.le,E.ρ D::hid',?_,jbj.2 ⟨fun hm=>?_,g2⟩,fun b hb=>?_,fun b hb=>?_⟩
  ·show _::(ds.map _++hidL hid)=_::hidL hid';rw[<- g1];rfl
  ·grind
  ·rcases po.1 hb with rfl|hb
   ·obtain⟨c1,c2⟩:=hle.tr.keep (E.ρ D) (qk m3) m2;exact⟨hN,c1,c2.trans m3⟩
   ·grind
  ·rcases po.1 hb with rfl|hb
   ·grind
   ·exact(g4 b hb).imp id Env.less_mem
theorem q9w{E:Env}{B nt:Nat}{q:Lz Nat}{z:Fz}{fr:PT IV}{tmps:Array oc}(hz:FzOK E z)(hf:FR E nt fr tmps):∀(l:Lz Nat) (r:PT IV),FR (renE B q E) nt r tmps->FR (renE B q E) nt (qv6 z B q fr l r) tmps
 | [],r,h=>h
 | t::l,r,h=>by
  refine q9w hz hf l _ ⟨h.size,fun k hk=>?_⟩;rw[vp];by_cases e:k=t
  ·subst e;rw[xx rfl];exact qg4 hz (hf.get k hk)
  ·rw[xr e];exact h.get k hk
theorem zya{E:Env}{S:IS}{T:TW}{B nt:Nat}{m:Oq Nm}{fr:PT IV}{ds:Lz Nat}{x:NRes}{a:Act}{N:Nat}(p:Pre T E S)(hB:B<=S.next)(hT:∀id,B<=id->T.w id)(hf:FR E nt fr a.tmps)(hd:DS N E ds a.defers)
  (h:jy nt m B fr S ds=iz x) (hw:tin T.w x.wr):∃E',E'.w=E.w/\PostB B T E S E' x.S/\FR E' nt x.fr a.tmps/\DS N E' x.ds a.defers:=by
 unfold jy at h;split at h
 ·cases h;exact⟨E,rfl,PostB.refl hB hT p,hf,hd⟩
 rename_i m;cases j:m.fo with
 | true=>rw[j,xa] at h;cases h;exact⟨E,rfl,PostB.refl hB hT p,q2h hf _ _ ⟨hf.size,fun t ε=>.unk _⟩,hd⟩
 | false =>
 rw[j,xe] at h;split at h
 ·grind
 rename_i F S1 w1 υ;split at h
 ·grind
 rename_i S2 w2 C;split at h
 ·grind
 rename_i S3 w3 τ;split at h
 ·grind
 rename_i S4 w4 σ;split at h
 ·grind
 rename_i s w5 ρ;simp only at h;generalize clos s B 1000 (m.keep.flatMap (fun t=>ids2 (slot F t))++qi2 s B) []=q at h;cases k:(ndB q&&q.all (fun id=>og B id)) with
 | false=>rw[k] at h;cases h
 | true =>
 rw[k,xa] at h;cases h;simp only[xf] at k;obtain⟨Z,_⟩:=zp hw;obtain⟨g1,Y⟩:=zp Z;obtain⟨ω,X⟩:=zp Y;obtain⟨ψ,W⟩:=zp X;obtain⟨χ,φ⟩:=zp W;obtain⟨E1,e1,q1,f1,L⟩:=zat m.crs υ p g1 hf;have r:=q1.pre p;obtain⟨E2,e2,g,f2⟩:=qzb m.crc C r ω L;have o:=g.pre r;have K:=L.mono (g.env r);obtain⟨E3,e3,f,f3⟩:=q5h m.crm τ o ψ K;have n:=f.pre o;have J:=K.mono (f.env o);obtain⟨E4,e4,e,f4⟩:=q6w m.crd σ n χ J;have v:=e.pre n;have δ:=J.mono (e.env n);obtain⟨μ,A,ι,θ,η,κ⟩:=(((hd.mono (q1.env p) q1.stp.size).mono (g.env r) g.stp.size).mono (f.env o) f.stp.size).mono (e.env n) e.stp.size;obtain⟨G,O,u,f5,i,γ,β,α,_⟩:=q3z (N:=N) v A η κ ρ φ;have H:=u.pre v;have I:=δ.mono (u.env v);have V:=PostB.of hB hT q1 f1;have U:=V.trans (PostB.of V.le hT g f2);have R:=U.trans (PostB.of U.le hT f f3);have Q:=R.trans (PostB.of R.le hT e f4);have P:=Q.trans (PostB.of Q.le hT u f5);have M:FzOK G (qgg s B):=fun id x d ξ=>by
  unfold qgg at d;cases b:oo id B with
  | true=>rw[b] at d;cases d
  | false =>
   rw[b,xe] at d;split at d<;>cases d;rename_i c l ζ;have y:B<=id:=by
    refine jac fun h=>?_;have C:oo id B=i7:=by simpa using h
    rw[C] at b;cases b
   exact H.st.objs id (T.sub _ (hT id y)) ξ _ ζ
 have b6:=qys (z:=qgg s B) H P.le hT M k.1 k.2;refine⟨renE B q G,O.trans (e4.trans (e3.trans (e2.trans e1))),P.trans b6,q9w M I _ _ ⟨I.size,fun t ε=>.unk _⟩,?_,fun D ν=>(by cases ν),i,?_,β,α⟩
 ·show N<=G.w.heap.size;rw[O];exact μ
 ·rw[θ,γ];rfl
abbrev JT(R:Type):Type:=Nat->Lz Nat->NRes->Oq R
end Go.Jx
end

noncomputable section
namespace Go.Jx
open Go Go.Sx Go.RowKit
universe u

section
variable {F : Fence} {n : Nat} {P : om} {Q : Exit -> Act -> oh -> Prop} {a : Act} {w : oh}
theorem qb7{b:Frame}{k:Lz Item}{cs:Lz Frame}{c:fw}:step P (lone (b.atR a (.code (.scope c)::k)) cs w)=.next (lone (b.atR a (.code c::.inScope c::k)) cs w) :=
 step_lone_go (by simp[stepG,stepG.exec,Frame.atR])
theorem zcy{b:Frame}{k:Lz Item}{cs:Lz Frame}{c:fw}:step P (lone (b.atR a (.inScope c::k)) cs w)=.next (lone (b.atR a k) cs w) :=
 step_lone_go (by simp[stepG,stepG.exec,Frame.atR])
theorem zj0{c:fw}(h:c.wpIn F n P (Exit.noGoto Q) a w):(Code.scope c).wpIn F n P Q a w:=by
 intro b k t m r p;have g:(lone (b.atR a (.code (.scope c)::k)) t w).fenced P F:=fenced_calm r p rfl;obtain⟨e,j,i,f,d⟩:=h b (.inScope c::k) t m r p;cases e with
 | normal=>exact⟨.normal,j,i,f,.head g qb7 (StepsIn.trans d (.one (fenced_calm r p rfl) zcy))⟩
 | exit id' =>
  have s:exitTo id' (.inScope c::k)=exitTo id' k:=by simp[exitTo]
  exact⟨.exit id',j,i,f,fun u q=>.head g qb7 (d.1 u (by rw[s];exact q)),
   fun o q=>let ⟨k₁,h1,h2⟩:=d.2 o (by rw[s];exact q);⟨k₁,h1,.head g qb7 h2⟩⟩
 | goto l=>exact f.elim
 | ret=>exact⟨_,j,i,f,.of_steps (.one g qb7) d⟩
 | panic ch=>exact⟨_,j,i,f,.of_steps (.one g qb7) d⟩
 | outgrown=>exact⟨_,j,i,f,.of_steps (.one g qb7) d⟩
theorem qzw{c:fw}(I:Nat->Act->oh->Prop)(round:∀j a w,I (j+1) a w->c.wpIn F n P (Exit.then (fun a' w'=>I j a' w') Q) a w)(h0:∀a w,¬I 0 a w) :
  ∀j a w,I j a w->(Code.loop c).wpIn F n P Q a w:=by
 intro j a w m b k t p s q;have o:∀j a w,I j a w->∃e a' w',Q e a' w'/\ArrivesIn (Machine.fenced P F) P (lone (b.atR a (.code c::.inLoop c::k)) t w) b k t e a' w':=by
  intro j;induction j with
  | zero=>intro a w m;exact absurd m (h0 a w)
  | succ j ih =>
   intro a w m;obtain⟨e,i,h,f,d⟩:=round j a w m b (.inLoop c::k) t p s q;cases e with
   | normal =>
    obtain⟨v,y,u,r,g⟩:=ih i h f;exact⟨v,y,u,r,.of_steps (StepsIn.trans d (.one (fenced_calm s q rfl) stepR_inLoop)) g⟩
   | exit id=>exact⟨_,i,h,f,.pass (x:=.inLoop c) rfl (fun _ _=>.inl (by simp)) d⟩
   | goto l=>exact⟨_,i,h,f,.pass (x:=.inLoop c) rfl (fun _ _=>.inl (by simp)) d⟩
   | ret=>exact⟨_,i,h,f,.pass (x:=.inLoop c) rfl (fun _ _=>.inl (by simp)) d⟩
   | panic ch=>exact⟨_,i,h,f,.pass (x:=.inLoop c) rfl (fun _ _=>.inl (by simp)) d⟩
   | outgrown=>exact⟨_,i,h,f,.pass (x:=.inLoop c) rfl (fun _ _=>.inl (by simp)) d⟩
 obtain⟨e,a',w',f,d⟩:=o j a w m;exact⟨e,a',w',f,.of_steps (.one (fenced_calm s q rfl) stepR_loop) d⟩
end

inductive IEx
 | normal
 | exit (id:Nat)
 | goto (l:Nat)
 | ret
 | pan (p:IV)
def exOf:IEx->Exit
 | .normal=>.normal
 | .exit id=>.exit id
 | .goto l=>.goto l
 | .ret=>.ret
 | .pan _=>.normal
def ExR(E:Env):IEx->Exit->Prop
 | .pan p,x=>∃u,x=.panic [{ v:=u,recovered:=eb }]/\VR E p u
 | e,x=>x=exOf e
def exP:Oq IV->IEx
 | none=>.normal
 | some p=>.pan p
theorem PanR.ex{E:Env}{p:Oq IV}{x:Exit}(h:PanR E p x):ExR E (exP p) x:=by
 cases p<;>exact h
structure CRes:Type where
 e:IEx
 fr:PT IV
 S:IS
 ds:List Nat
 rd:Nat
 wr:Nat
def CRes.or(r:CRes)(rd wr:Nat):CRes:=⟨r.e,r.fr,r.S,r.ds,rd ||| r.rd,wr ||| r.wr⟩
def yo(f:PT IV->IS->Lz Nat->Oq CRes):Nat->PT IV->IS->Lz Nat->Oq CRes
 | 0,_,_,_=>i6
 | n+1,fr,S,ds=>match f fr S ds with
  | none=>i6
  | some r=>match r.e with
   | .normal=>match yo f n r.fr r.S r.ds with
    | none=>i6
    | some q=>iz (q.or r.rd r.wr)
   | _=>iz r
def subm(a b:Nat):Bool:=od (a ||| b) b
theorem qtl{T:Nat->Prop}{a b:Nat}(h:subm a b=i7)(ht:tin T b):tin T a:=fun j c=>ht j (by
 have e:a ||| b=b:=xg h;rw[<- e,dq,c];rfl)
def je(f:PT IV->IS->Lz Nat->Oq CRes)(mr mw:Nat):Nat->PT IV->IS->Lz Nat->Oq CRes
 | 0,_,_,_=>i6
 | n+1,fr,S,ds=>match f fr S ds with
  | none=>i6
  | some r=>cond (subm r.rd mr&&subm r.wr mw) (match r.e with
   | .normal=>je f mr mw n r.fr r.S r.ds
   | e=>iz ⟨e,r.fr,r.S,r.ds,mr,mw⟩) i6
def fk:fw->Oq Nat
 | .region id _ _=>iz id
 | .seq x y=>match fk x with|some k=>iz k|none=>fk y
 | .cond _ x _=>fk x
 | .block _ c=>fk c
 | .scope c=>fk c
 | .loop c=>fk c
 | _=>i6
def vz(nm:Nat->Oq Nm)(c:fw):Oq (Nat × Nat):=match fk c with
 | some k=>match nm k with
  | some m=>iz (m.lr,m.lw)
  | none=>i6
 | none=>i6
def qcv:fw->Oq IEx
 | .ret=>iz .ret
 | .exit id=>iz (.exit id)
 | .goto l=>iz (.goto l)
 | _=>i6
def ifin(cl:Cl)(f:Nat)(caps:Lz IV)(S:IS)(id:Nat)(fr:PT IV)(ds:Lz Nat)(rd:Nat):Oq CRes :=
 match cl (.fn f) (.yield id::caps) S with
 | none=>i6
 | some r=>match qy r.v with
  | some _=>i6
  | none=>match r.S.heap.get id with
   | some (.loop st pend nt fr2 ps assign body D)=>match st with
    | .busy=>i6
    | _=>match pend with
     | none=>iz ⟨.normal,fr,r.S.set id (.loop .exhausted pend nt fr2 ps assign body D),ds,rd ||| (r.rd ||| 2 ^ id),r.wr ||| 2 ^ id⟩
     | some c=>match qcv c with
      | none=>i6
      | some e=>iz ⟨e,fr,r.S.set id (.loop .exhausted pend nt fr2 ps assign body D),ds,rd ||| (r.rd ||| 2 ^ id),r.wr ||| 2 ^ id⟩
   | _=>i6
def mb(B a:Nat):Nat:=cond (od B 0) 0 a
def mbR(B:Nat)(r:CRes):CRes:=⟨r.e,r.fr,r.S,r.ds,mb B r.rd,mb B r.wr⟩
def mbO(B:Nat):Oq CRes->Oq CRes
 | none=>i6
 | some r=>iz (mbR B r)
theorem c6{B:Nat}{x:Oq CRes}{r:CRes}(h:mbO B x=iz r):∃r0,x=iz r0/\r=mbR B r0:=by
 cases x with
 | none=>cases h
 | some r0=>cases h;exact⟨r0,rfl,rfl⟩
theorem q20{B a:Nat}{T:Nat->Prop}(hT:∀id,B<=id->T id)(h:tin T (mb B a)):tin T a:=by
 unfold mb at h;cases b:od B 0 with
 | true =>
  have:B=0:=xg b;subst this;exact fun j _=>hT j (pm _)
 | false=>rw[b] at h;exact h
def frzF(nm:Nat->Oq Nm):Bool:=match nm 999999 with
 | some _=>i7
 | none=>eb
def mB(nm:Nat->Oq Nm)(B:Nat):Nat:=cond (frzF nm) 0 B
theorem qcc{nm:Nat->Oq Nm}{B a:Nat}{T:Nat->Prop}(hT:∀id,B<=id->T id)(hz:frzF nm=i7->∀id,T id)(h:tin T (mb (mB nm B) a)):tin T a:=by
 unfold mB at h;cases b:frzF nm with
 | true=>rw[b,xa] at h;exact q20 (B:=0) (fun id _=>hz b id) h
 | false=>rw[b,xe] at h;exact q20 hT h
def zh(P:om)(tt:Nat->Oq TI)(nm:Nat->Oq Nm)(B:Nat)(nt:Nat)(cl:Cl)(lf:Nat)(round:Oq Nat):fw->PT IV->IS->Lz Nat->Oq CRes
 | .skip,fr,S,ds=>iz ⟨.normal,fr,S,ds,0,0⟩
 | .label _,fr,S,ds=>iz ⟨.normal,fr,S,ds,0,0⟩
 | .exit id,fr,S,ds=>iz ⟨.exit id,fr,S,ds,0,0⟩
 | .goto l,fr,S,ds=>iz ⟨.goto l,fr,S,ds,0,0⟩
 | .ret,fr,S,ds=>iz ⟨.ret,fr,S,ds,0,0⟩
 | .refuse _,_,_,_=>i6
 | .region id ops draw,fr,S,ds=>mbO (mB nm B) (match jy nt (nm id) B fr S ds with
  | none=>i6
  | some x=>match cond draw (iany P tt nt cl ops.toList x.fr x.S) (iseq P tt nt cl ops.toList ops.toList x.fr x.S) with
   | none=>i6
   | some q=>iz ⟨exP q.p,q.fr,q.S,x.ds,q.rd,x.wr ||| q.wr⟩)
 | .seq x y,fr,S,ds=>match zh P tt nm B nt cl lf round x fr S ds with
  | none=>i6
  | some r=>match r.e with
   | .normal=>match zh P tt nm B nt cl lf round y r.fr r.S r.ds with
    | none=>i6
    | some q=>iz (q.or r.rd r.wr)
   | _=>iz r
 | .cond c x y,fr,S,ds=>match evo nt fr c with
  | some (.bool b)=>cond b (zh P tt nm B nt cl lf round x fr S ds) (zh P tt nm B nt cl lf round y fr S ds)
  | _=>i6
 | .block id c,fr,S,ds=>match zh P tt nm B nt cl lf round c fr S ds with
  | none=>i6
  | some r=>match r.e with
   | .exit id'=>cond (od id' id) (iz ⟨.normal,r.fr,r.S,r.ds,r.rd,r.wr⟩) (iz r)
   | _=>iz r
 | .scope c,fr,S,ds=>match zh P tt nm B nt cl lf round c fr S ds with
  | none=>i6
  | some r=>match r.e with
   | .goto _=>i6
   | _=>iz r
 | .loop c,fr,S,ds=>match vz nm c with
  | some m=>mbO (mB nm B) (je (zh P tt nm B nt cl lf round c) m.1 m.2 lf fr S ds)
  | none=>yo (zh P tt nm B nt cl lf round c) lf fr S ds
 | .rangeFunc g ps assign body,fr,S,ds=>mbO (mB nm B) (match evo nt fr g with
  | some (.fn f caps)=>match round with
   | none=>ifin cl f caps ((S.new (.defs i7)).new (.loop .ready i6 nt fr ps.toList assign body S.next)) (S.next+1) fr (S.next::ds) 0
   | some l=>match S.heap.get l with
    | some (.loop _ _ _ _ _ _ _ D)=>ifin cl f caps (S.new (.loop .ready i6 nt fr ps.toList assign body D)) S.next fr ds (2 ^ l)
    | _=>i6
  | _=>i6)
def qi:fw->Bool
 | .region _ ops draw=>!draw||qiy ops.toList
 | .seq x y=>qi x&&qi y
 | .cond _ x y=>qi x&&qi y
 | .block _ c=>qi c
 | .scope c=>qi c
 | .loop c=>qi c
 | .rangeFunc _ _ x y=>qi x&&qi y
 | _=>i7
def RD(B:Nat)(E:Env)(F:Fence):Oq Nat->Prop
 | none=>F.round=i6
 | some l=>F.round=iz (E.ρ l)/\E.A l/\l<B
def jo:fw->Bool
 | .rangeFunc ..=>i7
 | .seq x y=>jo x||jo y
 | .cond _ x y=>jo x||jo y
 | .block _ c=>jo c
 | .scope c=>jo c
 | .loop c=>jo c
 | _=>eb
theorem RD.monoB{B:Nat}{T:TW}{E E':Env}{S S':IS}(k:PostB B T E S E' S'){F:Fence}{r:Oq Nat}(h:RD B E F r):RD B E' F r:=by
 cases r with
 | none=>exact h
 | some l=>obtain⟨a,b,_⟩:=k.alw l h.2.2 h.2.1;exact⟨by rw[h.1,b],a,h.2.2⟩
section
variable {P : om} {tt : Nat -> Oq TI} {T : TW} {nt lf : Nat} {cl : Cl} {F : Fence} {round : Oq Nat} {nm : Nat -> Oq Nm} {B : Nat}

theorem zmy{E:Env}{c:fw}{e:IEx}{a:Act}{w:oh}{Q:Exit->Act->oh->Prop}(h:qcv c=iz e)(hQ:Q (exOf e) a w):c.wpIn F 0 P Q a w:=by
 cases c<;>try cases h
 ·exact wpIn_exit hQ
 ·exact wpIn_goto hQ
 ·exact wpIn_ret hQ
theorem q6e{f:Nat}{caps:Lz IV}{S:IS}{id:Nat}{fr:PT IV}{ds:Lz Nat}{rd:Nat}{r:CRes}(h:ifin cl f caps S id fr ds rd=iz r)(q:IV):r.e≠.pan q:=by
 unfold ifin at h;split at h
 ·grind
 split at h
 ·grind
 split at h<;>try cases h
 split at h
 ·grind
 ·split at h
  ·grind
  ·split at h
   ·grind
   ·rename_i e a;cases h;intro b;simp only at b;rw[b] at a;unfold qcv at a
    grind
theorem ExR.of{E:Env}{e:IEx}(h:∀q,e≠.pan q):ExR E e (exOf e):=by
 cases e<;>first|rfl|skip
 grind
theorem qy3{Q:Exit->Act->oh->Prop}{f:Nat}{caps:Lz IV}{S S0:IS}{id:Nat}{fr:PT IV}{ds:Lz Nat}{rd:Nat}{r:CRes}{E E0:Env}{us:Lz oc}{a:Act}{l:Nat}(hF:F.plain=ox)(hcl:ClOK P cl)(p0:Pre T E0 S0)(p:Pre T E S)(hp:Post T E0 S0 E S)(hfr:Fresh E0 S0 E)
   (h:ifin cl f caps S id fr ds rd=iz r) (hrd:tin T.r r.rd) (hwr:tin T.w r.wr) (hA:E.A id) (hl:E.ρ id=l) (hv:VRs E caps us)
   (hfn:zg P f->True) (hQ:∀E',E.Le E'->Post T E0 S0 E' r.S->Fresh E0 S0 E'->Q (exOf r.e) a E'.w) (he:r.fr=fr/\r.ds=ds->True) :
   zg P f/\mf F 0 P f (#[.func (.yield l) #[] #[]]++us.toArray) E.w (rangePost F 0 P l Q a):=by
 unfold ifin at h;split at h
 · grind
 rename_i o M;split at h
 · grind
 rename_i N;split at h<;>try cases h
 rename_i Z pend g k v assign body D b
 -- the common part
 have n:∀(r:CRes),Z≠.busy->r.S=o.S.set id (.loop .exhausted pend g k v assign body D)->tin T.r (o.rd ||| 2 ^ id)->tin T.w (o.wr ||| 2 ^ id)->(∀E',E.Le E'->Post T E0 S0 E' r.S->Fresh E0 S0 E'->(match pend with|none=>Q .normal a E'.w|some c=>c.wpIn F 0 P Q a E'.w)) ->
     zg P f/\mf F 0 P f (#[.func (.yield l) #[] #[]]++us.toArray) E.w (rangePost F 0 P l Q a):=by
   intro r i L hrd hwr hQ;obtain⟨Y,t⟩:=zp hrd;obtain⟨X,U⟩:=zp hwr;obtain⟨γ,d⟩:=hcl.fn f _ S o M T E (.func (.yield (E.ρ id)) #[] #[]::us) p Y X (VRs.cons (.yield hA) hv);refine⟨γ,?_⟩;have ζ:(Value.func (.yield (E.ρ id)) #[] #[]::us).toArray=#[.func (.yield l) #[] #[]]++us.toArray:=by rw[hl];simp
   rw[ζ] at d;refine(qhv (m:=0) hF (dc.1 d)).mono fun e w' β=>?_;obtain⟨u,y,rfl,rfl,V,x,I⟩:=β.val N;have z:=x.pre p;have B:=x.env p;obtain⟨K,J,η⟩:=B.alw id hA;obtain⟨fn,tmps,R,ε,δ⟩:=z.st.objs id (zi t) K _ b;rw[J,hl] at R;have C:=run_endLoop (P:=P) R (by simpa using i);have O:=qk R;have W:Live y o.S.H id:=⟨z.st.blk id (zi t) K _ b rfl,_,b,rfl⟩;obtain⟨q1,α⟩:=Post.write z (o':=.loop .exhausted pend g k v assign body D) (zi U) K W (w':=y.w.putObj l (.loop { state:=.exhausted,pending:=pend,fn,tmps,params:=v.toArray,assign,body,defers:=y.ρ D })) (by rw[J,hl];exact Upd.putObj _ _ _)
     ⟨fn,tmps,by
       show _=_;rw[show (y.at_ (y.w.putObj l (.loop { state:=.exhausted,pending:=pend,fn,tmps,params:=v.toArray,assign,body,defers:=y.ρ D }))).ρ id=l from J.trans hl];exact gc O,FR.mono (Env.at_le z.st (zi U) K W (by rw[J,hl];exact Upd.putObj _ _ _)) ε,δ⟩
   have G:=Post.trans p0 hp hfr (Post.trans p x I q1);have q:=hfr.trans (I.trans α x.le) hp.le;have j:E.Le _:=B.trans (q1.env z);refine⟨pend,_,C,?_⟩;have:=hQ _ j (by rw[L];exact G) q;cases pend with
   | none=>exact this
   | some c=>exact this
 split at h
 · grind
 · rename_i i;cases pend with
   | none =>
     simp only at h;cases h;obtain⟨_,t⟩:=zp hrd;exact n ⟨.normal,fr,o.S.set id (.loop .exhausted i6 g k v assign body D),ds,0,0⟩ (fun e=>i e) rfl t hwr hQ
   | some c =>
     simp only at h;cases s:qcv c with
     | none=>rw[s] at h;cases h
     | some e =>
     rw[s] at h;cases h;obtain⟨_,t⟩:=zp hrd;exact n ⟨e,fr,o.S.set id (.loop .exhausted (iz c) g k v assign body D),ds,0,0⟩ (fun e=>i e) rfl t hwr (fun E' V x I=>zmy (E:=E') s (hQ E' V x I))
theorem qp6{f:Nat}(h:zg P f)(args:Array oc)(w:oh):(callFunc f args).run P w=.ok (.enter f args) w:=by
 obtain⟨b,d,e,c⟩:=h;have a:b.body.isNone=eb:=by cases h:b.body<;>simp [h] at e ⊢
 simp only[callFunc,xh,jb1,xb,d,a,c,pu,p9,xd]
theorem nk{N:Nat}(hz:frzF nm=i7->∀id,T.w id)(hm:P.follows .mixedOrders=i7)(hF:F.plain=ox)(hcl:ClOK P cl)(hfr:ClFr cl)(htt:TT P tt):∀(c:fw),qi c=i7->∀{fr:PT IV} {S:IS} {ds:Lz Nat} {E:Env} {a:Act} {r:CRes} {Q:Exit->Act->oh->Prop},
   Pre T E S->B<=S.next->(∀id,B<=id->T.w id)->FR E nt fr a.tmps->DS N E ds a.defers->(jo c=i7->RD B E F round)->zh P tt nm B nt cl lf round c fr S ds=iz r->tin T.r r.rd->tin T.w r.wr ->
   (∀E' a' x,ExR E' r.e x->FR E' nt r.fr a'.tmps->DS N E' r.ds a'.defers->PostB B T E S E' r.S->Q x a' E'.w)->c.wpIn F 0 P Q a E.w:=by
 intro c;induction c with
 | skip=>intro i fr S ds E a r Q p I t s hd d h C G v;cases h;exact wpIn_skip (v E a _ rfl s hd (PostB.refl I t p))
 | label l=>intro i fr S ds E a r Q p I t s hd d h C G v;cases h;exact wpIn_label (v E a _ rfl s hd (PostB.refl I t p))
 | exit id=>intro i fr S ds E a r Q p I t s hd d h C G v;cases h;exact wpIn_exit (v E a _ rfl s hd (PostB.refl I t p))
 | goto l=>intro i fr S ds E a r Q p I t s hd d h C G v;cases h;exact wpIn_goto (v E a _ rfl s hd (PostB.refl I t p))
 | ret=>intro i fr S ds E a r Q p I t s hd d h C G v;cases h;exact wpIn_ret (v E a _ rfl s hd (PostB.refl I t p))
 | refuse _=>intro i fr S ds E a r Q p I t s hd d h C G v;cases h
 | region id ops draw =>
   intro i fr S ds E a r Q p I t s hd d h C G v;simp only[zh] at h;have ω:=c6 h;clear h;obtain⟨r,h,rfl⟩:=ω
   replace C:tin T.r r.rd:=qcc (fun id hi=>T.sub _ (t id hi)) (fun s id=>T.sub _ (hz s id)) C
   replace G:tin T.w r.wr:=qcc t hz G
   replace v:∀E' a' x,ExR E' r.e x->FR E' nt r.fr a'.tmps->DS N E' r.ds a'.defers->PostB B T E S E' r.S->Q x a' E'.w:=v
   split at h
   · grind
   rename_i x hx;split at h<;>cases h;rename_i q φ;obtain⟨ξ,δ⟩:=zp G;obtain⟨J,e1,n1,n2,n3⟩:=zya (a:=a) p I t s hd hx ξ;have τ:=n1.pre t p;have ζ:∀E' a' z,PanR E' q.p z->FR E' nt q.fr a'.tmps->a'.defers=a.defers->Post T J x.S E' q.S->Fresh J x.S E'->Q z a' E'.w:=by
     intro E' a' z n V L H k4;exact v E' a' z n.ex V (by rw[L];exact n3.mono (H.env τ) H.stp.size) (n1.trans (PostB.of n1.le t H k4))
   rw[<- e1];cases draw with
   | true =>
     rw[xa] at φ;have:=zbj (rid:=id) (Q:=Q) hm hF hcl hfr htt (by simpa [qi] using i) τ n2 φ C δ ζ;simpa using this
   | false =>
     rw[xe] at φ;refine wpIn_region_list ?_;have:=qua (Q:=Q) (ops:=ops.toList) hF hcl htt ops.toList x.fr x.S J a q τ n2 φ C δ ζ;simpa using this
 | seq x y ihx ihy =>
   intro i fr S ds E a r Q p I t s hd d h C G v;simp only[qi,xf] at i;simp only[zh] at h;split at h
   · grind
   rename_i r1 M;split at h
   · rename_i K;split at h<;>cases h;rename_i q φ;obtain⟨ξ,δ⟩:=zp C;obtain⟨u3,u4⟩:=zp G;refine wpIn_seq (ihx i.1 p I t s hd (fun h=>d (by simp[jo,h])) M ξ u3 fun E' a' x n V L H=>?_);rw[K] at n;cases n;exact ihy i.2 (H.pre t p) H.le t V L (fun h=>(d (by simp[jo,h])).monoB H) φ δ u4 fun μ κ x m0 m1 m2 m3=>v μ κ x m0 m1 m2 (H.trans m3)
   · rename_i U;cases h;refine wpIn_seq (ihx i.1 p I t s hd (fun h=>d (by simp[jo,h])) M C G fun E' a' x n V L H=>?_);have:=v E' a' x n V L H;cases K:r.e with
     | normal=>exact absurd K U
     | pan p=>rw[K] at n;obtain⟨u,rfl,_⟩:=n;exact this
     | _=>rw[K] at n;cases n;exact this
 | cond c x y ihx ihy =>
   intro i fr S ds E a r Q p I t s hd d h C G v;simp only[qi,xf] at i;simp only[zh] at h;split at h<;>try cases h
   rename_i b hb;have hv:=qpw s hb;generalize K:a.eval c=e at hv;cases hv;cases b with
   | true=>exact wpIn_cond_true K (ihx i.1 p I t s hd (fun h=>d (by simp[jo,h])) h C G v)
   | false=>exact wpIn_cond_false K (ihy i.2 p I t s hd (fun h=>d (by simp[jo,h])) h C G v)
 | block id c ih =>
   intro i fr S ds E a r Q p I t s hd d h C G v;simp only[zh] at h;split at h
   · grind
   rename_i r1 M;split at h
   · rename_i ν K;cases W:od ν id with
     | true =>
       rw[W,xa] at h;cases h;have W:=xg W;refine wpIn_block (ih i p I t s hd d M C G fun E' a' x n V L H=>?_);rw[K] at n;cases n;simp only[exOf,Exit.inBlock,W,dv];exact v E' a' _ rfl V L H
     | false =>
       rw[W,xe] at h;cases h;have W:¬ν=id:=fun e=>by rw[wk e] at W;cases W
       refine wpIn_block (ih i p I t s hd d M C G fun E' a' x n V L H=>?_);have:=v E' a' x n V L H;rw[K] at n;cases n;simp only[exOf,Exit.inBlock,W,p9];exact this
   · rename_i U;cases h;refine wpIn_block (ih i p I t s hd d M C G fun E' a' x n V L H=>?_);have:=v E' a' x n V L H;cases K:r.e with
     | exit ν=>exact absurd K (U ν)
     | pan p=>rw[K] at n;obtain⟨u,rfl,_⟩:=n;exact this
     | _=>rw[K] at n;cases n;exact this
 | scope c ih =>
   intro i fr S ds E a r Q p I t s hd d h C G v;simp only[zh] at h;split at h
   · grind
   rename_i r1 M;split at h
   · grind
   · rename_i U;cases h;refine zj0 (ih i p I t s hd d M C G fun E' a' x n V L H=>?_);have:=v E' a' x n V L H;cases K:r.e with
     | goto l=>exact absurd K (U l)
     | pan p=>rw[K] at n;obtain⟨u,rfl,_⟩:=n;exact this
     | _=>rw[K] at n;cases n;exact this
 | loop c ih =>
   intro i fr S ds E a r Q p I t s hd d h C G v;simp only[zh] at h;split at h
   · rename_i m hm';have ω:=c6 h;clear h;obtain⟨r,h,rfl⟩:=ω
     replace C:tin T.r r.rd:=qcc (fun id hi=>T.sub _ (t id hi)) (fun s id=>T.sub _ (hz s id)) C
     replace G:tin T.w r.wr:=qcc t hz G
     replace v:∀E' a' x,ExR E' r.e x->FR E' nt r.fr a'.tmps->DS N E' r.ds a'.defers->PostB B T E S E' r.S->Q x a' E'.w:=v
     refine qzw (fun j a w=>∃(fr:PT IV) (β:IS) (ds:Lz Nat) (J:Env) (r:CRes),je (zh P tt nm B nt cl lf round c) m.1 m.2 j fr β ds=iz r/\Pre T J β/\B<=β.next/\FR J nt fr a.tmps/\DS N J ds a.defers/\(jo c=i7->RD B J F round)/\tin T.r r.rd/\tin T.w r.wr/\J.w=w /\
       (∀E' a' x,ExR E' r.e x->FR E' nt r.fr a'.tmps->DS N E' r.ds a'.defers->PostB B T J β E' r.S->Q x a' E'.w)) ?_ (fun a w hI=>by obtain⟨_,_,_,_,_,h,_⟩:=hI;cases h) lf a E.w ⟨fr,S,ds,E,r,h,p,I,s,hd,d,C,G,rfl,v⟩
     rintro j a w ⟨fr,β,ds,J,r,h,p,I,s,hd,d,C,G,rfl,v⟩;have hmask:∀(j:Nat) (fr:PT IV) (β:IS) (ds:Lz Nat) (r:CRes),je (zh P tt nm B nt cl lf round c) m.1 m.2 j fr β ds=iz r->r.rd=m.1/\r.wr=m.2:=by
       intro j;induction j with
       | zero=>intro fr β ds r h;cases h
       | succ j ihj =>
         intro fr β ds r h;unfold je at h
         grind
     obtain⟨g1,g2⟩:=hmask _ _ _ _ _ h;unfold je at h;split at h
     · grind
     rename_i r1 M;cases hb:(subm r1.rd m.1&&subm r1.wr m.2) with
     | false=>rw[hb] at h;cases h
     | true =>
     rw[hb,xa] at h;simp only[xf] at hb;rw[g1] at C;rw[g2] at G;have ξ:=qtl hb.1 C;have u3:=qtl hb.2 G;split at h
     · rename_i K;refine ih i p I t s hd d M ξ u3 fun E' a' x n V L H=>?_;rw[K] at n;cases n;exact⟨_,_,_,E',r,h,H.pre t p,H.le,V,L,fun h=>(d h).monoB H,by rw[g1];exact C,by rw[g2];exact G,rfl,fun μ κ x m0 m1 m2 m3=>v μ κ x m0 m1 m2 (H.trans m3)⟩
     · rename_i U;cases h;refine ih i p I t s hd d M ξ u3 fun E' a' x n V L H=>?_;have:=v E' a' x n V L H;cases K:r1.e with
       | normal=>exact absurd K U
       | pan p=>rw[K] at n;obtain⟨u,rfl,_⟩:=n;exact this
       | _=>rw[K] at n;cases n;exact this
   refine qzw (fun j a w=>∃(fr:PT IV) (β:IS) (ds:Lz Nat) (J:Env) (r:CRes),yo (zh P tt nm B nt cl lf round c) j fr β ds=iz r/\Pre T J β/\B<=β.next/\FR J nt fr a.tmps/\DS N J ds a.defers/\(jo c=i7->RD B J F round)/\tin T.r r.rd/\tin T.w r.wr/\J.w=w /\
     (∀E' a' x,ExR E' r.e x->FR E' nt r.fr a'.tmps->DS N E' r.ds a'.defers->PostB B T J β E' r.S->Q x a' E'.w)) ?_ (fun a w hI=>by obtain⟨_,_,_,_,_,h,_⟩:=hI;cases h) lf a E.w ⟨fr,S,ds,E,r,h,p,I,s,hd,d,C,G,rfl,v⟩
   rintro j a w ⟨fr,β,ds,J,r,h,p,I,s,hd,d,C,G,rfl,v⟩;unfold yo at h;split at h
   · grind
   rename_i r1 M;split at h
   · rename_i K;split at h<;>cases h;rename_i q φ;obtain⟨ξ,δ⟩:=zp C;obtain⟨u3,u4⟩:=zp G;refine ih i p I t s hd d M ξ u3 fun E' a' x n V L H=>?_;rw[K] at n;cases n;exact⟨_,_,_,E',q,φ,H.pre t p,H.le,V,L,fun h=>(d h).monoB H,δ,u4,rfl,fun μ κ x m0 m1 m2 m3=>v μ κ x m0 m1 m2 (H.trans m3)⟩
   · rename_i U;cases h;refine ih i p I t s hd d M C G fun E' a' x n V L H=>?_;have:=v E' a' x n V L H;cases K:r.e with
     | normal=>exact absurd K U
     | pan p=>rw[K] at n;obtain⟨u,rfl,_⟩:=n;exact this
     | _=>rw[K] at n;cases n;exact this
 | rangeFunc g ps assign body ih1 ih2 =>
   intro i fr S ds E a r Q p I t s hd d h C G v;simp only[zh] at h;have ω:=c6 h;clear h;obtain⟨r,h,rfl⟩:=ω
   replace C:tin T.r r.rd:=qcc (fun id hi=>T.sub _ (t id hi)) (fun s id=>T.sub _ (hz s id)) C
   replace G:tin T.w r.wr:=qcc t hz G
   replace v:∀E' a' x,ExR E' r.e x->FR E' nt r.fr a'.tmps->DS N E' r.ds a'.defers->PostB B T E S E' r.S->Q x a' E'.w:=v
   split at h<;>try cases h
   rename_i f ι hg;have hv:=qpw s hg;generalize K:a.eval g=eg at hv;cases hv with
   | fn hl hh =>
   rename_i us;have η:VRs E ι us:=⟨hl,hh⟩;have υ:∀(l:Nat) (w:oh),(resolve a.eval (rangeCall g l) 0).run P w=.ok { target:=.fn (.func f) us.toArray,args:=#[.func (.yield l) #[] #[]] } w:=fun l w=>by
     simp only[resolve,K];simp[go_sem,ma,Act.eval]
   have χ:zg P f->∀(l:Nat) (w:oh),(invoke (.fn (.func f) us.toArray) #[.func (.yield l) #[] #[]]).run P w=.ok (.enter f (#[.func (.yield l) #[] #[]]++us.toArray)) w:=fun hC l w=>by
     simp only[invoke];exact qp6 hC _ w
   have ψ:∀{x},F.depth.isSome=i7->x:=fun ω=>by rw[qav hF] at ω;cases ω
   split at h
   · -- an outermost loop
     have Y:F.round=i6:=d rfl;refine wpIn_rangeFunc fun fn hfn=>?_;obtain⟨q1,q2⟩:=Post.new p (k:=0) (hd:=.tuple #[]) (o:=.defs i7) (w':=E.w.alloc (.deferred (iz []))) (Upd.alloc _ _) (by simp) (by
       show _=_;simp only[Env.with_,zj];exact rm E.w _)
     have τ:=q1.pre p;have hρ1:(E.with_ S.next 0 (.tuple #[]) (E.w.alloc (.deferred (iz [])))).ρ S.next=E.w.heap.size:=zj _ _ _
     have θ:(E.with_ S.next 0 (.tuple #[]) (E.w.alloc (.deferred (iz [])))).A S.next:=ig rfl
     obtain⟨J,hE1⟩:∃J,E.with_ S.next 0 (.tuple #[]) (E.w.alloc (.deferred (iz [])))=J:=⟨_,rfl⟩
     rw[hE1] at q1 q2 τ hρ1 θ;have hw1:J.w=E.w.alloc (.deferred (iz [])):=by rw[<- hE1];rfl
     have U:¬J.A (S.next+1):=fun h=>rf _ (τ.bnd _ h);obtain⟨R,Z⟩:∃R,J.w.alloc (.loop { state:=.ready,pending:=i6,fn,tmps:=a.tmps,params:=ps,assign,body,defers:=E.w.heap.size })=R:=⟨_,rfl⟩;have δ:Upd [] J.w R:=by rw[<- Z];exact Upd.alloc _ _
     have O:=Env.with_le (k:=0) (hd:=.tuple #[]) U δ;obtain⟨σ,q4⟩:=Post.new τ (k:=0) (hd:=.tuple #[]) (o:=.loop .ready i6 nt fr ps.toList assign body S.next) (w':=R) δ (by rw[<- Z];simp) ⟨fn,a.tmps,by
         rw[show (J.with_ (S.new (.defs i7)).next 0 (.tuple #[]) R).ρ (S.new (.defs i7)).next=J.w.heap.size from zj _ _ _];show R.heap[J.w.heap.size]?=_;rw[show R.heap[J.w.heap.size]?=iz (.loop { state:=.ready,pending:=i6,fn,tmps:=a.tmps,params:=ps,assign,body,defers:=E.w.heap.size }) from by rw[<- Z];exact rm _ _];rw[show (J.with_ (S.new (.defs i7)).next 0 (.tuple #[]) R).ρ S.next=E.w.heap.size from ((O.alw _ θ).2.1).trans hρ1],(s.mono (q1.env p)).mono O,(O.alw _ θ).1⟩
     have p2:=σ.pre τ;have q5:=Post.trans p q1 q2 σ;have q6:=q2.trans q4 q1.le;obtain⟨γ,X⟩:∃γ,J.with_ (S.new (.defs i7)).next 0 (.tuple #[]) R=γ:=⟨_,rfl⟩
     have hρ2:γ.ρ (S.next+1)=E.w.heap.size+1:=by
       rw[<- X];have:(J.with_ (S.new (.defs i7)).next 0 (.tuple #[]) R).ρ (S.next+1)=J.w.heap.size:=zj _ _ _;rw[this,hw1];simp
     have hA2:γ.A (S.next+1):=by rw[<- X];exact ig rfl
     have hρD:γ.ρ S.next=E.w.heap.size:=by rw[<- X];exact((O.alw _ θ).2.1).trans hρ1
     have hAD:γ.A S.next:=by rw[<- X];exact(O.alw _ θ).1
     rw[X] at σ q4 p2 q5 q6;have hw2:γ.w=R:=by rw[<- X];rfl
     have hc2:VRs γ ι us:=η.mono (q5.env p);have hnp:∀q,r.e≠.pan q:=q6e h;have α:=qy3 (Q:=Q) (a:={ a with defers:=[({ target:=.collected E.w.heap.size,args:=#[] }:ip)]++a.defers }) (l:=E.w.heap.size+1) hF hcl p p2 q5 q6 h C G hA2 hρ2 hc2 (fun _=>trivial) (fun E' V L H=>by
       have ε:r.fr=fr/\r.ds=S.next::ds:=by
         unfold ifin at h;split at h
         · grind
         grind
       refine v E' _ _ (ExR.of hnp) (by rw[ε.1];exact s.mono (L.env p)) ?_ (PostB.of I t L H);rw[ε.2];have hsz:=L.stp.size;obtain⟨d1,d2,W,d3,d4,d5⟩:=hd.mono (L.env p) L.stp.size;obtain⟨b1,b2,_⟩:=V.alw _ hAD;refine⟨d1,fun D hD=>?_,W,?_,d4,d5⟩
       · rcases po.1 hD with h|h
         · rw[h,b2,hρD];exact⟨b1,hd.le⟩
         · grind
       · simp only[ga,rn,jag,b2,hρD,d3]) (fun _=>trivial)
     refine⟨E.w.heap.size+1,[{ target:=.collected E.w.heap.size,args:=#[] }],R,_,R,f,_,R,?_,υ _ _,fun _ _=>c7 hF _,χ α.1 _ _,ψ,?_⟩
     · rw[Y];have:=run_enterLoop_outer (P:=P) (w:=E.w) fn a.tmps ps assign body;rw[this,<- Z,hw1]
     · have:=α.2;rw[hw2] at this;exact this
   · -- within a round
     rename_i l0;split at h<;>try cases h
     rename_i st0 pd0 nt0 fr0 ps0 as0 bd0 D hobj;have Y:F.round=iz (E.ρ l0):=(d rfl).1;have hA0:=(d rfl).2.1;have hrd0:tin T.r (2 ^ l0):=by
       unfold ifin at h;split at h
       · cases h
       split at h
       · cases h
       split at h<;>try cases h
       split at h
       · cases h
       · split at h
         · cases h;exact(zp C).1
         · split at h<;>cases h;exact(zp C).1
     obtain⟨fn0,tmps0,g1,g2,g3⟩:=p.st.objs l0 (zi hrd0) hA0 _ hobj;refine wpIn_rangeFunc fun fn hfn=>?_;have U:¬E.A S.next:=fun h=>rf _ (p.bnd _ h)
     obtain⟨R,Z⟩:∃R,E.w.alloc (.loop { state:=.ready,pending:=i6,fn,tmps:=a.tmps,params:=ps,assign,body,defers:=E.ρ D })=R:=⟨_,rfl⟩;have δ:Upd [] E.w R:=by rw[<- Z];exact Upd.alloc _ _
     have O:=Env.with_le (k:=0) (hd:=.tuple #[]) U δ;obtain⟨σ,q4⟩:=Post.new p (k:=0) (hd:=.tuple #[]) (o:=.loop .ready i6 nt fr ps.toList assign body D) (w':=R) δ (by rw[<- Z];simp) ⟨fn,a.tmps,by
         rw[show (E.with_ S.next 0 (.tuple #[]) R).ρ S.next=E.w.heap.size from zj _ _ _];show R.heap[E.w.heap.size]?=_;rw[show R.heap[E.w.heap.size]?=iz (.loop { state:=.ready,pending:=i6,fn,tmps:=a.tmps,params:=ps,assign,body,defers:=E.ρ D }) from by rw[<- Z];exact rm _ _];rw[show (E.with_ S.next 0 (.tuple #[]) R).ρ D=E.ρ D from (O.alw _ g3).2.1],s.mono O,(O.alw _ g3).1⟩
     have p2:=σ.pre p;obtain⟨γ,X⟩:∃γ,E.with_ S.next 0 (.tuple #[]) R=γ:=⟨_,rfl⟩
     have hρ2:γ.ρ S.next=E.w.heap.size:=by rw[<- X];exact zj _ _ _
     have hA2:γ.A S.next:=by rw[<- X];exact ig rfl
     rw[X] at σ q4 p2;have hw2:γ.w=R:=by rw[<- X];rfl
     have hc2:VRs γ ι us:=η.mono (σ.env p);have hnp:∀q,r.e≠.pan q:=q6e h;have α:=qy3 (Q:=Q) (a:={ a with defers:=[]++a.defers }) (l:=E.w.heap.size) hF hcl p p2 σ q4 h C G hA2 hρ2 hc2 (fun _=>trivial) (fun E' V L H=>by
       have ε:r.fr=fr/\r.ds=ds:=by
         unfold ifin at h;split at h
         · cases h
         split at h
         · cases h
         split at h<;>try cases h
         split at h
         · cases h
         · split at h
           · cases h;exact⟨rfl,rfl⟩
           · split at h<;>cases h;exact⟨rfl,rfl⟩
       refine v E' _ _ (ExR.of hnp) (by rw[ε.1];exact s.mono (L.env p)) ?_ (PostB.of I t L H);rw[ε.2];exact hd.mono (L.env p) L.stp.size) (fun _=>trivial)
     refine⟨E.w.heap.size,[],R,_,R,f,_,R,?_,υ _ _,fun _ _=>c7 hF _,χ α.1 _ _,ψ,?_⟩
     · rw[Y];have:=run_enterLoop_inner (P:=P) g1 fn a.tmps ps assign body;rw[this,<- Z]
     · have:=α.2;rw[hw2] at this;exact this
end
end Go.Jx
end

noncomputable section
namespace Go.Jx
open Go Go.Sx Go.RowKit
universe u

structure FI where
 nt:Nat
 res:List iu
 body:fw
def FT (P:om) (ft:Nat->Oq FI):Prop:=∀f fi,ft f=iz fi->∃fn,P.funcs[f]?=iz fn/\fn.body=iz fi.body/\fn.ntmps=fi.nt/\fn.results=fi.res.toArray/\(fn.name == "runtime.NumGoroutine") = eb/\qi fi.body=i7

def zk:Lz IV->Nat->PT IV->PT IV
 | [],_,fr=>fr
 | v::vs,i,fr=>zk vs (i+1) (fr.set v i)
theorem zaq:∀(vs:Lz IV) (i:Nat) (fr:PT IV) (t:Nat),slot (zk vs i fr) t=if t<i then slot fr t else if t<i+vs.length then vs.getD (t-i) .unk else slot fr t
 | [],i,fr,t=>by
  simp only[zk,rh,g8]
  grind
 | v::vs,i,fr,t=>by
  unfold zk;rw[zaq vs (i+1)];simp only[xw];by_cases h1:t<i
  ·rw[xx (by omega),xx h1,vp,xr (by omega)]
  ·rw[xr h1];by_cases h2:t=i
   ·subst h2;rw[xx (by omega),xx (by omega),vp,xx rfl];simp
   ·rw[xr (by omega)];by_cases h3:t<i+1+vs.length
    ·grind
    ·rw[xr h3,xr (by omega),vp,xr h2]
theorem FR.enter{E:Env}{nt:Nat}{vs:Lz IV}{us:Lz oc}(h:VRs E vs us)(hl:vs.length<=nt):FR E nt (zk vs 0 .leaf) (us.toArray++fg (nt-us.toArray.size) undef):=by
 have c:=h.1;refine⟨by simp;omega,fun t d=>?_⟩;rw[zaq,xr (by omega),x6,rz];by_cases a:t<vs.length
 ·rw[xx a];have:=h.2 t a (by omega);have e:vs.getD t .unk=vs[t]:=by simp[xn,a]
  have b:(us.toArray++fg (nt-us.toArray.size) undef).getD t undef=us[t]'(by omega):=by
   rw[rc,Array.getElem?_append_left (by simp;omega)]
   grind
  grind
 ·rw[xr a];have b:(us.toArray++fg (nt-us.toArray.size) undef).getD t undef=undef:=by
   rw[rc,Array.getElem?_append_right (by simp;omega)]
   grind
  rw[b];exact .unk _

section
variable {P : om} {tt : Nat -> Oq TI} {T : TW} {E : Env} {S : IS} {nt : Nat} {fr : PT IV}
theorem zba{ty:ov}{id off:Nat}{ux:oc}{r:Res}(htt:TT P tt)(p:Pre T E S)(h:yk tt S ty (.ptr id off)=iz r)(hr:tin T.r r.rd)(hx:VR E (.ptr id off) ux):∃u,(do loadVar ty (<- asAddr ux)).run P E.w=.ok u E.w/\VR E r.v u:=by
 simp only[yk] at h;cases hx with
 | ptr hA =>
 have b:∀u,(af ty (.pointer (iz ⟨E.ρ id,off,i6⟩))).run P E.w=.ok u E.w->(do loadVar ty (<- asAddr (.pointer (iz ⟨E.ρ id,off,i6⟩)))).run P E.w=.ok u E.w:=fun u s=>by
  simp only[af,mh,xh,xd,xb] at s;simp only[asAddr,xh,xd,xb,s]
 split at h
 ·grind
 rename_i f m;have g:=htt _ _ m;split at h<;>try cases h
 rotate_left
 ·rename_i G c;cases d:(od off 1&&qv f.und) with
  | false=>rw[d] at h;cases h
  | true =>
   rw[d,xa] at h;cases h;simp only[xf] at d;have k:=xg d.1;subst k;obtain⟨q,v,y,F,x⟩:=p.st.objs id (zi hr) hA _ c;exact⟨v,b v (qcm g d.2 ((qk0 y 1).trans rfl)),x⟩
 rename_i o c;cases e:qv f.und with
 | true =>
  rw[e,xa] at h;split at h<;>cases h;rename_i v z;obtain⟨a,t,k,D,C,n⟩:=bf p (zi hr) hA c;obtain⟨u,l,B⟩:=q1n k n z;exact⟨u,b u (qcm g e l),B⟩
 | false =>
  rw[e,xe] at h;cases d:og (off+f.sz) o.length with
  | false=>rw[d] at h;cases h
  | true =>
   rw[d,xa] at h;cases h;have A:=xk d;obtain⟨a,t,k,D,C,n⟩:=bf p (zi hr) hA c;have l:=(n.drop off).take f.sz;have i:(((a.toList.take o.length).drop off).take f.sz).length=f.sz:=by simp;omega
   refine⟨.agg (((a.toList.take o.length).drop off).take f.sz).toArray,b _ (qlv g e rfl i fun j H=>?_),.agg l.1 l.2⟩;have I:E.w.cell? ⟨E.ρ id,off+j,i6⟩=a.toList[off+j]?:=by simp[fu,k]
   grind
def ires(tt:Nat->Oq TI)(nt:Nat)(fr:PT IV)(S:IS):Lz iu->Oq (Lz IV × Nat)
 | []=>iz ([],0)
 | .tmp t::l=>cond (oo t nt) (match ires tt nt fr S l with
  | some (vs,rd)=>iz (slot fr t::vs,rd)
  | none=>i6) i6
 | .cell t ty::l=>cond (oo t nt) (match (match slot fr t with|.ptr id off=>yk tt S ty (.ptr id off)|_=>i6) with
  | some r=>match ires tt nt fr S l with
   | some (vs,rd)=>iz (r.v::vs,r.rd ||| rd)
   | none=>i6
  | none=>i6) i6
theorem qmt(htt:TT P tt)(p:Pre T E S){tmps:Array oc}(hf:FR E nt fr tmps):∀{l:Lz iu} {vs:Lz IV} {rd:Nat},ires tt nt fr S l=iz (vs,rd)->tin T.r rd->∃us,(l.mapM (qft tmps)).run P E.w=.ok us E.w/\VRs E vs us
 | [],vs,rd,h,hr=>by cases h;exact⟨[],rfl,VRs.nil⟩
 | .tmp t::l,vs,rd,h,hr=>by
  unfold ires at h;cases hb:oo t nt with
  | false=>rw[hb] at h;cases h
  | true =>
  rw[hb,xa] at h;split at h<;>cases h;rename_i vs rd hvs;obtain⟨us,h1,h2⟩:=qmt htt p hf hvs hr;refine⟨tmps.getD t undef::us,?_,VRs.cons (hf.get t (by simpa using hb)) h2⟩;simp only[List.mapM_cons,xh,qft,xd,xb,h1]
 | .cell t ty::l,vs,rd,h,hr=>by
  unfold ires at h;cases hb:oo t nt with
  | false=>rw[hb] at h;cases h
  | true =>
  rw[hb,xa] at h;split at h<;>try cases h
  rename_i r hl;split at h<;>cases h;rename_i vs rd hvs;obtain⟨t1,t2⟩:=zp hr;obtain⟨us,h1,h2⟩:=qmt htt p hf hvs t2;split at hl<;>try cases hl
  rename_i id off hsl;have hft:=hf.get t (by simpa using hb);rw[hsl] at hft;obtain⟨u,k1,k2⟩:=zba htt p hl t1 hft;refine⟨u::us,?_,VRs.cons k2 h2⟩;have k1':(qft tmps (.cell t ty)).run P E.w=.ok u E.w:=k1;simp only[List.mapM_cons,xh,k1',xb,h1,xd]
def tupI:Lz IV->IV
 | [v]=>v
 | vs=>.tup vs
theorem q9c{fn:Func}{rs:Lz iu}{tmps:Array oc}{us:Lz oc}{w:oh}(hr:fn.results=rs.toArray)(h:(rs.mapM (qft tmps)).run P w=.ok us w):(results fn tmps).run P w=.ok (qbm us) w:=by
 have e:results fn tmps=(do
   let vs <- rs.toArray.mapM (qft tmps)
   pure (if h:vs.size=1 then vs[0] else .tuple vs)):=by
  unfold results;rw[hr];rfl
 rw[e,List.mapM_toArray];simp only[xh,q9m,h,xb,xd];cases us with
 | nil=>simp [qbm]
 | cons v vs=>cases vs<;>simp [qbm]
theorem q3o{vs:Lz IV}{us:Lz oc}(h:VRs E vs us):VR E (tupI vs) (qbm us):=by
 cases vs with
 | nil=>have:=h.1;cases us<;>simp at this;exact .tup (us:=[]) rfl (fun i h=>by simp at h)
 | cons v vs =>
  obtain⟨u,us,rfl,b,a⟩:=h.inv;cases vs with
  | nil=>have:=a.1;cases us<;>simp at this;exact b
  | cons v2 vs =>
   obtain⟨c,us,rfl,e,d⟩:=a.inv;exact .tup h.1 h.2

def ul:Lz Nat->IS->Oq (IS × Nat)
 | [],S=>iz (S,0)
 | D::ds,S=>match S.heap.get D with
  | some (.defs i7)=>match ul ds (S.set D (.defs eb)) with
   | some (S',wr)=>iz (S',2 ^ D ||| wr)
   | none=>i6
  | _=>i6
structure Env.Lc (E E':Env):Prop where
 alw:∀id,E.A id->E'.A id/\E'.ρ id=E.ρ id/\E'.κ id=E.κ id/\E'.hd id=E.hd id/\E'.hb id=E.hb id
 kc:∀(b:Nat) (cells:Array oc) (t:ov) (fz:Nat × Nat),b ∉ E.m->E.w.heap[b]?=iz (.cells cells t fz)->b ∉ E'.m/\E'.w.heap[b]?=iz (.cells cells t fz)
theorem VR.lc{E E':Env}(e:E.Lc E'){v:IV}{u:oc}(h:VR E v u):VR E' v u:=by
 induction h with
 | unk u=>exact .unk u
 | bool b=>exact .bool b
 | int k n h=>exact .int k n h
 | str s h=>exact .str s h
 | lst0 h=>exact .lst0 h
 | lst us h1 h2 h3 hb hh hc _ ih =>
  obtain⟨f,d⟩:=e.kc _ _ _ _ hb hh;exact .lst us h1 h2 h3 f d hc ih
 | eptr us hb hh hc _ ih =>
  obtain⟨f,d⟩:=e.kc _ _ _ _ hb hh;exact .eptr us f d hc ih
 | arr hA hh=>obtain⟨a,c,g,i,j⟩:=e.alw _ hA;exact .arr a (i.trans hh)
 | aptr hA=>obtain⟨a,c,_⟩:=e.alw _ hA;rw[<- c];exact .aptr a
 | nilsl=>exact .nilsl
 | sl cap hA h1 h2 h3 h4 h5 =>
  obtain⟨a,c,g,_⟩:=e.alw _ hA;rw[<- c];exact .sl cap a h1 h2 (by rw[g];exact h3) h4 (by rw[g];exact h5)
 | nilptr=>exact .nilptr
 | gp hg=>exact .gp hg
 | ptr hA=>obtain⟨a,c,_⟩:=e.alw _ hA;rw[<- c];exact .ptr a
 | nilmap=>exact .nilmap
 | map hA=>obtain⟨a,c,_⟩:=e.alw _ hA;rw[<- c];exact .map a
 | nilfn=>exact .nilfn
 | fn hl _ ih=>exact .fn hl ih
 | bfn hl _ ih=>exact .bfn hl ih
 | yield hA=>obtain⟨a,c,_⟩:=e.alw _ hA;rw[<- c];exact .yield a
 | nili=>exact .nili
 | iface _ ih=>exact .iface ih
 | agg hl _ ih=>exact .agg hl ih
 | tup hl _ ih=>exact .tup hl ih
theorem VRs.lc{E E':Env}(e:E.Lc E'){cs:Lz IV}{us:Lz oc}(h:VRs E cs us):VRs E' cs us:=⟨h.1,fun i a b=>(h.2 i a b).lc e⟩
theorem FR.lc{E E':Env}(e:E.Lc E'){n:Nat}{fr:PT IV}{tmps:Array oc}(h:FR E n fr tmps):FR E' n fr tmps:=⟨h.size,fun t a=>(h.get t a).lc e⟩
theorem ARel.lc{E E':Env}(e:E.Lc E'){c:TC}{l:Lz (El c)}{cells:Array oc}(h:ARel E c l cells):ARel E' c l cells:=by
 obtain⟨d,g,f⟩:=h;exact⟨d,g,fun i a j b=>(f i a j b).lc e⟩
theorem OR.lc{E E':Env}(e:E.Lc E'){id:Nat}{o:IObj}(hA:E.A id)(hB:o.blk=i7->E.hb id=i7)(hs:o.live=i7->E.hb id=i7->E'.w.heap[E.ρ id]?=E.w.heap[E.ρ id]?)(h:OR E id o):OR E' id o:=by
 obtain⟨K,m,J,y,I⟩:=e.alw id hA;cases o with
 | dead=>trivial
 | frz c l=>show VR E' (.lst c l) (E'.hd id);rw[y];exact VR.lc e h
 | row cs=>obtain⟨b,t,g,f,d,n⟩:=h;exact⟨b,t,by rw[m,hs rfl (hB rfl),g],by rw[J,f],d,n.lc e⟩
 | arr c l =>
  obtain⟨a,u,g,f,d,n,r⟩:=h;refine⟨a,u,by rw[y,g],f,d,n,?_⟩;rcases r with ⟨r,x⟩|⟨r,x,b,t,C,B,z⟩
  ·grind
  ·exact .inr ⟨by rw[I,r],by rw[m,x],b,t,by rw[m,hs rfl r,C],B,z.lc e⟩
 | map es=>obtain⟨i,c,g,f,d,n⟩:=h;exact⟨i,c,by rw[m,hs rfl (hB rfl),g],f.lc e,d.lc e,n⟩
 | tmap k v es=>obtain⟨i,c,g,f,d,n⟩:=h;exact⟨i,c,by rw[m,hs rfl (hB rfl),g],f.lc e,d.lc e,n⟩
 | iter s p=>show _/\_;rw[m,hs rfl (hB rfl)];exact h
 | defs on=>show _=_;rw[m,hs rfl (hB rfl)];exact h
 | bld j=>obtain⟨p,v,g,f,d⟩:=h;exact⟨p,v,by rw[m,hs rfl (hB rfl),g],by rw[m];exact f,d.lc e⟩
 | loop st pend nt fr ps assign body D =>
  obtain⟨F,q,g,f,d⟩:=h;obtain⟨H,G,_⟩:=e.alw D d;exact⟨F,q,by rw[m,hs rfl (hB rfl),g,G],f.lc e,H⟩
theorem zii{B:Nat}{E0:Env}{S0':IS}{b:Nat}(p:Pre T E S)(hB:E0.w.heap.size<=b)(hm:b ∉ E.m)(hh:E.w.heap[b]?=iz (.deferred (iz [])))(k:PostB B T E0 S0' E S) :
  PostB B T E0 S0' (E.at_ (E.w.putObj b (.deferred i6))) S/\Pre T (E.at_ (E.w.putObj b (.deferred i6))) S/\E.Lc (E.at_ (E.w.putObj b (.deferred i6))):=by
 have i:E.Lc (E.at_ (E.w.putObj b (.deferred i6))):=⟨fun C h=>⟨h,rfl,rfl,rfl,rfl⟩,fun c f t A s d=>⟨s,by
  show (E.w.putObj b (.deferred i6)).heap[c]?=_;rw[di (fun e=>by rw[e] at d;rw[hh] at d;cases d)];exact d⟩⟩
 have g:St T.r (E.at_ (E.w.putObj b (.deferred i6))) S.H:=by
  refine⟨fun j n l o q=>?_,p.st.blk,p.st.own,p.st.inj,fun c a=>?_⟩
  ·refine(p.st.objs j n l o q).lc i l (p.st.blk j n l o q) fun x y=>?_;have:=p.st.own j n l ⟨y,o,q,x⟩;exact di (fun e=>hm (by rw[<- e];exact this))
  ·show c<(E.w.putObj b (.deferred i6)).heap.size;have:=p.st.lo c a;simpa using this
 refine⟨⟨g,k.os,k.tape,k.output,?_,fun c a v=>?_,k.alw,k.new,k.old,k.memo,k.mem,k.bnd,k.le,k.fr⟩,⟨g,p.bnd,p.nw,⟨fun c a=>?_⟩⟩,i⟩
 ·show _<=(E.w.putObj b (.deferred i6)).heap.size;have:=k.size;simpa using this
 ·show (E.w.putObj b (.deferred i6)).heap[c]?=_;rw[di (by omega)];exact k.same c a v
 ·obtain⟨s,o,d,u⟩:=p.gl.h c a;refine⟨s,o,?_,u⟩;show (E.w.putObj b (.deferred i6)).heap[c]?=_;rw[di (fun e=>by
   rw[e,hh] at d;obtain⟨f,t,A,z,_⟩:=u;rw[z] at d;cases d)]
  exact d
theorem qxh{fn:Func}{tmps:Array oc}{R:aw->oh->Prop}{B:Nat}{E0:Env}{S0':IS}{md:FrameMode}(hmd:md≠.run):∀{hid:Lz Nat} {E:Env},Pre T E S->PostB B T E0 S0' E S->hid.Nodup->(∀b∈hid,E0.w.heap.size<=b/\b ∉ E.m/\E.w.heap[b]?=iz (.deferred (iz []))) ->
  (∀E',PostB B T E0 S0' E' S->Pre T E' S->(∀v u,VR E v u->VR E' v u)->il ox 0 P fn tmps R [] md E'.w)->il ox 0 P fn tmps R (hidL hid) md E.w
 | [],E,p,k,_,_,hk=>hk E k p fun _ _ h=>h
 | b::hid,E,p,k,hn,hh,hk=>by
  obtain⟨h1,h2,h3⟩:=hh b x8;obtain⟨g1,g2,g3⟩:=zii p h1 h2 h3 k;obtain⟨n1,n2⟩:=jbj.1 hn;refine⟨hmd,.inl ⟨b,_,rfl,run_takeDeferred h3,?_⟩⟩;refine qxh hmd (E:=E.at_ (E.w.putObj b (.deferred i6))) g2 g1 n2 (fun b' hb'=>?_) fun E' k1 k2 k3=>hk E' k1 k2 fun v u hv=>k3 v u (hv.lc g3);obtain⟨c1,c2,c3⟩:=hh b' (xv _ hb');refine⟨c1,c2,?_⟩;show (E.w.putObj b (.deferred i6)).heap[b']?=_;rw[di (fun e=>n1 (by rw[<- e];exact hb'))]
  grind
theorem qgf{fn:Func}{tmps:Array oc}{R:aw->oh->Prop}{B N:Nat}{E0:Env}{S0':IS}{md:FrameMode}(hmd:md≠.run)(hN:E0.w.heap.size<=N)(hT:∀id,B<=id->T.w id):∀{ds:Lz Nat} {S S':IS} {E:Env} {dl:Lz ip} {wr:Nat},Pre T E S->DS N E ds dl->PostB B T E0 S0' E S->ul ds S=iz (S',wr)->tin T.w wr ->
  (∀E',PostB B T E0 S0' E' S'->Pre T E' S'->(∀v u,VR E v u->VR E' v u)->il ox 0 P fn tmps R [] md E'.w)->il ox 0 P fn tmps R dl md E.w
 | [],S,S',E,dl,wr,p,hd,k,h,hw,hk=>by
  cases h;obtain⟨_,_,hid,h3,h4,h5⟩:=hd;rw[h3];exact qxh hmd p k h4 (fun b hb=>⟨py hN (h5 b hb).1,(h5 b hb).2⟩) hk
 | D::ds,S,S',E,dl,wr,p,hd,k,h,hw,hk=>by
  unfold ul at h;split at h<;>try cases h
  rename_i hobj;split at h<;>cases h;rename_i S' wr hm;obtain⟨t1,t2⟩:=zp hw;obtain⟨d1,d2,hid,d3,d4,d5⟩:=hd;have hA:=(d2 D x8).1;have g1:E.w.heap[E.ρ D]?=iz (.deferred (iz [])):=p.st.objs D (T.sub _ (zi t1)) hA _ hobj;have hL:Live E S.H D:=⟨p.st.blk D (T.sub _ (zi t1)) hA _ hobj rfl,_,hobj,rfl⟩;obtain⟨q1,q2⟩:=Post.write p (o':=.defs eb) (zi t1) hA hL (Upd.putObj E.w (E.ρ D) (.deferred i6)) (gc (qk g1));have hme:=p.st.own D (T.sub _ (zi t1)) hA hL;rw[d3];refine⟨hmd,.inl ⟨E.ρ D,_,rfl,run_takeDeferred g1,?_⟩⟩;refine qgf hmd hN hT (E:=E.at_ (E.w.putObj (E.ρ D) (.deferred i6))) (q1.pre p) ⟨py d1 q1.stp.size,fun D' hD'=>d2 D' (xv _ hD'),hid,rfl,d4,fun b hb=>?_⟩ (k.trans (PostB.of k.le hT q1 q2)) hm t2 fun E' k1 k2 k3=>hk E' k1 k2 fun v u hv=>k3 v u (hv.mono (q1.env p));obtain⟨c1,c2,c3⟩:=d5 b hb;refine⟨c1,c2,?_⟩;show (E.w.putObj (E.ρ D) (.deferred i6)).heap[b]?=_;rw[di (fun e=>c2 (by rw[e];exact hme))]
  grind

def igc(S:IS)(q:Res):Res :=
 cond (od (q.wr % 2 ^ S.next) 0&&low2 S.next q.v) ⟨q.v,S,q.rd % 2 ^ S.next,0⟩ ⟨q.v,q.S,q.rd % 2 ^ S.next,q.wr % 2 ^ S.next⟩
def Tgc(T:TW)(N:Nat)(h:∀id,N<=id->T.w id):TW:=⟨T.r,fun id=>N<=id,fun id hi=>T.sub _ (h id hi)⟩
theorem qgx{T:Nat->Prop}{a N:Nat}(h:tin T (a % 2 ^ N))(hn:∀id,N<=id->T id):tin T a:=fun j b=>by
 rcases dm j N with h'|h'
 ·exact h j (by rw[jaj];simp [h',b])
 ·grind
theorem ztp{a N:Nat}(h:a % 2 ^ N=0):tin (fun id=>N<=id) a:=fun j b=>by
 rcases dm j N with h'|h'
 ·have:(a % 2 ^ N).testBit j=i7:=by rw[jaj];simp [h',b]
  grind
 ·grind
theorem zhe{q:Res}(p:Pre T E S)(hrd:tin T.r (igc S q).rd)(hwr:tin T.w (igc S q).wr):∃T':TW,Pre T' E S/\tin T'.r q.rd/\tin T'.w q.wr/\∀e w',RetE T' E S q e w'->RetE T E S (igc S q) e w':=by
 cases g:(od (q.wr % 2 ^ S.next) 0&&low2 S.next q.v) with
 | true =>
  have e:igc S q=⟨q.v,S,q.rd % 2 ^ S.next,0⟩:=by unfold igc;rw[g];rfl
  rw[e] at hrd ⊢;simp only[xf] at g;have x:=xg g.1;refine⟨Tgc T S.next p.nw,⟨p.st,p.bnd,fun f h=>h,p.gl⟩,qgx hrd (fun f h=>T.sub _ (p.nw f h)),ztp x,fun e w' m=>?_⟩;obtain⟨u,k,rfl,rfl,t,i,s⟩:=m;have y:Upd [] E.w k.w:=⟨i.stp.os,i.stp.tape,i.stp.output,i.stp.size,fun b g _=>i.stp.same b g fun f z l _=>absurd (p.bnd f l) (Nat.not_lt.2 z)⟩;obtain⟨q1,o⟩:=Post.idle p y;have j:LowOK k (E.at_ k.w) S.next:=by
   refine⟨fun f C l=>?_,fun b g=>?_,rfl⟩
   ·have n:E.A f:=ja3 fun B=>absurd (s.fr f l B) (by omega);obtain⟨a,b,c,d,e⟩:=i.stp.alw f n;exact⟨n,b.symm,c.symm,d.symm,e.symm⟩
   ·rcases i.stp.mem b g (p.st.lo b g) with h|⟨f,F,D,_⟩
    ·grind
    ·exact absurd (p.bnd f D) (Nat.not_lt.2 F)
  exact⟨u,E.at_ k.w,rfl,rfl,tg j g.2 t,q1,o⟩
 | false =>
  have e:igc S q=⟨q.v,q.S,q.rd % 2 ^ S.next,q.wr % 2 ^ S.next⟩:=by unfold igc;rw[g];rfl
  rw[e] at hrd hwr ⊢;exact⟨T,p,qgx hrd (fun f h=>T.sub _ (p.nw f h)),qgx hwr p.nw,fun e w' m=>m⟩
theorem zp0{q:Res}(h:FrR S q):FrR S (igc S q):=by
 unfold igc;cases (od (q.wr % 2 ^ S.next) 0&&low2 S.next q.v) with
 | true=>exact⟨xl _,fun _ _ _=>rfl⟩
 | false =>
  refine⟨h.1,fun b a c=>h.2 b a ?_⟩
  grind
end
end Go.Jx
end

noncomputable section
namespace Go.Jx
open Go Go.Sx Go.RowKit
universe u

def FrX(S S':IS)(wr:Nat):Prop:=S.next<=S'.next/\∀id,id<S.next->wr.testBit id=eb->S'.H id=S.H id
theorem FrX.refl(S:IS)(wr:Nat):FrX S S wr:=⟨xl _,fun _ _ _=>rfl⟩
theorem FrX.trans{S S1 S2:IS}{w1 w2:Nat}(h:FrX S S1 w1)(k:FrX S1 S2 w2):FrX S S2 (w1 ||| w2) :=
 ⟨py h.1 k.1,fun c a b=>by
  simp only[dq,g9] at b;rw[k.2 c (pz a h.1) b.2,h.2 c a b.1]⟩
theorem FrX.set(S:IS)(id:Nat)(o:IObj):FrX S (S.set id o) (2 ^ id) :=
 ⟨xl _,fun k b a=>by rw[IS.H_set,up_ne _ _ (qam a)]⟩
theorem FrX.new(S:IS)(o:IObj)(wr:Nat):FrX S (S.new o) wr :=
 ⟨df _,fun k a b=>by rw[IS.H_new,up_ne _ _ (by omega)]⟩
theorem FrX.newTrans{S S':IS}{o:IObj}{wr:Nat}(k:FrX (S.new o) S' wr):FrX S S' wr:=by
 have:=(FrX.new S o 0).trans k
 grind
def FrXB(B:Nat)(S S':IS)(wr:Nat):Prop:=B<=S'.next/\∀id,id<B->wr.testBit id=eb->S'.H id=S.H id
theorem FrX.toB{B:Nat}{S S':IS}{wr:Nat}(hB:B<=S.next)(h:FrX S S' wr):FrXB B S S' wr:=⟨py hB h.1,fun b a c=>h.2 b (pz a hB) c⟩
theorem FrXB.trans{B:Nat}{S S1 S2:IS}{w1 w2:Nat}(h:FrXB B S S1 w1)(k:FrXB B S1 S2 w2):FrXB B S S2 (w1 ||| w2) :=
 ⟨k.1,fun c a b=>by
  simp only[dq,g9] at b;rw[k.2 c a b.2,h.2 c a b.1]⟩
theorem FrXB.full{S S':IS}{wr:Nat}(h:FrXB S.next S S' wr):FrX S S' wr:=h
theorem qnc{S S':IS}{c:TC}{v v':IV}{w:Nat}(h:coeV S c v=iz (v',S',w)):FrX S S' w:=by
 unfold coeV at h;split at h<;>try cases h
 ·exact FrX.new _ _ _
 ·split at h<;>try cases h
  rename_i j l g;cases b:TC.beq j c<;>rw[b] at h<;>cases h;exact FrX.refl _ _
 ·rename_i e d a s f;split at h<;>try cases h
  rename_i i g;cases b:(od d 0&&od s (csz c)&&og (a*s) i.length&&og (a*bsz c) 140737488355328&&qgb c) with
  | false=>rw[b] at h;cases h
  | true =>
  rw[b,xa] at h;split at h<;>cases h;rename_i l _ _;have:=(FrX.set S e .dead).trans (FrX.new (S.set e .dead) (.arr c l) 0)
  grind
theorem zab{nt:Nat}:∀(l:Lz (Nat × TC)) {fr fr':PT IV} {S S':IS} {w:Nat},coeS nt l fr S=iz (fr',S',w)->FrX S S' w
 | [],fr,fr',S,S',w,h=>by cases h;exact FrX.refl _ _
 | (t,c)::l,fr,fr',S,S',w,h=>by
  simp only[coeS] at h;cases hb:oo t nt with
  | false=>rw[hb] at h;cases h
  | true =>
  rw[hb,xa] at h;split at h
  ·grind
  rename_i h1;split at h<;>cases h;rename_i h2;exact(qnc h1).trans (zab l h2)
theorem zwx{S S':IS}{c:TC}{v v':IV}{w:Nat}(h:coeW S c v=iz (v',S',w)):FrX S S' w:=by
 unfold coeW at h;split at h
 ·rename_i d;split at h<;>cases h;rename_i x f;obtain⟨a,b⟩:=qan _ _ _ _ _ _ _ f;exact⟨dk a.symm,fun k _ e=>b k e⟩
 ·exact qnc h
theorem zp1{fr:PT IV}{S S':IS}{t off:Nat}{c:TC}{w:Nat}(h:qge fr S t off c=iz (S',w)):FrX S S' w:=by
 unfold qge at h;split at h<;>try cases h
 split at h<;>try cases h
 split at h<;>try cases h
 split at h
 ·grind
 rename_i e;split at h<;>try cases h
 rename_i a d;cases b:oo _ a.length with
 | false=>rw[b] at h;cases h
 | true =>
 rw[b,xa] at h;cases h;exact(zwx e).trans (FrX.set _ _ _)
theorem q1g{nt:Nat}{fr:PT IV}:∀(l:Lz (Nat × Nat × TC)) {S S':IS} {w:Nat},coeC nt fr l S=iz (S',w)->FrX S S' w
 | [],S,S',w,h=>by cases h;exact FrX.refl _ _
 | (t,off,c)::l,S,S',w,h=>by
  simp only[coeC] at h;cases hb:oo t nt with
  | false=>rw[hb] at h;cases h
  | true =>
  rw[hb,xa] at h;split at h
  ·grind
  rename_i h1;split at h<;>cases h;rename_i h2;exact(zp1 h1).trans (q1g l h2)
theorem qjx{kc vc:TC}{v:IV}{S S':IS}{w:Nat}(h:n6 S kc vc v=iz (S',w)):FrX S S' w:=by
 unfold n6 at h;split at h<;>try cases h
 split at h<;>try cases h
 ·cases a:(yp kc&&yp vc) with
  | false=>rw[a] at h;cases h
  | true =>
  rw[a,xa] at h;split at h<;>cases h;exact FrX.set _ _ _
 ·exact FrX.refl _ _
theorem q3v{nt:Nat}{fr:PT IV}:∀(l:Lz (Nat × TC × TC)) {S S':IS} {w:Nat},coeM nt fr l S=iz (S',w)->FrX S S' w
 | [],S,S',w,h=>by cases h;exact FrX.refl _ _
 | (t,kc,vc)::l,S,S',w,h=>by
  simp only[coeM] at h;cases hb:oo t nt with
  | false=>rw[hb] at h;cases h
  | true =>
  rw[hb,xa] at h;split at h
  ·grind
  rename_i h1;split at h<;>cases h;rename_i h2;exact(qjx h1).trans (q3v l h2)
theorem q7r{nt:Nat}{fr:PT IV}:∀(l:Lz (Nat × Nat × TC × TC)) {S S':IS} {w:Nat},coeD nt fr l S=iz (S',w)->FrX S S' w
 | [],S,S',w,h=>by cases h;exact FrX.refl _ _
 | (t,off,kc,vc)::l,S,S',w,h=>by
  simp only[coeD] at h;cases hb:oo t nt with
  | false=>rw[hb] at h;cases h
  | true =>
  rw[hb,xa] at h;split at h
  ·grind
  split at h
  ·grind
  rename_i h1;split at h<;>cases h;rename_i h2;exact(FrX.refl S _).trans ((qjx h1).trans (q7r l h2))
theorem q3f{S:IS}{B:Nat}:∀{k id:Nat},id<k->(ql4 S B k).testBit id=eb->∀o,S.heap.get id=iz o->lowO B o=i7
 | 0,id,h,_,o,_=>absurd h (by omega)
 | k+1,id,h,hb,o,ho=>by
  unfold ql4 at hb;rw[dq,g9] at hb;by_cases e:id=k
  ·grind
  ·exact q3f (by omega) hb.1 o ho
theorem q2v:∀{ds:Lz Nat} {S S':IS} {w:Nat},qc5 ds S=iz (S',w)->FrX S S' w
 | [],S,S',w,h=>by cases h;exact FrX.refl _ _
 | D::ds,S,S',w,h=>by
  unfold qc5 at h;split at h<;>try cases h
  split at h<;>cases h;rename_i h1;exact(FrX.set _ _ _).trans (q2v h1)
theorem zt5{nt B:Nat}{m:Oq Nm}{fr:PT IV}{S:IS}{ds:Lz Nat}{x:NRes}(hB:B<=S.next)(h:jy nt m B fr S ds=iz x):FrXB B S x.S x.wr:=by
 unfold jy at h;split at h
 ·cases h;exact(FrX.refl _ _).toB hB
 rename_i m;cases b:m.fo with
 | true=>rw[b,xa] at h;cases h;exact(FrX.refl _ _).toB hB
 | false =>
 rw[b,xe] at h;split at h
 ·grind
 rename_i e D y p;split at h
 ·grind
 rename_i C w n;split at h
 ·grind
 rename_i A v l;split at h
 ·grind
 rename_i z u k;split at h
 ·grind
 rename_i f s j;simp only at h;generalize clos f B 1000 (m.keep.flatMap (fun t=>ids2 (slot e t))++qi2 f B) []=q at h;cases g:(ndB q&&q.all (fun d=>og B d)) with
 | false=>rw[g] at h;cases h
 | true =>
 rw[g,xa] at h;cases h;have r:=((zab _ p).trans ((q1g _ n).trans ((q3v _ l).trans ((q7r _ k).trans (q2v j))))).toB hB;refine r.trans ⟨jal _ _,fun d a c=>?_⟩;rw[qvb,xx a];unfold IS.H;cases i:f.heap.get d with
 | none=>rfl
 | some o=>simp only[qah,q3f a c o i,xa]
section
variable {P : om} {tt : Nat -> Oq TI} {T : TW} {nt lf : Nat} {cl : Cl} {F : Fence} {round : Oq Nat} {nm : Nat -> Oq Nm} {B : Nat}
theorem qrr(hcl:ClFr cl){ops:Lz o8}:∀{l:Lz o8} {fr:PT IV} {S:IS} {q:FRes},iseq P tt nt cl ops l fr S=iz q->FrX S q.S q.wr
 | [],fr,S,q,h=>by cases h;exact FrX.refl _ _
 | o::l,fr,S,q,h=>by
  unfold iseq at h;cases hgk:gOK ops fr o.guard with
  | false=>rw[hgk] at h;cases h
  | true =>
  rw[hgk,xa] at h;cases hw:jn ops nt fr o.guard with
  | true =>
   rw[hw,xa] at h;split at h
   ·grind
   rename_i r hr;split at h
   ·cases h;exact qd2 hcl _ hr
   split at h<;>cases h;rename_i q hq;exact FrX.trans (qd2 hcl _ hr) (qrr hcl hq)
  | false=>rw[hw,xe] at h;exact qrr hcl h
theorem qej(hcl:ClFr cl){ops:Lz o8}{bs:Lz Nat}:∀{l:Lz o8} {k:Nat} {pn:Oq (Nat × IV)} {fr:PT IV} {S:IS} {q:Recs},qr P tt nt cl ops bs l k pn fr S=iz q->FrX S q.S (orWr q.l)
 | [],k,pn,fr,S,q,h=>by cases h;exact FrX.refl _ _
 | o::l,k,pn,fr,S,q,h=>by
  have z:∀{q:Recs},FrX S q.S (orWr q.l)->FrX S q.S (0 ||| orWr q.l):=fun h=>by rw[jav];exact h
  unfold qr at h;cases hsk:y4 bs k pn with
  | true =>
   rw[hsk,xa] at h;split at h<;>cases h;rename_i q hq;exact z (qej hcl hq)
  | false =>
  rw[hsk,xe] at h;cases hgk:gOK ops fr o.guard with
  | false=>rw[hgk] at h;cases h
  | true =>
  rw[hgk,xa] at h;cases hw:jn ops nt fr o.guard with
  | true =>
   rw[hw,xa] at h;split at h
   ·grind
   rename_i r hr;split at h
   ·split at h
    ·grind
    cases hf:jg _ with
    | false=>rw[hf] at h;cases h
    | true =>
    rw[hf,xa] at h;split at h<;>cases h;rename_i q hq;exact FrX.trans (qd2 hcl _ hr) (qej hcl hq)
   split at h<;>cases h;rename_i q hq;exact FrX.trans (qd2 hcl _ hr) (qej hcl hq)
  | false =>
   rw[hw,xe] at h;split at h<;>cases h;rename_i q hq;exact z (qej hcl hq)
theorem zf0(hcl:ClFr cl){ops:Lz o8}{fr:PT IV}{S:IS}{q:FRes}(h:iany P tt nt cl ops fr S=iz q):FrX S q.S q.wr:=by
 unfold iany at h;split at h
 ·grind
 rename_i a d;cases b:ichk a.l a.S (befs ops []) [] with
 | true =>
  rw[b,xa] at h;split at h<;>cases h
  ·exact qej hcl d
  ·exact⟨by rw[qf6];exact xl _,fun f e c=>by rw[sx,xr (fun h=>by rw[c] at h;cases h.2)]⟩
 | false=>rw[b] at h;cases h
theorem q4g(hcl:ClFr cl){f:Nat}{caps:Lz IV}{S:IS}{id:Nat}{fr:PT IV}{ds:Lz Nat}{rd:Nat}{r:CRes}(h:ifin cl f caps S id fr ds rd=iz r):FrX S r.S r.wr:=by
 unfold ifin at h;split at h
 ·grind
 rename_i b a;have c:FrX S b.S b.wr:=hcl _ _ _ _ a;split at h
 ·grind
 split at h<;>try cases h
 split at h
 ·grind
 ·split at h
  ·cases h;exact FrX.trans c (FrX.set _ _ _)
  ·split at h<;>cases h;exact FrX.trans c (FrX.set _ _ _)
theorem qnz{B:Nat}{S:IS}{r:CRes}(h:FrXB B S r.S r.wr):FrXB B S (mbR B r).S (mbR B r).wr:=by
 refine⟨h.1,fun c b a=>?_⟩;have a:(mb B r.wr).testBit c=eb:=a;unfold mb at a;cases d:od B 0 with
 | true =>
  have:B=0:=xg d;omega
 | false=>rw[d] at a;exact h.2 c b a
theorem qtj(hz:frzF nm=eb)(hcl:ClFr cl):∀(c:fw) {fr:PT IV} {S:IS} {ds:Lz Nat} {r:CRes},B<=S.next->zh P tt nm B nt cl lf round c fr S ds=iz r->FrXB B S r.S r.wr:=by
 have p:mB nm B=B:=by unfold mB;rw[hz];rfl
 intro c;induction c with
 | skip=>intro fr S ds r a h;cases h;exact(FrX.refl _ _).toB a
 | label l=>intro fr S ds r a h;cases h;exact(FrX.refl _ _).toB a
 | exit id=>intro fr S ds r a h;cases h;exact(FrX.refl _ _).toB a
 | goto l=>intro fr S ds r a h;cases h;exact(FrX.refl _ _).toB a
 | ret=>intro fr S ds r a h;cases h;exact(FrX.refl _ _).toB a
 | refuse _=>intro fr S ds r a h;cases h
 | region id ops draw =>
  intro fr S ds r a h;simp only[zh] at h;have d:=c6 h;clear h;obtain⟨r,h,rfl⟩:=d;rw[p];refine qnz ?_;split at h
  ·grind
  rename_i x s;split at h<;>cases h;rename_i q f;have d:=zt5 a s;cases draw with
  | true=>rw[xa] at f;exact d.trans ((zf0 hcl f).toB d.1)
  | false=>rw[xe] at f;exact d.trans ((qrr hcl f).toB d.1)
 | seq x y ihx ihy =>
  intro fr S ds r a h;simp only[zh] at h;split at h
  ·grind
  rename_i i b;split at h
  ·split at h<;>cases h;rename_i q f;exact FrXB.trans (ihx a b) (ihy (ihx a b).1 f)
  ·grind
 | cond c x y ihx ihy =>
  intro fr S ds r a h;simp only[zh] at h
  grind
 | block id c ih =>
  intro fr S ds r a h;simp only[zh] at h
  grind
 | scope c ih =>
  intro fr S ds r a h;simp only[zh] at h
  grind
 | loop c ih =>
  intro fr S ds r a h;simp only[zh] at h;split at h
  ·rename_i m u;have d:=c6 h;clear h;obtain⟨r,h,rfl⟩:=d;rw[p];refine qnz ?_;have o:∀(j:Nat) (fr:PT IV) (S:IS) (ds:Lz Nat) (r:CRes),B<=S.next->je (zh P tt nm B nt cl lf round c) m.1 m.2 j fr S ds=iz r->FrXB B S r.S m.2/\r.wr=m.2:=by
    intro j;induction j with
    | zero=>intro fr S ds r a h;cases h
    | succ j ihj =>
     intro fr S ds r a h;unfold je at h;split at h
     ·grind
     rename_i i b;cases k:(subm i.rd m.1&&subm i.wr m.2) with
     | false=>rw[k] at h;cases h
     | true =>
     rw[k,xa] at h;simp only[xf] at k;have n:=ih a b;have e:i.wr ||| m.2=m.2:=xg k.2;split at h
     ·obtain⟨t,v⟩:=ihj _ _ _ _ n.1 h;have:=n.trans t
      grind
     ·cases h;have:=n.trans (FrX.refl i.S m.2 |>.toB n.1)
      grind
   grind
  have o:∀(j:Nat) (fr:PT IV) (S:IS) (ds:Lz Nat) (r:CRes),B<=S.next->yo (zh P tt nm B nt cl lf round c) j fr S ds=iz r->FrXB B S r.S r.wr:=by
   intro j;induction j with
   | zero=>intro fr S ds r a h;cases h
   | succ j ihj =>
    intro fr S ds r a h;unfold yo at h;split at h
    ·grind
    rename_i i b;split at h
    ·split at h<;>cases h;rename_i q f;exact FrXB.trans (ih a b) (ihj _ _ _ _ (ih a b).1 f)
    ·grind
  grind
 | rangeFunc g ps assign body ih1 ih2 =>
  intro fr S ds r a h;simp only[zh] at h;have d:=c6 h;clear h;obtain⟨r,h,rfl⟩:=d;rw[p];refine qnz ?_;split at h<;>try cases h
  split at h
  ·exact(FrX.newTrans (FrX.newTrans (q4g hcl h))).toB a
  ·split at h<;>try cases h
   exact(FrX.newTrans (q4g hcl h)).toB a

def vt:Lz Nat->Lz IV->PT IV->PT IV
 | t::ts,v::vs,fr=>vt ts vs (fr.set v t)
 | _,_,fr=>fr
theorem qqo{E:Env}:∀{ps:Lz Nat} {vs:Lz IV} {us:Lz oc} {fr:PT IV} {tmps:Array oc},VRs E vs us->FR E nt fr tmps->FR E nt (vt ps vs fr) ((ps.zip us).foldl (fun tmps (t,a)=>tmps.setIfInBounds t a) tmps)
 | [],vs,us,fr,tmps,hv,hf=>by simpa [vt] using hf
 | t::ps,[],us,fr,tmps,hv,hf=>by
  have:=hv.1;cases us with
  | nil=>simpa [vt] using hf
  | cons u us=>simp at this
 | t::ps,v::vs,us,fr,tmps,hv,hf=>by
  obtain⟨u,us,rfl,h1,h2⟩:=hv.inv;simp only[vt,List.zip_cons_cons,List.foldl_cons];exact qqo h2 (hf.put h1)
def yj:IEx->Oq fw
 | .normal=>i6
 | .ret=>iz .ret
 | .exit id=>iz (.exit id)
 | .goto l=>iz (.goto l)
 | .pan _=>i6
def IEx.isPan:IEx->Bool
 | .pan _=>i7
 | _=>eb
def bu(P:om)(tt:Nat->Oq TI)(cl:Cl)(lf:Nat)(id:Nat)(vs:Lz IV)(S:IS):Oq Res :=
 match S.heap.get id with
 | some (.loop .ready _ nt fr ps assign body _)=>cond (od vs.length ps.length&&qi assign&&qi body)
  (match zh P tt (fun _=>i6) S.next nt cl lf (iz id) assign (vt ps vs fr) S [] with
  | none=>i6
  | some r1=>match r1.e with
   | .normal=>match r1.S.heap.get id with
    | some (.loop .ready pend nt2 fr2 ps2 as2 bd2 D2)=>match zh P tt (fun _=>i6) S.next nt cl lf (iz id) body r1.fr (r1.S.set id (.loop .busy pend nt2 fr2 ps2 as2 bd2 D2)) r1.ds with
     | none=>i6
     | some r2=>cond r2.e.isPan i6 <| match r2.S.heap.get id with
      | some (.loop _ _ nt3 fr3 ps3 as3 bd3 D3)=>iz ⟨.bool (yj r2.e).isNone,r2.S.set id (.loop (if (yj r2.e).isNone then .ready else .done) (yj r2.e) nt3 fr3 ps3 as3 bd3 D3),2 ^ id ||| (r1.rd ||| r2.rd),(r1.wr ||| 2 ^ id) ||| (r2.wr ||| 2 ^ id)⟩
      | _=>i6
    | _=>i6
   | _=>i6) i6
 | _=>i6
theorem zrd(hcl:ClFr cl){id:Nat}{vs:Lz IV}{S:IS}:FrO S (bu P tt cl lf id vs S):=by
 intro r h;unfold bu at h;split at h<;>try cases h
 rename_i x o p n a c y k;cases l:(od vs.length n.length&&qi a&&qi c) with
 | false=>rw[l] at h;cases h
 | true =>
 rw[l,xa] at h;split at h
 ·grind
 rename_i j f;split at h<;>try cases h
 split at h<;>try cases h
 split at h
 ·grind
 rename_i i d;cases b:i.e.isPan with
 | true=>rw[b] at h;cases h
 | false =>
 rw[b,xe] at h;split at h<;>cases h;have g:=qtj rfl hcl _ (xl _) f;have m:=qtj (S:=j.S.set id _) rfl hcl _ g.1 d;exact(g.trans ((FrX.set j.S id _).toB g.1)).trans (m.trans ((FrX.set i.S id _).toB m.1))
theorem zq8(hm:P.follows .mixedOrders=i7)(hcl:ClOK P cl)(hfr:ClFr cl)(htt:TT P tt){id:Nat}{vs:Lz IV}{S:IS}{r:Res}(h:bu P tt cl lf id vs S=iz r)
  (T:TW) (E:Env) (us:Lz oc) (p:Pre T E S) (hrd:tin T.r r.rd) (hwr:tin T.w r.wr) (hv:VRs E vs us) (hA:E.A id):YieldAt ox 0 P (E.ρ id) us.toArray E.w (RetX T E S r):=by
 unfold bu at h;split at h<;>try cases h
 rename_i pd nt fr ps assign body D O;cases β:(od vs.length ps.length&&qi assign&&qi body) with
 | false=>rw[β] at h;cases h
 | true =>
 rw[β,xa] at h;simp only[xf] at β;obtain⟨⟨σ,ξ⟩,ν⟩:=β;have Q:=xg σ;split at h
 ·grind
 rename_i δ ι;split at h<;>try cases h
 rename_i κ;split at h<;>try cases h
 rename_i pend ζ ψ k as2 bd2 D2 c;split at h
 ·grind
 rename_i r2 θ;cases o:r2.e.isPan with
 | true=>rw[o] at h;cases h
 | false =>
 rw[o,xe] at h;split at h<;>cases h;rename_i st3 pd3 K W m as3 bd3 D3 b;obtain⟨J,t2⟩:=zp hrd;obtain⟨t3,t4⟩:=zp t2;obtain⟨v1,v2⟩:=zp hwr;obtain⟨v3,X⟩:=zp v1;obtain⟨v5,_⟩:=zp v2;obtain⟨fn,tmps,g1,g2,g3⟩:=p.st.objs id (zi J) hA _ O;have hy:=run_yield (P:=P) (args:=us.toArray) g1 (by simp only[List.size_toArray];rw[<- hv.1,Q]);have hz:(ps.toArray.zip us.toArray).foldl (fun tmps (t,a)=>tmps.setIfInBounds t a) tmps=(ps.zip us).foldl (fun tmps (t,a)=>tmps.setIfInBounds t a) tmps:=by
  grind
 refine⟨fn,_,assign,body,hy,roundIn_of_wpIn trivial ?_⟩;have V:(Fence.wide.inRound (E.ρ id)).plain=ox:=rfl;refine nk (T:=T) (E:=E) (a:={ tmps:=_,defers:=[] }) (S:=S) (ds:=[]) (round:=iz id) (B:=S.next) (fun h=>(by cases h)) hm V hcl hfr htt assign ξ p (xl _) p.nw ?_ (DS.nil (N:=0) (pm _)) (fun _=>⟨rfl,hA,p.bnd id hA⟩) ι t3 v3 ?_
 ·have:=qqo (ps:=ps) hv g2
  grind
 intro d a1 x1 k0 k1 k2 kB;obtain⟨α,k4⟩:=kB.full p;rw[κ] at k0;cases k0;have G:=α.pre p;have x:=α.env p;obtain⟨u,F,a3'⟩:=x.alw id hA;obtain⟨fn1,tmps1,C,χ,υ⟩:=G.st.objs id (zi J) u _ c;rw[F] at C;have μ:=run_beginRound (P:=P) C rfl;have hL:Live d δ.S.H id:=⟨G.st.blk id (zi J) u _ c rfl,_,c,rfl⟩;have M:Upd [d.ρ id] d.w (d.w.putObj (E.ρ id) (.loop { state:=.busy,pending:=pend,fn:=fn1,tmps:=tmps1,params:=k.toArray,assign:=as2,body:=bd2,defers:=d.ρ D2 })):=by rw[F];exact Upd.putObj _ _ _
 obtain⟨q1,q2⟩:=Post.write G (o':=.loop .busy pend ζ ψ k as2 bd2 D2) (zi X) u hL M
  ⟨fn1,tmps1,by
   rw[show (d.at_ (d.w.putObj (E.ρ id) (.loop { state:=.busy,pending:=pend,fn:=fn1,tmps:=tmps1,params:=k.toArray,assign:=as2,body:=bd2,defers:=d.ρ D2 }))).ρ id=E.ρ id from F];exact gc (qk C),FR.mono (Env.at_le G.st (zi X) u hL M) χ,υ⟩
 have p2:=q1.pre G;have f:=q1.env G;have ε:=Post.trans p α k4 q1;have q4:=k4.trans q2 α.le;refine⟨_,μ,?_⟩;obtain⟨I,s⟩:∃I,d.at_ (d.w.putObj (E.ρ id) (.loop { state:=.busy,pending:=pend,fn:=fn1,tmps:=tmps1,params:=k.toArray,assign:=as2,body:=bd2,defers:=d.ρ D2 }))=I:=⟨_,rfl⟩;have η:d.w.putObj (E.ρ id) (.loop { state:=.busy,pending:=pend,fn:=fn1,tmps:=tmps1,params:=k.toArray,assign:=as2,body:=bd2,defers:=d.ρ D2 })=I.w:=by rw[<- s];rfl
 have y:E.Le I:=by rw[<- s];exact x.trans f
 rw[s] at p2 f ε q4;show body.wpIn _ 0 P _ a1 (d.w.putObj (E.ρ id) (.loop { state:=.busy,pending:=pend,fn:=fn1,tmps:=tmps1,params:=k.toArray,assign:=as2,body:=bd2,defers:=d.ρ D2 }));rw[η];obtain⟨b1,b2,b3⟩:=y.alw id hA;refine nk (T:=T) (E:=I) (a:=a1) (round:=iz id) (B:=S.next) (fun h=>(by cases h)) hm V hcl hfr htt body ν p2 ε.le p.nw (k1.mono f) (k2.mono f (by rw[<- s];exact q1.stp.size)) (fun _=>⟨by show iz (E.ρ id)=iz (I.ρ id);rw[b2],b1,p.bnd id hA⟩) θ t4 v5 ?_;intro n a3 x3 v m1 m2 mB;obtain⟨Y,q6⟩:=PostB.full p ((PostB.of (xl _) p.nw ε q4).trans mB);have Z:=Y.pre p;have R:=Y.env p;obtain⟨γ,ω,c3⟩:=R.alw id hA;obtain⟨fn3,tmps3,z,φ,τ⟩:=Z.st.objs id (zi J) γ _ b;rw[ω] at z;have g:=fun j=>run_endRound (P:=P) j z;have U:Live n r2.S.H id:=⟨Z.st.blk id (zi J) γ _ b rfl,_,b,rfl⟩;have fin:∀(st:LoopState) (pe:Oq fw),RetX T E S ⟨.bool pe.isNone,r2.S.set id (.loop st pe K W m as3 bd3 D3),2 ^ id ||| (δ.rd ||| r2.rd),(δ.wr ||| 2 ^ id) ||| (r2.wr ||| 2 ^ id)⟩ (.returned (.bool pe.isNone)) (n.w.putObj (E.ρ id) (.loop { state:=st,pending:=pe,fn:=fn3,tmps:=tmps3,params:=m.toArray,assign:=as3,body:=bd3,defers:=n.ρ D3 })):=fun st pe=>by
  have L:Upd [n.ρ id] n.w (n.w.putObj (E.ρ id) (.loop { state:=st,pending:=pe,fn:=fn3,tmps:=tmps3,params:=m.toArray,assign:=as3,body:=bd3,defers:=n.ρ D3 })):=by rw[ω];exact Upd.putObj _ _ _
  obtain⟨z1,z2⟩:=Post.write Z (o':=.loop st pe K W m as3 bd3 D3) (zi X) γ U L
   ⟨fn3,tmps3,by
    rw[show (n.at_ (n.w.putObj (E.ρ id) (.loop { state:=st,pending:=pe,fn:=fn3,tmps:=tmps3,params:=m.toArray,assign:=as3,body:=bd3,defers:=n.ρ D3 }))).ρ id=E.ρ id from ω];exact gc (qk z),FR.mono (Env.at_le Z.st (zi X) γ U L) φ,τ⟩
  exact RetX.of ⟨_,_,rfl,rfl,.bool _,Post.trans p Y q6 z1,q6.trans z2 Y.le⟩
 cases q:r2.e with
 | normal=>rw[q] at v;cases v;exact⟨_,_,g i6,by simpa [q,yj] using fin .ready i6⟩
 | ret=>rw[q] at v;cases v;exact⟨_,_,g (iz .ret),by simpa [q,yj] using fin .done (iz .ret)⟩
 | exit i=>rw[q] at v;cases v;exact⟨_,_,g (iz (.exit i)),by simpa [q,yj] using fin .done (iz (.exit i))⟩
 | goto l=>rw[q] at v;cases v;exact⟨_,_,g (iz (.goto l)),by simpa [q,yj] using fin .done (iz (.goto l))⟩
 | pan p=>rw[q] at o;cases o

def yt(tt:Nat->Oq TI)(nt:Nat)(res:Lz iu)(S0:IS)(r:CRes):Oq Res :=
 match ul r.ds r.S with
 | none=>i6
 | some (S',wr)=>match r.e with
  | .pan p=>cond (jg p) (iz ⟨.pan p,kill ((r.wr ||| wr) % 2 ^ S0.next) S0,r.rd % 2 ^ S0.next,(r.wr ||| wr) % 2 ^ S0.next⟩) i6
  | _=>match ires tt nt r.fr S' res with
   | none=>i6
   | some (vs,rd)=>iz (igc S0 ⟨tupI vs,S',r.rd ||| rd,r.wr ||| wr⟩)
def IEx.leaves:IEx->Bool
 | .normal=>i7
 | .ret=>i7
 | .pan _=>i7
 | _=>eb
def IEx.rets:IEx->Bool
 | .normal=>i7
 | .ret=>i7
 | _=>eb
def Calm(cl:Cl):Prop:=∀tgt vs S r,cl tgt vs S=iz r->r.wr=0->low2 S.next r.v=i7->r.S=S
abbrev Ex:=Nat->Oq (Cl->Lz IV->IS->Oq Res)
structure ExOK (P:om) (ex:Ex):Prop where
 fn:∀f g,ex f=iz g->∀cl,ClOK P cl->ClFr cl->Calm cl->∀vs S r,g cl vs S=iz r->∀(T:TW) (E:Env) (us:List oc),Pre T E S->tin T.r r.rd->tin T.w r.wr->VRs E vs us->zg P f/\mf ox 0 P f us.toArray E.w (RetX T E S r)
 fr:∀f g,ex f=iz g->∀cl,ClFr cl->∀vs S,FrO S (g cl vs S)
 calm:∀f g,ex f=iz g->∀cl,Calm cl->∀vs S r,g cl vs S=iz r->r.wr=0->low2 S.next r.v=i7->r.S=S
def jz(P:om)(tt:Nat->Oq TI)(ft:Nat->Oq FI)(nm:Nat->Nat->Oq Nm)(ex:Ex)(lf:Nat):Nat->Cl
 | 0,_,_,_=>i6
 | n+1,tgt,vs,S=>match tgt with
  | .yield id=>bu P tt (jz P tt ft nm ex lf n) lf id vs S
  | .fn f=>match ex f with
   | some g=>g (jz P tt ft nm ex lf n) vs S
   | none=>match ft f with
    | none=>i6
    | some fi=>cond (frzF (nm f)) i6 (cond (og vs.length fi.nt) (match zh P tt (nm f) S.next fi.nt (jz P tt ft nm ex lf n) lf i6 fi.body (zk vs 0 .leaf) S [] with
    | none=>i6
    | some r=>cond r.e.leaves (yt tt fi.nt fi.res S r) i6) i6)
theorem q2r:∀{ds:Lz Nat} {S S':IS} {wr:Nat},ul ds S=iz (S',wr)->FrX S S' wr
 | [],S,S',wr,h=>by cases h;exact FrX.refl _ _
 | D::ds,S,S',wr,h=>by
  unfold ul at h;split at h<;>try cases h
  split at h<;>cases h;rename_i S' wr hm;exact FrX.trans (FrX.set _ _ _) (q2r hm)
theorem zdq{res:Lz iu}{S0:IS}{r:CRes}(h0:FrX S0 r.S r.wr):FrO S0 (yt tt nt res S0 r):=by
 intro q h;unfold yt at h;split at h
 ·grind
 rename_i f wr c;split at h
 ·cases a:jg _ with
  | false=>rw[a] at h;cases h
  | true =>
   rw[a,xa] at h;cases h;exact⟨by rw[qf6];exact xl _,fun e d b=>by rw[sx,xr (fun h=>by rw[b] at h;cases h.2)]⟩
 ·split at h<;>cases h;exact zp0 (FrX.trans h0 (q2r c))
variable {ft : Nat -> Oq FI} {nmt : Nat -> Nat -> Oq Nm} {ex : Ex}
theorem sr(hex:ExOK P ex):∀n,ClFr (jz P tt ft nmt ex lf n)
 | 0=>fun tgt vs S=>FrO.none
 | n+1=>fun tgt vs S=>by
  unfold jz;cases tgt with
  | yield id=>exact zrd (sr hex n)
  | fn f =>
   simp only;split
   ·rename_i g hg;exact hex.fr f g hg _ (sr hex n) vs S
   split
   ·exact FrO.none
   rename_i fi hfi;cases hz:frzF (nmt f) with
   | true=>exact FrO.none
   | false =>
   simp only[xe];apply FrO.cond
   ·split
    ·exact FrO.none
    rename_i r hr;apply FrO.cond
    ·exact zdq (qtj hz (sr hex n) _ (xl _) hr).full
    ·exact FrO.none
   ·exact FrO.none
theorem zps{id:Nat}{vs:Lz IV}{S:IS}{r:Res}(h:bu P tt cl lf id vs S=iz r)(hw:r.wr=0):False:=by
 unfold bu at h;split at h<;>try cases h
 rename_i e f i d a b D g;cases c:(od vs.length d.length&&qi a&&qi b) with
 | false=>rw[c] at h;cases h
 | true =>
 rw[c,xa] at h;split at h
 ·grind
 grind
theorem znd{S:IS}{q:Res}(hw:(igc S q).wr=0)(hv:low2 S.next (igc S q).v=i7):(igc S q).S=S:=by
 unfold igc at hw hv ⊢;cases hb:(od (q.wr % 2 ^ S.next) 0&&low2 S.next q.v) with
 | true=>rfl
 | false =>
  rw[hb,xe] at hw hv;rw[Bool.and_eq_false_iff] at hb;rcases hb with hb|hb
  ·rw[show q.wr % 2 ^ S.next=0 from hw] at hb;cases hb
  ·grind
theorem q6q(hex:ExOK P ex):∀n,Calm (jz P tt ft nmt ex lf n)
 | 0=>fun tgt vs S r h=>by cases h
 | n+1=>fun tgt vs S r h hw hv=>by
  unfold jz at h;cases tgt with
  | yield id=>exact(zps h hw).elim
  | fn f =>
   simp only at h;split at h
   ·rename_i g hg;exact hex.calm f g hg _ (q6q hex n) vs S r h hw hv
   split at h
   ·grind
   rename_i fi hfi;cases hz:frzF (nmt f) with
   | true=>rw[hz] at h;cases h
   | false =>
   rw[hz,xe] at h;cases hb:og vs.length fi.nt with
   | false=>rw[hb] at h;cases h
   | true =>
   rw[hb,xa] at h;split at h
   ·grind
   rename_i r1 hr1;cases hl:r1.e.leaves with
   | false=>rw[hl] at h;cases h
   | true =>
   rw[hl,xa] at h;unfold yt at h;split at h
   ·grind
   split at h
   ·cases hf:jg _ with
    | false=>rw[hf] at h;cases h
    | true =>
     rw[hf,xa] at h;cases h;simp only at hw ⊢;rw[hw];exact zt0 S
   ·split at h<;>cases h;exact znd hw hv
theorem qwk{fi:FI}{f:Nat}{nm:Nat->Oq Nm}{vs:Lz IV}{S:IS}{r1:CRes}{r:Res}(hz:frzF nm=eb)(hm:P.follows .mixedOrders=i7)(htt:TT P tt)
  (hfi:∃fn,P.funcs[f]?=iz fn/\fn.body=iz fi.body/\fn.ntmps=fi.nt/\fn.results=fi.res.toArray/\(fn.name == "runtime.NumGoroutine") = eb/\qi fi.body=i7) (hcl:ClOK P cl) (hfr:ClFr cl)
  (hb:og vs.length fi.nt=i7) (hr1:zh P tt nm S.next fi.nt cl lf i6 fi.body (zk vs 0 .leaf) S []=iz r1) (hl:r1.e.leaves=i7) (h:yt tt fi.nt fi.res S r1=iz r)
  {T:TW} {E:Env} {us:Lz oc} (p:Pre T E S) (hrd:tin T.r r.rd) (hwr:tin T.w r.wr) (hv:VRs E vs us):zg P f/\mf ox 0 P f us.toArray E.w (RetX T E S r):=by
 unfold yt at h;split at h
 ·grind
 rename_i υ wr x;obtain⟨fn,V,U,χ,τ,σ,α⟩:=hfi;refine⟨⟨fn,V,by rw[U];rfl,σ⟩,?_⟩;split at h
 ·rename_i C n;have Z:jg C=i7:=by
   grind
  rw[Z,xa] at h;cases h;obtain⟨d,z⟩:∃d:TW,d=⟨T.r,fun b=>((r1.wr ||| wr) % 2 ^ S.next).testBit b=i7\/S.next<=b,fun b h=>by
   rcases h with h|h
   ·exact T.sub _ (hwr b h)
   ·exact T.sub _ (p.nw b h)⟩:=⟨_,rfl⟩
  have y:d.r=T.r:=by rw[z]
  have g:∀b,d.w b↔(((r1.wr ||| wr) % 2 ^ S.next).testBit b=i7\/S.next<=b):=fun b=>by rw[z]
  have R:∀b,d.w b->T.w b:=fun b h=>by
   rcases(g b).1 h with h|h
   ·exact hwr b h
   ·exact p.nw b h
  have c:Pre d E S:=⟨by rw[y];exact p.st,p.bnd,fun b h=>(g b).2 (.inr h),p.gl⟩;have J:tin d.r r1.rd:=by rw[y];exact qgx hrd (fun b h=>T.sub _ (p.nw b h))
  obtain⟨I,H⟩:=zp (qgx (T:=d.w) (a:=r1.wr ||| wr) (N:=S.next) (fun b h=>(g b).2 (.inl h)) (fun b h=>(g b).2 (.inr h)));refine jbc V U trivial ?_;refine nk (T:=d) (E:=E) (S:=S) (ds:=[]) (round:=i6) (B:=S.next) (fun h=>by rw[hz] at h;cases h) hm rfl hcl hfr htt fi.body α c (xl _) c.nw ?_ (DS.nil (N:=E.w.heap.size) (xl _)) (fun _=>rfl) hr1 J I ?_
  ·have:=FR.enter (nt:=fi.nt) hv (xk hb)
   grind
  intro X A δ j M L q;rw[n] at j;obtain⟨u,rfl,j⟩:=j;obtain⟨K,θ⟩:=q.full c;have k:il ox 0 P fn A.tmps (RetX T E S ⟨.pan C,kill ((r1.wr ||| wr) % 2 ^ S.next) S,r1.rd % 2 ^ S.next,(r1.wr ||| wr) % 2 ^ S.next⟩) A.defers (.panicking [{ v:=u,recovered:=eb }]) X.w:=by
   refine qgf (E0:=E) (S0':=S) (B:=S.next) (by simp) (xl _) c.nw (K.pre c) L q x H fun D O Y hv=>?_;obtain⟨q1,φ⟩:=O.full c;obtain⟨γ,β⟩:=kill_post (T:=T) (W:=d.w) (m:=(r1.wr ||| wr) % 2 ^ S.next) p R (fun b ι μ=>by
    rcases(g b).1 ι with h|h
    ·grind
    ·exact absurd (p.bnd b μ) (Nat.not_lt.2 h)) q1.stp
   exact⟨u,E.at_ D.w,rfl,rfl,qeo Z (hv _ _ j),γ,β⟩
  exact k
 rename_i Q;split at h<;>cases h;rename_i F rd' s;obtain⟨d,c,η,ζ,o⟩:=zhe p hrd hwr;obtain⟨J,ε⟩:=zp η;obtain⟨I,H⟩:=zp ζ;refine jbc V U trivial ?_;refine nk (T:=d) (E:=E) (S:=S) (ds:=[]) (round:=i6) (B:=S.next) (fun h=>by rw[hz] at h;cases h) hm rfl hcl hfr htt fi.body α c (xl _) c.nw ?_ (DS.nil (N:=E.w.heap.size) (xl _)) (fun _=>rfl) hr1 J I ?_
 ·have:=FR.enter (nt:=fi.nt) hv (xk hb)
  grind
 intro X A δ j M L q;obtain⟨K,θ⟩:=q.full c;have k:il ox 0 P fn A.tmps (RetX T E S (igc S ⟨tupI F,υ,r1.rd ||| rd',r1.wr ||| wr⟩)) A.defers .returning X.w:=by
  refine qgf (E0:=E) (S0':=S) (B:=S.next) (by simp) (xl _) c.nw (K.pre c) L q x H fun D O Y hv=>?_;obtain⟨G,ρ,ξ⟩:=qmt htt Y ⟨M.size,fun t κ=>hv _ _ (M.get t κ)⟩ s ε;have ν:=q9c (P:=P) (w:=D.w) τ ρ;refine⟨qbm G,ν,?_⟩;exact RetX.of (o _ _ ⟨_,D,rfl,rfl,q3o ξ,O.full c⟩)
 cases n:r1.e with
 | normal=>rw[n] at j;cases j;exact k
 | ret=>rw[n] at j;cases j;exact k
 | exit i=>rw[n] at hl;cases hl
 | goto l=>rw[n] at hl;cases hl
 | pan C=>exact absurd n (Q C)
theorem qcu(hm:P.follows .mixedOrders=i7)(htt:TT P tt)(hft:FT P ft)(hex:ExOK P ex):∀n,ClOK P (jz P tt ft nmt ex lf n)
 | 0=>⟨fun _ _ _ _ h=>(by cases h),fun _ _ _ _ h=>(by cases h)⟩
 | n+1=>by
  refine⟨fun f vs S r h T E us p hrd hwr hv=>?_,fun id vs S r h T E us p hrd hwr hv hA=>?_⟩
  ·unfold jz at h;simp only at h;split at h
   ·rename_i g hg;exact hex.fn f g hg _ (qcu hm htt hft hex n) (sr hex n) (q6q hex n) vs S r h T E us p hrd hwr hv
   split at h
   ·grind
   rename_i fi hfi;cases hz:frzF (nmt f) with
   | true=>rw[hz] at h;cases h
   | false =>
   rw[hz,xe] at h;cases hb:og vs.length fi.nt with
   | false=>rw[hb] at h;cases h
   | true =>
   rw[hb,xa] at h;split at h
   ·grind
   rename_i r1 hr1;cases hl:r1.e.leaves with
   | false=>rw[hl] at h;cases h
   | true =>
   rw[hl,xa] at h;exact qwk hz hm htt (hft f fi hfi) (qcu hm htt hft hex n) (sr hex n) hb hr1 hl h p hrd hwr hv
  ·unfold jz at h;simp only at h;exact zq8 hm (qcu hm htt hft hex n) (sr hex n) htt h T E us p hrd hwr hv hA

end
end Go.Jx
end

noncomputable section
namespace Go.Jx
open Go Go.Sx Go.RowKit
universe u

def ElA:Lz TC->Type
 | []=>Unit
 | c::cs=>El c × ElA cs
def argV:(cs:Lz TC)->ElA cs->Lz IV
 | [],_=>[]
 | c::cs,x=>asIV c x.1::argV cs x.2
def ElR:Lz (Bool × TC)->Type
 | []=>Unit
 | (i7,c)::cs=>Lz (El c) × ElR cs
 | (eb,c)::cs=>El c × ElR cs
def resV:(cs:Lz (Bool × TC))->Nat->ElR cs->Lz IV
 | [],_,_=>[]
 | (i7,c)::cs,n,x=>.arr n::resV cs (n+1) x.2
 | (eb,c)::cs,n,x=>asIV c x.1::resV cs n x.2
def resO:(cs:Lz (Bool × TC))->ElR cs->Lz IObj
 | [],_=>[]
 | (i7,c)::cs,x=>.arr c x.1::resO cs x.2
 | (eb,c)::cs,x=>resO cs x.2
def addO:Lz IObj->IS->IS
 | [],S=>S
 | o::l,S=>addO l (S.new o)
theorem wc:∀(l:Lz IObj) (S:IS),(addO l S).next=S.next+l.length
 | [],S=>rfl
 | o::l,S=>by unfold addO;rw[wc l];simp [IS.new];omega
theorem kf:∀(l:Lz IObj) (S:IS) (k:Nat),(addO l S).H k=if k<S.next then S.H k else if k<S.next+l.length then l[k-S.next]? else S.H k
 | [],S,k=>by
  simp only[addO,rh,g8]
  grind
 | o::l,S,k=>by
  unfold addO;rw[kf l];have e:(S.new o).next=S.next+1:=rfl
  rw[e,IS.H_new];by_cases h1:k<S.next
  ·rw[xx (by omega),xx h1,up_ne _ _ (by omega)]
  ·rw[xr h1];by_cases h2:k=S.next
   ·subst h2;rw[xx (by omega),zj,xx (by simp)];simp
   ·rw[xr (by omega),up_ne _ _ h2]
    grind
def scal:TC->Bool
 | .list _=>eb
 | .rl _=>eb
 | .two a b=>scal a&&scal b
 | _=>i7
structure Sm where
 pts:List TC
 rts:List (Bool × TC)
 f:ElA pts->Option (ElR rts)
def Sm.flat(s:Sm):Bool:=s.rts.all fun r=>scal r.2
def EM(M:Lz Nat)(w:oh):Env:=⟨fun _=>0,fun _=>0,fun _=>.nilFunc,fun _=>eb,fun _=>False,M,w⟩
def S0:IS:=⟨.leaf,0⟩
def T0:TW:=⟨fun _=>True,fun _=>True,fun _ h=>h⟩
theorem preM{M:Lz Nat}{w:oh}(h:∀b∈M,b<w.heap.size)(g:Gl M w):Pre T0 (EM M w) S0 :=
 ⟨⟨fun a _ h=>h.elim,fun a _ h=>h.elim,fun a _ h=>h.elim,fun i j _ _ h=>h.elim,h⟩,fun a h=>h.elim,fun a _=>trivial,g⟩
structure Con (P:om) (f:Nat) (s:Sm):Prop where
 callable:zg P f
 calls:∀(M:List Nat) (w:oh) (x:ElA s.pts) (us:List oc) (y:ElR s.rts),s.f x=iz y->(∀b∈M,b<w.heap.size)->Gl M w->VRs (EM M w) (argV s.pts x) us ->
  mf ox 0 P f us.toArray w (RetE T0 (EM M w) S0 ⟨tupI (resV s.rts 0 y),addO (resO s.rts y) S0,0,0⟩)

def fitV:TC->IV->Bool
 | .two _ _,.agg _=>i7
 | .two _ _,_=>eb
 | _,.agg _=>eb
 | _,.unk=>eb
 | _,.tup _=>eb
 | _,_=>i7
def uh:(cs:Lz TC)->IS->Lz IV->Oq (ElA cs × IS × Nat)
 | [],S,vs=>match vs with
  | []=>iz ((),S,0)
  | _=>i6
 | c::cs,S,vs=>match vs with
  | v::vs=>cond (fitV c v) (match icl c S (cellsOf v) with
   | some (x,[],S1,w1)=>match uh cs S1 vs with
    | some (xs,S2,w2)=>iz ((x,xs),S2,w1 ||| w2)
    | none=>i6
   | _=>i6) i6
  | _=>i6
def exf(s:Sm)(vs:Lz IV)(S:IS):Oq Res :=
 match uh s.pts S vs with
 | none=>i6
 | some (x,S1,w)=>match s.f x with
  | none=>i6
  | some y=>cond s.flat (iz ⟨tupI (resV s.rts S.next y),addO (resO s.rts y) S,w,0⟩) (iz ⟨tupI (resV s.rts S1.next y),addO (resO s.rts y) S1,0,w⟩)
section
variable {P : om} {E : Env} {S : IS} {T : TW}
theorem qum{E0 E:Env}{c:TC}{x:El c}{v:IV}{u:oc}(hf:fitV c v=i7)(hv:VR E0 v u)(h:VRs E (cel c x) u.cells.toList):VR E (asIV c x) u:=by
 have d:(∀a b,c≠.two a b)->u.cells.toList=[u]:=fun e=>by
  cases c with
  | two a b=>exact absurd rfl (e a b)
  | int k=>cases hv<;>first|rfl|cases hf
  | bool=>cases hv<;>first|rfl|cases hf
  | str=>cases hv<;>first|rfl|cases hf
  | list c=>cases hv<;>first|rfl|cases hf
  | rl k=>cases hv<;>first|rfl|cases hf
 cases c with
 | two a b =>
  cases hv<;>try cases hf
  exact .agg h.1 h.2
 | int k=>rw[d (by simp)] at h;exact h.2 0 (by simp[cel]) (by simp)
 | bool=>rw[d (by simp)] at h;exact h.2 0 (by simp[cel]) (by simp)
 | str=>rw[d (by simp)] at h;exact h.2 0 (by simp[cel]) (by simp)
 | list c=>rw[d (by simp)] at h;exact h.2 0 (by simp[cel]) (by simp)
 | rl k=>rw[d (by simp)] at h;exact h.2 0 (by simp[cel]) (by simp)
theorem qou{c:TC}{v:IV}(h:fitV c v=i7):wd v=i7:=by cases c<;>cases v<;>first|rfl|cases h
theorem na{E E':Env}(hm:∀b,b∈E'.m->b∈E.m)(hw:E'.w=E.w){c:TC}{x:El c}{u:oc}(h:VR E (asIV c x) u):VR E' (asIV c x) u:=by
 have d:∀{v:IV} {u:oc},VR E v u->_:=fun h=>VR.noid hm hw h;cases c with
 | two a b =>
  cases h with
  | agg hl hh=>exact .agg hl fun i a b=>(d (hh i a b)).2.2 _ _ (p5 a)
 | int k=>exact(d h).2.2 (.int k) x (by simp[cel,asIV])
 | bool=>exact(d h).2.2 .bool x (by simp[cel,asIV])
 | str=>exact(d h).2.2 .str x (by simp[cel,asIV])
 | list c=>exact(d h).2.2 (.list c) x (by simp[cel,asIV])
 | rl k=>exact(d h).2.2 (.rl k) x (by simp[cel,asIV])
theorem qst:∀(cs:Lz TC) {E:Env} {S:IS} {vs:Lz IV} {us:Lz oc} {x:ElA cs} {S':IS} {w:Nat},uh cs S vs=iz (x,S',w)->Pre T E S->tin T.w w->VRs E vs us ->
  ∃E',E'.w=E.w/\Post T E S E' S'/\Fresh E S E'/\VRs E' (argV cs x) us
 | [],E,S,vs,us,x,S',w,h,p,hw,hv=>by
  cases vs with
  | cons v vs=>cases h
  | nil=>cases h;exact⟨E,rfl,Post.refl p,Fresh.refl E S,hv⟩
 | c::cs,E,S,vs,us,x,S',w,h,p,hw,hv=>by
  cases vs with
  | nil=>cases h
  | cons v vs =>
  simp only[uh] at h;cases hb:fitV c v with
  | false=>rw[hb] at h;cases h
  | true =>
  rw[hb,xa] at h;split at h<;>try cases h
  rename_i x1 S1 w1 h1;split at h<;>cases h;rename_i xs S2 w2 h2;obtain⟨g1,g2⟩:=zp hw;obtain⟨u,us,rfl,a1,a2⟩:=hv.inv;obtain⟨E1,e1,q1,f1,us1,us2,e2,v1,v2⟩:=tn c h1 p g1 (a1.cells (qou hb));have:us2=[]:=by have:=v2.1;simpa using this.symm
  subst this;rw[gz] at e2;rw[<- e2] at v1;have b1:=qum hb a1 v1;obtain⟨E2,e3,q2,f2,b2⟩:=qst cs h2 (q1.pre p) g2 (a2.mono (q1.env p));exact⟨E2,e3.trans e1,Post.trans p q1 f1 q2,f1.trans f2 q1.le,VRs.cons (b1.mono (q2.env (q1.pre p))) b2⟩
theorem qpy{E E':Env}(hm:∀b,b∈E'.m->b∈E.m)(hw:E'.w=E.w):∀(cs:Lz TC) {x:ElA cs} {us:Lz oc},VRs E (argV cs x) us->VRs E' (argV cs x) us
 | [],x,us,h=>by have:=h.1;cases us with|nil=>exact VRs.nil|cons _ _=>simp [argV] at this
 | c::cs,x,us,h=>by
  obtain⟨u,us,rfl,a1,a2⟩:=VRs.inv (v:=asIV c x.1) (cs:=argV cs x.2) h;exact VRs.cons (na hm hw a1) (qpy hm hw cs a2)
theorem qf3:∀(cs:Lz (Bool × TC)) (y:ElR cs) (o:IObj),o∈resO cs y->∃c l,o=.arr c l
 | [],y,o,h=>by cases h
 | (i7,c)::cs,y,o,h=>by
  rcases po.1 h with h|h
  ·grind
  ·exact qf3 cs y.2 o h
 | (eb,c)::cs,y,o,h=>qf3 cs y.2 o h
theorem qac{E E':Env}:∀{c:TC} {v:IV} {x:El c} {u:oc},scal c=i7->v∈cel c x->VR E v u->VR E' v u
 | .int k,v,x,u,_,hm,h=>by
  have:v=.int k x:=by simpa [cel] using hm
  subst this;cases h;exact .int _ _ (by assumption)
 | .bool,v,x,u,_,hm,h=>by
  have:v=.bool x:=by simpa [cel] using hm
  subst this;cases h;exact .bool _
 | .str,v,x,u,_,hm,h=>by
  have:v=.str x:=by simpa [cel] using hm
  subst this;cases h;exact .str _ (by assumption)
 | .list c,v,x,u,hs,_,_=>by cases hs
 | .rl k,v,x,u,hs,_,_=>by cases hs
 | .two a b,v,x,u,hs,hm,h=>by
  simp only[scal,xf] at hs;simp only[cel,p4] at hm;rcases hm with hm|hm
  ·exact qac hs.1 hm h
  ·exact qac hs.2 hm h
theorem zy2{E E':Env}{c:TC}{x:El c}{u:oc}(hs:scal c=i7)(h:VR E (asIV c x) u):VR E' (asIV c x) u:=by
 cases c with
 | two a b =>
  cases h with
  | agg hl hh=>exact .agg hl fun i a b=>qac hs (p5 a) (hh i a b)
 | int k=>exact qac (c:=.int k) (x:=x) hs (by simp[cel,asIV]) h
 | bool=>exact qac (c:=.bool) (x:=x) hs (by simp[cel,asIV]) h
 | str=>exact qac (c:=.str) (x:=x) hs (by simp[cel,asIV]) h
 | list c=>cases hs
 | rl k=>cases hs
def mrgC(Eb Er:Env)(n:Nat):Env :=
 ⟨fun id=>if id<n then Eb.ρ id else Er.ρ (id-n),fun id=>if id<n then Eb.κ id else Er.κ (id-n),fun id=>if id<n then Eb.hd id else Er.hd (id-n),fun id=>if id<n then Eb.hb id else Er.hb (id-n),
  fun id=>(id<n/\Eb.A id)\/(n<=id/\Er.A (id-n)),Eb.m++Er.m,Er.w⟩
theorem ub{Eb Er:Env}{n k:Nat}:(mrgC Eb Er n).ρ (n+k)=Er.ρ k/\(mrgC Eb Er n).κ (n+k)=Er.κ k/\(mrgC Eb Er n).hd (n+k)=Er.hd k/\(mrgC Eb Er n).hb (n+k)=Er.hb k:=by
 have h:¬n+k<n:=by omega
 refine⟨?_,?_,?_,?_⟩<;>simp only[mrgC,xr h,ph]
theorem sy{Eb Er:Env}{n id:Nat}(h:id<n):(mrgC Eb Er n).ρ id=Eb.ρ id/\(mrgC Eb Er n).κ id=Eb.κ id/\(mrgC Eb Er n).hd id=Eb.hd id/\(mrgC Eb Er n).hb id=Eb.hb id:=by
 refine⟨?_,?_,?_,?_⟩<;>simp only[mrgC,xx h]
theorem qv3{Eb Er:Env}{n:Nat}(hd:∀{c:TC} {x:El c} {u:oc},VR Er (asIV c x) u->scal c=i7\/True->(scal c=i7->VR (mrgC Eb Er n) (asIV c x) u)/\((∀b,b∈Eb.m->b∈Er.m)->VR (mrgC Eb Er n) (asIV c x) u)) :
  ∀(cs:Lz (Bool × TC)) (k:Nat) {y:ElR cs} {us:Lz oc},((cs.all fun r=>scal r.2)=i7\/∀b,b∈Eb.m->b∈Er.m)->VRs Er (resV cs k y) us->VRs (mrgC Eb Er n) (resV cs (n+k) y) us
 | [],k,y,us,hs,h=>by have:=h.1;cases us with|nil=>exact VRs.nil|cons _ _=>simp [resV] at this
 | (i7,c)::cs,k,y,us,hs,h=>by
  obtain⟨u,us,rfl,a1,a2⟩:=VRs.inv (v:=.arr k) (cs:=resV cs (k+1) y.2) h;have:=qv3 hd cs (k+1) (hs.imp (fun h=>by simp only[gu,xf] at h;exact h.2) fun h=>h) a2;cases a1 with
  | arr hA hh =>
  obtain⟨m1,m2,m3,m4⟩:=ub (Eb:=Eb) (Er:=Er) (n:=n) (k:=k);exact VRs.cons (.arr (.inr ⟨by omega,by rw[ph];exact hA⟩) (m3.trans hh)) this
 | (eb,c)::cs,k,y,us,hs,h=>by
  obtain⟨u,us,rfl,a1,a2⟩:=VRs.inv (v:=asIV c y.1) (cs:=resV cs k y.2) h;have:=qv3 hd cs k (hs.imp (fun h=>by simp only[gu,xf] at h;exact h.2) fun h=>h) a2;refine VRs.cons ?_ this
  grind
theorem q7o{s:Sm}{y:ElR s.rts}{M:Lz Nat}{Eb:Env}{Sb:IS}{e:aw}{w':oh}{rd wr:Nat}(pb:Pre T Eb Sb)(hM:∀b∈M,b∈Eb.m)(hflat:s.flat=i7\/∀b∈Eb.m,b∈M)
   (hR:RetE T0 (EM M Eb.w) S0 ⟨tupI (resV s.rts 0 y),addO (resO s.rts y) S0,0,0⟩ e w'):RetE T Eb Sb ⟨tupI (resV s.rts Sb.next y),addO (resO s.rts y) Sb,rd,wr⟩ e w':=by
 obtain⟨u,Er,rfl,rfl,k1,q,k3⟩:=hR;have z:∀b,b<Eb.w.heap.size->Er.w.heap[b]?=Eb.w.heap[b]?:=fun b hb=>q.stp.same b hb fun id _ d _=>d.elim;have hMr:∀b∈M,b∈Er.m:=fun b hb=>by
   rcases q.stp.mem b hb (pb.st.lo b (hM b hb)) with h|⟨id,_,d,_⟩
   · exact h
   · exact d.elim
 have η:∀b∈Er.m,b∈M\/Eb.w.heap.size<=b:=q.stp.memo;have I:∀id,Er.A id->Live Er (addO (resO s.rts y) S0).H id->Eb.w.heap.size<=Er.ρ id:=fun id d W=>by
   rcases q.stp.new id d (fun h=>h) W with h|⟨j,_,d,_⟩
   · exact h
   · exact d.elim
 generalize σ:Sb.next=n
 have θ:Eb.Le (mrgC Eb Er n):=⟨fun id d=>by
   have f:id<n:=by rw[<- σ];exact pb.bnd id d
   obtain⟨ξ,m2,υ,ν⟩:=sy (Eb:=Eb) (Er:=Er) f;exact⟨.inl ⟨f,d⟩,ξ,m2,υ,ν⟩,⟨fun b hb τ=>⟨fun h=>by
     rcases p4.1 h with h|h
     · exact τ h
     · rcases η b h with h|h
       · exact τ (hM b h)
       · omega,z b hb⟩⟩⟩
 have V:(∀b,b∈Eb.m->b∈Er.m)->∀b,b∈(mrgC Eb Er n).m->b∈Er.m:=fun h b hb=>by
   rcases p4.1 hb with hb|hb
   · exact h b hb
   · exact hb
 have B:(s.rts.all fun r=>scal r.2)=i7\/∀b,b∈Eb.m->b∈Er.m:=hflat.imp (fun h=>h) fun h b hb=>hMr b (h b hb);have hv:∀L,VRs Er (resV s.rts 0 y) L->VRs (mrgC Eb Er n) (resV s.rts (n+0) y) L:=fun L=>qv3 (Eb:=Eb) (Er:=Er) (n:=n) (fun {c x u} h _=>⟨fun δ=>zy2 δ h,fun τ=>na (V τ) rfl h⟩) s.rts 0 B;have hHn:∀k,(addO (resO s.rts y) Sb).H (n+k)=if k<(resO s.rts y).length then (resO s.rts y)[k]? else Sb.H (n+k):=fun k=>by
   rw[kf,xr (by omega),σ];by_cases h:k<(resO s.rts y).length
   · rw[xx h,xx (by omega),ph]
   · rw[xr h,xr (by omega)]
 have Z:∀id,id<n->(addO (resO s.rts y) Sb).H id=Sb.H id:=fun id h=>by rw[kf,xx (by omega)]
 have ι:∀k,(addO (resO s.rts y) S0).H k=(resO s.rts y)[k]?:=fun k=>by
   rw[kf];have e:S0.next=0:=rfl
   rw[e,xr (by omega),x6,rz];by_cases h:k<(resO s.rts y).length
   · rw[xx h]
   · rw[xr h,p6 (by omega)];rfl
 have K:∀k,Er.A k->k<(resO s.rts y).length:=fun k d=>by
   have:=q.bnd k d;rw[wc] at this;have e:S0.next=0:=rfl
   omega
 have F:∀{k:Nat} {o:IObj},Er.A k->(addO (resO s.rts y) Sb).H (n+k)=iz o->(addO (resO s.rts y) S0).H k=iz o:=fun {k o} d h=>by
   rw[hHn,xx (K k d)] at h;rw[ι];exact h
 have C:∀{k:Nat},Er.A k->Live (mrgC Eb Er n) (addO (resO s.rts y) Sb).H (n+k)->Live Er (addO (resO s.rts y) S0).H k:=fun {k} d ⟨μ,o,ζ,κ⟩=>⟨by rw[ub.2.2.2] at μ;exact μ,o,F d ζ,κ⟩;have D:∀{id:Nat},id<n->Live (mrgC Eb Er n) (addO (resO s.rts y) Sb).H id->Live Eb Sb.H id:=fun {id} f ⟨μ,o,ζ,κ⟩=>⟨by rw[(sy f).2.2.2] at μ;exact μ,o,by rw[Z id f] at ζ;exact ζ,κ⟩;refine⟨u,mrgC Eb Er n,rfl,rfl,?_,⟨⟨?_,?_,?_,?_,?_⟩,⟨q.stp.os,q.stp.tape,q.stp.output,q.stp.size,fun b hb _=>z b hb,θ.alw,?_,?_,?_,fun b hb _=>.inl (ge _ hb)⟩,?_,?_⟩,⟨?_⟩⟩
 · -- the value
   have φ:∀(γ β:Lz IV),(∀L,VRs Er γ L->VRs (mrgC Eb Er n) β L)->γ.length=β.length->VR Er (tupI γ) u->VR (mrgC Eb Er n) (tupI β) u:=by
     intro γ β h Y χ;match γ,β,Y with
     | [],[],_ =>
       cases χ with
       | tup Y hh=>have:=h _ ⟨Y,hh⟩;exact .tup this.1 this.2
     | [v],[w],_ =>
       have:=h [u] (VRs.cons χ VRs.nil);exact this.2 0 (by simp) (by simp)
     | v1::v2::γ,w1::w2::β,_ =>
       cases χ with
       | tup Y hh=>have:=h _ ⟨Y,hh⟩;exact .tup this.1 this.2
   refine φ _ _ (fun L h=>?_) ?_ k1
   · have:=hv L h
     rwa [g8] at this
   · have:∀(E:Lz (Bool × TC)) (i j:Nat) (y:ElR E),(resV E i y).length=(resV E j y).length:=by
       intro E;induction E with
       | nil=>intro i j y;rfl
       | cons c E ih=>intro i j y;obtain⟨b,c⟩:=c;cases b<;>simp [resV]<;>exact ih _ _ y.2
     exact this _ _ _ _
 · -- objects
   intro id R d o O;rcases d with ⟨f,d⟩|⟨J,d⟩
   · rw[Z id f] at O;exact(pb.st.objs id R d o O).mono θ d (pb.st.blk id R d o O) fun Y hb=>z _ ((pb.st.objs id R d o O).lt Y hb)
   · obtain⟨k,rfl⟩:∃k,id=n+k:=⟨id-n,by omega⟩;rw[ph] at d;have G:=F d O;obtain⟨ξ,m2,υ,ν⟩:=ub (Eb:=Eb) (Er:=Er) (n:=n) (k:=k);have ω:=q.st.objs k trivial d o G;have S:o∈resO s.rts y:=by rw[ι] at G;exact p7 G
     obtain⟨c,l,rfl⟩:=qf3 _ _ _ S;have ψ:scal c=i7\/∀b,b∈Eb.m->b∈Er.m:=by
       rcases B with h|h
       · left;have:∀(E:Lz (Bool × TC)) (y:ElR E),(E.all fun r=>scal r.2)=i7->.arr c l∈resO E y->scal c=i7:=by
           intro E;induction E with
           | nil=>intro y _ h;cases h
           | cons r E ih =>
             intro y δ h;obtain⟨b,c'⟩:=r;simp only[gu,xf] at δ;cases b with
             | false=>exact ih y.2 δ.2 h
             | true =>
               rcases po.1 h with h|h
               · cases h;exact δ.1
               · exact ih y.2 δ.2 h
         exact this _ _ h S
       · exact .inr h
     obtain⟨a,cap,g1,g2,g3,g4,g5⟩:=ω;refine⟨a,cap,υ.trans g1,g2,g3,g4,g5.imp (fun⟨x,y⟩=>⟨ν.trans x,y⟩) fun⟨b1,b2,α,t,b3,b4,L,b5,b6⟩=>⟨ν.trans b1,by rw[ξ];exact b2,α,t,by rw[ξ];exact b3,b4,L,b5,fun i U j N=>?_⟩⟩;rcases ψ with h|h
     · exact qac h (p5 N) (b6 i U j N)
     · exact(VR.noid (V h) rfl (b6 i U j N)).2.2 _ _ (p5 N)
 · intro id R d o O hb;rcases d with ⟨f,d⟩|⟨J,d⟩
   · rw[Z id f] at O;rw[(sy f).2.2.2];exact pb.st.blk id R d o O hb
   · obtain⟨k,rfl⟩:∃k,id=n+k:=⟨id-n,by omega⟩;rw[ph] at d;have G:=F d O;rw[ub.2.2.2];exact q.st.blk k trivial d o G hb
 · intro id R d W;rcases d with ⟨f,d⟩|⟨J,d⟩
   · rw[(sy f).1];exact ge _ (pb.st.own id R d (D f W))
   · obtain⟨k,rfl⟩:∃k,id=n+k:=⟨id-n,by omega⟩;rw[ph] at d;rw[ub.1];exact gg _ (q.st.own k trivial d (C d W))
 · intro i j ti tj p g Q P ε;rcases p with ⟨U,p⟩|⟨U,p⟩<;>rcases g with ⟨N,g⟩|⟨N,g⟩
   · rw[(sy U).1,(sy N).1] at ε;exact pb.st.inj i j ti tj p g (D U Q) (D N P) ε
   · obtain⟨k,rfl⟩:∃k,j=n+k:=⟨j-n,by omega⟩;rw[ph] at g;rw[(sy U).1,ub.1] at ε;have ζ:=I k g (C g P);have κ:=pb.st.lo _ (pb.st.own i ti p (D U Q));omega
   · obtain⟨k,rfl⟩:∃k,i=n+k:=⟨i-n,by omega⟩;rw[ph] at p;rw[(sy N).1,ub.1] at ε;have ζ:=I k p (C p Q);have κ:=pb.st.lo _ (pb.st.own j tj g (D N P));omega
   · obtain⟨k,rfl⟩:∃k,i=n+k:=⟨i-n,by omega⟩;obtain⟨k',rfl⟩:∃k,j=n+k:=⟨j-n,by omega⟩;rw[ph] at p g;rw[ub.1,ub.1] at ε;rw[q.st.inj k k' trivial trivial p g (C p Q) (C g P) ε]
 · intro b hb;rcases p4.1 hb with hb|hb
   · exact pz (pb.st.lo b hb) q.stp.size
   · exact q.st.lo b hb
 · intro id d X W;rcases d with ⟨f,d⟩|⟨J,d⟩
   · exact absurd d X
   · obtain⟨k,rfl⟩:∃k,id=n+k:=⟨id-n,by omega⟩;rw[ph] at d;rw[ub.1];exact .inl (I k d (C d W))
 · intro id R d W;exact D (by rw[<- σ];exact pb.bnd id d) W
 · intro b hb;rcases p4.1 hb with hb|hb
   · exact .inl hb
   · rcases η b hb with h|h
     · exact .inl (hM b h)
     · exact .inr h
 · intro id d;show id<(addO (resO s.rts y) Sb).next
   rw[wc,σ];rcases d with ⟨f,d⟩|⟨J,d⟩
   · omega
   · have:=K _ d;omega
 · show Sb.next<=(addO (resO s.rts y) Sb).next
   rw[wc];omega
 · intro id d X;rcases d with ⟨f,d⟩|⟨J,d⟩
   · exact absurd d X
   · show Sb.next<=id
     omega
theorem zwh{f:Nat}{s:Sm}(hc:Con P f s){vs:Lz IV}{r:Res}(h:exf s vs S=iz r){us:Lz oc}(p:Pre T E S)(hrd:tin T.r r.rd)(hwr:tin T.w r.wr)(hv:VRs E vs us) :
  zg P f/\mf ox 0 P f us.toArray E.w (RetE T E S r):=by
 refine⟨hc.callable,?_⟩;unfold exf at h;split at h
 ·grind
 rename_i x G w q;split at h
 ·grind
 rename_i y o;cases d:s.flat with
 | true =>
  rw[d,xa] at h;cases h;have v:Pre ⟨T.r,T.r,fun _ h=>h⟩ E S:=⟨p.st,p.bnd,fun z h=>T.sub _ (p.nw z h),p.gl⟩;obtain⟨c,g,q1,l,n⟩:=qst s.pts (T:=⟨T.r,T.r,fun _ h=>h⟩) q v hrd hv;have j:∀b∈c.m,b∈E.m:=fun b d=>by
   rcases q1.stp.memo b d with h|h
   ·grind
   ·have:=q1.st.lo b d;rw[g] at this;omega
  have a:=hc.calls c.m E.w x us y o (fun b d=>p.st.lo b (j b d)) (p.gl.sub j) (qpy (E:=c) (E':=EM c.m E.w) (fun _ h=>h) g.symm s.pts n);exact a.mono fun e t k=>q7o (Eb:=E) (Sb:=S) (T:=T) p j (.inl d) k
 | false =>
  rw[d,xe] at h;cases h;obtain⟨c,g,q1,l,n⟩:=qst s.pts q p hwr hv;have i:=q1.pre p;have a:=hc.calls c.m c.w x us y o i.st.lo i.gl (qpy (E:=c) (E':=EM c.m c.w) (fun _ h=>h) rfl s.pts n);rw[<- g];refine a.mono fun e t k=>?_;obtain⟨u,H,F,D,C,B,A⟩:=q7o (Eb:=c) (Sb:=G) (rd:=0) (wr:=w) i (fun _ h=>h) (.inr fun _ h=>h) k;exact⟨u,H,F,D,C,Post.trans p q1 l B,l.trans A q1.le⟩
theorem qfc(l:Lz IObj)(S:IS)(w:Nat):FrX S (addO l S) w:=⟨by rw[wc];omega,fun b a _=>by rw[kf,xx a]⟩
theorem q49:∀(cs:Lz TC) {S:IS} {vs:Lz IV} {x:ElA cs} {S':IS} {w:Nat},uh cs S vs=iz (x,S',w)->FrX S S' w
 | [],S,vs,x,S',w,h=>by
  cases vs with
  | cons v vs=>cases h
  | nil=>cases h;exact FrX.refl _ _
 | c::cs,S,vs,x,S',w,h=>by
  cases vs with
  | nil=>cases h
  | cons v vs =>
  simp only[uh] at h;cases hb:fitV c v with
  | false=>rw[hb] at h;cases h
  | true =>
  rw[hb,xa] at h;split at h<;>try cases h
  rename_i h1;split at h<;>cases h;rename_i h2;obtain⟨a1,a2⟩:=qan c _ _ _ _ _ _ h1;exact FrX.trans ⟨dk a1.symm,fun id _ hb=>a2 id hb⟩ (q49 cs h2)
theorem zge{s:Sm}{vs:Lz IV}:FrO S (exf s vs S):=fun r h=>by
 unfold exf at h;split at h
 ·grind
 rename_i x c w b;split at h
 ·grind
 rename_i y d;cases a:s.flat with
 | true=>rw[a,xa] at h;cases h;exact qfc _ _ _
 | false =>
  rw[a,xe] at h;cases h;have:=(q49 s.pts b).trans (qfc (resO s.rts y) c 0);rw[jbq] at this;exact this
theorem q54(n:Nat):oo n n=eb:=by
 cases h:oo n n with
 | false=>rfl
 | true=>exact absurd (show n<n from xk h) (rf n)
theorem q5k:∀(cs:Lz (Bool × TC)) (n:Nat) (y:ElR cs),(resV cs n y).all (low1 n)=i7->resO cs y=[]
 | [],_,_,_=>rfl
 | (i7,c)::cs,n,y,h=>by
  have h:(low1 n (.arr n)&&(resV cs (n+1) y.2).all (low1 n))=i7:=h;have e:low1 n (.arr n)=oo n n:=rfl;rw[e,q54] at h
  grind
 | (eb,c)::cs,n,y,h=>by
  have h:(low1 n (asIV c y.1)&&(resV cs n y.2).all (low1 n))=i7:=h;rw[xf] at h;exact q5k cs n y.2 h.2
theorem zaf(cs:Lz (Bool × TC))(n:Nat)(y:ElR cs)(h:low2 n (tupI (resV cs n y))=i7):resO cs y=[]:=by
 match cs,y,h with
 | [],y,h=>rfl
 | [(i7,c)],y,h =>
  have e:low2 n (tupI (resV [(i7,c)] n y))=oo n n:=rfl;rw[e,q54] at h
  grind
 | [(eb,c)],y,h=>rfl
 | (ba,a)::(bb,b)::cs,y,h =>
  refine q5k _ n y ?_;cases ba<;>cases bb<;>exact h
theorem q4i:∀(cs:Lz TC) {S:IS} {vs:Lz IV} {x:ElA cs} {S':IS},uh cs S vs=iz (x,S',0)->S'=S
 | [],S,vs,x,S',h=>by
  cases vs with
  | nil=>cases h;rfl
  | cons v vs=>cases h
 | c::cs,S,vs,x,S',h=>by
  cases vs with
  | nil=>cases h
  | cons v vs =>
  simp only[uh] at h;cases hb:fitV c v with
  | false=>rw[hb] at h;cases h
  | true =>
  rw[hb,xa] at h;split at h
  ·rename_i x1 S1 w1 h1;split at h
   ·rename_i xs S2 w2 h2;have hS:S2=S':=xy (fun o:Oq (ElA (c::cs) × IS × Nat)=>match o with|some q=>q.2.1|none=>S') h;have hw:w1 ||| w2=0:=xy (fun o:Oq (ElA (c::cs) × IS × Nat)=>match o with|some q=>q.2.2|none=>0) h;obtain⟨e1,e2⟩:=or_zero hw;rw[e1] at h1;rw[e2] at h2;rw[<- hS,q4i cs h2,(qv7 c h1).1]
   ·grind
  ·grind
theorem zp7{s:Sm}{vs:Lz IV}{S:IS}{r:Res}(h:exf s vs S=iz r)(hw:r.wr=0)(hv:low2 S.next r.v=i7):r.S=S:=by
 unfold exf at h;split at h
 ·grind
 rename_i x b w c;split at h
 ·grind
 rename_i y d;cases a:s.flat with
 | true =>
  rw[a,xa] at h;cases h;show addO (resO s.rts y) S=S;rw[zaf _ _ _ hv];rfl
 | false =>
  rw[a,xe] at h;cases h;have hw:w=0:=hw;subst hw;have e:=q4i _ c;subst e;show addO (resO s.rts y) b=b;rw[zaf _ _ _ hv];rfl
structure HxOK (P:om) (f:Nat) (g:Cl->List IV->IS->Option Res):Prop where
 fn:∀cl,ClOK P cl->ClFr cl->Calm cl->∀vs S r,g cl vs S=iz r->∀(T:TW) (E:Env) (us:List oc),Pre T E S->tin T.r r.rd->tin T.w r.wr->VRs E vs us->zg P f/\mf ox 0 P f us.toArray E.w (RetX T E S r)
 fr:∀cl,ClFr cl->∀vs S,FrO S (g cl vs S)
 calm:∀cl,Calm cl->∀vs S r,g cl vs S=iz r->r.wr=0->low2 S.next r.v=i7->r.S=S
theorem HxOK.of{f:Nat}{g:Cl->Lz IV->IS->Oq Res}(fn:∀cl,ClOK P cl->ClFr cl->Calm cl->∀vs S r,g cl vs S=iz r->∀(T:TW) (E:Env) (us:Lz oc),Pre T E S->tin T.r r.rd->tin T.w r.wr->VRs E vs us->zg P f/\mf ox 0 P f us.toArray E.w (RetE T E S r))
  (fr:∀cl,ClFr cl->∀vs S,FrO S (g cl vs S)) (calm:∀cl,Calm cl->∀vs S r,g cl vs S=iz r->r.wr=0->low2 S.next r.v=i7->r.S=S):HxOK P f g :=
 ⟨fun cl a b c vs S r h T E us p i e d=>let ⟨x,y⟩:=fn cl a b c vs S r h T E us p i e d;⟨x,y.mono fun _ _=>RetX.of⟩,fr,calm⟩
def ElQ:Lz (Bool × TC)->Type
 | []=>Unit
 | (i7,_)::cs=>Nat × ElQ cs
 | (eb,c)::cs=>El c × ElQ cs
def valQ:(cs:Lz (Bool × TC))->ElQ cs->Lz IV
 | [],_=>[]
 | (i7,c)::cs,x=>.arr x.1::valQ cs x.2
 | (eb,c)::cs,x=>asIV c x.1::valQ cs x.2
def idsQ:(cs:Lz (Bool × TC))->ElQ cs->Lz Nat
 | [],_=>[]
 | (i7,c)::cs,x=>x.1::idsQ cs x.2
 | (eb,c)::cs,x=>idsQ cs x.2
def clR:(cs:Lz (Bool × TC))->IS->Lz IV->Oq (ElQ cs × IS × Nat)
 | [],S,vs=>match vs with
  | []=>iz ((),S,0)
  | _=>i6
 | (i7,c)::cs,S,vs=>match vs with
  | v::vs=>match coeV S c v with
   | some (.arr id,S1,w1)=>match clR cs S1 vs with
    | some (q,S2,w2)=>iz ((id,q),S2,w1 ||| w2)
    | none=>i6
   | _=>i6
  | _=>i6
 | (eb,c)::cs,S,vs=>match vs with
  | v::vs=>cond (fitV c v) (match icl c S (cellsOf v) with
   | some (x,[],S1,w1)=>match clR cs S1 vs with
    | some (q,S2,w2)=>iz ((x,q),S2,w1 ||| w2)
    | none=>i6
   | _=>i6) i6
  | _=>i6
def wv:(cs:Lz (Bool × TC))->ElQ cs->IS->Oq (ElR cs)
 | [],_,_=>iz ()
 | (i7,c)::cs,x,S=>match S.heap.get x.1 with
  | some (.arr c' l)=>match q3 c' c l with
   | some l'=>match wv cs x.2 S with
    | some y=>iz (l',y)
    | none=>i6
   | none=>i6
  | _=>i6
 | (eb,c)::cs,x,S=>match wv cs x.2 S with
  | some y=>iz (x.1,y)
  | none=>i6
theorem ql6:∀(cs:Lz (Bool × TC)) {E:Env} {S:IS} {vs:Lz IV} {us:Lz oc} {x:ElQ cs} {S':IS} {w:Nat},clR cs S vs=iz (x,S',w)->Pre T E S->tin T.w w->VRs E vs us ->
  ∃E',E'.w=E.w/\Post T E S E' S'/\Fresh E S E'/\VRs E' (valQ cs x) us
 | [],E,S,vs,us,x,S',w,h,p,hw,hv=>by
  cases vs with
  | cons v vs=>cases h
  | nil=>cases h;exact⟨E,rfl,Post.refl p,Fresh.refl E S,hv⟩
 | (i7,c)::cs,E,S,vs,us,x,S',w,h,p,hw,hv=>by
  cases vs with
  | nil=>cases h
  | cons v vs =>
  simp only[clR] at h;split at h<;>try cases h
  rename_i id S1 w1 h1;split at h<;>cases h;rename_i q S2 w2 h2;obtain⟨g1,g2⟩:=zp hw;obtain⟨u,us,rfl,a1,a2⟩:=hv.inv;obtain⟨E1,e1,q1,f1,v1⟩:=qb8 p h1 g1 a1;obtain⟨E2,e3,q2,f2,b2⟩:=ql6 cs h2 (q1.pre p) g2 (a2.mono (q1.env p));exact⟨E2,e3.trans e1,Post.trans p q1 f1 q2,f1.trans f2 q1.le,VRs.cons (v1.mono (q2.env (q1.pre p))) b2⟩
 | (eb,c)::cs,E,S,vs,us,x,S',w,h,p,hw,hv=>by
  cases vs with
  | nil=>cases h
  | cons v vs =>
  simp only[clR] at h;cases hb:fitV c v with
  | false=>rw[hb] at h;cases h
  | true =>
  rw[hb,xa] at h;split at h<;>try cases h
  rename_i x1 S1 w1 h1;split at h<;>cases h;rename_i xs S2 w2 h2;obtain⟨g1,g2⟩:=zp hw;obtain⟨u,us,rfl,a1,a2⟩:=hv.inv;obtain⟨E1,e1,q1,f1,us1,us2,e2,v1,v2⟩:=tn c h1 p g1 (a1.cells (qou hb));have:us2=[]:=by have:=v2.1;simpa using this.symm
  subst this;rw[gz] at e2;rw[<- e2] at v1;have b1:=qum hb a1 v1;obtain⟨E2,e3,q2,f2,b2⟩:=ql6 cs h2 (q1.pre p) g2 (a2.mono (q1.env p));exact⟨E2,e3.trans e1,Post.trans p q1 f1 q2,f1.trans f2 q1.le,VRs.cons (b1.mono (q2.env (q1.pre p))) b2⟩
theorem qh0:∀(cs:Lz (Bool × TC)) {x:ElQ cs} {S:IS} {y:ElR cs},wv cs x S=iz y->(resO cs y).length=(idsQ cs x).length/\∀k:Nat,(resO cs y)[k]?=((idsQ cs x)[k]?).bind fun id=>S.heap.get id
 | [],x,S,y,h=>⟨rfl,fun k=>by simp[resO,idsQ]⟩
 | (i7,c)::cs,x,S,y,h=>by
  simp only[wv] at h;split at h<;>try cases h
  rename_i c' l ho;split at h<;>try cases h
  rename_i l' hl;obtain⟨rfl,rfl⟩:=kl hl;split at h<;>cases h;rename_i y' hy;obtain⟨a1,a2⟩:=qh0 cs hy;refine⟨by simp[resO,idsQ,a1],fun k=>?_⟩;cases k with
  | zero=>simp [resO,idsQ,ho]
  | succ k=>simpa [resO,idsQ] using a2 k
 | (eb,c)::cs,x,S,y,h=>by
  simp only[wv] at h;split at h<;>cases h;rename_i y' hy;exact qh0 cs hy
theorem qoi{q:Lz Nat}(hnd:ndB q=i7):∀(cs:Lz (Bool × TC)) {x:ElQ cs} {S:IS} {y:ElR cs} {pre:Lz Nat} {us:Lz oc},q=pre++idsQ cs x->wv cs x S=iz y->VRs E (valQ cs x) us->VRs (renE 0 q E) (resV cs pre.length y) us
 | [],x,S,y,pre,us,hq,h,hv=>by have:=hv.1;cases us with|nil=>exact VRs.nil|cons _ _=>simp [valQ] at this
 | (i7,c)::cs,x,S,y,pre,us,hq,h,hv=>by
  obtain⟨u,us,rfl,a1,a2⟩:=VRs.inv (v:=.arr x.1) (cs:=valQ cs x.2) hv;simp only[wv] at h;split at h<;>try cases h
  split at h<;>try cases h
  split at h<;>cases h;rename_i y' hy;have h2:=qoi hnd cs (pre:=pre++[x.1]) (by rw[hq];simp [idsQ]) hy a2;rw[xp] at h2;refine VRs.cons ?_ h2;have e:ol 0 q pre.length=x.1:=by
   unfold ol;rw[xr (by omega),rz,hq];simp[idsQ,xn]
  cases a1 with
  | arr hA hh=>exact .arr ⟨by rw[hq];simp [idsQ],by rw[e];exact hA⟩ (by simp only[renE,e];exact hh)
 | (eb,c)::cs,x,S,y,pre,us,hq,h,hv=>by
  obtain⟨u,us,rfl,a1,a2⟩:=VRs.inv (v:=asIV c x.1) (cs:=valQ cs x.2) hv;simp only[wv] at h;split at h<;>cases h;rename_i y' hy;exact VRs.cons (na (E:=E) (E':=renE 0 q E) (fun _ h=>h) rfl a1) (qoi hnd cs hq hy a2)
theorem Post.congr{E':Env}{S' S'':IS}(hH:S'.H=S''.H)(hn:S'.next=S''.next)(h:Post T E S E' S'):Post T E S E' S'' :=
 ⟨hH▸h.st,hH▸h.stp,fun a b=>hn▸h.bnd a b,hn▸h.le⟩
def qln(n:Nat)(v:IV):Oq (Lz IV) :=
 cond (od n 1) (iz [v]) (match v with
  | .tup vs=>cond (od vs.length n) (iz vs) i6
  | _=>i6)
def qgq(n:Nat)(v:IV):Oq (Lz IV):=cond (qy v).isSome i6 (qln n v)
theorem qww{n:Nat}{v:IV}{vs:Lz IV}(h:qgq n v=iz vs):qy v=i6/\qln n v=iz vs:=by
 unfold qgq at h;cases a:qy v with
 | some p=>rw[a] at h;cases h
 | none=>rw[a] at h;exact⟨rfl,h⟩
def runR(s:Sm)(r:Res):Oq (ElR s.rts) :=
 match qgq s.rts.length r.v with
 | none=>i6
 | some vs=>match clR s.rts r.S vs with
  | none=>i6
  | some (x,S2,_)=>cond (ndB (idsQ s.rts x)) (wv s.rts x S2) i6
theorem zck{s:Sm}{r:Res}{y:ElR s.rts}{M:Lz Nat}{w w':oh}{e:aw}(hM:∀b∈M,b<w.heap.size)(hg:Gl M w)(h:runR s r=iz y)(hR:RetE T0 (EM M w) S0 r e w') :
   RetE T0 (EM M w) S0 ⟨tupI (resV s.rts 0 y),addO (resO s.rts y) S0,0,0⟩ e w':=by
 obtain⟨u,ξ,rfl,rfl,K,J,Q⟩:=hR;have I:=preM hM hg;have P:=J.pre I;unfold runR at h;split at h
 · grind
 rename_i W d;split at h
 · grind
 rename_i x μ ρ Z;cases g:ndB (idsQ s.rts x) with
 | false=>rw[g] at h;cases h
 | true =>
 rw[g,xa] at h
 -- the results one by one
 have m:∃H:Lz oc,VRs ξ W H/\∀(F:Env) (j:Lz IV),j.length=s.rts.length->VRs F j H->VR F (tupI j) u:=by
   replace d:=(qww d).2
   unfold qln at d;cases f:od s.rts.length 1 with
   | true =>
     rw[f,xa] at d;cases d;have C:=xg f;exact⟨[u],VRs.cons K VRs.nil,fun F j E p=>by
       rw[C] at E;match j,E with
       | [a],_=>exact p.2 0 (by simp) (by simp)⟩
   | false =>
     rw[f,xe] at d;split at d<;>try cases d
     rename_i G α;cases R:od G.length s.rts.length with
     | false=>rw[R] at d;cases d
     | true =>
     rw[R,xa] at d;cases d;rw[α] at K;cases K with
     | tup E hh =>
     refine⟨_,⟨E,hh⟩,fun F j n p=>?_⟩;match j,n with
     | [],_=>exact .tup p.1 p.2
     | [a],n=>rw[<- n] at f;cases f
     | a::b::j,_=>exact .tup p.1 p.2
 obtain⟨H,N,D⟩:=m;obtain⟨ν,η,O,ζ,L⟩:=ql6 s.rts Z P (fun _ _=>trivial) N;have X:=O.pre P;have β:=Post.trans I J Q O;have δ:=Q.trans ζ J.le;have κ:=PostB.of (B:=0) (pm _) (fun _ _=>trivial) β δ;have ι:=qys (z:=fun _=>i6) (B:=0) (q:=idsQ s.rts x) X (pm _) (fun _ _=>trivial) (fun _ _ h=>by cases h) g (by rw[xz];intro _ _;rfl);obtain⟨V,U⟩:=PostB.full I (show PostB S0.next T0 (EM M w) S0 _ _ from κ.trans ι);obtain⟨T,S⟩:=qh0 s.rts h;have A:=qoi g s.rts (pre:=[]) rfl h L;refine⟨u,renE 0 (idsQ s.rts x) ν,rfl,η,D _ _ ?_ A,Post.congr ?_ ?_ V,⟨fun Y ε γ=>U.fr Y ε γ⟩⟩
 · have:∀(v:Lz (Bool × TC)) (i:Nat) (y:ElR v),(resV v i y).length=v.length:=by
     intro v;induction v with
     | nil=>intro i y;rfl
     | cons c v ih=>intro i y;obtain⟨b,c⟩:=c;cases b<;>simp [resV]<;>exact ih _ y.2
   grind
 · funext k;rw[qvb,xr (show ¬k<0 by omega),kf];have θ:S0.next=0:=rfl
   rw[θ,xr (show ¬k<0 by omega),x6,x6,rz,T];by_cases t:k<(idsQ s.rts x).length
   · rw[xx t,xx t,S k,xc t];have e:ol 0 (idsQ s.rts x) k=(idsQ s.rts x)[k]:=by unfold ol;rw[xr (by omega),rz,xn,xc t];rfl
     rw[e];simp only[ja9];cases σ:μ.heap.get (idsQ s.rts x)[k] with
     | none=>rfl
     | some o =>
       have:o∈resO s.rts y:=by
         have:=S k
         grind
       obtain⟨c,l,rfl⟩:=qf3 _ _ _ this;rfl
   · rw[xr t,xr t];rfl
 · show 0+(idsQ s.rts x).length=(addO (resO s.rts y) S0).next
   rw[wc,T];rfl
theorem zxb{s:Sm}{r:Res}{y:ElR s.rts}{M:Lz Nat}{w w':oh}{e:aw}(hM:∀b∈M,b<w.heap.size)(hg:Gl M w)(h:runR s r=iz y)(hR:RetX T0 (EM M w) S0 r e w') :
  RetE T0 (EM M w) S0 ⟨tupI (resV s.rts 0 y),addO (resO s.rts y) S0,0,0⟩ e w':=by
 refine zck hM hg h (hR.val ?_);unfold runR at h;split at h
 ·grind
 ·rename_i a;exact(qww a).1
end
end Go.Jx
end
