/- Texts: Rp3, Rp4, Jcg, Jch, Jci, Jcj, Jck, Qri, Jcp, Qc1, Qgo, Qco, Qc2, Qc2p, Qc1p, Qcan, Qcanp, Lw6, Qsp2, Lw1, Lw2, Qsp3, Lw4, Lw7, Lw8, Lw9, Lw10, Lw11, Lw12, Lw13, Lw14, Qeq, Qeqp, Qeqf, Qeqfp, Qsm, Qe1, Qsmp, Lw15, Lw16, Lw17, Lw18, Lw21, Lw22, Jcm, Rsc, Pd3, Rg9, Qe2, Qe3, Rn1, Pd4, Jpp, Pd1, Ps1, Pd2, Ps2, Ps3, Ppa, Pd5. -/
import Derived.Test.YtcnhjofpmpipfaaGreatMd4
import Derived.Test.YtcnhjofpmpipfaaGreatMd1
import Derived.WalkKit
import Derived.Handy
import Derived.Defers
import Derived.Recover
import Derived.BigRegion
set_option linter.unusedVariables false
noncomputable section
set_option maxRecDepth 100000
namespace Go.Proofs.YtcnhjofpmpipfaaGreat
open Go Go.Sx Go.RowKit Go.Jx
theorem zha{α:Type}(v:Int)(X Y:α):(cond (Bool.not (iltI v (Int.ofNat 97))) (cond (Bool.not (iltI (Int.ofNat 122) v)) X (cond (Bool.not (iltI v (Int.ofNat 65))) (cond (Bool.not (iltI (Int.ofNat 90) v)) X (cond (Bool.not (iltI v (Int.ofNat 48))) (cond (Bool.not (iltI (Int.ofNat 57) v)) X (cond (ieqI v (Int.ofNat 95)) X Y)) (cond (ieqI v (Int.ofNat 95)) X Y))) (cond (Bool.not (iltI v (Int.ofNat 48))) (cond (Bool.not (iltI (Int.ofNat 57) v)) X (cond (ieqI v (Int.ofNat 95)) X Y)) (cond (ieqI v (Int.ofNat 95)) X Y)))) (cond (Bool.not (iltI v (Int.ofNat 65))) (cond (Bool.not (iltI (Int.ofNat 90) v)) X (cond (Bool.not (iltI v (Int.ofNat 48))) (cond (Bool.not (iltI (Int.ofNat 57) v)) X (cond (ieqI v (Int.ofNat 95)) X Y)) (cond (ieqI v (Int.ofNat 95)) X Y))) (cond (Bool.not (iltI v (Int.ofNat 48))) (cond (Bool.not (iltI (Int.ofNat 57) v)) X (cond (ieqI v (Int.ofNat 95)) X Y)) (cond (ieqI v (Int.ofNat 95)) X Y))))=cond (S.isPart v) X Y:=by
 simp only[qal,qat,oL];have hp:S.isPart v=(((!decide (v<97)&&!decide (122<v))||(!decide (v<65)&&!decide (90<v)))||(!decide (v<48)&&!decide (57<v))||decide (v=95)):=by
  have e:∀a b:Int,decide (a<=b)=!decide (b<a):=fun a b=>by
   by_cases h:b<a
   ·rw[jaf h,jae (by omega)];rfl
   ·rw[jae h,jaf (by omega)];rfl
  simp only[S.isPart,S.isSmall,S.isCap,S.isDig,e]
 rw[hp];cases decide (v<97)<;>cases decide (122<v)<;>cases decide (v<65)<;>cases decide (90<v)<;>cases decide (v<48)<;>cases decide (57<v)<;>cases decide (v=95)<;>rfl
theorem zjx(s:ByteArray)(hl:s.size<LF):Fz13 LF s (Int.ofNat 0)=some (S.run0 s,()):=by
 have hbl:(qag s).length<LF:=by rw[qci];exact hl
 have h0:∀i:Nat,i<LF->IntKind.i64.wrap (Int.add (Int.ofNat 0) (Int.ofNat i))=Int.ofNat i:=fun i hi=>by
  rw[show Int.add (Int.ofNat 0) (Int.ofNat i)=Int.ofNat i from Int.zero_add _];exact qhx (by unfold LF at hi;show _<=(i:Int)/\(i:Int)<_;omega)
 refine(qbv (R:=qc0) (qag s) (fun rest i=>some (Int.ofNat (i+(rest.takeWhile S.isPart).length),())) hbl (fun K=>?_) (fun K i v rest r h=>?_)).trans ?_
 ·simp only[qt2,h0 _ hbl];rw[qci,qaz];rfl
 ·have hlt:iltI (Int.ofNat i) (Int.ofNat s.size)=true:=by have:=r.ilt;rwa [qci] at this
  simp only[qt2,h0 i (by have:=r.lt;omega),hlt,r.get,r.next,h,jaa,zha,List.takeWhile_cons];cases S.isPart v with
  | true=>simp only[jaa,jcl,jbn];exact jb2 (fun n=>some (Int.ofNat n,())) (by omega)
  | false=>rfl
 ·unfold S.run0;rw[ja5]
theorem zh1{a b:Int}(h:ieqI a b=true):a=b:=by rw[qat] at h;exact ja9 h
theorem zt2:Con Tryz.prog zix za8:=zht trivial fun x y hx h=>⟨LF,by
 have h:cond (ieqI x.2.1 (Int.ofNat 0)) (some (S.run0 x.1,())) none=some y:=h;cases hr:ieqI x.2.1 (Int.ofNat 0) with
 | false=>rw[hr] at h;cases h
 | true =>
  rw[hr] at h;have e:x.2.1=Int.ofNat 0:=zh1 hr;have e2:Fz13 LF x.1 x.2.1=Fz13 LF x.1 (Int.ofNat 0):=jb2 (Fz13 LF x.1) e;exact e2.trans ((zjx x.1 hx.1).trans h)⟩
theorem zw3{s:ByteArray}{b:Int}(h:b∈qag s):IntKind.i64.wrap b=b:=by
 have:=zok h;exact qhx (by omega)
theorem zfs(s:ByteArray)(hl:s.size<LF)(hp:0<s.size):Fz14 LF s=some (S.number s,()):=by
 have hbl:(qag s).length<LF:=by rw[qci];exact hl
 have h10:∀n:Int,qlw LF s LF (Int.ofNat 0,n)=some (S.numGo (qag s) n,()):=fun n=>by
  refine range0 (σ:=Int) (R:=qb8) (qag s) (fun i n=>(i,n)) (fun _ _=>True) (fun rest _ n=>some (S.numGo rest n,())) hbl (fun K n _=>?_) (fun K i v rest n _ r h=>?_) n trivial
  ·simp only[qvb];rw[qci,qaz];rfl
  ·have hlt:iltI (Int.ofNat i) (Int.ofNat s.size)=true:=by have:=r.ilt;rwa [qci] at this
   simp only[qvb,hlt,r.get,r.next,jaa,zw3 r.mem,h _ trivial,S.numGo];generalize IntKind.i64.wrap (Int.sub (IntKind.i64.wrap (Int.add (IntKind.i64.wrap (Int.mul (Int.ofNat 10) n)) v)) (Int.ofNat 48))=m;rw[qal];simp only[oL];by_cases hm:1099511627776<m
   ·rw[jaf hm,jaa,jal hm]
   ·rw[jae hm,jad,jak hm]
 obtain⟨b0,hb0⟩:∃b,(qag s)[0]?=some b:=⟨_,qqt hp⟩;have hj:jget (qag s) (Int.ofNat 0)=some b0:=by rw[qbz];exact hb0
 show qo0 LF s LF (Int.ofNat 0)=_;refine(qbv (R:=qb8) (qag s) (fun rest i=>some ((if rest.all S.isDig=false then ((0:Int),(2:Int)) else if (qag s)[0]?=some 48/\1<s.size then (0,2) else S.numGo (qag s) 0),())) hbl (fun K=>?_) (fun K i v rest r h=>?_)).trans ?_
 ·simp only[qs0,h10];rw[qci,qaz,jad,jfj,jak (by simp),hj,hb0];simp only[qeo,qat];simp only[oL];by_cases h48:b0=48
  ·by_cases h1:1<s.size
   ·rw[jaf h48,jaf h1,jal ⟨by rw[h48],h1⟩];rfl
   ·rw[jaf h48,jae h1,jak (fun h=>h1 h.2)];rfl
  ·rw[jae h48,jak (fun h=>h48 (jbs h.1))];rfl
 ·have hlt:iltI (Int.ofNat i) (Int.ofNat s.size)=true:=by have:=r.ilt;rwa [qci] at this
  rw[jch];simp only[qs0,hlt,r.get,r.next,h,jaa,qal];simp only[oL];unfold S.isDig;by_cases a:v<48
  ·rw[jaf a,jae (show ¬48<=v by omega)];rfl
  by_cases b:57<v
  ·rw[jae a,jaf b,jaf (show 48<=v by omega),jae (show ¬v<=57 by omega)];rfl
  ·rw[jae a,jae b,jaf (show 48<=v by omega),jaf (show v<=57 by omega)];rfl
 ·rfl
theorem zlt:Con Tryz.prog zn2 q3n:=zrm trivial fun x y hx h=>⟨LF,by
 have h:cond (Nat.blt 0 x.1.size) (some (S.number x.1,())) none=some y:=h;cases hr:Nat.blt 0 x.1.size with
 | false=>rw[hr] at h;cases h
 | true=>rw[hr] at h;exact(zfs x.1 hx.1 (by simpa using hr)).trans h⟩

theorem zp6(s:ByteArray)(hl:s.size<LF):Fz15 LF s=some (S.word s,()):=by
 have hbl:(qag s).length<LF:=by rw[qci];exact hl
 obtain⟨W,hW⟩:∃W:Bool->Bool->Int × Int,∀lo hi,W lo hi=if (lo&&hi)=true then (0,2) else if 20<s.size then (0,3) else if lo=true then (1,0) else (2,0):=⟨_,fun _ _=>rfl⟩
 have h8:qi2 LF s LF (Int.ofNat 0,false,false)=some (W ((qag s).any S.isSmall) ((qag s).any S.isCap),()):=by
  refine(range0 (σ:=Bool × Bool) (R:=qcy) (qag s) (fun i q=>(i,q)) (fun _ _=>True) (fun rest _ q=>some (W (q.2||rest.any S.isSmall) (q.1||rest.any S.isCap),())) hbl (fun K q _=>?_) (fun K i v rest q _ r h=>?_) (false,false) trivial).trans ?_
  ·simp only[qum];rw[qci,qaz,jad];simp only[List.any_nil,Bool.or_false,qeo,hW];simp only[oL];obtain⟨hi,lo⟩:=q;by_cases h20:20<s.size
   ·simp only[jaf h20,jal h20];cases hi<;>cases lo<;>rfl
   ·simp only[jae h20,jak h20];cases hi<;>cases lo<;>rfl
  ·have hlt:iltI (Int.ofNat i) (Int.ofNat s.size)=true:=by have:=r.ilt;rwa [qci] at this
   have hh:=fun hi lo=>h (hi,lo) trivial;simp only[qum,hlt,r.get,r.next,jaa,hh,qal];simp only[oL,jff];have e:∀a b:Int,decide (a<=b)=!decide (b<a):=fun a b=>by
    by_cases h:b<a
    ·rw[jaf h,jae (by omega)];rfl
    ·rw[jae h,jaf (by omega)];rfl
   have e1:S.isSmall v=(!decide (v<97)&&!decide (122<v)):=by simp only[S.isSmall,e]
   have e2:S.isCap v=(!decide (v<65)&&!decide (90<v)):=by simp only[S.isCap,e]
   rw[e1,e2];generalize List.any rest S.isSmall=zs;generalize List.any rest S.isCap=zc;obtain⟨hi,lo⟩:=q;cases decide (v<97)<;>cases decide (122<v)<;>cases decide (v<65)<;>cases decide (90<v)<;>cases hi<;>cases lo<;>rfl
  ·simp only[jem]
 rw[hW] at h8;simp only[Fz15,qwk,S.word];show cond (S.has S.keywords s) _ (cond (S.has S.wordsT s) _ (cond (S.has S.smallWords s) _ (qi2 LF s LF (Int.ofNat 0,false,false))))=_;rw[h8];cases S.has S.keywords s with
 | true=>rfl
 | false =>
  cases S.has S.wordsT s with
  | true=>rfl
  | false =>
   cases S.has S.smallWords s with
   | true=>rfl
   | false=>rfl
theorem zxr:Con Tryz.prog zmt q6t:=zir ⟨q7u,trivial⟩ fun x y hx h=>⟨LF,(zp6 x.1 hx.1).trans h⟩
theorem zvm(lf:Nat)(s:ByteArray):qr9 lf s=some (S.shape s,()):=by
 simp only[qr9,q5p,S.shape];show cond (S.has S.signs s) _ _=_;cases S.has S.signs s with
 | true=>rfl
 | false =>
  rw[jad,jak (by simp),qo1];by_cases h0:s.size=0
  ·rw[jaf h0,jaa];have:(qag s)[0]?=none:=by rw[List.getElem?_eq_none_iff,qci,h0];exact jaq _
   rw[this];rfl
  rw[jae h0,jad];have hb:=qqt (s:=s) (i:=0) (by omega);have hj:jget (qag s) (Int.ofNat 0)=some ((s[0]'(by omega)).toNat:Int):=by rw[qbz];exact hb
  generalize ((s[0]'(by omega)).toNat:Int)=b0 at hb hj;rw[hj,hb];simp only[qal,qat];simp only[oL];by_cases h1:S.run0 s<Int.ofNat s.size
  ·rw[jaf h1,jal h1];rfl
  rw[jae h1,jak h1,jad];by_cases h2:b0=95
  ·rw[jaf h2,jal h2];rfl
  rw[jae h2,jak h2,jad];have hn:Nat.ble 1 s.size=true:=jbk (by omega);rw[hn];simp only[jaa];have hd:S.isDig b0=(!decide (b0<48)&&!decide (57<b0)):=by
   unfold S.isDig;rw[jb7];simp only[jah,ja6,jcn,jc9];omega
  rw[hd];cases decide (b0<48) with
  | true=>rfl
  | false =>
   cases decide (57<b0) with
   | true=>rfl
   | false =>
    by_cases h5:(S.number s).2=0
    ·rw[jaf h5,jal (show (!false&&!false)=true from rfl),jal h5];rfl
    ·rw[jae h5,jal (show (!false&&!false)=true from rfl),jak h5];rfl
theorem zuk:Con Tryz.prog zul q4f:=z13 ⟨q7u,zt2,zlt,zxr,trivial⟩ fun x y hx h=>⟨LF,(zvm _ _).trans h⟩
theorem ze5(l:List ByteArray)(s:ByteArray):S.has l s=true↔s∈l:=by
 unfold S.has;rw[jby];exact⟨fun ⟨x,hx,h⟩=>by rw[<- ja9 h];exact hx,fun h=>⟨s,h,jaf rfl⟩⟩
theorem zdf{α:Type}(p:α->Bool):∀l:List α,(l.takeWhile p).length<l.length↔¬∀x∈l,p x=true
 | []=>by simp
 | x::l=>by
  have ih:=zdf p l;rw[List.takeWhile_cons];cases hx:p x with
  | true =>
   rw[jal rfl];simp only[jbn,Nat.add_lt_add_iff_right,ih,ja4,forall_eq_or_imp,hx,true_and]
  | false =>
   rw[jak (by simp)];simp only[jcj,jbn,ja4,forall_eq_or_imp,hx];constructor
   ·intro _ h;exact absurd h.1 (by simp)
   ·intro _;omega
theorem q3q(s:ByteArray):S.run0 s<Int.ofNat s.size↔¬∀b∈qag s,S.isPart b=true:=by
 rw[<- zdf,qci];unfold S.run0;exact jei
theorem zub:∀w∈S.signs,∀b,(qag w)[0]?=some b->S.isCap b=false:=by decide +kernel
theorem zx8:∀w∈S.keywords,(qag w).any S.isSmall=true:=by decide +kernel
theorem zky:∀w∈S.wordsT,(qag w).any S.isSmall=true:=by decide +kernel
theorem zkz:∀w∈S.smallWords,(qag w).any S.isSmall=true:=by decide +kernel
theorem zwf(s:ByteArray):((S.shape s).2=0/\(S.shape s).1=2)↔s.size<=20/\(∃b,(qag s)[0]?=some b/\65<=b/\b<=90)/\(∀b∈qag s,S.isPart b=true/\S.isSmall b=false):=by
 constructor
 ·intro h;unfold S.shape at h;split at h
  ·exact absurd h.2 (by simp)
  split at h
  ·exact absurd h.1 (by simp)
  rename_i b hb;split at h
  ·exact absurd h.1 (by simp)
  rename_i hrun;have hpart:=jco.1 (fun hn=>hrun ((q3q s).2 hn));split at h
  ·exact absurd h.1 (by simp)
  rename_i h95;split at h
  ·split at h
   ·exact absurd h.2 (by simp)
   ·rename_i hn;exact absurd h.1 hn
  rename_i hdig;unfold S.word at h;split at h
  ·exact absurd h.2 (by simp)
  split at h
  ·exact absurd h.1 (by simp)
  split at h
  ·exact absurd h.1 (by simp)
  split at h
  ·exact absurd h.1 (by simp)
  rename_i h20;split at h
  ·exact absurd h.2 (by simp)
  rename_i hlow;have hlow':∀c∈qag s,S.isSmall c=false:=fun c hc=>by
   cases hs:S.isSmall c with
   | false=>rfl
   | true=>exact absurd (jby.2 ⟨c,hc,hs⟩) hlow
  have hm:=ja8 hb;have hcap:S.isCap b=true:=by
   have:=hpart b hm;unfold S.isPart at this;rw[hlow' b hm,jem] at this;simp only[jdb,ja6] at this;rcases this with (h|h)|h
   ·exact h
   ·exact absurd h hdig
   ·exact absurd h h95
  unfold S.isCap at hcap;simp only[jah,ja6] at hcap;exact⟨by omega,⟨b,hb,hcap.1,hcap.2⟩,fun c hc=>⟨hpart c hc,hlow' c hc⟩⟩
 ·rintro⟨h20,⟨b,hb,c1,c2⟩,hall⟩;have hcap:S.isCap b=true:=by unfold S.isCap;simp;omega
  have hs1:¬S.has S.signs s=true:=fun h=>by
   have:=zub s ((ze5 _ _).1 h) b hb;rw[hcap] at this;cases this
  have hlow:(qag s).any S.isSmall=false:=by
   rw[List.any_eq_false];exact fun c hc=>by rw[(hall c hc).2];simp
  have hno:∀l:List ByteArray,(∀w∈l,(qag w).any S.isSmall=true)->S.has l s=false:=fun l hl=>by
   cases hh:S.has l s with
   | false=>rfl
   | true=>have:=hl s ((ze5 _ _).1 hh);rw[hlow] at this;cases this
  have hrun:¬S.run0 s<Int.ofNat s.size:=fun h=>(q3q s).1 h fun c hc=>(hall c hc).1;have hdig:¬S.isDig b=true:=by unfold S.isDig;simp;omega
  unfold S.shape S.word;rw[jak hs1,hb];simp only;rw[jak hrun,jak (by omega),jak hdig,hno _ zx8,hno _ zky,hno _ zkz,hlow];rw[jak (by simp),jak (by simp),jak (by simp),jak (by omega),jak (by simp)];exact⟨rfl,rfl⟩
theorem zzi(lf:Nat)(s:ByteArray):qp8 lf s=some (S.class_ s,()):=by
 have key:∀z:Bool,(z=true↔S.class_ s=true)->(some (z,()):Option qoo)=some (S.class_ s,()):=fun z h=>by rw[jb7.2 h]
 have hw:s∈S.classWords↔(s=S.lit [73,78,84,69,71,69,82]\/s=S.lit [66,79,79,76,69,65,78]\/s=S.lit [65,78,89]\/s=S.lit [78,79,78,69]):=by
  simp only[S.classWords,ja4,jdw,or_false];exact Iff.rfl
 have hs:=zwf s;have hc:=z10 s;simp only[qp8,zcz,qat,keqS];simp only[oL];by_cases e:¬(S.shape s).2=0
 ·rw[jae e];exact key _ ⟨fun h=>(by cases h),fun h=>absurd (hs.2 ⟨(hc.1 h).1,(hc.1 h).2.1,(hc.1 h).2.2.1⟩).1 e⟩
 have e:=jco.1 e;rw[jaf e,jaa];by_cases k:¬(S.shape s).1=2
 ·rw[jae k];exact key _ ⟨fun h=>(by cases h),fun h=>absurd (hs.2 ⟨(hc.1 h).1,(hc.1 h).2.1,(hc.1 h).2.2.1⟩).2 k⟩
 have k:=jco.1 k;rw[jaf k,jaa];have hh:=hs.1 ⟨e,k⟩;have hcl:S.class_ s=true↔¬s∈S.classWords:=⟨fun h=>(hc.1 h).2.2.2,fun h=>hc.2 ⟨hh.1,hh.2.1,hh.2.2,h⟩⟩;by_cases w1:s=S.lit [73,78,84,69,71,69,82]
 ·rw[jaf w1];exact key _ ⟨fun h=>(by cases h),fun h=>absurd (hw.2 (.inl w1)) (hcl.1 h)⟩
 rw[jae w1];by_cases w2:s=S.lit [66,79,79,76,69,65,78]
 ·rw[jaf w2];exact key _ ⟨fun h=>(by cases h),fun h=>absurd (hw.2 (.inr (.inl w2))) (hcl.1 h)⟩
 rw[jae w2];by_cases w3:s=S.lit [65,78,89]
 ·rw[jaf w3];exact key _ ⟨fun h=>(by cases h),fun h=>absurd (hw.2 (.inr (.inr (.inl w3)))) (hcl.1 h)⟩
 rw[jae w3];by_cases w4:s=S.lit [78,79,78,69]
 ·rw[jaf w4];exact key _ ⟨fun h=>(by cases h),fun h=>absurd (hw.2 (.inr (.inr (.inr w4)))) (hcl.1 h)⟩
 rw[jae w4];refine key _ ⟨fun _=>hcl.2 fun h=>?_,fun _=>rfl⟩;rcases hw.1 h with h|h|h|h
 ·exact w1 h
 ·exact w2 h
 ·exact w3 h
 ·exact w4 h
theorem z0g:Con Tryz.prog zwi qzw:=ztw ⟨zuk,trivial⟩ fun x y hx h=>⟨LF,(zzi _ _).trans h⟩
theorem zd1:Con Tryz.prog qyq qpc:=zm7 z0g
theorem znw:Con Tryz.prog q3r qza:=z2c zd1
end Go.Proofs.YtcnhjofpmpipfaaGreat
end

section
namespace Go.Jx
open Go Go.Sx Go.RowKit
universe u

def updP:(l:List PK)->ElP l->ElP (refs l)->ElP l
 | [],_,_=>()
 | .dat _::l,x,z=>(x.1,updP l x.2 z)
 | .fn _::l,x,z=>updP l x z
 | .ref _::l,x,z=>(z.1,updP l x.2 z.2)
theorem qu7:∀(l:List PK) (ι:Nat->Nat) (n:Nat) (x:ElP l) (z:ElP (refs l)),qas l ι n (updP l x z)=qas (refs l) ι n z
 | [],_,_,_,_=>rfl
 | .dat _::l,ι,n,x,z=>qu7 l ι n x.2 z
 | .fn _::l,ι,n,x,z=>qu7 l ι n x z
 | .ref r::l,ι,n,x,z=>by
  show objK r ι n z.1::qas l ι (n+nK r) (updP l x.2 z.2)=_;rw[qu7 l];rfl
theorem qs1:∀(l:List PK) (x:ElP l) (z:ElP (refs l)),qch l (updP l x z)=qch (refs l) z
 | [],_,_=>rfl
 | .dat _::l,x,z=>qs1 l x.2 z
 | .fn _::l,x,z=>qs1 l x z
 | .ref r::l,x,z=>by
  show subK r z.1++qch l (updP l x.2 z.2)=_;rw[qs1 l];rfl
theorem qsb:∀(l:List PK) (ρ:Nat->Nat) (k:Nat) (x:ElP l) (z:ElP (refs l)),qan l ρ k (updP l x z)=qan l ρ k x
 | [],_,_,_,_=>rfl
 | .dat c::l,ρ,k,x,z=>jb2 (fun q=>asIV c x.1::q) (qsb l ρ k x.2 z)
 | .fn f::l,ρ,k,x,z=>jb2 (fun q=>IV.fn f []::q) (qsb l ρ k x z)
 | .ref r::l,ρ,k,x,z=>jb2 (fun q=>argK r (ρ k)::q) (qsb l ρ (k+1) x.2 z.2)
def nPI(l:List PK):Nat:=nP l+cond (qer l) 0 1
theorem zcq{l:List PK}(h:nPI l=0):nP l=0/\qer l=true:=by
 unfold nPI at h;cases hb:qer l with
 | false=>rw[hb,jad] at h;omega
 | true=>exact⟨by omega,rfl⟩
def sQ(l:List PK):SmR:=⟨l,[],fun _=>none⟩
theorem q1l(l:List PK)(x:ElP l)(z:ElP (refs l)):ScB (sQ l) () z=Sc l (updP l x z):=by
 unfold ScB Sc newO;rw[qu7,qs1];show addO (qas (refs l) idN (mP l) z++(qch (refs l) z++[])) S0=_;rw[jbl]
structure Held (T:TW) (E:Env) (S:IS) (l:List PK) (x:ElP l) (rows subs:List Nat):Prop where
 l1:rows.length=mP l
 l2:subs.length=nP l
 nd:(rows++subs).Nodup
 w:∀id∈rows++subs,T.w id
 A:∀id∈subs,E.A id
 ok:okPs (mP l) l=true
 at_:∀ι,Nums ι 0 rows->Nums ι (mP l) subs->qk1 E rows (qas l ι (mP l) x)
 row:∀id∈rows,∃cs,S.H id=some (.row cs)
 sub:∀j:Nat,(qch l x)[j]?=(subs[j]?).bind fun id=>S.heap.get id
section
variable {T : TW} {E : Env} {S : IS} {l : List PK} {x : ElP l} {rows subs : List Nat}
theorem Held.num(h:Held T E S l x rows subs):Nums (ol 0 (rows++subs)) 0 rows/\Nums (ol 0 (rows++subs)) (mP l) subs:=by
 have hnq:Nums (ol 0 (rows++subs)) 0 (rows++subs):=fun j id hj=>by
  rw[ja5];unfold ol;rw[jak (by omega),jc6,jam,hj];rfl
 refine⟨hnq.fst,?_⟩;have:=hnq.snd
 rwa [ja5,h.l1] at this
theorem Held.len(h:Held T E S l x rows subs):(rows++subs).length=mP l+nP l:=by rw[jav,h.l1,h.l2]
theorem Held.rk(h:Held T E S l x rows subs){k:Nat}(hk:k<mP l):rows[k]?=some (ol 0 (rows++subs) k):=by
 have h1:k<rows.length:=by rw[h.l1];exact hk
 rw[jab h1,<- h.num.1 k _ (jab h1),ja5]
theorem Held.sk(h:Held T E S l x rows subs){k:Nat}(h1:mP l<=k)(h2:k<(rows++subs).length):subs[k-mP l]?=some (ol 0 (rows++subs) k):=by
 have h3:k-mP l<subs.length:=by rw[h.len] at h2;rw[h.l2];omega
 rw[jab h3,<- h.num.2 _ _ (jab h3),je2 h1]
theorem Held.rowA(h:Held T E S l x rows subs){k:Nat}(hk:k<mP l):∃r nj xj,(∀ι,(qas l ι (mP l) x)[k]?=some (objK r ι nj xj))/\mP l<=nj/\nj+nK r<=(rows++subs).length/\E.A (ol 0 (rows++subs) k)/\((objK r (ol 0 (rows++subs)) nj xj).blk=true->E.hb (ol 0 (rows++subs) k)=true)/\OR E (ol 0 (rows++subs) k) (objK r (ol 0 (rows++subs)) nj xj)/\∀k∈isK r,k<mP l:=by
 have h1:k<(qas l (ol 0 (rows++subs)) (mP l) x).length:=by rw[qa3];exact hk
 obtain⟨r,nj,xj,d1,d2,d3,d4,d5⟩:=qfl l (ol 0 (rows++subs)) (mP l) x k _ (jab h1);obtain⟨id,i1,i2,i3,i4⟩:=h.at_ _ h.num.1 h.num.2 k _ (d4 (ol 0 (rows++subs)));rw[h.rk hk] at i1;cases i1;exact⟨r,nj,xj,d4,d2,by rw[h.len];omega,i2,i3,i4,d5 _ h.ok⟩
theorem Held.allA(h:Held T E S l x rows subs):∀id∈rows++subs,E.A id:=fun id hid=>by
 rcases jbe.1 hid with hid|hid
 ·obtain⟨k,hk,rfl⟩:=jbu.1 hid;obtain⟨_,_,_,_,_,_,i2,_⟩:=h.rowA (k:=k) (by rw[<- h.l1];exact hk);have:=h.rk (k:=k) (by rw[<- h.l1];exact hk);rw[jab hk,jay] at this;rw[this];exact i2
 ·exact h.A id hid
theorem Held.numTo(E:Env)(q:List Nat){k:Nat}(hk:k<q.length):qcj E (renE 0 q E) (ol 0 q k) k:=fun hA=>⟨⟨by omega,hA⟩,rfl,rfl,rfl,rfl⟩
theorem Held.obj(h:Held T E S l x rows subs)(p:Pre T E S){k:Nat}{o:IObj}(hk:k<(rows++subs).length)(hAk:E.A (ol 0 (rows++subs) k))(ho:(Sc l x).H k=some o):ObjTo E S (renE 0 (rows++subs) E) (ol 0 (rows++subs) k) k o:=by
 unfold Sc at ho;rw[qgw] at ho;have hnum:∀j,j<(rows++subs).length->qcj E (renE 0 (rows++subs) E) (ol 0 (rows++subs) j) j:=fun j hj=>Held.numTo E _ hj;by_cases hkm:k<mP l
 ·rw[jas (by rw[qa3];exact hkm)] at ho;obtain⟨r,nj,xj,d1,d2,d3,d4,d5,d6,d7⟩:=h.rowA hkm;rw[d1 idN] at ho;cases ho;obtain⟨cs,hcs⟩:=h.row _ (ja8 (h.rk hkm));exact⟨OR.objK_to (E:=E) (E':=renE 0 (rows++subs) E) (fun _ h=>h) rfl hAk (hnum k hk) (fun j a b=>hnum j (by omega)) (fun j hj=>hnum j (by have:=d7 j hj;have:=h.len;omega)) d6,fun _=>⟨_,hcs,rfl⟩,fun hb=>d5 (qj2.trans hb)⟩
 ·rw[jat (by rw[qa3];omega),qa3] at ho;have hd:=qpw _ _ _ (ja8 ho);rw[h.sub,h.sk (by omega) hk] at ho;have hid:=(qbw hk).1;exact⟨OR.dat_to (E:=E) (E':=renE 0 (rows++subs) E) (fun _ h=>h) rfl hAk (hnum k hk) hd (p.st.objs _ (T.sub _ (h.w _ hid)) hAk _ ho),fun hl=>⟨_,ho,hl⟩,fun hbk=>p.st.blk _ (T.sub _ (h.w _ hid)) hAk _ ho hbk⟩
theorem Held.pre(h:Held T E S l x rows subs)(p:Pre T E S):Pre T0 (renE 0 (rows++subs) E) (Sc l x) :=
 Pre.re p h.nd (fun id hi=>T.sub _ (h.w id hi)) (by rw[qic,h.len]) fun k o hk hAk ho=>h.obj p hk hAk ho
theorem Held.back{s:SmR}{x:ElP s.ps}{y:ElR s.rts}{z:ElP (refs s.ps)}{Er:Env}(h:Held T E S s.ps x rows subs)(p:Pre T E S)(k2:PostB (mP s.ps) T0 (renE 0 (rows++subs) E) (Sc s.ps x) Er (ScB s y z)) :
  Post T E S (mrgR E Er S.next (mP s.ps)) (qb6 s S.next rows subs y z S)/\Fresh E S (mrgR E Er S.next (mP s.ps)):=by
 have hA:=h.allA;have hlt:∀id,id∈rows++subs->id<S.next:=fun id hi=>p.bnd id (hA id hi)
 have hsb:∀k,k<(rows++subs).length->Live (renE 0 (rows++subs) E) (Sc s.ps x).H k->Live E S.H (ol 0 (rows++subs) k):=fun k hk ⟨h0,o,h1,h2⟩=>⟨h0,(h.obj p hk (hA _ (qbw hk).1) h1).live h2⟩;have hbn:(setL rows (qas (refs s.ps) (nuB rows (mP s.ps) S.next) (mP s.ps) z) (qe4 subs S)).next=S.next:=by rw[qui,qun]
 have hndr:rows.Nodup:=(jcf.1 h.nd).1;have hrs:∀id,id∈rows->id ∉ subs:=fun id h1 h2=>(jcf.1 h.nd).2.2 id h1 id h2 rfl;have hScB:∀k,(ScB s y z).H k=(qas (refs s.ps) idN (mP s.ps) z++newO s y z)[k]?:=fun k=>qgw _ k;have hql:=h.len;have l1:=h.l1;have hrk:=fun k (hk:k<mP s.ps)=>h.rk hk;have hsk:=fun k (h1:mP s.ps<=k) (h2:k<(rows++subs).length)=>h.sk h1 h2;have hrowA:=fun k (hk:k<mP s.ps)=>h.rowA hk;have hnd:=h.nd;have hok:=h.ok;have hT:=h.w;have hinr:∀id,id∈rows->id∈rows++subs:=fun id h=>jbz _ h;have hins:∀id,id∈subs->id∈rows++subs:=fun id h=>jb3 _ h;generalize hq:rows++subs=q at *;have hEA:∀k,k<mP s.ps->Er.A k/\Er.ρ k=E.ρ (ol 0 q k)/\Er.κ k=E.κ (ol 0 q k)/\Er.hd k=E.hd (ol 0 q k)/\Er.hb k=E.hb (ol 0 q k):=fun k hk=>by
  obtain⟨a1,a2,a3,a4,a5⟩:=k2.alw k hk ⟨by omega,hA _ (qbw (by omega)).1⟩;exact⟨a1,a2,a3,a4,a5⟩
 exact zeh (n:=S.next) (m:=mP s.ps) (S':=qb6 s S.next rows subs y z S) p hnd hT hA (by omega) rfl hsb k2 (by
   unfold qb6 ScB;rw[qc9,qc9,hbn,jav,qa3,qb2];have:S0.next=0:=rfl
   omega) (fun id hid hnq=>by
   unfold qb6;rw[qcl,hbn,jal hid,qhb (fun h=>hnq (hinr _ h)),qo8 (fun h=>hnq (hins _ h))]) (fun k o hk ho=>by
   unfold qb6 at ho;have hin:=(qbw (q:=q) (k:=k) (by omega)).1;rw[qcl,hbn,jal (hlt _ hin),qz0 hndr (by rw[qa3,qb2,l1]) (hrk k hk)] at ho;obtain⟨r,nj,xj,rfl,d2,d3,d4,d5⟩:=qfl _ _ _ _ _ _ ho;have d5:=d5 (mP s.ps) (by rw[qml];exact hok);have hsr:(ScB s y z).H k=some (objK r idN nj xj):=by
    rw[hScB,jas (by rw[qa3,qb2];exact hk)];exact d4 idN
   obtain⟨a1,a2,a3,a4,a5⟩:=hEA k hk;obtain⟨o1,o2,o3,o4⟩:=qc1 (E:=E) (Er:=Er) (n:=S.next) (m:=mP s.ps) (hlt _ hin);obtain⟨_,_,_,_,_,_,i2,_⟩:=hrowA k hk;exact⟨OR.objK_to (E:=Er) (E':=mrgR E Er S.next (mP s.ps)) (fun _ h=>h) rfl a1 (fun _=>⟨.inl ⟨hlt _ hin,i2⟩,o1.trans a2.symm,o2.trans a3.symm,o3.trans a4.symm,o4.trans a5.symm⟩) (fun j a b hAj=>by
    obtain⟨r1,r2,r3,r4,r5⟩:=qjm (E:=E) (Er:=Er) (n:=S.next) (m:=mP s.ps) (k:=j) (by omega);rw[zbc (by omega)];exact⟨r5 hAj,r1,r2,r3,r4⟩) (fun j hj hAj=>by
    have hjm:=d5 j hj;obtain⟨a1',a2',a3',a4',a5'⟩:=hEA j hjm;have hinj:=(qbw (q:=q) (k:=j) (by omega)).1;obtain⟨o1',o2',o3',o4'⟩:=qc1 (E:=E) (Er:=Er) (n:=S.next) (m:=mP s.ps) (hlt _ hinj);rw[za1 hjm (hrk j hjm)];exact⟨.inl ⟨hlt _ hinj,hA _ hinj⟩,o1'.trans a2'.symm,o2'.trans a3'.symm,o3'.trans a4'.symm,o4'.trans a5'.symm⟩) (k2.st.objs k trivial a1 _ hsr),fun hl=>⟨_,hsr,qla.trans hl⟩,fun hb=>(o4.trans a5.symm).trans (k2.st.blk k trivial a1 _ hsr (qj2.trans hb))⟩) (fun k o h1 h2 ho=>by
   unfold qb6 at ho;have hin:=(qbw (q:=q) (k:=k) h2).1;have hin2:=ja8 (hsk k h1 h2);rw[qcl,hbn,jal (hlt _ hin),qhb (fun h=>hrs _ h hin2),q06 hin2] at ho;cases ho;rfl) (fun k o h1 hAk ho=>by
   unfold qb6 at ho;have hkb:=k2.bnd k hAk;unfold ScB at hkb;rw[qc9,jav,qa3,qb2] at hkb;have e0:S0.next=0:=rfl
   rw[qcl,hbn,jak (by omega),jal (by omega),ja2] at ho;have hd:=q0k (ja8 ho);have hsr:(ScB s y z).H k=some o:=by
    rw[hScB,jat (by rw[qa3,qb2];exact h1),qa3,qb2];exact ho
   obtain⟨r1,r2,r3,r4,r5⟩:=qjm (E:=E) (Er:=Er) (n:=S.next) (m:=mP s.ps) (k:=k) h1;exact⟨OR.dat_to (E:=Er) (E':=mrgR E Er S.next (mP s.ps)) (fun _ h=>h) rfl hAk (fun hA=>⟨r5 hA,r1,r2,r3,r4⟩) hd (k2.st.objs k trivial hAk _ hsr),fun hl=>⟨_,hsr,hl⟩,fun hbk=>r4.trans (k2.st.blk k trivial hAk _ hsr hbk)⟩)
end
end Go.Jx
end

section
namespace Go.Jx
open Go Go.Sx Go.RowKit
universe u

structure Beside (b:Nat) (w w':World):Prop where
 os:w'.os=w.os
 tape:w'.tape=w.tape
 output:w'.output=w.output
 size:w'.heap.size=w.heap.size
 same:∀x,x≠b->w'.heap[x]?=w.heap[x]?
theorem Beside.put(w:World)(b:Nat)(o:Obj):Beside b w (w.putObj b o):=⟨rfl,rfl,rfl,by simp,fun x hx=>jcd hx⟩
theorem Beside.symm{b:Nat}{w w':World}(h:Beside b w w'):Beside b w' w:=⟨h.os.symm,h.tape.symm,h.output.symm,h.size.symm,fun x hx=>(h.same x hx).symm⟩
theorem Beside.upd{b:Nat}{w w':World}(h:Beside b w w'):Upd [b] w w':=⟨h.os,h.tape,h.output,by rw[h.size];exact jaq _,fun x _ hx=>h.same x (by simpa using hx)⟩
def qga(E:Env)(S:IS)(b:Nat):Prop:=b∈E.m/\∀id,E.A id->Live E S.H id->E.ρ id≠b
section
variable {E E' : Env} {S S' : IS} {b : Nat} {w w' : World}
theorem Pre.beside(p:Pre T0 E S)(hb:qga E S b)(h:Beside b E.w w):E.Le (E.at_ w)/\Pre T0 (E.at_ w) S/\qga (E.at_ w) S b:=by
 have hle:E.Le (E.at_ w):=⟨fun _ h=>⟨h,rfl,rfl,rfl,rfl⟩,⟨fun x hx hm=>⟨hm,h.same x fun e=>hm (e▸hb.1)⟩⟩⟩
 refine⟨hle,⟨⟨fun id ht ha o ho=>(p.st.objs id ht ha o ho).mono hle ha (p.st.blk id ht ha o ho) fun hl hhb=>h.same _ (hb.2 id ha ⟨hhb,o,ho,hl⟩),fun id ht ha o ho hbk=>p.st.blk id ht ha o ho hbk,fun id ht ha hl=>p.st.own id ht ha hl,
  fun i j a b' c d e f g=>p.st.inj i j a b' c d e f g,fun x hx=>?_⟩,p.bnd,p.nw,p.gl.mono hle.tr⟩,hb⟩
 show x<w.heap.size;rw[h.size];exact p.st.lo x hx
theorem PostB.apart{B:Nat}(k:PostB B T0 E S E' S')(p:Pre T0 E S)(hb:qga E S b):qga E' S' b:=by
 have hlt:=p.st.lo b hb.1;refine⟨?_,fun id ha hl e=>?_⟩
 ·rcases k.mem b hb.1 hlt with h|⟨id,_,h1,h2,h3⟩
  ·exact h
  ·exact absurd h3 (hb.2 id h1 h2)
 ·rcases jbr id B with h|h
  ·have hA:=k.fr id h ha;exact hb.2 id hA (k.old id h trivial hA hl) ((k.alw id h hA).2.1.symm.trans e)
  ·rcases k.new id h ha hl with h1|⟨j,_,j1,j2,j3⟩
   ·omega
   ·exact hb.2 j j1 j2 (j3.symm.trans e)
theorem PostB.at_same{B:Nat}(k:PostB B T0 E S E' S')(p:Pre T0 E S)(hb:qga E S b):E'.w.heap[b]?=E.w.heap[b]?:=k.same b (p.st.lo b hb.1) fun id _ ha hl=>hb.2 id ha hl
theorem PostB.beside{B:Nat}(k:PostB B T0 E S E' S')(p:Pre T0 E S)(hb:qga E S b)(h1:Beside b E.w w)(h2:Beside b E'.w w')(h3:w'.heap[b]?=w.heap[b]?):PostB B T0 (E.at_ w) S (E'.at_ w') S':=by
 have p':Pre T0 E' S':=k.pre (fun _ _=>trivial) p;obtain⟨_,p2,_⟩:=p'.beside (k.apart p hb) h2;have es:(E.at_ w).w.heap.size=E.w.heap.size:=h1.size;refine⟨p2.st,h2.os.trans (k.os.trans h1.os.symm),h2.tape.trans (k.tape.trans h1.tape.symm),h2.output.trans (k.output.trans h1.output.symm),?_,fun x hx hn=>?_,k.alw,fun id hB ha hl=>?_,k.old,fun x hx=>?_,fun x hx hlt=>k.mem x hx (by rw[es] at hlt;exact hlt),k.bnd,k.le,k.fr⟩
 ·show w.heap.size<=w'.heap.size;rw[h1.size,h2.size];exact k.size
 ·show w'.heap[x]?=w.heap[x]?;by_cases e:x=b
  ·rw[e];exact h3
  ·rw[h2.same x e,h1.same x e];exact k.same x (by rw[es] at hx;exact hx) hn
 ·rw[es];exact k.new id hB ha hl
 ·rw[es];exact k.memo x hx
end
end Go.Jx
end

section
namespace Go.Jx
open Go Go.Sx Go.RowKit
universe u

structure LpC where
 ls:List Nat
 lp:List PK
 nm:Nat->Option Nm
def putL:List Nat->List IV->PT IV->PT IV
 | t::ts,v::vs,fr=>putL ts vs (fr.set v t)
 | _,_,fr=>fr
theorem q3i:∀{ls:List Nat} {vs:List IV} {us:List Value} {E:Env} {nt:Nat} {fr:PT IV} {tmps:Array Value},VRs E vs us->us=ls.map (fun t=>tmps.getD t undef)->FR E nt fr tmps->FR E nt (putL ls vs fr) tmps
 | [],vs,us,E,nt,fr,tmps,hv,hu,hf=>by simpa [putL] using hf
 | t::ls,[],us,E,nt,fr,tmps,hv,hu,hf=>by simpa [putL] using hf
 | t::ls,v::vs,us,E,nt,fr,tmps,hv,hu,hf=>by
  obtain⟨u,us,rfl,a1,a2⟩:=hv.inv;simp only[jb5,jc5] at hu;show FR E nt (putL ls vs (fr.set v t)) tmps;refine q3i a2 hu.2 ⟨hf.size,fun k hk=>?_⟩;rw[qdv];by_cases e:k=t
  ·subst e;rw[jal rfl,<- hu.1];exact a1
  ·rw[jak e];exact hf.get k hk
section
variable (P : Program) (tt : Nat -> Option TI)
def qeq(cfg:LpC)(c:TC)(nt lf:Nat)(cl:Cl)(pr:Nat)(assign body:Code)(d:ElP cfg.lp)(z:ElP (refs cfg.lp))(x:El c):Option (ElP (refs cfg.lp) × Option Code) :=
 match qad P tt cfg.nm (mP cfg.lp) nt cl lf none assign (qdx [pr] [asIV c x] (putL cfg.ls (qan cfg.lp idN 0 d) .leaf)) (Sc cfg.lp (updP cfg.lp d z)) [] with
 | none=>none
 | some r1=>match r1.e with
  | .normal=>match r1.ds with
   | []=>match qad P tt cfg.nm (mP cfg.lp) nt cl lf none body r1.fr r1.S [] with
    | none=>none
    | some r2=>match r2.ds with
     | []=>cond r2.e.isPan none <| match runQ (sQ cfg.lp) ⟨.tup [],r2.S,0,0⟩ with
      | none=>none
      | some y=>some (y.2,qek r2.e)
     | _=>none
   | _=>none
  | _=>none
end
def foldB{D α:Type}(g:D->α->Option (D × Option Code)):List α->D->Option (D × Option Code)
 | [],d=>some (d,none)
 | x::xs,d=>match g d x with
  | none=>none
  | some (d',none)=>foldB g xs d'
  | some (d',some e)=>some (d',some e)
section
variable {P : Program} {tt : Nat -> Option TI}
theorem zqc{cfg:LpC}{c:TC}{nt lf:Nat}{cl:Cl}{pr:Nat}{assign body:Code}{d:ElP cfg.lp}{z z':ElP (refs cfg.lp)}{x:El c}{e:Option Code}(hm:P.follows .mixedOrders=true)(hcl:ClOK P cl)(hfr:ClFr cl)(htt:TT P tt)
  (h:qeq P tt cfg c nt lf cl pr assign body d z x=some (z',e)) (hok:qa8 assign=true/\qa8 body=true) (hrf:qb9 assign=false/\qb9 body=false)
  {E:Env} {b:Nat} {rec:Loop} (p:Pre T0 E (Sc cfg.lp (updP cfg.lp d z))) (hb:qga E (Sc cfg.lp (updP cfg.lp d z)) b) (hl:E.w.heap[b]?=some (.loop rec)) (hr:rec.state=.ready/\rec.pending=none/\rec.params=#[pr]/\rec.assign=assign/\rec.body=body/\rec.tmps.size=nt)
  (hargs:VRs E (qan cfg.lp idN 0 d) (cfg.ls.map fun t=>rec.tmps.getD t undef)) {u:Value} (hu:VR E (asIV c x) u) :
  YieldAt Fence.wide 0 P b #[u] E.w fun en B=>∃E',PostB (mP cfg.lp) T0 E (Sc cfg.lp (updP cfg.lp d z)) E' (Sc cfg.lp (updP cfg.lp d z')) /\
   ((e=none/\en=.returned (.bool true)/\B=E'.w)\/∃cd,e=some cd/\en=.returned (.bool false)/\Upd [b] E'.w B/\B.heap[b]?=some (.loop { rec with state:=.done,pending:=some cd })):=by
 obtain⟨hr1,hr2,hr3,hr4,hr5,hr6⟩:=hr;unfold qeq at h;split at h
 ·cases h
 rename_i r1 hrun1;split at h<;>try cases h
 rename_i he1;split at h<;>try cases h
 rename_i hds1;split at h
 ·cases h
 rename_i r2 hrun2;split at h<;>try cases h
 rename_i hds2;cases hpn:r2.e.isPan with
 | true=>rw[hpn] at h;cases h
 | false =>
 rw[hpn,jad] at h;split at h
 ·cases h
 rename_i y hq;cases h;have hblt:b<E.w.heap.size:=qa4 hl;have hy:=run_yield (P:=P) (args:=#[u]) hl (by rw[hr3];rfl);refine⟨_,_,_,_,hy,roundIn_of_wpIn trivial ?_⟩;have hFp:(Fence.wide.inRound b).plain=Fence.wide:=rfl;have hfr0:FR E nt (PT.leaf) rec.tmps:=⟨hr6,fun t ht=>.unk _⟩;have hfr1:FR E nt (qdx [pr] [asIV c x] (putL cfg.ls (qan cfg.lp idN 0 d) .leaf)) ((rec.params.zip #[u]).foldl (fun tmps (t,a)=>tmps.setIfInBounds t a) rec.tmps):=by
  have:=qwt (ps:=[pr]) (VRs.cons hu VRs.nil) (q3i hargs rfl hfr0);rw[hr3];simpa [List.zip] using this
 rw[hr4];refine qgz (T:=T0) (E:=E) (a:={ tmps:=_,defers:=[] }) (S:=Sc cfg.lp (updP cfg.lp d z)) (ds:=[]) (round:=none) (B:=mP cfg.lp) (fun _ _=>trivial) hm hFp hcl hfr htt assign hok.1 p (by rw[qic];omega) (fun _ _=>trivial) hfr1 (DS.nil (N:=0) (jbm _)) (fun h=>by rw[hrf.1] at h;cases h) hrun1 (fun _ _=>trivial) (fun _ _=>trivial) ?_;intro E1 a1 x1 k0 k1 k2 kB;rw[he1] at k0;cases k0;have hb1:=kB.apart p hb;have hl1:E1.w.heap[b]?=some (.loop rec):=(kB.at_same p hb).trans hl;have p1:Pre T0 E1 r1.S:=kB.pre (fun _ _=>trivial) p;have hbg:=run_beginRound (P:=P) hl1 hr1;refine⟨_,hbg,?_⟩;generalize hW:(E1.w.putObj b (.loop { rec with state:=.busy }))=W1;have hs1:Beside b E1.w W1:=by rw[<- hW];exact Beside.put _ _ _
 have hW1:W1.heap[b]?=some (.loop { rec with state:=.busy }):=by rw[<- hW];exact jbp (qa4 hl1)
 obtain⟨hle2,p2,hb2⟩:=p1.beside hb1 hs1;have hs0:Beside b E.w (E.w.putObj b (.loop { rec with state:=.busy })):=Beside.put _ _ _;obtain⟨hle0,p0,hb0⟩:=p.beside hb hs0;have hw0:(E.w.putObj b (.loop { rec with state:=.busy })).heap[b]?=some (.loop { rec with state:=.busy }):=jbp hblt;have kB2:=kB.beside p hb hs0 hs1 (by rw[hW1,hw0]);rw[hr5];show body.wpIn _ 0 P _ a1 (E1.at_ W1).w;rw[hds1] at k2;refine qgz (T:=T0) (E:=E1.at_ W1) (a:=a1) (S:=r1.S) (ds:=[]) (round:=none) (B:=mP cfg.lp) (fun _ _=>trivial) hm hFp hcl hfr htt body hok.2 p2 kB.le (fun _ _=>trivial) (k1.mono hle2) (k2.mono hle2 (by show E1.w.heap.size<=W1.heap.size;rw[<- hW];simp)) (fun h=>by rw[hrf.2] at h;cases h) hrun2 (fun _ _=>trivial) (fun _ _=>trivial) ?_;intro E3 a3 x3 m0 m1 m2 mB;have hall:=kB2.trans mB;have hargs0:VRs (E.at_ (E.w.putObj b (.loop { rec with state:=.busy }))) (qan (sQ cfg.lp).ps idN 0 (updP cfg.lp d z)) (cfg.ls.map fun t=>rec.tmps.getD t undef):=by
  show VRs _ (qan cfg.lp idN 0 (updP cfg.lp d z)) _;rw[qsb];exact hargs.mono hle0
 obtain⟨E4,e4,_,q4⟩:=q1r (s:=sQ cfg.lp) (r:=⟨.tup [],r2.S,0,0⟩) (x:=updP cfg.lp d z) (y:=y.1) (z:=y.2) (u:=.tuple #[]) hq p0 hargs0 hall (.tup (us:=[]) rfl (fun i h=>by simp at h));have hb4:=q4.apart p0 hb0;have hl4:E4.w.heap[b]?=some (.loop { rec with state:=.busy }):=(q4.at_same p0 hb0).trans hw0;have hend:=fun j=>run_endRound (P:=P) j hl4;have hs4:Beside b E4.w (E4.w.putObj b (.loop rec)):=Beside.put _ _ _;have hback:=q4.beside p0 hb0 hs0.symm hs4 (by rw[jbp (qa4 hl4)];exact hl.symm);have hfin:PostB (mP cfg.lp) T0 E (Sc cfg.lp (updP cfg.lp d z)) (E4.at_ (E4.w.putObj b (.loop rec))) (Sc cfg.lp (updP cfg.lp d y.2)):=by
  have e1:ScB (sQ cfg.lp) y.1 y.2=Sc cfg.lp (updP cfg.lp d y.2):=q1l cfg.lp d y.2;rw[e1] at hback;exact hback
 rw[<- e4];have hrec:({ rec with state:=.ready,pending:=none }:Loop)=rec:=by
  cases rec;cases hr1;cases hr2;rfl
 have hstop:∀cd,∃v w',(Instr.endRound b (some cd)).run P E4.w=.ok v w'/\∃E',PostB (mP cfg.lp) T0 E (Sc cfg.lp (updP cfg.lp d z)) E' (Sc cfg.lp (updP cfg.lp d y.2)) /\
   ((some cd=none/\Ending.returned v=.returned (.bool true)/\w'=E'.w)\/∃cd',some cd=some cd'/\Ending.returned v=.returned (.bool false)/\Upd [b] E'.w w'/\w'.heap[b]?=some (.loop { rec with state:=.done,pending:=some cd' })):=fun cd=>by
  refine⟨_,_,hend (some cd),E4.at_ (E4.w.putObj b (.loop rec)),hfin,.inr ⟨cd,rfl,rfl,?_,?_⟩⟩
  ·exact hs4.symm.upd.trans ((Beside.put E4.w b _).upd)
  ·exact jbp (qa4 hl4)
 cases he:r2.e with
 | normal =>
  rw[he] at m0;cases m0;refine⟨_,_,hend none,E4.at_ (E4.w.putObj b (.loop rec)),hfin,.inl ⟨rfl,rfl,?_⟩⟩;show E4.w.putObj b (.loop { rec with state:=.ready,pending:=none })=E4.w.putObj b (.loop rec);rw[hrec]
 | ret =>
  rw[he] at m0;cases m0;obtain⟨v,w',g1,E',g2,g3⟩:=hstop .ret;refine⟨v,w',g1,E',g2,?_⟩;rcases g3 with ⟨g3,_⟩|⟨cd,g3,g4,g5,g6⟩
  ·cases g3
  ·exact .inr ⟨cd,g3,g4,g5,by rw[hr4,hr5] at g6;exact g6⟩
 | exit i =>
  rw[he] at m0;cases m0;obtain⟨v,w',g1,E',g2,g3⟩:=hstop (.exit i);refine⟨v,w',g1,E',g2,?_⟩;rcases g3 with ⟨g3,_⟩|⟨cd,g3,g4,g5,g6⟩
  ·cases g3
  ·exact .inr ⟨cd,g3,g4,g5,by rw[hr4,hr5] at g6;exact g6⟩
 | goto l =>
  rw[he] at m0;cases m0;obtain⟨v,w',g1,E',g2,g3⟩:=hstop (.goto l);refine⟨v,w',g1,E',g2,?_⟩;rcases g3 with ⟨g3,_⟩|⟨cd,g3,g4,g5,g6⟩
  ·cases g3
  ·exact .inr ⟨cd,g3,g4,g5,by rw[hr4,hr5] at g6;exact g6⟩
 | pan q=>rw[he] at hpn;cases hpn
end
end Go.Jx
end

section
namespace Go.Jx
open Go Go.Sx Go.RowKit
universe u

def qgs(P:Program)(gf:Nat)(us:List Value)(Rd:World->Prop){α:Type}(V:α->Value->World->World->Prop)(xs:List α):Prop :=
 ∀(l:Nat) (J:List α->World->Prop) (K:World->Prop) (W:World),(∀s A B,J s A->Upd [] A B->J s B)->(∀A B,K A->Upd [] A B->K B)->(∀s A,J s A->Rd A) ->
  (∀pre x post A0 A u,xs=pre++x::post->J pre A0->Upd [] A0 A->V x u A0 A->YieldAt Fence.wide 0 P l #[u] A fun e B=>(∀b,A0.heap.size<=b->b<A.heap.size->B.heap[b]?=A.heap[b]?)/\((e=.returned (.bool true)/\J (pre++[x]) B)\/(e=.returned (.bool false)/\K B))) ->
  J [] W->CallsIn Fence.wide 0 P gf (#[.func (.yield l) #[] #[]]++us.toArray) W fun e B=>e=.returned (.tuple #[])/\(J xs B\/K B)
structure SmI where
 ips:List PK
 c:TC
 xs:ElP ips->Option (List (El c))
def zam(E:Env)(s:SmI)(x:ElP s.ips)(us:List Value)(rows:List Nat):Prop :=
 (∀ρ k,Nums ρ k rows->VRs E (qan s.ips ρ k x) us)/\qk1 E rows (qas s.ips idN 0 x)
structure ConI (P:Program) (f:Nat) (s:SmI):Prop where
 callable:qam P f
 ns:nPI s.ips=0
 it:∀(E:Env) (x:ElP s.ips) (us:List Value) (rows:List Nat) (l:List (El s.c)),s.xs x=some l->Gl E.m E.w->zam E s x us rows ->
  qgs P f us (fun W=>E.Le (E.at_ W)/\∀id∈rows,W.heap[E.ρ id]?=E.w.heap[E.ρ id]?) (fun x u A0 A=>∀E:Env,E.w=A->(∀b∈E.m,b<A0.heap.size)->VR E (asIV s.c x) u) l
def qc3:(l:List PK)->ElP l->ElP (refs l)
 | [],_=>()
 | .dat _::l,x=>qc3 l x.2
 | .fn _::l,x=>qc3 l x
 | .ref _::l,x=>(x.1,qc3 l x.2)
theorem qqf:∀(l:List PK) (x:ElP l),updP l x (qc3 l x)=x
 | [],_=>rfl
 | .dat c::l,x=>jb2 (fun q=>(x.1,q)) (qqf l x.2)
 | .fn _::l,x=>qqf l x
 | .ref r::l,x=>jb2 (fun q=>(x.1,q)) (qqf l x.2)
theorem qqo{D α:Type}(g:D->α->Option (D × Option Code)):∀(pre post:List α) (z z':D),foldB g pre z=some (z',none)->foldB g (pre++post) z=foldB g post z'
 | [],post,z,z',h=>by cases h;rfl
 | x::pre,post,z,z',h=>by
  simp only[foldB,jdu] at h ⊢;cases hg:g z x with
  | none=>rw[hg] at h;cases h
  | some q =>
   obtain⟨z1,e⟩:=q;rw[hg] at h;cases e with
   | none=>exact qqo g pre post z1 z' h
   | some e=>cases h
section
variable (P : Program) (tt : Nat -> Option TI)
def itB(S2:IS)(cfg:LpC)(id nt:Nat)(irows rows subs:List Nat)(w2:Nat)(assign body:Code):Bool :=
 ndB (id::(irows++(rows++subs)))&&(irows.all (rowB S2)&&(rows.all (rowB S2)&&(qa8 assign&&(qa8 body&&(!qb9 assign&&(!qb9 body&&(cfg.ls.all (fun t=>Nat.blt t nt)&&!w2.testBit id)))))))
def qnk(S2:IS)(cfg:LpC)(id nt:Nat)(fr:PT IV)(pr D:Nat)(assign body:Code)(irows rows subs:List Nat)(w:Nat)(q:ElP (refs cfg.lp) × Option Code):Res :=
 ⟨.tup [],(qb6 (sQ cfg.lp) S2.next rows subs () q.1 S2).set id (.loop (cond q.2.isNone .ready .done) q.2 nt fr [pr] assign body D),2 ^ id,2 ^ id ||| (w ||| qba (irows++(rows++subs)))⟩
def itF(s:SmI)(cfg:LpC)(lf:Nat)(cl:Cl)(vs:List IV)(S:IS):Option Res:=match vs with
 | .yield id::caps=>match rdP s.ips S caps with
  | none=>none
  | some (xi,irows,_,S1,w1)=>match S1.heap.get id with
   | some (.loop .ready none nt fr [pr] assign body D)=>match rdP cfg.lp S1 (cfg.ls.map (slot fr)) with
    | none=>none
    | some (d0,rows,subs,S2,w2)=>cond (itB S2 cfg id nt irows rows subs w2 assign body) (match fiP cfg.lp rows subs S2 d0 with
     | none=>none
     | some d=>match s.xs xi with
      | none=>none
      | some l=>match foldB (qeq P tt cfg s.c nt lf cl pr assign body d) l (qc3 cfg.lp d) with
       | none=>none
       | some q=>some (qnk S2 cfg id nt fr pr D assign body irows rows subs (w1 ||| w2) q)) none
   | _=>none
 | _=>none
end
section
variable {P : Program} {tt : Nat -> Option TI}
theorem qwx{s:SmI}{cfg:LpC}{lf:Nat}{cl:Cl}{vs:List IV}{S:IS}{r:Res}(h:itF P tt s cfg lf cl vs S=some r) :
  ∃id caps xi irows isubs S1 w1 nt fr pr assign body D d0 rows subs S2 w2 d l q,vs=.yield id::caps/\rdP s.ips S caps=some (xi,irows,isubs,S1,w1)/\S1.heap.get id=some (.loop .ready none nt fr [pr] assign body D) /\
   rdP cfg.lp S1 (cfg.ls.map (slot fr))=some (d0,rows,subs,S2,w2)/\itB S2 cfg id nt irows rows subs w2 assign body=true/\fiP cfg.lp rows subs S2 d0=some d/\s.xs xi=some l /\
   foldB (qeq P tt cfg s.c nt lf cl pr assign body d) l (qc3 cfg.lp d)=some q/\r=qnk S2 cfg id nt fr pr D assign body irows rows subs (w1 ||| w2) q:=by
 unfold itF at h;split at h<;>try cases h
 rename_i id caps;split at h
 ·cases h
 rename_i xi irows isubs S1 w1 h1;split at h<;>try cases h
 rename_i nt fr pr assign body D ho;split at h
 ·cases h
 rename_i d0 rows subs S2 w2 h2;cases hb:itB S2 cfg id nt irows rows subs w2 assign body with
 | false=>rw[hb] at h;cases h
 | true =>
 rw[hb,jaa] at h;split at h
 ·cases h
 rename_i d h3;split at h
 ·cases h
 rename_i l h4;split at h<;>cases h;rename_i q h5;exact⟨id,caps,xi,irows,isubs,S1,w1,nt,fr,pr,assign,body,D,d0,rows,subs,S2,w2,d,l,q,rfl,h1,ho,h2,hb,h3,h4,h5,rfl⟩
theorem zsm{s:SmI}{cfg:LpC}{lf:Nat}{cl:Cl}{vs:List IV}{S:IS}:FrO S (itF P tt s cfg lf cl vs S):=fun r h=>by
 obtain⟨id,caps,xi,irows,isubs,S1,w1,nt,fr,pr,assign,body,D,d0,rows,subs,S2,w2,d,l,q,rfl,h1,ho,h2,hb,h3,h4,h5,rfl⟩:=qwx h;have k1:=qn9 _ h1;have k2:=qn9 _ h2;have k3:=(qsa subs S2).trans ((qth rows (qas (refs cfg.lp) (nuB rows (mP cfg.lp) S2.next) (mP cfg.lp) q.1) _).trans (qku (newO (sQ cfg.lp) () q.1) _ 0));have k4:=(k1.trans k2).trans (k3.trans (FrX.set _ id (.loop (cond q.2.isNone .ready .done) q.2 nt fr [pr] assign body D)));refine⟨k4.1,fun i hi hbit=>k4.2 i hi ?_⟩;have hbit:(2 ^ id ||| ((w1 ||| w2) ||| qba (irows++(rows++subs)))).testBit i=false:=hbit;simp only[quz,jbv,jb4,Nat.zero_testBit] at hbit ⊢;obtain⟨a,⟨b,c⟩,_,e,f⟩:=hbit;exact⟨⟨b,c⟩,⟨f,e,trivial⟩,a⟩
theorem zfl{s:SmI}{cfg:LpC}{lf:Nat}{cl:Cl}{vs:List IV}{S:IS}{r:Res}(h:itF P tt s cfg lf cl vs S=some r)(hw:r.wr=0):False:=by
 obtain⟨id,caps,xi,irows,isubs,S1,w1,nt,fr,pr,assign,body,D,d0,rows,subs,S2,w2,d,l,q,rfl,h1,ho,h2,hb,h3,h4,h5,rfl⟩:=qwx h;have:2 ^ id=0:=(or_zero hw).1;have:=jen (n:=id);omega
end
end Go.Jx
end

section
namespace Go.Jx
open Go Go.Sx Go.RowKit
universe u

section
variable {P : Program} {tt : Nat -> Option TI}
theorem ztq(hm:P.follows .mixedOrders=true)(htt:TT P tt){f:Nat}{s:SmI}{cfg:LpC}{lf:Nat}(hc:ConI P f s){cl:Cl}(hcl:ClOK P cl)(hfr:ClFr cl){vs:List IV}{S:IS}{r:Res}(h:itF P tt s cfg lf cl vs S=some r)
   {T:TW} {E:Env} {us:List Value} (p:Pre T E S) (hrd:tin T.r r.rd) (hwr:tin T.w r.wr) (hv:VRs E vs us):qam P f/\CallsIn Fence.wide 0 P f us.toArray E.w (RetE T E S r):=by
 refine⟨hc.callable,?_⟩;obtain⟨id,caps,xi,irows,isubs,S1,w1,nt,fr,pr,assign,body,D,d0,rows,subs,S2,w2,d,l,q,rfl,h1,ho,h2,hb,h3,h4,h5,rfl⟩:=qwx h;obtain⟨t1,t2⟩:=qaq hwr;obtain⟨t3,t4⟩:=qaq t2;obtain⟨t5,t6⟩:=qaq t3;have hTid:=qah t1;have hbits:=qus t4;unfold itB at hb;simp only[jah] at hb;obtain⟨b1,b2,b3,b4,b5,b6,b7,b8,b9⟩:=hb;have hnd:=qii b1;obtain⟨u0,us,rfl,a1,a2⟩:=hv.inv;have hA:E.A id:=by cases a1;assumption
 obtain⟨E1,e1,q1,f1,il1,il2,iA,ib2,ib3,iok⟩:=qpm s.ips h1 p t5 a2;have p1:=q1.pre p;have hle1:=q1.env p;obtain⟨z1,z2,z3,z4,z5⟩:=hle1.alw id hA;obtain⟨fn,tmps,g1,g2,g3⟩:=p1.st.objs id (T.sub _ hTid) z1 _ ho;have hls:VRs E1 (cfg.ls.map (slot fr)) (cfg.ls.map fun t=>tmps.getD t undef):=⟨by simp,fun i hi hi2=>by
   simp only[jb6];refine g2.get _ ?_;have:=(ja0.1 b8) (cfg.ls[i]'(by simpa using hi)) (ja3 _);simpa using this⟩
 obtain⟨E2,e2,q2,f2,l1,l2,A2,c2,c3,cok⟩:=qpm cfg.lp h2 p1 t6 hls;have p2:=q2.pre p1;have hle2:=q2.env p1;obtain⟨_,y2,y3⟩:=qej cfg.lp h3 l2;have hq12:=Post.trans p q1 f1 q2;have hf12:=f1.trans f2 q1.le;have hS2:S2.H id=some (.loop .ready none nt fr [pr] assign body D):=by
   rw[(qn9 _ h2).2 id (p1.bnd id z1) (by simpa using b9)];exact ho
 obtain⟨hA2,x2,x3,x4,x5⟩:=hle2.alw id z1;obtain⟨fn',tmps',g1',g2',g3'⟩:=p2.st.objs id (T.sub _ hTid) hA2 _ hS2;obtain⟨nq1,nq2⟩:=jd2.1 hnd;have nq3:=(jcf.1 nq2);have hheld:Held T E2 S2 cfg.lp d rows subs:=⟨l1,l2,nq3.2.1,fun i hi=>hbits i (jb3 _ hi),A2,cok,fun ι hι1 hι j o hj=>by
     obtain⟨id',g1,g2,g3,g4,_⟩:=quu h3 l2 p2 (fun i hi=>T.sub _ (hbits i (jb3 _ (jbz _ hi)))) (c3 _ _ hι (.inr hι1)) j o hj;exact⟨id',g1,g2,g3,g4⟩,
   fun i hi=>qyh ((ja0.1 b3) i hi),y3⟩
 have hidq:id ∉ rows++subs:=fun hi=>nq1 (jb3 _ hi);have hirq:∀i,i∈irows->i ∉ rows++subs:=fun i h1 h2=>nq3.2.2 i h1 i h2 rfl;have p0:=hheld.pre p2;have hlive:Live E2 S2.H id:=⟨p2.st.blk id (T.sub _ hTid) hA2 _ hS2 rfl,_,hS2,rfl⟩;have hfar:∀i,i ∉ rows++subs->T.r i->E2.A i->Live E2 S2.H i->∀k,(renE 0 (rows++subs) E2).A k->Live (renE 0 (rows++subs) E2) (Sc cfg.lp d).H k->(renE 0 (rows++subs) E2).ρ k≠E2.ρ i:=fun i hi ht ha hl k hk hkl e=>by
   have hk1:k<(rows++subs).length:=by have:=hk.1;omega
   have hm1:=(qbw hk1).1;obtain⟨h0,o,ho1,ho2⟩:=hkl;have hl2:Live E2 S2.H (ol 0 (rows++subs) k):=⟨h0,(hheld.obj p2 hk1 hk.2 ho1).live ho2⟩;have:=p2.st.inj _ _ (T.sub _ (hheld.w _ hm1)) ht hk.2 ha hl2 hl e;exact hi (this▸hm1)
 have hap:qga (renE 0 (rows++subs) E2) (Sc cfg.lp d) (E2.ρ id):=⟨p2.st.own id (T.sub _ hTid) hA2 hlive,hfar id hidq (T.sub _ hTid) hA2 hlive⟩;generalize hE0:renE 0 (rows++subs) E2=E0 at p0 hap hfar;have hE0w:E0.w=E2.w:=by rw[<- hE0];rfl
 have hE0m:E0.m=E2.m:=by rw[<- hE0];rfl
 generalize hbk:E2.ρ id=b at hap g1';obtain⟨rec,hrec⟩:∃rec:Loop,rec={ state:=.ready,pending:=none,fn:=fn',tmps:=tmps',params:=[pr].toArray,assign:=assign,body:=body,defers:=E2.ρ D }:=⟨_,rfl⟩;have hl0:E0.w.heap[b]?=some (.loop rec):=by rw[hE0w,g1',hrec]
 have htm:tmps'=tmps:=by
   have h1:=g1';rw[e2,<- hbk,x2,g1] at h1;have h1:=jbs h1;injection h1 with h1
   injection h1 with _ _ _ h1
   exact h1.symm
 have hargs:VRs E0 (qan cfg.lp idN 0 d) (cfg.ls.map fun t=>rec.tmps.getD t undef):=by
   have e:rec.tmps=tmps:=by rw[hrec];exact htm
   rw[e,<- hE0];exact argsP_env (E:=E2) (E':=renE 0 (rows++subs) E2) (ρ:=ol 0 (rows++subs)) (fun _ h=>h) rfl cfg.lp (fun j a b=>Held.numTo E2 _ (by rw[hheld.len];omega)) (by rw[y2];exact c2 _ _ hheld.num.1)
 generalize hg:qeq P tt cfg s.c nt lf cl pr assign body d=g at h5;have hd0:updP cfg.lp d (qc3 cfg.lp d)=d:=qqf _ _;have hT0:∀id,mP cfg.lp<=id->T0.w id:=fun _ _=>trivial
 -- the two states of affairs
 let J:List (El s.c)->World->Prop:=fun pre W=>∃z Ei,foldB g pre (qc3 cfg.lp d)=some (z,none)/\PostB (mP cfg.lp) T0 E0 (Sc cfg.lp d) Ei (Sc cfg.lp (updP cfg.lp d z))/\Ei.w=W
 let K:World->Prop:=fun W=>∃z cd Ei,foldB g l (qc3 cfg.lp d)=some (z,some cd)/\PostB (mP cfg.lp) T0 E0 (Sc cfg.lp d) Ei (Sc cfg.lp (updP cfg.lp d z))/\Upd [b] Ei.w W/\W.heap[b]?=some (.loop { rec with state:=.done,pending:=some cd })
 have hJ0:J [] E0.w:=⟨qc3 cfg.lp d,E0,rfl,by rw[hd0];exact PostB.refl (by rw[qic];omega) hT0 p0,rfl⟩;have hJu:∀s A B,J s A->Upd [] A B->J s B:=fun pre A B ⟨z,Ei,k1,k2,k3⟩ u=>by
   subst k3;obtain⟨i1,i2⟩:=Post.idle (k2.pre hT0 p0) u;exact⟨z,Ei.at_ B,k1,k2.trans (PostB.of k2.le hT0 i1 i2),rfl⟩
 have hKu:∀A B,K A->Upd [] A B->K B:=fun A B ⟨z,cd,Ei,k1,k2,k3,k4⟩ u=>⟨z,cd,Ei,k1,k2,k3.trans (u.mono (by simp)),(u.same _ (qa4 k4) (by simp)).trans k4⟩;have hns:Nums idN 0 isubs:=by
   have:isubs=[]:=jbq.1 (by rw[il2,(zcq hc.ns).1]);rw[this];intro j id hj;simp at hj
 have hrow:∀(j:Nat) (o:IObj),(qas s.ips idN 0 xi)[j]?=some o->∃i,irows[j]?=some i/\E2.A i/\(o.blk=true->E2.hb i=true)/\OR E2 i o:=fun j o hj=>by
   obtain⟨i,i1,i2,i3,i4⟩:=ib3 idN 0 hns (.inl (zcq hc.ns).2) j o hj;obtain⟨j1,j2,j3,j4,j5⟩:=hle2.alw i i2;exact⟨i,i1,j1,fun hb=>j5.trans (i3 hb),i4.mono hle2 i2 i3 (fun _ _=>by rw[e2])⟩
 have hread:zam E2 s xi us irows:=⟨fun ρ k hk=>(ib2 ρ k hk).mono hle2,hrow⟩;have hRd:∀pre A,J pre A->E2.Le (E2.at_ A)/\∀i∈irows,A.heap[E2.ρ i]?=E2.w.heap[E2.ρ i]?:=fun pre A ⟨z,Ei,k1,k2,k3⟩=>by
   subst k3;have hsame:∀x,x<E2.w.heap.size->(∀k,E0.A k->Live E0 (Sc cfg.lp d).H k->E0.ρ k≠x)->Ei.w.heap[x]?=E2.w.heap[x]?:=fun x hx hn=>by
     rw[<- hE0w];exact k2.same x (by rw[hE0w];exact hx) fun k _=>hn k
   have hle:E2.Le (E2.at_ Ei.w):=⟨fun _ h=>⟨h,rfl,rfl,rfl,rfl⟩,⟨fun x hx hxm=>⟨hxm,hsame x hx fun k ha hl e=>hxm (by rw[<- e,<- hE0m];exact p0.st.own k trivial ha hl)⟩⟩⟩;refine⟨hle,fun i hin=>?_⟩;obtain⟨j,hj,rfl⟩:=jbu.1 hin;have hj2:j<(qas s.ips idN 0 xi).length:=by rw[qa3,<- il1];exact hj
   obtain⟨i,i1,i2,i3,i4⟩:=hrow j _ (jab hj2);rw[jab hj] at i1;cases i1;obtain⟨cs,hcs⟩:=qyh ((ja0.1 b2) _ hin);have hTi:T.r irows[j]:=T.sub _ (hbits _ (jbz _ hin));have i3:E2.hb irows[j]=true:=p2.st.blk _ hTi i2 _ hcs rfl;have hlt:E2.ρ irows[j]<E2.w.heap.size:=p2.st.lo _ (p2.st.own _ hTi i2 ⟨i3,_,hcs,rfl⟩);exact hsame _ hlt (hfar _ (hirq _ hin) hTi i2 ⟨i3,_,hcs,rfl⟩)
 have hround:∀pre x post A0 A u,l=pre++x::post->J pre A0->Upd [] A0 A->(∀E:Env,E.w=A->(∀b∈E.m,b<A0.heap.size)->VR E (asIV s.c x) u)->YieldAt Fence.wide 0 P b #[u] A fun e B=>(∀c,A0.heap.size<=c->c<A.heap.size->B.heap[c]?=A.heap[c]?)/\((e=.returned (.bool true)/\J (pre++[x]) B)\/(e=.returned (.bool false)/\K B)):=fun pre x post A0 A u hl ⟨z,Ei0,k1,k20,k30⟩ hup0 hu=>by
   subst k30;have hpi:=k20.pre hT0 p0;obtain⟨i1,i2⟩:=Post.idle hpi hup0;have k2:=k20.trans (PostB.of k20.le hT0 i1 i2);have hlow0:∀k,(Ei0.at_ A).A k->Live (Ei0.at_ A) (Sc cfg.lp (updP cfg.lp d z)).H k->(Ei0.at_ A).ρ k<Ei0.w.heap.size:=fun k ha hl=>hpi.st.lo _ (hpi.st.own k trivial ha hl);obtain⟨Ei,hEi⟩:∃Ei,Ei=Ei0.at_ A:=⟨_,rfl⟩;have hEw:Ei.w=A:=by rw[hEi];rfl
   rw[<- hEi] at k2 hlow0;rw[<- hEw];have hb0:b<Ei0.w.heap.size:=qa4 ((k20.at_same p0 hap).trans hl0);have hwhole:foldB g (x::post) z=some q:=by
     rw[<- qqo g pre (x::post) _ _ k1,<- hl];exact h5
   have hsnoc:foldB g (pre++[x]) (qc3 cfg.lp d)=foldB g [x] z:=qqo g pre [x] _ _ k1;cases hgx:g z x with
   | none=>simp only[foldB,hgx] at hwhole;cases hwhole
   | some q1 =>
   obtain⟨z1,e⟩:=q1;rw[<- hg] at hgx;have hlow:(E0.bel (mP cfg.lp)).Le Ei:=k2.env p0;have hargsB:VRs (E0.bel (mP cfg.lp)) (qan cfg.lp idN 0 d) (cfg.ls.map fun t=>rec.tmps.getD t undef) :=
     argsP_env (E:=E0) (E':=E0.bel (mP cfg.lp)) (ρ:=idN) (fun _ h=>h) rfl cfg.lp (fun j _ hj hA=>⟨⟨hA,by show j<mP cfg.lp;omega⟩,rfl,rfl,rfl,rfl⟩) hargs
   have hst:=zqc (E:=Ei) (b:=b) (rec:=rec) hm hcl hfr htt hgx ⟨b4,b5⟩ ⟨by simpa using b6,by simpa using b7⟩ (k2.pre hT0 p0) (k2.apart p0 hap) ((k2.at_same p0 hap).trans hl0)
     (by rw[hrec];exact⟨rfl,rfl,rfl,rfl,rfl,g2'.size⟩) (hargsB.mono hlow) (hu Ei hEw (by rw[hEi];exact hpi.st.lo))
   obtain⟨fnr,tmpr,asr,bdr,hyr,hRr⟩:=hst;refine⟨fnr,tmpr,asr,bdr,hyr,hRr.mono fun en B hB=>?_⟩;obtain⟨E',m1,m2⟩:=hB;have hall:=k2.trans m1;rw[hg] at hgx;have hkeep:∀c,Ei0.w.heap.size<=c->c<Ei.w.heap.size->E'.w.heap[c]?=Ei.w.heap[c]?:=fun c h1 h2=>m1.same c h2 fun k _ ha hl e=>by
     have:=hlow0 k ha hl;omega
   rcases m2 with ⟨rfl,rfl,rfl⟩|⟨cd,rfl,rfl,m3,m4⟩
   · refine⟨hkeep,.inl ?_⟩;refine⟨rfl,z1,E',?_,hall,rfl⟩;rw[hsnoc];simp only[foldB,hgx]
   · refine⟨fun c h1 h2=>(m3.same c (qa4 ((hkeep c h1 h2).trans (jdj h2))) (by simp;omega)).trans (hkeep c h1 h2),.inr ?_⟩;refine⟨rfl,z1,cd,E',?_,hall,m3,m4⟩;rw[hl,qqo g pre (x::post) _ _ k1];simp only[foldB,hgx]
 have hit:=hc.it E2 xi us irows l h4 p2.gl hread b J K E0.w hJu hKu hRd hround hJ0;have hu0:u0=.func (.yield b) #[] #[]:=by
   cases a1;rw[<- hbk,x2,z2]
 have hw:E0.w=E.w:=by rw[hE0w,e2,e1]
 rw[hw] at hit;rw[hu0,show (Value.func (.yield b) #[] #[]::us).toArray=#[.func (.yield b) #[] #[]]++us.toArray by simp];refine hit.mono fun en B ⟨hen,hB⟩=>?_
 -- what comes back
 have hfin:∀(z:ElP (refs cfg.lp)) (pe:Option Code) (Ei:Env),q=(z,pe)->PostB (mP cfg.lp) T0 E0 (Sc cfg.lp d) Ei (Sc cfg.lp (updP cfg.lp d z))->Upd [b] Ei.w B ->
     B.heap[b]?=some (.loop { rec with state:=cond pe.isNone .ready .done,pending:=pe })->RetE T E S (qnk S2 cfg id nt fr pr D assign body irows rows subs (w1 ||| w2) q) en B:=fun z pe Ei hqz k2 hup hbl=>by
   subst hqz;rw[<- q1l cfg.lp d z,<- hE0] at k2;obtain⟨m1,m2⟩:=hheld.back (s:=sQ cfg.lp) (x:=d) p2 k2;have p3:=m1.pre p2;have hle3:=m1.env p2;obtain⟨n1,n2,n3,n4,n5⟩:=hle3.alw id hA2;have hlt:id<S2.next:=p2.bnd id hA2
   have hobj:(qb6 (sQ cfg.lp) S2.next rows subs () z S2).H id=some (.loop .ready none nt fr [pr] assign body D):=by
     unfold qb6;rw[qcl,qui,qun,jal hlt,qhb (fun h=>hidq (jbz _ h)),qo8 (fun h=>hidq (jb3 _ h))];exact hS2
   have hL3:Live (mrgR E2 Ei S2.next (mP (sQ cfg.lp).ps)) (qb6 (sQ cfg.lp) S2.next rows subs () z S2).H id:=⟨n5.trans hlive.1,_,hobj,rfl⟩;have hub:Upd [(mrgR E2 Ei S2.next (mP (sQ cfg.lp).ps)).ρ id] (mrgR E2 Ei S2.next (mP (sQ cfg.lp).ps)).w B:=by rw[n2,hbk];exact hup
   have hle4:=Env.at_le p3.st hTid n1 hL3 hub;obtain⟨w1',w2'⟩:=Post.write p3 (o':=.loop (cond pe.isNone .ready .done) pe nt fr [pr] assign body D) hTid n1 hL3 hub ⟨fn',tmps',by
     show B.heap[(mrgR E2 Ei S2.next (mP (sQ cfg.lp).ps)).ρ id]?=_;rw[n2,hbk,hbl,hrec];have:E2.ρ D=(mrgR E2 Ei S2.next (mP (sQ cfg.lp).ps)).ρ D:=((hle3.alw D g3').2.1).symm;show some (Obj.loop { state:=cond pe.isNone .ready .done,pending:=pe,fn:=fn',tmps:=tmps',params:=[pr].toArray,assign:=assign,body:=body,defers:=E2.ρ D })=_;rw[this];rfl,(g2'.mono hle3).mono hle4,(hle4.alw D (hle3.alw D g3').1).1⟩
   have r1:=Post.trans p hq12 hf12 m1;have rf1:=hf12.trans m2 hq12.le;exact⟨_,_,hen,rfl,.tup (us:=[]) rfl (fun i h=>by simp at h),Post.trans p r1 rf1 w1',rf1.trans w2' r1.le⟩
 rcases hB with ⟨z,Ei,k1,k2,k3⟩|⟨z,cd,Ei,k1,k2,k3,k4⟩
 · refine hfin z none Ei (jbs (h5.symm.trans k1)) k2 (by rw[k3];exact Upd.refl _ _) ?_;rw[<- k3,(k2.at_same p0 hap).trans hl0,hrec];rfl
 · exact hfin z (some cd) Ei (jbs (h5.symm.trans k1)) k2 k3 k4
end
end Go.Jx
end

section
set_option maxRecDepth 100000
namespace Go.Proofs.YtcnhjofpmpipfaaGreat
open Go Go.Sx Go.RowKit Go.Jx
open Go.Sx.Dat (enc)
attribute [local irreducible] Go.wpList Go.wpQuiet Go.Code.wp
instance datVal:Dat (Int × Int) where
 sz:=2
 enc M w cs x:=cs=[.int .i64 x.1,.int .i64 x.2]
 len h:=by rw[h];rfl
 mono h _:=h
 ones h:=by rw[h];rfl
def S.refsL:List (Int × Int)->List Int
 | []=>[]
 | v::l=>if v.1=4 then v.2::S.refsL l else S.refsL l
theorem q2c(a b:List (Int × Int)):S.refsL (a++b)=S.refsL a++S.refsL b:=by
 induction a with
 | nil=>rfl
 | cons v l ih=>simp only[jdu,S.refsL];split<;>simp [ih]
theorem zaq{l:List (Int × Int)}{k:Nat}{v:Int × Int}(h:l[k]?=some v):S.refsL (l.take (k+1))=S.refsL (l.take k)++(if v.1=4 then [v.2] else []):=by
 rw[List.take_add_one,h,q2c];simp only[Option.toList,S.refsL]
theorem zrk{E:Env}{l:List (Int × Int)}{u:Value}(h:VR E (.lst cVal l) u):∃a cap,u=.slice a l.length cap/\SL E.m E.w a cap l:=by
 cases h with
 | lst0 h=>exact⟨_,_,rfl,⟨jbm _,h⟩,.inl rfl⟩
 | lst us h1 h2 h3 hb hh hc hu =>
  refine⟨_,_,rfl,⟨h1,h2⟩,.inr ⟨_,_,_,_,_,rfl,hb,hh,fun i hi=>⟨_,rfl,fun j hj=>?_⟩⟩⟩;have h5:=hc i hi j hj;have h6:=hu i hi j (by rw[qcf];exact hj);have hj:j<2:=hj;have e:(cel cVal l[i])=[.int .i64 (l[i]).1,.int .i64 (l[i]).2]:=rfl;refine jc7 h5 ?_;have h7:j=0\/j=1:=by omega
  rcases h7 with rfl|rfl
  ·have h6:VR E (.int .i64 (l[i]).1) (us i 0):=h6;generalize us i 0=q at h6;cases h6;rfl
  ·have h6:VR E (.int .i64 (l[i]).2) (us i 1):=h6;generalize us i 1=q at h6;cases h6;rfl
theorem q7h:Fld Tryz.prog 84 0 0:=Fld.mk (F := ⟨"Kind", 3,0, false, "", "", 0⟩) ty84 rfl ty3
theorem zz1:Fld Tryz.prog 84 1 1:=Fld.mk (F := ⟨"N", 3,1, false, "", "", 8⟩) ty84 rfl ty3
theorem zmg{M:List Nat}{a:Option Addr}{c b:Nat}{vs:List (Int × Int)}{cs0:List Value}(hw:∀v∈vs,IntKind.i64.wrap v.2=v.2):qgs Tryz.prog 130 [.pointer (some ⟨b,0,none⟩)] (fun A=>Box A b (.slice a vs.length c::cs0)/\SL M A a c vs) (fun(x:Int) u _ _=>∀E,VR E (.int .i64 x) u) (S.refsL vs):=by
 intro l J K W hJ hKu hR hy h0;have hlen:=(hR _ _ h0).2.lt63;have hM:∀{s A},J s A->Box A b (.slice a vs.length c::cs0)/\SL M A a c vs:=fun h=>hR _ _ h;refine jda.2 (Calls.mono (R:=Ret fun v B=>v=.tuple #[]/\(J (S.refsL vs) B\/K B)) ?_ (fun e B h=>by cases e<;>first|exact⟨by rw[h.1],h.2⟩|exact h.elim));refine(enter (l:=[.func (.yield l) #[] #[],.pointer (some ⟨b,0,none⟩)]) Tryz.func130 rfl Tryz.ntmps130 rfl ?_);refine qd7 fun K1 hK1=>?_;refine qe1 ?_;refine qtj (v:=.slice a vs.length c) ty25 rfl rfl rfl rfl (hM h0).1 rfl ?_;refine zil ty25 rfl rfl rfl ?_;refine qgt (v:=.int .i64 0) rfl rfl rfl ?_;refine jdf ?_;refine hK1 _ _ ?_;refine wp_block ?_;refine zfq (X:=Nat) [4,7,8,9,10,11,12,13,14,15,16,17,18,19,20,21] (fun k=>[(7,.int .i64 (k:Int))]) (fun k w1=>k<=vs.length/\J (S.refsL (vs.take k)) w1) (fun k=>vs.length-k) 0 ⟨rfl,trivial⟩ ⟨by omega,by simpa [S.refsL] using h0⟩ ?_;rintro k τ w1 ⟨hk,hj⟩;refine qd7 fun K2 hK2=>?_;refine qe1 ?_;refine zf8 rfl rfl rfl rfl ?_;refine jdf ?_;refine hK2 _ _ ?_;refine qd7 fun K3 hK3=>?_;refine c_if rfl rfl (fun hb=>?_) (fun hb=>?_)
 ·refine wp_skip ?_;refine hK3 _ _ ?_;refine qd7 fun K4 hK4=>?_;refine wp_block ?_;refine qd7 fun K5 hK5=>?_;refine qe1 ?_;refine z0u (j:=k) ty25 ty84 rfl rfl rfl rfl rfl (hM hj).2 (by omega) fun ad cs u hx he ca=>?_;obtain rfl:=he;refine zuf ty84 rfl rfl rfl rfl ca rfl ?_;refine ztu (zs:=[.int .i64 0,.int .i64 0]) ty84 rfl rfl fun β w2 hβ u2 hz2 hx2=>?_;have hj2:=hJ _ _ _ hj u2;have hjs:∀(S0:List Nat) (w3:World),Upd [β] w2 w3->J (S.refsL (vs.take k)) w3:=fun S0 w3 u3=>hJ _ _ _ hj ⟨u3.os.trans u2.os,u3.tape.trans u2.tape,u3.output.trans u2.output,jbf u2.size u3.size,fun x hx hn=>(u3.same x (jba hx u2.size) (by simp;omega)).trans (u2.same x hx (by simp))⟩;refine zz2 (v:=.agg #[.int .i64 u.1,.int .i64 u.2]) (cs':=[.int .i64 u.1,.int .i64 u.2]) ty84 rfl rfl rfl rfl hx2 rfl rfl rfl fun w3 u3 hz3 hx3=>?_;have hj3:=hjs [] w3 u3;refine jdf ?_;refine hK5 _ _ ?_;refine qd7 fun K6 hK6=>?_;by_cases hv:u.1=4
  ·refine(wpIn_wide (n:=0)).1 (wpIn_region_lit (z1z 7 rfl ?lo rfl ?_))
   case lo=>rintro⟨_,_,h⟩;exact(show False from h)
   dsimp only [List.take_succ_cons,List.take_zero,List.drop_succ_cons,jck];refine qv2 q7h rfl rfl rfl ?_;refine qtj (v:=.int .i64 u.1) ty3 rfl rfl rfl rfl hx3 rfl ?_;refine q8v rfl rfl rfl rfl ?_;refine qgt (v:=.bool true) rfl rfl (jb2 Value.bool (jaf hv)) ?_;refine qgt (v:=.func (.yield l) #[] #[]) rfl rfl rfl ?_;refine qv2 zz1 rfl rfl rfl ?_;refine qtj (v:=.int .i64 u.2) ty3 rfl rfl rfl rfl hx3 rfl ?_;refine jdf ?_;refine qys ?_;have hsp:S.refsL vs=S.refsL (vs.take k)++u.2::S.refsL (vs.drop (k+1)):=by
    conv=>lhs;rw[<- jc3 k vs,q2c,zwt hx]
    simp[S.refsL,hv]
   refine znx rfl rfl rfl rfl rfl (hy _ _ _ _ _ _ hsp hj3 (Upd.refl _ _) fun E=>.int _ _ (hw u (ja8 hx))) ?_;rintro e w4 ⟨_,(⟨rfl,hj4⟩|⟨rfl,hk4⟩)⟩
   ·refine⟨_,rfl,q4r rfl ?lo rfl ?_⟩
    case lo=>rintro⟨_,_,h⟩;exact(show False from h)
    refine q6c rfl rfl rfl ?_;refine zep (v:=.bool false) rfl rfl rfl rfl ?_;refine jdf ?_;refine hK6 _ _ ?_;refine q25 rfl rfl ?_;refine wp_skip ?_;refine zbl ?_;refine hK4 _ _ ?_;refine qe1 ?_;refine q4c rfl rfl rfl rfl (by omega) ?_;refine qgt (v:=.int .i64 ((k:Int)+1)) rfl rfl rfl ?_;refine jdf ?_;refine qys ?_;exact⟨k+1,by omega,⟨by omega,by rw[zaq hx,jal hv];exact hj4⟩,_,rfl,(by repeat first|exact qbp.refl _ _|refine qbp.upd rfl ?_|refine qbp.upds rfl ?_|refine qbp.mix rfl ?_),rfl,trivial⟩
   ·refine⟨_,rfl,q4r rfl ?lo rfl ?_⟩
    case lo=>rintro⟨_,_,h⟩;exact(show False from h)
    refine q6c rfl rfl rfl ?_;refine zep (v:=.bool true) rfl rfl rfl rfl ?_;refine jdf ?_;refine hK6 _ _ ?_;refine zly rfl rfl ?_;refine wp_ret ?_;exact ret0 Tryz.results130 ⟨rfl,.inr hk4⟩
  ·refine qe1 ?_;refine qv2 q7h rfl rfl rfl ?_;refine qtj (v:=.int .i64 u.1) ty3 rfl rfl rfl rfl hx3 rfl ?_;refine q8v rfl rfl rfl rfl ?_;refine qgt (v:=.bool false) rfl rfl (jb2 Value.bool (jae hv)) ?_;refine qot rfl ?_;refine qot rfl ?_;refine qot rfl ?_;refine qot rfl ?_;refine qot rfl ?_;refine zon (v:=.bool false) rfl rfl rfl rfl ?_;refine jdf ?_;refine hK6 _ _ ?_;refine q25 rfl rfl ?_;refine wp_skip ?_;refine zbl ?_;refine hK4 _ _ ?_;refine qe1 ?_;refine q4c rfl rfl rfl rfl (by omega) ?_;refine qgt (v:=.int .i64 ((k:Int)+1)) rfl rfl rfl ?_;refine jdf ?_;refine qys ?_;exact⟨k+1,by omega,⟨by omega,by rw[zaq hx,jak hv,jbl];exact hj3⟩,_,rfl,(by repeat first|exact qbp.refl _ _|refine qbp.upd rfl ?_|refine qbp.upds rfl ?_|refine qbp.mix rfl ?_),rfl,trivial⟩
 ·refine wp_exit ?_;have e:vs.take k=vs:=jdy (by omega);rw[e] at hj;exact zk5 Tryz.results130 ⟨rfl,.inl hj⟩
def q3a:SmI:=⟨[.ref (.box [.dat (.list cVal)])],.int .i64,fun x=>some (S.refsL x.1.1)⟩
theorem zr5:ConI Tryz.prog 130 q3a:=by
 refine⟨zxi,rfl,fun E x us rows l hl _ hrd=>?_⟩;obtain⟨⟨vs,_⟩,_⟩:=x;cases hl;obtain⟨h1,h2⟩:=hrd;obtain⟨i,i1,i2,i3,i4⟩:=h2 0 _ rfl;have i4:OR E i (.row [.lst cVal vs]):=i4;obtain⟨cells,t,k1,k2,k3,k4⟩:=i4;have ha:=h1 (fun k=>rows.getD k 0) 0 (fun j id hj=>by show rows.getD (0+j) 0=id;rw[ja5,jam,hj];rfl);obtain⟨u,us',rfl,a1,a2⟩:=VRs.inv (v:=.ptr (rows.getD 0 0) 0) (cs:=[]) ha;obtain rfl:us'=[]:=jbq.1 a2.1.symm;have e0:rows.getD 0 0=i:=by rw[jam,i1];rfl
 rw[e0] at a1;have hu:u=.pointer (some ⟨E.ρ i,0,none⟩):=by cases a1;rfl
 subst hu;obtain⟨h0,r0,hc0⟩:∃h0 r0,cells.toList=h0::r0:=by
  cases hc:cells.toList with
  | nil=>have:=jb2 List.length hc;simp at this;simp [this] at k3
  | cons h r=>exact⟨h,r,rfl⟩
 have hv:VR E (.lst cVal vs) h0:=by
  have:=k4.2 0 (by simp) (by simp[hc0]);simpa [hc0] using this
 obtain⟨a,cap,rfl,hS⟩:=zrk hv;have hwf:WfE (.list cVal) vs:=qn6 (c:=.list cVal) hv;have hin:=ja8 i1;refine fun l J K W q1 q2 q3 q4 q5=>zmg (M:=E.m) (a:=a) (c:=cap) (vs:=vs) (cs0:=r0) (fun v hv=>(zmn hwf hv).2) l J K W q1 q2 (fun s A hs=>?_) (fun pre x post A0 A u h1 h2 h3 h4=>q4 pre x post A0 A u h1 h2 h3 fun E _ _=>h4 E) q5;obtain⟨r1,r2⟩:=q3 s A hs;refine⟨⟨t,?_⟩,hS.mono r1.tr⟩;rw[r2 i hin,k1,<- hc0]
end Go.Proofs.YtcnhjofpmpipfaaGreat
end

section
namespace Go.Jx
open Go Go.Sx Go.RowKit
universe u

def foldN{D α:Type}(g:D->α->Option D):List α->D->Option D
 | [],d=>some d
 | x::xs,d=>match g d x with
  | none=>none
  | some d'=>foldN g xs d'
def qno{D:Type}:Option (D × Option Code)->Option D
 | some (d,none)=>some d
 | _=>none
theorem q35{D α:Type}(g:D->α->Option (D × Option Code)):∀(xs:List α) (d d':D),foldN (fun d x=>qno (g d x)) xs d=some d'->foldB g xs d=some (d',none)
 | [],d,d',h=>by cases h;rfl
 | x::xs,d,d',h=>by
  simp only[foldN,foldB] at h ⊢;cases hg:g d x with
  | none=>rw[hg] at h;cases h
  | some q =>
   obtain⟨z,e⟩:=q;rw[hg] at h;cases e with
   | none=>exact q35 g xs z d' h
   | some e=>cases h
section
variable (P : Program) (tt : Nat -> Option TI)
def qr3(cfg:LpC)(c:TC)(nt lf:Nat)(clP:ClP)(pr:Nat)(assign body:Code)(d:ElP cfg.lp)(z:ElP (refs cfg.lp))(x:El c):Option (ElP (refs cfg.lp)) :=
 qa0 P tt cfg.nm (mP cfg.lp) nt (clP (ElP (refs cfg.lp))) lf none assign (qdx [pr] [asIV c x] (putL cfg.ls (qan cfg.lp idN 0 d) .leaf)) (Sc cfg.lp (updP cfg.lp d z)) [] fun r1=>match r1.e with
  | .normal=>match r1.ds with
   | []=>qa0 P tt cfg.nm (mP cfg.lp) nt (clP (ElP (refs cfg.lp))) lf none body r1.fr r1.S [] fun r2=>match r2.ds with
     | []=>match r2.e with
      | .normal=>match runQ (sQ cfg.lp) ⟨.tup [],r2.S,0,0⟩ with
       | none=>none
       | some y=>some y.2
      | _=>none
     | _=>none
   | _=>none
  | _=>none
theorem zgj{cfg:LpC}{c:TC}{nt lf:Nat}{cl:Cl}{clP:ClP}(hcl:∀R,ClEq cl (clP R))(pr:Nat)(assign body:Code)(d:ElP cfg.lp)(z:ElP (refs cfg.lp))(x:El c) :
  qr3 P tt cfg c nt lf clP pr assign body d z x=qno (qeq P tt cfg c nt lf cl pr assign body d z x):=by
 unfold qr3 qeq;rw[qes (hcl _)];cases qad P tt cfg.nm (mP cfg.lp) nt cl lf none assign (qdx [pr] [asIV c x] (putL cfg.ls (qan cfg.lp idN 0 d) .leaf)) (Sc cfg.lp (updP cfg.lp d z)) [] with
 | none=>rfl
 | some r1 =>
  simp only[bd];cases r1.e<;>try rfl
  simp only;cases r1.ds with
  | cons _ _=>rfl
  | nil =>
   simp only;rw[qes (hcl _)];cases qad P tt cfg.nm (mP cfg.lp) nt cl lf none body r1.fr r1.S [] with
   | none=>rfl
   | some r2 =>
    simp only[bd];cases r2.ds with
    | cons _ _=>rfl
    | nil =>
     simp only;cases r2.e<;>cases runQ (sQ cfg.lp) ⟨.tup [],r2.S,0,0⟩<;>rfl
def itP(s:SmI)(cfg:LpC)(lf:Nat)(cl:Cl)(vs:List IV)(S:IS):Option Res:=match vs with
 | .yield id::caps=>match rdP s.ips S caps with
  | none=>none
  | some (xi,irows,_,S1,w1)=>match S1.heap.get id with
   | some (.loop .ready none nt fr [pr] assign body D)=>match rdP cfg.lp S1 (cfg.ls.map (slot fr)) with
    | none=>none
    | some (d0,rows,subs,S2,w2)=>cond (itB S2 cfg id nt irows rows subs w2 assign body) (match fiP cfg.lp rows subs S2 d0 with
     | none=>none
     | some d=>match s.xs xi with
      | none=>none
      | some l=>match foldN (fun z x=>qno (qeq P tt cfg s.c nt lf cl pr assign body d z x)) l (qc3 cfg.lp d) with
       | none=>none
       | some z=>some (qnk S2 cfg id nt fr pr D assign body irows rows subs (w1 ||| w2) (z,none))) none
   | _=>none
 | _=>none
def itPK(s:SmI)(cfg:LpC)(lf:Nat)(clP:ClP)(R:Type)(vs:List IV)(S:IS)(kk:Res->Option R):Option R:=match vs with
 | .yield id::caps=>match rdP s.ips S caps with
  | none=>none
  | some (xi,irows,_,S1,w1)=>match S1.heap.get id with
   | some (.loop .ready none nt fr [pr] assign body D)=>match rdP cfg.lp S1 (cfg.ls.map (slot fr)) with
    | none=>none
    | some (d0,rows,subs,S2,w2)=>cond (itB S2 cfg id nt irows rows subs w2 assign body) (match fiP cfg.lp rows subs S2 d0 with
     | none=>none
     | some d=>match s.xs xi with
      | none=>none
      | some l=>match foldN (qr3 P tt cfg s.c nt lf clP pr assign body d) l (qc3 cfg.lp d) with
       | none=>none
       | some z=>kk (qnk S2 cfg id nt fr pr D assign body irows rows subs (w1 ||| w2) (z,none))) none
   | _=>none
 | _=>none
end
section
variable {P : Program} {tt : Nat -> Option TI}
theorem zfw(s:SmI)(cfg:LpC)(lf:Nat)(cl:Cl)(clP:ClP)(hcl:∀R,ClEq cl (clP R))(R:Type)(vs:List IV)(S:IS)(kk:Res->Option R):itPK P tt s cfg lf clP R vs S kk=ob (itP P tt s cfg lf cl vs S) kk:=by
 unfold itPK itP;cases vs with
 | nil=>rfl
 | cons v caps =>
 cases v<;>try rfl
 rename_i id;simp only;cases rdP s.ips S caps with
 | none=>rfl
 | some a =>
 obtain⟨xi,irows,_,S1,w1⟩:=a;simp only;cases S1.heap.get id with
 | none=>rfl
 | some o =>
 cases o<;>try rfl
 rename_i st pe nt fr ps assign body D;cases st<;>try rfl
 cases pe<;>try rfl
 cases ps with
 | nil=>rfl
 | cons pr ps =>
 cases ps with
 | cons _ _=>rfl
 | nil =>
 simp only;cases rdP cfg.lp S1 (cfg.ls.map (slot fr)) with
 | none=>rfl
 | some b =>
 obtain⟨d0,rows,subs,S2,w2⟩:=b;simp only[qbd];cases fiP cfg.lp rows subs S2 d0 with
 | none=>rfl
 | some d =>
 simp only;cases s.xs xi with
 | none=>rfl
 | some l =>
 have e:qr3 P tt cfg s.c nt lf clP pr assign body d=fun z x=>qno (qeq P tt cfg s.c nt lf cl pr assign body d z x):=by
  funext z x;exact zgj P tt hcl pr assign body d z x
 simp only[e];cases foldN (fun z x=>qno (qeq P tt cfg s.c nt lf cl pr assign body d z x)) l (qc3 cfg.lp d)<;>rfl
theorem q0d{s:SmI}{cfg:LpC}{lf:Nat}{cl:Cl}{vs:List IV}{S:IS}{r:Res}(h:itP P tt s cfg lf cl vs S=some r):itF P tt s cfg lf cl vs S=some r:=by
 unfold itP at h;unfold itF;split at h<;>try cases h
 try simp only
 split at h
 ·cases h
 rename_i h1;try rw[h1]
 try simp only
 split at h<;>try cases h
 rename_i h2;try rw[h2]
 try simp only
 split at h
 ·cases h
 rename_i h3;try rw[h3]
 try simp only
 cases hb:itB _ cfg _ _ _ _ _ _ _ _ with
 | false=>rw[hb] at h;cases h
 | true =>
 rw[hb] at h;simp only[jaa] at h ⊢;split at h
 ·cases h
 rename_i h4;try rw[h4]
 try simp only
 split at h
 ·cases h
 rename_i h5;try rw[h5]
 try simp only
 split at h<;>cases h;rename_i h6;rw[q35 _ _ _ _ h6]
def itPx(P:Program)(tt:Nat->Option TI)(s:SmI)(cfg:LpC)(lf:Nat):Hx:=⟨itP P tt s cfg lf,fun clP R vs S kk=>itPK P tt s cfg lf clP R vs S kk,fun cl clP hcl R vs S kk=>zfw s cfg lf cl clP hcl R vs S kk⟩
theorem zjw(hm:P.follows .mixedOrders=true)(htt:TT P tt){f:Nat}{s:SmI}(cfg:LpC)(lf:Nat)(hc:ConI P f s):HxOK P f (itPx P tt s cfg lf).f :=
 .of (fun cl h1 h2 _ vs S r h T E us p hr hw hv=>ztq hm htt hc h1 h2 (q0d h) p hr hw hv) (fun cl _ vs S r h=>zsm r (q0d h)) (fun cl _ vs S r h hw _=>(zfl (q0d h) hw).elim)
def zgn:Nat->Option Nm:=fun k=>cond (Nat.beq k 999999) (some ⟨[],[],[],[],[],0,0,false⟩) none
end
end Go.Jx
end

noncomputable section
set_option maxRecDepth 100000
namespace Go.Proofs.YtcnhjofpmpipfaaGreat
open Go Go.Sx Go.RowKit Go.Jx
def qrl:Nat->Option Nm:=fun k=>cond (Nat.beq k 999999) (some ⟨[],[],[],[],[],0,0,false⟩) none
def qp2:Nat->Bool:=fun k=>false
def qzy:=qp2
abbrev qf7:Type:=(Unit) × ((List (Int × Int)) × Unit) × ((List Int) × Unit) × Unit
def qv9:List (Nat × Sm):=[]
def qvt:List (Nat × Hx):=[(130,itPx Tryz.prog ttT.get q3a ⟨[1,2],[.ref (.box [.map (.int .i64) (.int .i64)]),.ref (.box [.arr (.int .i64)])],zgn⟩ 0)]
def zdm(R:Type)(lf:Nat):ClK R:=qay Tryz.prog ttT.get ftT.get (fun _ _=>none) (smL qv9) (hxL qvt) lf 20 R
abbrev zmh:Nat:=103
def q1a(lf:Nat)(x1:(List DVal))(x2:(List (Int × Int)))(x3:(List Int)):Option qf7:=(match (foldN (fun v0 v1=>(cond (Bool.not (match (@qck (TC.int .i64) (TC.int .i64) v1 v0.1.1) with|.none  => false|some v2=>true)) (cond (Nat.ble (Nat.mul (Nat.add v0.2.1.1.length 1) 8) 140737488355328) (some (((@mset (TC.int .i64) (TC.int .i64) v1 (Int.ofNat v0.2.1.1.length) v0.1.1),()),(((List.append v0.2.1.1 [v1]),()),()))) none) (some ((v0.1.1,()),((v0.2.1.1,()),()))))) (S.refsL x1) ((x2,()),((x3,()),()))) with|none=>none|some v3=>(some ((),((v3.1.1,()),((v3.2.1.1,()),())))))
abbrev gz16:Type:=ElP [.dat (.list cVal),.ref (.box [.map (.int .i64) (.int .i64)]),.ref (.box [.arr (.int .i64)])]->Option qf7
abbrev sz16(g:gz16):SmR:=⟨[.dat (.list cVal),.ref (.box [.map (.int .i64) (.int .i64)]),.ref (.box [.arr (.int .i64)])],[],g⟩
abbrev Ez16(g:gz16)(J:JT qf7)(lf:Nat)(x1:(List DVal))(x2:(List (Int × Int)))(x3:(List Int)):=qbx Tryz.prog ttT.get qrl (mP [.dat (.list cVal),.ref (.box [.map (.int .i64) (.int .i64)]),.ref (.box [.arr (.int .i64)])]) qf0.nt (zdm _ lf) lf qp2 J qf0.body [] (qau (qan [.dat (.list cVal),.ref (.box [.map (.int .i64) (.int .i64)]),.ref (.box [.arr (.int .i64)])] idN 0 (x1,(x2,()),(x3,()),())) 0 .leaf) (Sc [.dat (.list cVal),.ref (.box [.map (.int .i64) (.int .i64)]),.ref (.box [.arr (.int .i64)])] (x1,(x2,()),(x3,()),())) [] (qdl ttT.get qf0 (sz16 g))
theorem zm1(g:gz16)(J:JT qf7)(lf:Nat)(x1:(List DVal))(x2:(List (Int × Int)))(x3:(List Int)):Ez16 g J lf x1 x2 x3=q1a lf x1 x2 x3:=by kernel_rfl
theorem znz:(regs qf0.body).Nodup:=by decide +kernel
theorem zfm:okC qrl qp2 qzy qf0.body none=true:=by kernel_rfl
def Az16(g:gz16)(lf:Nat):JT qf7:=atQ Tryz.prog ttT.get qrl qf0 (sz16 g) (zdm _ lf) lf qzy
def Fz16(lf:Nat)(x1:(List DVal))(x2:(List (Int × Int)))(x3:(List Int)):Option qf7:=q1a lf x1 x2 x3
theorem zph(g:gz16)(lf:Nat)(x1:(List DVal))(x2:(List (Int × Int)))(x3:(List Int)):Ez16 g (Az16 g lf) lf x1 x2 x3=Fz16 lf x1 x2 x3:=by
  refine(zm1 g (Az16 g lf) lf x1 x2 x3).trans ?_;rfl
theorem zz8:qa1 Tryz.prog qvt:=⟨zjw qd5 ttOK _ 0 zr5,trivial⟩
theorem zt8{g:gz16}(hsm:SmOK Tryz.prog qv9)(hg:∀(x:ElP [.dat (.list cVal),.ref (.box [.map (.int .i64) (.int .i64)]),.ref (.box [.arr (.int .i64)])]) (y:qf7),WfP [.dat (.list cVal),.ref (.box [.map (.int .i64) (.int .i64)]),.ref (.box [.arr (.int .i64)])] x->g x=some y->∃lf,Fz16 lf x.1 x.2.1.1 x.2.2.1.1=some y):ConR Tryz.prog 103 ⟨[.dat (.list cVal),.ref (.box [.map (.int .i64) (.int .i64)]),.ref (.box [.arr (.int .i64)])],[],g⟩ :=
 conTR (nmf:=qrl) (sml:=qv9) (hxl:=qvt) (st:=qp2) (hd:=qzy) 20 qd5 ttOK ftOK hsm zz8 zrb (by kernel_rfl) (fun x=>by kernel_rfl) znz zfm fun x y z hx hy=>by
  obtain⟨lf,h⟩:=hg x (y,z) hx hy;exact⟨lf,(zph g lf x.1 x.2.1.1 x.2.2.1.1).trans h⟩
abbrev qq7:Type:=(List DVal) × Unit
abbrev zmz:Nat:=35
def q2i(lf:Nat)(x1:(List DVal)):Option qq7:=(match x1 with|.nil  => none|.cons v0 v1=>(cond (Nat.ble (Nat.mul (Nat.add 0 x1.length) 16) 140737488355328) (some (x1,())) none))
def qyg(lf:Nat)(x1:(List DVal)):Option qq7:=q2i lf x1
theorem zi5{g:ElA [(.list cVal)]->Option qq7}(hsm:SmOK Tryz.prog [])(hg:∀(x:ElA [(.list cVal)]) (y:qq7),WfA [(.list cVal)] x->g x=some y->∃lf,qyg lf x.1=some y):Con Tryz.prog 35 ⟨[(.list cVal)],[(true,cVal)],g⟩ :=
 conU (fi:=fi35) (hxl:=[]) (fun lf x=>qyg lf x.1) cm3 q8r trivial hsm hg
def zb1:Sm:=⟨[.list cVal],[(true,cVal)],fun x=>some (x.1,())⟩
theorem zq1{M:List Nat}{w:World}{a:Option Addr}{cap:Nat}(hM:Lo M w)(hc:cap<9223372036854775808):Calls Tryz.prog 35 #[.slice a 0 cap] w (Ret fun v w'=>∃a' c' m',v=.slice a' 0 c'/\Go.Sx.Own m' M w' a' c' ([]:List (NoD 2))/\Evo [] w m' w'):=by
 have hS:SL M w a cap ([]:List (NoD 2)):=⟨⟨jbm _,hc⟩,.inl rfl⟩;refine enter (l:=[.slice a 0 cap]) Tryz.func35 rfl Tryz.ntmps35 rfl ?_;refine qd7 fun KhK1 hK1=>?_;refine qe1 ?_;refine q07 (v:=.slice none 0 0) rfl rfl rfl ?_;refine jdf ?_;refine hK1 _ _ ?_;refine qd7 fun KhK2 hK2=>?_;refine qd7 fun KhK3 hK3=>?_;refine qe1 ?_;refine qgt (v:=.slice a 0 cap) rfl rfl rfl ?_;refine zgb ty25 rfl rfl rfl rfl ?_;refine jdf ?_;refine hK3 _ _ ?_;refine zvn rfl rfl (fun hb4=>?_) (fun hb4=>?_)
 ·refine qd7 fun KhK5 hK5=>?_;refine qe1 ?_;refine q07 (v:=.slice none 0 0) rfl rfl rfl ?_;refine jdf ?_;refine hK5 _ _ ?_;refine wp_ret ?_;exact ret1 Tryz.results35 rfl ⟨none,0,[],rfl,Go.Sx.Own.nil,Evo.refl [] w⟩
 ·refine wp_skip ?_;refine hK2 _ _ ?_;refine qd7 fun KhK7 hK7=>?_;refine qe1 ?_;refine z2i (α:=NoD 2) (m:=[]) (M:=M) ty25 ty84 rfl (hM.mono (Evo.refl [] w).size) fun β14 w15 hβ16 u17 hz18 ho19=>?_;have e20:=u17.evoN (m:=[]) hβ16 hz18;refine qgt (v:=.slice a 0 cap) rfl rfl rfl ?_;refine zy9 ty25 ty25 ty84 rfl rfl rfl rfl rfl rfl rfl ho19 (hS.mono (e20.tr M)) (hM.mono e20.size) (by simp) fun a22 c23 w24 m25 ho26 e27 u28 hbk29 hsub30=>?_;refine q07 (v:=.slice a22 (([]:List (NoD 2))++[]).length c23) rfl rfl rfl ?_;refine jdf ?_;refine hK7 _ _ ?_;refine wp_ret ?_;exact ret1 Tryz.results35 rfl ⟨a22,c23,m25,rfl,ho26,e20.trans e27⟩
theorem zqy:Con Tryz.prog 35 ⟨[.list cVal],[(true,cVal)],fun x=>match x.1 with|[]=>none|v::l=>some (x.1,())⟩:=zi5 trivial fun x y hx h=>⟨0,by
 obtain⟨l,_⟩:=x;have hl:=qbj hx.1;have hb:=hx.1.1;cases l with
 | nil=>cases h
 | cons v l =>
  cases h;simp only[qyg,q2i];exact jc7 (jb2 (fun b=>cond b (some (v::l,())) none) (jbk (jbf (jdq (jb2 (fun z=>Nat.mul z 16) (ja5 _))) hb))) rfl⟩
theorem zxx:Con Tryz.prog zmz zb1:=by
 refine⟨q8r,fun M w x us y hy hM hg hv=>?_⟩;obtain⟨l,_⟩:=x;cases l with
 | cons v l=>exact zqy.calls M w (v::l,()) us y hy hM hg hv
 | nil =>
  cases hy;obtain⟨u,us2,rfl,h1,h2⟩:=hv.inv;obtain rfl:us2=[]:=jbq.1 h2.1.symm;obtain⟨a,cap,rfl,hc⟩:=zm8 h1;refine jda.2 ((zq1 (M:=M) hM hc).mono fun e w' hR=>?_);exact zkv rfl (fun e=>by cases e) hM hR
def qlh:Nat->Option Nm:=fun k=>cond (Nat.beq k 3) (some ⟨[1,4,9,10,11],[(4,cVal)],[],[],[],0,0,false⟩) (cond (Nat.beq k 999999) (some ⟨[],[],[],[],[],0,0,false⟩) none)
def qms:Nat->Bool:=fun k=>cond (Nat.beq k 3) true (false)
def qx2:=qms
abbrev qc8:Type:=((List DVal) × Unit) × ((List (Int × Int)) × Unit) × Unit
def qx0:List (Nat × Sm):=[(35,zb1)]
def qyr:List (Nat × Hx):=[]
def q0o(R:Type)(lf:Nat):ClK R:=qay Tryz.prog ttT.get ftT.get (fun _ _=>none) (smL qx0) (hxL qyr) lf 20 R
abbrev zr9:Nat:=105
def qkj(x1:(List DVal))(x2:(List (Int × Int)))(p:Int × (List DVal)):NRes:=(NRes.mk (.node none (.node (some (IV.ptr 0 0)) (.node none .leaf (.node (some (IV.int .i64 p.1)) .leaf .leaf)) (.node none (.node (some (IV.arr 1)) .leaf .leaf) .leaf)) (.node none (.node (some (IV.arr 1)) .leaf .leaf) (.node none (.node (some (IV.int .i64 (Int.ofNat x1.length))) .leaf .leaf) .leaf))) (IS.mk (.node (some (IObj.row [(IV.map 2)])) (.node (some (IObj.arr cVal p.2)) .leaf .leaf) (.node (some (IObj.tmap (TC.int .i64) (TC.int .i64) x2)) .leaf .leaf)) 3) [] 0)
def qxi(lf:Nat)(x1:(List DVal))(x2:(List (Int × Int)))(L3:(Int × (List DVal))->Option qc8):Option qc8:=(L3 ((Int.ofNat 0),x1))
def qs3(lf:Nat)(x1:(List DVal))(x2:(List (Int × Int)))(L3:(Int × (List DVal))->Option qc8)(p:Int × (List DVal)):Option qc8:=(cond (iltI p.1 (Int.ofNat x1.length)) (match (jget p.2 p.1) with|none=>none|some v0=>(match (GetElem?.getElem? p.2 (Int.toNat p.1)) with|none=>none|some v1=>(cond (ieqI v1.1 (Int.ofNat 4)) (match (jget p.2 p.1) with|none=>none|some v2=>(match (GetElem?.getElem? p.2 (Int.toNat p.1)) with|none=>none|some v3=>(L3 ((IntKind.i64.wrap (Int.add p.1 (Int.ofNat 1))),(List.set p.2 (Int.toNat p.1) (v3.1,(match (@qck (TC.int .i64) (TC.int .i64) v1.2 x2) with|.none  => (Int.ofNat 0)|some v33=>v33))))))) (L3 ((IntKind.i64.wrap (Int.add p.1 (Int.ofNat 1))),p.2))))) (some ((p.2,()),((x2,()),()))))
abbrev gz17:Type:=ElP [.dat (.list cVal),.ref (.box [.map (.int .i64) (.int .i64)])]->Option qc8
abbrev sz17(g:gz17):SmR:=⟨[.dat (.list cVal),.ref (.box [.map (.int .i64) (.int .i64)])],[(true,cVal)],g⟩
abbrev Ez17(g:gz17)(J:JT qc8)(lf:Nat)(x1:(List DVal))(x2:(List (Int × Int))):=qbx Tryz.prog ttT.get qlh (mP [.dat (.list cVal),.ref (.box [.map (.int .i64) (.int .i64)])]) qeb.nt (q0o _ lf) lf qms J qeb.body [] (qau (qan [.dat (.list cVal),.ref (.box [.map (.int .i64) (.int .i64)])] idN 0 (x1,(x2,()),())) 0 .leaf) (Sc [.dat (.list cVal),.ref (.box [.map (.int .i64) (.int .i64)])] (x1,(x2,()),())) [] (qdl ttT.get qeb (sz17 g))
abbrev Bz17(g:gz17)(J:JT qc8)(lf k:Nat)(ms:List Nat)(q:NRes):=qbo Tryz.prog ttT.get qlh (mP [.dat (.list cVal),.ref (.box [.map (.int .i64) (.int .i64)])]) qeb.nt (q0o _ lf) lf qms J k qeb.body [] ms q (qdl ttT.get qeb (sz17 g))
theorem zlv(g:gz17)(J:JT qc8)(lf:Nat)(x1:(List DVal))(x2:(List (Int × Int))):Ez17 g J lf x1 x2=qxi lf x1 x2 (fun q=>J 3 [lf] (qkj x1 x2 q)):=by kernel_rfl
theorem zmy(g:gz17)(J:JT qc8)(lf:Nat)(x1:(List DVal))(x2:(List (Int × Int)))(m1:Nat)(p:Int × (List DVal)):Bz17 g J lf 3 [m1] (qkj x1 x2 p)=qs3 lf x1 x2 (fun q=>J 3 [m1] (qkj x1 x2 q)) p:=by kernel_rfl
theorem q8l:(regs qeb.body).Nodup:=by decide +kernel
theorem q6o:okC qlh qms qx2 qeb.body none=true:=by kernel_rfl
def Az17(g:gz17)(lf:Nat):JT qc8:=atQ Tryz.prog ttT.get qlh qeb (sz17 g) (q0o _ lf) lf qx2
def qrv(lf:Nat)(x1:(List DVal))(x2:(List (Int × Int))):Nat->(Int × (List DVal))->Option qc8:=rounds fun K p=>qs3 lf x1 x2 K p
theorem zd3(g:gz17)(lf:Nat)(x1:(List DVal))(x2:(List (Int × Int))):∀(n:Nat) (p:Int × (List DVal)),Az17 g lf 3 [n] (qkj x1 x2 p)=qrv lf x1 x2 n p
 | 0,p=>q19 3 [0] rfl _
 | n+1,p=>by
  have ih:=zd3 g lf x1 x2 n;refine(zbo rfl (qaj 20 _) q8l q6o 3 [n+1] [n] rfl _).trans ((zmy g (Az17 g lf) lf x1 x2 n p).trans ?_);rw[(show (fun q=>Az17 g lf 3 [n] (qkj x1 x2 q))=(fun q=>qrv lf x1 x2 n q) from funext ih)];rfl
def Fz17(lf:Nat)(x1:(List DVal))(x2:(List (Int × Int))):Option qc8:=qxi lf x1 x2 (fun q=>qrv lf x1 x2 lf q)
theorem z1m(g:gz17)(lf:Nat)(x1:(List DVal))(x2:(List (Int × Int))):Ez17 g (Az17 g lf) lf x1 x2=Fz17 lf x1 x2:=by
  refine(zlv g (Az17 g lf) lf x1 x2).trans ?_;rw[(show (fun q=>Az17 g lf 3 [lf] (qkj x1 x2 q))=(fun q=>qrv lf x1 x2 lf q) from funext fun q=>zd3 g lf x1 x2 lf q)];rfl
theorem zvv:qa1 Tryz.prog qyr:=trivial
theorem zom{g:gz17}(hsm:SmOK Tryz.prog qx0)(hg:∀(x:ElP [.dat (.list cVal),.ref (.box [.map (.int .i64) (.int .i64)])]) (y:qc8),WfP [.dat (.list cVal),.ref (.box [.map (.int .i64) (.int .i64)])] x->g x=some y->∃lf,Fz17 lf x.1 x.2.1.1=some y):ConR Tryz.prog 105 ⟨[.dat (.list cVal),.ref (.box [.map (.int .i64) (.int .i64)])],[(true,cVal)],g⟩ :=
 conTR (nmf:=qlh) (sml:=qx0) (hxl:=qyr) (st:=qms) (hd:=qx2) 20 qd5 ttOK ftOK hsm zvv zxe (by kernel_rfl) (fun x=>by kernel_rfl) q8l q6o fun x y z hx hy=>by
  obtain⟨lf,h⟩:=hg x (y,z) hx hy;exact⟨lf,(z1m g lf x.1 x.2.1.1).trans h⟩
def S.numAt(es:List (Int × Int))(k:Int):Option Int:=@qck (.int .i64) (.int .i64) k es
def S.movedV(es:List (Int × Int))(v:DVal):DVal:=if (v:Int × Int).1=4 then ((v:Int × Int).1,(S.numAt es (v:Int × Int).2).getD 0) else v
def S.movedL(es:List (Int × Int))(l:List DVal):List DVal:=l.map (S.movedV es)
def qp0:SmR:=⟨[.dat (.list cVal),.ref (.box [.map (.int .i64) (.int .i64)])],[(true,cVal)],fun x=>some ((S.movedL x.2.1.1 x.1,()),((x.2.1.1,()),()))⟩
theorem z2l(l:List DVal)(es:List (Int × Int))(hl:l.length<LF):Fz17 LF l es=some ((S.movedL es l,()),((es,()),())):=by
 simp only[Fz17,qxi];refine range0 (α:=DVal) (σ:=List DVal) (R:=qc8) l (fun i s=>(i,s)) (fun i s=>s=(l.take i).map (S.movedV es)++l.drop i) (fun _ _ _=>some ((S.movedL es l,()),((es,()),()))) hl (fun K s hs=>?_) (fun K i v rest s hs r hk=>?_) l rfl
 ·simp only[qs3,qaz,jad];rw[hs,jfi,jea,jbl];rfl
 ·have hlen:((l.take i).map (S.movedV es)).length=i:=by rw[jcq,jd7];have:=r.lt;omega
  have hs2:s=(l.take i).map (S.movedV es)++v::rest:=by rw[hs,r.drop]
  have hg:s[i]?=some v:=by rw[hs2,jat (by omega),hlen,jeh];rfl
  have hj:jget s (Int.ofNat i)=some v:=by rw[qbz];exact hg
  have hset:∀v',v'=S.movedV es v->(s.set i v')=(l.take (i+1)).map (S.movedV es)++l.drop (i+1):=fun v' hv=>by
   rw[hs2,List.set_append_right _ _ (by omega),hlen,jeh,r.tail,r.take,jez,List.set_cons_zero,hv];simp
  have hsame:S.movedV es v=v->s=(l.take (i+1)).map (S.movedV es)++l.drop (i+1):=fun hv=>by
   rw[hs2,r.tail,r.take,jez];simp[hv]
  have e2:Int.toNat (Int.ofNat i)=i:=rfl;simp only[qs3,r.ilt,jaa,hj,e2,hg,r.next];by_cases h4:(v:Int × Int).1=4
  ·have h5:ieqI (v:Int × Int).1 (Int.ofNat 4)=true:=by rw[qat];exact jaf h4
   simp only[h5,jaa];refine hk _ (hset _ ?_);unfold S.movedV;rw[jal h4];congr 1;show _=(S.numAt es (v:Int × Int).2).getD 0;unfold S.numAt;cases @qck (.int .i64) (.int .i64) (v:Int × Int).2 es<;>rfl
  ·have h5:ieqI (v:Int × Int).1 (Int.ofNat 4)=false:=by rw[qat];exact jae h4
   simp only[h5,jad];exact hk _ (hsame (by unfold S.movedV;rw[jak h4]))
theorem z0x:ConR Tryz.prog zr9 qp0:=zom ⟨zxx,trivial⟩ fun x y hx h=>⟨LF,by
 obtain⟨l,⟨es,_⟩,_⟩:=x;have hl:List.length (α:=DVal) l<LF:=qbj hx.1;exact(z2l l es hl).trans h⟩
def S.numSet(es:List (Int × Int))(k v:Int):List (Int × Int):=@mset (.int .i64) (.int .i64) k v es
def S.meetN:List Int->List (Int × Int)->List Int->Option (List (Int × Int) × List Int)
 | [],es,o=>some (es,o)
 | n::l,es,o=>cond (S.numAt es n).isSome (S.meetN l es o) (cond (Nat.ble ((o.length+1)*8) 140737488355328) (S.meetN l (S.numSet es n (Int.ofNat o.length)) (o++[n])) none)
def qty:SmR:=⟨[.dat (.list cVal),.ref (.box [.map (.int .i64) (.int .i64)]),.ref (.box [.arr (.int .i64)])],[],fun x=>match S.meetN (S.refsL x.1) x.2.1.1 x.2.2.1.1 with
 | none=>none
 | some q=>some ((),((q.1,()),((q.2,()),())))⟩
theorem q5r:∀(l:List Int) (es:List (Int × Int)) (o:List Int),
  foldN (D:=((List (Int × Int)) × Unit) × ((List Int) × Unit) × Unit) (fun v0 v1=>(cond (Bool.not (match (@qck (TC.int Go.IntKind.i64) (TC.int Go.IntKind.i64) v1 v0.1.1) with|.none  => false|some v2=>true)) (cond (Nat.ble (Nat.mul (Nat.add v0.2.1.1.length 1) 8) 140737488355328) (some (((@mset (TC.int Go.IntKind.i64) (TC.int Go.IntKind.i64) v1 (Int.ofNat v0.2.1.1.length) v0.1.1),()),(((List.append v0.2.1.1 [v1]),()),()))) none) (some ((v0.1.1,()),((v0.2.1.1,()),()))))) l ((es,()),((o,()),()))
   = match S.meetN l es o with
    | none=>none
    | some q=>some ((q.1,()),((q.2,()),()))
 | [],es,o=>rfl
 | n::l,es,o=>by
  have ih:=q5r l;simp only[foldN,S.meetN,S.numAt];cases hf:@qck (TC.int Go.IntKind.i64) (TC.int Go.IntKind.i64) n es with
  | some v =>
   simp only[hf,ja1,jad,Option.isSome_some,jaa];exact ih es o
  | none =>
   simp only[hf,jax,jaa,je6,jad];cases hb:Nat.ble ((o.length+1)*8) 140737488355328 with
   | false =>
    have hb2:Nat.ble (Nat.mul (Nat.add o.length 1) 8) 140737488355328=false:=hb;simp only[hb2,jad];all_goals rfl
   | true =>
    have hb2:Nat.ble (Nat.mul (Nat.add o.length 1) 8) 140737488355328=true:=hb;simp only[hb2,jaa];exact ih _ _
theorem zxl:ConR Tryz.prog zmh qty:=zt8 trivial fun x y hx h=>⟨0,by
 obtain⟨l,⟨es,_⟩,⟨o,_⟩,_⟩:=x
 have h:(match S.meetN (S.refsL l) es o with
  | none=>none
  | some q=>some ((),((q.1,()),((q.2,()),()))))=some y:=h
 simp only[Fz16,q1a];have e:=q5r (S.refsL l) es o;cases hm:S.meetN (S.refsL l) es o with
 | none=>rw[hm] at h;cases h
 | some q =>
  rw[hm] at h e;refine jc7 ?_ h;exact jb2 (fun a:Option (((List (Int × Int)) × Unit) × ((List Int) × Unit) × Unit)=>(match a with|none=>none|some v3=>some ((),((v3.1.1,()),((v3.2.1.1,()),()))):Option qf7)) e⟩
def qoc:Nat->Option Nm:=fun k=>cond (Nat.beq k 7) (some ⟨[1,2,4,5,6,7],[],[(5,0,(.int .i64))],[],[(4,0,(.int .i64),(.int .i64))],0,0,false⟩) (cond (Nat.beq k 12) (some ⟨[1,2,4,8,9,45,46,47],[(45,(.int .i64))],[(9,0,qaf),(9,1,cVal)],[],[(4,0,(.int .i64),(.int .i64))],0,0,false⟩) (cond (Nat.beq k 18) (some ⟨[2,4,9,12,74,75],[(12,(.int .i64))],[(9,0,qaf),(9,1,cVal)],[],[(4,0,(.int .i64),(.int .i64))],0,0,false⟩) (none)))
def qnm:Nat->Bool:=fun k=>cond (Nat.beq k 7) true (cond (Nat.beq k 12) true (cond (Nat.beq k 18) true (false)))
def ze2:=qnm
abbrev qbm:Type:=qac × (List Int) × Unit
def q4l:List (Nat × Sm):=[]
def zco:List (Nat × Hx):=[(103,hxR qty),(105,hxR qp0)]
def qx3(R:Type)(lf:Nat):ClK R:=qay Tryz.prog ttT.get ftT.get (nm1 65 qoc) (smL q4l) (hxL zco) lf 20 R
abbrev z2n:Nat:=65
def qif(x1:qac)(p:(List (Int × Int)) × (List Int) × Int):NRes:=(NRes.mk (.node none (.node (some (IV.ptr 0 0)) (.node none (.node (some (IV.int .i64 p.2.2)) .leaf .leaf) .leaf) (.node (some (IV.ptr 3 0)) .leaf .leaf)) (.node (some (IV.ptr 1 0)) (.node (some (IV.ptr 2 0)) .leaf .leaf) (.node (some (IV.fn 103 (List.cons (IV.ptr 2 0) [(IV.ptr 3 0)]))) .leaf .leaf))) (IS.mk (.node (some (IObj.row (List.cons (IV.lst qaf x1.1) [(IV.lst cVal x1.2)]))) (.node (some (IObj.row (List.cons IV.nilsl [IV.nilsl]))) (.node (some (IObj.row [(IV.arr 5)])) .leaf .leaf) (.node (some (IObj.arr (TC.int .i64) p.2.1)) .leaf .leaf)) (.node (some (IObj.row [(IV.map 4)])) (.node (some (IObj.tmap (TC.int .i64) (TC.int .i64) p.1)) .leaf .leaf) .leaf)) 6) [] 0)
def qj3(x1:qac)(p:(List (Int × Int)) × (List Int) × Int × (List qaa)):NRes:=(NRes.mk (.node none (.node (some (IV.ptr 0 0)) (.node none (.node none (.node none .leaf (.node (some (IV.int .i64 p.2.2.1)) .leaf .leaf)) .leaf) .leaf) (.node none (.node (some (IV.ptr 3 0)) .leaf .leaf) (.node none .leaf (.node none (.node (some (IV.arr 4)) .leaf .leaf) .leaf)))) (.node (some (IV.ptr 1 0)) (.node (some (IV.ptr 2 0)) (.node (some (IV.fn 105 [(IV.ptr 2 0)])) .leaf .leaf) .leaf) (.node none .leaf (.node none .leaf (.node none (.node (some (IV.int .i64 (Int.ofNat p.2.1.length))) .leaf .leaf) .leaf))))) (IS.mk (.node (some (IObj.row (List.cons (IV.lst qaf x1.1) [(IV.lst cVal x1.2)]))) (.node (some (IObj.row (List.cons IV.nilsl [IV.nilsl]))) (.node (some (IObj.row (List.cons (IV.arr 6) [(IV.arr 7)]))) (.node (some (IObj.arr cVal (S.movedL p.1 x1.2))) .leaf .leaf) .leaf) (.node (some (IObj.tmap (TC.int .i64) (TC.int .i64) p.1)) .leaf .leaf)) (.node (some (IObj.row [(IV.map 5)])) (.node (some (IObj.arr (TC.int .i64) p.2.1)) .leaf .leaf) (.node (some (IObj.arr qaf p.2.2.2)) .leaf .leaf))) 8) [] 0)
def qiz(x1:qac)(p:(List (Int × Int)) × (List qaa) × Int × (List Int)):NRes:=(NRes.mk (.node none (.node none (.node none .leaf (.node none .leaf (.node none (.node none (.node (some (IV.int .i64 p.2.2.1)) .leaf .leaf) .leaf) .leaf))) (.node none (.node (some (IV.ptr 2 0)) .leaf .leaf) .leaf)) (.node (some (IV.ptr 0 0)) (.node (some (IV.ptr 1 0)) .leaf (.node (some (IV.arr 3)) .leaf .leaf)) (.node none (.node none .leaf (.node none (.node none (.node (some (IV.int .i64 (Int.ofNat x1.1.length))) .leaf .leaf) .leaf) .leaf)) .leaf))) (IS.mk (.node (some (IObj.row (List.cons IV.nilsl [IV.nilsl]))) (.node (some (IObj.row [(IV.map 4)])) (.node (some (IObj.arr (TC.int .i64) p.2.2.2)) .leaf .leaf) (.node (some (IObj.arr qaf p.2.1)) .leaf .leaf)) (.node (some (IObj.row (List.cons (IV.arr 5) [(IV.arr 6)]))) (.node (some (IObj.tmap (TC.int .i64) (TC.int .i64) p.1)) .leaf .leaf) (.node (some (IObj.arr cVal (S.movedL p.1 x1.2))) .leaf .leaf))) 7) [] 0)
def qws(lf:Nat)(x1:qac)(L7:((List (Int × Int)) × (List Int) × Int)->Option qbm):Option qbm:=(match (match (S.meetN (S.refsL x1.2) [] []) with|none=>none|some v0=>(some ((),((v0.1,()),((v0.2,()),()))))) with|none=>none|some v1=>(L7 (v1.2.1.1,v1.2.2.1.1,(Int.ofNat 0))))
def qhg(lf:Nat)(x1:qac)(L12:((List (Int × Int)) × (List Int) × Int × (List qaa))->Option qbm)(L7:((List (Int × Int)) × (List Int) × Int)->Option qbm)(p:(List (Int × Int)) × (List Int) × Int):Option qbm:=(cond (ieqI p.2.2 (Int.ofNat p.2.1.length)) (L12 (p.1,p.2.1,(Int.ofNat 0),[])) (match (jget p.2.1 p.2.2) with|none=>none|some v2=>(match (GetElem?.getElem? p.2.1 (Int.toNat p.2.2)) with|none=>none|some v3=>(match (jget x1.1 v3) with|none=>none|some v4=>(match (match (S.meetN (S.refsL v4.2) p.1 p.2.1) with|none=>none|some v5=>(some ((),((v5.1,()),((v5.2,()),()))))) with|none=>none|some v6=>(L7 (v6.2.1.1,v6.2.2.1.1,(IntKind.i64.wrap (Int.add p.2.2 (Int.ofNat 1))))))))))
def ql0(lf:Nat)(x1:qac)(L12:((List (Int × Int)) × (List Int) × Int × (List qaa))->Option qbm)(L18:((List (Int × Int)) × (List qaa) × Int × (List Int))->Option qbm)(p:(List (Int × Int)) × (List Int) × Int × (List qaa)):Option qbm:=(cond (iltI p.2.2.1 (Int.ofNat p.2.1.length)) (match (jget p.2.1 p.2.2.1) with|none=>none|some v0=>(match (GetElem?.getElem? p.2.1 (Int.toNat p.2.2.1)) with|none=>none|some v1=>(match (jget x1.1 v1) with|none=>none|some v2=>(match (jget x1.1 v1) with|none=>none|some v3=>(cond (Nat.ble (Nat.mul (Nat.add p.2.2.2.length 1) 40) 140737488355328) (L12 (p.1,p.2.1,(IntKind.i64.wrap (Int.add p.2.2.1 (Int.ofNat 1))),(List.append p.2.2.2 [(v2.1,(S.movedL p.1 v3.2))]))) none))))) (L18 (p.1,p.2.2.2,(Int.ofNat 0),[])))
def qod(lf:Nat)(x1:qac)(L18:((List (Int × Int)) × (List qaa) × Int × (List Int))->Option qbm)(p:(List (Int × Int)) × (List qaa) × Int × (List Int)):Option qbm:=(cond (iltI p.2.2.1 (Int.ofNat x1.1.length)) (cond (Bool.not (match (@qck (TC.int .i64) (TC.int .i64) p.2.2.1 p.1) with|.none  => false|some v0=>true)) (cond (Nat.ble (Nat.mul (Nat.add p.2.2.2.length 1) 8) 140737488355328) (L18 (p.1,p.2.1,(IntKind.i64.wrap (Int.add p.2.2.1 (Int.ofNat 1))),(List.append p.2.2.2 [(Int.negSucc 0)]))) none) (cond (Nat.ble (Nat.mul (Nat.add p.2.2.2.length 1) 8) 140737488355328) (L18 (p.1,p.2.1,(IntKind.i64.wrap (Int.add p.2.2.1 (Int.ofNat 1))),(List.append p.2.2.2 (List.cons (match (@qck (TC.int .i64) (TC.int .i64) p.2.2.1 p.1) with|.none  => (Int.ofNat 0)|some v29=>v29) [])))) none)) (some ((p.2.1,(S.movedL p.1 x1.2)),(p.2.2.2,()))))
abbrev gz18:Type:=ElA [qai]->Option qbm
abbrev sz18(g:gz18):Sm:=⟨[qai],[(false,qai),(false,(.list (.int .i64)))],g⟩
abbrev Ez18(g:gz18)(J:JT qbm)(lf:Nat)(x1:qac):=qbc Tryz.prog ttT.get qoc fi65.nt (qx3 _ lf) lf qnm J fi65.body [] (qau (argV [qai] (x1,())) 0 .leaf) S0 [] (qar ttT.get fi65 (sz18 g))
abbrev Bz18(g:gz18)(J:JT qbm)(lf k:Nat)(ms:List Nat)(q:NRes):=qbi Tryz.prog ttT.get qoc fi65.nt (qx3 _ lf) lf qnm J k fi65.body [] ms q (qar ttT.get fi65 (sz18 g))
theorem zl3(g:gz18)(J:JT qbm)(lf:Nat)(x1:qac):Ez18 g J lf x1=qws lf x1 (fun q=>J 7 [lf] (qif x1 q)):=by kernel_rfl
theorem zfn(g:gz18)(J:JT qbm)(lf:Nat)(x1:qac)(m1:Nat)(p:(List (Int × Int)) × (List Int) × Int):Bz18 g J lf 7 [m1] (qif x1 p)=qhg lf x1 (fun q=>J 12 [lf] (qj3 x1 q)) (fun q=>J 7 [m1] (qif x1 q)) p:=by kernel_rfl
theorem zxc(g:gz18)(J:JT qbm)(lf:Nat)(x1:qac)(m1:Nat)(p:(List (Int × Int)) × (List Int) × Int × (List qaa)):Bz18 g J lf 12 [m1] (qj3 x1 p)=ql0 lf x1 (fun q=>J 12 [m1] (qj3 x1 q)) (fun q=>J 18 [lf] (qiz x1 q)) p:=by kernel_rfl
theorem zmo(g:gz18)(J:JT qbm)(lf:Nat)(x1:qac)(m1:Nat)(p:(List (Int × Int)) × (List qaa) × Int × (List Int)):Bz18 g J lf 18 [m1] (qiz x1 p)=qod lf x1 (fun q=>J 18 [m1] (qiz x1 q)) p:=by kernel_rfl
theorem qtr:(regs fi65.body).Nodup:=by decide +kernel
theorem quq:okC qoc qnm ze2 fi65.body none=true:=by kernel_rfl
def Az18(g:gz18)(lf:Nat):JT qbm:=atN Tryz.prog ttT.get qoc fi65 (sz18 g) (qx3 _ lf) lf ze2
def qok(lf:Nat)(x1:qac):Nat->((List (Int × Int)) × (List qaa) × Int × (List Int))->Option qbm:=rounds fun K p=>qod lf x1 K p
theorem q4u(g:gz18)(lf:Nat)(x1:qac):∀(n:Nat) (p:(List (Int × Int)) × (List qaa) × Int × (List Int)),Az18 g lf 18 [n] (qiz x1 p)=qok lf x1 n p
 | 0,p=>qax 18 [0] rfl _
 | n+1,p=>by
  have ih:=q4u g lf x1 n;refine(qao (qaj 20 _) qtr quq 18 [n+1] [n] rfl _).trans ((zmo g (Az18 g lf) lf x1 n p).trans ?_);rw[(show (fun q=>Az18 g lf 18 [n] (qiz x1 q))=(fun q=>qok lf x1 n q) from funext ih)];rfl
def qmh(lf:Nat)(x1:qac):Nat->((List (Int × Int)) × (List Int) × Int × (List qaa))->Option qbm:=rounds fun K p=>ql0 lf x1 K (fun q=>qok lf x1 lf q) p
theorem zda(g:gz18)(lf:Nat)(x1:qac):∀(n:Nat) (p:(List (Int × Int)) × (List Int) × Int × (List qaa)),Az18 g lf 12 [n] (qj3 x1 p)=qmh lf x1 n p
 | 0,p=>qax 12 [0] rfl _
 | n+1,p=>by
  have ih:=zda g lf x1 n;refine(qao (qaj 20 _) qtr quq 12 [n+1] [n] rfl _).trans ((zxc g (Az18 g lf) lf x1 n p).trans ?_);rw[(show (fun q=>Az18 g lf 18 [lf] (qiz x1 q))=(fun q=>qok lf x1 lf q) from funext fun q=>q4u g lf x1 lf q),(show (fun q=>Az18 g lf 12 [n] (qj3 x1 q))=(fun q=>qmh lf x1 n q) from funext ih)];rfl
def qt7(lf:Nat)(x1:qac):Nat->((List (Int × Int)) × (List Int) × Int)->Option qbm:=rounds fun K p=>qhg lf x1 (fun q=>qmh lf x1 lf q) K p
theorem zdt(g:gz18)(lf:Nat)(x1:qac):∀(n:Nat) (p:(List (Int × Int)) × (List Int) × Int),Az18 g lf 7 [n] (qif x1 p)=qt7 lf x1 n p
 | 0,p=>qax 7 [0] rfl _
 | n+1,p=>by
  have ih:=zdt g lf x1 n;refine(qao (qaj 20 _) qtr quq 7 [n+1] [n] rfl _).trans ((zfn g (Az18 g lf) lf x1 n p).trans ?_);rw[(show (fun q=>Az18 g lf 12 [lf] (qj3 x1 q))=(fun q=>qmh lf x1 lf q) from funext fun q=>zda g lf x1 lf q),(show (fun q=>Az18 g lf 7 [n] (qif x1 q))=(fun q=>qt7 lf x1 n q) from funext ih)];rfl
def Fz18(lf:Nat)(x1:qac):Option qbm:=qws lf x1 (fun q=>qt7 lf x1 lf q)
theorem zy5(g:gz18)(lf:Nat)(x1:qac):Ez18 g (Az18 g lf) lf x1=Fz18 lf x1:=by
  refine(zl3 g (Az18 g lf) lf x1).trans ?_;rw[(show (fun q=>Az18 g lf 7 [lf] (qif x1 q))=(fun q=>qt7 lf x1 lf q) from funext fun q=>zdt g lf x1 lf q)];rfl
theorem zkk(hrz16:ConR Tryz.prog 103 qty)(hrz17:ConR Tryz.prog 105 qp0):qa1 Tryz.prog zco:=⟨qz2 hrz16,⟨qz2 hrz17,trivial⟩⟩
theorem zpz{g:gz18}(hsm:SmOK Tryz.prog q4l)(hrz16:ConR Tryz.prog 103 qty)(hrz17:ConR Tryz.prog 105 qp0)(hg:∀(x:ElA [qai]) (y:qbm),WfA [qai] x->g x=some y->∃lf,Fz18 lf x.1=some y):Con Tryz.prog 65 ⟨[qai],[(false,qai),(false,(.list (.int .i64)))],g⟩ :=
 conV (st:=qnm) (fun lf x=>Fz18 lf x.1) cm3 zka (zkk hrz16 hrz17) qtr quq (fun lf x=>zy5 g lf x.1) hsm hg
noncomputable def S.canonO(g:qac):Option (qac × List Int × Unit):=Fz18 LF g
noncomputable def zeu:Sm:=⟨[qai],[(false,qai),(false,.list (.int .i64))],fun x=>S.canonO x.1⟩
theorem zql:Con Tryz.prog z2n zeu:=zpz trivial zxl z0x fun x y hx h=>⟨LF,h⟩
def S.tabF:Nat->List Int->List (Int × Int)
 | _,[]=>[]
 | i,n::l=>(n,Int.ofNat i)::S.tabF (i+1) l
def S.tab(o:List Int):List (Int × Int):=S.tabF 0 o
def S.meetL:List Int->List Int->List Int
 | o,[]=>o
 | o,n::l=>if n∈o then S.meetL o l else S.meetL (o++[n]) l
theorem qtc(a b:Int):keqI a b=decide (a=b):=rfl
theorem zmf(e:Int × Int)(es:List (Int × Int))(k:Int):S.numAt (e::es) k=if k=e.1 then some e.2 else S.numAt es k:=by
 show (cond (keqI k e.1) (some e.2) (S.numAt es k))=_;rw[qtc];by_cases h:k=e.1
 ·rw[jal h,jaf h];rfl
 ·rw[jak h,jae h];rfl
theorem ztf(e:Int × Int)(es:List (Int × Int))(k v:Int):S.numSet (e::es) k v=if k=e.1 then (k,v)::es else e::S.numSet es k v:=by
 show (cond (keqI k e.1) ((k,v)::es) (e::S.numSet es k v))=_;rw[qtc];by_cases h:k=e.1
 ·rw[jal h,jaf h];rfl
 ·rw[jak h,jae h];rfl
theorem zcj:∀(o:List Int) (i:Nat) (k:Int),S.numAt (S.tabF i o) k=if k∈o then some (Int.ofNat (i+o.idxOf k)) else none
 | [],i,k=>by simp[S.tabF];rfl
 | n::l,i,k=>by
  simp only[S.tabF,zmf];by_cases h:k=n
  ·subst h;simp
  ·rw[jak h,zcj l (i+1) k];have h':(n==k)=false:=by simpa using fun e=>h e.symm
   by_cases hm:k∈l
   ·rw[jal hm,jal (jbi _ hm),List.idxOf_cons,h',jad,jci,Nat.add_comm 1]
   ·rw[jak hm,jak (by simp[h,hm])]
theorem qzc(o:List Int)(k:Int):S.numAt (S.tab o) k=if k∈o then some (Int.ofNat (o.idxOf k)) else none:=by
 unfold S.tab;rw[zcj,ja5]
theorem q6e:∀(o:List Int) (i:Nat) (k:Int),k ∉ o->S.numSet (S.tabF i o) k (Int.ofNat (i+o.length))=S.tabF i (o++[k])
 | [],i,k,_=>rfl
 | n::l,i,k,h=>by
  simp only[ja4,not_or] at h;simp only[S.tabF,ztf,jdu,jak h.1];congr 1;have:=q6e l (i+1) k h.2;rw[show i+1+l.length=i+(n::l).length by simp;omega] at this;exact this
theorem zi9(o:List Int)(k:Int)(h:k ∉ o):S.numSet (S.tab o) k (Int.ofNat o.length)=S.tab (o++[k]):=by
 have:=q6e o 0 k h
 rwa [ja5] at this
theorem qrc:∀(l o:List Int),(o.length+l.length)*8<=140737488355328->S.meetN l (S.tab o) o=some (S.tab (S.meetL o l),S.meetL o l)
 | [],o,h=>rfl
 | n::l,o,h=>by
  simp only[jbn] at h;simp only[S.meetN,S.meetL,qzc];by_cases hm:n∈o
  ·rw[jal hm,jal hm];exact qrc l o (by omega)
  ·rw[jak hm,jak hm];simp only[je6,jad];rw[jbk (show (o.length+1)*8<=140737488355328 by omega),jaa,zi9 o n hm];exact qrc l (o++[n]) (by simp only[jav,jbn,jcj];omega)
theorem qh0:∀(l o:List Int) (k:Int),k∈S.meetL o l↔k∈o\/k∈l
 | [],o,k=>by simp[S.meetL]
 | n::l,o,k=>by
  simp only[S.meetL];by_cases hm:n∈o
  ·rw[jal hm,qh0 l o k];constructor
   ·rintro(h|h)
    ·exact .inl h
    ·exact .inr (jbi _ h)
   ·rintro(h|h)
    ·exact .inl h
    ·rcases ja4.1 h with rfl|h
     ·exact .inl hm
     ·exact .inr h
  ·rw[jak hm,qh0 l (o++[n]) k];simp only[jbe,ja4,jdw,or_false];constructor
   ·rintro((h|h)|h)
    ·exact .inl h
    ·exact .inr (.inl h)
    ·exact .inr (.inr h)
   ·rintro(h|h|h)
    ·exact .inl (.inl h)
    ·exact .inl (.inr h)
    ·exact .inr h
theorem qqu:∀(l o:List Int),o.Nodup->(S.meetL o l).Nodup
 | [],o,h=>h
 | n::l,o,h=>by
  simp only[S.meetL];by_cases hm:n∈o
  ·rw[jal hm];exact qqu l o h
  ·rw[jak hm];refine qqu l _ (jcf.2 ⟨h,by simp,fun a ha b hb=>?_⟩);rw[jb0.1 hb];exact fun e=>hm (e▸ha)
theorem qpt:∀(l o:List Int),∃t,S.meetL o l=o++t
 | [],o=>⟨[],(jbl _).symm⟩
 | n::l,o=>by
  simp only[S.meetL];by_cases hm:n∈o
  ·rw[jal hm];exact qpt l o
  ·rw[jak hm];obtain⟨t,ht⟩:=qpt l (o++[n]);exact⟨n::t,by rw[ht];simp⟩
theorem qyi(l o:List Int):o.length<=(S.meetL o l).length:=by
 obtain⟨t,ht⟩:=qpt l o;rw[ht];simp
end Go.Proofs.YtcnhjofpmpipfaaGreat
end

section
noncomputable section
namespace Go.Proofs.YtcnhjofpmpipfaaGreat
open Go Go.Sx Go.RowKit Go.Jx
namespace S
open Go.Jx.S
def both(a b:qb7):qb7 × Bool :=
 if b.2.1=1 then (a,true)
 else if a.2.1=1 then ((a.1,b.2.1,b.2.2),true)
 else if a.2.1=2/\b.2.1=3 then ((a.1,1,0),true)
 else if a.2.1=2/\b.2.1=4 then (a,decide (2<=b.2.2))
 else if a.2.1=4/\b.2.1=4 then ((a.1,a.2.1,imin a.2.2 b.2.2),true)
 else if a.2.1=5/\b.2.1=5 then (a,true)
 else if a.2.1=6/\b.2.1=2 then (a,true)
 else if a.2.1=6/\b.2.1=3 then (a,within a.2.2 0 1)
 else if a.2.1=6/\b.2.1=4 then (a,decide (a.2.2<b.2.2))
 else (ql1,false)
def zt9(l:List qb7)(n:ByteArray):Bool:=l.any fun g=>keqS g.1 n
def zhp(g:qb7):Bool:=decide (g.2.1=3)||(decide (g.2.1=4)||decide (g.2.1=5))
def chGo(a:qa7)(mid:List DCol):List qb7->List qb7->Option (List qb7)
 | [],acc=>some acc
 | g::gs,acc =>
  if g.2.1=6\/g.2.1=7 then chGo a mid gs (acc++[g])
  else if (both (at_ ql1 a.2.2 (col mid g.1)) g).2=true then chGo a mid gs (acc++[(both (at_ ql1 a.2.2 (col mid g.1)) g).1])
  else none
def q1x(l:List qb7):List qb7->List DCol->Bool
 | g::gs,c::cs=>cond (zhp g&&!zt9 l c.1) false (q1x l gs cs)
 | _,_=>true
def zw5(a b:qa7)(mid:List DCol):qa7 × Bool:=match chGo a mid b.2.2 [] with
 | none=>(qnq,false)
 | some gs=>if q1x b.2.2 a.2.2 mid=true then ((a.1,b.2.1,gs),true) else (qnq,false)
def zby(mid:List qab)(a b:List qa7):List qab->List qa7->List qa7 × Int
 | [],acc=>(acc,0)
 | f::fs,acc =>
  let x:=(ruleOf a f.1).1
  let c:=zw5 x (ruleOf b x.2.1).1 (colsOf mid x.2.1)
  if c.2=true then zby mid a b fs (acc++[c.1]) else ([],5)
def qwg(l1 l2 l3:List qab)(a b:List qa7):List qa7 × Int :=
 if ¬first [checkForms l1,checkForms l2,checkForms l3]=0 then ([],first [checkForms l1,checkForms l2,checkForms l3])
 else if ¬first [qon l1 l2 a,qon l2 l3 b]=0 then ([],first [qon l1 l2 a,qon l2 l3 b])
 else zby l2 a b l1 []
end S
end Go.Proofs.YtcnhjofpmpipfaaGreat

end
end

noncomputable section
set_option maxRecDepth 100000
namespace Go.Proofs.YtcnhjofpmpipfaaGreat
open Go Go.Sx Go.RowKit Go.Jx
structure ColsOK (cs:List DCol):Prop where
 len:cs.length<=30
 small:∀c∈cs,S.small c.1=true
 one:∀k (h:k<cs.length),S.col (cs.take k) cs[k].1<0
 kind:∀c∈cs,1<=c.2.1/\c.2.1<=3
 bare:∀c∈cs,¬c.2.1=3->c.2.2=S.lit []
structure FormsOK (l:List qab):Prop where
 len:l.length<=24
 cls:∀f∈l,S.class_ f.1=true
 one:∀k (h:k<l.length),S.form (l.take k) l[k].1<0
 cols:∀f∈l,ColsOK f.2
 ref:∀f∈l,∀c∈f.2,c.2.1=3->c.2.2=S.ANY\/0<=S.form l c.2.2
theorem q31{α:Type}{l:List α}{k:Nat}{r:α}{rs:List α}(hd:l.drop k=r::rs):∃h:k<l.length,l[k]=r/\l.drop (k+1)=rs:=by
 have hk:k<l.length:=by
  rcases jbr k l.length with h|h
  ·exact h
  ·rw[jde h] at hd;cases hd
 rw[jbd hk] at hd;exact⟨hk,(jfg hd).1,(jfg hd).2⟩
theorem q37(l:List DCol):∀(cs:List DCol) (k:Nat),l.drop k=cs->S.ccGo l k cs=0->∀j (h:j<l.length),k<=j->S.small l[j].1=true/\S.col (l.take j) l[j].1<0/\S.within l[j].2.1 1 3=true/\(¬l[j].2.1=3->l[j].2.2=S.lit [])
 | [],k,hd,_=>fun j hj hk=>by
  have:l.length<=k:=by simpa using hd
  omega
 | c::r,k,hd,h=>by
  obtain⟨hk,e1,e2⟩:=q31 hd;rw[S.ccGo] at h;cases h1:S.small c.1 with
  | false=>rw[jal h1] at h;exact absurd h (by decide)
  | true =>
  rw[jak (by simp[h1])] at h;by_cases h2:¬S.col (l.take k) c.1<0
  ·rw[jal h2] at h;exact absurd h (by decide)
  rw[jak h2] at h;cases h3:S.within c.2.1 1 3 with
  | false=>rw[jal h3] at h;exact absurd h (by decide)
  | true =>
  rw[jak (by simp[h3])] at h;by_cases h4:¬c.2.1=3/\¬c.2.2=S.lit []
  ·rw[jal h4] at h;exact absurd h (by decide)
  rw[jak h4] at h;intro j hj hkj;by_cases e:j=k
  ·subst e;rw[e1];exact⟨h1,jco.1 h2,h3,fun hn=>jco.1 fun hh=>h4 ⟨hn,hh⟩⟩
  ·exact q37 l r (k+1) e2 h j hj (by omega)
theorem zkn{l:List DCol}(h:S.checkCols l=0):ColsOK l:=by
 unfold S.checkCols at h;by_cases h30:30<l.length
 ·rw[jal h30] at h;exact absurd h (by decide)
 rw[jak h30] at h;have key:=q37 l l 0 rfl h;refine⟨by omega,fun c hc=>?_,fun k hk=>(key k hk (jbm _)).2.1,fun c hc=>?_,fun c hc=>?_⟩;all_goals
  obtain⟨k,hk,rfl⟩:=jbu.1 hc
 ·exact(key k hk (jbm _)).1
 ·simpa only [S.within,jah,ja6] using (key k hk (jbm _)).2.2.1
 ·exact(key k hk (jbm _)).2.2.2
theorem zal(l:List qab):∀fs:List qab,S.cfGo2 l fs=0->∀f∈fs,S.cfIn l f.2=true
 | [],_=>fun f hf=>absurd hf (by simp)
 | f::r,h=>by
  rw[S.cfGo2] at h;by_cases hc:S.cfIn l f.2=true
  ·rw[jal hc] at h;intro x hx;rcases ja4.1 hx with e|e
   ·rw[e];exact hc
   ·exact zal l r h x e
  ·rw[jak hc] at h;exact absurd h (by decide)
theorem zi3{a b c:Int}(h:S.first [a,b,c]=0):a=0/\b=0/\c=0:=by
 simp only[S.first] at h;by_cases ha:a=0
 ·rw[jal ha] at h;by_cases hb:b=0
  ·rw[jal hb] at h;by_cases hc:c=0
   ·exact⟨ha,hb,hc⟩
   ·rw[jak hc] at h;exact absurd h hc
  ·rw[jak hb] at h;exact absurd h hb
 ·rw[jak ha] at h;exact absurd h ha
theorem q1y{x:Bool}{e:Int}(he:¬e=0)(h:S.unlessE x e=0):x=true:=by
 cases x with
 | true=>rfl
 | false=>exact absurd h he
theorem zbq(l:List qab):∀(fs:List qab) (k:Nat),l.drop k=fs->S.cfGo l k fs=0->(∀j (h:j<l.length),k<=j->S.class_ l[j].1=true/\S.form (l.take j) l[j].1<0/\S.checkCols l[j].2=0)/\S.cfGo2 l l=0
 | [],k,hd,h=>⟨fun j hj hk=>by
  have:l.length<=k:=by simpa using hd
  omega,h⟩
 | f::r,k,hd,h=>by
  obtain⟨hk,e1,e2⟩:=q31 hd;rw[S.cfGo] at h;by_cases he:S.first [S.unlessE (S.class_ f.1) 4,S.unlessE (decide (S.form (l.take k) f.1<0)) 6,S.checkCols f.2]=0
  ·rw[jal he] at h;obtain⟨q1,q2,q3⟩:=zi3 he;have ih:=zbq l r (k+1) e2 h;refine⟨fun j hj hkj=>?_,ih.2⟩;by_cases e:j=k
   ·subst e;rw[e1];exact⟨q1y (by decide) q1,ja9 (q1y (by decide) q2),q3⟩
   ·exact ih.1 j hj (by omega)
  ·rw[jak he] at h;exact absurd h he
theorem q88(l:List qab):∀cs:List DCol,S.cfIn l cs=true->∀c∈cs,c.2.1=3->c.2.2=S.ANY\/0<=S.form l c.2.2
 | [],_=>fun c hc=>absurd hc (by simp)
 | c::r,h=>by
  rw[S.cfIn] at h;by_cases hc:c.2.1=3/\¬c.2.2=S.ANY/\S.form l c.2.2<0
  ·rw[jal hc] at h;cases h
  ·rw[jak hc] at h;intro x hx h3;rcases ja4.1 hx with e|e
   ·rw[e] at h3 ⊢;by_cases hA:c.2.2=S.ANY
    ·exact .inl hA
    ·exact .inr (by have:¬S.form l c.2.2<0:=fun hh=>hc ⟨h3,hA,hh⟩;omega)
   ·exact q88 l r h x e h3
theorem zjn{l:List qab}(h:S.checkForms l=0):FormsOK l:=by
 unfold S.checkForms at h;by_cases h24:24<l.length
 ·rw[jal h24] at h;exact absurd h (by decide)
 rw[jak h24] at h;obtain⟨k1,k2⟩:=zbq l l 0 rfl h;have k3:=zal l l k2;refine⟨by omega,fun f hf=>?_,fun k hk=>(k1 k hk (jbm _)).2.1,fun f hf=>?_,fun f hf=>q88 l f.2 (k3 f hf)⟩;all_goals
  obtain⟨k,hk,rfl⟩:=jbu.1 hf
 ·exact(k1 k hk (jbm _)).1
 ·exact zkn (k1 k hk (jbm _)).2.2

theorem zps{α:Type}{p:α->Bool}{l:List α}{x:α}(hx:x∈l)(hp:p x=true):0<=S.idx p l :=
 (S.idx_nonneg p l).2 (jby.2 ⟨x,hx,hp⟩)
theorem zkf{many:Nat}(h:many<=400)(v:DVal):S.value v (Int.ofNat many)=true↔(v.1=1/\-1099511627776<=v.2/\v.2<=1099511627776)\/(v.1=2/\0<=v.2/\v.2<=1)\/(v.1=3/\v.2=0)\/(v.1=4/\0<=v.2/\v.2<many):=by
 have hw:IntKind.i64.wrap (Int.sub (Int.ofNat many) (Int.ofNat 1))=(many:Int)-1:=by
  have:Int.sub (Int.ofNat many) (Int.ofNat 1)=(many:Int)-1:=rfl;rw[this];exact qhx (by omega)
 unfold S.value;rw[hw];simp only[S.within];by_cases h1:v.1=1
 ·simp[h1]
 by_cases h2:v.1=2
 ·simp[h2]
 by_cases h3:v.1=3
 ·simp[h3]
 by_cases h4:v.1=4
 ·simp[h4];omega
 simp[h1,h2,h3,h4]
theorem zqv{g:qac}(h1:g.1.length<=400)(h2:g.2.length<=60)(h3:∀n∈g.1,n.2.length<=30)(h4:∀n∈g.1,∀v∈n.2,S.value v (Int.ofNat g.1.length)=true)(h5:∀v∈g.2,S.value v (Int.ofNat g.1.length)=true/\S.refers v=true):S.formed g=0:=by
 unfold S.formed;rw[jak (by omega),jak,jak,jak]
 ·simp only[jby,not_exists,not_and,jdb,jcn,not_or,jfc];exact fun v hv=>h5 v hv
 ·simp only[jby,not_exists,not_and,jcn,jfc];exact fun n hn v hv=>h4 n hn v hv
 ·simp only[jby,not_exists,not_and,ja6];exact fun n hn=>by have:=h3 n hn;omega
end Go.Proofs.YtcnhjofpmpipfaaGreat
end

section
noncomputable section
namespace Go.Proofs.YtcnhjofpmpipfaaGreat
open Go Go.Sx Go.RowKit Go.Jx
namespace S
open Go.Jx.S
def bkGo(l:List qa7)(was now:List DCol):List qb7->Nat->List qb7->Option (List qb7)
 | [],_,acc=>some acc
 | g::gs,i,acc =>
  if ¬g.2.1=1 then none
  else if ¬(at_ ql1 acc (col was g.1)).2.1=0 then none
  else if keeps l (at_ zCol was (col was g.1)) (at_ zCol now i)=false then none
  else bkGo l was now gs (i+1) (acc.set (col was g.1).toNat ((at_ zCol now i).1,1,0))
def back(l:List qa7)(r:qa7)(was now:List DCol):qa7 × Bool :=
 if ¬was.length=now.length then (qnq,false)
 else match bkGo l was now r.2.2 0 (rep was.length ql1) with
  | none=>(qnq,false)
  | some gs=>((r.2.1,r.1,gs),true)
end S
end Go.Proofs.YtcnhjofpmpipfaaGreat

end
end

noncomputable section
set_option maxRecDepth 100000
namespace Go.Proofs.YtcnhjofpmpipfaaGreat
open Go Go.Sx Go.RowKit Go.Jx
theorem q2o{α:Type}[DecidableEq α]:∀(N M:List α),N.Nodup->(∀x∈N,x∈M)->N.length<=M.length
 | [],M,_,_=>jbm _
 | x::N,M,hN,hs=>by
  rw[jd2] at hN;have hx:=hs x jbx;have ih:=q2o N (M.erase x) hN.2 fun y hy=>(List.mem_erase_of_ne (fun e:y=x=>hN.1 (by rw[<- e];exact hy))).2 (hs y (jbi _ hy));rw[List.length_erase_of_mem hx] at ih;have:0<M.length:=List.length_pos_of_mem hx;simp only[jbn];omega
structure Und (A B:List qab) (l:List qa7) (r q:qa7):Prop where
 cls:q.1=r.2.1
 to:q.2.1=r.1
 n1:r.2.2.length=(S.colsOf A r.1).length
 n2:r.2.2.length=(S.colsOf B r.2.1).length
 n3:q.2.2.length=r.2.2.length
 how:∀i (h:i<r.2.2.length),r.2.2[i].2.1=1
 fwd:∀i (h:i<r.2.2.length),∃(k:Nat) (h1:k<(S.colsOf A r.1).length) (h2:k<q.2.2.length) (h3:i<(S.colsOf B r.2.1).length),S.col (S.colsOf A r.1) r.2.2[i].1=k/\q.2.2[k]=((S.colsOf B r.2.1)[i].1,1,0)/\S.keeps l (S.colsOf A r.1)[k] (S.colsOf B r.2.1)[i]=true
 bwd:∀k (h:k<(S.colsOf A r.1).length),∃(i:Nat) (h1:i<r.2.2.length),S.col (S.colsOf A r.1) r.2.2[i].1=k
structure BackOK (A B:List qab) (l b:List qa7):Prop where
 fa:FormsOK A
 fb:FormsOK B
 ca:S.checkForms A=0
 cb:S.checkForms B=0
 ra:RulesOK A B l
 len:b.length=l.length
 lenB:b.length=B.length
 cls:∀k (h:k<B.length) (h':k<b.length),b[k].1=B[k].1
 und:∀q∈b,∃r∈l,Und A B l r q
 inj:∀r∈l,∀r'∈l,r.2.1=r'.2.1->r=r'
section
variable {A B : List qab} {l b : List qa7}
end
structure GF (g:qac):Prop where
 nodes:List.length (α:=qaa) (g:List qaa × List DVal).1<=400
 roots:List.length (α:=DVal) (g:List qaa × List DVal).2<=60
 vals:∀n∈(g:List qaa × List DVal).1,List.length (α:=DVal) (n:ByteArray × List DVal).2<=30
 ref:∀n∈(g:List qaa × List DVal).1,∀k∈S.refsL (n:ByteArray × List DVal).2,0<=k/\k<Int.ofNat (List.length (α:=qaa) (g:List qaa × List DVal).1)
 rref:∀k∈S.refsL (g:List qaa × List DVal).2,0<=k/\k<Int.ofNat (List.length (α:=qaa) (g:List qaa × List DVal).1)
theorem qwq:∀l:List (Int × Int),(S.refsL l).length<=l.length
 | []=>jaq _
 | v::l=>by
  have:=qwq l;simp only[S.refsL];split<;>simp<;>omega
structure OrdOK (nd:List qaa) (o:List Int):Prop where
 nodup:o.Nodup
 lt:∀k∈o,0<=k/\k<Int.ofNat nd.length
theorem OrdOK.len{nd:List qaa}{o:List Int}(h:OrdOK nd o):o.length<=nd.length:=by
 have:=q2o o ((List.range nd.length).map Int.ofNat) h.nodup fun k hk=>by
  obtain⟨h1,h2⟩:=h.lt k hk;refine jc4.2 ⟨k.toNat,jep.2 ?_,?_⟩
  ·have:(k.toNat:Int)=k:=jee h1;have h2:k<(nd.length:Int):=h2;omega
  ·exact jee h1
 simpa using this
theorem OrdOK.meet{nd:List qaa}{o l:List Int}(h:OrdOK nd o)(hl:∀k∈l,0<=k/\k<Int.ofNat nd.length):OrdOK nd (S.meetL o l) :=
 ⟨qqu l o h.nodup,fun k hk=>by
  rcases(qh0 l o k).1 hk with h1|h1
  ·exact h.lt k h1
  ·exact hl k h1⟩
def S.walk(nd:List qaa):Nat->List Int->Nat->List Int
 | 0,o,_=>o
 | f+1,o,i=>match o[i]? with
  | none=>o
  | some k=>match jget nd k with
   | none=>o
   | some v=>S.walk nd f (S.meetL o (S.refsL (v:ByteArray × List DVal).2)) (i+1)
theorem q50{g:qac}(hg:GF g)(L12:((List (Int × Int)) × (List Int) × Int × (List qaa))->Option qbm):∀(f n i:Nat) (o:List Int),OrdOK (g:List qaa × List DVal).1 o->i<=o.length ->
  List.length (α:=qaa) (g:List qaa × List DVal).1-i<f->List.length (α:=qaa) (g:List qaa × List DVal).1-i<n ->
  rounds (fun K p=>qhg LF g L12 K p) n (S.tab o,o,Int.ofNat i)=L12 (S.tab (S.walk (g:List qaa × List DVal).1 f o i),S.walk (g:List qaa × List DVal).1 f o i,Int.ofNat 0,[])/\OrdOK (g:List qaa × List DVal).1 (S.walk (g:List qaa × List DVal).1 f o i)
 | 0,n,i,o,ho,hi,hf,hn=>by omega
 | f+1,0,i,o,ho,hi,hf,hn=>by omega
 | f+1,n+1,i,o,ho,hi,hf,hn=>by
  have hlen:=ho.len;show qhg LF g L12 (rounds (fun K p=>qhg LF g L12 K p) n) (S.tab o,o,Int.ofNat i)=_/\_;by_cases he:i=o.length
  ·have h1:ieqI (Int.ofNat i) (Int.ofNat o.length)=true:=by rw[qat,he];exact jaf rfl
   have h2:o[i]?=none:=jbc (by omega);simp only[qhg,h1,jaa,S.walk,h2];exact⟨trivial,ho⟩
  ·have hlt:i<o.length:=by omega
   have h1:ieqI (Int.ofNat i) (Int.ofNat o.length)=false:=by rw[qat];exact jae (fun e=>he (jex e))
   have h2:o[i]?=some o[i]:=jab hlt;have h3:jget o (Int.ofNat i)=some o[i]:=by rw[qbz];exact h2
   obtain⟨k1,k2⟩:=ho.lt o[i] (ja3 hlt);obtain⟨v,v1,v2,v3⟩:=qf9 (l:=(g:List qaa × List DVal).1) k1 k2;have e1:Int.toNat (Int.ofNat i)=i:=rfl;have hr:=hg.ref v v3;have hv:=hg.vals v v3;have hn4:=hg.nodes;have hm:=qrc (S.refsL (v:ByteArray × List DVal).2) o (by
    have:=qwq (v:ByteArray × List DVal).2;have hv:List.length (α:=Int × Int) (v:ByteArray × List DVal).2<=30:=hv;omega)
   have hw:IntKind.i64.wrap (Int.add (Int.ofNat i) (Int.ofNat 1))=Int.ofNat (i+1):=qxp (by unfold LF;omega);have hnext:=q50 hg L12 f n (i+1) (S.meetL o (S.refsL (v:ByteArray × List DVal).2)) (ho.meet hr) (by have:=qyi (S.refsL (v:ByteArray × List DVal).2) o;omega) (by omega) (by omega);simp only[qhg,h1,jad,h3,e1,h2,v1,hm,hw,S.walk];exact hnext
def S.nodeAt(nd:List qaa)(k:Int):qaa:=(jget nd k).getD ((ByteArray.empty,[]):ByteArray × List DVal)
def S.newNode(nd:List qaa)(es:List (Int × Int))(k:Int):qaa:=(((S.nodeAt nd k:ByteArray × List DVal).1,S.movedL es (S.nodeAt nd k:ByteArray × List DVal).2):ByteArray × List DVal)
def S.numOr(es:List (Int × Int))(k:Int):Int:=(S.numAt es k).getD (-1)
theorem zv8(g:qac)(es:List (Int × Int))(o:List Int)(L18:((List (Int × Int)) × (List qaa) × Int × (List Int))->Option qbm)(hl:o.length*40<=140737488355328)
  (ho:∀k∈o,0<=k/\k<Int.ofNat (List.length (α:=qaa) (g:List qaa × List DVal).1)) :
  rounds (fun K p=>ql0 LF g K L18 p) LF (es,o,Int.ofNat 0,[])=L18 (es,o.map (S.newNode (g:List qaa × List DVal).1 es),Int.ofNat 0,[]):=by
 refine(range0 (R:=qbm) (σ:=List qaa) o (fun k s=>(es,o,k,s)) (fun k s=>s.length=k) (fun rest k s=>L18 (es,s++rest.map (S.newNode (g:List qaa × List DVal).1 es),Int.ofNat 0,[])) (by unfold LF;omega) (fun K s hI=>?_) (fun K i v rest s hI r hk=>?_) [] rfl).trans ?_
 ·simp only[ql0,qaz,jad,List.map_nil,jbl]
 ·obtain⟨k1,k2⟩:=ho v r.mem;obtain⟨n,n1,n2,n3⟩:=qf9 (l:=(g:List qaa × List DVal).1) k1 k2;have e1:Int.toNat (Int.ofNat i)=i:=rfl;have hlt:=r.lt;have hb:Nat.ble (Nat.mul (Nat.add s.length 1) 40) 140737488355328=true:=jbk (by show (s.length+1)*40<=_;rw[hI];omega);simp only[ql0,r.ilt,jaa,r.get,e1,r.get?,n1,hb,r.next];have hnew:S.newNode (g:List qaa × List DVal).1 es v=(((n:ByteArray × List DVal).1,S.movedL es (n:ByteArray × List DVal).2):ByteArray × List DVal):=by
   unfold S.newNode S.nodeAt;rw[n1];rfl
  have:=hk (s++[S.newNode (g:List qaa × List DVal).1 es v]) (by rw[jav,hI];rfl);rw[hnew] at this;refine jc7 this ?_;rw[jb5,hnew];congr 2;simp
 ·rfl
theorem zkt(g:qac)(es:List (Int × Int))(acc:List qaa)(hl:List.length (α:=qaa) (g:List qaa × List DVal).1<=400) :
  rounds (fun K p=>qod LF g K p) LF (es,acc,Int.ofNat 0,[])=some (((acc,S.movedL es (g:List qaa × List DVal).2):List qaa × List DVal),(((List.range (List.length (α:=qaa) (g:List qaa × List DVal).1)).map fun k=>S.numOr es (Int.ofNat k)),())):=by
 have hlf:List.length (α:=qaa) (g:List qaa × List DVal).1<LF:=by unfold LF;omega
 refine(range0 (R:=qbm) (σ:=List Int) (α:=qaa) (g:List qaa × List DVal).1 (fun k s=>(es,acc,k,s)) (fun k s=>s=(List.range k).map fun j=>S.numOr es (Int.ofNat j))
  (fun _ _ _=>some (((acc,S.movedL es (g:List qaa × List DVal).2):List qaa × List DVal),(((List.range (List.length (α:=qaa) (g:List qaa × List DVal).1)).map fun k=>S.numOr es (Int.ofNat k)),()))) hlf (fun K s hI=>?_) (fun K i v rest s hI r hk=>?_) [] rfl)
 ·simp only[qod,qaz,jad];rw[hI]
 ·have hlt:=r.lt;have hb:Nat.ble (Nat.mul (Nat.add s.length 1) 8) 140737488355328=true:=jbk (by show (s.length+1)*8<=_;rw[hI];simp;omega);have hs:∀q,q=S.numOr es (Int.ofNat i)->s.append [q]=(List.range (i+1)).map fun j=>S.numOr es (Int.ofNat j):=fun q hq=>by
   rw[hI,List.range_succ,jez,hq];rfl
  have hn:S.numAt es (Int.ofNat i)=@qck (TC.int .i64) (TC.int .i64) (Int.ofNat i) es:=rfl;simp only[qod,r.ilt,jaa,hb,r.next];cases hm:@qck (TC.int .i64) (TC.int .i64) (Int.ofNat i) es with
  | none =>
   simp only[jax,jaa];exact hk _ (hs _ (by unfold S.numOr;rw[hn,hm];rfl))
  | some q =>
   simp only[ja1,jad];exact hk _ (hs _ (by unfold S.numOr;rw[hn,hm];rfl))
def S.ord(g:qac):List Int:=S.walk (g:List qaa × List DVal).1 (List.length (α:=qaa) (g:List qaa × List DVal).1+1) (S.meetL [] (S.refsL (g:List qaa × List DVal).2)) 0
def S.canonG(g:qac):qac:=(((S.ord g).map (S.newNode (g:List qaa × List DVal).1 (S.tab (S.ord g))),S.movedL (S.tab (S.ord g)) (g:List qaa × List DVal).2):List qaa × List DVal)
def S.numsG(g:qac):List Int:=(List.range (List.length (α:=qaa) (g:List qaa × List DVal).1)).map fun k=>S.numOr (S.tab (S.ord g)) (Int.ofNat k)
theorem zsb{g:qac}(hg:GF g):S.canonO g=some (S.canonG g,S.numsG g,())/\OrdOK (g:List qaa × List DVal).1 (S.ord g):=by
 have h60:(S.refsL (g:List qaa × List DVal).2).length<=60:=jbf (qwq _) hg.roots;have hm:=qrc (S.refsL (g:List qaa × List DVal).2) [] (by simp;omega);have ho0:OrdOK (g:List qaa × List DVal).1 (S.meetL [] (S.refsL (g:List qaa × List DVal).2)):=OrdOK.meet ⟨jdx,fun k hk=>by cases hk⟩ hg.rref;obtain⟨w1,w2⟩:=q50 hg (fun q=>qmh LF g LF q) (List.length (α:=qaa) (g:List qaa × List DVal).1+1) LF 0 _ ho0 (jbm _) (by omega) (by have:=hg.nodes;unfold LF;omega);refine⟨?_,w2⟩;have hol:=w2.len;have hn4:=hg.nodes;have hl40:(S.ord g).length*40<=140737488355328:=by
  have:(S.ord g).length<=List.length (α:=qaa) (g:List qaa × List DVal).1:=hol;omega
 have e2:=zv8 g (S.tab (S.ord g)) (S.ord g) (fun q=>qok LF g LF q) hl40 w2.lt;have e3:=zkt g (S.tab (S.ord g)) ((S.ord g).map (S.newNode (g:List qaa × List DVal).1 (S.tab (S.ord g)))) hg.nodes;have hm:S.meetN (S.refsL (g:List qaa × List DVal).2) [] []=some (S.tab (S.meetL [] (S.refsL (g:List qaa × List DVal).2)),S.meetL [] (S.refsL (g:List qaa × List DVal).2)):=hm;simp only[S.canonO,Fz18,qws,hm];exact w1.trans (e2.trans e3)



theorem q0m{many:Nat}(h:many<=400):∀(l:List (Int × Int)),(∀v∈l,S.value v (Int.ofNat many)=true)->∀k∈S.refsL l,0<=k/\k<Int.ofNat many
 | [],_,k,hk=>by cases hk
 | v::l,hv,k,hk=>by
  have ih:=q0m h l fun w hw=>hv w (jbi _ hw);simp only[S.refsL] at hk;split at hk
  ·rename_i h4;rcases ja4.1 hk with h1|h1
   ·subst h1;rcases(zkf h v).1 (hv v jbx) with ⟨e,_⟩|⟨e,_⟩|⟨e,_⟩|⟨e,a,b⟩
    ·have e:v.1=1:=e;omega
    ·have e:v.1=2:=e;omega
    ·have e:v.1=3:=e;omega
    ·exact⟨a,b⟩
   ·exact ih k h1
  ·exact ih k hk
theorem zch{g:qac}(h:S.formed g=0):GF g:=by
 obtain⟨f1,f2,f3,f4,f5⟩:=ze1 h;exact⟨f1,f2,f3,fun n hn=>q0m f1 _ (f4 n hn),q0m f1 _ fun v hv=>(f5 v hv).1⟩

theorem qo9{α:Type}{l:List α}{k:Int}{v:α}(h:jget l k=some v):0<=k/\∃hi:k.toNat<l.length,l[k.toNat]=v:=by
 unfold jget at h;split at h
 ·rename_i h0;obtain⟨hi,e⟩:=jau.1 h;exact⟨h0,hi,e⟩
 ·cases h
def qmb:Nat->Option Nm:=fun k=>cond (Nat.beq k 4) (some ⟨[0,1,12,13],[],[],[],[],0,0,false⟩) (none)
def qlc:Nat->Bool:=fun k=>cond (Nat.beq k 4) true (false)
def zbw:=qlc
abbrev qdc:Type:=Bool × Unit
def q80:List (Nat × Sm):=[]
def q7c:List (Nat × Hx):=[]
def qwu(R:Type)(lf:Nat):ClK R:=qay Tryz.prog ttT.get ftT.get (nm1 106 qmb) (smL q80) (hxL q7c) lf 20 R
abbrev zuw:Nat:=106
def qj1(x1:(List DVal))(x2:(List DVal))(p:Int):NRes:=(NRes.mk (.node (some (IV.lst cVal x1)) (.node (some (IV.lst cVal x2)) .leaf (.node none .leaf (.node (some (IV.int .i64 p)) .leaf .leaf))) (.node none (.node none .leaf (.node (some (IV.int .i64 (Int.ofNat x1.length))) .leaf .leaf)) .leaf)) (IS.mk .leaf 0) [] 0)
def qw9(lf:Nat)(x1:(List DVal))(x2:(List DVal))(L4:Int->Option qdc):Option qdc:=(cond (Bool.not (ieqI (Int.ofNat x1.length) (Int.ofNat x2.length))) (some (false,())) (L4 (Int.ofNat 0)))
def qu1(lf:Nat)(x1:(List DVal))(x2:(List DVal))(L4:Int->Option qdc)(p:Int):Option qdc:=(cond (iltI p (Int.ofNat x1.length)) (match (jget x1 p) with|none=>none|some v0=>(match (jget x2 p) with|none=>none|some v1=>(cond (Bool.not (Bool.and (keqI v0.1 v1.1) (Bool.and (keqI v0.2 v1.2) true))) (some (false,())) (L4 (IntKind.i64.wrap (Int.add p (Int.ofNat 1))))))) (some (true,())))
abbrev gz19:Type:=ElA [(.list cVal),(.list cVal)]->Option qdc
abbrev sz19(g:gz19):Sm:=⟨[(.list cVal),(.list cVal)],[(false,.bool)],g⟩
abbrev Ez19(g:gz19)(J:JT qdc)(lf:Nat)(x1:(List DVal))(x2:(List DVal)):=qbc Tryz.prog ttT.get qmb qd9.nt (qwu _ lf) lf qlc J qd9.body [] (qau (argV [(.list cVal),(.list cVal)] (x1,x2,())) 0 .leaf) S0 [] (qar ttT.get qd9 (sz19 g))
abbrev Bz19(g:gz19)(J:JT qdc)(lf k:Nat)(ms:List Nat)(q:NRes):=qbi Tryz.prog ttT.get qmb qd9.nt (qwu _ lf) lf qlc J k qd9.body [] ms q (qar ttT.get qd9 (sz19 g))
theorem ztk(g:gz19)(J:JT qdc)(lf:Nat)(x1:(List DVal))(x2:(List DVal)):Ez19 g J lf x1 x2=qw9 lf x1 x2 (fun q=>J 4 [lf] (qj1 x1 x2 q)):=by kernel_rfl
theorem zlz(g:gz19)(J:JT qdc)(lf:Nat)(x1:(List DVal))(x2:(List DVal))(m1:Nat)(p:Int):Bz19 g J lf 4 [m1] (qj1 x1 x2 p)=qu1 lf x1 x2 (fun q=>J 4 [m1] (qj1 x1 x2 q)) p:=by kernel_rfl
theorem q9d:(regs qd9.body).Nodup:=by decide +kernel
theorem q6k:okC qmb qlc zbw qd9.body none=true:=by kernel_rfl
def Az19(g:gz19)(lf:Nat):JT qdc:=atN Tryz.prog ttT.get qmb qd9 (sz19 g) (qwu _ lf) lf zbw
def qrh(lf:Nat)(x1:(List DVal))(x2:(List DVal)):Nat->(Int)->Option qdc:=rounds fun K p=>qu1 lf x1 x2 K p
theorem q1v(g:gz19)(lf:Nat)(x1:(List DVal))(x2:(List DVal)):∀(n:Nat) (p:Int),Az19 g lf 4 [n] (qj1 x1 x2 p)=qrh lf x1 x2 n p
 | 0,p=>qax 4 [0] rfl _
 | n+1,p=>by
  have ih:=q1v g lf x1 x2 n;refine(qao (qaj 20 _) q9d q6k 4 [n+1] [n] rfl _).trans ((zlz g (Az19 g lf) lf x1 x2 n p).trans ?_);rw[(show (fun q=>Az19 g lf 4 [n] (qj1 x1 x2 q))=(fun q=>qrh lf x1 x2 n q) from funext ih)];rfl
def Fz19(lf:Nat)(x1:(List DVal))(x2:(List DVal)):Option qdc:=qw9 lf x1 x2 (fun q=>qrh lf x1 x2 lf q)
theorem zs4(g:gz19)(lf:Nat)(x1:(List DVal))(x2:(List DVal)):Ez19 g (Az19 g lf) lf x1 x2=Fz19 lf x1 x2:=by
  refine(ztk g (Az19 g lf) lf x1 x2).trans ?_;rw[(show (fun q=>Az19 g lf 4 [lf] (qj1 x1 x2 q))=(fun q=>qrh lf x1 x2 lf q) from funext fun q=>q1v g lf x1 x2 lf q)];rfl
theorem zfu:qa1 Tryz.prog q7c:=trivial
theorem zzs{g:gz19}(hsm:SmOK Tryz.prog q80)(hg:∀(x:ElA [(.list cVal),(.list cVal)]) (y:qdc),WfA [(.list cVal),(.list cVal)] x->g x=some y->∃lf,Fz19 lf x.1 x.2.1=some y):Con Tryz.prog 106 ⟨[(.list cVal),(.list cVal)],[(false,.bool)],g⟩ :=
 conV (st:=qlc) (fun lf x=>Fz19 lf x.1 x.2.1) cm3 zj1 zfu q9d q6k (fun lf x=>zs4 g lf x.1 x.2.1) hsm hg
def S.eqVal(a b:DVal):Bool:=keqI (a:Int × Int).1 (b:Int × Int).1&&(keqI (a:Int × Int).2 (b:Int × Int).2&&true)
def S.eqVals:List DVal->List DVal->Bool
 | [],[]=>true
 | a::x,b::y=>S.eqVal a b&&S.eqVals x y
 | _,_=>false
theorem q2q:∀{a b:List DVal},S.eqVals a b=true->a.length=b.length
 | [],[],_=>rfl
 | [],_::_,h=>by cases h
 | _::_,[],h=>by cases h
 | a::x,b::y,h=>by
  simp only[S.eqVals,jah] at h;simp[q2q h.2]
def qwn:Sm:=⟨[.list cVal,.list cVal],[(false,.bool)],fun x=>some (S.eqVals x.1 x.2.1,())⟩
theorem znf(a b:List DVal)(ha:a.length<LF):Fz19 LF a b=some (S.eqVals a b,()):=by
 simp only[Fz19,qw9];by_cases hl:a.length=b.length
 ·have h1:ieqI (Int.ofNat a.length) (Int.ofNat b.length)=true:=by rw[qat];exact jaf (by rw[hl])
  simp only[h1,ja1,jad];refine(qbv (R:=qdc) a (fun rest i=>some (S.eqVals rest (b.drop i),())) ha (fun K=>?_) (fun K i v rest r hk=>?_)).trans ?_
  ·simp only[qu1,qaz,jad];rw[hl,jea];rfl
  ·have hi:i<b.length:=by rw[<- hl];exact r.lt
   have hj:jget b (Int.ofNat i)=some b[i]:=by rw[qbz];exact jab hi
   have hd:b.drop i=b[i]::b.drop (i+1):=jbd hi;simp only[qu1,r.ilt,jaa,r.get,hj,r.next];rw[hd];show (cond (Bool.not (S.eqVal v b[i])) (some (false,())) (K (Int.ofNat (i+1))))=some (S.eqVal v b[i]&&S.eqVals rest (b.drop (i+1)),());cases S.eqVal v b[i] with
   | false=>rfl
   | true=>exact hk
  ·rw[jck]
 ·have h1:ieqI (Int.ofNat a.length) (Int.ofNat b.length)=false:=by rw[qat];exact jae (fun e=>hl (jex e))
  simp only[h1,jax,jaa];have:S.eqVals a b=false:=by
   cases he:S.eqVals a b with
   | false=>rfl
   | true=>exact absurd (q2q he) hl
  rw[this]
theorem q4b:Con Tryz.prog zuw qwn:=zzs trivial fun x y hx h=>⟨LF,by
 obtain⟨a,b,_⟩:=x;exact(znf a b (qbj hx.1)).trans h⟩
def qn2:Nat->Option Nm:=fun k=>cond (Nat.beq k 4) (some ⟨[1,2,15,16,17],[],[],[],[],0,0,false⟩) (cond (Nat.beq k 999999) (some ⟨[],[],[],[],[],0,0,false⟩) none)
def qph:Nat->Bool:=fun k=>cond (Nat.beq k 4) true (false)
def qv1:=qph
abbrev qc5:Type:=(Bool × Unit) × Unit
def qwl:List (Nat × Sm):=[(106,qwn)]
def qvz:List (Nat × Hx):=[]
def qzi(R:Type)(lf:Nat):ClK R:=qay Tryz.prog ttT.get ftT.get (fun _ _=>none) (smL qwl) (hxL qvz) lf 20 R
abbrev zjs:Nat:=107
def qkh(x1:(List qaa))(x2:(List qaa))(p:Int):NRes:=(NRes.mk (.node none (.node (some (IV.lst qaf x2)) (.node none (.node none (.node (some (IV.lst qaf x1)) .leaf .leaf) .leaf) .leaf) (.node none (.node none (.node (some (IV.int .i64 p)) .leaf .leaf) .leaf) .leaf)) (.node (some (IV.fn 108 [])) (.node none (.node none (.node (some (IV.int .i64 (Int.ofNat x1.length))) .leaf .leaf) .leaf) .leaf) .leaf)) (IS.mk .leaf 0) [] 0)
def qxd(lf:Nat)(x1:(List qaa))(x2:(List qaa))(L4:Int->Option qc5):Option qc5:=(cond (Bool.not (ieqI (Int.ofNat x1.length) (Int.ofNat x2.length))) (some ((false,()),())) (L4 (Int.ofNat 0)))
def qqj(lf:Nat)(x1:(List qaa))(x2:(List qaa))(L4:Int->Option qc5)(p:Int):Option qc5:=(cond (iltI p (Int.ofNat x1.length)) (match (jget x1 p) with|none=>none|some v0=>(match (jget x2 p) with|none=>none|some v1=>(cond (keqS v0.1 v1.1) (cond (Bool.not (S.eqVals v0.2 v1.2)) (some ((false,()),())) (L4 (IntKind.i64.wrap (Int.add p (Int.ofNat 1))))) (some ((false,()),()))))) (some ((true,()),())))
abbrev gz20:Type:=ElP [.dat (.list qaf),.dat (.list qaf),.fn 108]->Option qc5
abbrev sz20(g:gz20):SmR:=⟨[.dat (.list qaf),.dat (.list qaf),.fn 108],[(false,.bool)],g⟩
abbrev Ez20(g:gz20)(J:JT qc5)(lf:Nat)(x1:(List qaa))(x2:(List qaa)):=qbx Tryz.prog ttT.get qn2 (mP [.dat (.list qaf),.dat (.list qaf),.fn 108]) qel.nt (qzi _ lf) lf qph J qel.body [] (qau (qan [.dat (.list qaf),.dat (.list qaf),.fn 108] idN 0 (x1,x2,())) 0 .leaf) (Sc [.dat (.list qaf),.dat (.list qaf),.fn 108] (x1,x2,())) [] (qdl ttT.get qel (sz20 g))
abbrev Bz20(g:gz20)(J:JT qc5)(lf k:Nat)(ms:List Nat)(q:NRes):=qbo Tryz.prog ttT.get qn2 (mP [.dat (.list qaf),.dat (.list qaf),.fn 108]) qel.nt (qzi _ lf) lf qph J k qel.body [] ms q (qdl ttT.get qel (sz20 g))
theorem zyo(g:gz20)(J:JT qc5)(lf:Nat)(x1:(List qaa))(x2:(List qaa)):Ez20 g J lf x1 x2=qxd lf x1 x2 (fun q=>J 4 [lf] (qkh x1 x2 q)):=by kernel_rfl
theorem zs7(g:gz20)(J:JT qc5)(lf:Nat)(x1:(List qaa))(x2:(List qaa))(m1:Nat)(p:Int):Bz20 g J lf 4 [m1] (qkh x1 x2 p)=qqj lf x1 x2 (fun q=>J 4 [m1] (qkh x1 x2 q)) p:=by kernel_rfl
theorem zcl:(regs qel.body).Nodup:=by decide +kernel
theorem q4s:okC qn2 qph qv1 qel.body none=true:=by kernel_rfl
def Az20(g:gz20)(lf:Nat):JT qc5:=atQ Tryz.prog ttT.get qn2 qel (sz20 g) (qzi _ lf) lf qv1
def qqv(lf:Nat)(x1:(List qaa))(x2:(List qaa)):Nat->(Int)->Option qc5:=rounds fun K p=>qqj lf x1 x2 K p
theorem zcp(g:gz20)(lf:Nat)(x1:(List qaa))(x2:(List qaa)):∀(n:Nat) (p:Int),Az20 g lf 4 [n] (qkh x1 x2 p)=qqv lf x1 x2 n p
 | 0,p=>q19 4 [0] rfl _
 | n+1,p=>by
  have ih:=zcp g lf x1 x2 n;refine(zbo rfl (qaj 20 _) zcl q4s 4 [n+1] [n] rfl _).trans ((zs7 g (Az20 g lf) lf x1 x2 n p).trans ?_);rw[(show (fun q=>Az20 g lf 4 [n] (qkh x1 x2 q))=(fun q=>qqv lf x1 x2 n q) from funext ih)];rfl
def Fz20(lf:Nat)(x1:(List qaa))(x2:(List qaa)):Option qc5:=qxd lf x1 x2 (fun q=>qqv lf x1 x2 lf q)
theorem zu8(g:gz20)(lf:Nat)(x1:(List qaa))(x2:(List qaa)):Ez20 g (Az20 g lf) lf x1 x2=Fz20 lf x1 x2:=by
  refine(zyo g (Az20 g lf) lf x1 x2).trans ?_;rw[(show (fun q=>Az20 g lf 4 [lf] (qkh x1 x2 q))=(fun q=>qqv lf x1 x2 lf q) from funext fun q=>zcp g lf x1 x2 lf q)];rfl
theorem zlg:qa1 Tryz.prog qvz:=trivial
theorem zt5{g:gz20}(hsm:SmOK Tryz.prog qwl)(hg:∀(x:ElP [.dat (.list qaf),.dat (.list qaf),.fn 108]) (y:qc5),WfP [.dat (.list qaf),.dat (.list qaf),.fn 108] x->g x=some y->∃lf,Fz20 lf x.1 x.2.1=some y):ConR Tryz.prog 107 ⟨[.dat (.list qaf),.dat (.list qaf),.fn 108],[(false,.bool)],g⟩ :=
 conTR (nmf:=qn2) (sml:=qwl) (hxl:=qvz) (st:=qph) (hd:=qv1) 20 qd5 ttOK ftOK hsm zlg zhc (by kernel_rfl) (fun x=>by kernel_rfl) zcl q4s fun x y z hx hy=>by
  obtain⟨lf,h⟩:=hg x (y,z) hx hy;exact⟨lf,(zu8 g lf x.1 x.2.1).trans h⟩
def S.eqNode(a b:qaa):Bool:=keqS (a:ByteArray × List DVal).1 (b:ByteArray × List DVal).1&&S.eqVals (a:ByteArray × List DVal).2 (b:ByteArray × List DVal).2
def S.eqNodes:List qaa->List qaa->Bool
 | [],[]=>true
 | a::x,b::y=>S.eqNode a b&&S.eqNodes x y
 | _,_=>false
theorem zew:∀{a b:List qaa},S.eqNodes a b=true->a.length=b.length
 | [],[],_=>rfl
 | [],_::_,h=>by cases h
 | _::_,[],h=>by cases h
 | a::x,b::y,h=>by
  simp only[S.eqNodes,jah] at h;simp[zew h.2]
def qu8:SmR:=⟨[.dat (.list qaf),.dat (.list qaf),.fn 108],[(false,.bool)],fun x=>some ((S.eqNodes x.1 x.2.1,()),())⟩
theorem zp9(a b:List qaa)(ha:a.length<LF):Fz20 LF a b=some ((S.eqNodes a b,()),()):=by
 simp only[Fz20,qxd];by_cases hl:a.length=b.length
 ·have h1:ieqI (Int.ofNat a.length) (Int.ofNat b.length)=true:=by rw[qat];exact jaf (by rw[hl])
  simp only[h1,ja1,jad];refine(qbv (R:=qc5) a (fun rest i=>some ((S.eqNodes rest (b.drop i),()),())) ha (fun K=>?_) (fun K i v rest r hk=>?_)).trans ?_
  ·simp only[qqj,qaz,jad];rw[hl,jea];rfl
  ·have hi:i<b.length:=by rw[<- hl];exact r.lt
   have hj:jget b (Int.ofNat i)=some b[i]:=by rw[qbz];exact jab hi
   have hd:b.drop i=b[i]::b.drop (i+1):=jbd hi;simp only[qqj,r.ilt,jaa,r.get,hj,r.next];rw[hd];show _=some ((S.eqNode v b[i]&&S.eqNodes rest (b.drop (i+1)),()),());unfold S.eqNode;cases keqS (v:ByteArray × List DVal).1 (b[i]:ByteArray × List DVal).1 with
   | false=>rfl
   | true =>
    show (cond (Bool.not (S.eqVals (v:ByteArray × List DVal).2 (b[i]:ByteArray × List DVal).2)) (some ((false,()),())) (K (Int.ofNat (i+1))))=some (((true&&S.eqVals (v:ByteArray × List DVal).2 (b[i]:ByteArray × List DVal).2)&&S.eqNodes rest (b.drop (i+1)),()),());cases S.eqVals (v:ByteArray × List DVal).2 (b[i]:ByteArray × List DVal).2 with
    | false=>rfl
    | true=>exact hk
  ·rw[jck]
 ·have h1:ieqI (Int.ofNat a.length) (Int.ofNat b.length)=false:=by rw[qat];exact jae (fun e=>hl (jex e))
  simp only[h1,jax,jaa];have:S.eqNodes a b=false:=by
   cases he:S.eqNodes a b with
   | false=>rfl
   | true=>exact absurd (zew he) hl
  rw[this]
theorem zmx:ConR Tryz.prog zjs qu8:=zt5 ⟨q4b,trivial⟩ fun x y hx h=>⟨LF,by
 obtain⟨a,b,_⟩:=x;exact(zp9 a b (qbj hx.1)).trans h⟩
def q9t:List (Nat × Hx):=[(107,hxR qu8)]
abbrev qn3:Type:=Bool × Unit
abbrev zh0:Nat:=66
def zyv(lf:Nat)(x1:qac)(x2:qac):Option qn3:=(cond (S.eqVals x1.2 x2.2) (some ((S.eqNodes x1.1 x2.1),())) (some (false,())))
def q6y(lf:Nat)(x1:qac)(x2:qac):Option qn3:=zyv lf x1 x2
theorem zpq(hrz20:ConR Tryz.prog 107 qu8):qa1 Tryz.prog q9t:=⟨qz2 hrz20,trivial⟩
theorem zxg{g:ElA [qai,qai]->Option qn3}(hsm:SmOK Tryz.prog [(106,qwn)])(hrz20:ConR Tryz.prog 107 qu8)(hg:∀(x:ElA [qai,qai]) (y:qn3),WfA [qai,qai] x->g x=some y->∃lf,q6y lf x.1 x.2.1=some y):Con Tryz.prog 66 ⟨[qai,qai],[(false,.bool)],g⟩ :=
 conU (fi:=fi66) (hxl:=q9t) (fun lf x=>q6y lf x.1 x.2.1) cm3 zos (zpq hrz20) hsm hg

def S.eqGraph(a b:qac):Bool:=S.eqVals (a:List qaa × List DVal).2 (b:List qaa × List DVal).2&&S.eqNodes (a:List qaa × List DVal).1 (b:List qaa × List DVal).1
def zdb:Sm:=⟨[qai,qai],[(false,.bool)],fun x=>some (S.eqGraph x.1 x.2.1,())⟩
theorem zqb:Con Tryz.prog zh0 zdb:=zxg ⟨q4b,trivial⟩ zmx fun x y hx h=>⟨0,by
 obtain⟨a,b,_⟩:=x;refine jc7 ?_ h;show (cond (S.eqVals (a:List qaa × List DVal).2 (b:List qaa × List DVal).2) (some ((S.eqNodes (a:List qaa × List DVal).1 (b:List qaa × List DVal).1),())) (some (false,())):Option qn3)=some (S.eqGraph a b,());unfold S.eqGraph;cases S.eqVals (a:List qaa × List DVal).2 (b:List qaa × List DVal).2<;>rfl⟩
theorem q0n:∀l:List DVal,S.eqVals l l=true
 | []=>rfl
 | v::l=>by
  simp only[S.eqVals,q0n l,jcy];unfold S.eqVal;rw[qtc,qtc];simp
theorem zaa:∀l:List qaa,S.eqNodes l l=true
 | []=>rfl
 | v::l=>by
  simp only[S.eqNodes,zaa l,jcy];unfold S.eqNode;rw[q0n,jcy];show decide (_=_)=true;exact jaf rfl
theorem zq9(g:qac):S.eqGraph g g=true:=by
 unfold S.eqGraph;rw[q0n,zaa];rfl



def q0h(nd:List qaa)(o:List Int):Prop:=∀a∈o,∀k∈S.refsL (S.nodeAt nd a:ByteArray × List DVal).2,k∈o
theorem q4e{y:List qaa × List DVal}(hg:GF y):∀(f:Nat) (o:List Int) (i:Nat),OrdOK y.1 o->i<=o.length->y.1.length-i<f->(∀j (h:j<o.length),j<i->∀k∈S.refsL (S.nodeAt y.1 o[j]:ByteArray × List DVal).2,k∈o) ->
  OrdOK y.1 (S.walk y.1 f o i)/\q0h y.1 (S.walk y.1 f o i)/\∀k∈o,k∈S.walk y.1 f o i
 | 0,_,_,_,_,h,_=>by omega
 | f+1,o,i,ho,hi,h1,hc=>by
  simp only[S.walk];cases hk:o[i]? with
  | none =>
   have hie:o.length<=i:=List.getElem?_eq_none_iff.1 hk;refine⟨ho,fun a ha k hk2=>?_,fun k hk=>hk⟩;obtain⟨j,hj,rfl⟩:=jbu.1 ha;exact hc j hj (jba hj hie) k hk2
  | some k =>
   obtain⟨hi,hik⟩:=jau.1 hk;have hlen:=ho.len;obtain⟨k1,k2⟩:=ho.lt k (ja8 hk);obtain⟨v,v1,v2,v3⟩:=qf9 (l:=y.1) k1 k2;simp only[v1];have hnv:S.nodeAt y.1 k=v:=by unfold S.nodeAt;rw[v1];rfl
   obtain⟨t,ht⟩:=qpt (S.refsL (v:ByteArray × List DVal).2) o;have hl2:=qyi (S.refsL (v:ByteArray × List DVal).2) o;obtain⟨r1,r2,r3⟩:=q4e hg f (S.meetL o (S.refsL (v:ByteArray × List DVal).2)) (i+1) (ho.meet (hg.ref v v3)) (by omega) (by omega) fun j hj hji k' hk'=>by
    have hjo:j<o.length:=by omega
    have e:(S.meetL o (S.refsL (v:ByteArray × List DVal).2))[j]=o[j]:=by
     simp only[ht];exact jb8 hjo
    rw[e] at hk';refine(qh0 _ _ _).2 ?_;by_cases hje:j<i
    ·exact .inl (hc j hjo hje k' hk')
    ·have:j=i:=by omega
     subst this;rw[hik,hnv] at hk';exact .inr hk'
   exact⟨r1,r2,fun a ha=>r3 a ((qh0 _ _ _).2 (.inl ha))⟩
theorem zp7{y:List qaa × List DVal}(hg:GF y):OrdOK y.1 (S.ord y)/\q0h y.1 (S.ord y)/\∀k∈S.refsL y.2,k∈S.ord y:=by
 have ho:OrdOK y.1 (S.meetL [] (S.refsL y.2)):=⟨qqu _ _ jdx,fun a ha=>by
  rcases(qh0 _ _ a).1 ha with h1|h1
  ·cases h1
  ·exact hg.rref a h1⟩
 obtain⟨r1,r2,r3⟩:=q4e hg (y.1.length+1) (S.meetL [] (S.refsL y.2)) 0 ho (jbm _) (by omega) (fun j h h'=>by omega);exact⟨r1,r2,fun k hk=>r3 k ((qh0 _ _ _).2 (.inr hk))⟩
theorem qqa{l:List (Int × Int)}{v:Int × Int}(hv:v∈l)(h4:v.1=4):v.2∈S.refsL l:=by
 induction l with
 | nil=>cases hv
 | cons w l ih =>
  simp only[S.refsL];rcases ja4.1 hv with rfl|hv
  ·rw[jal h4];exact jbx
  ·split
   ·exact jbi _ (ih hv)
   ·exact ih hv
end Go.Proofs.YtcnhjofpmpipfaaGreat
end

section
namespace Go.Jx
open Go Go.Sx Go.RowKit
universe u

section
variable {P : Program} {tt : Nat -> Option TI} {ft : Nat -> Option FI}
end
end Go.Jx
end

noncomputable section
set_option maxRecDepth 100000
namespace Go.Proofs.YtcnhjofpmpipfaaGreat
open Go Go.Sx Go.RowKit Go.Jx
abbrev zpe:Type:=qac × List Int × Int
namespace S
def numU:Nat->Int->List Int
 | 0,u=>[u]
 | f+1,u=>if u<128 then [u] else (128+u % 128)::numU f (u / 128)
def num(n:Int):List Int:=numU 10 (if n<0 then -2*n-1 else 2*n)
def sumStep(s v:Int):Int:=Int.tmod (IntKind.i64.wrap (Int.add (IntKind.i64.wrap (Int.mul (Int.ofNat 31) s)) (IntKind.i64.wrap v))) (Int.ofNat 2147483647)
def sumI(b:List Int):Int:=b.foldl sumStep 1
def sum4I(s:Int):List Int:=[IntKind.u8.wrap (Int.fdiv s (Int.ofNat 16777216)),IntKind.u8.wrap (Int.fdiv s (Int.ofNat 65536)),IntKind.u8.wrap (Int.fdiv s (Int.ofNat 256)),IntKind.u8.wrap s]
def sum4(b:List Int):List Int:=sum4I (sumI b)
def code(v:Int × Int):Int:=if v.1=3 then 0 else if v.1=4 then IntKind.i64.wrap (v.2+1) else v.2
def q71(l:List (Int × Int)):List Int:=l.flatMap fun v=>num (code v)
def encN(l:List qab)(n:ByteArray × List (Int × Int)):List Int:=num (S.form l n.1)++q71 n.2
def enc(l:List qab)(g:List qaa × List DVal):List Int:=num (Int.ofNat g.1.length)++(g.1.flatMap (encN l)++(num (Int.ofNat g.2.length)++q71 g.2))
end S
def zdk:Sm:=⟨[qai],[(false,q0f)],fun x=>cond (ieqI (S.formed x.1) (Int.ofNat 0)) (some ((S.canonG x.1,S.numsG x.1,Int.ofNat 0),())) none⟩
def zdn:Sm:=⟨[.list (.int .u8)],[(false,.int .i64)],fun x=>some (S.sumI x.1,())⟩
def qz8:Sm:=⟨[.list (.int .u8)],[(false,.list (.int .u8))],fun x=>cond (Nat.ble (List.length (α:=Int) x.1+100) 140737488355328) (some (List.append (α:=Int) x.1 (S.sum4 x.1),())) none⟩
def qls:Nat->Option Nm:=fun k=>cond (Nat.beq k 3) (some ⟨[3,6,7,8],[],[],[],[],0,0,false⟩) (none)
def qoq:Nat->Bool:=fun k=>cond (Nat.beq k 3) true (false)
def za5:=qoq
abbrev qdb:Type:=(List Int) × Unit
def q1n:List (Nat × Sm):=[]
def zcn:List (Nat × Hx):=[]
def qzd(R:Type)(lf:Nat):ClK R:=qay Tryz.prog ttT.get ftT.get (nm1 62 qls) (smL q1n) (hxL zcn) lf 20 R
abbrev zx4:Nat:=62
def qj6(x1:(List Int))(p:Int × Int):NRes:=(NRes.mk (.node none (.node none (.node (some (IV.int .i64 p.1)) (.node (some (IV.int .i64 (Int.ofNat x1.length))) .leaf .leaf) .leaf) .leaf) (.node none (.node none (.node (some (IV.int .i64 p.2)) .leaf .leaf) .leaf) (.node (some (IV.lst (TC.int .u8) x1)) .leaf .leaf))) (IS.mk .leaf 0) [] 0)
def qvp(lf:Nat)(x1:(List Int))(L3:(Int × Int)->Option qdb):Option qdb:=(L3 ((Int.ofNat 1),(Int.ofNat 0)))
def qtq(lf:Nat)(x1:(List Int))(L3:(Int × Int)->Option qdb)(p:Int × Int):Option qdb:=(cond (iltI p.2 (Int.ofNat x1.length)) (match (jget x1 p.2) with|none=>none|some v0=>(L3 ((Int.tmod (IntKind.i64.wrap (Int.add (IntKind.i64.wrap (Int.mul (Int.ofNat 31) p.1)) (IntKind.i64.wrap v0))) (Int.ofNat 2147483647)),(IntKind.i64.wrap (Int.add p.2 (Int.ofNat 1)))))) (some ((List.cons (IntKind.u8.wrap (Int.fdiv p.1 (Int.ofNat 16777216))) (List.cons (IntKind.u8.wrap (Int.fdiv p.1 (Int.ofNat 65536))) (List.cons (IntKind.u8.wrap (Int.fdiv p.1 (Int.ofNat 256))) [(IntKind.u8.wrap p.1)]))),())))
abbrev gz21:Type:=ElA [(.list (.int .u8))]->Option qdb
abbrev sz21(g:gz21):Sm:=⟨[(.list (.int .u8))],[(false,(.list (.int .u8)))],g⟩
abbrev Ez21(g:gz21)(J:JT qdb)(lf:Nat)(x1:(List Int)):=qbc Tryz.prog ttT.get qls fi62.nt (qzd _ lf) lf qoq J fi62.body [] (qau (argV [(.list (.int .u8))] (x1,())) 0 .leaf) S0 [] (qar ttT.get fi62 (sz21 g))
abbrev Bz21(g:gz21)(J:JT qdb)(lf k:Nat)(ms:List Nat)(q:NRes):=qbi Tryz.prog ttT.get qls fi62.nt (qzd _ lf) lf qoq J k fi62.body [] ms q (qar ttT.get fi62 (sz21 g))
theorem zr0(g:gz21)(J:JT qdb)(lf:Nat)(x1:(List Int)):Ez21 g J lf x1=qvp lf x1 (fun q=>J 3 [lf] (qj6 x1 q)):=by kernel_rfl
theorem zlx(g:gz21)(J:JT qdb)(lf:Nat)(x1:(List Int))(m1:Nat)(p:Int × Int):Bz21 g J lf 3 [m1] (qj6 x1 p)=qtq lf x1 (fun q=>J 3 [m1] (qj6 x1 q)) p:=by kernel_rfl
theorem q53:(regs fi62.body).Nodup:=by decide +kernel
theorem q42:okC qls qoq za5 fi62.body none=true:=by kernel_rfl
def Az21(g:gz21)(lf:Nat):JT qdb:=atN Tryz.prog ttT.get qls fi62 (sz21 g) (qzd _ lf) lf za5
def qld(lf:Nat)(x1:(List Int)):Nat->(Int × Int)->Option qdb:=rounds fun K p=>qtq lf x1 K p
theorem q72(g:gz21)(lf:Nat)(x1:(List Int)):∀(n:Nat) (p:Int × Int),Az21 g lf 3 [n] (qj6 x1 p)=qld lf x1 n p
 | 0,p=>qax 3 [0] rfl _
 | n+1,p=>by
  have ih:=q72 g lf x1 n;refine(qao (qaj 20 _) q53 q42 3 [n+1] [n] rfl _).trans ((zlx g (Az21 g lf) lf x1 n p).trans ?_);rw[(show (fun q=>Az21 g lf 3 [n] (qj6 x1 q))=(fun q=>qld lf x1 n q) from funext ih)];rfl
def Fz21(lf:Nat)(x1:(List Int)):Option qdb:=qvp lf x1 (fun q=>qld lf x1 lf q)
theorem zv2(g:gz21)(lf:Nat)(x1:(List Int)):Ez21 g (Az21 g lf) lf x1=Fz21 lf x1:=by
  refine(zr0 g (Az21 g lf) lf x1).trans ?_;rw[(show (fun q=>Az21 g lf 3 [lf] (qj6 x1 q))=(fun q=>qld lf x1 lf q) from funext fun q=>q72 g lf x1 lf q)];rfl
theorem zr7:qa1 Tryz.prog zcn:=trivial
theorem zm5{g:gz21}(hsm:SmOK Tryz.prog q1n)(hg:∀(x:ElA [(.list (.int .u8))]) (y:qdb),WfA [(.list (.int .u8))] x->g x=some y->∃lf,Fz21 lf x.1=some y):Con Tryz.prog 62 ⟨[(.list (.int .u8))],[(false,(.list (.int .u8)))],g⟩ :=
 conV (st:=qoq) (fun lf x=>Fz21 lf x.1) cm3 zqw zr7 q53 q42 (fun lf x=>zv2 g lf x.1) hsm hg
def qor:Nat->Option Nm:=fun k=>cond (Nat.beq k 4) (some ⟨[0,1,12,13],[],[],[],[],0,0,false⟩) (none)
def qmj:Nat->Bool:=fun k=>cond (Nat.beq k 4) true (false)
def q66:=qmj
abbrev qc2:Type:=Bool × Unit
def zfd:List (Nat × Sm):=[]
def q4k:List (Nat × Hx):=[]
def qvi(R:Type)(lf:Nat):ClK R:=qay Tryz.prog ttT.get ftT.get (nm1 61 qor) (smL zfd) (hxL q4k) lf 20 R
abbrev znt:Nat:=61
def qkb(x1:(List Int))(x2:(List Int))(p:Int):NRes:=(NRes.mk (.node (some (IV.lst (TC.int .u8) x1)) (.node (some (IV.lst (TC.int .u8) x2)) .leaf (.node none .leaf (.node (some (IV.int .i64 p)) .leaf .leaf))) (.node none (.node none .leaf (.node (some (IV.int .i64 (Int.ofNat x1.length))) .leaf .leaf)) .leaf)) (IS.mk .leaf 0) [] 0)
def qxz(lf:Nat)(x1:(List Int))(x2:(List Int))(L4:Int->Option qc2):Option qc2:=(cond (Bool.not (ieqI (Int.ofNat x1.length) (Int.ofNat x2.length))) (some (false,())) (L4 (Int.ofNat 0)))
def qux(lf:Nat)(x1:(List Int))(x2:(List Int))(L4:Int->Option qc2)(p:Int):Option qc2:=(cond (iltI p (Int.ofNat x1.length)) (match (jget x1 p) with|none=>none|some v0=>(match (jget x2 p) with|none=>none|some v1=>(cond (Bool.not (ieqI v0 v1)) (some (false,())) (L4 (IntKind.i64.wrap (Int.add p (Int.ofNat 1))))))) (some (true,())))
abbrev gz22:Type:=ElA [(.list (.int .u8)),(.list (.int .u8))]->Option qc2
abbrev sz22(g:gz22):Sm:=⟨[(.list (.int .u8)),(.list (.int .u8))],[(false,.bool)],g⟩
abbrev Ez22(g:gz22)(J:JT qc2)(lf:Nat)(x1:(List Int))(x2:(List Int)):=qbc Tryz.prog ttT.get qor fi61.nt (qvi _ lf) lf qmj J fi61.body [] (qau (argV [(.list (.int .u8)),(.list (.int .u8))] (x1,x2,())) 0 .leaf) S0 [] (qar ttT.get fi61 (sz22 g))
abbrev Bz22(g:gz22)(J:JT qc2)(lf k:Nat)(ms:List Nat)(q:NRes):=qbi Tryz.prog ttT.get qor fi61.nt (qvi _ lf) lf qmj J k fi61.body [] ms q (qar ttT.get fi61 (sz22 g))
theorem zvq(g:gz22)(J:JT qc2)(lf:Nat)(x1:(List Int))(x2:(List Int)):Ez22 g J lf x1 x2=qxz lf x1 x2 (fun q=>J 4 [lf] (qkb x1 x2 q)):=by kernel_rfl
theorem zgl(g:gz22)(J:JT qc2)(lf:Nat)(x1:(List Int))(x2:(List Int))(m1:Nat)(p:Int):Bz22 g J lf 4 [m1] (qkb x1 x2 p)=qux lf x1 x2 (fun q=>J 4 [m1] (qkb x1 x2 q)) p:=by kernel_rfl
theorem zc0:(regs fi61.body).Nodup:=by decide +kernel
theorem q6a:okC qor qmj q66 fi61.body none=true:=by kernel_rfl
def Az22(g:gz22)(lf:Nat):JT qc2:=atN Tryz.prog ttT.get qor fi61 (sz22 g) (qvi _ lf) lf q66
def qsi(lf:Nat)(x1:(List Int))(x2:(List Int)):Nat->(Int)->Option qc2:=rounds fun K p=>qux lf x1 x2 K p
theorem q85(g:gz22)(lf:Nat)(x1:(List Int))(x2:(List Int)):∀(n:Nat) (p:Int),Az22 g lf 4 [n] (qkb x1 x2 p)=qsi lf x1 x2 n p
 | 0,p=>qax 4 [0] rfl _
 | n+1,p=>by
  have ih:=q85 g lf x1 x2 n;refine(qao (qaj 20 _) zc0 q6a 4 [n+1] [n] rfl _).trans ((zgl g (Az22 g lf) lf x1 x2 n p).trans ?_);rw[(show (fun q=>Az22 g lf 4 [n] (qkb x1 x2 q))=(fun q=>qsi lf x1 x2 n q) from funext ih)];rfl
def Fz22(lf:Nat)(x1:(List Int))(x2:(List Int)):Option qc2:=qxz lf x1 x2 (fun q=>qsi lf x1 x2 lf q)
theorem zje(g:gz22)(lf:Nat)(x1:(List Int))(x2:(List Int)):Ez22 g (Az22 g lf) lf x1 x2=Fz22 lf x1 x2:=by
  refine(zvq g (Az22 g lf) lf x1 x2).trans ?_;rw[(show (fun q=>Az22 g lf 4 [lf] (qkb x1 x2 q))=(fun q=>qsi lf x1 x2 lf q) from funext fun q=>q85 g lf x1 x2 lf q)];rfl
theorem zoi:qa1 Tryz.prog q4k:=trivial
theorem zqf{g:gz22}(hsm:SmOK Tryz.prog zfd)(hg:∀(x:ElA [(.list (.int .u8)),(.list (.int .u8))]) (y:qc2),WfA [(.list (.int .u8)),(.list (.int .u8))] x->g x=some y->∃lf,Fz22 lf x.1 x.2.1=some y):Con Tryz.prog 61 ⟨[(.list (.int .u8)),(.list (.int .u8))],[(false,.bool)],g⟩ :=
 conV (st:=qmj) (fun lf x=>Fz22 lf x.1 x.2.1) cm3 zlc zoi zc0 q6a (fun lf x=>zje g lf x.1 x.2.1) hsm hg
def qny:Nat->Option Nm:=fun k=>cond (Nat.beq k 3) (some ⟨[0,3,4],[],[],[],[],0,0,false⟩) (none)
def qow:Nat->Bool:=fun k=>cond (Nat.beq k 3) true (false)
def q98:=qow
abbrev qc6:Type:=Int × Unit
def q4n:List (Nat × Sm):=[]
def q9f:List (Nat × Hx):=[]
def qwm(R:Type)(lf:Nat):ClK R:=qay Tryz.prog ttT.get ftT.get (nm1 60 qny) (smL q4n) (hxL q9f) lf 20 R
abbrev znu:Nat:=60
def qjp(x1:(List Int))(p:Int × Int):NRes:=(NRes.mk (.node (some (IV.lst (TC.int .u8) x1)) (.node none (.node (some (IV.int .i64 p.1)) .leaf .leaf) .leaf) (.node none (.node (some (IV.int .i64 p.2)) .leaf .leaf) .leaf)) (IS.mk .leaf 0) [] 0)
def qyp(lf:Nat)(x1:(List Int))(L3:(Int × Int)->Option qc6):Option qc6:=(L3 ((Int.ofNat 1),(Int.ofNat 0)))
def qsz(lf:Nat)(x1:(List Int))(L3:(Int × Int)->Option qc6)(p:Int × Int):Option qc6:=(cond (iltI p.2 (Int.ofNat x1.length)) (match (jget x1 p.2) with|none=>none|some v0=>(L3 ((Int.tmod (IntKind.i64.wrap (Int.add (IntKind.i64.wrap (Int.mul (Int.ofNat 31) p.1)) (IntKind.i64.wrap v0))) (Int.ofNat 2147483647)),(IntKind.i64.wrap (Int.add p.2 (Int.ofNat 1)))))) (some (p.1,())))
abbrev gz23:Type:=ElA [(.list (.int .u8))]->Option qc6
abbrev sz23(g:gz23):Sm:=⟨[(.list (.int .u8))],[(false,(.int .i64))],g⟩
abbrev Ez23(g:gz23)(J:JT qc6)(lf:Nat)(x1:(List Int)):=qbc Tryz.prog ttT.get qny fi60.nt (qwm _ lf) lf qow J fi60.body [] (qau (argV [(.list (.int .u8))] (x1,())) 0 .leaf) S0 [] (qar ttT.get fi60 (sz23 g))
abbrev Bz23(g:gz23)(J:JT qc6)(lf k:Nat)(ms:List Nat)(q:NRes):=qbi Tryz.prog ttT.get qny fi60.nt (qwm _ lf) lf qow J k fi60.body [] ms q (qar ttT.get fi60 (sz23 g))
theorem zzw(g:gz23)(J:JT qc6)(lf:Nat)(x1:(List Int)):Ez23 g J lf x1=qyp lf x1 (fun q=>J 3 [lf] (qjp x1 q)):=by kernel_rfl
theorem zyg(g:gz23)(J:JT qc6)(lf:Nat)(x1:(List Int))(m1:Nat)(p:Int × Int):Bz23 g J lf 3 [m1] (qjp x1 p)=qsz lf x1 (fun q=>J 3 [m1] (qjp x1 q)) p:=by kernel_rfl
theorem q75:(regs fi60.body).Nodup:=by decide +kernel
theorem zcd:okC qny qow q98 fi60.body none=true:=by kernel_rfl
def Az23(g:gz23)(lf:Nat):JT qc6:=atN Tryz.prog ttT.get qny fi60 (sz23 g) (qwm _ lf) lf q98
def qm4(lf:Nat)(x1:(List Int)):Nat->(Int × Int)->Option qc6:=rounds fun K p=>qsz lf x1 K p
theorem zdg(g:gz23)(lf:Nat)(x1:(List Int)):∀(n:Nat) (p:Int × Int),Az23 g lf 3 [n] (qjp x1 p)=qm4 lf x1 n p
 | 0,p=>qax 3 [0] rfl _
 | n+1,p=>by
  have ih:=zdg g lf x1 n;refine(qao (qaj 20 _) q75 zcd 3 [n+1] [n] rfl _).trans ((zyg g (Az23 g lf) lf x1 n p).trans ?_);rw[(show (fun q=>Az23 g lf 3 [n] (qjp x1 q))=(fun q=>qm4 lf x1 n q) from funext ih)];rfl
def Fz23(lf:Nat)(x1:(List Int)):Option qc6:=qyp lf x1 (fun q=>qm4 lf x1 lf q)
theorem zqe(g:gz23)(lf:Nat)(x1:(List Int)):Ez23 g (Az23 g lf) lf x1=Fz23 lf x1:=by
  refine(zzw g (Az23 g lf) lf x1).trans ?_;rw[(show (fun q=>Az23 g lf 3 [lf] (qjp x1 q))=(fun q=>qm4 lf x1 lf q) from funext fun q=>zdg g lf x1 lf q)];rfl
theorem zgw:qa1 Tryz.prog q9f:=trivial
theorem zxu{g:gz23}(hsm:SmOK Tryz.prog q4n)(hg:∀(x:ElA [(.list (.int .u8))]) (y:qc6),WfA [(.list (.int .u8))] x->g x=some y->∃lf,Fz23 lf x.1=some y):Con Tryz.prog 60 ⟨[(.list (.int .u8))],[(false,(.int .i64))],g⟩ :=
 conV (st:=qow) (fun lf x=>Fz23 lf x.1) cm3 zim zgw q75 zcd (fun lf x=>zqe g lf x.1) hsm hg
abbrev qu0:Type:=(List Int) × Unit
abbrev zz0:Nat:=23
def zek(lf:Nat)(x1:(List Int)):Option qu0:=(cond (Nat.ble (Nat.mul (Nat.add 0 x1.length) 1) 140737488355328) (cond (Nat.ble (Nat.mul (Nat.add (List.length (List.append [] x1)) 4) 1) 140737488355328) (some ((List.append (List.append [] x1) (List.cons (IntKind.u8.wrap (IntKind.i64.wrap (Int.tdiv (S.sumI x1) (Int.ofNat 16777216)))) (List.cons (IntKind.u8.wrap (Int.tmod (IntKind.i64.wrap (Int.tdiv (S.sumI x1) (Int.ofNat 65536))) (Int.ofNat 256))) (List.cons (IntKind.u8.wrap (Int.tmod (IntKind.i64.wrap (Int.tdiv (S.sumI x1) (Int.ofNat 256))) (Int.ofNat 256))) (List.cons (IntKind.u8.wrap (Int.tmod (S.sumI x1) (Int.ofNat 256))) []))))),())) none) none)
def qtg(lf:Nat)(x1:(List Int)):Option qu0:=zek lf x1
theorem zp8{g:ElA [(.list (.int .u8))]->Option qu0}(hsm:SmOK Tryz.prog [(60,zdn)])(hg:∀(x:ElA [(.list (.int .u8))]) (y:qu0),WfA [(.list (.int .u8))] x->g x=some y->∃lf,qtg lf x.1=some y):Con Tryz.prog 23 ⟨[(.list (.int .u8))],[(false,(.list (.int .u8)))],g⟩ :=
 conU (fi:=fi23) (hxl:=[]) (fun lf x=>qtg lf x.1) cm3 zqj trivial hsm hg


theorem w64{n:Int}(h1:-4611686018427387904<=n)(h2:n<=4611686018427387904):IntKind.i64.wrap n=n:=(qe0 _ _).2 ⟨by show (-9223372036854775808:Int)<=n;omega,by show n<=(9223372036854775807:Int);omega⟩
theorem wu64{n:Int}(h1:0<=n)(h2:n<=4611686018427387904):IntKind.u64.wrap n=n:=(qe0 _ _).2 ⟨by show (0:Int)<=n;omega,by show n<=(18446744073709551615:Int);omega⟩
theorem w8(n:Int):IntKind.u8.wrap n=n % 256:=rfl
theorem q9h{m k:Nat}(h:m+k<=140737488355328):Nat.ble (Nat.mul (Nat.add m k) 1) 140737488355328=true:=jbk (by show (m+k)*1<=_;omega)
theorem zkc(b:List Int)(hl:b.length<LF):Fz23 LF b=some (S.sumI b,()):=by
 simp only[Fz23,qyp,qm4];refine range0 (α:=Int) (σ:=Int) (R:=qc6) b (fun i s=>(s,i)) (fun _ _=>True) (fun rest i s=>some (rest.foldl S.sumStep s,())) hl (fun K s hI=>?_) (fun K i v rest s hI r hk=>?_) 1 trivial
 ·simp only[qsz,qaz,jad];rfl
 ·simp only[qsz,r.ilt,jaa,r.get,r.next];exact hk _ trivial
theorem zhm:Con Tryz.prog znu zdn:=zxu trivial fun x y hx h=>⟨LF,(zkc _ (qbj hx.1)).trans h⟩
theorem zij{s v:Int}(h1:0<=s)(h2:s<2147483647)(h3:0<=v)(h4:v<256):0<=S.sumStep s v/\S.sumStep s v<2147483647:=by
 have e:Int.mul (Int.ofNat 31) s=31*s:=rfl;have e2:Int.add (31*s) v=31*s+v:=rfl;unfold S.sumStep;rw[e,w64 (n:=31*s) (by omega) (by omega),w64 (n:=v) (by omega) (by omega),e2,w64 (n:=31*s+v) (by omega) (by omega),jcp (by omega)];show 0<=(31*s+v) % 2147483647/\(31*s+v) % 2147483647<2147483647;omega
theorem zbt:∀(b:List Int) (s:Int),(∀v∈b,0<=v/\v<256)->0<=s->s<2147483647->0<=b.foldl S.sumStep s/\b.foldl S.sumStep s<2147483647
 | [],s,_,h1,h2=>⟨h1,h2⟩
 | v::b,s,hb,h1,h2=>by
  obtain⟨g1,g2⟩:=hb v (jbx ..);obtain⟨k1,k2⟩:=zij h1 h2 g1 g2;exact zbt b _ (fun w hw=>hb w (jbi _ hw)) k1 k2
theorem zmv(lf:Nat)(b:List Int)(hl:b.length+100<=140737488355328)(hb:∀v∈b,0<=v/\v<256):qtg lf b=some (List.append b (S.sum4 b),()):=by
 obtain⟨h1,h2⟩:=zbt b 1 hb (by omega) (by omega);have r1:Nat.ble (Nat.mul (Nat.add 0 b.length) 1) 140737488355328=true:=q9h (by omega);have r2:Nat.ble (Nat.mul (Nat.add b.length 4) 1) 140737488355328=true:=q9h (by omega);have ha:List.append ([]:List Int) b=b:=rfl;simp only[qtg,zek,ha,r1,r2,jaa];have hs:S.sum4 b=S.sum4I (b.foldl S.sumStep 1):=rfl;have hi:S.sumI b=b.foldl S.sumStep 1:=rfl;rw[hs,hi];generalize b.foldl S.sumStep 1=s at h1 h2;have t1:Int.tdiv s (Int.ofNat 16777216)=s / 16777216:=jc2 h1;have t2:Int.tdiv s (Int.ofNat 65536)=s / 65536:=jc2 h1;have t3:Int.tdiv s (Int.ofNat 256)=s / 256:=jc2 h1;have f1:Int.fdiv s (Int.ofNat 16777216)=s / 16777216:=jc1 s (by show (0:Int)<=16777216;omega);have f2:Int.fdiv s (Int.ofNat 65536)=s / 65536:=jc1 s (by show (0:Int)<=65536;omega);have f3:Int.fdiv s (Int.ofNat 256)=s / 256:=jc1 s (by show (0:Int)<=256;omega);have m2:Int.tmod (s / 65536) (Int.ofNat 256)=s / 65536 % 256:=jcp (by omega);have m3:Int.tmod (s / 256) (Int.ofNat 256)=s / 256 % 256:=jcp (by omega);have m4:Int.tmod s (Int.ofNat 256)=s % 256:=jcp h1;rw[t1,t2,t3,w64 (n:=s / 16777216) (by omega) (by omega),w64 (n:=s / 65536) (by omega) (by omega),w64 (n:=s / 256) (by omega) (by omega),m2,m3,m4];unfold S.sum4I;rw[f1,f2,f3];simp only[w8];have q2:s / 65536 % 256 % 256=s / 65536 % 256:=by omega
 have q3:s / 256 % 256 % 256=s / 256 % 256:=by omega
 have q4:s % 256 % 256=s % 256:=by omega
 rw[q2,q3,q4]
theorem zeq:Con Tryz.prog zz0 qz8:=zp8 ⟨zhm,trivial⟩ fun x y hx h=>⟨LF,by
 obtain⟨b,_⟩:=x;have h:cond (Nat.ble (List.length (α:=Int) b+100) 140737488355328) (some (List.append (α:=Int) b (S.sum4 b),())) none=some y:=h;cases hk:Nat.ble (List.length (α:=Int) b+100) 140737488355328 with
 | false=>rw[hk] at h;cases h
 | true =>
  rw[hk] at h;refine(zmv LF b (jan hk) fun v hv=>?_).trans h;have h8:IntKind.u8.wrap v=v:=(hx.1:_/\_).2 v hv;rw[w8] at h8;omega⟩
def zcr:Sm:=⟨[.list (.int .u8)],[(false,.list (.int .u8))],fun x=>some (S.sum4 x.1,())⟩
theorem zh5(b:List Int)(hl:b.length<LF):Fz21 LF b=some (S.sum4 b,()):=by
 simp only[Fz21,qvp,qld];refine range0 (α:=Int) (σ:=Int) (R:=qdb) b (fun i s=>(s,i)) (fun _ _=>True) (fun rest i s=>some (S.sum4I (rest.foldl S.sumStep s),())) hl (fun K s hI=>?_) (fun K i v rest s hI r hk=>?_) 1 trivial
 ·simp only[qtq,qaz,jad];rfl
 ·simp only[qtq,r.ilt,jaa,r.get,r.next];exact hk _ trivial
theorem zhu:Con Tryz.prog zx4 zcr:=zm5 trivial fun x y hx h=>⟨LF,(zh5 x.1 (qbj hx.1)).trans h⟩
def S.eqB:List Int->List Int->Bool
 | [],[]=>true
 | a::x,b::y=>ieqI a b&&S.eqB x y
 | _,_=>false
theorem qra:∀{a b:List Int},S.eqB a b=true↔a=b
 | [],[]=>by simp[S.eqB]
 | [],_::_=>by simp[S.eqB]
 | _::_,[]=>by simp[S.eqB]
 | a::x,b::y=>by simp[S.eqB,qat,qra (a:=x) (b:=y)]
def q44:Sm:=⟨[.list (.int .u8),.list (.int .u8)],[(false,.bool)],fun x=>some (S.eqB x.1 x.2.1,())⟩
theorem z2y(a b:List Int)(ha:a.length<LF):Fz22 LF a b=some (S.eqB a b,()):=by
 simp only[Fz22,qxz];by_cases hl:a.length=b.length
 ·have h1:ieqI (Int.ofNat a.length) (Int.ofNat b.length)=true:=by rw[qat];exact jaf (by rw[hl])
  simp only[h1,ja1,jad];refine(qbv (R:=qc2) a (fun rest i=>some (S.eqB rest (b.drop i),())) ha (fun K=>?_) (fun K i v rest r hk=>?_)).trans ?_
  ·simp only[qux,qaz,jad];rw[hl,jea];rfl
  ·have hi:i<b.length:=by rw[<- hl];exact r.lt
   have hj:jget b (Int.ofNat i)=some b[i]:=by rw[qbz];exact jab hi
   have hd:b.drop i=b[i]::b.drop (i+1):=jbd hi;simp only[qux,r.ilt,jaa,r.get,hj,r.next];rw[hd];show (cond (Bool.not (ieqI v b[i])) (some (false,())) (K (Int.ofNat (i+1))))=some (ieqI v b[i]&&S.eqB rest (b.drop (i+1)),());cases ieqI v b[i] with
   | false=>rfl
   | true=>exact hk
  ·rw[jck]
 ·have h1:ieqI (Int.ofNat a.length) (Int.ofNat b.length)=false:=by rw[qat];exact jae (fun e=>hl (jex e))
  simp only[h1,jax,jaa];have:S.eqB a b=false:=by
   cases he:S.eqB a b with
   | false=>rfl
   | true=>exact absurd (by rw[qra.1 he]) hl
  rw[this]
theorem zgy:Con Tryz.prog znt q44:=zqf trivial fun x y hx h=>⟨LF,by
 obtain⟨a,b,_⟩:=x;exact(z2y a b (qbj hx.1)).trans h⟩
end Go.Proofs.YtcnhjofpmpipfaaGreat
end

section
namespace Go.Jx
open Go Go.Sx Go.RowKit
universe u

def panV(pt:Nat)(pc:List TC)(x:ElA pc):IV:=.iface pt (.agg (argV pc x))
def rdA:(cs:List TC)->List IV->Option (ElA cs)
 | [],[]=>some ()
 | .int k::cs,.int k' n::vs=>cond (kbeq k k') (match rdA cs vs with
  | some x=>some (n,x)
  | none=>none) none
 | .bool::cs,.bool b::vs=>match rdA cs vs with
  | some x=>some (b,x)
  | none=>none
 | .str::cs,.str s::vs=>match rdA cs vs with
  | some x=>some (s,x)
  | none=>none
 | _,_=>none
theorem qq6:∀(cs:List TC) {vs:List IV} {x:ElA cs},rdA cs vs=some x->vs=argV cs x/\vs.all qhv=true
 | [],vs,x,h=>by
  cases vs with
  | nil=>exact⟨rfl,rfl⟩
  | cons v vs=>simp [rdA] at h
 | .int k::cs,vs,x,h=>by
  cases vs with
  | nil=>simp [rdA] at h
  | cons v vs =>
  cases v<;>try (simp [rdA] at h;done)
  rename_i k' n;simp only[rdA] at h;cases hk:kbeq k k' with
  | false=>rw[hk] at h;cases h
  | true =>
  rw[hk,jaa] at h;split at h<;>cases h;rename_i y hy;obtain⟨e1,e2⟩:=qq6 cs hy;rw[<- qgy hk];exact⟨by show _=IV.int k n::argV cs y;rw[e1],by simp only[jch,e2,qhv,jcw]⟩
 | .bool::cs,vs,x,h=>by
  cases vs with
  | nil=>simp [rdA] at h
  | cons v vs =>
  cases v<;>try (simp [rdA] at h;done)
  rename_i b;simp only[rdA] at h;split at h<;>cases h;rename_i y hy;obtain⟨e1,e2⟩:=qq6 cs hy;exact⟨by show _=IV.bool b::argV cs y;rw[e1],by simp only[jch,e2,qhv,jcw]⟩
 | .str::cs,vs,x,h=>by
  cases vs with
  | nil=>simp [rdA] at h
  | cons v vs =>
  cases v<;>try (simp [rdA] at h;done)
  rename_i s;simp only[rdA] at h;split at h<;>cases h;rename_i y hy;obtain⟨e1,e2⟩:=qq6 cs hy;exact⟨by show _=IV.str s::argV cs y;rw[e1],by simp only[jch,e2,qhv,jcw]⟩
 | .list c::cs,vs,x,h=>by cases vs with
  | nil=>simp [rdA] at h
  | cons v vs=>cases v<;>simp [rdA] at h
 | .two a b::cs,vs,x,h=>by cases vs with
  | nil=>simp [rdA] at h
  | cons v vs=>cases v<;>simp [rdA] at h
def q02(pt:Nat)(pc:List TC):IV->Option (ElA pc)
 | .iface t (.agg cs)=>cond (Nat.beq t pt) (rdA pc cs) none
 | _=>none
theorem zll{pt:Nat}{pc:List TC}{v:IV}{x:ElA pc}(h:q02 pt pc v=some x):v=panV pt pc x/\qby v=true:=by
 unfold q02 at h;split at h<;>try cases h
 rename_i t cs;cases hb:Nat.beq t pt with
 | false=>rw[hb] at h;cases h
 | true =>
 rw[hb,jaa] at h;obtain⟨e1,e2⟩:=qq6 pc h;unfold panV;rw[<- e1,jaj hb];exact⟨rfl,e2⟩
structure SmP where
 ps:List PK
 rts:List (Bool × TC)
 pt:Nat
 pc:List TC
 f:ElP ps->Option (ElA pc ⊕ (ElR rts × ElP (refs ps)))
def SmP.r(s:SmP):SmR:=⟨s.ps,s.rts,fun x=>match s.f x with
 | some (.inr y)=>some y
 | _=>none⟩
def full(n:Nat):Nat:=2 ^ n-1
theorem zr1{n id:Nat}(h:id<n):(full n).testBit id=true:=by unfold full;rw[jdc];simpa using h
def PanB(E:Env)(S:IS)(v:IV):Ending->World->Prop:=fun e w'=>∃u,e=.panicked [{ v:=u,recovered:=false }]/\VR (E.at_ w') v u/\qby v=true/\Post T0 E S (E.at_ w') (kill (full S.next) S)
def RetO(s:SmP)(E:Env)(x:ElP s.ps)(o:ElA s.pc ⊕ (ElR s.rts × ElP (refs s.ps))):Ending->World->Prop:=match o with
 | .inl p=>PanB E (Sc s.ps x) (panV s.pt s.pc p)
 | .inr (y,z)=>RetB (mP s.ps) T0 E (Sc s.ps x) ⟨vB s.r (mP s.ps) y,ScB s.r y z,0,0⟩
structure ConP (P:Program) (f:Nat) (s:SmP):Prop where
 callable:qam P f
 calls:∀(E:Env) (x:ElP s.ps) (us:List Value) (o:ElA s.pc ⊕ (ElR s.rts × ElP (refs s.ps))),s.f x=some o->Pre T0 E (Sc s.ps x)->VRs E (qan s.ps idN 0 x) us ->
  CallsIn Fence.wide 0 P f us.toArray E.w (RetO s E x o)
theorem ConP.r{P:Program}{f:Nat}{s:SmP}(h:ConP P f s):ConR P f s.r:=by
 refine⟨h.callable,fun E x us y z hf p hv=>?_⟩;have hf:(match s.f x with|some (.inr y)=>some y|_=>none)=some (y,z):=hf;split at hf<;>cases hf;rename_i ho;exact h.calls E x us _ ho p hv

def cpP(s:SmP)(vs:List IV)(S:IS):Option Res :=
 match rdP s.ps S vs with
 | none=>none
 | some (x0,rows,subs,S1,w)=>cond (ndB (rows++subs)) (match fiP s.ps rows subs S1 x0 with
  | none=>none
  | some x=>match s.f x with
   | none=>none
   | some (.inr (y,z))=>some ⟨vB s.r S1.next y,qb6 s.r S1.next rows subs y z S1,0,(w ||| qba (rows++subs)) ||| cond (Nat.blt 0 rows.length) 0 (2 ^ S1.next)⟩
   | some (.inl q)=>cond (qby (panV s.pt s.pc q)) (some ⟨.pan (panV s.pt s.pc q),kill (qba (rows++subs)) S1,0,(w ||| qba (rows++subs)) ||| cond (Nat.blt 0 rows.length) 0 (2 ^ S1.next)⟩) none) none
def cpPK{R:Type}(s:SmP)(vs:List IV)(S:IS)(kk:Res->Option R):Option R :=
 match rdP s.ps S vs with
 | none=>none
 | some (x0,rows,subs,S1,w)=>cond (ndB (rows++subs)) (match fiP s.ps rows subs S1 x0 with
  | none=>none
  | some x=>match s.f x with
   | none=>none
   | some o=>match o with
    | .inr (y,z)=>kk ⟨vB s.r S1.next y,qb6 s.r S1.next rows subs y z S1,0,(w ||| qba (rows++subs)) ||| cond (Nat.blt 0 rows.length) 0 (2 ^ S1.next)⟩
    | .inl q=>cond (qby (panV s.pt s.pc q)) (kk ⟨.pan (panV s.pt s.pc q),kill (qba (rows++subs)) S1,0,(w ||| qba (rows++subs)) ||| cond (Nat.blt 0 rows.length) 0 (2 ^ S1.next)⟩) none) none
theorem z12{R:Type}(s:SmP)(vs:List IV)(S:IS)(kk:Res->Option R):cpPK s vs S kk=ob (cpP s vs S) kk:=by
 simp only[cpPK,cpP];cases rdP s.ps S vs with
 | none=>rfl
 | some q =>
  obtain⟨x0,rows,subs,S1,w⟩:=q;simp only[qbd];cases fiP s.ps rows subs S1 x0 with
  | none=>rfl
  | some x =>
   simp only;cases s.f x with
   | none=>rfl
   | some o =>
    cases o with
    | inr q=>rfl
    | inl q=>simp only[qbd];rfl
def hxP(s:SmP):Hx:=⟨fun _ vs S=>cpP s vs S,fun _ _ vs S kk=>cpPK s vs S kk,fun _ _ _ _ vs S kk=>z12 s vs S kk⟩
section
variable {P : Program} {T : TW} {E : Env} {S : IS}
theorem zc9{W:Nat->Prop}{S:IS}{m:Nat}{w':World}(p:Pre T E S)(hW:∀id,W id->T.w id)(hm:∀id,W id->E.A id->m.testBit id=true)(h1:w'.os=E.w.os)(h2:w'.tape=E.w.tape)(h3:w'.output=E.w.output)(h4:E.w.heap.size<=w'.heap.size)
  (h5:∀b,b<E.w.heap.size->(∀id,W id->E.A id->Live E S.H id->E.ρ id≠b)->w'.heap[b]?=E.w.heap[b]?):Post T E S (E.at_ w') (kill m S)/\Fresh E S (E.at_ w') :=
 kill_post (E:=E.at_ w') (H':=fun _=>some .dead) p hW hm ⟨h1,h2,h3,h4,h5,fun id h=>⟨h,rfl,rfl,rfl,rfl⟩,fun id h k=>absurd h k,(fun id _ _ h=>by obtain⟨_,o,h,k⟩:=h;cases h;cases k),fun b h=>Or.inl h,fun b h _=>Or.inl h⟩
theorem z14{ps:List PK}{vs:List IV}{x0 x:ElP ps}{rows subs:List Nat}{S1:IS}{w:Nat}{us:List Value}(hrd:rdP ps S vs=some (x0,rows,subs,S1,w))(hb1:ndB (rows++subs)=true)(hfi:fiP ps rows subs S1 x0=some x)(p:Pre T E S)(hwr:tin T.w (w ||| qba (rows++subs)))(hv:VRs E vs us) :
  ∃E1,E1.w=E.w/\Post T E S E1 S1/\Fresh E S E1/\Pre T0 (renE 0 (rows++subs) E1) (Sc ps x)/\VRs (renE 0 (rows++subs) E1) (qan ps idN 0 x) us/\(∀k,k<(rows++subs).length->Live (renE 0 (rows++subs) E1) (Sc ps x).H k->Live E1 S1.H (ol 0 (rows++subs) k))/\(∀id∈rows++subs,T.w id/\E1.A id):=by
 obtain⟨g1,g2⟩:=qaq hwr;obtain⟨E1,e1,q1,f1,l1,l2,A2,b2,b3,hok⟩:=qpm ps hrd p g1 hv;have p1:=q1.pre p;obtain⟨_,c2,c3⟩:=qej ps hfi l2;have hnd:=qii hb1;have hT:=qus g2;generalize hq:rows++subs=q at hnd hT;have hql:q.length=mP ps+nP ps:=by rw[<- hq,jav,l1,l2]
 have hnq:Nums (ol 0 q) 0 q:=fun j id hj=>by
  rw[ja5];unfold ol;rw[jak (by omega),jc6,jam,hj];rfl
 have hnr:Nums (ol 0 q) 0 rows:=by rw[<- hq] at hnq ⊢;exact hnq.fst
 have hns:Nums (ol 0 q) (mP ps) subs:=by
  have:=hnq;rw[<- hq] at this;have:=this.snd
  rwa [ja5,l1,hq] at this
 have hTr:∀id∈rows,T.r id:=fun id hid=>T.sub _ (hT id (by rw[<- hq];exact jbz _ hid));have hrows:=quu hfi l2 p1 hTr (b3 _ _ hns (.inr hnr));have hrk:∀k,k<mP ps->rows[k]?=some (ol 0 q k):=fun k hk=>by
  have h1:k<rows.length:=by omega
  rw[jab h1,<- hnr k _ (jab h1),ja5]
 have hsk:∀k,mP ps<=k->k<q.length->subs[k-mP ps]?=some (ol 0 q k):=fun k h1 h2=>by
  have h3:k-mP ps<subs.length:=by omega
  rw[jab h3,<- hns _ _ (jab h3),je2 h1]
 have hrowA:∀k,k<mP ps->∃r nj xj,(∀ι,(qas ps ι (mP ps) x)[k]?=some (objK r ι nj xj))/\mP ps<=nj/\nj+nK r<=q.length/\E1.A (ol 0 q k)/\((objK r (ol 0 q) nj xj).blk=true->E1.hb (ol 0 q k)=true)/\OR E1 (ol 0 q k) (objK r (ol 0 q) nj xj)/\((objK r (ol 0 q) nj xj).live=true->∃o0,S1.H (ol 0 q k)=some o0/\o0.live=true)/\∀k'∈isK r,k'<mP ps:=fun k hk=>by
  have h1:k<(qas ps (ol 0 q) (mP ps) x).length:=by rw[qa3];exact hk
  obtain⟨r,nj,xj,d1,d2,d3,d4,d5⟩:=qfl ps (ol 0 q) (mP ps) x k _ (jab h1);obtain⟨id,i1,i2,i3,i4,i5⟩:=hrows k _ (d4 (ol 0 q));rw[hrk k hk] at i1;cases i1;exact⟨r,nj,xj,d4,d2,by omega,i2,i3,i4,i5,d5 _ hok⟩
 have hA:∀id∈q,E1.A id:=fun id hid=>by
  rw[<- hq] at hid;rcases jbe.1 hid with hid|hid
  ·obtain⟨k,hk,rfl⟩:=jbu.1 hid;obtain⟨_,_,_,_,_,_,i2,_,_⟩:=hrowA k (by omega);have:=hrk k (by omega);rw[jab hk,jay] at this;rw[this];exact i2
  ·exact A2 id hid
 have hnum:∀k,k<q.length->qcj E1 (renE 0 q E1) (ol 0 q k) k:=fun k hk hA=>⟨⟨by omega,hA⟩,rfl,rfl,rfl,rfl⟩;have hobj:∀k o,k<q.length->E1.A (ol 0 q k)->(Sc ps x).H k=some o->ObjTo E1 S1 (renE 0 q E1) (ol 0 q k) k o:=fun k o hk hAk ho=>by
  unfold Sc at ho;rw[qgw] at ho;by_cases hkm:k<mP ps
  ·rw[jas (by rw[qa3];exact hkm)] at ho;obtain⟨r,nj,xj,d1,d2,d3,d4,d5,d6,d7,d8⟩:=hrowA k hkm;rw[d1 idN] at ho;cases ho;exact⟨OR.objK_to (E:=E1) (E':=renE 0 q E1) (fun _ h=>h) rfl hAk (hnum k hk) (fun j a b=>hnum j (by omega)) (fun j hj=>hnum j (by have:=d8 j hj;omega)) d6,fun hl=>d7 (qla.trans hl),fun hb=>d5 (qj2.trans hb)⟩
  ·rw[jat (by rw[qa3];omega),qa3] at ho;have hd:=qpw _ _ _ (ja8 ho);rw[c3,hsk k (by omega) hk] at ho;have hid:=(qbw hk).1;exact⟨OR.dat_to (E:=E1) (E':=renE 0 q E1) (fun _ h=>h) rfl hAk (hnum k hk) hd (p1.st.objs _ (T.sub _ (hT _ hid)) hAk _ ho),fun hl=>⟨_,ho,hl⟩,fun hbk=>p1.st.blk _ (T.sub _ (hT _ hid)) hAk _ ho hbk⟩
 have hpre:Pre T0 (renE 0 q E1) (Sc ps x):=Pre.re p1 hnd (fun id h=>T.sub _ (hT id h)) (by rw[qic,hql]) hobj;have hargs:VRs (renE 0 q E1) (qan ps idN 0 x) us:=argsP_env (E:=E1) (E':=renE 0 q E1) (ρ:=ol 0 q) (fun _ h=>h) rfl ps (fun j a b=>hnum j (by omega)) (by rw[c2];exact b2 _ _ hnr);have hsb:∀k,k<q.length->Live (renE 0 q E1) (Sc ps x).H k->Live E1 S1.H (ol 0 q k):=fun k hk ⟨h0,o,h1,h2⟩=>⟨h0,(hobj k o hk (hA _ (qbw hk).1) h1).live h2⟩;exact⟨E1,e1,q1,f1,hpre,hargs,hsb,fun id h=>⟨hT id h,hA id h⟩⟩
theorem zpv{f:Nat}{s:SmP}(hc:ConP P f s){vs:List IV}{x0 x:ElP s.ps}{rows subs:List Nat}{S1:IS}{w:Nat}{us:List Value}{q:ElA s.pc}{r:Res}(hrd:rdP s.ps S vs=some (x0,rows,subs,S1,w))(hb1:ndB (rows++subs)=true)(hfi:fiP s.ps rows subs S1 x0=some x)(hf:s.f x=some (.inl q))
  (hr:r.S=kill (qba (rows++subs)) S1) (p:Pre T E S) (hwr:tin T.w (w ||| qba (rows++subs))) (hv:VRs E vs us):CallsIn Fence.wide 0 P f us.toArray E.w (RetP T E S r (panV s.pt s.pc q)):=by
 obtain⟨E1,e1,q1,f1,hpre,hargs,hsb,hq⟩:=z14 hrd hb1 hfi p hwr hv;have p1:=q1.pre p;have hcall:=hc.calls _ x us _ hf hpre hargs;rw[show (renE 0 (rows++subs) E1).w=E.w from e1] at hcall;refine hcall.mono fun e w' hR=>?_;obtain⟨u,rfl,k1,kf,k2⟩:=hR;have hs:=k2.stp;obtain⟨z1,z2⟩:=zc9 (W:=fun id=>id∈rows++subs) (m:=qba (rows++subs)) (w':=w') p1 (fun id h=>(hq id h).1) (fun id h _=>qrr h) hs.os hs.tape hs.output hs.size (fun b hb h=>by
  refine hs.same b hb fun j _ hA hL e=>?_;have hj:j<(rows++subs).length:=by have:=hA.1;omega
  have:=hsb j hj hL;exact h (ol 0 (rows++subs) j) (qbw hj).1 hA.2 this e)
 exact⟨u,E1.at_ w',rfl,rfl,qm6 kf k1,by rw[hr];exact Post.trans p q1 f1 z1,by exact f1.trans z2 q1.le⟩
theorem zv4{f:Nat}{s:SmP}(hc:ConP P f s){vs:List IV}{r:Res}(h:cpP s vs S=some r){us:List Value}(p:Pre T E S)(hwr:tin T.w r.wr)(hv:VRs E vs us) :
  qam P f/\CallsIn Fence.wide 0 P f us.toArray E.w (RetX T E S r):=by
 refine⟨hc.callable,?_⟩;have h0:=h;unfold cpP at h;split at h
 ·cases h
 rename_i x0 rows subs S1 w hrd;cases hb1:ndB (rows++subs) with
 | false=>rw[hb1] at h;cases h
 | true =>
 rw[hb1,jaa] at h;split at h
 ·cases h
 rename_i x hfi;split at h
 ·cases h
 ·rename_i y z hf;refine(q8z (s:=s.r) hc.r (r:=r) ?_ p hwr hv).2.mono fun _ _=>RetX.of;unfold exR;rw[show rdP s.r.ps S vs=some (x0,rows,subs,S1,w) from hrd];simp only[hb1,jaa];rw[show fiP s.r.ps rows subs S1 x0=some x from hfi];simp only;rw[show s.r.f x=some (y,z) from by show (match s.f x with|some (.inr y)=>some y|_=>none)=_;rw[hf]];exact h
 ·rename_i q hf;cases hfl:qby (panV s.pt s.pc q) with
  | false=>rw[hfl] at h;cases h
  | true =>
  rw[hfl,jaa] at h;cases h;exact(zpv hc hrd hb1 hfi hf rfl p (qaq hwr).1 hv).mono fun _ _ h=>h
theorem zwh{s:SmP}{vs:List IV}{S:IS}:FrO S (cpP s vs S):=fun r h=>by
 unfold cpP at h;split at h
 ·cases h
 rename_i x0 rows subs S1 w hrd;cases hb:ndB (rows++subs) with
 | false=>rw[hb] at h;cases h
 | true =>
 rw[hb,jaa] at h;split at h
 ·cases h
 have h1:=qn9 _ hrd;split at h
 ·cases h
 ·rename_i y z hf;cases h;have h2:=(qsa subs S1).trans ((qth rows (qas (refs s.ps) (nuB rows (mP s.ps) S1.next) (mP s.ps) z) _).trans (qku (newO s.r y z) _ 0));have h3:=h1.trans h2;rw[jec,Nat.or_comm (qba subs),<- quz] at h3;have h4:=h3.trans (FrX.refl _ (cond (Nat.blt 0 rows.length) 0 (2 ^ S1.next)));exact h4
 ·rename_i q hf;cases hfl:qby (panV s.pt s.pc q) with
  | false=>rw[hfl] at h;cases h
  | true =>
  rw[hfl,jaa] at h;cases h;have h2:FrX S1 (kill (qba (rows++subs)) S1) (qba (rows++subs)):=⟨by rw[qpj];exact jaq _,fun id hid hw=>by rw[qgv,jak (fun h=>by rw[hw] at h;cases h.2)]⟩;exact(h1.trans h2).trans (FrX.refl _ (cond (Nat.blt 0 rows.length) 0 (2 ^ S1.next)))
theorem zu9{s:SmP}{vs:List IV}{S:IS}{r:Res}(h:cpP s vs S=some r)(hw:r.wr=0):False:=by
 unfold cpP at h;split at h
 ·cases h
 rename_i x0 rows subs S1 w hrd;cases hb:ndB (rows++subs) with
 | false=>rw[hb] at h;cases h
 | true =>
 rw[hb,jaa] at h;split at h
 ·cases h
 have key:(w ||| qba (rows++subs)) ||| cond (Nat.blt 0 rows.length) 0 (2 ^ S1.next)=0->False:=fun hw=>by
  have h2:qba (rows++subs)=0:=(or_zero (or_zero hw).1).2;cases rows with
  | nil =>
   have h3:2 ^ S1.next=0:=(or_zero hw).2
   have:=jen (n:=S1.next);omega
  | cons id rows =>
   have:=qrr (l:=id::rows++subs) (id:=id) (by simp);rw[h2] at this;simp at this
 split at h
 ·cases h
 ·cases h;exact key hw
 ·cases hfl:qby _ with
  | false=>rw[hfl] at h;cases h
  | true=>rw[hfl,jaa] at h;cases h;exact key hw
theorem zyz{f:Nat}{s:SmP}(hc:ConP P f s):HxOK P f (hxP s).f :=
 ⟨fun cl _ _ _ vs S r h T E us p _ hw hv=>zv4 hc h p hw hv,fun cl _ vs S=>zwh,fun cl _ vs S r h hw _=>(zu9 h hw).elim⟩
end

def zns{α β:Type}:Option β->Option (α ⊕ β)
 | none=>none
 | some b=>some (.inr b)
def qcg(tt:Nat->Option TI)(fi:FI)(s:SmP)(r:CRes):Option (ElA s.pc ⊕ (ElR s.rts × ElP (refs s.ps))):=match r.e with
 | .pan q=>match qez r.ds r.S with
  | none=>none
  | some _=>match q02 s.pt s.pc q with
   | none=>none
   | some x=>some (.inl x)
 | _=>zns (qdl tt fi s.r r)
section
variable {P : Program} {tt : Nat -> Option TI} {ft : Nat -> Option FI}
theorem zoc{fi:FI}{f:Nat}{nm:Nat->Option Nm}{cl:Cl}{lf:Nat}{s:SmP}{x:ElP s.ps}{o:ElA s.pc ⊕ (ElR s.rts × ElP (refs s.ps))}{r1:CRes}(hm:P.follows .mixedOrders=true)(htt:TT P tt)
  (hfi:∃fn,P.funcs[f]?=some fn/\fn.body=some fi.body/\fn.ntmps=fi.nt/\fn.results=fi.res.toArray/\(fn.name == "runtime.NumGoroutine") = false/\qa8 fi.body=true) (hcl:ClOK P cl) (hfr:ClFr cl)
  (hb:Nat.ble (qan s.ps idN 0 x).length fi.nt=true) (hr1:qad P tt nm (mP s.ps) fi.nt cl lf none fi.body (qau (qan s.ps idN 0 x) 0 .leaf) (Sc s.ps x) []=some r1) (h:qcg tt fi s r1=some o)
  {E:Env} {us:List Value} (p:Pre T0 E (Sc s.ps x)) (hv:VRs E (qan s.ps idN 0 x) us) :
  CallsIn Fence.wide 0 P f us.toArray E.w (RetO s E x o):=by
 unfold qcg at h;split at h
 ·rename_i q he;split at h
  ·cases h
  rename_i mk hmk;obtain⟨S',wr⟩:=mk;split at h<;>cases h;rename_i px hpx;obtain⟨e1,e2⟩:=zll hpx;obtain⟨fn,f1,f2,f3,f4,f5,f6⟩:=hfi;refine jed f1 f2 trivial ?_;refine qgz (T:=T0) (E:=E) (S:=Sc s.ps x) (ds:=[]) (round:=none) (B:=mP s.ps) (fun _ _=>trivial) hm rfl hcl hfr htt fi.body f6 p (by rw[qic];omega) (fun _ _=>trivial) ?_ (DS.nil (N:=E.w.heap.size) (jaq _)) (fun _=>rfl) hr1 (fun _ _=>trivial) (fun _ _=>trivial) ?_
  ·have:=FR.enter (nt:=fi.nt) hv (jan hb);rw[f3];exact this
  intro E1 a1 x1 k0 k1 k2 kB;rw[he] at k0;obtain⟨u,rfl,k0⟩:=k0;have p1:=kB.pre (fun _ _=>trivial) p;have hlv:LeavesInM Fence.wide 0 P fn a1.tmps (PanB E (Sc s.ps x) q) a1.defers (.panicking [{ v:=u,recovered:=false }]) E1.w:=by
   refine qne (E0:=E) (S0':=Sc s.ps x) (B:=mP s.ps) (by simp) (jaq _) (fun _ _=>trivial) p1 k2 kB hmk (fun _ _=>trivial) fun E2 hq p2 hv2=>?_;obtain⟨z1,z2⟩:=zc9 (T:=T0) (W:=fun _=>True) (m:=full (Sc s.ps x).next) (w':=E2.w) p (fun _ _=>trivial) (fun id _ hA=>zr1 (p.bnd id hA)) hq.os hq.tape hq.output hq.size (fun b hb h=>hq.same b hb fun id ht hA hL=>h id trivial hA hL);exact⟨u,rfl,qm6 e2 (hv2 _ _ k0),e2,z1⟩
  rw[e1] at hlv;exact hlv
 ·rename_i hne;cases hq:qdl tt fi s.r r1 with
  | none=>rw[hq] at h;cases h
  | some yz =>
   rw[hq] at h;cases h;obtain⟨y,z⟩:=yz;exact zb4 (s:=s.r) hm htt hfi hcl hfr hb hr1 hq p hv
def atP(P:Program)(tt:Nat->Option TI)(nm:Nat->Option Nm)(fi:FI)(s:SmP)(clK:ClK (ElA s.pc ⊕ (ElR s.rts × ElP (refs s.ps))))(lf:Nat)(hd:Nat->Bool)(k:Nat)(ns:List Nat)(x:NRes):Option (ElA s.pc ⊕ (ElR s.rts × ElP (refs s.ps))) :=
 atNB P tt nm (mP s.ps) fi.nt fi.body clK lf hd (qcg tt fi s) k ns x
variable {nm : Nat -> Option Nm} {lf : Nat} {st hd : Nat -> Bool} {cl : Cl}
theorem qfs(hz:frzF nm=true){fi:FI}{s:SmP}{clK:ClK (ElA s.pc ⊕ (ElR s.rts × ElP (refs s.ps)))}(h:ClEq cl clK)(hn:(regs fi.body).Nodup)(hl:okC nm st hd fi.body none=true)(k:Nat)(ns ns':List Nat)(hd':dn (hd k) ns=some ns')(x:NRes) :
  atP P tt nm fi s clK lf hd k ns x=qbo P tt nm (mP s.ps) fi.nt clK lf st (atP P tt nm fi s clK lf hd) k fi.body [] ns' x (qcg tt fi s):=qvy (q58 hz) h hn hl k ns ns' hd' x
theorem qpq{fi:FI}{s:SmP}{clK:ClK (ElA s.pc ⊕ (ElR s.rts × ElP (refs s.ps)))}(k:Nat)(ns:List Nat)(hd':dn (hd k) ns=none)(x:NRes):atP P tt nm fi s clK lf hd k ns x=none:=qx8 k ns hd' x
theorem conTP{sml:List (Nat × Sm)}{hxl:List (Nat × Hx)}{f:Nat}{s:SmP}{fi:FI}{nmf:Nat->Option Nm}{st hd:Nat->Bool}(n:Nat)(hm:P.follows .mixedOrders=true)(htt:TT P tt)(hft:FT P ft)(hsm:SmOK P sml)
  (hhx:qa1 P hxl) (hC:qam P f) (h3:ft f=some fi) (h4:∀x,Nat.ble (qan s.ps idN 0 x).length fi.nt=true) (hn:(regs fi.body).Nodup) (hl:okC nmf st hd fi.body none=true)
  (hrun:∀(x:ElP s.ps) (o:ElA s.pc ⊕ (ElR s.rts × ElP (refs s.ps))),WfP s.ps x->s.f x=some o->∃lf,
   qbx P tt nmf (mP s.ps) fi.nt (qay P tt ft (fun _ _=>none) (smL sml) (hxL hxl) lf n (ElA s.pc ⊕ (ElR s.rts × ElP (refs s.ps)))) lf st
    (atNB P tt nmf (mP s.ps) fi.nt fi.body (qay P tt ft (fun _ _=>none) (smL sml) (hxL hxl) lf n (ElA s.pc ⊕ (ElR s.rts × ElP (refs s.ps)))) lf hd (qcg tt fi s)) fi.body [] (qau (qan s.ps idN 0 x) 0 .leaf) (Sc s.ps x) [] (qcg tt fi s)=some o)
  (hz:frzF nmf=true:=by rfl):ConP P f s:=by
 have hB0:mB nmf (mP s.ps)=0:=by unfold mB;rw[hz];rfl
 have hex:ExOK P (exH (smL sml) (hxL hxl)):=q0e (qru hsm) (qsg hhx);refine⟨hC,fun E x us o hy p hv=>?_⟩;obtain⟨lf,hr⟩:=hrun x o (za4 p hv) hy;rw[<- qv7 hB0 (qaj n _) hn hl,qes (qaj n _)] at hr;cases hr1:qad P tt nmf (mP s.ps) fi.nt (qcb P tt ft (fun _ _=>none) (exH (smL sml) (hxL hxl)) lf n) lf none fi.body (qau (qan s.ps idN 0 x) 0 .leaf) (Sc s.ps x) [] with
 | none=>rw[hr1] at hr;cases hr
 | some r1 =>
  rw[hr1] at hr;exact zoc hm htt (hft f fi h3) (qh8 hm htt hft hex n) (qgm hex n) (h4 x) hr1 hr p hv
end
end Go.Jx
end

noncomputable section
set_option maxRecDepth 100000
namespace Go.Proofs.YtcnhjofpmpipfaaGreat
open Go Go.Sx Go.RowKit Go.Jx
def qfo:Nat->Option Nm:=fun k=>cond (Nat.beq k 5) (some ⟨[0,1,2,4,5,9,10],[],[],[],[],0,0,false⟩) (cond (Nat.beq k 6) (some ⟨[0,1,2,4,5,9,10],[],[],[],[],0,0,false⟩) (cond (Nat.beq k 11) (some ⟨[0,1,4,9],[],[],[],[],0,0,false⟩) (cond (Nat.beq k 14) (some ⟨[0,1,4,12],[],[],[],[],0,0,false⟩) (cond (Nat.beq k 999999) (some ⟨[],[],[],[],[],0,0,false⟩) none))))
def qgo:Nat->Bool:=fun k=>cond (Nat.beq k 5) true (cond (Nat.beq k 6) true (cond (Nat.beq k 11) true (cond (Nat.beq k 14) true (false))))
def q1d:Nat->Bool:=fun k=>cond (Nat.beq k 5) true (false)
abbrev qa5:Type:=(Int × Unit) ⊕ ((Int × Unit) × (Int × Unit) × (Int × Unit) × Unit × ((List Int) × Unit) × Unit)
def qzv:List (Nat × Sm):=[]
def qyj:List (Nat × Hx):=[]
def qh3(R:Type)(lf:Nat):ClK R:=qay Tryz.prog ttT.get ftT.get (fun _ _=>none) (smL qzv) (hxL qyj) lf 20 R
def qg7(x1:Int)(x2:Int)(x3:Int)(x4:Int)(x5:(List Int))(p:Int × Int × Int):NRes:=(NRes.mk (.node (some (IV.int .i64 x1)) (.node (some (IV.int .i64 x2)) .leaf (.node (some (IV.ptr 3 0)) (.node (some (IV.int .u64 p.1)) .leaf .leaf) .leaf)) (.node (some (IV.ptr 0 0)) (.node (some (IV.ptr 2 0)) .leaf .leaf) (.node none (.node (some (IV.int .i64 p.2.1)) .leaf .leaf) .leaf))) (IS.mk (.node (some (IObj.row [(IV.int .i64 p.2.2)])) (.node (some (IObj.row [(IV.int .i64 x3)])) (.node (some (IObj.row [(IV.lst (TC.int .u8) x5)])) .leaf .leaf) .leaf) (.node (some (IObj.row (List.cons (IV.fn 127 [(IV.ptr 1 0)]) []))) .leaf .leaf)) 4) [] 0)
def qt8(x1:Int)(x2:Int)(x3:Int)(x4:Int)(x5:(List Int))(p:Int × Int × Int):NRes:=(NRes.mk (.node (some (IV.int .i64 x1)) (.node (some (IV.int .i64 x2)) .leaf (.node (some (IV.ptr 3 0)) (.node (some (IV.int .u64 p.1)) .leaf .leaf) .leaf)) (.node (some (IV.ptr 0 0)) (.node (some (IV.ptr 2 0)) .leaf .leaf) (.node none (.node (some (IV.int .i64 p.2.1)) .leaf .leaf) .leaf))) (IS.mk (.node (some (IObj.row [(IV.int .i64 p.2.2)])) (.node (some (IObj.row [(IV.int .i64 x3)])) (.node (some (IObj.row [(IV.lst (TC.int .u8) x5)])) .leaf .leaf) .leaf) (.node (some (IObj.row (List.cons (IV.fn 127 [(IV.ptr 1 0)]) []))) .leaf .leaf)) 4) [] 0)
def qq9(x1:Int)(x2:Int)(x3:Int)(x4:Int)(x5:(List Int))(p:Int × Int):NRes:=(NRes.mk (.node (some (IV.int .i64 x1)) (.node (some (IV.int .i64 x2)) .leaf (.node none (.node (some (IV.int .u64 p.1)) .leaf .leaf) .leaf)) (.node none (.node (some (IV.ptr 2 0)) .leaf .leaf) .leaf)) (IS.mk (.node (some (IObj.row [(IV.int .i64 p.2)])) (.node (some (IObj.row [(IV.int .i64 x3)])) (.node (some (IObj.row [(IV.lst (TC.int .u8) x5)])) .leaf .leaf) .leaf) (.node (some (IObj.row (List.cons (IV.fn 127 [(IV.ptr 1 0)]) []))) .leaf .leaf)) 4) [] 0)
def qsj(x1:Int)(x2:Int)(x3:Int)(x4:Int)(x5:(List Int))(p:Int × Int):NRes:=(NRes.mk (.node (some (IV.int .i64 x1)) (.node (some (IV.int .i64 x2)) .leaf .leaf) (.node none (.node (some (IV.ptr 2 0)) .leaf (.node (some (IV.int .i64 p.1)) .leaf .leaf)) .leaf)) (IS.mk (.node (some (IObj.row [(IV.int .i64 p.2)])) (.node (some (IObj.row [(IV.int .i64 x3)])) (.node (some (IObj.row [(IV.lst (TC.int .u8) x5)])) .leaf .leaf) .leaf) (.node (some (IObj.row (List.cons (IV.fn 127 [(IV.ptr 1 0)]) []))) .leaf .leaf)) 4) [] 0)
def qxa(lf:Nat)(x1:Int)(x2:Int)(x3:Int)(x4:Int)(x5:(List Int))(L5:(Int × Int × Int)->Option qa5):Option qa5:=(L5 ((Int.ofNat 0),(Int.ofNat 0),x3))
def qhy(lf:Nat)(x1:Int)(x2:Int)(x3:Int)(x4:Int)(x5:(List Int))(L6:(Int × Int × Int)->Option qa5)(p:Int × Int × Int):Option qa5:=(cond (iltI p.2.2 (Int.ofNat x5.length)) (cond (Bool.not (iltI p.2.1 (Int.ofNat 8))) (some (Sum.inl (x3,()))) (L6 (p.1,p.2.1,p.2.2))) (some (Sum.inl (x3,()))))
def qw1(lf:Nat)(x1:Int)(x2:Int)(x3:Int)(x4:Int)(x5:(List Int))(L11:(Int × Int)->Option qa5)(L5:(Int × Int × Int)->Option qa5)(p:Int × Int × Int):Option qa5:=(match (jget x5 p.2.2) with|none=>none|some v0=>(cond (iltI (IntKind.i64.wrap (Int.mul (Int.ofNat 7) p.2.1)) (Int.ofNat 0)) none (cond (iltI v0 (Int.ofNat 128)) (cond (ieqI p.2.1 (Int.ofNat 0)) (L11 ((ior IntKind.u64 p.1 (ishl IntKind.u64 (IntKind.wrap IntKind.u64 (iand IntKind.u8 v0 (Int.ofNat 127))) (IntKind.i64.wrap (Int.mul (Int.ofNat 7) p.2.1)))),(IntKind.i64.wrap (Int.add p.2.2 (Int.ofNat 1))))) (cond (Bool.not (iltI (Int.ofNat 0) v0)) (some (Sum.inl (x3,()))) (L11 ((ior IntKind.u64 p.1 (ishl IntKind.u64 (IntKind.wrap IntKind.u64 (iand IntKind.u8 v0 (Int.ofNat 127))) (IntKind.i64.wrap (Int.mul (Int.ofNat 7) p.2.1)))),(IntKind.i64.wrap (Int.add p.2.2 (Int.ofNat 1))))))) (L5 ((ior IntKind.u64 p.1 (ishl IntKind.u64 (IntKind.wrap IntKind.u64 (iand IntKind.u8 v0 (Int.ofNat 127))) (IntKind.i64.wrap (Int.mul (Int.ofNat 7) p.2.1)))),(IntKind.i64.wrap (Int.add p.2.1 (Int.ofNat 1))),(IntKind.i64.wrap (Int.add p.2.2 (Int.ofNat 1))))))))
def qx9(lf:Nat)(x1:Int)(x2:Int)(x3:Int)(x4:Int)(x5:(List Int))(L14:(Int × Int)->Option qa5)(p:Int × Int):Option qa5:=(cond (ieqI (iand IntKind.u64 p.1 (Int.ofNat 1)) (Int.ofNat 1)) (L14 ((IntKind.i64.wrap (Int.sub (IntKind.i64.wrap (Int.sub (Int.ofNat 0) (IntKind.i64.wrap (Int.fdiv p.1 (Int.ofNat 2))))) (Int.ofNat 1))),p.2)) (L14 ((IntKind.i64.wrap (Int.fdiv p.1 (Int.ofNat 2))),p.2)))
def qx5(lf:Nat)(x1:Int)(x2:Int)(x3:Int)(x4:Int)(x5:(List Int))(p:Int × Int):Option qa5:=(cond (Bool.not (iltI p.1 x1)) (cond (Bool.not (Bool.not (iltI x2 p.1))) (some (Sum.inl (x3,()))) (some (Sum.inr ((p.1,()),((p.2,()),((x3,()),((),((x5,()),())))))))) (some (Sum.inl (x3,()))))
theorem z1v(g:ElP [.dat (.int .i64),.dat (.int .i64),.ref (.box [.dat (.int .i64)]),.ref (.box [.dat (.int .i64)]),.ref (.clo 127 [1]),.ref (.box [.dat (.list (.int .u8))])]->Option qa5)(J:Nat->List Nat->NRes->Option qa5)(lf:Nat)(x1:Int)(x2:Int)(x3:Int)(x4:Int)(x5:(List Int)):qbx Tryz.prog ttT.get qfo (mP [.dat (.int .i64),.dat (.int .i64),.ref (.box [.dat (.int .i64)]),.ref (.box [.dat (.int .i64)]),.ref (.clo 127 [1]),.ref (.box [.dat (.list (.int .u8))])]) qb0.nt (qh3 _ lf) lf qgo J qb0.body [] (qau (qan [.dat (.int .i64),.dat (.int .i64),.ref (.box [.dat (.int .i64)]),.ref (.box [.dat (.int .i64)]),.ref (.clo 127 [1]),.ref (.box [.dat (.list (.int .u8))])] idN 0 (x1,x2,(x3,()),(x4,()),(),(x5,()),())) 0 .leaf) (Sc [.dat (.int .i64),.dat (.int .i64),.ref (.box [.dat (.int .i64)]),.ref (.box [.dat (.int .i64)]),.ref (.clo 127 [1]),.ref (.box [.dat (.list (.int .u8))])] (x1,x2,(x3,()),(x4,()),(),(x5,()),())) [] (qcg ttT.get qb0 ⟨[.dat (.int .i64),.dat (.int .i64),.ref (.box [.dat (.int .i64)]),.ref (.box [.dat (.int .i64)]),.ref (.clo 127 [1]),.ref (.box [.dat (.list (.int .u8))])],[(false,(.int .i64))],156,[(.int .i64)],g⟩)=qxa lf x1 x2 x3 x4 x5 (fun q=>J 5 [lf] (qg7 x1 x2 x3 x4 x5 q)):=by kernel_rfl
theorem zjo(g:ElP [.dat (.int .i64),.dat (.int .i64),.ref (.box [.dat (.int .i64)]),.ref (.box [.dat (.int .i64)]),.ref (.clo 127 [1]),.ref (.box [.dat (.list (.int .u8))])]->Option qa5)(J:Nat->List Nat->NRes->Option qa5)(lf:Nat)(x1:Int)(x2:Int)(x3:Int)(x4:Int)(x5:(List Int))(m1:Nat)(p:Int × Int × Int):qbo Tryz.prog ttT.get qfo (mP [.dat (.int .i64),.dat (.int .i64),.ref (.box [.dat (.int .i64)]),.ref (.box [.dat (.int .i64)]),.ref (.clo 127 [1]),.ref (.box [.dat (.list (.int .u8))])]) qb0.nt (qh3 _ lf) lf qgo J 5 qb0.body [] [m1] (qg7 x1 x2 x3 x4 x5 p) (qcg ttT.get qb0 ⟨[.dat (.int .i64),.dat (.int .i64),.ref (.box [.dat (.int .i64)]),.ref (.box [.dat (.int .i64)]),.ref (.clo 127 [1]),.ref (.box [.dat (.list (.int .u8))])],[(false,(.int .i64))],156,[(.int .i64)],g⟩)=qhy lf x1 x2 x3 x4 x5 (fun q=>J 6 [m1] (qt8 x1 x2 x3 x4 x5 q)) p:=by kernel_rfl
theorem zl8(g:ElP [.dat (.int .i64),.dat (.int .i64),.ref (.box [.dat (.int .i64)]),.ref (.box [.dat (.int .i64)]),.ref (.clo 127 [1]),.ref (.box [.dat (.list (.int .u8))])]->Option qa5)(J:Nat->List Nat->NRes->Option qa5)(lf:Nat)(x1:Int)(x2:Int)(x3:Int)(x4:Int)(x5:(List Int))(m1:Nat)(p:Int × Int × Int):qbo Tryz.prog ttT.get qfo (mP [.dat (.int .i64),.dat (.int .i64),.ref (.box [.dat (.int .i64)]),.ref (.box [.dat (.int .i64)]),.ref (.clo 127 [1]),.ref (.box [.dat (.list (.int .u8))])]) qb0.nt (qh3 _ lf) lf qgo J 6 qb0.body [] [m1] (qt8 x1 x2 x3 x4 x5 p) (qcg ttT.get qb0 ⟨[.dat (.int .i64),.dat (.int .i64),.ref (.box [.dat (.int .i64)]),.ref (.box [.dat (.int .i64)]),.ref (.clo 127 [1]),.ref (.box [.dat (.list (.int .u8))])],[(false,(.int .i64))],156,[(.int .i64)],g⟩)=qw1 lf x1 x2 x3 x4 x5 (fun q=>J 11 [] (qq9 x1 x2 x3 x4 x5 q)) (fun q=>J 5 [m1] (qg7 x1 x2 x3 x4 x5 q)) p:=by kernel_rfl
theorem zkb(g:ElP [.dat (.int .i64),.dat (.int .i64),.ref (.box [.dat (.int .i64)]),.ref (.box [.dat (.int .i64)]),.ref (.clo 127 [1]),.ref (.box [.dat (.list (.int .u8))])]->Option qa5)(J:Nat->List Nat->NRes->Option qa5)(lf:Nat)(x1:Int)(x2:Int)(x3:Int)(x4:Int)(x5:(List Int))(p:Int × Int):qbo Tryz.prog ttT.get qfo (mP [.dat (.int .i64),.dat (.int .i64),.ref (.box [.dat (.int .i64)]),.ref (.box [.dat (.int .i64)]),.ref (.clo 127 [1]),.ref (.box [.dat (.list (.int .u8))])]) qb0.nt (qh3 _ lf) lf qgo J 11 qb0.body [] [] (qq9 x1 x2 x3 x4 x5 p) (qcg ttT.get qb0 ⟨[.dat (.int .i64),.dat (.int .i64),.ref (.box [.dat (.int .i64)]),.ref (.box [.dat (.int .i64)]),.ref (.clo 127 [1]),.ref (.box [.dat (.list (.int .u8))])],[(false,(.int .i64))],156,[(.int .i64)],g⟩)=qx9 lf x1 x2 x3 x4 x5 (fun q=>J 14 [] (qsj x1 x2 x3 x4 x5 q)) p:=by kernel_rfl
theorem z00(g:ElP [.dat (.int .i64),.dat (.int .i64),.ref (.box [.dat (.int .i64)]),.ref (.box [.dat (.int .i64)]),.ref (.clo 127 [1]),.ref (.box [.dat (.list (.int .u8))])]->Option qa5)(J:Nat->List Nat->NRes->Option qa5)(lf:Nat)(x1:Int)(x2:Int)(x3:Int)(x4:Int)(x5:(List Int))(p:Int × Int):qbo Tryz.prog ttT.get qfo (mP [.dat (.int .i64),.dat (.int .i64),.ref (.box [.dat (.int .i64)]),.ref (.box [.dat (.int .i64)]),.ref (.clo 127 [1]),.ref (.box [.dat (.list (.int .u8))])]) qb0.nt (qh3 _ lf) lf qgo J 14 qb0.body [] [] (qsj x1 x2 x3 x4 x5 p) (qcg ttT.get qb0 ⟨[.dat (.int .i64),.dat (.int .i64),.ref (.box [.dat (.int .i64)]),.ref (.box [.dat (.int .i64)]),.ref (.clo 127 [1]),.ref (.box [.dat (.list (.int .u8))])],[(false,(.int .i64))],156,[(.int .i64)],g⟩)=qx5 lf x1 x2 x3 x4 x5 p:=by kernel_rfl
theorem qlr:(regs qb0.body).Nodup:=by decide +kernel
theorem qpi:okC qfo qgo q1d qb0.body none=true:=by kernel_rfl
def Az24(g:ElP [.dat (.int .i64),.dat (.int .i64),.ref (.box [.dat (.int .i64)]),.ref (.box [.dat (.int .i64)]),.ref (.clo 127 [1]),.ref (.box [.dat (.list (.int .u8))])]->Option qa5)(lf:Nat):Nat->List Nat->NRes->Option qa5:=atP Tryz.prog ttT.get qfo qb0 ⟨[.dat (.int .i64),.dat (.int .i64),.ref (.box [.dat (.int .i64)]),.ref (.box [.dat (.int .i64)]),.ref (.clo 127 [1]),.ref (.box [.dat (.list (.int .u8))])],[(false,(.int .i64))],156,[(.int .i64)],g⟩ (qh3 _ lf) lf q1d
def qke(lf:Nat)(x1:Int)(x2:Int)(x3:Int)(x4:Int)(x5:(List Int))(p:Int × Int):Option qa5:=qx5 lf x1 x2 x3 x4 x5 p
theorem zg8(g:ElP [.dat (.int .i64),.dat (.int .i64),.ref (.box [.dat (.int .i64)]),.ref (.box [.dat (.int .i64)]),.ref (.clo 127 [1]),.ref (.box [.dat (.list (.int .u8))])]->Option qa5)(lf:Nat)(x1:Int)(x2:Int)(x3:Int)(x4:Int)(x5:(List Int))(p:Int × Int):Az24 g lf 14 [] (qsj x1 x2 x3 x4 x5 p)=qke lf x1 x2 x3 x4 x5 p:=by
  refine(qfs rfl (qaj 20 _) qlr qpi 14 [] [] rfl _).trans ((z00 g (Az24 g lf) lf x1 x2 x3 x4 x5 p).trans ?_);rfl
def qg9(lf:Nat)(x1:Int)(x2:Int)(x3:Int)(x4:Int)(x5:(List Int))(p:Int × Int):Option qa5:=qx9 lf x1 x2 x3 x4 x5 (fun q=>qke lf x1 x2 x3 x4 x5 q) p
theorem z2k(g:ElP [.dat (.int .i64),.dat (.int .i64),.ref (.box [.dat (.int .i64)]),.ref (.box [.dat (.int .i64)]),.ref (.clo 127 [1]),.ref (.box [.dat (.list (.int .u8))])]->Option qa5)(lf:Nat)(x1:Int)(x2:Int)(x3:Int)(x4:Int)(x5:(List Int))(p:Int × Int):Az24 g lf 11 [] (qq9 x1 x2 x3 x4 x5 p)=qg9 lf x1 x2 x3 x4 x5 p:=by
  refine(qfs rfl (qaj 20 _) qlr qpi 11 [] [] rfl _).trans ((zkb g (Az24 g lf) lf x1 x2 x3 x4 x5 p).trans ?_);rw[(show (fun q=>Az24 g lf 14 [] (qsj x1 x2 x3 x4 x5 q))=(fun q=>qke lf x1 x2 x3 x4 x5 q) from funext fun q=>zg8 g lf x1 x2 x3 x4 x5 q)];rfl
def qgf(lf:Nat)(x1:Int)(x2:Int)(x3:Int)(x4:Int)(x5:(List Int))(K5:(Int × Int × Int)->Option qa5)(p:Int × Int × Int):Option qa5:=qw1 lf x1 x2 x3 x4 x5 (fun q=>qg9 lf x1 x2 x3 x4 x5 q) K5 p
theorem zx1(g:ElP [.dat (.int .i64),.dat (.int .i64),.ref (.box [.dat (.int .i64)]),.ref (.box [.dat (.int .i64)]),.ref (.clo 127 [1]),.ref (.box [.dat (.list (.int .u8))])]->Option qa5)(lf:Nat)(x1:Int)(x2:Int)(x3:Int)(x4:Int)(x5:(List Int))(m1:Nat)(p:Int × Int × Int):Az24 g lf 6 [m1] (qt8 x1 x2 x3 x4 x5 p)=qgf lf x1 x2 x3 x4 x5 (fun q=>Az24 g lf 5 [m1] (qg7 x1 x2 x3 x4 x5 q)) p:=by
  refine(qfs rfl (qaj 20 _) qlr qpi 6 [m1] [m1] rfl _).trans ((zl8 g (Az24 g lf) lf x1 x2 x3 x4 x5 m1 p).trans ?_);rw[(show (fun q=>Az24 g lf 11 [] (qq9 x1 x2 x3 x4 x5 q))=(fun q=>qg9 lf x1 x2 x3 x4 x5 q) from funext fun q=>z2k g lf x1 x2 x3 x4 x5 q)];rfl
def qoi(lf:Nat)(x1:Int)(x2:Int)(x3:Int)(x4:Int)(x5:(List Int)):Nat->(Int × Int × Int)->Option qa5:=rounds fun K p=>qhy lf x1 x2 x3 x4 x5 (fun q=>qgf lf x1 x2 x3 x4 x5 K q) p
theorem q6g(g:ElP [.dat (.int .i64),.dat (.int .i64),.ref (.box [.dat (.int .i64)]),.ref (.box [.dat (.int .i64)]),.ref (.clo 127 [1]),.ref (.box [.dat (.list (.int .u8))])]->Option qa5)(lf:Nat)(x1:Int)(x2:Int)(x3:Int)(x4:Int)(x5:(List Int)):∀(n:Nat) (p:Int × Int × Int),Az24 g lf 5 [n] (qg7 x1 x2 x3 x4 x5 p)=qoi lf x1 x2 x3 x4 x5 n p
 | 0,p=>qpq 5 [0] rfl _
 | n+1,p=>by
  have ih:=q6g g lf x1 x2 x3 x4 x5 n;refine(qfs rfl (qaj 20 _) qlr qpi 5 [n+1] [n] rfl _).trans ((zjo g (Az24 g lf) lf x1 x2 x3 x4 x5 n p).trans ?_);rw[(show (fun q=>Az24 g lf 6 [n] (qt8 x1 x2 x3 x4 x5 q))=(fun q=>qgf lf x1 x2 x3 x4 x5 (fun q=>Az24 g lf 5 [n] (qg7 x1 x2 x3 x4 x5 q)) q) from funext fun q=>zx1 g lf x1 x2 x3 x4 x5 n q),(show (fun q=>Az24 g lf 5 [n] (qg7 x1 x2 x3 x4 x5 q))=(fun q=>qoi lf x1 x2 x3 x4 x5 n q) from funext ih)];rfl
def Fz24(lf:Nat)(x1:Int)(x2:Int)(x3:Int)(x4:Int)(x5:(List Int)):Option qa5:=qxa lf x1 x2 x3 x4 x5 (fun q=>qoi lf x1 x2 x3 x4 x5 lf q)
theorem zts(g:ElP [.dat (.int .i64),.dat (.int .i64),.ref (.box [.dat (.int .i64)]),.ref (.box [.dat (.int .i64)]),.ref (.clo 127 [1]),.ref (.box [.dat (.list (.int .u8))])]->Option qa5)(lf:Nat)(x1:Int)(x2:Int)(x3:Int)(x4:Int)(x5:(List Int)):qbx Tryz.prog ttT.get qfo (mP [.dat (.int .i64),.dat (.int .i64),.ref (.box [.dat (.int .i64)]),.ref (.box [.dat (.int .i64)]),.ref (.clo 127 [1]),.ref (.box [.dat (.list (.int .u8))])]) qb0.nt (qh3 _ lf) lf qgo (Az24 g lf) qb0.body [] (qau (qan [.dat (.int .i64),.dat (.int .i64),.ref (.box [.dat (.int .i64)]),.ref (.box [.dat (.int .i64)]),.ref (.clo 127 [1]),.ref (.box [.dat (.list (.int .u8))])] idN 0 (x1,x2,(x3,()),(x4,()),(),(x5,()),())) 0 .leaf) (Sc [.dat (.int .i64),.dat (.int .i64),.ref (.box [.dat (.int .i64)]),.ref (.box [.dat (.int .i64)]),.ref (.clo 127 [1]),.ref (.box [.dat (.list (.int .u8))])] (x1,x2,(x3,()),(x4,()),(),(x5,()),())) [] (qcg ttT.get qb0 ⟨[.dat (.int .i64),.dat (.int .i64),.ref (.box [.dat (.int .i64)]),.ref (.box [.dat (.int .i64)]),.ref (.clo 127 [1]),.ref (.box [.dat (.list (.int .u8))])],[(false,(.int .i64))],156,[(.int .i64)],g⟩)=Fz24 lf x1 x2 x3 x4 x5:=by
  refine(z1v g (Az24 g lf) lf x1 x2 x3 x4 x5).trans ?_;rw[(show (fun q=>Az24 g lf 5 [lf] (qg7 x1 x2 x3 x4 x5 q))=(fun q=>qoi lf x1 x2 x3 x4 x5 lf q) from funext fun q=>q6g g lf x1 x2 x3 x4 x5 lf q)];rfl
theorem zxn:qa1 Tryz.prog qyj:=trivial
theorem zvk{g:ElP [.dat (.int .i64),.dat (.int .i64),.ref (.box [.dat (.int .i64)]),.ref (.box [.dat (.int .i64)]),.ref (.clo 127 [1]),.ref (.box [.dat (.list (.int .u8))])]->Option qa5}(hsm:SmOK Tryz.prog qzv)(hg:∀(x:ElP [.dat (.int .i64),.dat (.int .i64),.ref (.box [.dat (.int .i64)]),.ref (.box [.dat (.int .i64)]),.ref (.clo 127 [1]),.ref (.box [.dat (.list (.int .u8))])]) (y:qa5),WfP [.dat (.int .i64),.dat (.int .i64),.ref (.box [.dat (.int .i64)]),.ref (.box [.dat (.int .i64)]),.ref (.clo 127 [1]),.ref (.box [.dat (.list (.int .u8))])] x->g x=some y->∃lf,Fz24 lf x.1 x.2.1 x.2.2.1.1 x.2.2.2.1.1 x.2.2.2.2.2.1.1=some y):ConP Tryz.prog 128 ⟨[.dat (.int .i64),.dat (.int .i64),.ref (.box [.dat (.int .i64)]),.ref (.box [.dat (.int .i64)]),.ref (.clo 127 [1]),.ref (.box [.dat (.list (.int .u8))])],[(false,(.int .i64))],156,[(.int .i64)],g⟩ :=
 conTP (nmf:=qfo) (sml:=qzv) (hxl:=qyj) (st:=qgo) (hd:=q1d) 20 qd5 ttOK ftOK hsm zxn zyw (by kernel_rfl) (fun x=>by kernel_rfl) qlr qpi fun x y hx hy=>by
  obtain⟨lf,h⟩:=hg x y hx hy;exact⟨lf,(zts g lf x.1 x.2.1 x.2.2.1.1 x.2.2.2.1.1 x.2.2.2.2.2.1.1).trans h⟩
namespace S
def rdU:Bool->Nat->List Int->Option (Int × List Int)
 | _,0,_=>none
 | _,_+1,[]=>none
 | f,n+1,c::r=>if c<128 then (if f=true\/0<c then some (c,r) else none) else match rdU false n r with
  | some (u,r')=>some (c % 128+128*u,r')
  | none=>none
def unz(u:Int):Int:=if u % 2=1 then -(u / 2)-1 else u / 2
def rd(lo hi:Int)(l:List Int):Option (Int × List Int):=match rdU true 8 l with
 | some (u,r)=>if lo<=unz u/\unz u<=hi then some (unz u,r) else none
 | none=>none
end S
theorem qy2:∀(n:Nat) (f:Bool) (l:List Int) (u:Int) (r:List Int),S.rdU f n l=some (u,r)->(∀c∈l,0<=c/\c<=255)->(∃p,l=p++r/\0<p.length)/\0<=u/\u<128 ^ n
 | 0,f,l,u,r,h,hb=>by simp[S.rdU] at h
 | n+1,f,[],u,r,h,hb=>by simp[S.rdU] at h
 | n+1,f,c::l,u,r,h,hb=>by
  have hc:=hb c (by simp);have hp:(0:Int)<128 ^ n:=Int.pow_pos (by omega);unfold S.rdU at h;split at h
  ·split at h<;>cases h;exact⟨⟨[c],rfl,by simp⟩,hc.1,by rw[jej];omega⟩
  ·split at h<;>cases h;rename_i u' hu;obtain⟨⟨p,e,hp'⟩,h1,h2⟩:=qy2 n false l u' r hu fun x hx=>hb x (by simp[hx]);refine⟨⟨c::p,by rw[e];rfl,by simp⟩,by omega,?_⟩;rw[jej];generalize (128:Int) ^ n=q at h2 hp ⊢;omega
def quc:SmP:=⟨[.dat (.int .i64),.dat (.int .i64),.ref (.box [.dat (.int .i64)]),.ref (.box [.dat (.int .i64)]),.ref (.clo 127 [1]),.ref (.box [.dat (.list (.int .u8))])],[(false,(.int .i64))],156,[(.int .i64)],fun x =>
 cond (Bool.not (iltI x.2.2.1.1 0)&&Bool.not (iltI (Int.ofNat (List.length (α:=Int) x.2.2.2.2.2.1.1)) x.2.2.1.1)) (match S.rd x.1 x.2.1 (List.drop (α:=Int) x.2.2.1.1.toNat x.2.2.2.2.2.1.1) with
  | none=>some (Sum.inl (x.2.2.1.1,()))
  | some q=>some (Sum.inr ((q.1,()),((Int.ofNat (List.length (α:=Int) x.2.2.2.2.2.1.1-List.length (α:=Int) q.2),()),((x.2.2.1.1,()),((),((x.2.2.2.2.2.1.1,()),()))))))) none⟩
theorem zia:∀c:Fin 256,(c.val &&& 127)=c.val % 128:=by decide +kernel
theorem and7{c:Int}(h0:0<=c)(h1:c<=255):iand .u8 c (Int.ofNat 127)=c % 128:=by
 obtain⟨n,rfl⟩:∃n:Nat,c=n:=⟨c.toNat,by omega⟩;have hn:n<256:=by omega
 have:=zia ⟨n,hn⟩;simp only at this;have e:(BitVec.ofInt 8 (n:Int) &&& BitVec.ofInt 8 127).toNat=n % 128:=by
  rw[BitVec.toNat_and,jdi,jdi];have e1:((n:Int) % ((2 ^ 8:Nat):Int)).toNat=n:=by omega
  have e2:((127:Int) % ((2 ^ 8:Nat):Int)).toNat=127:=by decide
  rw[e1,e2,this]
 show IntKind.u8.wrap (((BitVec.ofInt 8 (n:Int) &&& BitVec.ofInt 8 127).toNat:Nat):Int)=_;rw[e,w8];omega
theorem and1{u:Int}(h0:0<=u)(h1:u<18446744073709551616):iand .u64 u (Int.ofNat 1)=u % 2:=by
 obtain⟨n,rfl⟩:∃n:Nat,u=n:=⟨u.toNat,by omega⟩;have e:(BitVec.ofInt 64 (n:Int) &&& BitVec.ofInt 64 1).toNat=n % 2:=by
  rw[BitVec.toNat_and,jdi,jdi];have e1:((n:Int) % ((2 ^ 64:Nat):Int)).toNat=n:=by omega
  have e2:((1:Int) % ((2 ^ 64:Nat):Int)).toNat=1:=by decide
  rw[e1,e2,Nat.and_one_is_mod]
 show IntKind.u64.wrap (((BitVec.ofInt 64 (n:Int) &&& BitVec.ofInt 64 1).toNat:Nat):Int)=_;rw[e,wu64 (by omega) (by omega)];omega
theorem orsh{u c:Int}{k:Nat}(hk:k<8)(h0:0<=u)(h1:u<128 ^ k)(hc:0<=c)(hc1:c<128):ior .u64 u (ishl .u64 c (Int.ofNat (7*k)))=u+c*128 ^ k:=by
 obtain⟨n,rfl⟩:∃n:Nat,u=n:=⟨u.toNat,by omega⟩;obtain⟨m,rfl⟩:∃m:Nat,c=m:=⟨c.toNat,by omega⟩;have hp:(128:Int) ^ k=((2 ^ (7*k):Nat):Int):=by rw[Nat.pow_mul];push_cast;rfl
 rw[hp] at h1 ⊢;have hn:n<2 ^ (7*k):=by omega
 have hq:2 ^ (7*k)<=562949953421312:=by
  have:=jew (n:=2) (by omega) (show 7*k<=49 by omega);exact this
 have hm:m*2 ^ (7*k)<=127*562949953421312:=Nat.mul_le_mul (by omega) hq;have hm2:(m:Int)*((2 ^ (7*k):Nat):Int)=((m*2 ^ (7*k):Nat):Int):=by push_cast;rfl
 have e0:ishl .u64 (m:Int) (Int.ofNat (7*k))=((m*2 ^ (7*k):Nat):Int):=by
  show IntKind.u64.wrap ((m:Int)*2 ^ (min (Int.toNat (Int.ofNat (7*k))) 64))=_;rw[show Int.toNat (Int.ofNat (7*k))=7*k from rfl,Nat.min_eq_left (by omega),show (2:Int) ^ (7*k)=((2 ^ (7*k):Nat):Int) by push_cast;rfl,hm2,wu64 (by omega) (by omega)]
 rw[e0,hm2];have e:(BitVec.ofInt 64 (n:Int) ||| BitVec.ofInt 64 ((m*2 ^ (7*k):Nat):Int)).toNat=n+m*2 ^ (7*k):=by
  rw[BitVec.toNat_or,jdi,jdi];generalize hz:m*2 ^ (7*k)=z at hm ⊢;have e1:((n:Int) % ((2 ^ 64:Nat):Int)).toNat=n:=by omega
  have e2:((z:Int) % ((2 ^ 64:Nat):Int)).toNat=z:=by omega
  rw[e1,e2,<- hz,Nat.or_comm,je4,<- Nat.two_pow_add_eq_or_of_lt hn];omega
 show IntKind.u64.wrap (((BitVec.ofInt 64 (n:Int) ||| BitVec.ofInt 64 ((m*2 ^ (7*k):Nat):Int)).toNat:Nat):Int)=_;rw[e,wu64 (by omega) (by omega)];push_cast;rfl
section
variable {x1 x2 a : Int} {x4 : Int} {b : List Int}
theorem q7a(hb:∀c∈b,0<=c/\c<=255)(hl:b.length<=140737488355328)(L11:(Int × Int)->Option qa5)(hL:L11=fun q=>qg9 LF x1 x2 a x4 b q):∀(n k:Nat) (u at_:Int) (lf:Nat),k+n=8->n<lf->0<=u->u<128 ^ k->0<=at_->at_<=b.length ->
  rounds (fun K p=>qhy LF x1 x2 a x4 b (fun q=>qgf LF x1 x2 a x4 b K q) p) lf (u,Int.ofNat k,at_)=(match S.rdU (Nat.beq k 0) n (b.drop at_.toNat) with
   | some (v,r)=>L11 (u+v*128 ^ k,Int.ofNat (b.length-r.length))
   | none=>some (Sum.inl (a,())))
 | n,k,u,at_,0,hk,hn,h0,h1,ha,ha2=>by omega
 | n,k,u,at_,lf+1,hk,hn,h0,h1,ha,ha2=>by
  have ih:=fun n' k' u' at'=>q7a hb hl L11 hL n' k' u' at' lf;show qhy LF x1 x2 a x4 b (fun q=>qgf LF x1 x2 a x4 b (rounds (fun K p=>qhy LF x1 x2 a x4 b (fun q=>qgf LF x1 x2 a x4 b K q) p) lf) q) _=_;generalize rounds (fun K p=>qhy LF x1 x2 a x4 b (fun q=>qgf LF x1 x2 a x4 b K q) p) lf=Z at ih ⊢;simp only[qhy,qal];by_cases hlt:at_<(b.length:Int)
  ·have hlt':at_<Int.ofNat b.length:=hlt;rw[jaf hlt',jaa];cases n with
   | zero =>
    have:¬(Int.ofNat k<Int.ofNat 8):=by show ¬((k:Int)<8);omega
    rw[jae this];rfl
   | succ n =>
    have h8:Int.ofNat k<Int.ofNat 8:=by show (k:Int)<8;omega
    rw[jaf h8,ja1,jad];obtain⟨i,rfl⟩:∃i:Nat,at_=i:=⟨at_.toNat,by omega⟩;have hi:i<b.length:=by omega
    have hget:jget b (i:Int)=some b[i]:=by rw[show ((i:Nat):Int)=Int.ofNat i from rfl,qbz,jab hi]
    have hd:b.drop (Int.toNat (i:Int))=b[i]::b.drop (i+1):=by rw[jcu];exact jbd hi
    have hc:=hb b[i] (ja3 hi);simp only[qgf,<- hL,qw1,hget,hd];generalize b[i]=c at hc ⊢;have e7:IntKind.i64.wrap (Int.mul (Int.ofNat 7) (Int.ofNat k))=Int.ofNat (7*k):=by
     rw[show Int.mul (Int.ofNat 7) (Int.ofNat k)=((7*k:Nat):Int) by push_cast;rfl,w64 (by omega) (by omega)];rfl
    have e8:iltI (Int.ofNat (7*k)) (Int.ofNat 0)=false:=by rw[qal];exact jae (by show ¬(((7*k:Nat):Int)<0);omega)
    have e9:IntKind.u64.wrap (iand .u8 c (Int.ofNat 127))=c % 128:=by rw[and7 hc.1 hc.2,wu64 (by omega) (by omega)]
    have e10:=orsh (u:=u) (c:=c % 128) (k:=k) (by omega) h0 h1 (by omega) (by omega);have e11:IntKind.i64.wrap (Int.add ((i:Nat):Int) (Int.ofNat 1))=((i+1:Nat):Int):=by
     rw[show Int.add ((i:Nat):Int) (Int.ofNat 1)=((i+1:Nat):Int) from rfl,w64 (by omega) (by omega)]
    have e12:IntKind.i64.wrap (Int.add (Int.ofNat k) (Int.ofNat 1))=Int.ofNat (k+1):=by
     rw[show Int.add (Int.ofNat k) (Int.ofNat 1)=((k+1:Nat):Int) from rfl,w64 (by omega) (by omega)];rfl
    rw[e7,e9,e10,e11,e12];simp only[qal,qat];rw[jae (show ¬(Int.ofNat (7*k)<Int.ofNat 0) by show ¬(((7*k:Nat):Int)<0);omega),jad];unfold S.rdU;by_cases h128:c<128
    ·rw[jaf (show c<Int.ofNat 128 from h128),jaa,jal h128];have hcm:c % 128=c:=by omega
     rw[hcm];have hat:((i+1:Nat):Int)=Int.ofNat (b.length-(b.drop (i+1)).length):=by
      rw[jd8];show ((i+1:Nat):Int)=((b.length-(b.length-(i+1)):Nat):Int);omega
     cases k with
     | zero =>
      rw[jaf (show Int.ofNat 0=Int.ofNat 0 from rfl),jaa,jal (.inl rfl),hat]
     | succ k =>
      rw[jae (show ¬(Int.ofNat (k+1)=Int.ofNat 0) by intro h;cases h),jad];by_cases hz:0<c
      ·rw[jaf (show Int.ofNat 0<c from hz),ja1,jad,jal (.inr hz),hat]
      ·rw[jae (show ¬Int.ofNat 0<c from hz),jax,jaa,jak (by rintro(h|h);cases h;exact hz h)]
    ·rw[jae (show ¬c<Int.ofNat 128 from h128),jad,jak h128];have hp:(0:Int)<128 ^ k:=Int.pow_pos (by omega);have:=ih n (k+1) (u+c % 128*128 ^ k) ((i+1:Nat):Int) (by omega) (by omega) (by
      have:=Int.mul_nonneg (show 0<=c % 128 by omega) (jeg hp);omega) (by
      rw[jej];have:=Int.mul_le_mul_of_nonneg_right (show c % 128<=127 by omega) (jeg hp);omega) (by omega) (by omega)
     refine this.trans ?_;rw[jcu];have ef:Nat.beq (k+1) 0=false:=rfl;rw[ef];cases hr:S.rdU false n (b.drop (i+1)) with
     | none=>rfl
     | some q =>
      obtain⟨v,r⟩:=q;simp only;congr 2;rw[jej];rw[Int.add_mul,jet 128 v,Int.mul_assoc v 128,jet 128 (128 ^ k)];omega
  ·have hlt':¬at_<Int.ofNat b.length:=hlt;rw[jae hlt',jad];have:b.drop at_.toNat=[]:=jde (by omega);rw[this];cases n<;>rfl
theorem zrf(hb:∀c∈b,0<=c/\c<=255)(hl:b.length<=140737488355328)(ha:0<=a)(ha2:a<=b.length):Fz24 LF x1 x2 a x4 b=(match S.rdU true 8 (b.drop a.toNat) with
  | some (v,r)=>qg9 LF x1 x2 a x4 b (Int.ofNat 0+v*128 ^ 0,Int.ofNat (b.length-r.length))
  | none=>some (Sum.inl (a,()))):=by
 simp only[Fz24,qxa,qoi];generalize hL:LF=L;have h8:8<L:=by rw[<- hL];unfold LF;omega
 subst hL;exact q7a (x1:=x1) (x2:=x2) (a:=a) (x4:=x4) hb hl (fun q=>qg9 LF x1 x2 a x4 b q) rfl 8 0 (Int.ofNat 0) a LF rfl h8 (jcx _) (by rw[jfk];exact Int.one_pos) ha ha2
theorem zg6(n:Int)(r:List Int):qke LF x1 x2 a x4 b (n,Int.ofNat (b.length-r.length))=(match (if x1<=n/\n<=x2 then some (n,r) else none:Option (Int × List Int)) with
  | none=>some (Sum.inl (a,()))
  | some q=>some (Sum.inr ((q.1,()),((Int.ofNat (b.length-q.2.length),()),((a,()),((),((b,()),()))))))):=by
 simp only[qke,qx5,qal,Bool.not_not];by_cases h1:n<x1
 ·rw[jaf h1,ja1,jad,jak (by omega)]
 ·rw[jae h1,jax,jaa];by_cases h2:x2<n
  ·rw[jaf h2,jaa,jak (by omega)]
  ·rw[jae h2,jad,jal (by omega)]
theorem zn6{v:Int}(r:List Int)(hv0:0<=v)(hv1:v<72057594037927936):qg9 LF x1 x2 a x4 b (v,Int.ofNat (b.length-r.length))=qke LF x1 x2 a x4 b (S.unz v,Int.ofNat (b.length-r.length)):=by
 have h2:IntKind.i64.wrap (Int.fdiv v (Int.ofNat 2))=v / 2:=by
  rw[show Int.fdiv v (Int.ofNat 2)=v / 2 from jc1 v (by show (0:Int)<=2;omega),w64 (by omega) (by omega)]
 simp only[qg9,qx9,qat,and1 hv0 (show v<18446744073709551616 by omega),h2];unfold S.unz;by_cases hm:v % 2=1
 ·rw[jaf (show v % 2=Int.ofNat 1 from hm),jaa,jal hm];have e1:IntKind.i64.wrap (Int.sub (IntKind.i64.wrap (Int.sub (Int.ofNat 0) (v / 2))) (Int.ofNat 1))=-(v / 2)-1:=by
   have:Int.sub (Int.ofNat 0) (v / 2)=-(v / 2):=by show (0:Int)-v / 2=_;omega
   rw[this,w64 (n:=-(v / 2)) (by omega) (by omega)];show IntKind.i64.wrap (-(v / 2)-1)=_;rw[w64 (by omega) (by omega)]
  rw[e1]
 ·rw[jae (show ¬v % 2=Int.ofNat 1 from hm),jad,jak hm]
theorem z18(hb:∀c∈b,0<=c/\c<=255)(hl:b.length<=140737488355328)(ha:0<=a)(ha2:a<=b.length):Fz24 LF x1 x2 a x4 b=(match S.rd x1 x2 (b.drop a.toNat) with
  | none=>some (Sum.inl (a,()))
  | some q=>some (Sum.inr ((q.1,()),((Int.ofNat (b.length-q.2.length),()),((a,()),((),((b,()),()))))))):=by
 refine(zrf hb hl ha ha2).trans ?_;unfold S.rd;have hs:=qy2 8 true (b.drop a.toNat);generalize S.rdU true 8 (b.drop a.toNat)=o at hs ⊢;cases o with
 | none=>rfl
 | some q =>
  obtain⟨v,r⟩:=q;obtain⟨_,hv0,hv1⟩:=hs v r rfl fun c hc=>hb c (List.mem_of_mem_drop hc);have e8:(128:Int) ^ 8=72057594037927936:=by decide +kernel
  rw[e8] at hv1;have hvv:Int.ofNat 0+v*128 ^ 0=v:=by rw[jfk,Int.mul_one];exact Int.zero_add v
  simp only[hvv];rw[zn6 r hv0 hv1,zg6]
end
theorem ztl:ConP Tryz.prog 128 quc:=zvk trivial fun x y hx h=>⟨LF,by
 obtain⟨x1,x2,⟨(a:Int),_⟩,⟨x4,_⟩,_,⟨(b:List Int),_⟩,_⟩:=x;obtain⟨_,_,_,_,_,⟨hwb,_⟩,_⟩:=hx;have hb:∀c,c∈b->0<=c/\c<=255:=fun (c:Int) hc=>(qe0 .u8 c).1 (hwb.2 c hc);have hl:b.length<=140737488355328:=by have:=hwb.1;rwa [show Jx.bsz (.int .u8)=1 from rfl,jd1] at this
 have h:cond (Bool.not (iltI a 0)&&Bool.not (iltI (Int.ofNat b.length) a)) (match S.rd x1 x2 (b.drop a.toNat) with
  | none=>some (Sum.inl (a,()))
  | some q=>some (Sum.inr ((q.1,()),((Int.ofNat (b.length-q.2.length),()),((a,()),((),((b,()),()))))))) none=some y:=h
 rw[qal,qal] at h;by_cases h1:a<0
 ·rw[jaf h1] at h;cases h
 ·by_cases h2:Int.ofNat b.length<a
  ·rw[jaf h2,ja1,Bool.and_false] at h;cases h
  ·rw[jae h1,jae h2] at h;have h2:¬((b.length:Int)<a):=h2;exact(z18 (x1:=x1) (x2:=x2) (a:=a) (x4:=x4) (b:=b) hb hl (by omega) (by omega)).trans h⟩
def qe2:Nat->Option Nm:=fun k=>cond (Nat.beq k 8) (some ⟨[0,3,4,5,6,7,8,9,10,11,21,22],[],[(10,0,qaf)],[],[],0,0,false⟩) (cond (Nat.beq k 12) (some ⟨[0,3,4,5,6,7,8,9,10,11,13,21,22,36,37,38],[],[(10,0,qaf),(13,1,cVal)],[],[],0,0,false⟩) (cond (Nat.beq k 16) (some ⟨[0,3,4,5,6,7,8,9,10,11,13,21,22,36,37,38,43],[],[(10,0,qaf),(13,1,cVal)],[],[],0,0,false⟩) (cond (Nat.beq k 21) (some ⟨[0,3,4,5,6,7,8,9,10,11,13,21,22],[],[(10,0,qaf)],[],[],0,0,false⟩) (cond (Nat.beq k 24) (some ⟨[3,4,5,6,7,9,10,11,81,82],[],[(10,1,cVal)],[],[],0,0,false⟩) (cond (Nat.beq k 999999) (some ⟨[],[],[],[],[],0,0,false⟩) none)))))
def qe7:Nat->Bool:=fun k=>cond (Nat.beq k 8) true (cond (Nat.beq k 12) true (cond (Nat.beq k 16) true (cond (Nat.beq k 21) true (cond (Nat.beq k 24) true (false)))))
def qzn:Nat->Bool:=fun k=>cond (Nat.beq k 8) true (cond (Nat.beq k 12) true (cond (Nat.beq k 24) true (false)))
abbrev qaw:Type:=(Int × Unit) ⊕ ((qac × Unit) × Unit)
def qz7:List (Nat × Sm):=[]
def qvk:List (Nat × Hx):=[(128,hxP quc)]
def qgp(R:Type)(lf:Nat):ClK R:=qay Tryz.prog ttT.get ftT.get (fun _ _=>none) (smL qz7) (hxL qvk) lf 20 R
def qdh(x1:(List qab))(x2:(List Int))(p:Int × Int × Int × (List Int) × Int × (List qaa)):NRes:=(NRes.mk (.node (some (IV.lst cForm x1)) (.node none (.node (some (IV.ptr 0 0)) (.node (some (IV.ptr 4 0)) .leaf .leaf) (.node (some (IV.int .i64 p.1)) .leaf .leaf)) (.node (some (IV.ptr 2 0)) (.node (some (IV.fn 129 [(IV.ptr 5 0)])) .leaf .leaf) (.node none (.node (some (IV.int .i64 p.1)) .leaf .leaf) .leaf))) (.node none (.node (some (IV.ptr 1 0)) (.node (some (IV.ptr 5 0)) .leaf .leaf) .leaf) (.node (some (IV.ptr 3 0)) (.node (some (IV.ptr 6 0)) .leaf .leaf) (.node none (.node (some (IV.int .i64 p.2.2.2.2.1)) .leaf .leaf) .leaf)))) (IS.mk (.node (some (IObj.row [(IV.lst (TC.int .u8) p.2.2.2.1)])) (.node (some (IObj.row (List.cons IV.nilsl [IV.nilsl]))) (.node (some (IObj.row [(IV.int .i64 p.2.2.1)])) (.node (some (IObj.arr qaf p.2.2.2.2.2)) .leaf .leaf) .leaf) (.node (some (IObj.row (List.cons (IV.fn 128 (List.cons (IV.ptr 2 0) (List.cons (IV.ptr 3 0) (List.cons (IV.ptr 4 0) [(IV.ptr 0 0)])))) []))) .leaf .leaf)) (.node (some (IObj.row [(IV.int .i64 p.2.1)])) (.node (some (IObj.row (List.cons (IV.fn 127 [(IV.ptr 3 0)]) []))) .leaf .leaf) (.node (some (IObj.row (List.cons (IV.arr 7) [IV.nilsl]))) .leaf .leaf))) 8) [] 0)
def qf5(x1:(List qab))(x2:(List Int))(p:Int × (List DCol) × ByteArray × Int × Int × (List Int) × Int × (List DVal) × Int × (List qaa)):NRes:=(NRes.mk (.node (some (IV.lst cForm x1)) (.node none (.node (some (IV.ptr 0 0)) (.node (some (IV.ptr 4 0)) .leaf .leaf) (.node (some (IV.int .i64 p.1)) .leaf .leaf)) (.node (some (IV.ptr 2 0)) (.node (some (IV.fn 129 [(IV.ptr 5 0)])) .leaf .leaf) (.node (some (IV.ptr 7 0)) (.node (some (IV.int .i64 p.1)) (.node (some (IV.int .i64 (Int.ofNat p.2.1.length))) .leaf .leaf) .leaf) .leaf))) (.node none (.node (some (IV.ptr 1 0)) (.node (some (IV.ptr 5 0)) .leaf .leaf) (.node none (.node none (.node (some (IV.lst cCol p.2.1)) .leaf .leaf) .leaf) .leaf)) (.node (some (IV.ptr 3 0)) (.node (some (IV.ptr 6 0)) .leaf .leaf) (.node none (.node (some (IV.int .i64 p.2.2.2.2.2.2.2.2.1)) (.node (some (IV.int .i64 p.2.2.2.2.2.2.1)) .leaf .leaf) .leaf) .leaf)))) (IS.mk (.node (some (IObj.row [(IV.lst (TC.int .u8) p.2.2.2.2.2.1)])) (.node (some (IObj.row (List.cons IV.nilsl [IV.nilsl]))) (.node (some (IObj.row [(IV.int .i64 p.2.2.2.2.1)])) (.node (some (IObj.row (List.cons (IV.str p.2.2.1) [(IV.arr 9)]))) .leaf .leaf) .leaf) (.node (some (IObj.row (List.cons (IV.fn 128 (List.cons (IV.ptr 2 0) (List.cons (IV.ptr 3 0) (List.cons (IV.ptr 4 0) [(IV.ptr 0 0)])))) []))) (.node (some (IObj.arr cVal p.2.2.2.2.2.2.2.1)) .leaf .leaf) .leaf)) (.node (some (IObj.row [(IV.int .i64 p.2.2.2.1)])) (.node (some (IObj.row (List.cons (IV.fn 127 [(IV.ptr 3 0)]) []))) (.node (some (IObj.arr qaf p.2.2.2.2.2.2.2.2.2)) .leaf .leaf) .leaf) (.node (some (IObj.row (List.cons (IV.arr 8) [IV.nilsl]))) .leaf .leaf))) 10) [] 0)
def qry(x1:(List qab))(x2:(List Int))(p:Int × Int × (List DCol) × (List Int) × ByteArray × Int × Int × Int × (List DVal) × Int × (List qaa)):NRes:=(NRes.mk (.node (some (IV.lst cForm x1)) (.node none (.node (some (IV.ptr 0 0)) (.node (some (IV.ptr 4 0)) .leaf .leaf) (.node (some (IV.int .i64 p.2.1)) .leaf (.node none (.node (some (IV.int .i64 p.2.2.2.2.2.2.1)) .leaf .leaf) .leaf))) (.node (some (IV.ptr 2 0)) (.node (some (IV.fn 129 [(IV.ptr 5 0)])) .leaf .leaf) (.node (some (IV.ptr 7 0)) (.node (some (IV.int .i64 p.2.1)) (.node (some (IV.int .i64 (Int.ofNat p.2.2.1.length))) .leaf .leaf) .leaf) .leaf))) (.node none (.node (some (IV.ptr 1 0)) (.node (some (IV.ptr 5 0)) .leaf .leaf) (.node none (.node none (.node (some (IV.lst cCol p.2.2.1)) .leaf .leaf) .leaf) .leaf)) (.node (some (IV.ptr 3 0)) (.node (some (IV.ptr 6 0)) .leaf .leaf) (.node none (.node (some (IV.int .i64 p.2.2.2.2.2.2.2.2.2.1)) (.node (some (IV.int .i64 p.2.2.2.2.2.2.2.1)) .leaf .leaf) .leaf) .leaf)))) (IS.mk (.node (some (IObj.row [(IV.lst (TC.int .u8) p.2.2.2.1)])) (.node (some (IObj.row (List.cons IV.nilsl [IV.nilsl]))) (.node (some (IObj.row [(IV.int .i64 p.2.2.2.2.2.1)])) (.node (some (IObj.row (List.cons (IV.str p.2.2.2.2.1) [(IV.arr 9)]))) .leaf .leaf) .leaf) (.node (some (IObj.row (List.cons (IV.fn 128 (List.cons (IV.ptr 2 0) (List.cons (IV.ptr 3 0) (List.cons (IV.ptr 4 0) [(IV.ptr 0 0)])))) []))) (.node (some (IObj.arr cVal p.2.2.2.2.2.2.2.2.1)) .leaf .leaf) .leaf)) (.node (some (IObj.row [(IV.int .i64 p.1)])) (.node (some (IObj.row (List.cons (IV.fn 127 [(IV.ptr 3 0)]) []))) (.node (some (IObj.arr qaf p.2.2.2.2.2.2.2.2.2.2)) .leaf .leaf) .leaf) (.node (some (IObj.row (List.cons (IV.arr 8) [IV.nilsl]))) .leaf .leaf))) 10) [] 0)
def qu6(x1:(List qab))(x2:(List Int))(p:Int × Int × (List Int) × Int × ByteArray × (List DVal) × Int × (List qaa)):NRes:=(NRes.mk (.node (some (IV.lst cForm x1)) (.node none (.node (some (IV.ptr 0 0)) (.node (some (IV.ptr 4 0)) .leaf .leaf) (.node (some (IV.int .i64 p.2.1)) .leaf .leaf)) (.node (some (IV.ptr 2 0)) (.node (some (IV.fn 129 [(IV.ptr 5 0)])) .leaf .leaf) (.node (some (IV.ptr 7 0)) (.node (some (IV.int .i64 p.2.1)) .leaf .leaf) .leaf))) (.node none (.node (some (IV.ptr 1 0)) (.node (some (IV.ptr 5 0)) .leaf .leaf) .leaf) (.node (some (IV.ptr 3 0)) (.node (some (IV.ptr 6 0)) .leaf .leaf) (.node none (.node (some (IV.int .i64 p.2.2.2.2.2.2.1)) .leaf .leaf) .leaf)))) (IS.mk (.node (some (IObj.row [(IV.lst (TC.int .u8) p.2.2.1)])) (.node (some (IObj.row (List.cons IV.nilsl [IV.nilsl]))) (.node (some (IObj.row [(IV.int .i64 p.2.2.2.1)])) (.node (some (IObj.row (List.cons (IV.str p.2.2.2.2.1) [(IV.arr 9)]))) .leaf .leaf) .leaf) (.node (some (IObj.row (List.cons (IV.fn 128 (List.cons (IV.ptr 2 0) (List.cons (IV.ptr 3 0) (List.cons (IV.ptr 4 0) [(IV.ptr 0 0)])))) []))) (.node (some (IObj.arr cVal p.2.2.2.2.2.1)) .leaf .leaf) .leaf)) (.node (some (IObj.row [(IV.int .i64 p.1)])) (.node (some (IObj.row (List.cons (IV.fn 127 [(IV.ptr 3 0)]) []))) (.node (some (IObj.arr qaf p.2.2.2.2.2.2.2)) .leaf .leaf) .leaf) (.node (some (IObj.row (List.cons (IV.arr 8) [IV.nilsl]))) .leaf .leaf))) 10) [] 0)
def qi5(x1:(List qab))(x2:(List Int))(p:Int × Int × Int × Int × (List Int) × (List qaa) × Int × (List DVal)):NRes:=(NRes.mk (.node none (.node none (.node (some (IV.ptr 0 0)) (.node (some (IV.ptr 4 0)) .leaf .leaf) (.node (some (IV.int .i64 p.1)) .leaf .leaf)) (.node (some (IV.ptr 2 0)) (.node (some (IV.fn 129 [(IV.ptr 5 0)])) (.node none .leaf (.node none (.node (some (IV.int .i64 p.2.1)) .leaf .leaf) .leaf)) .leaf) .leaf)) (.node none (.node (some (IV.ptr 1 0)) .leaf .leaf) (.node (some (IV.ptr 3 0)) (.node (some (IV.ptr 6 0)) (.node none .leaf (.node none (.node (some (IV.int .i64 p.2.2.2.2.2.2.1)) .leaf .leaf) .leaf)) .leaf) .leaf))) (IS.mk (.node (some (IObj.row [(IV.lst (TC.int .u8) p.2.2.2.2.1)])) (.node (some (IObj.row (List.cons IV.nilsl [IV.nilsl]))) (.node (some (IObj.row [(IV.int .i64 p.2.2.2.1)])) (.node (some (IObj.arr qaf p.2.2.2.2.2.1)) .leaf .leaf) .leaf) (.node (some (IObj.row (List.cons (IV.fn 128 (List.cons (IV.ptr 2 0) (List.cons (IV.ptr 3 0) (List.cons (IV.ptr 4 0) [(IV.ptr 0 0)])))) []))) .leaf .leaf)) (.node (some (IObj.row [(IV.int .i64 p.2.2.1)])) (.node (some (IObj.row (List.cons (IV.fn 127 [(IV.ptr 3 0)]) []))) (.node (some (IObj.arr cVal p.2.2.2.2.2.2.2)) .leaf .leaf) .leaf) (.node (some (IObj.row (List.cons (IV.arr 7) [(IV.arr 8)]))) .leaf .leaf))) 9) [] 0)
def qxo(lf:Nat)(x1:(List qab))(x2:(List Int))(L8:(Int × Int × Int × (List Int) × Int × (List qaa))->Option qaw):Option qaw:=(match (cond (Bool.not (iltI (Int.ofNat x2.length) (Int.ofNat 0))) (match (S.rd (Int.ofNat 0) (Int.ofNat 400) (List.drop 0 x2)) with|.none  => (some (Sum.inl ((Int.ofNat 0),())))|some v0=>(some (Sum.inr ((v0.1,()),(((Int.ofNat (Nat.sub x2.length v0.2.length)),()),(((Int.ofNat 0),()),((),((x2,()),())))))))) none) with|none=>none|some v1=>(match v1 with|.inl v2=>(some (Sum.inl (v2.1,())))|.inr v3=>(L8 (v3.1.1,v3.2.1.1,v3.2.2.1.1,v3.2.2.2.2.1.1,(Int.ofNat 0),[]))))
def qgl(lf:Nat)(x1:(List qab))(x2:(List Int))(L12:(Int × (List DCol) × ByteArray × Int × Int × (List Int) × Int × (List DVal) × Int × (List qaa))->Option qaw)(L24:(Int × Int × Int × Int × (List Int) × (List qaa) × Int × (List DVal))->Option qaw)(p:Int × Int × Int × (List Int) × Int × (List qaa)):Option qaw:=(cond (iltI p.2.2.2.2.1 p.1) (match (cond (Bool.and (Bool.not (iltI p.2.1 (Int.ofNat 0))) (Bool.not (iltI (Int.ofNat p.2.2.2.1.length) p.2.1))) (match (S.rd (Int.ofNat 0) (IntKind.i64.wrap (Int.sub (Int.ofNat x1.length) (Int.ofNat 1))) (List.drop (Int.toNat p.2.1) p.2.2.2.1)) with|.none  => (some (Sum.inl (p.2.1,())))|some v0=>(some (Sum.inr ((v0.1,()),(((Int.ofNat (Nat.sub p.2.2.2.1.length v0.2.length)),()),((p.2.1,()),((),((p.2.2.2.1,()),())))))))) none) with|none=>none|some v1=>(match v1 with|.inl v2=>(some (Sum.inl (v2.1,())))|.inr v3=>(match (jget x1 v3.1.1) with|none=>none|some v4=>(L12 (p.1,v4.2,v4.1,v3.2.1.1,v3.2.2.1.1,v3.2.2.2.2.1.1,(Int.ofNat 0),[],p.2.2.2.2.1,p.2.2.2.2.2))))) (match (cond (Bool.and (Bool.not (iltI p.2.1 (Int.ofNat 0))) (Bool.not (iltI (Int.ofNat p.2.2.2.1.length) p.2.1))) (match (S.rd (Int.ofNat 0) (Int.ofNat 60) (List.drop (Int.toNat p.2.1) p.2.2.2.1)) with|.none  => (some (Sum.inl (p.2.1,())))|some v7=>(some (Sum.inr ((v7.1,()),(((Int.ofNat (Nat.sub p.2.2.2.1.length v7.2.length)),()),((p.2.1,()),((),((p.2.2.2.1,()),())))))))) none) with|none=>none|some v8=>(match v8 with|.inl v9=>(some (Sum.inl (v9.1,())))|.inr v10=>(L24 (p.1,v10.1.1,v10.2.1.1,v10.2.2.1.1,v10.2.2.2.2.1.1,p.2.2.2.2.2,(Int.ofNat 0),[])))))
def qdf(lf:Nat)(x1:(List qab))(x2:(List Int))(L16:(Int × Int × (List DCol) × (List Int) × ByteArray × Int × Int × Int × (List DVal) × Int × (List qaa))->Option qaw)(L21:(Int × Int × (List Int) × Int × ByteArray × (List DVal) × Int × (List qaa))->Option qaw)(p:Int × (List DCol) × ByteArray × Int × Int × (List Int) × Int × (List DVal) × Int × (List qaa)):Option qaw:=(cond (iltI p.2.2.2.2.2.2.1 (Int.ofNat p.2.1.length)) (match (jget p.2.1 p.2.2.2.2.2.2.1) with|none=>none|some v0=>(L16 (p.2.2.2.1,p.1,p.2.1,p.2.2.2.2.2.1,p.2.2.1,p.2.2.2.2.1,v0.2.1,p.2.2.2.2.2.2.1,p.2.2.2.2.2.2.2.1,p.2.2.2.2.2.2.2.2.1,p.2.2.2.2.2.2.2.2.2))) (L21 (p.2.2.2.1,p.1,p.2.2.2.2.2.1,p.2.2.2.2.1,p.2.2.1,p.2.2.2.2.2.2.2.1,p.2.2.2.2.2.2.2.2.1,p.2.2.2.2.2.2.2.2.2)))
def qy0(lf:Nat)(x1:(List qab))(x2:(List Int))(L12:(Int × (List DCol) × ByteArray × Int × Int × (List Int) × Int × (List DVal) × Int × (List qaa))->Option qaw)(p:Int × Int × (List DCol) × (List Int) × ByteArray × Int × Int × Int × (List DVal) × Int × (List qaa)):Option qaw:=(cond (ieqI p.2.2.2.2.2.2.1 (Int.ofNat 1)) (match (cond (Bool.and (Bool.not (iltI p.1 (Int.ofNat 0))) (Bool.not (iltI (Int.ofNat p.2.2.2.1.length) p.1))) (match (S.rd (Int.negSucc 1099511627775) (Int.ofNat 1099511627776) (List.drop (Int.toNat p.1) p.2.2.2.1)) with|.none  => (some (Sum.inl (p.1,())))|some v0=>(some (Sum.inr ((v0.1,()),(((Int.ofNat (Nat.sub p.2.2.2.1.length v0.2.length)),()),((p.1,()),((),((p.2.2.2.1,()),())))))))) none) with|none=>none|some v1=>(match v1 with|.inl v2=>(some (Sum.inl (v2.1,())))|.inr v3=>(cond (Nat.ble (Nat.mul (Nat.add p.2.2.2.2.2.2.2.2.1.length 1) 16) 140737488355328) (L12 (p.2.1,p.2.2.1,p.2.2.2.2.1,v3.2.1.1,v3.2.2.1.1,v3.2.2.2.2.1.1,(IntKind.i64.wrap (Int.add p.2.2.2.2.2.2.2.1 (Int.ofNat 1))),(List.append p.2.2.2.2.2.2.2.2.1 [((Int.ofNat 1),v3.1.1)]),p.2.2.2.2.2.2.2.2.2.1,p.2.2.2.2.2.2.2.2.2.2)) none))) (cond (ieqI p.2.2.2.2.2.2.1 (Int.ofNat 2)) (match (cond (Bool.and (Bool.not (iltI p.1 (Int.ofNat 0))) (Bool.not (iltI (Int.ofNat p.2.2.2.1.length) p.1))) (match (S.rd (Int.ofNat 0) (Int.ofNat 1) (List.drop (Int.toNat p.1) p.2.2.2.1)) with|.none  => (some (Sum.inl (p.1,())))|some v31=>(some (Sum.inr ((v31.1,()),(((Int.ofNat (Nat.sub p.2.2.2.1.length v31.2.length)),()),((p.1,()),((),((p.2.2.2.1,()),())))))))) none) with|none=>none|some v32=>(match v32 with|.inl v33=>(some (Sum.inl (v33.1,())))|.inr v34=>(cond (Nat.ble (Nat.mul (Nat.add p.2.2.2.2.2.2.2.2.1.length 1) 16) 140737488355328) (L12 (p.2.1,p.2.2.1,p.2.2.2.2.1,v34.2.1.1,v34.2.2.1.1,v34.2.2.2.2.1.1,(IntKind.i64.wrap (Int.add p.2.2.2.2.2.2.2.1 (Int.ofNat 1))),(List.append p.2.2.2.2.2.2.2.2.1 [((Int.ofNat 2),v34.1.1)]),p.2.2.2.2.2.2.2.2.2.1,p.2.2.2.2.2.2.2.2.2.2)) none))) (match (cond (Bool.and (Bool.not (iltI p.1 (Int.ofNat 0))) (Bool.not (iltI (Int.ofNat p.2.2.2.1.length) p.1))) (match (S.rd (Int.ofNat 0) p.2.1 (List.drop (Int.toNat p.1) p.2.2.2.1)) with|.none  => (some (Sum.inl (p.1,())))|some v36=>(some (Sum.inr ((v36.1,()),(((Int.ofNat (Nat.sub p.2.2.2.1.length v36.2.length)),()),((p.1,()),((),((p.2.2.2.1,()),())))))))) none) with|none=>none|some v37=>(match v37 with|.inl v38=>(some (Sum.inl (v38.1,())))|.inr v39=>(cond (iltI (Int.ofNat 0) v39.1.1) (cond (Nat.ble (Nat.mul (Nat.add p.2.2.2.2.2.2.2.2.1.length 1) 16) 140737488355328) (L12 (p.2.1,p.2.2.1,p.2.2.2.2.1,v39.2.1.1,v39.2.2.1.1,v39.2.2.2.2.1.1,(IntKind.i64.wrap (Int.add p.2.2.2.2.2.2.2.1 (Int.ofNat 1))),(List.append p.2.2.2.2.2.2.2.2.1 (List.cons ((Int.ofNat 4),(IntKind.i64.wrap (Int.sub v39.1.1 (Int.ofNat 1)))) [])),p.2.2.2.2.2.2.2.2.2.1,p.2.2.2.2.2.2.2.2.2.2)) none) (cond (Nat.ble (Nat.mul (Nat.add p.2.2.2.2.2.2.2.2.1.length 1) 16) 140737488355328) (L12 (p.2.1,p.2.2.1,p.2.2.2.2.1,v39.2.1.1,v39.2.2.1.1,v39.2.2.2.2.1.1,(IntKind.i64.wrap (Int.add p.2.2.2.2.2.2.2.1 (Int.ofNat 1))),(List.append p.2.2.2.2.2.2.2.2.1 [((Int.ofNat 3),(Int.ofNat 0))]),p.2.2.2.2.2.2.2.2.2.1,p.2.2.2.2.2.2.2.2.2.2)) none))))))
def qxy(lf:Nat)(x1:(List qab))(x2:(List Int))(L8:(Int × Int × Int × (List Int) × Int × (List qaa))->Option qaw)(p:Int × Int × (List Int) × Int × ByteArray × (List DVal) × Int × (List qaa)):Option qaw:=(cond (Nat.ble (Nat.mul (Nat.add p.2.2.2.2.2.2.2.length 1) 40) 140737488355328) (L8 (p.2.1,p.1,p.2.2.2.1,p.2.2.1,(IntKind.i64.wrap (Int.add p.2.2.2.2.2.2.1 (Int.ofNat 1))),(List.append p.2.2.2.2.2.2.2 [(p.2.2.2.2.1,p.2.2.2.2.2.1)]))) none)
def qf2(lf:Nat)(x1:(List qab))(x2:(List Int))(L24:(Int × Int × Int × Int × (List Int) × (List qaa) × Int × (List DVal))->Option qaw)(p:Int × Int × Int × Int × (List Int) × (List qaa) × Int × (List DVal)):Option qaw:=(cond (iltI p.2.2.2.2.2.2.1 p.2.1) (match (cond (Bool.and (Bool.not (iltI p.2.2.1 (Int.ofNat 0))) (Bool.not (iltI (Int.ofNat p.2.2.2.2.1.length) p.2.2.1))) (match (S.rd (Int.ofNat 0) p.1 (List.drop (Int.toNat p.2.2.1) p.2.2.2.2.1)) with|.none  => (some (Sum.inl (p.2.2.1,())))|some v0=>(some (Sum.inr ((v0.1,()),(((Int.ofNat (Nat.sub p.2.2.2.2.1.length v0.2.length)),()),((p.2.2.1,()),((),((p.2.2.2.2.1,()),())))))))) none) with|none=>none|some v1=>(match v1 with|.inl v2=>(some (Sum.inl (v2.1,())))|.inr v3=>(cond (iltI (Int.ofNat 0) v3.1.1) (cond (Nat.ble (Nat.mul (Nat.add p.2.2.2.2.2.2.2.length 1) 16) 140737488355328) (L24 (p.1,p.2.1,v3.2.1.1,v3.2.2.1.1,v3.2.2.2.2.1.1,p.2.2.2.2.2.1,(IntKind.i64.wrap (Int.add p.2.2.2.2.2.2.1 (Int.ofNat 1))),(List.append p.2.2.2.2.2.2.2 (List.cons ((Int.ofNat 4),(IntKind.i64.wrap (Int.sub v3.1.1 (Int.ofNat 1)))) [])))) none) (cond (Nat.ble (Nat.mul (Nat.add p.2.2.2.2.2.2.2.length 1) 16) 140737488355328) (L24 (p.1,p.2.1,v3.2.1.1,v3.2.2.1.1,v3.2.2.2.2.1.1,p.2.2.2.2.2.1,(IntKind.i64.wrap (Int.add p.2.2.2.2.2.2.1 (Int.ofNat 1))),(List.append p.2.2.2.2.2.2.2 [((Int.ofNat 3),(Int.ofNat 0))]))) none)))) (cond (Bool.not (ieqI p.2.2.1 (Int.ofNat p.2.2.2.2.1.length))) (some (Sum.inl (p.2.2.1,()))) (some (Sum.inr (((p.2.2.2.2.2.1,p.2.2.2.2.2.2.2),()),())))))
theorem ztp(g:ElP [.dat (.list cForm),.dat (.list (.int .u8))]->Option qaw)(J:Nat->List Nat->NRes->Option qaw)(lf:Nat)(x1:(List qab))(x2:(List Int)):qbx Tryz.prog ttT.get qe2 (mP [.dat (.list cForm),.dat (.list (.int .u8))]) qbq.nt (qgp _ lf) lf qe7 J qbq.body [] (qau (qan [.dat (.list cForm),.dat (.list (.int .u8))] idN 0 (x1,x2,())) 0 .leaf) (Sc [.dat (.list cForm),.dat (.list (.int .u8))] (x1,x2,())) [] (qcg ttT.get qbq ⟨[.dat (.list cForm),.dat (.list (.int .u8))],[(false,qai)],156,[(.int .i64)],g⟩)=qxo lf x1 x2 (fun q=>J 8 [lf] (qdh x1 x2 q)):=by kernel_rfl
theorem zz4(g:ElP [.dat (.list cForm),.dat (.list (.int .u8))]->Option qaw)(J:Nat->List Nat->NRes->Option qaw)(lf:Nat)(x1:(List qab))(x2:(List Int))(m1:Nat)(p:Int × Int × Int × (List Int) × Int × (List qaa)):qbo Tryz.prog ttT.get qe2 (mP [.dat (.list cForm),.dat (.list (.int .u8))]) qbq.nt (qgp _ lf) lf qe7 J 8 qbq.body [] [m1] (qdh x1 x2 p) (qcg ttT.get qbq ⟨[.dat (.list cForm),.dat (.list (.int .u8))],[(false,qai)],156,[(.int .i64)],g⟩)=qgl lf x1 x2 (fun q=>J 12 [m1,lf] (qf5 x1 x2 q)) (fun q=>J 24 [lf] (qi5 x1 x2 q)) p:=by kernel_rfl
theorem zlu(g:ElP [.dat (.list cForm),.dat (.list (.int .u8))]->Option qaw)(J:Nat->List Nat->NRes->Option qaw)(lf:Nat)(x1:(List qab))(x2:(List Int))(m1:Nat)(m2:Nat)(p:Int × (List DCol) × ByteArray × Int × Int × (List Int) × Int × (List DVal) × Int × (List qaa)):qbo Tryz.prog ttT.get qe2 (mP [.dat (.list cForm),.dat (.list (.int .u8))]) qbq.nt (qgp _ lf) lf qe7 J 12 qbq.body [] [m1,m2] (qf5 x1 x2 p) (qcg ttT.get qbq ⟨[.dat (.list cForm),.dat (.list (.int .u8))],[(false,qai)],156,[(.int .i64)],g⟩)=qdf lf x1 x2 (fun q=>J 16 [m1,m2] (qry x1 x2 q)) (fun q=>J 21 [m1] (qu6 x1 x2 q)) p:=by kernel_rfl
theorem zra(g:ElP [.dat (.list cForm),.dat (.list (.int .u8))]->Option qaw)(J:Nat->List Nat->NRes->Option qaw)(lf:Nat)(x1:(List qab))(x2:(List Int))(m1:Nat)(m2:Nat)(p:Int × Int × (List DCol) × (List Int) × ByteArray × Int × Int × Int × (List DVal) × Int × (List qaa)):qbo Tryz.prog ttT.get qe2 (mP [.dat (.list cForm),.dat (.list (.int .u8))]) qbq.nt (qgp _ lf) lf qe7 J 16 qbq.body [] [m1,m2] (qry x1 x2 p) (qcg ttT.get qbq ⟨[.dat (.list cForm),.dat (.list (.int .u8))],[(false,qai)],156,[(.int .i64)],g⟩)=qy0 lf x1 x2 (fun q=>J 12 [m1,m2] (qf5 x1 x2 q)) p:=by kernel_rfl
theorem z0f(g:ElP [.dat (.list cForm),.dat (.list (.int .u8))]->Option qaw)(J:Nat->List Nat->NRes->Option qaw)(lf:Nat)(x1:(List qab))(x2:(List Int))(m1:Nat)(p:Int × Int × (List Int) × Int × ByteArray × (List DVal) × Int × (List qaa)):qbo Tryz.prog ttT.get qe2 (mP [.dat (.list cForm),.dat (.list (.int .u8))]) qbq.nt (qgp _ lf) lf qe7 J 21 qbq.body [] [m1] (qu6 x1 x2 p) (qcg ttT.get qbq ⟨[.dat (.list cForm),.dat (.list (.int .u8))],[(false,qai)],156,[(.int .i64)],g⟩)=qxy lf x1 x2 (fun q=>J 8 [m1] (qdh x1 x2 q)) p:=by kernel_rfl
theorem zpk(g:ElP [.dat (.list cForm),.dat (.list (.int .u8))]->Option qaw)(J:Nat->List Nat->NRes->Option qaw)(lf:Nat)(x1:(List qab))(x2:(List Int))(m1:Nat)(p:Int × Int × Int × Int × (List Int) × (List qaa) × Int × (List DVal)):qbo Tryz.prog ttT.get qe2 (mP [.dat (.list cForm),.dat (.list (.int .u8))]) qbq.nt (qgp _ lf) lf qe7 J 24 qbq.body [] [m1] (qi5 x1 x2 p) (qcg ttT.get qbq ⟨[.dat (.list cForm),.dat (.list (.int .u8))],[(false,qai)],156,[(.int .i64)],g⟩)=qf2 lf x1 x2 (fun q=>J 24 [m1] (qi5 x1 x2 q)) p:=by kernel_rfl
theorem qkk:(regs qbq.body).Nodup:=by decide +kernel
theorem qi3:okC qe2 qe7 qzn qbq.body none=true:=by kernel_rfl
def Az25(g:ElP [.dat (.list cForm),.dat (.list (.int .u8))]->Option qaw)(lf:Nat):Nat->List Nat->NRes->Option qaw:=atP Tryz.prog ttT.get qe2 qbq ⟨[.dat (.list cForm),.dat (.list (.int .u8))],[(false,qai)],156,[(.int .i64)],g⟩ (qgp _ lf) lf qzn
def qcz(lf:Nat)(x1:(List qab))(x2:(List Int))(K8:(Int × Int × Int × (List Int) × Int × (List qaa))->Option qaw)(K12:(Int × (List DCol) × ByteArray × Int × Int × (List Int) × Int × (List DVal) × Int × (List qaa))->Option qaw)(p:Int × Int × (List DCol) × (List Int) × ByteArray × Int × Int × Int × (List DVal) × Int × (List qaa)):Option qaw:=qy0 lf x1 x2 K12 p
theorem z16(g:ElP [.dat (.list cForm),.dat (.list (.int .u8))]->Option qaw)(lf:Nat)(x1:(List qab))(x2:(List Int))(m1:Nat)(m2:Nat)(p:Int × Int × (List DCol) × (List Int) × ByteArray × Int × Int × Int × (List DVal) × Int × (List qaa)):Az25 g lf 16 [m1,m2] (qry x1 x2 p)=qcz lf x1 x2 (fun q=>Az25 g lf 8 [m1] (qdh x1 x2 q)) (fun q=>Az25 g lf 12 [m1,m2] (qf5 x1 x2 q)) p:=by
  refine(qfs rfl (qaj 20 _) qkk qi3 16 [m1,m2] [m1,m2] rfl _).trans ((zra g (Az25 g lf) lf x1 x2 m1 m2 p).trans ?_);rfl
def qcr(lf:Nat)(x1:(List qab))(x2:(List Int))(K8:(Int × Int × Int × (List Int) × Int × (List qaa))->Option qaw)(p:Int × Int × (List Int) × Int × ByteArray × (List DVal) × Int × (List qaa)):Option qaw:=qxy lf x1 x2 K8 p
theorem zzl(g:ElP [.dat (.list cForm),.dat (.list (.int .u8))]->Option qaw)(lf:Nat)(x1:(List qab))(x2:(List Int))(m1:Nat)(p:Int × Int × (List Int) × Int × ByteArray × (List DVal) × Int × (List qaa)):Az25 g lf 21 [m1] (qu6 x1 x2 p)=qcr lf x1 x2 (fun q=>Az25 g lf 8 [m1] (qdh x1 x2 q)) p:=by
  refine(qfs rfl (qaj 20 _) qkk qi3 21 [m1] [m1] rfl _).trans ((z0f g (Az25 g lf) lf x1 x2 m1 p).trans ?_);rfl
def qd3(lf:Nat)(x1:(List qab))(x2:(List Int))(K8:(Int × Int × Int × (List Int) × Int × (List qaa))->Option qaw):Nat->(Int × (List DCol) × ByteArray × Int × Int × (List Int) × Int × (List DVal) × Int × (List qaa))->Option qaw:=rounds fun K p=>qdf lf x1 x2 (fun q=>qcz lf x1 x2 K8 K q) (fun q=>qcr lf x1 x2 K8 q) p
theorem zfg(g:ElP [.dat (.list cForm),.dat (.list (.int .u8))]->Option qaw)(lf:Nat)(x1:(List qab))(x2:(List Int))(m1:Nat):∀(n:Nat) (p:Int × (List DCol) × ByteArray × Int × Int × (List Int) × Int × (List DVal) × Int × (List qaa)),Az25 g lf 12 [m1,n] (qf5 x1 x2 p)=qd3 lf x1 x2 (fun q=>Az25 g lf 8 [m1] (qdh x1 x2 q)) n p
 | 0,p=>qpq 12 [m1,0] rfl _
 | n+1,p=>by
  have ih:=zfg g lf x1 x2 m1 n;refine(qfs rfl (qaj 20 _) qkk qi3 12 [m1,n+1] [m1,n] rfl _).trans ((zlu g (Az25 g lf) lf x1 x2 m1 n p).trans ?_);rw[(show (fun q=>Az25 g lf 16 [m1,n] (qry x1 x2 q))=(fun q=>qcz lf x1 x2 (fun q=>Az25 g lf 8 [m1] (qdh x1 x2 q)) (fun q=>Az25 g lf 12 [m1,n] (qf5 x1 x2 q)) q) from funext fun q=>z16 g lf x1 x2 m1 n q),(show (fun q=>Az25 g lf 21 [m1] (qu6 x1 x2 q))=(fun q=>qcr lf x1 x2 (fun q=>Az25 g lf 8 [m1] (qdh x1 x2 q)) q) from funext fun q=>zzl g lf x1 x2 m1 q),(show (fun q=>Az25 g lf 12 [m1,n] (qf5 x1 x2 q))=(fun q=>qd3 lf x1 x2 (fun q=>Az25 g lf 8 [m1] (qdh x1 x2 q)) n q) from funext ih)];rfl
def qe8(lf:Nat)(x1:(List qab))(x2:(List Int)):Nat->(Int × Int × Int × Int × (List Int) × (List qaa) × Int × (List DVal))->Option qaw:=rounds fun K p=>qf2 lf x1 x2 K p
theorem zcx(g:ElP [.dat (.list cForm),.dat (.list (.int .u8))]->Option qaw)(lf:Nat)(x1:(List qab))(x2:(List Int)):∀(n:Nat) (p:Int × Int × Int × Int × (List Int) × (List qaa) × Int × (List DVal)),Az25 g lf 24 [n] (qi5 x1 x2 p)=qe8 lf x1 x2 n p
 | 0,p=>qpq 24 [0] rfl _
 | n+1,p=>by
  have ih:=zcx g lf x1 x2 n;refine(qfs rfl (qaj 20 _) qkk qi3 24 [n+1] [n] rfl _).trans ((zpk g (Az25 g lf) lf x1 x2 n p).trans ?_);rw[(show (fun q=>Az25 g lf 24 [n] (qi5 x1 x2 q))=(fun q=>qe8 lf x1 x2 n q) from funext ih)];rfl
def qk9(lf:Nat)(x1:(List qab))(x2:(List Int)):Nat->(Int × Int × Int × (List Int) × Int × (List qaa))->Option qaw:=rounds fun K p=>qgl lf x1 x2 (fun q=>qd3 lf x1 x2 K lf q) (fun q=>qe8 lf x1 x2 lf q) p
theorem zcu(g:ElP [.dat (.list cForm),.dat (.list (.int .u8))]->Option qaw)(lf:Nat)(x1:(List qab))(x2:(List Int)):∀(n:Nat) (p:Int × Int × Int × (List Int) × Int × (List qaa)),Az25 g lf 8 [n] (qdh x1 x2 p)=qk9 lf x1 x2 n p
 | 0,p=>qpq 8 [0] rfl _
 | n+1,p=>by
  have ih:=zcu g lf x1 x2 n;refine(qfs rfl (qaj 20 _) qkk qi3 8 [n+1] [n] rfl _).trans ((zz4 g (Az25 g lf) lf x1 x2 n p).trans ?_);rw[(show (fun q=>Az25 g lf 12 [n,lf] (qf5 x1 x2 q))=(fun q=>qd3 lf x1 x2 (fun q=>Az25 g lf 8 [n] (qdh x1 x2 q)) lf q) from funext fun q=>zfg g lf x1 x2 n lf q),(show (fun q=>Az25 g lf 24 [lf] (qi5 x1 x2 q))=(fun q=>qe8 lf x1 x2 lf q) from funext fun q=>zcx g lf x1 x2 lf q),(show (fun q=>Az25 g lf 8 [n] (qdh x1 x2 q))=(fun q=>qk9 lf x1 x2 n q) from funext ih)];rfl
def Fz25(lf:Nat)(x1:(List qab))(x2:(List Int)):Option qaw:=qxo lf x1 x2 (fun q=>qk9 lf x1 x2 lf q)
theorem zyp(g:ElP [.dat (.list cForm),.dat (.list (.int .u8))]->Option qaw)(lf:Nat)(x1:(List qab))(x2:(List Int)):qbx Tryz.prog ttT.get qe2 (mP [.dat (.list cForm),.dat (.list (.int .u8))]) qbq.nt (qgp _ lf) lf qe7 (Az25 g lf) qbq.body [] (qau (qan [.dat (.list cForm),.dat (.list (.int .u8))] idN 0 (x1,x2,())) 0 .leaf) (Sc [.dat (.list cForm),.dat (.list (.int .u8))] (x1,x2,())) [] (qcg ttT.get qbq ⟨[.dat (.list cForm),.dat (.list (.int .u8))],[(false,qai)],156,[(.int .i64)],g⟩)=Fz25 lf x1 x2:=by
  refine(ztp g (Az25 g lf) lf x1 x2).trans ?_;rw[(show (fun q=>Az25 g lf 8 [lf] (qdh x1 x2 q))=(fun q=>qk9 lf x1 x2 lf q) from funext fun q=>zcu g lf x1 x2 lf q)];rfl
theorem zvs(hp_p_decode_2:ConP Tryz.prog 128 quc):qa1 Tryz.prog qvk:=⟨zyz hp_p_decode_2,trivial⟩
theorem z0p{g:ElP [.dat (.list cForm),.dat (.list (.int .u8))]->Option qaw}(hsm:SmOK Tryz.prog qz7)(hp_p_decode_2:ConP Tryz.prog 128 quc)(hg:∀(x:ElP [.dat (.list cForm),.dat (.list (.int .u8))]) (y:qaw),WfP [.dat (.list cForm),.dat (.list (.int .u8))] x->g x=some y->∃lf,Fz25 lf x.1 x.2.1=some y):ConP Tryz.prog 101 ⟨[.dat (.list cForm),.dat (.list (.int .u8))],[(false,qai)],156,[(.int .i64)],g⟩ :=
 conTP (nmf:=qe2) (sml:=qz7) (hxl:=qvk) (st:=qe7) (hd:=qzn) 20 qd5 ttOK ftOK hsm (zvs hp_p_decode_2) zzr (by kernel_rfl) (fun x=>by kernel_rfl) qkk qi3 fun x y hx hy=>by
  obtain⟨lf,h⟩:=hg x y hx hy;exact⟨lf,(zyp g lf x.1 x.2.1).trans h⟩
namespace S
def rdV(m:Int)(k:Int)(l:List Int):Option (DVal × List Int) :=
 if k=1 then (match rd (-1099511627776) 1099511627776 l with|some (n,r)=>some ((1,n),r)|none=>none)
 else if k=2 then (match rd 0 1 l with|some (n,r)=>some ((2,n),r)|none=>none)
 else match rd 0 m l with|some (n,r)=>some (if 0<n then (4,n-1) else (3,0),r)|none=>none
def decVs(N:Nat)(m:Int):List DCol->List Int->Int ⊕ (List DVal × List Int)
 | [],l=>.inr ([],l)
 | c::cs,l=>match rdV m c.2.1 l with
  | none=>.inl (Int.ofNat (N-l.length))
  | some (v,r)=>match decVs N m cs r with
   | .inl e=>.inl e
   | .inr (vs,r')=>.inr (v::vs,r')
def decNs(N:Nat)(F:List qab)(m:Int):Nat->List Int->Int ⊕ (List qaa × List Int)
 | 0,l=>.inr ([],l)
 | k+1,l=>match rd 0 (Int.ofNat F.length-1) l with
  | none=>.inl (Int.ofNat (N-l.length))
  | some (i,r)=>match F[i.toNat]? with
   | none=>.inl 0
   | some f=>match decVs N m f.2 r with
    | .inl e=>.inl e
    | .inr (vs,r')=>match decNs N F m k r' with
     | .inl e=>.inl e
     | .inr (ns,r'')=>.inr ((f.1,vs)::ns,r'')
def decRs(N:Nat)(m:Int):Nat->List Int->Int ⊕ (List DVal × List Int)
 | 0,l=>.inr ([],l)
 | k+1,l=>match rdV m 0 l with
  | none=>.inl (Int.ofNat (N-l.length))
  | some (v,r)=>match decRs N m k r with
   | .inl e=>.inl e
   | .inr (vs,r')=>.inr (v::vs,r')
def dec(F:List qab)(b:List Int):Int ⊕ qac :=
 match rd 0 400 b with
 | none=>.inl (Int.ofNat (b.length-b.length))
 | some (m,l)=>match decNs b.length F m m.toNat l with
  | .inl e=>.inl e
  | .inr (ns,l)=>match rd 0 60 l with
   | none=>.inl (Int.ofNat (b.length-l.length))
   | some (k,l)=>match decRs b.length m k.toNat l with
    | .inl e=>.inl e
    | .inr (rs,l)=>if l=[] then .inr (ns,rs) else .inl (Int.ofNat (b.length-l.length))
end S
def zzn:SmP:=⟨[.dat (.list cForm),.dat (.list (.int .u8))],[(false,qai)],156,[(.int .i64)],fun x=>match S.dec x.1 x.2.1 with
 | .inl e=>some (Sum.inl (e,()))
 | .inr g=>some (Sum.inr ((g,()),()))⟩
theorem qcp{lo hi n:Int}{l r:List Int}(h:S.rd lo hi l=some (n,r)):r <:+ l/\lo<=n/\n<=hi:=by
 unfold S.rd at h;split at h<;>try cases h
 split at h<;>cases h;rename_i u hc hu;refine⟨?_,hc⟩;have:∀(n:Nat) (f:Bool) (l:List Int) (u:Int) (r:List Int),S.rdU f n l=some (u,r)->r <:+ l:=by
  intro n;induction n with
  | zero=>intro f l u r h;simp [S.rdU] at h
  | succ n ih =>
   intro f l u r h;cases l with
   | nil=>simp [S.rdU] at h
   | cons c l =>
    unfold S.rdU at h;split at h
    ·split at h<;>cases h;exact List.suffix_cons _ _
    ·split at h<;>cases h;rename_i hu;exact(ih _ _ _ _ hu).trans (List.suffix_cons _ _)
 exact this _ _ _ _ _ hu
theorem qpd{b l:List Int}(h:l <:+ b):List.drop (Int.toNat (Int.ofNat (b.length-l.length))) b=l:=by
 obtain⟨p,rfl⟩:=h;show List.drop ((p++l).length-l.length) (p++l)=l;rw[jav,Nat.add_sub_cancel,List.drop_left]
theorem qg1{b l:List Int}:iltI (Int.ofNat (b.length-l.length)) (Int.ofNat 0)=false:=by rw[qal];exact jae (by show ¬(((b.length-l.length:Nat):Int)<0);omega)
theorem qg4{b l:List Int}:iltI (Int.ofNat b.length) (Int.ofNat (b.length-l.length))=false:=by rw[qal];exact jae (by show ¬((b.length:Int)<((b.length-l.length:Nat):Int));omega)
theorem qr5{m:Nat}(h:m<=3600000000000):Nat.ble (Nat.mul (Nat.add m 1) 16) 140737488355328=true:=jbk (by show (m+1)*16<=_;omega)
theorem q83{m:Nat}(h:m<=1000000000000):Nat.ble (Nat.mul (Nat.add m 1) 40) 140737488355328=true:=jbk (by show (m+1)*40<=_;omega)
theorem qgj{k:Nat}(h:k<=1000000000000000):IntKind.i64.wrap (Int.add (Int.ofNat k) (Int.ofNat 1))=Int.ofNat (k+1):=by
 rw[show Int.add (Int.ofNat k) (Int.ofNat 1)=((k+1:Nat):Int) from rfl,w64 (by omega) (by omega)];rfl
section
variable {F : List qab} {b : List Int}
theorem zgc(K8:(Int × Int × Int × (List Int) × Int × (List qaa))->Option qaw)(K:(Int × (List DCol) × ByteArray × Int × Int × (List Int) × Int × (List DVal) × Int × (List qaa))->Option qaw){l:List Int}(hs:l <:+ b)(m:Int)(hm0:0<=m)(hm:m<=400)(cs:List DCol)(nm:ByteArray)(be kd:Int)(j:Nat)(vs:List DVal)(i0:Int)(ns:List qaa)(hv:vs.length<=3600000000000)(hj:j<=1000000000000000) :
  qcz LF F b K8 K (Int.ofNat (b.length-l.length),m,cs,b,nm,be,kd,Int.ofNat j,vs,i0,ns)=(match S.rdV m kd l with
   | none=>some (Sum.inl (Int.ofNat (b.length-l.length),()))
   | some (v,r)=>K (m,cs,nm,Int.ofNat (b.length-r.length),Int.ofNat (b.length-l.length),b,Int.ofNat (j+1),vs++[v],i0,ns)):=by
 simp only[qcz,qy0,qg1,qg4,qpd hs,jax,jcy,jaa,qr5 hv,qgj hj,qat];unfold S.rdV;by_cases h1:kd=1
 ·rw[jaf (show kd=Int.ofNat 1 from h1),jaa,jal h1];rw[show S.rd (Int.negSucc 1099511627775) (Int.ofNat 1099511627776) l=S.rd (-1099511627776) 1099511627776 l from rfl];cases hr:S.rd (-1099511627776) 1099511627776 l with
  | none=>rfl
  | some q=>rfl
 ·rw[jae (show ¬kd=Int.ofNat 1 from h1),jad,jak h1];by_cases h2:kd=2
  ·rw[jaf (show kd=Int.ofNat 2 from h2),jaa,jal h2];rw[show S.rd (Int.ofNat 0) (Int.ofNat 1) l=S.rd 0 1 l from rfl];cases hr:S.rd 0 1 l with
   | none=>rfl
   | some q=>rfl
  ·rw[jae (show ¬kd=Int.ofNat 2 from h2),jad,jak h2];rw[show S.rd (Int.ofNat 0) m l=S.rd 0 m l from rfl];cases hr:S.rd 0 m l with
   | none=>rfl
   | some q =>
    obtain⟨n,r⟩:=q;obtain⟨_,hn0,hn1⟩:=qcp hr;simp only[qal];by_cases hn:0<n
    ·rw[jaf (show Int.ofNat 0<n from hn),jaa,jal hn,show Int.sub n (Int.ofNat 1)=n-1 from rfl,w64 (by omega) (by omega)];rfl
    ·rw[jae (show ¬Int.ofNat 0<n from hn),jad,jak hn];rfl
theorem qmq{m k:Int}{l r:List Int}{v:DVal}(h:S.rdV m k l=some (v,r)):r <:+ l:=by
 unfold S.rdV at h;split at h
 ·split at h<;>cases h;rename_i hr;exact(qcp hr).1
 ·split at h
  ·split at h<;>cases h;rename_i hr;exact(qcp hr).1
  ·split at h<;>cases h;rename_i hr;exact(qcp hr).1
theorem zo3(K8:(Int × Int × Int × (List Int) × Int × (List qaa))->Option qaw)(m:Int)(hm0:0<=m)(hm:m<=400)(nm:ByteArray)(i0:Int)(ns:List qaa)(cs:List DCol)(hc:cs.length<=3600000000000){l:List Int}(hs:l <:+ b)(be:Int) :
  (∃e,S.decVs b.length m cs l=.inl e/\qd3 LF F b K8 LF (m,cs,nm,Int.ofNat (b.length-l.length),be,b,Int.ofNat 0,[],i0,ns)=some (Sum.inl (e,()))) \/
  ∃vs r be',S.decVs b.length m cs l=.inr (vs,r)/\r <:+ b/\qd3 LF F b K8 LF (m,cs,nm,Int.ofNat (b.length-l.length),be,b,Int.ofNat 0,[],i0,ns)=qcr LF F b K8 (Int.ofNat (b.length-r.length),m,b,be',nm,vs,i0,ns):=by
 have key:∀(rest done:List DCol),cs=done++rest->∀(n:Nat) (l:List Int) (be:Int) (vs:List DVal),l <:+ b->rest.length<n->vs.length=done.length ->
   (∃e,S.decVs b.length m rest l=.inl e/\rounds (fun K p=>qdf LF F b (fun q=>qcz LF F b K8 K q) (fun q=>qcr LF F b K8 q) p) n (m,cs,nm,Int.ofNat (b.length-l.length),be,b,Int.ofNat done.length,vs,i0,ns)=some (Sum.inl (e,()))) \/
   ∃vs' r be',S.decVs b.length m rest l=.inr (vs',r)/\r <:+ b/\rounds (fun K p=>qdf LF F b (fun q=>qcz LF F b K8 K q) (fun q=>qcr LF F b K8 q) p) n (m,cs,nm,Int.ofNat (b.length-l.length),be,b,Int.ofNat done.length,vs,i0,ns)=qcr LF F b K8 (Int.ofNat (b.length-r.length),m,b,be',nm,vs++vs',i0,ns):=by
  intro rest;induction rest with
  | nil =>
   intro done hd n l be vs hs hn hv;cases n with
   | zero=>simp at hn
   | succ n =>
    right;refine⟨[],l,be,rfl,hs,?_⟩;show qdf LF F b (fun q=>qcz LF F b K8 (rounds (fun K p=>qdf LF F b (fun q=>qcz LF F b K8 K q) (fun q=>qcr LF F b K8 q) p) n) q) (fun q=>qcr LF F b K8 q) _=_;generalize rounds (fun K p=>qdf LF F b (fun q=>qcz LF F b K8 K q) (fun q=>qcr LF F b K8 q) p) n=Z;rw[jbl] at hd;subst hd;simp only[qdf,qaz,jad,jbl]
  | cons c rest ih =>
   intro done hd n l be vs hs hn hv;cases n with
   | zero=>simp at hn
   | succ n =>
    have hlen:cs.length=done.length+(rest.length+1):=by rw[hd];simp
    have ih:=fun l' be' vs' h1 h3=>ih (done++[c]) (by rw[hd];simp) n l' be' vs' h1 (by simp at hn;omega) h3;rw[show (Int.ofNat (done++[c]).length)=Int.ofNat (done.length+1) by simp] at ih;have hunf:rounds (fun K p=>qdf LF F b (fun q=>qcz LF F b K8 K q) (fun q=>qcr LF F b K8 q) p) (n+1) (m,cs,nm,Int.ofNat (b.length-l.length),be,b,Int.ofNat done.length,vs,i0,ns)=qdf LF F b (fun q=>qcz LF F b K8 (rounds (fun K p=>qdf LF F b (fun q=>qcz LF F b K8 K q) (fun q=>qcr LF F b K8 q) p) n) q) (fun q=>qcr LF F b K8 q) (m,cs,nm,Int.ofNat (b.length-l.length),be,b,Int.ofNat done.length,vs,i0,ns):=rfl;rw[hunf];generalize rounds (fun K p=>qdf LF F b (fun q=>qcz LF F b K8 K q) (fun q=>qcr LF F b K8 q) p) n=Z at ih ⊢;have hlt:iltI (Int.ofNat done.length) (Int.ofNat cs.length)=true:=by rw[qal];exact jaf (by show ((done.length:Nat):Int)<((cs.length:Nat):Int);omega)
    have hget:jget cs (Int.ofNat done.length)=some c:=by rw[qbz,hd];simp
    simp only[qdf,hlt,jaa,hget];rw[zgc K8 Z hs m hm0 hm cs nm be c.2.1 done.length vs i0 ns (by omega) (by omega)];cases hr:S.rdV m c.2.1 l with
    | none =>
     left;exact⟨_,by simp only[S.decVs,hr],rfl⟩
    | some q =>
     obtain⟨v,r⟩:=q;have hs':=(qmq hr).trans hs;rcases ih r (Int.ofNat (b.length-l.length)) (vs++[v]) hs' (by simp[hv]) with ⟨e,h1,h2⟩|⟨vs',r',be',h1,h2,h3⟩
     ·left;exact⟨e,by simp only[S.decVs,hr,h1],h2⟩
     ·right;exact⟨v::vs',r',be',by simp only[S.decVs,hr,h1],h2,by refine h3.trans ?_;rw[jbj];rfl⟩
 have:=key cs [] rfl LF l be [] hs (by unfold LF;omega) rfl;simp only[qd3];simpa only [jdo,jcj] using this
end
section
variable {F : List qab} {b : List Int}
def finR(N:Nat)(ns:List qaa)(rs:List DVal):Int ⊕ (List DVal × List Int)->Option qaw
 | .inl e=>some (Sum.inl (e,()))
 | .inr (vs,r)=>if r=[] then some (Sum.inr (((ns,rs++vs),()),())) else some (Sum.inl (Int.ofNat (N-r.length),()))
theorem q2y(m:Int)(hm0:0<=m)(hm:m<=400)(ns:List qaa)(cnt:Nat)(hcnt:cnt<=60):∀(k n j:Nat) (l:List Int) (be:Int) (rs:List DVal),j+k=cnt->k<n->l <:+ b->rs.length<=j ->
  rounds (fun K p=>qf2 LF F b K p) n (m,Int.ofNat cnt,Int.ofNat (b.length-l.length),be,b,ns,Int.ofNat j,rs)=finR b.length ns rs (S.decRs b.length m k l)
 | k,0,j,l,be,rs,h1,h2,h3,h4=>by omega
 | k,n+1,j,l,be,rs,h1,h2,h3,h4=>by
  have ih:=fun k'=>q2y m hm0 hm ns cnt hcnt k' n;show qf2 LF F b (rounds (fun K p=>qf2 LF F b K p) n) _=_;generalize rounds (fun K p=>qf2 LF F b K p) n=Z at ih ⊢;cases k with
  | zero =>
   have e:iltI (Int.ofNat j) (Int.ofNat cnt)=false:=by rw[qal];exact jae (by show ¬((j:Int)<(cnt:Int));omega)
   simp only[qf2,e,jad,S.decRs,finR,qat,jbl];have hl:=h3.length_le;by_cases hz:l=[]
   ·subst hz;rw[jaf (by simp),jal rfl];rfl
   ·have:0<l.length:=List.length_pos_iff.2 hz;rw[jae (by show ¬(((b.length-l.length:Nat):Int)=(b.length:Int));omega),jak hz];rfl
  | succ k =>
   have e:iltI (Int.ofNat j) (Int.ofNat cnt)=true:=by rw[qal];exact jaf (by show ((j:Int)<(cnt:Int));omega)
   simp only[qf2,e,jaa,qg1,qg4,qpd h3,jax,jcy,qr5 (m:=rs.length) (by omega),qgj (k:=j) (by omega)];rw[show S.rd (Int.ofNat 0) m l=S.rd 0 m l from rfl];have hV:S.rdV m 0 l=(match S.rd 0 m l with|some (n,r)=>some (if 0<n then (4,n-1) else (3,0),r)|none=>none):=rfl;cases hr:S.rd 0 m l with
   | none =>
    rw[hr] at hV;simp only[S.decRs,hV];rfl
   | some q =>
    obtain⟨v,r⟩:=q;rw[hr] at hV;obtain⟨hs,hn0,hn1⟩:=qcp hr;simp only[S.decRs,hV,qal]
    have key:∀(w:DVal),Z (m,Int.ofNat cnt,Int.ofNat (b.length-r.length),Int.ofNat (b.length-l.length),b,ns,Int.ofNat (j+1),rs++[w])=finR b.length ns rs (match S.decRs b.length m k r with
      | .inl e=>.inl e
      | .inr (vs,r')=>.inr (w::vs,r')):=fun w=>by
     rw[ih k (j+1) r (Int.ofNat (b.length-l.length)) (rs++[w]) (by omega) (by omega) (hs.trans h3) (by simp;omega)];cases S.decRs b.length m k r with
     | inl e=>rfl
     | inr q=>simp only[finR,jbj];rfl
    by_cases hn:0<v
    ·rw[jaf (show Int.ofNat 0<v from hn),jaa,jal hn,show Int.sub v (Int.ofNat 1)=v-1 from rfl,w64 (by omega) (by omega)];exact key _
    ·rw[jae (show ¬Int.ofNat 0<v from hn),jad,jak hn];exact key _
def finN(N:Nat)(m:Int)(ns:List qaa):Int ⊕ (List qaa × List Int)->Option qaw
 | .inl e=>some (Sum.inl (e,()))
 | .inr (vs,r)=>match S.rd 0 60 r with
  | none=>some (Sum.inl (Int.ofNat (N-r.length),()))
  | some (k,r')=>finR N (ns++vs) [] (S.decRs N m k.toNat r')
theorem dec8(hF:∀f∈F,f.2.length<=3600000000000)(hFl:F.length<=3600000000000)(M:Nat)(hM:M<=400):∀(k n i:Nat) (l:List Int) (be:Int) (ns:List qaa),i+k=M->k<n->l <:+ b->ns.length<=i ->
  rounds (fun K p=>qgl LF F b (fun q=>qd3 LF F b K LF q) (fun q=>qe8 LF F b LF q) p) n (Int.ofNat M,Int.ofNat (b.length-l.length),be,b,Int.ofNat i,ns)=finN b.length (Int.ofNat M) ns (S.decNs b.length F (Int.ofNat M) k l)
 | k,0,i,l,be,ns,h1,h2,h3,h4=>by omega
 | k,n+1,i,l,be,ns,h1,h2,h3,h4=>by
  have ih:=fun k'=>dec8 hF hFl M hM k' n;show qgl LF F b (fun q=>qd3 LF F b (rounds (fun K p=>qgl LF F b (fun q=>qd3 LF F b K LF q) (fun q=>qe8 LF F b LF q) p) n) LF q) (fun q=>qe8 LF F b LF q) _=_;generalize rounds (fun K p=>qgl LF F b (fun q=>qd3 LF F b K LF q) (fun q=>qe8 LF F b LF q) p) n=Z at ih ⊢;cases k with
  | zero =>
   have e:iltI (Int.ofNat i) (Int.ofNat M)=false:=by rw[qal];exact jae (by show ¬((i:Int)<(M:Int));omega)
   simp only[qgl,e,jad,qg1,qg4,qpd h3,jax,jcy,jaa,S.decNs,finN,jbl];rw[show S.rd (Int.ofNat 0) (Int.ofNat 60) l=S.rd 0 60 l from rfl];cases hr:S.rd 0 60 l with
   | none=>rfl
   | some q =>
    obtain⟨v,r⟩:=q;obtain⟨hs,hn0,hn1⟩:=qcp hr;obtain⟨c,rfl⟩:∃c:Nat,v=Int.ofNat c:=⟨v.toNat,by show v=((v.toNat:Nat):Int);omega⟩;have hc:c<=60:=by have:(c:Int)<=60:=hn1;omega
    have:=q2y (F:=F) (b:=b) (Int.ofNat M) (jb1 M) (by show (M:Int)<=400;omega) ns c hc c LF 0 r (Int.ofNat (b.length-l.length)) [] (by omega) (by unfold LF;omega) (hs.trans h3) (by simp);simp only[qe8];exact this
  | succ k =>
   have e:iltI (Int.ofNat i) (Int.ofNat M)=true:=by rw[qal];exact jaf (by show ((i:Int)<(M:Int));omega)
   have ew:IntKind.i64.wrap (Int.sub (Int.ofNat F.length) (Int.ofNat 1))=Int.ofNat F.length-1:=w64 (by show -4611686018427387904<=(F.length:Int)-1;omega) (by show (F.length:Int)-1<=4611686018427387904;omega);simp only[qgl,e,jaa,qg1,qg4,qpd h3,jax,jcy,ew];rw[show S.rd (Int.ofNat 0) (Int.ofNat F.length-1) l=S.rd 0 (Int.ofNat F.length-1) l from rfl];simp only[S.decNs];cases hr:S.rd 0 (Int.ofNat F.length-1) l with
   | none=>rfl
   | some q =>
    obtain⟨v,r⟩:=q;obtain⟨hs,hn0,hn1⟩:=qcp hr;have hn1:v<=(F.length:Int)-1:=hn1;have hg:jget F v=F[v.toNat]?:=by unfold jget;rw[jal hn0]
    have hlt:v.toNat<F.length:=by omega
    simp only[hg,jab hlt];have hmem:F[v.toNat]∈F:=ja3 hlt;generalize F[v.toNat]=f at hmem ⊢;rcases zo3 (F:=F) (b:=b) Z (Int.ofNat M) (jb1 M) (by show (M:Int)<=400;omega) f.1 (Int.ofNat i) ns f.2 (hF f hmem) (hs.trans h3) (Int.ofNat (b.length-l.length)) with ⟨e,g1,g2⟩|⟨vs,r',be',g1,g2,g3⟩
    ·rw[g1];exact g2
    ·rw[g1];refine jc7 g3 ?_;simp only[qcr,qxy,q83 (m:=ns.length) (by omega),jaa,qgj (k:=i) (by omega)];have:=ih k (i+1) r' be' (ns++[(f.1,vs)]) (by omega) (by omega) g2 (by simp;omega);refine this.trans ?_;cases S.decNs b.length F (Int.ofNat M) k r' with
     | inl e=>rfl
     | inr q=>simp only[finN,jbj];rfl
theorem z06(hF:∀f∈F,f.2.length<=3600000000000)(hFl:F.length<=3600000000000):Fz25 LF F b=(match S.dec F b with
  | .inl e=>some (Sum.inl (e,()))
  | .inr g=>some (Sum.inr ((g,()),()))):=by
 simp only[Fz25,qxo];have e0:iltI (Int.ofNat b.length) (Int.ofNat 0)=false:=by rw[qal];exact jae (by show ¬((b.length:Int)<0);omega)
 rw[e0,jax,jaa,jck,show S.rd (Int.ofNat 0) (Int.ofNat 400) b=S.rd 0 400 b from rfl];unfold S.dec;cases hr:S.rd 0 400 b with
 | none=>simp only[jeh]
 | some q =>
  obtain⟨v,r⟩:=q;obtain⟨hs,hn0,hn1⟩:=qcp hr;obtain⟨M,rfl⟩:∃c:Nat,v=Int.ofNat c:=⟨v.toNat,by show v=((v.toNat:Nat):Int);omega⟩;have hM:M<=400:=by have:(M:Int)<=400:=hn1;omega
  have:=dec8 (F:=F) (b:=b) hF hFl M hM M LF 0 r (Int.ofNat 0) [] (by omega) (by unfold LF;omega) hs (by simp);simp only[qk9];refine jc7 this ?_;rw[show Int.toNat (Int.ofNat M)=M from rfl];cases S.decNs b.length F (Int.ofNat M) M r with
  | inl e=>rfl
  | inr q =>
   obtain⟨ns,l⟩:=q;simp only[finN,jdo];cases S.rd 0 60 l with
   | none=>rfl
   | some q =>
    obtain⟨k,l2⟩:=q;simp only;cases S.decRs b.length (Int.ofNat M) k.toNat l2 with
    | inl e=>rfl
    | inr q =>
     obtain⟨rs,l3⟩:=q;simp only[finR,jdo];by_cases hz:l3=[]
     ·rw[jal hz,jal hz]
     ·rw[jak hz,jak hz]
end
theorem q40:ConP Tryz.prog 101 zzn:=z0p trivial ztl fun x y hx h=>⟨LF,by
 obtain⟨(F:List qab),(b:List Int),_⟩:=x;obtain⟨hwF,hwb,_⟩:=hx;have hFl:F.length<=3600000000000:=by have:=hwF.1;rw[show Jx.bsz cForm=40 from rfl] at this;have:F.length*40<=140737488355328:=this;omega
 have hF:∀f,f∈F->f.2.length<=3600000000000:=fun f hf=>by
  have:=(hwF.2 f hf).2.1;rw[show Jx.bsz cCol=40 from rfl] at this;have:f.2.length*40<=140737488355328:=this;omega
 exact(z06 (F:=F) (b:=b) hF hFl).trans h⟩
end Go.Proofs.YtcnhjofpmpipfaaGreat
end

section
set_option maxRecDepth 100000
set_option maxHeartbeats 4000000
namespace Go.Proofs.YtcnhjofpmpipfaaGreat
open Go Go.Sx Go.RowKit Go.Jx
def w3(w:World):World:=((w.alloc (.cells #[.slice none 0 0,.slice none 0 0] 27)).alloc (.cells #[.int .i64 0] 3)).alloc (.cells #[.bool false] 4)
theorem zuq(p q r:Addr)(w:World) :
  CallsD Tryz.prog 100 #[.pointer (some p),.pointer (some q),.pointer (some r)] .returning w fun e u' w'=>e=.returned (.tuple #[])/\u'=.returning/\w'=w:=by
 refine callsD_of_wpS Tryz.func100 rfl fun c₀ cs hu=>?_;apply wpS_seq;apply wpS_region;simp[wpOpsS,go_sem,recoverD,hu,Tryz.ntmps100,Exit.thenS];apply wpS_seq;apply wpS_region;simp[wpOpsS,go_sem,Exit.thenS];refine wpS_cond (t:=false) (by simp[Act.eval,Array.replicate]) ?_;simp only[jbb,jbo];refine wpS_of_wp (wp_skip ?_);cases c₀
 simp_all [bodyPostS,results,Tryz.results100,Exit.thenS]
structure Bx3 (n:Nat) (w:World):Prop where
 c00:w.cell? { block:=n,off:=0 }=some (.slice none 0 0)
 c01:w.cell? { block:=n,off:=1 }=some (.slice none 0 0)
 c1:w.cell? { block:=n+1,off:=0 }=some (.int .i64 0)
 c2:w.cell? { block:=n+1+1,off:=0 }=some (.bool false)
 f00:w.frozen? { block:=n,off:=0 }=false
 f01:w.frozen? { block:=n,off:=1 }=false
 f1:w.frozen? { block:=n+1,off:=0 }=false
 f2:w.frozen? { block:=n+1+1,off:=0 }=false
 h0:w.heap[n]?=some (.cells #[.slice none 0 0,.slice none 0 0] 27)
 h1:w.heap[n+1]?=some (.cells #[.int .i64 0] 3)
 h2:w.heap[n+1+1]?=some (.cells #[.bool false] 4)
theorem Bx3.of{n:Nat}{w:World}(h0:w.heap[n]?=some (.cells #[.slice none 0 0,.slice none 0 0] 27))(h1:w.heap[n+1]?=some (.cells #[.int .i64 0] 3))(h2:w.heap[n+1+1]?=some (.cells #[.bool false] 4)):Bx3 n w:=by
 constructor<;>simp [World.cell?,World.frozen?,h0,h1,h2]
theorem Bx3.alloc{n:Nat}{w:World}(h:Bx3 n w)(o:Obj):Bx3 n (w.alloc o):=by
 obtain⟨_,_,_,_,_,_,_,_,h0,h1,h2⟩:=h;have l0:n<w.heap.size:=qa4 h0;have l1:n+1<w.heap.size:=qa4 h1;have l2:n+1+1<w.heap.size:=qa4 h2;refine Bx3.of ?_ ?_ ?_
 ·rw[<- h0];simp only[World.alloc,jcc];rw[jak (by omega)]
 ·rw[<- h1];simp only[World.alloc,jcc];rw[jak (by omega)]
 ·rw[<- h2];simp only[World.alloc,jcc];rw[jak (by omega)]
def retW(n:Nat)(a1 a2:Option Addr)(l1 c1 l2 c2:Nat)(w1:World):World :=
 (((w1.setCell { block:=n,off:=0 } (.slice a1 l1 c1)).setCell { block:=n,off:=1 } (.slice a2 l2 c2)).setCell { block:=n+1,off:=0 } (.int .i64 0)).setCell { block:=n+1+1,off:=0 } (.bool true)
theorem zd5{n:Nat}{W:World}{x y u v:Value}{tmps:Array Value}(h:(tmps[4]?.getD undef=.pointer (some ⟨n,0,none⟩)/\tmps[5]?.getD undef=.pointer (some ⟨n+1,0,none⟩)/\tmps[6]?.getD undef=.pointer (some ⟨n+1+1,0,none⟩))/\W.cell? { block:=n,off:=0 }=some x/\W.cell? { block:=n,off:=1 }=some y/\W.cell? { block:=n+1,off:=0 }=some u/\W.cell? { block:=n+1+1,off:=0 }=some v) :
  (results Tryz.f63 tmps).run Tryz.prog W=.ok (.tuple #[.agg #[x,y],u,v]) W:=by
 obtain⟨⟨t4,t5,t6⟩,h1,h2,h3,h4⟩:=h;simp[results,Tryz.results63,go_sem,t4,t5,t6,h1,h2,h3,h4]
theorem zuh{n:Nat}{a1 a2:Option Addr}{l1 c1 l2 c2:Nat}{w1:World}(h:Bx3 n w1):(retW n a1 a2 l1 c1 l2 c2 w1).cell? { block:=n,off:=0 }=some (.slice a1 l1 c1)/\(retW n a1 a2 l1 c1 l2 c2 w1).cell? { block:=n,off:=1 }=some (.slice a2 l2 c2)/\(retW n a1 a2 l1 c1 l2 c2 w1).cell? { block:=n+1,off:=0 }=some (.int .i64 0)/\(retW n a1 a2 l1 c1 l2 c2 w1).cell? { block:=n+1+1,off:=0 }=some (.bool true):=by
 obtain⟨_,_,_,_,_,_,_,_,h0,h1,h2⟩:=h;have n1:¬n=n+1+1:=by omega
 have n2:¬n+1+1=n:=by omega
 refine⟨?_,?_,?_,?_⟩<;>simp [retW,World.cell?,World.setCell,jca,h0,h1,h2,n1,n2]
theorem z15(ul ub:Value)(w:World)(Q:Option Addr->Nat->Nat->Option Addr->Nat->Nat->World->Prop)(h:Calls Tryz.prog 101 #[ul,ub] (w3 w) fun e w'=>∃a1 l1 c1 a2 l2 c2,e=.returned (.agg #[.slice a1 l1 c1,.slice a2 l2 c2])/\Q a1 l1 c1 a2 l2 c2 w')
 (h0:∀a1 l1 c1 a2 l2 c2 w',Q a1 l1 c1 a2 l2 c2 w'->Bx3 w.heap.size w'):Calls Tryz.prog 63 #[ul,ub] w fun e w'=>∃a1 l1 c1 a2 l2 c2 w1,Q a1 l1 c1 a2 l2 c2 w1/\e=.returned (.tuple #[.agg #[.slice a1 l1 c1,.slice a2 l2 c2],.int .i64 0,.bool true])/\w'=retW w.heap.size a1 a2 l1 c1 l2 c2 w1:=by
 go_enter_defers Tryz.func63,Tryz.ntmps63
 go_wp2_with (go_at_call 101;refine h.mono ?_;rintro e w' ⟨a1,l1,c1,a2,l2,c2,rfl,hq⟩;obtain⟨k00,k01,k1,k2,f00,f01,f1,f2,_,_,_⟩:=h0 _ _ _ _ _ _ w' hq)
 refine leaves_cons (f:=100) (args:=#[.pointer (some ⟨w.heap.size,0,none⟩),.pointer (some ⟨w.heap.size+1,0,none⟩),.pointer (some ⟨w.heap.size+1+1,0,none⟩)]) (by simp) (by simp[go_sem]) ?_;refine(zuq ⟨w.heap.size,0,none⟩ ⟨w.heap.size+1,0,none⟩ ⟨w.heap.size+1+1,0,none⟩ _).mono ?_;rintro e u' w'' ⟨rfl,rfl,rfl⟩;exact⟨_,zd5 ⟨⟨rfl,rfl,rfl⟩,zuh (w1:=w') (h0 _ _ _ _ _ _ w' hq)⟩,_,_,_,_,_,_,w',hq,rfl,rfl⟩
def panW(n:Nat)(k:Int)(w:World):World :=
 (((((w.alloc (.cells #[.int .i64 k] 156)).setCell { block:=n,off:=0 } (.slice none 0 0)).setCell { block:=n,off:=1 } (.slice none 0 0)).setCell { block:=n+1,off:=0 } (.int .i64 k)).setCell { block:=n+1+1,off:=0 } (.bool false)).drew
theorem zqz{n:Nat}{k:Int}{w:World}(h:Bx3 n w):(panW n k w).cell? { block:=n,off:=0 }=some (.slice none 0 0)/\(panW n k w).cell? { block:=n,off:=1 }=some (.slice none 0 0)/\(panW n k w).cell? { block:=n+1,off:=0 }=some (.int .i64 k)/\(panW n k w).cell? { block:=n+1+1,off:=0 }=some (.bool false):=by
 have hb1:=h.alloc (.cells #[.int .i64 k] 156);unfold panW;generalize w.alloc (.cells #[.int .i64 k] 156)=W at hb1 ⊢;obtain⟨_,_,_,_,_,_,_,_,h0,h1,h2⟩:=hb1;have n1:¬n=n+1+1:=by omega
 have n2:¬n+1+1=n:=by omega
 refine⟨?_,?_,?_,?_⟩<;>simp [World.cell?,World.drew,World.setCell,jca,h0,h1,h2,n1,n2]
theorem zk7(n:Nat)(k:Int)(w:World)(hb:Bx3 n w) :
  CallsD Tryz.prog 100 #[.pointer (some ⟨n,0,none⟩),.pointer (some ⟨n+1,0,none⟩),.pointer (some ⟨n+1+1,0,none⟩)] (.panicking [{ v:=.iface 156 (.agg #[.int .i64 k]),recovered:=false }]) w fun e u' w'=>e=.returned (.tuple #[])/\u'=.panicking [{ v:=.iface 156 (.agg #[.int .i64 k]),recovered:=true }]/\w'=panW n k w:=by
 have hb1:=hb.alloc (.cells #[.int .i64 k] 156);obtain⟨k00,k01,k1,k2,f00,f01,f1,f2,h0,h1,h2⟩:=hb1;have hlt:n+1+1<w.heap.size:=qa4 hb.h2;refine callsD_of_wpS Tryz.func100 rfl fun c₀ cs hu=>?_;apply wpS_seq;apply wpS_region;simp[wpOpsS,go_sem,recoverD,hu,Tryz.ntmps100,Exit.thenS];refine wpS_of_wp ?_
 have ht:(#[Value.pointer (some { block:=n,off:=0 }),Value.pointer (some { block:=n+1,off:=0 }),Value.pointer (some { block:=n+1+1,off:=0 })] ++
     ((Array.replicate 17 undef).setIfInBounds 3 (Value.iface 156 (Value.agg #[Value.int IntKind.i64 k]))).setIfInBounds 0 (Value.iface 156 (Value.agg #[Value.int IntKind.i64 k])))=#[.pointer (some ⟨n,0,none⟩),.pointer (some ⟨n+1,0,none⟩),.pointer (some ⟨n+1+1,0,none⟩),.iface 156 (.agg #[.int .i64 k]),undef,undef,.iface 156 (.agg #[.int .i64 k]),undef,undef,undef,undef,undef,undef,undef,undef,undef,undef,undef,undef,undef]:=by kernel_rfl
 rw[ht];clear ht;have hta:∀w:World,(Instr.typeAssert (Value.iface 156 (Value.agg #[Value.int IntKind.i64 k])) 20 156 true).run Tryz.prog w=.ok (.tuple #[.agg #[.int .i64 k],.bool true]) w:=fun _=>by kernel_rfl
 go_wp2
 go_region
 exact⟨rfl,_,rfl,_,by simp[results,Tryz.results100,jag],rfl,rfl,rfl⟩
theorem zq0(ul ub:Value)(k:Int)(w:World)(Q:World->Prop)(h:Calls Tryz.prog 101 #[ul,ub] (w3 w) fun e w'=>e=.panicked [{ v:=.iface 156 (.agg #[.int .i64 k]),recovered:=false }]/\Q w')
 (h0:∀w',Q w'->Bx3 w.heap.size w'):Calls Tryz.prog 63 #[ul,ub] w fun e w'=>∃w1,Q w1/\e=.returned (.tuple #[.agg #[.slice none 0 0,.slice none 0 0],.int .i64 k,.bool false])/\w'=panW w.heap.size k w1:=by
 go_enter_defers Tryz.func63,Tryz.ntmps63
 go_wp2_with (go_at_call 101;refine h.mono ?_;rintro e w' ⟨rfl,hq⟩)

 refine leaves_cons (f:=100) (args:=#[.pointer (some ⟨w.heap.size,0,none⟩),.pointer (some ⟨w.heap.size+1,0,none⟩),.pointer (some ⟨w.heap.size+1+1,0,none⟩)]) (by simp) (by simp[go_sem]) ?_;refine(zk7 w.heap.size k _ (h0 _ hq)).mono ?_;rintro e u' w'' ⟨rfl,rfl,rfl⟩;refine⟨_,zd5 ⟨⟨rfl,rfl,rfl⟩,zqz (h0 _ hq)⟩,_,hq,rfl,rfl⟩
def q6w:Sm:=⟨[.list cForm,.list (.int .u8)],[(false,qai),(false,.int .i64),(false,.bool)],fun x=>match S.dec x.1 x.2.1 with
 | .inl e=>some (([],[]),e,false,())
 | .inr g=>some (g,Int.ofNat 0,true,())⟩
theorem zeg{E:Env}{c:TC}{l:List (El c)}{u:Value}(h:VR E (.lst c l) u):∃a n cap,u=.slice a n cap:=by
 cases h with
 | lst0 h=>exact⟨_,_,_,rfl⟩
 | lst us h1 h2 h3 hb hh hc hu=>exact⟨_,_,_,rfl⟩
theorem zvo(w:World):Upd [] w (w3 w):=((Upd.push w _).trans (Upd.push _ _)).trans (Upd.push _ _)
theorem zel(w:World):(w3 w).heap.size=w.heap.size+3:=by simp only[w3,World.alloc,je3]
theorem zav{w w1:World}(h:∀b,b<(w3 w).heap.size->w1.heap[b]?=(w3 w).heap[b]?):Bx3 w.heap.size w1:=by
 have hs:=zel w;refine Bx3.of ?_ ?_ ?_
 ·rw[h _ (by omega)];simp only[w3,World.alloc,jcc,je3];rw[jak (by omega),jak (by omega),jal trivial]
 ·rw[h _ (by omega)];simp only[w3,World.alloc,jcc,je3];rw[jak (by omega),jal trivial]
 ·rw[h _ (by omega)];simp only[w3,World.alloc,jcc,je3];rw[jal trivial]
theorem qg8(w:World)(b o:Nat)(v:Value):Upd [b] w (w.setCell { block:=b,off:=o } v):=by
 refine⟨rfl,rfl,rfl,by simp[World.setCell],fun x hx hm=>?_⟩;simp only[World.setCell,jca];rw[jak];simp at hm;omega
theorem zn8{n:Nat}{a1 a2:Option Addr}{l1 c1 l2 c2:Nat}{w1:World}:Upd [n,n+1,n+1+1] w1 (retW n a1 a2 l1 c1 l2 c2 w1):=by
 unfold retW;exact(((qg8 _ n _ _).mono (by simp)).trans ((qg8 _ n _ _).mono (by simp))).trans (((qg8 _ (n+1) _ _).mono (by simp)).trans ((qg8 _ (n+1+1) _ _).mono (by simp)))
theorem zze{n:Nat}{k:Int}{w1:World}:Upd [n,n+1,n+1+1] w1 (panW n k w1):=by
 unfold panW;refine Upd.trans ?_ (Upd.drew _ _);exact((Upd.push _ _).mono (by simp)).trans ((((qg8 _ n _ _).mono (by simp)).trans ((qg8 _ n _ _).mono (by simp))).trans (((qg8 _ (n+1) _ _).mono (by simp)).trans ((qg8 _ (n+1+1) _ _).mono (by simp))))
theorem agg1{E:Env}{t:Nat}{k:IntKind}{n:Int}{u:Value}(h:VR E (.iface t (.agg [.int k n])) u):u=.iface t (.agg #[.int k n])/\k.wrap n=n:=by
 cases h with
 | iface h =>
  cases h with
  | agg hl hh =>
   rename_i us;match us,hl with
   | [a],_ =>
    have:=hh 0 (by simp) (by simp);cases this with
    | int _ _ hw=>exact⟨rfl,hw⟩
theorem agg2{E:Env}{c d:TC}{l:List (El c)}{m:List (El d)}{u:Value}(h:VR E (.agg [.lst c l,.lst d m]) u):∃a1 l1 c1 a2 l2 c2,u=.agg #[.slice a1 l1 c1,.slice a2 l2 c2]:=by
 cases h with
 | agg hl hh =>
  rename_i us;match us,hl with
  | [a,b],_ =>
   obtain⟨a1,l1,c1,rfl⟩:=zeg (hh 0 (by simp) (by simp));obtain⟨a2,l2,c2,rfl⟩:=zeg (hh 1 (by simp) (by simp));exact⟨_,_,_,_,_,_,rfl⟩
theorem zfh{M M':List Nat}{w w':World}{r:Res}{u:Value}(hr:r.S=S0)(hos:w'.os=w.os)(ht:w'.tape=w.tape)(ho:w'.output=w.output)(hsz:w.heap.size<=w'.heap.size)(hs:∀b,b<w.heap.size->w'.heap[b]?=w.heap[b]?)
  (hm:∀b∈M',b∈M\/w.heap.size<=b) (hM:∀b∈M,b<w.heap.size->b∈M') (hlo:∀b∈M',b<w'.heap.size) (hv:VR (EM M' w') r.v u):RetE T0 (EM M w) S0 r (.returned u) w':=by
 refine⟨u,EM M' w',rfl,rfl,hv,?_,⟨fun id h=>h.elim⟩⟩;rw[hr];exact⟨⟨fun id _ h=>h.elim,fun id _ h=>h.elim,fun id _ h=>h.elim,fun i j _ _ h=>h.elim,hlo⟩,⟨hos,ht,ho,hsz,fun b hb _=>hs b hb,fun id h=>h.elim,fun id h=>h.elim,fun id _ h=>h.elim,hm,fun b hb hl=>.inl (hM b hb hl)⟩,fun id h=>h.elim,jaq _⟩
theorem znc:Con Tryz.prog 63 q6w:=by
 refine⟨⟨_,Tryz.func63,by kernel_rfl,by kernel_rfl⟩,fun M w x us y hf hM hG hv=>?_⟩;obtain⟨(F:List qab),(b:List Int),⟨⟩⟩:=x
 have hf:(match S.dec F b with
  | .inl e=>some (([],[]),e,false,())
  | .inr g=>some (g,Int.ofNat 0,true,()):Option ((List qaa × List DVal) × Int × Bool × Unit))=some y:=hf
 obtain⟨ul,us1,rfl,a1,a2⟩:=VRs.inv (v:=.lst cForm F) (cs:=[.lst (.int .u8) b]) hv;obtain⟨ub,us2,rfl,b1,b2⟩:=VRs.inv (v:=.lst (.int .u8) b) (cs:=[]) a2;obtain rfl:us2=[]:=jbq.1 b2.1.symm;have hs3:=zel w;have u3:=zvo w;have tr3:Tr M w (w.heap.size::(w.heap.size+1)::(w.heap.size+1+1)::M) (w3 w):=⟨fun b hb hm=>⟨by simp only[ja4];rintro(h|h|h|h);omega;omega;omega;exact hm h,u3.same b hb (by simp)⟩⟩;have le3:(EM M w).Le (EM (w.heap.size::(w.heap.size+1)::(w.heap.size+1+1)::M) (w3 w)):=⟨fun id h=>h.elim,tr3⟩;have p3:Pre T0 (EM (w.heap.size::(w.heap.size+1)::(w.heap.size+1+1)::M) (w3 w)) S0:=preM (by
  intro b hb;simp only[ja4] at hb;rcases hb with h|h|h|h
  ·omega
  ·omega
  ·omega
  ·have:=hM b h;omega) (hG.mono tr3)
 have hv3:VRs (EM (w.heap.size::(w.heap.size+1)::(w.heap.size+1+1)::M) (w3 w)) [.lst cForm F,.lst (.int .u8) b] [ul,ub]:=hv.mono le3;cases hd:S.dec F b with
 | inl e =>
  rw[hd] at hf;cases hf;have hcall:=q40.calls _ (F,b,()) [ul,ub] (.inl (e,())) (by show (match S.dec F b with|.inl e=>some (Sum.inl (e,()))|.inr g=>some (Sum.inr ((g,()),())):Option qaw)=_;rw[hd];rfl) p3 hv3;refine jda.2 ((zq0 ul ub e w (fun w1=>IntKind.i64.wrap e=e/\(w1.os=(w3 w).os/\w1.tape=(w3 w).tape/\w1.output=(w3 w).output/\(w3 w).heap.size<=w1.heap.size)/\∀b,b<(w3 w).heap.size->w1.heap[b]?=(w3 w).heap[b]?) ((jda.1 hcall).mono ?_) fun w1 h=>zav h.2.2).mono ?_)
  ·rintro e1 w1 ⟨u,rfl,k1,k2,k3⟩;obtain⟨hu,hw⟩:=agg1 k1;subst hu;exact⟨rfl,hw,⟨k3.stp.os,k3.stp.tape,k3.stp.output,k3.stp.size⟩,fun b hb=>k3.stp.same b hb fun id _ h=>h.elim⟩
  ·rintro e1 w2 ⟨w1,⟨hwr,⟨q1,q2,q3,q4⟩,q5⟩,rfl,rfl⟩;have hu:=zze (n:=w.heap.size) (k:=e) (w1:=w1);refine zfh (M':=M) rfl (hu.os.trans (q1.trans u3.os)) (hu.tape.trans (q2.trans u3.tape)) (hu.output.trans (q3.trans u3.output)) (by have:=hu.size;omega) (fun b hb=>?_) (fun b hb=>.inl hb) (fun b hb _=>hb) (fun b hb=>by have:=hM b hb;have:=hu.size;omega) ?_
   ·rw[hu.same b (by omega) (by simp;omega),q5 b (by omega),u3.same b hb (by simp)]
   ·have hk:IntKind.i64.wrap e=e:=hwr;refine .tup (cs:=[.agg [.lst qaf [],.lst cVal []],.int .i64 e,.bool false]) (us:=[.agg #[.slice none 0 0,.slice none 0 0],.int .i64 e,.bool false]) rfl ?_;have h1:VRs (EM M (panW w.heap.size e w1)) [.agg [.lst qaf [],.lst cVal []],.int .i64 e,.bool false] [.agg #[.slice none 0 0,.slice none 0 0],.int .i64 e,.bool false] :=
     VRs.cons (.agg (us:=[.slice none 0 0,.slice none 0 0]) rfl (VRs.cons (.lst0 (by omega)) (VRs.cons (.lst0 (by omega)) VRs.nil)).2) (VRs.cons (.int _ _ hk) (VRs.cons (.bool _) VRs.nil))
    exact h1.2
 | inr g =>
  rw[hd] at hf;cases hf;have hcall:=q40.calls _ (F,b,()) [ul,ub] (.inr ((g,()),())) (by show (match S.dec F b with|.inl e=>some (Sum.inl (e,()))|.inr g=>some (Sum.inr ((g,()),())):Option qaw)=_;rw[hd];rfl) p3 hv3
  refine jda.2 ((z15 ul ub w (fun a1 l1 c1 a2 l2 c2 w1=>(w1.os=(w3 w).os/\w1.tape=(w3 w).tape/\w1.output=(w3 w).output/\(w3 w).heap.size<=w1.heap.size)/\(∀b,b<(w3 w).heap.size->w1.heap[b]?=(w3 w).heap[b]?) /\
   ∃m:List Nat,(∀b∈m,b∈w.heap.size::(w.heap.size+1)::(w.heap.size+1+1)::M\/(w3 w).heap.size<=b)/\(∀b∈w.heap.size::(w.heap.size+1)::(w.heap.size+1+1)::M,b∈m)/\(∀b∈m,b<w1.heap.size)/\VR (EM m w1) (asIV qai g) (.agg #[.slice a1 l1 c1,.slice a2 l2 c2])) ((jda.1 hcall).mono ?_) fun _ _ _ _ _ _ w1 h=>zav h.2.1).mono ?_)
  ·rintro e1 w1 ⟨u,E',rfl,rfl,k1,k2⟩;have k1:VR E' (asIV qai g) u:=k1;obtain⟨a1,l1,c1,a2,l2,c2,rfl⟩:=agg2 k1;refine⟨a1,l1,c1,a2,l2,c2,rfl,⟨k2.os,k2.tape,k2.output,k2.size⟩,fun b hb=>k2.same b hb fun id _ h=>h.elim,E'.m,k2.memo,fun b hb=>?_,k2.st.lo,qfd (E:=E') (E':=EM E'.m E'.w) (c:=qai) (fun _ h=>h) rfl k1⟩;have hbs:b<(w3 w).heap.size:=p3.st.lo b hb;rcases k2.mem b hb hbs with h|⟨id,_,h,_⟩
   ·exact h
   ·exact h.elim
  ·rintro e1 w2 ⟨a1,l1,c1,a2,l2,c2,w1,⟨⟨q1,q2,q3,q4⟩,q5,m,m1,m2,m3,m4⟩,rfl,rfl⟩;have hu:=zn8 (n:=w.heap.size) (a1:=a1) (a2:=a2) (l1:=l1) (c1:=c1) (l2:=l2) (c2:=c2) (w1:=w1);refine zfh (M':=m) rfl (hu.os.trans (q1.trans u3.os)) (hu.tape.trans (q2.trans u3.tape)) (hu.output.trans (q3.trans u3.output)) (by have:=hu.size;omega) (fun b hb=>?_) (fun b hb=>?_) (fun b hb _=>m2 b (by simp[hb])) (fun b hb=>by have:=m3 b hb;have:=hu.size;omega) ?_
   ·rw[hu.same b (by omega) (by simp;omega),q5 b (by omega),u3.same b hb (by simp)]
   ·rcases m1 b hb with h|h
    ·simp only[ja4] at h;rcases h with h|h|h|h
     ·right;omega
     ·right;omega
     ·right;omega
     ·exact .inl h
    ·right;omega
   ·have hle:(EM m w1).Le (EM m (retW w.heap.size a1 a2 l1 c1 l2 c2 w1)):=⟨fun id h=>h.elim,⟨fun b hb hm=>⟨hm,hu.same b hb fun hmem=>hm (m2 b (by simp only[ja4,jdw,or_false] at hmem ⊢;rcases hmem with h|h|h<;>simp [h]))⟩⟩⟩;have hg:VR (EM m (retW w.heap.size a1 a2 l1 c1 l2 c2 w1)) (asIV qai g) (.agg #[.slice a1 l1 c1,.slice a2 l2 c2]):=m4.mono hle;refine .tup (cs:=[asIV qai g,.int .i64 (Int.ofNat 0),.bool true]) (us:=[.agg #[.slice a1 l1 c1,.slice a2 l2 c2],.int .i64 0,.bool true]) rfl ?_;have h1:VRs (EM m (retW w.heap.size a1 a2 l1 c1 l2 c2 w1)) [asIV qai g,.int .i64 (Int.ofNat 0),.bool true] [.agg #[.slice a1 l1 c1,.slice a2 l2 c2],.int .i64 0,.bool true] :=
     VRs.cons hg (VRs.cons (.int _ _ (by decide)) (VRs.cons (.bool _) VRs.nil))
    exact h1.2
end Go.Proofs.YtcnhjofpmpipfaaGreat
end

noncomputable section
set_option maxRecDepth 100000
namespace Go.Proofs.YtcnhjofpmpipfaaGreat
open Go Go.Sx Go.RowKit Go.Jx
abbrev qur:Type:=qac × Int × Int × Unit
abbrev zii:Nat:=24
def q4w(lf:Nat)(x1:(List qab))(x2:(List Int)):Option qur:=(cond (Bool.not (ieqI (S.checkForms x1) (Int.ofNat 0))) (some (([],[]),((Int.ofNat 0),((S.checkForms x1),())))) (cond (iltI (Int.ofNat 60000) (Int.ofNat x2.length)) (some (([],[]),((Int.ofNat 0),((Int.ofNat 3),())))) (cond (iltI (IntKind.i64.wrap (Int.sub (Int.ofNat x2.length) (Int.ofNat 4))) (Int.ofNat 0)) (some (([],[]),((Int.ofNat 0),((Int.ofNat 15),())))) (cond (lchk (IntKind.i64.wrap (Int.sub (Int.ofNat x2.length) (Int.ofNat 4))) (Int.ofNat x2.length) (Int.ofNat x2.length) (Int.ofNat x2.length)) (cond (lchk (Int.ofNat 0) (IntKind.i64.wrap (Int.sub (Int.ofNat x2.length) (Int.ofNat 4))) (Int.ofNat x2.length) (Int.ofNat x2.length)) (cond (Bool.not (S.eqB (lsub x2 (IntKind.i64.wrap (Int.sub (Int.ofNat x2.length) (Int.ofNat 4))) (Int.ofNat x2.length)) (S.sum4 (lsub x2 (Int.ofNat 0) (IntKind.i64.wrap (Int.sub (Int.ofNat x2.length) (Int.ofNat 4))))))) (some (([],[]),((Int.ofNat 0),((Int.ofNat 15),())))) (cond (lchk (Int.ofNat 0) (IntKind.i64.wrap (Int.sub (Int.ofNat x2.length) (Int.ofNat 4))) (Int.ofNat x2.length) (Int.ofNat x2.length)) (match (match (S.dec x1 (lsub x2 (Int.ofNat 0) (IntKind.i64.wrap (Int.sub (Int.ofNat x2.length) (Int.ofNat 4))))) with|.inl v0=>(some (([],[]),(v0,(false,()))))|.inr v1=>(some (v1,((Int.ofNat 0),(true,()))))) with|none=>none|some v2=>(cond (Bool.not v2.2.2.1) (some (([],[]),(v2.2.1,((Int.ofNat 2),())))) (match (cond (S.typedPre x1 (v2.1.1,v2.1.2)) (some ((S.typed x1 (v2.1.1,v2.1.2) v2.1.1),())) none) with|none=>none|some v3=>(cond (Bool.not v3.1) (some (([],[]),((Int.ofNat 0),((Int.ofNat 8),())))) (match (S.canonO (v2.1.1,v2.1.2)) with|none=>none|some v4=>(cond (Bool.not (S.eqGraph (v4.1.1,v4.1.2) (v2.1.1,v2.1.2))) (some (([],[]),((Int.ofNat 0),((Int.ofNat 2),())))) (some ((v2.1.1,v2.1.2),((Int.ofNat 0),((Int.ofNat 0),())))))))))) none)) none) none))))
def qt9(lf:Nat)(x1:(List qab))(x2:(List Int)):Option qur:=q4w lf x1 x2
theorem zr3{g:ElA [(.list cForm),(.list (.int .u8))]->Option qur}(hsm:SmOK Tryz.prog [(44,spz4),(62,zcr),(61,q44),(63,q6w),(64,spz5),(65,zeu),(66,zdb)])(hg:∀(x:ElA [(.list cForm),(.list (.int .u8))]) (y:qur),WfA [(.list cForm),(.list (.int .u8))] x->g x=some y->∃lf,qt9 lf x.1 x.2.1=some y):Con Tryz.prog 24 ⟨[(.list cForm),(.list (.int .u8))],[(false,qai),(false,(.int .i64)),(false,(.int .i64))],g⟩ :=
 conU (fi:=fi24) (hxl:=[]) (fun lf x=>qt9 lf x.1 x.2.1) cm3 zrs trivial hsm hg
end Go.Proofs.YtcnhjofpmpipfaaGreat
end
