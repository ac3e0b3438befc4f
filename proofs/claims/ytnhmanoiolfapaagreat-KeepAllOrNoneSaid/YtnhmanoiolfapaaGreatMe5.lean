/- Texts: Kw4, Kpa, Kpb, Kpc, Kpd, Kpe, Kw5, Kw6, Jcr, Jit, Ksx, Ksh, Ksr, Krp, Rg, Krq, Kso, Kca, Kcb, Kcc, Kcd, Kma, Kw7, Ksm, Kl3, Kl1, Kl2, Kg9, Kpf, Kpg, Kph, Kpj, Kl4, Kpl, Kgd, Jiu, Jcs, Kri, Kgb, Kga, Kpi, Kpk. -/
import Derived.Test.YtnhmanoiolfapaaGreatMe4
import Derived.Shelf.Strings.Repeat
import Derived.Test.YtnhmanoiolfapaaGreatProg
import Derived.Laws.IdiomCopy
import Derived.Laws.MakeOwn
import Derived.Test.YtnhmanoiolfapaaGreatMe1
import Derived.Shelf.SlSortCmp.WholeK
import Derived.Shelf.SlSortCmp.NoneTotal
import Derived.Laws.IdiomRangeMap
import Derived.Test.YtnhmanoiolfapaaGreatMe3
set_option linter.unusedVariables false
noncomputable section
set_option maxRecDepth 100000
namespace Go.Proofs.YtnhmanoiolfapaaGreat
open Go Go.Sx Go.RowKit Go.Jx
theorem q6c{d:qah}(h:S.checkDisk d=0):Dk d.1:=by
 obtain⟨ok,h8,h2⟩:=qp0 h;exact⟨ok.sz,h8,ok.le,h2⟩
theorem Jn.opened_{L:List ByteArray}{h:Int}{a u:Nat}{c:List qaa}(j:Jn L h a u c):S.open_ (L,[])=(((L,[]),h,(u:Int),c),0):=by
 unfold S.open_;rw[jan j.dk.check,jan (show (L,([]:List DPut)).2.length=0 from rfl)]
 show (match S.opened L with
  | some (h,u,c)=>(((L,([]:List DPut)),h,(u:Int),c),(0:Int))
  | none=>(S.noJ,15))=_
 rw[j.open_]
theorem qwn{d:qah}(h:(S.open_ d).2=0):∃hf a u c,Jn d.1 hf a u c/\d.2=[]/\S.open_ d=(((d.1,[]),hf,(u:Int),c),0):=by
 unfold S.open_ at h ⊢;by_cases h0:S.checkDisk d=0
 ·rw[jan h0] at h ⊢;by_cases h1:d.2.length=0
  ·rw[jan h1] at h ⊢;cases ho:S.opened d.1 with
   | none=>rw[ho] at h;cases h
   | some x =>
    obtain⟨hf,u,c⟩:=x;obtain⟨a,j⟩:=zf0 (q6c h0) ho;exact⟨hf,a,u,c,j,ja2.1 h1,rfl⟩
  ·rw[jao h1] at h;cases h
 ·rw[jao h0] at h;exact absurd h h0
theorem qun{j:qad}(h:S.right j=true):∃a u,Jn j.1.1 j.2.1 a u j.2.2.2/\j.1.2=[]/\j.2.2.1=((u:Nat):Int):=by
 unfold S.right at h;rw[jad] at h;obtain⟨hf,a,u,c,k,h1,h2⟩:=qwn (jaz h.1);have h3:=jaz h.2;rw[h2] at h3;obtain⟨⟨l,q⟩,hh,uu,cc⟩:=j;cases h3;exact⟨a,u,k,rfl,rfl⟩
theorem Jn.right{L:List ByteArray}{h:Int}{a u:Nat}{c:List qaa}(j:Jn L h a u c):S.right ((L,[]),h,(u:Int),c)=true:=by
 unfold S.right;rw[jad];show decide ((S.open_ (L,[])).2=0)=true/\decide ((S.open_ (L,[])).1=_)=true;rw[j.opened_];exact⟨jal rfl,jal rfl⟩
theorem qlz{l:List qaa}(h:S.okC l=true):S.pk l=true:=by
 unfold S.pk;rw[h,jax (by have:=qn7 h;omega)];rfl
theorem zaf(l:List qaa)(m m':Int):(S.packed l m).drop 1=(S.packed l m').drop 1:=by
 have e:∀x:Int,S.packed l x=qae ((S.recB l x).take 64++List.replicate (64-(S.recB l x).length) 0)::S.chunks ((S.body l).length+3) ((S.recB l x).drop 64):=fun x=>qf3 ((S.body l).length+3) (b:=S.recB l x) (by rw[qen];omega);rw[e m,e m'];rfl
theorem qg4(l:List qaa)(m:Int):S.packed l m=(S.packed l m).getD 0 S.none_::(S.packed l 1).drop 1:=by
 have hp:=qck l m;rw[<- zaf l m 1];cases h:S.packed l m with
 | nil=>rw[h] at hp;cases hp
 | cons s r=>rfl
theorem qdw(l:List qaa)(m:Int):szS (S.packed l m):=qxh _ _
theorem q4m:S.blank.size=64:=by kernel_rfl
theorem q5o:(qab S.blank).getD 0 0=0:=by kernel_rfl
theorem qz6{L:List ByteArray}{a:Nat}{x y:ByteArray}{r:List ByteArray}(h:a+(r.length+1)<=L.length):over (over L a (x::r)) a [y]=over L a (y::r):=by
 have h':a+(x::r).length<=L.length:=h;have h1:=qv6 h';have h2:=qg3 h';show (over L a (x::r)).take a++([y]++(over L a (x::r)).drop (a+1))=L.take a++((y::r)++L.drop (a+(r.length+1)));rw[h1,<- jcy,h2];rfl
theorem zlu(X:List ByteArray)(t:ByteArray):∀{b:Nat},1<=b->(over X 0 [t]).drop b=X.drop b
 | 0,h=>by omega
 | b+1,_=>by
  show (t::X.drop (0+1)).drop (b+1)=_;rw[List.drop_succ_cons,jcy,show 0+1+b=b+1 by omega]
theorem Dk.over{L:List ByteArray}(d:Dk L){a:Nat}{ss:List ByteArray}(h:a+ss.length<=L.length)(hs:szS ss):Dk (over L a ss):=by
 refine⟨zkp d.sz hs,?_,?_,?_⟩<;>rw[qc3 h]
 ·exact d.ge
 ·exact d.le
 ·exact d.ev
theorem qyg{L:List ByteArray}{a:Nat}{l:List qaa}{tail:List ByteArray}{r:List DAct}(ht:szS tail)(h:a+((S.packed l 1).length+tail.length)<=L.length)(hL:L.length<=1000) :
  S.doGo (S.puts (a:Int) (S.packed l 0++tail)++(S.sync::S.put (a:Int) ((S.packed l 1).getD 0 S.none_)::S.sync::r)) L []=S.doGo r (over L a (S.packed l 1++tail)) []:=by
 have e1:(S.packed l 0).length=(S.packed l 1).length:=by rw[qb0,qb0]
 have hp:=qck l 1;have h':a+(S.packed l 0++tail).length<=L.length:=by rw[jaf,e1];exact h
 have hs:szS (S.packed l 0++tail):=fun s hs=>(jbn.1 hs).elim (qdw l 0 s) (ht s);have hol:(over L a (S.packed l 0++tail)).length=L.length:=qc3 h';rw[qjw _ _ _ _ _ hs h' (by rw[ja6];omega),jci,qfl,qem _ _ _ h',qkq (qdw l 1 _ (qeo (by omega))) (by omega) (by rw[ja6];omega),qfl];have:S.settled (over L a (S.packed l 0++tail)) ([]++[(((a:Nat):Int),(S.packed l 1).getD 0 S.none_)])=over L a (S.packed l 1++tail):=by
  refine(qem [(S.packed l 1).getD 0 S.none_] a _ (by rw[hol];simp only[jas,ja6];omega)).trans ?_;have hlen:a+(((S.packed l 1).drop 1++tail).length+1)<=L.length:=by rw[jaf,ja7];omega
  have s1:=qg4 l 1;rw[qg4 l 0,jch];refine(qz6 hlen).trans (jav (over L a) ?_);rw[<- jch,<- s1]
 rw[this]
def qd5(b:Bool):List ByteArray:=cond b [S.blank] []
theorem qsy(b:Bool):szS (qd5 b):=fun s h=>by
 cases b with
 | true=>rw[jb7.1 h];exact q4m
 | false=>cases h
theorem q4j(l:List qaa)(a:Nat)(e:Int)(b:Bool):S.laid l (a:Int) e b=S.puts (a:Int) (S.packed l 0++qd5 (b&&decide ((a:Int)+(S.packed l 1).length<e)))++[S.sync,S.put (a:Int) ((S.packed l 1).getD 0 S.none_),S.sync]:=by
 have e1:(S.packed l 0).length=(S.packed l 1).length:=by rw[qb0,qb0]
 unfold S.laid;rw[qv8,e1,jay];cases (b&&decide ((a:Int)+(S.packed l 1).length<e))<;>rfl
theorem q80{j:qad}{l:List qaa}(h:¬S.roomOf j<(S.packed l 1).length):S.commit j l=some (S.laid l ((S.half j.1.1.length j.2.1).1+j.2.2.1) (S.half j.1.1.length j.2.1).2 true):=by
 unfold S.commit S.laid;rw[jao h,jb1,jay]
theorem qvc{L:List ByteArray}{h:Int}{a u:Nat}{c:List qaa}(j:Jn L h a u c):S.roomOf ((L,[]),h,(u:Int),c)=((L.length / 2-1-u:Nat):Int):=by
 have:=j.le.1;unfold S.roomOf;show (S.half L.length h).2-(S.half L.length h).1-(u:Int)=_;rw[j.fr];show ((a+(L.length / 2-1):Nat):Int)-(a:Int)-(u:Int)=_;omega
def comL(L:List ByteArray)(a u:Nat)(l:List qaa):List ByteArray:=over L (a+u) (S.packed l 1++qd5 (decide (u+(S.packed l 1).length<L.length / 2-1)))
theorem qhs{L:List ByteArray}{h:Int}{a u:Nat}{c l:List qaa}(j:Jn L h a u c)(hl:S.okC l=true)(hr:u+(S.packed l 1).length<=L.length / 2-1) :
  S.commit ((L,[]),h,(u:Int),c) l=some (S.laid l ((a+u:Nat):Int) ((a+(L.length / 2-1):Nat):Int) true) /\
  S.doD (L,[]) (S.laid l ((a+u:Nat):Int) ((a+(L.length / 2-1):Nat):Int) true)=((comL L a u l,[]),0) /\
  Jn (comL L a u l) h a (u+(S.packed l 1).length) (S.changed c l)/\(comL L a u l).length=L.length:=by
 have hto:=j.to_;have hle:=j.dk.le;have hb:=qp5 (qlz hl);have hd:decide (((a+u:Nat):Int)+(S.packed l 1).length<((a+(L.length / 2-1):Nat):Int))=decide (u+(S.packed l 1).length<L.length / 2-1):=jdl.2 (by omega);have htl:(qd5 (decide (u+(S.packed l 1).length<L.length / 2-1))).length=if u+(S.packed l 1).length<L.length / 2-1 then 1 else 0:=by
  by_cases e:u+(S.packed l 1).length<L.length / 2-1
  ·rw[jan e,jal e];rfl
  ·rw[jao e,jar e];rfl
 have hfit:a+u+((S.packed l 1).length+(qd5 (decide (u+(S.packed l 1).length<L.length / 2-1))).length)<=L.length:=by
  rw[htl];split<;>omega
 have hfit':a+u+(S.packed l 1++qd5 (decide (u+(S.packed l 1).length<L.length / 2-1))).length<=L.length:=by rw[jaf];exact hfit
 have hsz:szS (S.packed l 1++qd5 (decide (u+(S.packed l 1).length<L.length / 2-1))):=fun s hs=>(jbn.1 hs).elim (qdw l 1 s) (qsy _ s);refine⟨?_,?_,?_,qc3 hfit'⟩
 ·rw[q80 (by rw[qvc j];omega)];show some (S.laid l ((S.half L.length h).1+(u:Int)) (S.half L.length h).2 true)=_;rw[j.fr];rfl
 ·unfold S.doD;rw[jan j.dk.check,q4j,jb1,hd];exact(qyg (r:=[]) (qsy _) hfit hle).trans (qhp _ _)
 ·refine j.more (j.dk.over hfit' hsz) (qc3 hfit') (qv6 hfit') hl (by omega) hr (rest:=qd5 (decide (u+(S.packed l 1).length<L.length / 2-1))++L.drop (a+u+(S.packed l 1++qd5 (decide (u+(S.packed l 1).length<L.length / 2-1))).length)) ?_ ?_
  ·show (over L (a+u) _).drop (a+u)=_;rw[qg3 hfit',jay]
  ·by_cases e:u+(S.packed l 1).length<L.length / 2-1
   ·right;rw[jal e];exact q5o
   ·left;omega
theorem q6n:∀{c:List qaa} {last:Int},okS c last->S.changed [] c=c
 | [],_,_=>rfl
 | x::c,last,h=>by
  have hx:=h.2 x (by simp);have h5:=(qbo.1 h.1).2.2.2.2;rw[zjb h.1,hx,jah,q6n (c:=c) ⟨h5,fun y hy=>h.2 y (by simp[hy])⟩]
theorem q7x{j:qad}(h:¬(S.half j.1.1.length (1-j.2.1)).2-(S.half j.1.1.length (1-j.2.1)).1<(S.packed j.2.2.2 1).length):S.turn j=some (S.puts (S.half j.1.1.length (1-j.2.1)).1 (List.replicate ((S.half j.1.1.length (1-j.2.1)).2-(S.half j.1.1.length (1-j.2.1)).1).toNat S.blank)++[S.sync]++S.puts (S.half j.1.1.length (1-j.2.1)).1 (S.packed j.2.2.2 0) ++
  [S.sync,S.put (S.half j.1.1.length (1-j.2.1)).1 ((S.packed j.2.2.2 1).getD 0 S.none_),S.sync,S.put 0 (qae ((1-j.2.1)::List.replicate 63 0)),S.sync]):=by
 unfold S.turn;rw[jao h]
def topS(h:Int):ByteArray:=qae (h::List.replicate 63 0)
def turL(L:List ByteArray)(h:Int)(b:Nat)(c:List qaa):List ByteArray:=over (over (over L b (List.replicate (L.length / 2-1) S.blank)) b (S.packed c 1)) 0 [topS h]
def turA(L:List ByteArray)(h:Int)(b:Nat)(c:List qaa):List DAct:=S.puts (b:Int) (List.replicate (L.length / 2-1) S.blank)++[S.sync]++S.puts (b:Int) (S.packed c 0)++[S.sync,S.put (b:Int) ((S.packed c 1).getD 0 S.none_),S.sync,S.put 0 (topS h),S.sync]
theorem qw8{h:Int}:(topS h).size=64:=by
 unfold topS;rw[qbi,jas,jbd]
theorem zck{h:Int}(hh:h=0\/h=1):qab (topS h)=topB h:=qbt fun x hx=>by
 rcases jau.1 hx with rfl|hx
 ·omega
 ·exact qg0 63 x hx
theorem q66{L:List ByteArray}{h:Int}{a u:Nat}{c:List qaa}(j:Jn L h a u c)(hr:(S.packed c 1).length<=L.length / 2-1):∃b:Nat,S.half L.length (1-h)=((b:Int),((b+(L.length / 2-1):Nat):Int)) /\
  S.turn ((L,[]),h,(u:Int),c)=some (turA L (1-h) b c)/\S.doD (L,[]) (turA L (1-h) b c)=((turL L (1-h) b c,[]),0)/\Jn (turL L (1-h) b c) (1-h) b (S.packed c 1).length c/\(turL L (1-h) b c).length=L.length:=by
 have hh:=j.hh;have hle:=j.dk.le;have hge:=j.dk.ge;have hok:=j.le.2.1;have hb:=qp5 (qlz hok.1);obtain⟨b,e1,e2,e3,_,_⟩:=qid j.dk.ev hge (h:=1-h) (by omega);have hK:(List.replicate (L.length / 2-1) S.blank).length=L.length / 2-1:=jbd;have hf1:b+(List.replicate (L.length / 2-1) S.blank).length<=L.length:=by rw[hK];omega
 have hs1:szS (List.replicate (L.length / 2-1) S.blank):=fun s hs=>by rw[(jfl.1 hs).2];exact q4m
 have d1:=j.dk.over hf1 hs1;have l1:(over L b (List.replicate (L.length / 2-1) S.blank)).length=L.length:=qc3 hf1;have hf2:b+(S.packed c 1).length<=(over L b (List.replicate (L.length / 2-1) S.blank)).length:=by rw[l1];omega
 have d2:=d1.over hf2 (qdw c 1);have l2:=(qc3 hf2).trans l1;have hf3:0+[topS (1-h)].length<=(over (over L b (List.replicate (L.length / 2-1) S.blank)) b (S.packed c 1)).length:=by rw[l2];show 0+1<=_;omega
 have hs3:szS [topS (1-h)]:=fun s hs=>by rw[jb7.1 hs];exact qw8
 have d3:=d2.over hf3 hs3;have l3:(turL L (1-h) b c).length=L.length:=(qc3 hf3).trans l2;have hmem:(S.packed c 1).getD 0 S.none_∈S.packed c 1:=qeo (qck c 1);refine⟨b,e1,?_,?_,?_,l3⟩
 ·rw[q7x]
  ·show some (S.puts (S.half L.length (1-h)).1 (List.replicate ((S.half L.length (1-h)).2-(S.half L.length (1-h)).1).toNat S.blank)++[S.sync]++S.puts (S.half L.length (1-h)).1 (S.packed c 0)++_)=_;rw[e1];have:(((b+(L.length / 2-1):Nat):Int)-(b:Int)).toNat=L.length / 2-1:=by omega
   simp only[this];rfl
  ·show ¬(S.half L.length (1-h)).2-(S.half L.length (1-h)).1<_;rw[e1];show ¬((b+(L.length / 2-1):Nat):Int)-(b:Int)<((S.packed c 1).length:Int);omega
 ·unfold S.doD;rw[jan j.dk.check];show S.doGo (turA L (1-h) b c) L []=_;unfold turA;rw[jay,jay,qjw _ _ _ _ _ hs1 hf1 (by rw[ja6,hK];omega),jci];show S.doGo (S.sync::_) _ _=_;rw[qfl,qem _ _ _ hf1];have:=qyg (L:=over L b (List.replicate (L.length / 2-1) S.blank)) (a:=b) (l:=c) (tail:=[]) (r:=[S.put ((0:Nat):Int) (topS (1-h)),S.sync]) (fun s hs=>by cases hs) (by rw[l1,ja6];omega) (by rw[l1];exact hle);rw[jbl,jbl] at this;refine this.trans ?_;rw[qkq qw8 (by rw[l2];omega) (by rw[ja6];omega),qfl,qhp];refine jav (fun z=>((z,[]),0)) ?_;exact qem [topS (1-h)] 0 _ hf3
 ·have hh':1-h=0\/1-h=1:=by omega
  have htop:(turL L (1-h) b c).getD 0 S.none_=topS (1-h):=rfl;refine⟨d3,hh',by rw[htop];exact zck hh',by rw[l3];exact e1,e2,by rw[l3];exact e3,⟨2,?_⟩,qck c 1⟩;rw[l3];have hdr:(turL L (1-h) b c).drop b=S.packed c 1++(over L b (List.replicate (L.length / 2-1) S.blank)).drop (b+(S.packed c 1).length):=by
   rw[<- qg3 hf2];show (over _ 0 [topS (1-h)]).drop b=_;exact zlu _ _ e2
  rw[hdr,jfw,jbt hr,q6x 1 c _ [] 0 hok.1 (by omega)];have hng:c.any (·.2.2)=false:=jdc.2 fun x hx=>by rw[hok.2 x hx];decide
  rw[hng,Bool.and_false,jah,q6n hok,jbm];have hrest:((over L b (List.replicate (L.length / 2-1) S.blank)).drop (b+(S.packed c 1).length)).take (L.length / 2-1-(S.packed c 1).length)=List.replicate (L.length / 2-1-(S.packed c 1).length) S.blank:=by
   rw[<- jcy,qg3 hf1,jd5 (by rw[hK];exact hr),List.drop_replicate,jdn (by rw[jbd];exact jaq _),jbt (by rw[jbd];exact jaq _)]
  rw[hrest];cases L.length / 2-1-(S.packed c 1).length with
  | zero=>rfl
  | succ n=>rw[List.replicate_succ,qfh,jan q5o]
theorem q49(a b:qaa):(keqI a.1 b.1&&(keqS a.2.1 b.2.1&&(keqB a.2.2 b.2.2&&true)))=decide (a=b):=by
 obtain⟨a1,a2,a3⟩:=a;obtain⟨b1,b2,b3⟩:=b;rw[jdd];simp[keqI,keqS,keqB]
theorem q0w{α R:Type}[DecidableEq α]{T:(Int->Option R)->Int->Option R}(a b:List α)(hl:a.length=b.length)(ha:a.length<LF)(Y N:Option R)
  (h0:∀K,T K (Int.ofNat a.length)=Y)
  (h1:∀K i v w,iltI (Int.ofNat i) (Int.ofNat a.length)=true->jget a (Int.ofNat i)=some v->jget b (Int.ofNat i)=some w->IntKind.i64.wrap (Int.add (Int.ofNat i) (Int.ofNat 1))=Int.ofNat (i+1)->T K (Int.ofNat i)=cond (decide (v=w)) (K (Int.ofNat (i+1))) N) :
  qa1 T LF (Int.ofNat 0)=cond (decide (a=b)) Y N:=by
 refine(qsr (T:=T) a (fun rest i=>cond (decide (rest=b.drop i)) Y N) ha (fun K=>?_) (fun K i v rest r h=>?_)).trans ?_
 ·rw[h0,hl,jct (jaq _)];rfl
 ·have hi:=r.lt;obtain⟨w,w1,w2⟩:∃w,b[i]?=some w/\b.drop i=w::b.drop (i+1):=⟨b[i],jac (by omega),jdj (by omega)⟩;rw[h1 K i v w r.ilt r.get (by rw[qc6];exact w1) r.next,h,w2];by_cases e:v=w
  ·rw[jal e,jab];have:decide (rest=b.drop (i+1))=decide (v::rest=w::b.drop (i+1)):=jdl.2 (by rw[e];simp);rw[this]
  ·rw[jar e,jah,jar (fun h=>e (List.cons.inj h).1),jah]
 ·rfl
theorem zp2(a b:List qaa)(ha:a.length<LF):Fz15 LF a b=some (S.sameC a b,()):=by
 simp only[Fz15,qvl];unfold S.sameC;by_cases e:a.length=b.length
 ·rw[qbh (show Int.ofNat a.length=Int.ofNat b.length from jav Int.ofNat e),ja1,jah];refine(q0w a b e ha (some (true,())) (some (false,())) (fun K=>?_) (fun K i v w h1 h2 h3 h4=>?_)).trans ?_
  ·simp only[qmq,qch,jah]
  ·simp only[qmq,h1,h2,h3,h4,jab,q49];cases decide (v=w)<;>rfl
  ·cases decide (a=b)<;>rfl
 ·rw[qbj (show ¬Int.ofNat a.length=Int.ofNat b.length from fun h=>e (jdo h)),ja3,jab,jar (fun h=>e (jav List.length h))]
theorem zjh:Con Tryz.prog zpf q7e:=zg6 trivial fun x y hx h=>⟨LF,(zp2 x.1 x.2.1 (qdd (c:=qac) hx.1)).trans h⟩
def qcr(l:List qaa)(i:Nat):Int:=if i=0 then -1 else ((l.getD (i-1) (0,S.none_,false)).1)
theorem q5q{R:Type}{l:List qaa}{i:Nat}{k:Int}(hk:0<=k)(hi:i<=l.length)(hl:l.length<1000000)(N T:Option R) :
  cond (iltI (Int.ofNat 0) (Int.ofNat i)) (match jget l (IntKind.i64.wrap (Int.sub (Int.ofNat i) (Int.ofNat 1))) with
   | none=>none
   | some v=>cond (!iltI v.1 k) N T) T=cond (decide (qcr l i<k)) T N:=by
 unfold qcr;cases i with
 | zero =>
  rw[jan rfl,jal (show (-1:Int)<k by omega)];rfl
 | succ i =>
  rw[jao (by omega),qcj,jal (by omega),jab];have e:IntKind.i64.wrap (Int.sub (Int.ofNat (i+1)) (Int.ofNat 1))=Int.ofNat i:=by
   have:Int.sub (Int.ofNat (i+1)) (Int.ofNat 1)=Int.ofNat i:=by
    show ((i+1:Nat):Int)-1=(i:Int);omega
   rw[this];exact qbv (by omega)
  rw[e,qt5 (i:=Int.ofNat i) (d:=(0,S.none_,false)) (jb3 _) (by show (i:Int)<(l.length:Int);omega)];show cond (!iltI (l.getD i (0,S.none_,false)).1 k) N T=cond (decide ((l.getD i (0,S.none_,false)).1<k)) T N;rw[qba];cases decide ((l.getD i (0,S.none_,false)).1<k)<;>rfl
theorem zkv{l:List qaa}{i:Nat}{v:qaa}(h:l[i]?=some v):qcr l (i+1)=v.1:=by
 unfold qcr;rw[jao (by omega),jai,Nat.add_sub_cancel,h];rfl
theorem zfq(s:ByteArray):keqS s (S.lit [])=decide (s.size=0):=by
 unfold keqS;exact jdl.2 qye.symm
theorem qwp{j:qad}(h:S.smallJ j=true):j.1.1.length<=1000/\j.1.1.length % 2=0/\-1000<=j.2.2.1/\j.2.2.1<=1000:=by
 unfold S.smallJ at h;rw[jad,jad,qbm] at h;exact⟨jak h.1,jaz h.2.1,h.2.2.1,h.2.2.2⟩
structure RJ (j:qad) (a u:Nat):Prop where
 jn:Jn j.1.1 j.2.1 a u j.2.2.2
 eq:j=((j.1.1,[]),j.2.1,(u:Int),j.2.2.2)
 small:S.smallJ j=true
 room:S.roomR j=((j.1.1.length / 2-1-u:Nat):Int)
 room2:S.roomOf j=((j.1.1.length / 2-1-u:Nat):Int)
 halfG:(Nat.ble j.1.1.length 1000&&decide (j.1.1.length % 2=0))=true
 used:j.2.2.1=(u:Int)
theorem qe9{j:qad}(h:S.right j=true):∃a u,RJ j a u:=by
 obtain⟨a,u,jn,h1,h2⟩:=qun h;have hle:=jn.dk.le;have hge:=jn.dk.ge;have hev:=jn.dk.ev;have hu:=jn.le.1;refine⟨a,u,jn,?_,?_,?_,?_,?_,h2⟩
 ·obtain⟨⟨l,q⟩,hh,uu,cc⟩:=j;simp only at h1 h2;rw[h1,h2]
 ·unfold S.smallJ;rw[jax hle,jal hev,jb1,jb1,qbm,h2];omega
 ·unfold S.roomR;rw[h2];omega
 ·have:=qvc jn;obtain⟨⟨l,q⟩,hh,uu,cc⟩:=j;simp only at h1 h2;subst h1 h2;exact this
 ·rw[jax hle,jal hev];rfl
theorem qtl{l:List qaa}(h:(S.size l).2=0):S.okC l=true/\(S.size l).1=((S.packed l 1).length:Int)/\1<=l.length:=by
 unfold S.size at h ⊢;by_cases h1:60<l.length
 ·rw[jan h1] at h;cases h
 rw[jao h1] at h ⊢;by_cases h2:l.length=0
 ·rw[jan h2] at h;cases h
 rw[jao h2] at h ⊢;cases hc:S.okC l with
 | false=>rw[hc] at h;cases h
 | true=>exact⟨rfl,rfl,by omega⟩
theorem qzw{j:qad}{l:List qaa}(h:S.roomOf j<(S.packed l 1).length):S.commit j l=none:=by
 unfold S.commit;rw[jan h]
theorem q9a{j:qad}(h:(S.half j.1.1.length (1-j.2.1)).2-(S.half j.1.1.length (1-j.2.1)).1<(S.packed j.2.2.2 1).length):S.turn j=none:=by
 unfold S.turn;rw[jan h]
theorem zqk:S.lit [0,0,0,0,0,0,0,0,0,0,0,0,0,0,0,0,0,0,0,0,0,0,0,0,0,0,0,0,0,0,0,0,0,0,0,0,0,0,0,0,0,0,0,0,0,0,0,0,0,0,0,0,0,0,0,0,0,0,0,0,0,0,0]=qae (List.replicate 63 0):=q4t
theorem qyw{j:qad}{a u:Nat}(r:RJ j a u)(h1:S.right j=true):(S.turn j=none/\S.turnJ j=(S.noJ,14)/\S.planTurn j=([],14)/\j.1.1.length / 2-1<(S.packed j.2.2.2 1).length) \/
  ∃b:Nat,S.half j.1.1.length (1-j.2.1)=((b:Int),((b+(j.1.1.length / 2-1):Nat):Int))/\S.turn j=some (turA j.1.1 (1-j.2.1) b j.2.2.2)/\S.planTurn j=(turA j.1.1 (1-j.2.1) b j.2.2.2,0)/\S.doD j.1 (turA j.1.1 (1-j.2.1) b j.2.2.2)=((turL j.1.1 (1-j.2.1) b j.2.2.2,[]),0) /\
   S.turnJ j=(((turL j.1.1 (1-j.2.1) b j.2.2.2,[]),1-j.2.1,((S.packed j.2.2.2 1).length:Int),j.2.2.2),0)/\Jn (turL j.1.1 (1-j.2.1) b j.2.2.2) (1-j.2.1) b (S.packed j.2.2.2 1).length j.2.2.2:=by
 by_cases h3:j.1.1.length / 2-1<(S.packed j.2.2.2 1).length
 ·left;have hh:=r.jn.hh;obtain⟨b,e1,e2,e3,_,_⟩:=qid r.jn.dk.ev r.jn.dk.ge (h:=1-j.2.1) (by omega);have hn:S.turn j=none:=q9a (by rw[e1];show ((b+(j.1.1.length / 2-1):Nat):Int)-(b:Int)<_;omega);have hp:S.planTurn j=([],14):=by
   unfold S.planTurn;rw[jan h1,hn]
  refine⟨hn,?_,hp,h3⟩;unfold S.turnJ;rw[hp];rfl
 ·right;obtain⟨b,f1,f2,f3,f4,f5⟩:=q66 r.jn (by omega);rw[<- r.eq] at f2;have hq:j.1=(j.1.1,[]):=jav (·.1) r.eq;rw[<- hq] at f3;have hp:S.planTurn j=(turA j.1.1 (1-j.2.1) b j.2.2.2,0):=by
   unfold S.planTurn;rw[jan h1,f2]
  refine⟨b,f1,f2,hp,f3,?_,f4⟩;unfold S.turnJ;rw[hp];show S.open_ (S.doD j.1 (turA j.1.1 (1-j.2.1) b j.2.2.2)).1=_;rw[f3];exact f4.opened_
theorem qub{j:qad}{a u:Nat}(r:RJ j a u){l:List qaa}(hl:S.okC l=true):(S.commit j l=none/\j.1.1.length / 2-1<u+(S.packed l 1).length) \/
  ∃A,S.commit j l=some A/\A=S.laid l ((a+u:Nat):Int) ((a+(j.1.1.length / 2-1):Nat):Int) true/\u+(S.packed l 1).length<=j.1.1.length / 2-1/\S.doD j.1 A=((comL j.1.1 a u l,[]),0) /\
   S.behind j A=(((comL j.1.1 a u l,[]),j.2.1,((u+(S.packed l 1).length:Nat):Int),S.changed j.2.2.2 l),0)/\Jn (comL j.1.1 a u l) j.2.1 a (u+(S.packed l 1).length) (S.changed j.2.2.2 l):=by
 have hu:=r.jn.le.1;by_cases h3:j.1.1.length / 2-1<u+(S.packed l 1).length
 ·exact .inl ⟨qzw (by rw[r.room2];omega),h3⟩
 ·right;obtain⟨c1,c2,c3,_⟩:=qhs r.jn hl (by omega);rw[<- r.eq] at c1;have hq:j.1=(j.1.1,[]):=jav (·.1) r.eq;rw[<- hq] at c2;refine⟨_,c1,rfl,by omega,c2,?_,c3⟩;unfold S.behind;rw[c2];exact c3.opened_
theorem zsh(lf:Nat)(j:qad)(h:S.smallJ j=true):qo7 lf j=some (S.roomOf j,()):=by
 obtain⟨h1,h2,h3,h4⟩:=qwp h;simp only[qo7,q87];rw[show S.inI (Int.ofNat j.1.1.length) (Int.ofNat 0) (Int.ofNat 1000)=true from qbm.2 ⟨jb3 _,by show (j.1.1.length:Int)<=1000;omega⟩,jab];simp only;unfold S.roomOf;show some (IntKind.i64.wrap (Int.sub (IntKind.i64.wrap ((S.half j.1.1.length j.2.1).2-(S.half j.1.1.length j.2.1).1)) j.2.2.1),())=_;have hb:-1000<=(S.half j.1.1.length j.2.1).2-(S.half j.1.1.length j.2.1).1/\(S.half j.1.1.length j.2.1).2-(S.half j.1.1.length j.2.1).1<=1000:=by
  unfold S.half;split
  ·show -1000<=((j.1.1.length / 2:Nat):Int)-1/\((j.1.1.length / 2:Nat):Int)-1<=1000;omega
  ·show -1000<=(j.1.1.length:Int)-1-((j.1.1.length / 2:Nat):Int)/\(j.1.1.length:Int)-1-((j.1.1.length / 2:Nat):Int)<=1000;omega
 rw[wrap_in (n:=(S.half j.1.1.length j.2.1).2-(S.half j.1.1.length j.2.1).1) (by omega)];refine jav (fun z=>some (z,())) (wrap_in ?_);show -_<=(S.half j.1.1.length j.2.1).2-(S.half j.1.1.length j.2.1).1-j.2.2.1/\(S.half j.1.1.length j.2.1).2-(S.half j.1.1.length j.2.1).1-j.2.2.1<_;omega
theorem q8g:Con Tryz.prog zor qsl:=zn2 ⟨qp1,trivial⟩ fun x y hx h=>⟨0,by
 obtain⟨h1,h2⟩:=qa8 (show cond (S.smallJ x.1) (some (S.roomOf x.1,())) none=some y from h);exact(zsh 0 x.1 h1).trans (jav some h2)⟩
theorem zhl(l:List qaa):Fz7 LF l=some ((S.size l).1,(S.size l).2,()):=by
 simp only[Fz7,qwk];unfold S.size;rw[qcj,q46];by_cases h1:60<l.length
 ·rw[jal h1,jab,jan h1];rfl
 rw[jar h1,jah,jao h1];by_cases h2:l.length=0
 ·rw[jal h2,jab,jan h2];rfl
 rw[jar h2,jah,jao h2];have hfin:∀b:Bool,b=S.okC l->(cond b (some (((S.packed l 1).length:Int),(0:Int),())) (some ((0:Int),(1:Int),())))=some ((cond (S.okC l) (((S.packed l 1).length:Int),(0:Int)) ((0:Int),(1:Int))).1,(cond (S.okC l) (((S.packed l 1).length:Int),(0:Int)) ((0:Int),(1:Int))).2,()):=fun b hb=>by
  subst hb;cases S.okC l<;>rfl
 refine(range0 (σ:=Unit) (R:=Rtz7) (T:=fun K p=>qlx LF l K p) l (fun i _=>i) (fun i _=>S.okGo (l.drop i) (qcr l i)=S.okC l\/S.okC l=S.okGo (l.drop i) (qcr l i)) (fun rest i _=>cond (S.okGo rest (qcr l i)) (some (((S.packed l 1).length:Int),(0:Int),())) (some ((0:Int),(1:Int),()))) (by unfold LF;omega) (fun K s hs=>?_) (fun K i v rest s hs r hk=>?_) () (.inl rfl)).trans (hfin _ rfl)
 ·rw[jct (jaq _)] at hs;have hok:S.okC l=true:=hs.elim (fun h=>h.symm) id;simp only[qlx,qch,jah];rw[qlz hok,jab];rfl
 ·have hd:=r.drop;have hi:=r.lt;have hgi:l[i]?=some v:=by
   have:=r.get
   rwa [qc6] at this
  have hst:S.okGo (v::rest) (qcr l i)=(S.inI v.1 0 199&&(decide (v.2.1.size<=4000)&&(!(v.2.2&&!decide (v.2.1.size=0))&&(decide (qcr l i<v.1)&&S.okGo rest v.1)))):=rfl;have hs':S.okC l=S.okGo (v::rest) (qcr l i):=by rw[hd] at hs;exact hs.elim (fun h=>h.symm) id
  have hnext:qcr l (i+1)=v.1:=zkv hgi;rw[hnext] at hk;simp only[qlx,r.ilt,r.get,r.next,jab];rw[hst];by_cases c1:S.inI v.1 0 199=true
  ·rw[show S.inI v.1 (Int.ofNat 0) (Int.ofNat 199)=true from c1,ja1,jah,c1,jb1,qcj];by_cases c2:v.2.1.size<=4000
   ·rw[jar (show ¬4000<v.2.1.size by omega),jah,jal c2,jb1,zfq];have hv0:0<=v.1:=(qbm.1 c1).1;have hfinal:cond (decide (qcr l i<v.1)) (K (Int.ofNat (i+1))) (some (Int.ofNat 0,Int.ofNat 1,()))=cond (decide (qcr l i<v.1)&&S.okGo rest v.1) (some (((S.packed l 1).length:Int),(0:Int),())) (some ((0:Int),(1:Int),()))\/¬(v.2.2&&!decide (v.2.1.size=0))=false:=by
     by_cases cg:(v.2.2&&!decide (v.2.1.size=0))=false
     ·left;by_cases c4:qcr l i<v.1
      ·rw[jal c4,jab,jb1];refine hk () ?_;rw[r.tail];left;rw[hs',hst,c1,jal c2,cg,jal c4];rfl
      ·rw[jar c4,jah,jcx,jah];rfl
     ·exact .inr cg
    cases hg:v.2.2 with
    | true =>
     rw[jab,jb1];by_cases c3:v.2.1.size=0
     ·rw[jal c3,ja1,jah,ja3,jb1];refine(q5q (l:=l) hv0 (by omega) (by omega) _ _).trans ?_;refine hfinal.resolve_right ?_;rw[jal c3,ja1,Bool.and_false];decide
     ·rw[jar c3,ja3,jab,ja1,jcx,jah];rfl
    | false =>
     rw[jah,jcx,ja3,jb1];refine(q5q (l:=l) hv0 (by omega) (by omega) _ _).trans ?_;refine hfinal.resolve_right ?_;rw[hg,jcx];decide
   ·rw[jal (show 4000<v.2.1.size by omega),jab,jar c2,jcx,jah];rfl
  ·have c1:=jcz.2 c1;rw[show S.inI v.1 (Int.ofNat 0) (Int.ofNat 199)=false from c1,ja3,jab,c1,jcx,jah];rfl
theorem q2k:Con Tryz.prog idz7 spz7:=mkz7 ⟨qmc,qqt,trivial⟩ fun x y hx h=>⟨LF,(zhl x.1).trans h⟩
theorem qr5{j:qad}(h:S.right j=true):S.errR j=0:=by unfold S.errR;rw[jan h]
theorem qer{j:qad}(h:¬S.right j=true):S.errR j=1:=by unfold S.errR;rw[jao h]
theorem qws{d:qah}(h:S.checkDisk d=0):S.okL d=true:=by
 have k:=q6c h;unfold S.okL S.secs;rw[jad,jad,jad,jcd];refine⟨⟨jax k.le,jdc.2 fun s q=>?_⟩,jax k.ge,jal k.ev⟩;unfold S.short;rw[k.sz s q];decide
theorem zh4(lf:Nat)(j:qad):qn8 lf j=some (S.errR j,()):=by
 simp only[qn8,q8o];show cond (!ieqI (S.checkDisk j.1) _) _ (cond (iltI (Int.ofNat 0) (Int.ofNat j.1.2.length)) _ (match (cond (S.okL j.1) (some ((S.openedJ j.1).1,((S.openedJ j.1).2,()))) none) with|none=>none|some v=>_))=_;by_cases h0:S.checkDisk j.1=0
 ·rw[qbh (show _=Int.ofNat 0 from h0),ja1,jah,qcj];by_cases h1:j.1.2.length=0
  ·have hq:j.1.2=[]:=ja2.1 h1;rw[jar (by omega),jah,qws h0,jab];simp only;unfold S.openedJ;cases ho:S.opened j.1.1 with
   | none =>
    have hr:¬S.right j=true:=fun h=>by
     obtain⟨a,u,r⟩:=qe9 h;rw[r.jn.open_] at ho;cases ho
    rw[qer hr];rfl
   | some x =>
    obtain⟨hf,u,c⟩:=x;simp only;rw[ja1,jah,qdq,qdq];have hop:S.open_ j.1=(((j.1.1,[]),hf,(u:Int),c),0):=by
     unfold S.open_;rw[jan h0,jan h1,ho]
    have hre:S.right j=decide ((((j.1.1,[]),hf,(u:Int),c):qad)=j):=by
     unfold S.right;rw[hop];rfl
    obtain⟨⟨L,q⟩,h',u',c'⟩:=j;simp only at hq;subst hq;show cond (!decide (hf=h')) _ (cond (!decide ((u:Int)=u')) _ (cond (!decide (c=c')) _ _))=_;by_cases e1:hf=h'
    ·by_cases e2:(u:Int)=u'
     ·by_cases e3:c=c'
      ·rw[jal e1,jal e2,jal e3,qr5 (by rw[hre,e1,e2,e3];exact jal rfl)];rfl
      ·rw[jal e1,jal e2,jar e3,qer (fun h=>by rw[hre] at h;exact e3 (jav (fun z:qad=>z.2.2.2) (jaz h)))];rfl
     ·rw[jal e1,jar e2,qer (fun h=>by rw[hre] at h;exact e2 (jav (fun z:qad=>z.2.2.1) (jaz h)))];rfl
    ·rw[jar e1,qer (fun h=>by rw[hre] at h;exact e1 (jav (fun z:qad=>z.2.1) (jaz h)))];rfl
  ·have hr:¬S.right j=true:=fun h=>by
    obtain⟨a,u,jn,h2,_⟩:=qun h;rw[h2] at h1;exact h1 rfl
   rw[jal (by omega),jab,qer hr];rfl
 ·have hr:¬S.right j=true:=fun h=>by
   obtain⟨a,u,jn,h2,_⟩:=qun h;have:=jn.dk.check;rw[show j.1=(j.1.1,[]) from Prod.ext rfl h2] at h0;exact h0 this
  rw[qbj (show ¬_=Int.ofNat 0 from h0),ja3,jab,qer hr];rfl
theorem zbk(lf:Nat)(d:qah):qmr lf d=some ((S.open_ d).1,(S.open_ d).2,()):=by
 simp only[qmr,q0x];unfold S.open_;show cond (!ieqI (S.checkDisk d) _) _ (cond (iltI (Int.ofNat 0) (Int.ofNat d.2.length)) _ (match (cond (S.okL d) (some ((S.openedJ d).1,((S.openedJ d).2,()))) none) with|none=>none|some v=>_))=_;by_cases h0:S.checkDisk d=0
 ·rw[qbh (show _=Int.ofNat 0 from h0),ja1,jah,qcj,jan h0];by_cases h1:d.2.length=0
  ·rw[jar (by omega),jah,qws h0,jab,jan h1];simp only;unfold S.openedJ;cases S.opened d.1<;>rfl
  ·rw[jal (by omega),jab,jao h1];rfl
 ·rw[qbj (show ¬_=Int.ofNat 0 from h0),ja3,jab,jao h0];rfl
theorem zcn(lf:Nat)(j:qad):qpb lf j=some ((S.room j).1,(S.room j).2,()):=by
 simp only[qpb,q0p];unfold S.room;show cond (!ieqI (S.errR j) _) (some (_,S.errR j,())) (match (cond (S.smallJ j) (some (S.roomOf j,())) none) with|none=>none|some v=>_)=_;by_cases h1:S.right j=true
 ·obtain⟨a,u,r⟩:=qe9 h1;rw[qr5 h1,show ieqI 0 (Int.ofNat 0)=true from rfl,ja1,jah,r.small,jab,jan h1];rfl
 ·rw[qer h1,show ieqI 1 (Int.ofNat 0)=false from rfl,ja3,jab,jao h1];rfl
theorem zex(lf:Nat)(j:qad)(l:List qaa):qm1 lf j l=some (S.asked j l,()):=by
 simp only[qm1,q77];unfold S.asked;show cond (!ieqI (S.errR j) _) (some (S.errR j,())) _=_;by_cases h1:S.right j=true
 ·rw[qr5 h1,show ieqI 0 (Int.ofNat 0)=true from rfl,ja1,jah,jan h1]
 ·rw[qer h1,show ieqI 1 (Int.ofNat 0)=false from rfl,ja3,jab,jao h1]
theorem q1g(a b:List DAct):S.app a b=a++b:=rfl
theorem qcc{a:List DAct}{n:Nat}(h:a.length<=n):Nat.ble (S.lenA a) n=true:=jax h
theorem qq9(a:Int)(s:ByteArray):S.puts a [s]=[S.put a s]:=rfl
theorem unm(l:List qaa):qae (0::(qab ((S.packed l 1).getD 0 S.none_)).drop 1)=(S.packed l 0).getD 0 S.none_:=by
 have e:∀m:Int,0<=m/\m<256->qab ((S.packed l m).getD 0 S.none_)=m::((S.recB l 0).drop 1).take 63++List.replicate (64-(S.recB l 0).length) 0:=fun m hm=>by
  have h:=qf3 ((S.body l).length+3) (b:=S.recB l m) (by rw[qen];omega);have:S.packed l m=qae ((S.recB l m).take 64++List.replicate (64-(S.recB l m).length) 0)::S.chunks ((S.body l).length+3) ((S.recB l m).drop 64):=h;rw[this];exact qbt (qfi (qe0 (qk5 l hm) 64) (qg0 _))
 refine qfp ?_;rw[e 1 (by omega),e 0 (by omega)];have hr:rng ((0:Int)::(((S.recB l 0).drop 1).take 63++List.replicate (64-(S.recB l 0).length) 0)):=fun x hx=>by
  rcases jau.1 hx with rfl|hx
  ·decide
  ·exact qfi (qe0 (qd9 (qk5 l (by decide)) 1) 63) (qg0 _) x hx
 exact qbt hr
theorem unm2(l:List qaa):qae (Int.ofNat 0::(qab ((S.packed l 1).getD 0 S.none_)).drop 1)=(S.packed l 0).getD 0 S.none_:=unm l
theorem qzj(l:List ByteArray):lsub l (Int.ofNat 1) (Int.ofNat l.length)=l.drop 1:=by
 unfold lsub;show (l.take l.length).drop 1=_;rw[List.take_length]
theorem qz2(l:List qaa)(a:Nat):S.puts (a:Int) [(S.packed l 0).getD 0 S.none_]++S.puts ((a+1:Nat):Int) ((S.packed l 1).drop 1)=S.puts (a:Int) (S.packed l 0):=by
 rw[qg4 l 0];exact(qv8 a [(S.packed l 0).getD 0 S.none_] ((S.packed l 1).drop 1)).symm
theorem in0{n:Nat}(h:n<=1000000):S.inI ((n:Nat):Int) (Int.ofNat 0) (Int.ofNat 1000000)=true:=qbm.2 ⟨jb3 _,by show (n:Int)<=1000000;omega⟩
theorem zkd{j:qad}{l:List qaa}(h:S.comG j l=true):S.smallJ j=true/\S.pk l=true/\0<=j.2.2.1/\j.2.2.1<=1000:=by
 unfold S.comG at h;rw[jad,jad,qbm] at h;exact⟨h.1,h.2.1,h.2.2⟩
theorem zgq(n:Nat)(hn:n<=1000)(h:Int)(h1:0<n\/h=0):∃a b:Nat,(S.half n h).1=(a:Int)/\(S.half n h).2=(b:Int)/\a<=1000/\b<=1000:=by
 unfold S.half;by_cases e:h=0
 ·rw[jan e];exact⟨1,n / 2,rfl,rfl,by omega,by omega⟩
 ·rw[jao e];have:0<n:=h1.resolve_right e;exact⟨n / 2,n-1,rfl,by show (n:Int)-1=((n-1:Nat):Int);omega,by omega,by omega⟩
theorem znp(lf:Nat)(j:qad)(l:List qaa)(h:S.comG j l=true):qoi lf j l=some ((S.actsB (S.commit j l)).1,(S.actsB (S.commit j l)).2,()):=by
 obtain⟨hs,hp,hu0,hu1⟩:=zkd h;obtain⟨h1,h2,_,_⟩:=qwp hs;have hpl:=qxs hp 1;have hpos:=qck l 1;have hp0:(S.packed l 0).length=(S.packed l 1).length:=by rw[qb0,qb0]
 simp only[qoi,q33];show (match (cond (S.pk l) (some ((S.packed l 1),())) none) with|none=>none|some v0=>(match (cond (S.smallJ j) (some (S.roomOf j,())) none) with|none=>none|some v1=>_))=_;rw[hp,jab,hs,jab];simp only;by_cases c0:S.roomOf j<((S.packed l 1).length:Int)
 ·rw[qep (show S.roomOf j<Int.ofNat (S.packed l 1).length from c0),jab,qzw c0];rfl
 rw[qff (show ¬S.roomOf j<Int.ofNat (S.packed l 1).length from c0),jah,q80 c0,show S.inI (Int.ofNat j.1.1.length) (Int.ofNat 0) (Int.ofNat 1000)=true from qbm.2 ⟨jb3 _,by show (j.1.1.length:Int)<=1000;omega⟩,jab];simp only;obtain⟨a,b,ea,eb,ha,hb⟩:=zgq j.1.1.length h1 j.2.1 (by
  refine jev j.1.1.length |>.elim (fun e=>?_) (fun e=>.inl e);refine jcj fun hc=>?_;have hc:¬j.2.1=0:=fun h=>hc (.inr h);have:S.roomOf j=-1-j.2.2.1:=by
   unfold S.roomOf S.half;rw[e,jao hc];show ((0:Nat):Int)-1-((0 / 2:Nat):Int)-j.2.2.1=_;omega
  rw[this] at c0;omega)
 obtain⟨u,hu⟩:∃u:Nat,j.2.2.1=(u:Int):=⟨j.2.2.1.toNat,by omega⟩;have huu:u<=1000:=by omega
 rw[show Int.toNat (Int.ofNat j.1.1.length)=j.1.1.length from rfl,ea,eb,hu];have w1:IntKind.i64.wrap (Int.add (a:Int) (u:Int))=((a+u:Nat):Int):=qbv (n:=a+u) (by omega);have w2:IntKind.i64.wrap (Int.add ((a+u:Nat):Int) (Int.ofNat 1))=((a+u+1:Nat):Int):=qbv (n:=a+u+1) (by omega);have w3:IntKind.i64.wrap (Int.add ((a+u:Nat):Int) (Int.ofNat (S.packed l 1).length))=((a+u+(S.packed l 1).length:Nat):Int):=qbv (n:=a+u+(S.packed l 1).length) (by omega);have hsz:=qdw l 1 _ (qeo (i:=0) (show 0<(S.packed l 1).length by omega));have l1:lchk (Int.ofNat 1) (Int.ofNat (S.packed l 1).length) (Int.ofNat (S.packed l 1).length) (Int.ofNat (S.packed l 1).length)=true:=qb2.2 ⟨by decide,by show (1:Int)<=((S.packed l 1).length:Int);omega,jbr _,jbr _⟩;have hdl:Nat.ble ((S.packed l 1).drop 1).length 1000000=true:=jax (by rw[ja7];omega);have hpl0:(S.puts ((a+u:Nat):Int) (S.packed l 0)).length<=20000:=by rw[qe7];omega
 rw[w1,w3];simp only[qop (d:=S.none_) hpos,get0 (d:=S.none_) hpos,hsz,decide_true,jab,unm2,w2,in0 (show a+u<=1000000 by omega),in0 (show a+u+1<=1000000 by omega),in0 (show a+u+(S.packed l 1).length<=1000000 by omega),l1,qzj,hdl,Bool.and_true,jb1,q1g,jci];rw[qcc (show (S.puts ((a+u:Nat):Int) [(S.packed l 0).getD 0 S.none_]).length<=1000000 by rw[qe7];show 1<=_;omega),jab];simp only;rw[qz2 l (a+u),qcc (show (S.puts ((a+u:Nat):Int) (S.packed l 0)).length<=1000000 by omega),jab];simp only;rw[qcc (show (S.puts ((a+u:Nat):Int) (S.packed l 0)).length<=4000000 by omega),jab];simp only;rw[qcc (show (S.puts ((a+u:Nat):Int) (S.packed l 0)++[S.sync]).length<=1000000 by rw[jaf];show _+1<=_;omega),jab];simp only;rw[qcc (show (S.puts ((a+u:Nat):Int) (S.packed l 0)++[S.sync]++S.puts ((a+u:Nat):Int) [(S.packed l 1).getD 0 S.none_]).length<=4000000 by rw[jaf,jaf];show _+1+1<=_;omega),jab];simp only;rw[qcc (show (S.puts ((a+u:Nat):Int) (S.packed l 0)++S.puts ((a+u+(S.packed l 1).length:Nat):Int) [S.blank]).length<=4000000 by rw[jaf];show _+1<=_;omega),jab];simp only;rw[qcc (show (S.puts ((a+u:Nat):Int) (S.packed l 0)++S.puts ((a+u+(S.packed l 1).length:Nat):Int) [S.blank]++[S.sync]).length<=1000000 by rw[jaf,jaf];show _+1+1<=_;omega),jab];simp only;rw[qcc (show (S.puts ((a+u:Nat):Int) (S.packed l 0)++S.puts ((a+u+(S.packed l 1).length:Nat):Int) [S.blank]++[S.sync]++S.puts ((a+u:Nat):Int) [(S.packed l 1).getD 0 S.none_]).length<=4000000 by rw[jaf,jaf,jaf];show _+1+1+1<=_;omega),jab,qba];unfold S.laid;rw[jb1];have hc2:(a:Int)+(u:Int)=((a+u:Nat):Int):=by omega
 have hc3:((a+u:Nat):Int)+((S.packed l 1).length:Int)=((a+u+(S.packed l 1).length:Nat):Int):=by omega
 rw[hc2,hc3];cases decide (((a+u+(S.packed l 1).length:Nat):Int)<(b:Int)) with
 | true =>
  simp only[jab,qq9,jay];rfl
 | false =>
  simp only[jah,qq9,jay,jci];rfl
theorem zk1{d:qah}(h:(S.open_ d).2=0):S.okL d=true/\S.openedJ d=((S.open_ d).1,true):=by
 obtain⟨hf,a,u,c,jn,h1,h2⟩:=qwn h;have hd:d=(d.1,[]):=Prod.ext rfl h1;refine⟨qws (by rw[hd];exact jn.dk.check),?_⟩;unfold S.openedJ;rw[jn.open_,h2]
theorem zko(lf:Nat)(j:qad)(a:List DAct)(h:S.behG j a=true):qn4 lf j a=some ((S.behind j a).1,()):=by
 unfold S.behG at h;rw[jad] at h;have h1:=jaz h.1;simp only[qn4,q79];unfold S.behind at h1 ⊢;obtain⟨h2,h3⟩:=zk1 h1;show (match (cond (S.okL (S.doD j.1 a).1) (some ((S.openedJ (S.doD j.1 a).1).1,((S.openedJ (S.doD j.1 a).1).2,()))) none) with|none=>none|some v=>_)=_;rw[h2,jab,h3]
theorem qxb{n:Nat}:∀(ss:List ByteArray) (b:Nat),szS ss->b+ss.length<=n->(qa5 b ss).any (S.badPut n)=false
 | [],_,_,_=>rfl
 | s::ss,b,hs,h=>by
  rw[jas] at h;show (S.badPut n ((b:Int),s)||(qa5 (b+1) ss).any (S.badPut n))=false;rw[q4n (hs s (by simp)) (by omega),qxb ss (b+1) (fun t ht=>hs t (by simp[ht])) (by omega)];rfl
theorem zsn{L:List ByteArray}(d:Dk L){ss:List ByteArray}{b:Nat}(hs:szS ss)(h:b+ss.length<=L.length):S.checkDisk (L,qa5 b ss)=0:=by
 have h0:=d.check;have h2:=d.le;unfold S.checkDisk at h0 ⊢;rw[jao (show ¬(1000<L.length\/4000<([]:List DPut).length) by simp;omega)] at h0;rw[jao (show ¬(1000<L.length\/4000<(qa5 b ss).length) by rw[quc];omega)];have e:(qa5 b ss).any (S.badPut L.length)=([]:List DPut).any (S.badPut L.length):=by rw[qxb ss b hs h];rfl
 show (if L.length<8\/¬L.length % 2=0\/(qa5 b ss).any (S.badPut L.length)=true\/L.any S.short=true then (1:Int) else 0)=0;rw[e];exact h0
def S.kept(k:List Int)(n:Nat):List Int:=(k.take n).map (· % 65)
theorem q7z{k:List Int}{n:Nat}:∀x∈S.kept k n,0<=x/\x<=64:=fun x h=>by
 obtain⟨y,_,rfl⟩:=jb9.1 h;omega
theorem qqe{L L1:List ByteArray}{A:List DAct}{n b:Nat}{ss:List ByteArray}{kept:List Int}(ho:S.doD (L,[]) (A.take n)=((L1,qa5 b ss),0))(d:Dk L1)(hs:szS ss)(h:b+ss.length<=L1.length) :
  S.cut (L,[]) A (n:Int) kept=((S.crashGo (qa5 b ss) (S.kept kept ss.length) L1,[]),0):=by
 unfold S.cut;rw[jbw,ho];show S.crash (L1,qa5 b ss) (S.kept kept (qa5 b ss).length)=_;unfold S.crash;rw[jan (zsn d hs h),quc,jao];rintro(e|e)
 ·have e:ss.length<(S.kept kept ss.length).length:=e;unfold S.kept at e;rw[jby,jbc] at e;omega
 ·obtain⟨x,hx,e⟩:=jdm.1 e;have:=q7z x hx;unfold S.inI at e;rw[jal this.1,jal this.2] at e;cases e
theorem qkc{L:List ByteArray}{A:List DAct}{n:Nat}{x:qah}(hn:n<=A.length)(ho:S.doD (L,[]) (A.take n)=(x,0)):S.cutG (L,[]) A (n:Int)=true:=by
 unfold S.cutG S.inI;rw[jbw,ho,jal (show (0:Int)<=(n:Int) by omega),jal (show (n:Int)<=(A.length:Int) by omega)];rfl
theorem qyt(l:List qaa):qab ((S.packed l 0).getD 0 S.none_)=0::(qab ((S.packed l 1).getD 0 S.none_)).drop 1:=by
 rw[<- unm l,qbt];intro x hx;rcases jau.1 hx with rfl|hx
 ·omega
 ·exact qd9 (qdm _) 1 x hx
theorem zcb{L:List ByteArray}(d:Dk L){b:Nat}{M:List ByteArray}(hM:szS M)(h:b+M.length<=L.length)(h0:(qab (M.getD 0 S.blank)).getD 0 0=0)(hL:(qab (L.getD b S.none_)).getD 0 0=0){A r:List DAct}(hA:A=S.puts (b:Int) M++r){n:Nat}(hn:n<=M.length)(kept:List Int) :
  ∃L1,S.cut (L,[]) A (n:Int) kept=((L1,[]),0)/\S.cutG (L,[]) A (n:Int)=true/\L1.length=L.length/\Dk L1/\L1.take b=L.take b/\L1.drop (b+M.length)=L.drop (b+M.length)/\(qab (L1.getD b S.none_)).getD 0 0=0:=by
 have hlen:=qe7 b M;have hle:=d.le;have hs:szS (M.take n):=fun s hs=>hM s (jca hs);have hl:(M.take n).length=n:=by rw[jbc];omega
 have e:A.take n=S.puts (b:Int) (M.take n):=by rw[hA,jdn (by omega),q8y]
 have hfit:b+(M.take n).length<=L.length:=by omega
 have ho:S.doD (L,[]) (A.take n)=((L,qa5 b (M.take n)),0):=by
  unfold S.doD;rw[jan d.check,e];have:=qjw (M.take n) b [] L [] hs hfit (by rw[ja6];omega);rw[jbl] at this;exact this.trans (qhp _ _)
 have hx:=qqe (kept:=kept) ho d hs hfit;obtain⟨c1,c2,c3,c4,c5⟩:=q28 (M.take n) b (S.kept kept (M.take n).length) L d.sz hs q7z hfit;refine⟨_,hx,qkc (by rw[hA,jaf];omega) ho,c1,⟨c2,?_,?_,?_⟩,c3,?_,c5 hL ?_⟩
 ·rw[c1];exact d.ge
 ·rw[c1];exact hle
 ·rw[c1];exact d.ev
 ·have:=jav (List.drop (M.length-n)) c4;rw[jcy,jcy,show b+(M.take n).length+(M.length-n)=b+M.length by omega] at this;exact this
 ·cases n with
  | zero=>rfl
  | succ n =>
   cases M with
   | nil=>rfl
   | cons s M=>exact h0
theorem qta{α:Type}{X Y:List α}{n i:Nat}(h:n=X.length+i):(X++Y).take n=X++Y.take i:=by
 rw[h,jfw,jbt (by omega),show X.length+i-X.length=i by omega]
theorem zod(l:List qaa)(n:Nat):S.tear ((S.packed l 0).getD 0 S.none_) ((S.packed l 1).getD 0 S.none_) n=if n=0 then (S.packed l 0).getD 0 S.none_ else (S.packed l 1).getD 0 S.none_ :=
 tear_mark (qdw l 0 _ (qeo (qck l 0))) (qdw l 1 _ (qeo (qck l 1))) (by rw[qyt];rfl)
theorem q1w{L:List ByteArray}{b:Nat}{l:List qaa}{t:List ByteArray}(h:b+(S.packed l 0++t).length<=L.length):S.settled (over L b (S.packed l 0++t)) [(((b:Nat):Int),(S.packed l 1).getD 0 S.none_)]=over L b (S.packed l 1++t):=by
 have e1:(S.packed l 0).length=(S.packed l 1).length:=by rw[qb0,qb0]
 have hp:=qck l 1;rw[jaf] at h;refine(qem [(S.packed l 1).getD 0 S.none_] b _ (by rw[qc3 (by rw[jaf];exact h)];simp only[jas,ja6];omega)).trans ?_;have hlen:b+(((S.packed l 1).drop 1++t).length+1)<=L.length:=by rw[jaf,ja7];omega
 have s1:=qg4 l 1;rw[qg4 l 0,jch];refine(qz6 hlen).trans (jav (over L b) ?_);rw[<- jch,<- s1]
theorem qxm{L:List ByteArray}{b:Nat}{s:ByteArray}{r:List ByteArray}(h:b+(r.length+1)<=L.length):(over L b (s::r)).getD b S.none_=s:=by
 have:=jav (fun x:List ByteArray=>x[0]?) (qg3 (a:=b) (ss:=s::r) h);simp only[jbx,jb4] at this;rw[jai,this];rfl
theorem zr0{L:List ByteArray}{b:Nat}{l:List qaa}{t:List ByteArray}(h:b+(S.packed l 0++t).length<=L.length)(k:List Int) :
  S.crashGo (qa5 b [(S.packed l 1).getD 0 S.none_]) k (over L b (S.packed l 0++t))=over L b (S.packed l 0++t)\/S.crashGo (qa5 b [(S.packed l 1).getD 0 S.none_]) k (over L b (S.packed l 0++t))=over L b (S.packed l 1++t):=by
 cases k with
 | nil=>exact .inl rfl
 | cons n k =>
  have e:S.crashGo (qa5 b [(S.packed l 1).getD 0 S.none_]) (n::k) (over L b (S.packed l 0++t))=(over L b (S.packed l 0++t)).set b (S.tear ((over L b (S.packed l 0++t)).getD b S.none_) ((S.packed l 1).getD 0 S.none_) n.toNat):=by
   show S.crashGo [] k (List.set _ (b:Int).toNat (S.tear (List.getD _ (b:Int).toNat S.none_) _ n.toNat))=_;rw[jbw];cases k<;>rfl
  have hg:(over L b (S.packed l 0++t)).getD b S.none_=(S.packed l 0).getD 0 S.none_:=by
   have s0:=qg4 l 0;rw[jaf] at h;rw[s0] at h ⊢;rw[jch];exact qxm (by rw[jaf];simp only[jas] at h;omega)
  rw[e,hg,zod];by_cases hn:n.toNat=0
  ·left;rw[jan hn,<- hg,jai];have hb:b<(over L b (S.packed l 0++t)).length:=by
    have:=qck l 0;rw[qc3 h];rw[jaf] at h;omega
   rw[jac hb];exact List.set_getElem_self hb
  ·right;rw[jao hn];have:=q1w h;show List.set _ b _=_;rw[<- this];show _=List.set _ (b:Int).toNat _;rw[jbw]
theorem zp6{L:List ByteArray}(d:Dk L){b:Nat}{l:List qaa}{t:List ByteArray}(ht:szS t)(h:b+(S.packed l 0++t).length<=L.length)(hL:(qab (L.getD b S.none_)).getD 0 0=0){A r:List DAct}
  (hA:A=S.puts (b:Int) (S.packed l 0++t)++(S.sync::S.put (b:Int) ((S.packed l 1).getD 0 S.none_)::S.sync::r)) {n:Nat} (hn:n<=(S.packed l 0++t).length+3) (kept:List Int) :
  ∃L1,S.cut (L,[]) A (n:Int) kept=((L1,[]),0)/\S.cutG (L,[]) A (n:Int)=true/\L1.length=L.length/\Dk L1 /\
   (L1=over L b (S.packed l 1++t)\/n≠(S.packed l 0++t).length+3/\L1.take b=L.take b/\L1.drop (b+(S.packed l 0++t).length)=L.drop (b+(S.packed l 0++t).length)/\(qab (L1.getD b S.none_)).getD 0 0=0):=by
 have e1:(S.packed l 0).length=(S.packed l 1).length:=by rw[qb0,qb0]
 have hle:=d.le;have hM:szS (S.packed l 0++t):=fun s hs=>(jbn.1 hs).elim (qdw l 0 s) (ht s);have hM1:szS (S.packed l 1++t):=fun s hs=>(jbn.1 hs).elim (qdw l 1 s) (ht s);have h1:b+(S.packed l 1++t).length<=L.length:=by rw[jaf,<- e1,<- jaf];exact h
 have hA2:A.length=(S.packed l 0++t).length+(3+r.length):=by rw[hA,jaf,qe7];simp only[jas];omega
 have hpl:=qe7 b (S.packed l 0++t);have hz:(qab ((S.packed l 0).getD 0 S.none_)).getD 0 0=0:=by rw[qyt];rfl
 have hs0:=qg4 l 0;have hp:=qck l 0;have hd:∀q,S.doD (L,[]) (S.puts (b:Int) (S.packed l 0++t)++q)=S.doGo q L (qa5 b (S.packed l 0++t)):=fun q=>by
  unfold S.doD;rw[jan d.check];exact(qjw _ b q L [] hM h (by rw[ja6];omega)).trans rfl
 have ol:(over L b (S.packed l 0++t)).length=L.length:=qc3 h;have hx:szS [(S.packed l 1).getD 0 S.none_]:=fun s hs=>by rw[jb7.1 hs];exact qdw l 1 _ (qeo (qck l 1))
 have hb1:b+[(S.packed l 1).getD 0 S.none_].length<=(over L b (S.packed l 0++t)).length:=by
  rw[ol];rw[jaf] at h;show b+1<=_;omega
 have dO:=d.over h hM;have g0:(over L b (S.packed l 0++t)).take b=L.take b/\(over L b (S.packed l 0++t)).drop (b+(S.packed l 0++t).length)=L.drop (b+(S.packed l 0++t).length)/\(qab ((over L b (S.packed l 0++t)).getD b S.none_)).getD 0 0=0:=by
  refine⟨qv6 h,zo7 h,?_⟩;have:=qg3 h;rw[hs0,jch] at h ⊢;rw[qxm h];exact hz
 by_cases c1:n<=(S.packed l 0++t).length
 ·obtain⟨L1,x1,x2,x3,x4,x5,x6,x7⟩:=zcb d hM h (by rw[hs0];exact hz) hL hA c1 kept;exact⟨L1,x1,x2,x3,x4,.inr ⟨by omega,x5,x6,x7⟩⟩
 ·by_cases c2:n=(S.packed l 0++t).length+1
  ·have ho:S.doD (L,[]) (A.take n)=((over L b (S.packed l 0++t),qa5 b []),0):=by
    rw[hA,qta (i:=1) (by omega),hd];show S.doGo [S.sync] _ _=_;rw[qfl,qem _ _ _ h,qhp];rfl
   exact⟨_,qqe ho dO (fun s hs=>by cases hs) (by rw[ol,ja6];omega),qkc (by omega) ho,ol,dO,.inr ⟨by omega,g0⟩⟩
  ·by_cases c3:n=(S.packed l 0++t).length+2
   ·have ho:S.doD (L,[]) (A.take n)=((over L b (S.packed l 0++t),qa5 b [(S.packed l 1).getD 0 S.none_]),0):=by
     rw[hA,qta (i:=2) (by omega),hd];show S.doGo [S.sync,S.put (b:Int) _] _ _=_;rw[qfl,qem _ _ _ h,qkq (hx _ (by simp)) (by have:b+1<=_:=hb1;omega) (by rw[ja6];omega),qhp];rfl
    have hc:=qqe (kept:=kept) ho dO hx hb1;rcases zr0 h (S.kept kept 1) with e|e
    ·refine⟨_,hc.trans (by rw[show [(S.packed l 1).getD 0 S.none_].length=1 from rfl,e]),qkc (by omega) ho,ol,dO,.inr ⟨by omega,g0⟩⟩
    ·exact⟨_,hc.trans (by rw[show [(S.packed l 1).getD 0 S.none_].length=1 from rfl,e]),qkc (by omega) ho,qc3 h1,d.over h1 hM1,.inl rfl⟩
   ·have c4:n=(S.packed l 0++t).length+3:=by omega
    have ho:S.doD (L,[]) (A.take n)=((over L b (S.packed l 1++t),qa5 b []),0):=by
     rw[hA,qta (i:=3) (by omega),hd];show S.doGo [S.sync,S.put (b:Int) _,S.sync] _ _=_;rw[qfl,qem _ _ _ h,qkq (hx _ (by simp)) (by have:b+1<=_:=hb1;omega) (by rw[ja6];omega),qfl,qhp];exact jav (fun z=>((z,[]),0)) (q1w h)
    exact⟨_,qqe ho (d.over h1 hM1) (fun s hs=>by cases hs) (by rw[qc3 h1,ja6];omega),qkc (by omega) ho,qc3 h1,d.over h1 hM1,.inl rfl⟩
theorem q8x{L:List ByteArray}{h:Int}{a u:Nat}{c l:List qaa}(j:Jn L h a u c)(hr:u+(S.packed l 1).length<=L.length / 2-1):∃t,szS t/\t=qd5 (decide (u+(S.packed l 1).length<L.length / 2-1))/\a+u+(S.packed l 0++t).length<=L.length /\
  S.laid l ((a+u:Nat):Int) ((a+(L.length / 2-1):Nat):Int) true=S.puts ((a+u:Nat):Int) (S.packed l 0++t)++[S.sync,S.put ((a+u:Nat):Int) ((S.packed l 1).getD 0 S.none_),S.sync] /\
  (S.laid l ((a+u:Nat):Int) ((a+(L.length / 2-1):Nat):Int) true).length=(S.packed l 0++t).length+3:=by
 have e1:(S.packed l 0).length=(S.packed l 1).length:=by rw[qb0,qb0]
 have hto:=j.to_;have hd:decide (((a+u:Nat):Int)+(S.packed l 1).length<((a+(L.length / 2-1):Nat):Int))=decide (u+(S.packed l 1).length<L.length / 2-1):=jdl.2 (by omega);have htl:(qd5 (decide (u+(S.packed l 1).length<L.length / 2-1))).length=if u+(S.packed l 1).length<L.length / 2-1 then 1 else 0:=by
  by_cases e:u+(S.packed l 1).length<L.length / 2-1
  ·rw[jan e,jal e];rfl
  ·rw[jao e,jar e];rfl
 have hA:=q4j l (a+u) ((a+(L.length / 2-1):Nat):Int) true;rw[jb1,hd] at hA;refine⟨_,qsy _,rfl,?_,hA,?_⟩
 ·rw[jaf,htl];split<;>omega
 ·rw[hA,jaf,qe7];rfl
theorem zpm{L:List ByteArray}{h:Int}{a u:Nat}{c l:List qaa}(j:Jn L h a u c)(hl:S.okC l=true)(hr:u+(S.packed l 1).length<=L.length / 2-1){A:List DAct}(hA:A=S.laid l ((a+u:Nat):Int) ((a+(L.length / 2-1):Nat):Int) true)
  {n:Nat} (hn:n<=A.length) (kept:List Int):∃L1,S.cut (L,[]) A (n:Int) kept=((L1,[]),0)/\S.cutG (L,[]) A (n:Int)=true/\L1.length=L.length /\
   (Jn L1 h a (u+(S.packed l 1).length) (S.changed c l)\/n≠A.length/\Jn L1 h a u c):=by
 obtain⟨t,ht,h1,h2,h3,h4⟩:=q8x j hr;have hp:=qck l 1;rw[<- hA] at h3 h4;have hL:(qab (L.getD (a+u) S.none_)).getD 0 0=0:=by
  rcases j.le.2.2 with e|e
  ·omega
  ·exact e
 obtain⟨L1,x1,x2,x3,x4,x5⟩:=zp6 j.dk ht h2 hL (r:=[]) h3 (n:=n) (by omega) kept;refine⟨L1,x1,x2,x3,?_⟩;rcases x5 with e|⟨e,y1,y2,y3⟩
 ·left;have:=(qhs j hl hr).2.2.1;rw[e,h1];exact this
 ·exact .inr ⟨by omega,j.same x4 x3 y1 (.inr y3)⟩
theorem q48{l:List qaa}(hl:S.okC l=true)(h0:l.length≠0)(h60:l.length<=60):S.size l=(((S.packed l 1).length:Int),0):=by
 unfold S.size;rw[jao (by omega),jao h0,hl,jab]
theorem quz{L:List ByteArray}{h:Int}{a u:Nat}{c l:List qaa}(j:Jn L h a u c)(hr:¬u+(S.packed l 1).length<=L.length / 2-1):S.commit ((L,[]),h,(u:Int),c) l=none:=by
 have:=j.le.1;unfold S.commit;rw[jan (by rw[qvc j];omega)]
theorem q8m{L:List ByteArray}{h:Int}{a u:Nat}{c l:List qaa}(j:Jn L h a u c)(hl:S.okC l=true)(h0:l.length≠0)(h60:l.length<=60) :
  S.plan ((L,[]),h,(u:Int),c) l=if u+(S.packed l 1).length<=L.length / 2-1 then (S.laid l ((a+u:Nat):Int) ((a+(L.length / 2-1):Nat):Int) true,0) else ([],14):=by
 unfold S.plan;rw[jan j.right,q48 hl h0 h60,jan rfl];by_cases hr:u+(S.packed l 1).length<=L.length / 2-1
 ·rw[jan hr,(qhs j hl hr).1]
 ·rw[jao hr,quz j hr]
theorem qx1{L:List ByteArray}{h:Int}{a u:Nat}{c l:List qaa}(j:Jn L h a u c)(hl:S.okC l=true)(hr:u+(S.packed l 1).length<=L.length / 2-1) :
  S.behind ((L,[]),h,(u:Int),c) (S.laid l ((a+u:Nat):Int) ((a+(L.length / 2-1):Nat):Int) true)=(((comL L a u l,[]),h,((u+(S.packed l 1).length:Nat):Int),S.changed c l),0):=by
 obtain⟨_,h2,h3,_⟩:=qhs j hl hr;unfold S.behind;rw[h2];exact h3.opened_
theorem zb6{L:List ByteArray}{h:Int}{a u:Nat}{c:List qaa}(j:Jn L h a u c)(hr:¬(S.packed c 1).length<=L.length / 2-1):S.turn ((L,[]),h,(u:Int),c)=none:=by
 have hh:=j.hh;obtain⟨b,e1,_⟩:=qid j.dk.ev j.dk.ge (h:=1-h) (by omega);unfold S.turn;rw[jan];show (S.half L.length (1-h)).2-(S.half L.length (1-h)).1<((S.packed c 1).length:Int);rw[e1];show ((b+(L.length / 2-1):Nat):Int)-(b:Int)<_;omega
theorem zf2{L:List ByteArray}{h:Int}{a u:Nat}{c:List qaa}(j:Jn L h a u c)(hr:(S.packed c 1).length<=L.length / 2-1):∃b,S.turnJ ((L,[]),h,(u:Int),c)=(((turL L (1-h) b c,[]),1-h,(((S.packed c 1).length:Nat):Int),c),0) /\
  S.planTurn ((L,[]),h,(u:Int),c)=(turA L (1-h) b c,0)/\Jn (turL L (1-h) b c) (1-h) b (S.packed c 1).length c/\(turL L (1-h) b c).length=L.length/\S.half L.length (1-h)=((b:Int),((b+(L.length / 2-1):Nat):Int)):=by
 obtain⟨b,h1,h2,h3,h4,h5⟩:=q66 j hr;have hp:S.planTurn ((L,[]),h,(u:Int),c)=(turA L (1-h) b c,0):=by
  unfold S.planTurn;rw[jan j.right,h2]
 refine⟨b,?_,hp,h4,h5,h1⟩;unfold S.turnJ;rw[hp,jan rfl];unfold S.behind;rw[h3];exact h4.opened_
theorem zms{L:List ByteArray}{h:Int}{a u:Nat}{c:List qaa}(j:Jn L h a u c)(hr:¬(S.packed c 1).length<=L.length / 2-1):S.planTurn ((L,[]),h,(u:Int),c)=([],14)/\S.turnJ ((L,[]),h,(u:Int),c)=(S.noJ,14):=by
 have hp:S.planTurn ((L,[]),h,(u:Int),c)=([],14):=by
  unfold S.planTurn;rw[jan j.right,zb6 j hr]
 refine⟨hp,?_⟩;unfold S.turnJ;rw[hp,jao (by show ¬(14:Int)=0;decide)]
theorem zge{L:List ByteArray}{h:Int}{a u:Nat}{c l:List qaa}(j:Jn L h a u c)(hl:S.okC l=true)(h0:l.length≠0)(h60:l.length<=60) :
  (∃L' h' a' u',S.save ((L,[]),h,(u:Int),c) l=(((L',[]),h',((u':Nat):Int),S.changed c l),0)/\Jn L' h' a' u' (S.changed c l)/\L'.length=L.length /\
   (u+(S.packed l 1).length<=L.length / 2-1\/(S.packed c 1).length+(S.packed l 1).length<=L.length / 2-1)) \/
  S.save ((L,[]),h,(u:Int),c) l=(S.noJ,14)/\¬u+(S.packed l 1).length<=L.length / 2-1/\¬(S.packed c 1).length+(S.packed l 1).length<=L.length / 2-1:=by
 unfold S.save;rw[jan j.right,q48 hl h0 h60,jan rfl];by_cases hr:u+(S.packed l 1).length<=L.length / 2-1
 ·obtain⟨h1,_,h3,h4⟩:=qhs j hl hr;rw[h1];exact .inl ⟨_,_,_,_,qx1 j hl hr,h3,h4,.inl hr⟩
 ·rw[quz j hr];by_cases ht:(S.packed c 1).length<=L.length / 2-1
  ·obtain⟨b,t1,_,t3,t4,_⟩:=zf2 j ht;simp only;rw[t1,jan rfl];by_cases hr2:(S.packed c 1).length+(S.packed l 1).length<=L.length / 2-1
   ·have hr3:(S.packed c 1).length+(S.packed l 1).length<=(turL L (1-h) b c).length / 2-1:=by rw[t4];exact hr2
    obtain⟨h1,_,h3,h4⟩:=qhs t3 hl hr3;rw[h1];exact .inl ⟨_,_,_,_,qx1 t3 hl hr3,h3,h4.trans t4,.inr hr2⟩
   ·rw[quz t3 (by rw[t4];exact hr2)];exact .inr ⟨rfl,hr,hr2⟩
  ·simp only;rw[(zms j ht).2,jao (by show ¬(14:Int)=0;decide)];exact .inr ⟨rfl,hr,by omega⟩
end Go.Proofs.YtnhmanoiolfapaaGreat
end

section
namespace Go.Jx
open Go Go.Sx Go.RowKit
universe u

def qdb{D α:Type}(g:D->α->Option (D × Bool)):List α->D->Option (D × Bool)
 | [],d=>some (d,false)
 | x::xs,d=>match g d x with
  | none=>none
  | some (d',b)=>cond b (some (d',true)) (qdb g xs d')
section
variable (P : Program) (tt : Nat -> Option TI)
end
section
variable {P : Program} {tt : Nat -> Option TI}
end
end Go.Jx
end

section
namespace Go.Jx
open Go Go.Sx Go.RowKit
universe u

theorem zrj{b:Nat}{A B:World}{o:Obj}(u:Upd [b] A B)(hA:A.heap[b]?=some o):∃B',Upd [] A B'/\Beside b B' B:=by
 have hlt:b<A.heap.size:=qas hA;refine⟨B.putObj b o,⟨u.os,u.tape,u.output,by rw[(Beside.put B b o).size];exact u.size,fun x hx _=>?_⟩,(Beside.put B b o).symm⟩;by_cases e:x=b
 ·subst e;rw[jbp (jbh hx u.size),hA]
 ·rw[jcb e];exact u.same x hx (by simpa using e)
def q7b(P:Program)(gf:Nat)(us:List Value)(bx:Nat)(m0:List Nat)(W0:World)(Rd:World->Prop){α:Type}(V:α->Value->Env->Prop)(xs:List α):Prop :=
 ∀(l:Nat) (J:List α->World->Prop) (K:World->Prop),(∀s A B,J s A->Upd [bx] A B->J s B)->(∀A B,K A->Upd [bx] A B->K B)->(∀s A,J s A->Rd A) ->
  (∀pre x post A0 A u,xs=pre++x::post->J pre A0->Upd [bx] A0 A->(∀E:Env,E.w=A->(∀b∈E.m,b<A0.heap.size/\(b<W0.heap.size->b∈m0))->V x u E) ->
   YieldAt Fence.wide 0 P l #[u] A fun e B=>(∀b,(b=bx\/A0.heap.size<=b)->b<A.heap.size->B.heap[b]?=A.heap[b]?)/\((e=.returned (.bool true)/\J (pre++[x]) B)\/(e=.returned (.bool false)/\K B))) ->
  J [] W0->CallsIn Fence.wide 0 P gf (#[.func (.yield l) #[] #[]]++us.toArray) W0 fun e B=>e=.returned (.tuple #[])/\(J xs B\/K B)
structure ConW (P:Program) (f:Nat) (s:SmI):Prop where
 callable:qai P f
 ns:nP s.ips=0
 it:∀(E:Env) (x:ElP s.ips) (us:List Value) (i:Nat) (l:List (El s.c)),s.xs x=some l->Gl E.m E.w->qrz E s x us [i]->E.ρ i∈E.m->(∀b∈E.m,b<E.w.heap.size) ->
  q7b P f us (E.ρ i) E.m E.w (fun W=>E.Le (E.at_ W)) (fun x u E=>VR E (asIV s.c x) u) l
def endX(k:Nat):IEx->Option Bool
 | .normal=>some false
 | .exit i=>cond (Nat.beq i k) (some true) none
 | _=>none
def retX{D:Type}(k:Nat):Option (D × Option Code)->Option (D × Bool)
 | some (d,none)=>some (d,false)
 | some (d,some (.exit i))=>cond (Nat.beq i k) (some (d,true)) none
 | _=>none
def qrp(k:Nat)(b:Bool):Option Code:=cond b (some (.exit k)) none
theorem zq9{D:Type}{k:Nat}{o:Option (D × Option Code)}{d:D}{b:Bool}(h:retX k o=some (d,b)):o=some (d,qrp k b):=by
 unfold retX at h;split at h
 ·cases h;rfl
 ·rename_i i;cases hb:Nat.beq i k with
  | false=>rw[hb] at h;cases h
  | true =>
   rw[hb] at h;have:=jaj hb;subst this;cases h;rfl
 ·cases h
theorem qyh{D α:Type}{k:Nat}(g:D->α->Option (D × Option Code)):∀(xs:List α) (d d':D) (b:Bool),qdb (fun d x=>retX k (g d x)) xs d=some (d',b)->foldB g xs d=some (d',qrp k b)
 | [],d,d',b,h=>by cases h;rfl
 | x::xs,d,d',b,h=>by
  simp only[qdb,foldB] at h ⊢;cases hg:retX k (g d x) with
  | none=>rw[hg] at h;cases h
  | some q =>
   obtain⟨z,e⟩:=q;rw[hg] at h;rw[zq9 hg];cases e with
   | false=>exact qyh g xs z d' b h
   | true=>cases h;rfl
section
variable (P : Program) (tt : Nat -> Option TI)
def qnm(k:Nat)(cfg:LpC)(c:TC)(nt lf:Nat)(clP:ClP)(pr:Nat)(assign body:Code)(d:ElP cfg.lp)(z:ElP (refs cfg.lp))(x:El c):Option (ElP (refs cfg.lp) × Bool) :=
 qaw P tt cfg.nm (mP cfg.lp) nt (clP (ElP (refs cfg.lp) × Bool)) lf none assign (qdt [pr] [asIV c x] (putL cfg.ls (qaq cfg.lp idN 0 d) .leaf)) (Sc cfg.lp (updP cfg.lp d z)) [] fun r1=>match r1.e with
  | .normal=>match r1.ds with
   | []=>qaw P tt cfg.nm (mP cfg.lp) nt (clP (ElP (refs cfg.lp) × Bool)) lf none body r1.fr r1.S [] fun r2=>match r2.ds with
     | []=>match endX k r2.e with
      | none=>none
      | some b=>match runQ (sQ cfg.lp) ⟨.tup [],r2.S,0,0⟩ with
       | none=>none
       | some y=>some (y.2,b)
     | _=>none
   | _=>none
  | _=>none
theorem zo4{k:Nat}{cfg:LpC}{c:TC}{nt lf:Nat}{cl:Cl}{clP:ClP}(hcl:∀R,ClEq cl (clP R))(pr:Nat)(assign body:Code)(d:ElP cfg.lp)(z:ElP (refs cfg.lp))(x:El c) :
  qnm P tt k cfg c nt lf clP pr assign body d z x=retX k (qew P tt cfg c nt lf cl pr assign body d z x):=by
 unfold qnm qew;rw[qe5 (hcl _)];cases qak P tt cfg.nm (mP cfg.lp) nt cl lf none assign (qdt [pr] [asIV c x] (putL cfg.ls (qaq cfg.lp idN 0 d) .leaf)) (Sc cfg.lp (updP cfg.lp d z)) [] with
 | none=>rfl
 | some r1 =>
  simp only[bd];cases r1.e<;>try rfl
  simp only;cases r1.ds with
  | cons _ _=>rfl
  | nil =>
   simp only;rw[qe5 (hcl _)];cases qak P tt cfg.nm (mP cfg.lp) nt cl lf none body r1.fr r1.S [] with
   | none=>rfl
   | some r2 =>
    simp only[bd];cases r2.ds with
    | cons _ _=>rfl
    | nil =>
     simp only;cases r2.e with
     | exit i =>
      simp only[endX,qds];cases hk:Nat.beq i k<;>cases runQ (sQ cfg.lp) ⟨.tup [],r2.S,0,0⟩<;>simp [retX,hk]
     | _=>cases runQ (sQ cfg.lp) ⟨.tup [],r2.S,0,0⟩<;>rfl
def qk4(S2:IS)(cfg:LpC)(id nt:Nat)(fr:PT IV)(pr D:Nat)(assign body:Code)(i:Nat)(rows subs:List Nat)(w:Nat)(q:ElP (refs cfg.lp) × Option Code):Res :=
 ⟨.tup [],(qbz (sQ cfg.lp) S2.next rows subs () q.1 (S2.set i .dead)).set id (.loop (cond q.2.isNone .ready .done) q.2 nt fr [pr] assign body D),2 ^ id,2 ^ id ||| (w ||| qby ([i]++(rows++subs)))⟩
def itW(k:Nat)(s:SmI)(cfg:LpC)(lf:Nat)(cl:Cl)(vs:List IV)(S:IS):Option Res:=match vs with
 | .yield id::caps=>match rdP s.ips S caps with
  | some (xi,[i],_,S1,w1)=>match S1.heap.get id with
   | some (.loop .ready none nt fr [pr] assign body D)=>match rdP cfg.lp S1 (cfg.ls.map (slot fr)) with
    | none=>none
    | some (d0,rows,subs,S2,w2)=>cond (itB S2 cfg id nt [i] rows subs w2 assign body) (match fiP cfg.lp rows subs S2 d0 with
     | none=>none
     | some d=>match s.xs xi with
      | none=>none
      | some l=>match qdb (fun z x=>retX k (qew P tt cfg s.c nt lf cl pr assign body d z x)) l (qdc cfg.lp d) with
       | none=>none
       | some z=>some (qk4 S2 cfg id nt fr pr D assign body i rows subs (w1 ||| w2) (z.1,qrp k z.2))) none
   | _=>none
  | _=>none
 | _=>none
def itWK(k:Nat)(s:SmI)(cfg:LpC)(lf:Nat)(clP:ClP)(R:Type)(vs:List IV)(S:IS)(kk:Res->Option R):Option R:=match vs with
 | .yield id::caps=>match rdP s.ips S caps with
  | some (xi,[i],_,S1,w1)=>match S1.heap.get id with
   | some (.loop .ready none nt fr [pr] assign body D)=>match rdP cfg.lp S1 (cfg.ls.map (slot fr)) with
    | none=>none
    | some (d0,rows,subs,S2,w2)=>cond (itB S2 cfg id nt [i] rows subs w2 assign body) (match fiP cfg.lp rows subs S2 d0 with
     | none=>none
     | some d=>match s.xs xi with
      | none=>none
      | some l=>match qdb (qnm P tt k cfg s.c nt lf clP pr assign body d) l (qdc cfg.lp d) with
       | none=>none
       | some z=>cond z.2 (kk (qk4 S2 cfg id nt fr pr D assign body i rows subs (w1 ||| w2) (z.1,some (.exit k)))) (kk (qk4 S2 cfg id nt fr pr D assign body i rows subs (w1 ||| w2) (z.1,none)))) none
   | _=>none
  | _=>none
 | _=>none
end
section
variable {P : Program} {tt : Nat -> Option TI}
theorem zmj(k:Nat)(s:SmI)(cfg:LpC)(lf:Nat)(cl:Cl)(clP:ClP)(hcl:∀R,ClEq cl (clP R))(R:Type)(vs:List IV)(S:IS)(kk:Res->Option R):itWK P tt k s cfg lf clP R vs S kk=ob (itW P tt k s cfg lf cl vs S) kk:=by
 unfold itWK itW;cases vs with
 | nil=>rfl
 | cons v caps =>
 cases v<;>try rfl
 rename_i id;simp only;cases rdP s.ips S caps with
 | none=>rfl
 | some a =>
 obtain⟨xi,irows,_,S1,w1⟩:=a;cases irows with
 | nil=>rfl
 | cons i irows =>
 cases irows with
 | cons _ _=>rfl
 | nil =>
 simp only;cases S1.heap.get id with
 | none=>rfl
 | some o =>
 cases o<;>try rfl
 rename_i st pe nt fr ps assign body D;cases st<;>try rfl
 cases pe<;>try rfl
 cases ps with
 | nil=>rfl
 | cons pr ps =>
 cases ps with
 | cons _ _=>rfl
 | nil =>
 simp only;cases rdP cfg.lp S1 (cfg.ls.map (slot fr)) with
 | none=>rfl
 | some b =>
 obtain⟨d0,rows,subs,S2,w2⟩:=b;simp only[qbe];cases fiP cfg.lp rows subs S2 d0 with
 | none=>rfl
 | some d =>
 simp only;cases s.xs xi with
 | none=>rfl
 | some l =>
 have e:qnm P tt k cfg s.c nt lf clP pr assign body d=fun z x=>retX k (qew P tt cfg s.c nt lf cl pr assign body d z x):=by
  funext z x;exact zo4 P tt hcl pr assign body d z x
 simp only[e];cases qdb (fun z x=>retX k (qew P tt cfg s.c nt lf cl pr assign body d z x)) l (qdc cfg.lp d) with
 | none=>rfl
 | some q=>obtain⟨z,b⟩:=q;cases b<;>rfl
theorem qwq{k:Nat}{s:SmI}{cfg:LpC}{lf:Nat}{cl:Cl}{vs:List IV}{S:IS}{r:Res}(h:itW P tt k s cfg lf cl vs S=some r) :
  ∃id caps xi i isubs S1 w1 nt fr pr assign body D d0 rows subs S2 w2 d l q,vs=.yield id::caps/\rdP s.ips S caps=some (xi,[i],isubs,S1,w1)/\S1.heap.get id=some (.loop .ready none nt fr [pr] assign body D) /\
   rdP cfg.lp S1 (cfg.ls.map (slot fr))=some (d0,rows,subs,S2,w2)/\itB S2 cfg id nt [i] rows subs w2 assign body=true/\fiP cfg.lp rows subs S2 d0=some d/\s.xs xi=some l /\
   foldB (qew P tt cfg s.c nt lf cl pr assign body d) l (qdc cfg.lp d)=some q/\r=qk4 S2 cfg id nt fr pr D assign body i rows subs (w1 ||| w2) q:=by
 unfold itW at h;split at h<;>try cases h
 rename_i id caps;split at h<;>try cases h
 rename_i xi i isubs S1 w1 h1;split at h<;>try cases h
 rename_i nt fr pr assign body D ho;split at h
 ·cases h
 rename_i d0 rows subs S2 w2 h2;cases hb:itB S2 cfg id nt [i] rows subs w2 assign body with
 | false=>rw[hb] at h;cases h
 | true =>
 rw[hb,jab] at h;split at h
 ·cases h
 rename_i d h3;split at h
 ·cases h
 rename_i l h4;split at h<;>cases h;rename_i q h5;exact⟨id,caps,xi,i,isubs,S1,w1,nt,fr,pr,assign,body,D,d0,rows,subs,S2,w2,d,l,_,rfl,h1,ho,h2,hb,h3,h4,qyh _ _ _ _ _ h5,rfl⟩
theorem zmt{k:Nat}{s:SmI}{cfg:LpC}{lf:Nat}{cl:Cl}{vs:List IV}{S:IS}:FrO S (itW P tt k s cfg lf cl vs S):=fun r h=>by
 obtain⟨id,caps,xi,i,isubs,S1,w1,nt,fr,pr,assign,body,D,d0,rows,subs,S2,w2,d,l,q,rfl,h1,ho,h2,hb,h3,h4,h5,rfl⟩:=qwq h;have k1:=qez _ h1;have k2:=qez _ h2;have k0:=FrX.set S2 i .dead;have k3:=k0.trans ((qrh subs (S2.set i .dead)).trans ((quj rows (qar (refs cfg.lp) (fun k=>S2.next+(k-mP cfg.lp)) (mP cfg.lp) q.1) _).trans (qoy (newO (sQ cfg.lp) () q.1) _ 0)));have k4:=(k1.trans k2).trans (k3.trans (FrX.set _ id (.loop (cond q.2.isNone .ready .done) q.2 nt fr [pr] assign body D)));refine⟨k4.1,fun j hj hbit=>k4.2 j hj ?_⟩;have hbit:(2 ^ id ||| ((w1 ||| w2) ||| qby ([i]++(rows++subs)))).testBit j=false:=hbit;have e0:qby [i]=2 ^ i:=by simp[qby]
 simp only[qvz,e0,jcf,jcg,Nat.zero_testBit] at hbit ⊢;obtain⟨a,⟨b,c⟩,g,e,f⟩:=hbit;exact⟨⟨b,c⟩,⟨g,f,e,trivial⟩,a⟩
theorem q92{k:Nat}{s:SmI}{cfg:LpC}{lf:Nat}{cl:Cl}{vs:List IV}{S:IS}{r:Res}(h:itW P tt k s cfg lf cl vs S=some r)(hw:r.wr=0):False:=by
 obtain⟨id,caps,xi,i,isubs,S1,w1,nt,fr,pr,assign,body,D,d0,rows,subs,S2,w2,d,l,q,rfl,h1,ho,h2,hb,h3,h4,h5,rfl⟩:=qwq h;have:2 ^ id=0:=(or_zero hw).1;have:=jfk (n:=id);omega
def itWx(P:Program)(tt:Nat->Option TI)(k:Nat)(s:SmI)(cfg:LpC)(lf:Nat):Hx:=⟨itW P tt k s cfg lf,fun clP R vs S kk=>itWK P tt k s cfg lf clP R vs S kk,fun cl clP hcl R vs S kk=>zmj k s cfg lf cl clP hcl R vs S kk⟩
theorem Held.dead{T:TW}{E:Env}{S:IS}{l:List PK}{x:ElP l}{rows subs:List Nat}(h:Held T E S l x rows subs)(p:Pre T E S){i:Nat}{w:World}(hT:T.w i)(hA:E.A i)(hL:Live E S.H i)(hi:i ∉ rows++subs)(hb:Beside (E.ρ i) E.w w) :
  Held T (E.at_ w) (S.set i .dead) l x rows subs:=by
 have hle:=Env.at_le p.st hT hA hL hb.upd;refine⟨h.l1,h.l2,h.nd,h.w,h.A,fun ι hι j o hj=>?_,fun id hid=>?_,fun j=>?_⟩
 ·obtain⟨id,g1,g2,g3,g4⟩:=h.at_ ι hι j o hj;have hm:id∈rows:=jbv g1;refine⟨id,g1,g2,g3,g4.mono hle g2 g3 fun hl hh=>hb.same _ fun e=>?_⟩;obtain⟨cs,hcs⟩:=h.row id hm;have:=p.st.inj _ _ (T.sub _ (h.w id (jbz _ hm))) (T.sub _ hT) g2 hA ⟨hh,_,hcs,rfl⟩ hL e;exact hi (this▸jbz _ hm)
 ·obtain⟨cs,hcs⟩:=h.row id hid;exact⟨cs,by rw[IS.H_set,up_ne _ _ (fun e:id=i=>hi (e▸jbz _ hid))];exact hcs⟩
 ·rw[h.sub];cases hs:subs[j]? with
  | none=>rfl
  | some id =>
   have hm:id∈subs:=jbv hs;show S.H id=(S.set i .dead).H id;rw[IS.H_set,up_ne _ _ (fun e:id=i=>hi (e▸jb6 _ hm))]
end
end Go.Jx
end

noncomputable section
set_option maxRecDepth 100000
namespace Go.Proofs.YtnhmanoiolfapaaGreat
open Go Go.Sx Go.RowKit Go.Jx
def S.listed(m:List (Int × ByteArray)):List qaa:=m.foldl (fun c p=>S.ins1 (p.1,p.2,false) c) []
def S.mapG(m:List (Int × ByteArray)):Bool:=decide (m.map (·.1)).Nodup&&m.all fun p=>S.inI p.1 0 199&&Nat.ble p.2.size 4000
def qcq:SmR:=⟨[.ref (.mp (.int .i64) .str)],[(false,.list qac)],fun x=>match x.1 with
 | some m=>cond (S.mapG m) (some ((S.listed m,()),(some m,()))) none
 | none=>none⟩
def S.recsGo:Nat->List ByteArray->List qfs
 | 0,_=>[]
 | f+1,l=>match l with
  | []=>[]
  | s::r=>if (qab s).getD 0 0=0 then [] else S.readK (s::r)::cond (S.readK (s::r)).2.2 [] (S.recsGo f ((s::r).drop (S.readK (s::r)).2.1.toNat))
def S.recsK(l:List ByteArray):List qfs:=S.recsGo (l.length+1) l
def q6y:SmI:=⟨[.ref (.box [.dat (.list .str)])],cKeepRecord,fun x=>cond (S.secs x.1.1) (some (S.recsK x.1.1)) none⟩
end Go.Proofs.YtnhmanoiolfapaaGreat
end

section
namespace Go.Proofs.YtnhmanoiolfapaaGreat
open Go Go.RowKit Go.Shelf
def qri:Go.Shelf.Ren:=⟨fun|105=>90|212=>102|99=>106|165=>107|166=>108|170=>109|169=>110|263=>116|264=>117|206=>118|240=>119|241=>120|276=>126|277=>127|n=>n,fun|9=>9|3=>3|4=>4|20=>20|0=>0|46=>141|109=>158|5=>5|72=>166|76=>170|51=>178|146=>179|53=>181|148=>182|70=>164|37=>78|75=>169|127=>184|164=>191|80=>100|n=>n,fun|n=>n⟩
theorem qy5:Go.Proofs.Lays.n105 Tryz.prog qri:={
 mixed:=by kernel_rfl
 f99:=Tryz.func106.trans (jav some (by kernel_rfl))
 f105:=Tryz.func90.trans (jav some (by kernel_rfl))
 f165:=Tryz.func107.trans (jav some (by kernel_rfl))
 f166:=Tryz.func108.trans (jav some (by kernel_rfl))
 f169:=Tryz.func110.trans (jav some (by kernel_rfl))
 f170:=Tryz.func109.trans (jav some (by kernel_rfl))
 f206:=Tryz.func118.trans (jav some (by kernel_rfl))
 f212:=Tryz.func102.trans (jav some (by kernel_rfl))
 f240:=Tryz.func119.trans (jav some (by kernel_rfl))
 f241:=Tryz.func120.trans (jav some (by kernel_rfl))
 f263:=Tryz.func116.trans (jav some (by kernel_rfl))
 f264:=Tryz.func117.trans (jav some (by kernel_rfl))
 f276:=Tryz.func126.trans (jav some (by kernel_rfl))
 f277:=Tryz.func127.trans (jav some (by kernel_rfl))
 t0:=Tryz.underlying0
 a0:=Tryz.isAgg0
 z0:=Tryz.sizeOf0
 v0:=Tryz.zeroValue0
 t3:=Tryz.underlying3
 a3:=Tryz.isAgg3
 z3:=Tryz.sizeOf3
 v3:=Tryz.zeroValue3
 t4:=Tryz.underlying4
 a4:=Tryz.isAgg4
 z4:=Tryz.sizeOf4
 v4:=Tryz.zeroValue4
 t5:=Tryz.underlying5
 a5:=Tryz.isAgg5
 z5:=Tryz.sizeOf5
 v5:=Tryz.zeroValue5
 t9:=Tryz.underlying9
 a9:=Tryz.isAgg9
 z9:=Tryz.sizeOf9
 v9:=Tryz.zeroValue9
 t20:=Tryz.underlying20
 a20:=Tryz.isAgg20
 z20:=Tryz.sizeOf20
 v20:=Tryz.zeroValue20
 t37:=Tryz.underlying78
 a37:=Tryz.isAgg78
 z37:=Tryz.sizeOf78
 v37:=Tryz.zeroValue78
 t46:=Tryz.underlying141
 a46:=Tryz.isAgg141
 z46:=Tryz.sizeOf141
 v46:=Tryz.zeroValue141
 t51:=Tryz.underlying178
 a51:=Tryz.isAgg178
 z51:=Tryz.sizeOf178
 v51:=Tryz.zeroValue178
 t53:=Tryz.underlying181
 a53:=Tryz.isAgg181
 z53:=Tryz.sizeOf181
 v53:=Tryz.zeroValue181
 t70:=Tryz.underlying164
 a70:=Tryz.isAgg164
 z70:=Tryz.sizeOf164
 v70:=Tryz.zeroValue164
 t72:=Tryz.underlying166
 a72:=Tryz.isAgg166
 z72:=Tryz.sizeOf166
 v72:=Tryz.zeroValue166
 t75:=Tryz.underlying169
 a75:=Tryz.isAgg169
 z75:=Tryz.sizeOf169
 v75:=Tryz.zeroValue169
 t76:=Tryz.underlying170
 a76:=Tryz.isAgg170
 z76:=Tryz.sizeOf170
 v76:=Tryz.zeroValue170
 t109:=Tryz.underlying158
 a109:=Tryz.isAgg158
 z109:=Tryz.sizeOf158
 v109:=Tryz.zeroValue158
 t127:=Tryz.underlying184
 a127:=Tryz.isAgg184
 z127:=Tryz.sizeOf184
 v127:=Tryz.zeroValue184
 t146:=Tryz.underlying179
 a146:=Tryz.isAgg179
 z146:=Tryz.sizeOf179
 v146:=Tryz.zeroValue179
 t148:=Tryz.underlying182
 a148:=Tryz.isAgg182
 z148:=Tryz.sizeOf182
 v148:=Tryz.zeroValue182
 t164:=Tryz.underlying191
 a164:=Tryz.isAgg191
 z164:=Tryz.sizeOf191
 v164:=Tryz.zeroValue191 }
theorem zi4:Builder.Extra Tryz.prog qri:={
 sizeBuilder:=by kernel_rfl
 liesBuilder:=by kernel_rfl
 t5:=Tryz.underlying5
 a5:=Tryz.isAgg5
 z5:=Tryz.sizeOf5
 v5:=Tryz.zeroValue5
 infoByte:=by kernel_rfl
 cellsByte:=by kernel_rfl
 sizeByte:=by kernel_rfl
 neB5:=by decide }
theorem zkk(s:ByteArray)(c:Nat)(w:World)(hc:c<=9223372036854775807)(hlen:s.size*c<=140737488355328) :
  Calls Tryz.prog 90 #[.string s,.int .i64 c] w fun e w'=>e=.returned (.string ⟨(Lib.repeatL s.data.toList c).toArray⟩)/\Below w.heap.size w w':=Any.strings_Repeat qy5 zi4 s c w hc hlen
end Go.Proofs.YtnhmanoiolfapaaGreat
end

noncomputable section
set_option maxRecDepth 100000
namespace Go.Proofs.YtnhmanoiolfapaaGreat
open Go Go.Sx Go.RowKit Go.Jx
theorem zbo:qai Tryz.prog 90:=⟨_,Tryz.func90,by kernel_rfl,by kernel_rfl⟩
theorem zku{f:Nat}{s:Sm}(hC:qai Tryz.prog f)(hr:∀y,resO s.rts y=[])
  (h:∀(M:List Nat) (w:World) (x:ElA s.pts) (us:List Value) (y:ElR s.rts),s.f x=some y->VRs (EM M w) (argV s.pts x) us->∃v,(∀E':Env,VR E' (tupI (resV s.rts 0 y)) v)/\Calls Tryz.prog f us.toArray w fun e w'=>e=.returned v/\Below w.heap.size w w'):Con Tryz.prog f s :=
 ⟨hC,fun M w x us y hy hM hg hv=>by
  obtain⟨v,h1,h2⟩:=h M w x us y hy hv;refine(jdk.2 h2).mono fun e w' hR=>?_;obtain⟨rfl,hb⟩:=hR;rw[hr y];obtain⟨q1,q2⟩:=Post.idle (preM hM hg) (Upd.of_below hb);exact⟨v,(EM M w).at_ w',rfl,rfl,h1 _,q1,q2⟩⟩
theorem q9w{s:ByteArray}{n:Int}(h:S.oneN s n=true):s=S.lit [0]/\n=64:=by
 unfold S.oneN at h;rw[jad] at h;exact⟨jaz h.1,jaz h.2⟩
theorem zdv:S.blank.size=64:=by kernel_rfl
theorem zh5{E:Env}(s:ByteArray)(n:Int){us:List Value}{y:ByteArray × Unit}(hy:cond (S.oneN s n) (some (S.blank,())) none=some y)(hv:VRs E [.str s,.int .i64 n] us) :
  ∃v,(∀E':Env,VR E' (.str y.1) v)/\Calls Tryz.prog 90 us.toArray E.w fun e w'=>e=.returned v/\Below E.w.heap.size E.w w':=by
 obtain⟨hk,rfl⟩:=qa8 hy;obtain⟨rfl,rfl⟩:=q9w hk;obtain⟨u1,us1,rfl,a1,a2⟩:=hv.inv;obtain⟨u2,us2,rfl,a3,a4⟩:=a2.inv;have e:us2=[]:=by have:=a4.1;simpa using this.symm
 subst e;cases a1;cases a3;refine⟨.string S.blank,fun E'=>.str _ (by rw[zdv];omega),?_⟩;refine(zkk (S.lit [0]) 64 E.w (by omega) (by show 1*64<=_;omega)).mono fun e w' h=>?_;rw[show (⟨(Lib.repeatL (S.lit [0]).data.toList 64).toArray⟩:ByteArray)=S.blank by kernel_rfl] at h;exact h
theorem zfo:Con Tryz.prog 90 q1q :=
 zku zbo (fun y=>rfl) fun M w x us y hy hv=>zh5 x.1 x.2.1 hy hv
end Go.Proofs.YtnhmanoiolfapaaGreat
end

section
namespace Go.Sx
open Go Go.RowKit
section
variable {P : Program} {n : Nat} {σ : Nat -> Value} {w : World} {Q : Exit -> Act -> World -> Prop} {ops : Array Oper} {rest : List Oper} {d : Nat} {ty : TypeId} {pos : String} {aft : Array Edge} {g : Option (Nat × Bool)}
theorem q5m{x y:Operand}{u v:Value}{T T':TypeId}{m:Nat}{w':World}(hg:qao ops σ n g=true)(hx:okO n x=true)(ex:ev σ x=u)(hy:okO n y=true)(ey:ev σ y=v)
  (hr:(Builtin.copy_ #[T,T'] ty #[u,v]).run P w=.ok (goInt m) w') (k:wpList P ops Q rest (Fr n (upd σ d (.int .i64 m))) w'):wpList P ops Q (⟨some d,.call ⟨.builtin .copy,#[x,y],#[T,T']⟩,ty,pos,aft,g⟩::rest) (Fr n σ) w :=
 qa6 hg (by
  have h1:(#[x,y].map (Fr n σ).eval)=#[u,v]:=by simp[qat hx,qat hy,ex,ey]
  simp only[execOp,resolve,h1,invoke,builtin,jag,jae,jaa,hr,goInt]) k
theorem zp8{x y:Operand}{u v r:Value}{T:TypeId}{w':World}(hg:qao ops σ n g=true)(hx:okO n x=true)(ex:ev σ x=u)(hy:okO n y=true)(ey:ev σ y=v)
  (hr:(Instr.makeSlice T u v).run P w=.ok r w') (k:wpList P ops Q rest (Fr n (upd σ d r)) w'):wpList P ops Q (⟨some d,.makeSlice T x y,ty,pos,aft,g⟩::rest) (Fr n σ) w :=
 qa6 hg (by
  simp only[execOp,qat hx,qat hy,ex,ey,jag,jae,jaa,hr]) k
end
end Go.Sx
end

section
namespace Go.Sx
open Go Go.RowKit
section
variable {P : Program} {ops : Array Oper} {md : Region.Mode} {Q : Exit -> Act -> World -> Prop}
def KOne(K:Act->World->Prop):Exit->Act->World->Prop:=fun e a w=>e=.normal/\K a w
theorem zhx{o:Oper}{a:Act}{K K':Act->World->Prop}{r:Result Next}(hK:∀a w,K' a w->K a w)(h:o.upon P a K' (KOne K) r):o.upon P a K Q r:=by
 cases r with
 | ok v w' =>
  cases v with
  | value v=>exact hK _ _ h
  | skip=>exact hK _ _ h
  | defer d=>exact hK _ _ h
  | enter f args =>
   refine Calls.mono h fun e w'' he=>?_;cases e with
   | returned v=>exact hK _ _ he
   | panicked c=>cases he.1
   | outgrown=>obtain⟨_,_,h1,_⟩:=he;cases h1
  | row row args=>exact Rows.mono h fun v w'' he=>hK _ _ he
  | _=>exact h
 | halt x w'=>cases x<;>first|exact h|exact absurd h.1 (by simp)
theorem zc2{i:Nat}{o:Oper}{a:Act}{w:World}{K:Act->World->Prop}(hi:ops[i]?=some o)(h:wpList P ops (KOne K) [o] a w):wpOp P ops Q i K a w:=by
 unfold wpOp;simp only[hi];unfold wpList at h;split at h
 ·rename_i hw;rw[jan hw];rcases h with h|⟨_,_,_,h,_⟩
  ·exact .inl (zhx (fun a w h=>h.2) h)
  ·cases h
 ·rename_i hw;rw[jao hw];exact h.2
end
end Go.Sx
end

section
set_option maxRecDepth 100000
namespace Go.Sx
open Go Go.RowKit
section
variable {P : Program} {n : Nat} {σ : Nat -> Value} {w : World} {ops : Array Oper} {rest : List Oper} {d : Nat} {ty : TypeId} {pos : String} {aft : Array Edge} {g : Option (Nat × Bool)}
theorem q20{T E:TypeId}{size bytes s2 b2:Nat}{zero z2:Value}{E':TypeDesc}{a:Addr}{len cap k:Nat}{kk:IntKind}(hT:Ty P T (.slice E) size bytes zero)(hE:Ty P E E' s2 b2 z2)(hk:k<cap)(hl:k<=len)(hc:len<=cap) :
  (Instr.sliceAt T (.slice (some a) len cap) (some (.int kk (k:Nat))) none none).run P w=.ok (.slice (some (a.add (k*s2))) (len-k) (cap-k)) w:=by
 have h1:(0:Int)<=(k:Nat)/\((k:Nat):Int)<=len:=⟨by omega,by omega⟩;have h2:¬cap-k=0:=by omega
 have h3:¬cap=k:=by omega
 simp only[Instr.sliceAt,jag,jam hT.und,jaa,Instr.slice,Instr.sliceBounds,Instr.sliceBound,asIntOf,jae,h1,je3,jcu,run_sizeOf hE];simp[h3]
theorem zbl{Q:Exit->Act->World->Prop}{T E:TypeId}{size bytes s2 b2:Nat}{zero z2:Value}{E':TypeDesc}{x y:Operand}{a:Addr}{len cap k:Nat}{kk:IntKind}(hT:Ty P T (.slice E) size bytes zero)(hE:Ty P E E' s2 b2 z2)
  (hg:qao ops σ n g=true) (hx:(okO n x&&okO n y)=true) (ex:ev σ x=.slice (some a) len cap) (ey:ev σ y=.int kk (k:Nat)) (hk:k<cap) (hl:k<=len) (hc:len<=cap)
  (kt:wpList P ops Q rest (Fr n (upd σ d (.slice (some (a.add (k*s2))) (len-k) (cap-k)))) w):wpList P ops Q (⟨some d,.slice T x (some y) none none,ty,pos,aft,g⟩::rest) (Fr n σ) w:=by
 simp only[jad] at hx;exact qa6 hg (by simp only[execOp,qat hx.1,ex,Option.map_none,jc5,qat hx.2,ey,q20 hT hE hk hl hc,jag,jae,jaa]) kt
theorem zde{Q:Exit->Act->World->Prop}{T E:TypeId}{size bytes s2 b2:Nat}{zero z2:Value}{E':TypeDesc}{x y:Operand}{a:Option Addr}{len cap k:Nat}{kk:IntKind}(hT:Ty P T (.slice E) size bytes zero)(hE:Ty P E E' s2 b2 z2)
  (hg:qao ops σ n g=true) (hx:(okO n x&&okO n y)=true) (ex:ev σ x=.slice a len cap) (ey:ev σ y=.int kk (k:Nat)) (hk:k<=cap)
  (kt:wpList P ops Q rest (Fr n (upd σ d (.slice a k cap))) w):wpList P ops Q (⟨some d,.slice T x none (some y) none,ty,pos,aft,g⟩::rest) (Fr n σ) w:=by
 simp only[jad] at hx;exact qa6 hg (by simp only[execOp,qat hx.1,ex,Option.map_none,jc5,qat hx.2,ey,zh6 hT hE hk,jag,jae,jaa]) kt
theorem qgb{md:Region.Mode}{Q:Exit->Act->World->Prop}{op:Op}{v:Value}{i fuel:Nat}{listed:Array Bool}(hi:ops[i]?=some ⟨some d,op,ty,pos,aft,g⟩)(hp:qh4 op=true)(hd:Nat.blt d n=true)(hg:qao ops σ n g=true)
  (hb:(Region.noSelect ops&&(Region.free md ops listed i&&(Region.ready md ops listed).contains i))=true) (hQ:∀c a w,¬Q (.panic c) a w)
  (h:∀w1,wpList P ops (QOne n σ d v w1) [⟨some d,op,ty,pos,aft,g⟩] (Fr n σ) w1)
  (k:wpAny P md ops Q fuel (listed.setIfInBounds i true) (Fr n (upd σ d v)) w):wpAny P md ops Q (fuel+1) listed (Fr n σ) w:=by
 simp only[jad] at hb;have hd':d<n:=by simpa using hd
 refine wpAny_take (v:=v) hi hb.1 hb.2.1 hb.2.2 (fun c a w h=>absurd h (hQ c _ w)) (.inl ⟨qf1 hg,fun w1=>?_⟩) (by show wpAny P md ops Q fuel _ ((Fr n σ).put (some d) v) w;rw[qdy];exact k);have h1:=h w1;unfold wpList at h1;rw[qf1 (o:=⟨some d,op,ty,pos,aft,g⟩) hg,jan rfl] at h1;rcases h1 with h1|⟨_,a,w',h1,_⟩
 ·unfold Oper.wp at h1;cases hr:(execOp (Fr n σ).eval ⟨some d,op,ty,pos,aft,g⟩).run P w1 with
  | ok x w' =>
   rw[hr] at h1;cases x with
   | value u =>
    rw[Oper.upon_value,qdy] at h1;obtain⟨_,h2,h3⟩:=h1;rw[h3,qrj hd' h2]
   | skip =>
    obtain⟨u,hu⟩:=qv1 hp hr;cases hu
   | _=>obtain⟨u,hu⟩:=qv1 hp hr;cases hu
  | halt x w'=>rw[hr] at h1;cases x<;>first|exact h1.elim|(obtain⟨h2,_⟩:=h1;cases h2)
 ·cases h1
theorem qtf{md:Region.Mode}{Q:Exit->Act->World->Prop}{o:Oper}{i fuel:Nat}{listed:Array Bool}{a:Act}(hi:ops[i]?=some o)(hr:Region.ready md ops listed=[i])
  (h:wpList P ops (KOne fun a' w'=>wpAny P md ops Q fuel (listed.setIfInBounds i true) a' w') [o] a w):wpAny P md ops Q (fuel+1) listed a w :=
 wpAny_all hr (by simp) fun j hj=>by
  have:j=i:=by simpa using hj
  subst this;exact zc2 hi h
theorem qtd{V Z:Value}:∀(k n m:Nat),k<=m->putL (List.replicate n V++List.replicate m Z) n (List.replicate k V)=List.replicate (n+k) V++List.replicate (m-k) Z
 | 0,n,m,h=>by simp[putL]
 | k+1,n,m,h=>by
  obtain⟨m',rfl⟩:∃m',m=m'+1:=⟨m-1,by omega⟩;have e:(List.replicate n V++List.replicate (m'+1) Z).set n V=List.replicate (n+1) V++List.replicate m' Z:=by
   rw[List.set_append_right (h:=by simp)];rw[List.replicate_succ' (n:=n),jay];simp only[jbd,jed,List.replicate_succ (n:=m'),List.set_cons_zero];rfl
  show putL ((List.replicate n V++List.replicate (m'+1) Z).set n V) (n+1) (List.replicate k V)=_;rw[e,qtd k (n+1) m' (by omega)];rw[show n+1+k=n+(k+1) by omega,show m'+1-(k+1)=m'-k by omega]
theorem q9d{dT sT ty elem:TypeId}{β o dLen dCap sLen sCap:Nat}{a:Addr}{cs xs:List Value}(hu:P.underlying dT=some (.slice elem))(hs:(P.info? elem).map (·.size)=some 1)(hb:Box w β cs)(hn:xs.length=Nat.min sLen dLen)
  (hsrc:∀j v,xs[j]?=some v->w.cell? (a.add j)=some v) (hl:o+xs.length<=cs.length) (h1:xs.all one=true) :
  ∃w',(Builtin.copy_ #[dT,sT] ty #[.slice (some ⟨β,o,none⟩) dLen dCap,.slice (some a) sLen sCap]).run P w=.ok (goInt xs.length) w'/\Box w' β (putL cs o xs)/\Upd [β] w w'/\w'.heap.size=w.heap.size:=by
 have hld:=run_loadCells_list (P:=P) w a xs hsrc;obtain⟨w',q1,q2,q3,q4⟩:=run_store (P:=P) xs o 0 hb (by simpa using hl) h1;refine⟨w',?_,by simpa using q2,q3,q4⟩;cases hq:P.info? elem with
 | none=>simp [hq] at hs
 | some i =>
  have hi:i.size=1:=by simpa [hq] using hs
  simp[Builtin.copy_,jam hu,Builtin.lenOf,Builtin.firstCells,sizeOf,typeInfo,hq,hi,<- hn,hld,q1]
end
end Go.Sx
namespace Go.Proofs.YtnhmanoiolfapaaGreat
open Go Go.Sx Go.RowKit Go.Jx
theorem zjs:qai Tryz.prog 102:=⟨_,Tryz.func102,by kernel_rfl,by kernel_rfl⟩
theorem zle(x y:Nat)(hx:x<18446744073709551616)(hy:y<18446744073709551616)(w:World) :
  Calls Tryz.prog 102 #[.int .u64 x,.int .u64 y] w (Ret fun v w'=>v=.tuple #[.int .u64 ((x*y / 18446744073709551616:Nat):Int),.int .u64 ((x*y % 18446744073709551616:Nat):Int)]/\w'=w) :=
 (Any.bits_Mul (P:=Tryz.prog) (ρ:=qri) { qy5 with } x y hx hy w).mono fun e w' h=>by
  obtain⟨rfl,rfl⟩:=h;exact⟨rfl,rfl⟩
theorem zg2(c:Nat)(hc:c<=1000)(w:World):(Instr.makeSlice 22 (.int .i64 (c:Int)) (.int .i64 (c:Int))).run Tryz.prog w=.ok (.slice (some ⟨w.heap.size,0,none⟩) c c) (w.alloc (.cells (madeCells #[.string ⟨#[]⟩] (c*1)) 9)):=by
 obtain⟨i,h1,h2,h3,h4⟩:=ty9.inf;have h2:i.size=1:=h2;have h3:i.bytes=16:=h3;have:=run_makeSlice (P:=Tryz.prog) w 22 9 i (.string ⟨#[]⟩) ty22.und h1 h4 .i64 .i64 c c (by omega) (jbr _) (by rw[h2];omega) (by rw[h3];omega) (by omega);rw[h2] at this;exact this
theorem zqq(c:Nat)(w:World):Box (w.alloc (.cells (madeCells #[.string ⟨#[]⟩] (c*1)) 9)) w.heap.size (List.replicate c (.string ⟨#[]⟩)):=by
 refine⟨9,?_⟩;rw[jcr];have:madeCells #[.string ⟨#[]⟩] (c*1)=(List.replicate c (Value.string ⟨#[]⟩)).toArray:=by
  unfold madeCells;apply jd9
  ·simp
  ·intro i h1 h2;simp[Nat.mod_one]
 rw[this]
theorem zbp(c:Nat)(w:World):Upd [] w (w.alloc (.cells (madeCells #[.string ⟨#[]⟩] (c*1)) 9)):=Upd.alloc _ _
theorem nmin(a b:Nat):Nat.min a b<=a/\Nat.min a b<=b/\(Nat.min a b=a\/Nat.min a b=b):=by
 have e:Nat.min a b=min a b:=rfl;rw[e];omega
theorem si9:(Tryz.prog.info? 9).map (·.size)=some 1:=by
 obtain⟨i,h1,h2,_⟩:=ty9.inf;have h2:i.size=1:=h2;rw[h1,jc5,h2]
theorem q3v(s:ByteArray)(k:Nat):(List.replicate k (Value.string s)).all Go.Sx.one=true:=by
 rw[jbi];intro x hx;rw[List.eq_of_mem_replicate hx];rfl
theorem zri{c cap ty:Nat}{w:World}{a:Addr}{s:ByteArray}{β:Nat}(hs:w.cell? a=some (.string s))(hb:Box w β (List.replicate c (.string ⟨#[]⟩))) :
  ∃w',(Builtin.copy_ #[22,22] ty #[.slice (some ⟨β,0,none⟩) c c,.slice (some a) 1 cap]).run Tryz.prog w=.ok (goInt (Nat.min 1 c)) w'/\Box w' β (List.replicate (Nat.min 1 c) (.string s)++List.replicate (c-Nat.min 1 c) (.string ⟨#[]⟩))/\Upd [β] w w'/\w'.heap.size=w.heap.size:=by
 have hnm:=nmin 1 c;have ha:a.spot=none:=by
  unfold World.cell? at hs;split at hs
  ·cases h:a.spot with
   | none=>rfl
   | some x=>rw[h] at hs;cases hs
  ·cases hs
 obtain⟨w',q1,q2,q3,q4⟩:=q9d (P:=Tryz.prog) (dT:=22) (sT:=22) (ty:=ty) (elem:=9) (β:=β) (o:=0) (dLen:=c) (dCap:=c) (sLen:=1) (sCap:=cap) (a:=a) (xs:=List.replicate (Nat.min 1 c) (.string s)) ty22.und si9 hb (by rw[jbd]) (fun j v hj=>by
  have hj1:j<Nat.min 1 c:=by
   have:=(jbb.1 hj).1;simpa using this
  have:j=0:=by omega
  subst this;rw[jac (by simpa using hj1)] at hj;simp at hj;rw[qbg _ ha,<- hj];show w.cell? ⟨a.block,a.off+0,none⟩=_;rw[jb4,<- ha];exact hs) (by rw[jbd,jbd];omega) (q3v _ _)
 rw[jbd] at q1;refine⟨w',q1,?_,q3,q4⟩;have:=qtd (V:=.string s) (Z:=.string ⟨#[]⟩) (Nat.min 1 c) 0 c (jfx _ _);rw[jbm] at this;rw[<- this];exact q2
theorem zix{dT sT ty c n:Nat}{w:World}{s:ByteArray}{β:Nat}(hlt:n<c)(hn:1<=n)(hb:Box w β (List.replicate n (.string s)++List.replicate (c-n) (.string ⟨#[]⟩)))(hd:dT=22:=by rfl) :
  ∃w',(Builtin.copy_ #[dT,sT] ty #[.slice (some ((⟨β,0,none⟩:Addr).add (n*1))) (c-n) (c-n),.slice (some ⟨β,0,none⟩) n c]).run Tryz.prog w=.ok (goInt (Nat.min n (c-n))) w'/\Box w' β (List.replicate (n+Nat.min n (c-n)) (.string s)++List.replicate (c-n-Nat.min n (c-n)) (.string ⟨#[]⟩))/\Upd [β] w w'/\w'.heap.size=w.heap.size:=by
 subst hd;have hnm:=nmin n (c-n);have e:(⟨β,0,none⟩:Addr).add (n*1)=⟨β,n,none⟩:=by rw[qbg _ rfl];simp
 rw[e];obtain⟨w',q1,q2,q3,q4⟩:=q9d (P:=Tryz.prog) (dT:=22) (sT:=sT) (ty:=ty) (elem:=9) (β:=β) (o:=n) (dLen:=c-n) (dCap:=c-n) (sLen:=n) (sCap:=c) (a:=⟨β,0,none⟩) (xs:=List.replicate (Nat.min n (c-n)) (.string s)) ty22.und si9 hb (by rw[jbd]) (fun j v hj=>by
  have hj1:j<Nat.min n (c-n):=by
   have:=(jbb.1 hj).1;simpa using this
  rw[jac (by simpa using hj1)] at hj;simp at hj;rw[qbg _ rfl,hb.cell,<- hj,jat (by rw[jbd];show 0+j<n;omega)];rw[List.getElem?_replicate,jan (show 0+j<n by omega)]) (by rw[jaf,jbd,jbd,jbd];omega) (q3v _ _)
 rw[jbd] at q1;exact⟨w',q1,by rw[<- qtd _ _ _ (jfx n (c-n))];exact q2,q3,q4⟩
section
attribute [local irreducible] Go.wpList Go.wpQuiet Go.Code.wp
theorem q99(s:ByteArray)(c:Nat)(hc:c<=1000){a:Addr}{cap:Nat}{w:World}(hcell:w.cell? a=some (.string s)) :
  Calls Tryz.prog 76 #[.slice (some a) 1 cap,.int .i64 c] w (Ret fun v w'=>∃β,w.heap.size<=β/\v=.slice (some ⟨β,0,none⟩) c c/\Box w' β (List.replicate c (.string s))/\Upd [] w w'):=by
 refine(enter (l:=[.slice (some a) 1 cap,.int .i64 c]) Tryz.func76 rfl Tryz.ntmps76 rfl ?_);refine qal fun K1 hK1=>?_;refine qau ?_;refine qa0 (v:=.slice none 0 0) rfl rfl rfl ?_;refine jbe ?_;refine hK1 _ _ ?_;refine qal fun K2 hK2=>?_;refine qal fun K3 hK3=>?_;refine qau ?_;refine qav (v:=.int .i64 (c:Int)) rfl rfl rfl ?_;refine qrc rfl rfl rfl rfl ?_;refine jbe ?_;refine hK3 _ _ ?_;refine c_if rfl rfl (fun hb=>absurd hb (by omega)) (fun _=>?_);refine je8 ?_;refine hK2 _ _ ?_;refine qal fun K4 hK4=>?_;refine qau ?_;refine qav (v:=.slice (some a) 1 cap) rfl rfl rfl ?_;refine qv2 ty22 rfl rfl rfl ?_;refine q2t ty3.und qn5.und rfl rfl rfl (by decide) (by decide) ?_;refine qav (v:=.int .i64 (c:Int)) rfl rfl rfl ?_;refine q2t ty3.und qn5.und rfl rfl rfl (by omega) (by omega) ?_;refine qf7 (l:=[.tmp 15,.tmp 17]) (args:=[.int .u64 ((1:Nat):Int),.int .u64 (c:Int)]) zjs rfl rfl rfl (zle 1 c (by omega) (by omega) w) ?_;rintro _ w2 ⟨rfl,hw2⟩;subst w2;have e1:1*c / 18446744073709551616=0:=by omega
 have e2:1*c % 18446744073709551616=c:=by omega
 rw[e1,e2];refine qav (v:=.tuple #[.int .u64 ((0:Nat):Int),.int .u64 (c:Int)]) rfl rfl rfl ?_;refine qis (v:=.int .u64 ((0:Nat):Int)) rfl rfl rfl rfl ?_;refine qis (v:=.int .u64 (c:Int)) rfl rfl rfl rfl ?_;refine qa0 (v:=.int .u64 ((0:Nat):Int)) rfl rfl rfl ?_;refine qa0 (v:=.int .u64 (c:Int)) rfl rfl rfl ?_;refine jbe ?_;refine hK4 _ _ ?_;refine qal fun K5 hK5=>?_;refine qal fun K6 hK6=>?_;refine qau ?_;refine qav (v:=.int .u64 ((0:Nat):Int)) rfl rfl rfl ?_;refine qqs rfl rfl rfl rfl ?_;refine qav (v:=.bool false) rfl rfl rfl ?_;refine qav (v:=.int .u64 (c:Int)) rfl rfl rfl ?_;refine qqs rfl rfl rfl rfl ?_;refine qt6 (v:=.bool false) rfl rfl rfl (jav Value.bool (jar (by omega))) ?_;refine jbe ?_;refine hK6 _ _ ?_;refine qlj rfl rfl ?_;refine je8 ?_;refine hK5 _ _ ?_;refine qal fun K7 hK7=>?_;refine qau ?_;refine qav (v:=.int .u64 (c:Int)) rfl rfl rfl ?_;refine zkj qn5.und ty3.und rfl rfl rfl (by omega) ?_;refine zp8 (u:=.int .i64 (c:Int)) (v:=.int .i64 (c:Int)) rfl rfl rfl rfl rfl (zg2 c hc w) ?_;have hw1:=zqq c w;have hu1:=zbp c w;generalize w.alloc (.cells (madeCells #[.string ⟨#[]⟩] (c*1)) 9)=w1 at hw1 hu1;generalize hβ:w.heap.size=β at hw1;refine qa0 (v:=.slice (some ⟨β,0,none⟩) c c) rfl rfl (by rw[<- hβ];rfl) ?_;refine jbe ?_;refine hK7 _ _ ?_;refine qal fun K8 hK8=>?_;refine qau ?_;refine qav (v:=.slice (some ⟨β,0,none⟩) c c) rfl rfl rfl ?_;refine qav (v:=.slice (some a) 1 cap) rfl rfl rfl ?_;have hsrc1:w1.cell? a=some (.string s):=by
  have:a.block<w.heap.size:=by
   unfold World.cell? at hcell;split at hcell
   ·rename_i h;exact qas h
   ·cases hcell
  unfold World.cell? at hcell ⊢;rw[hu1.same _ this (by simp)];exact hcell
 obtain⟨w3,g1,g2,g3,g4⟩:=zri (cap:=cap) hsrc1 hw1;refine q5m rfl rfl rfl rfl rfl g1 ?_;refine qa0 (v:=.int .i64 ((Nat.min 1 c:Nat):Int)) rfl rfl rfl ?_;refine jbe ?_;refine hK8 _ _ ?_;have hext:∀{w4:World},Upd [β] w1 w4->Upd [] w w4:=fun u4=>⟨u4.os.trans hu1.os,u4.tape.trans hu1.tape,u4.output.trans hu1.output,jbk hu1.size u4.size,fun x hx hn=>(u4.same x (jbh hx hu1.size) (by simp;omega)).trans (hu1.same x hx (by simp))⟩;have hnm:=nmin 1 c;refine qal fun K9 hK9=>?_;refine wp_block ?_;refine qt9 (X:=Nat) (8::(List.range 47).drop 34) (fun n=>[(8,.int .i64 (n:Int))]) (fun n w4=>(n<=c/\(c=0\/1<=n))/\Box w4 β (List.replicate n (.string s)++List.replicate (c-n) (.string ⟨#[]⟩))/\Upd [β] w1 w4) (fun n=>c-n) (Nat.min 1 c) ⟨rfl,trivial⟩ ⟨⟨jfx _ _,by omega⟩,g2,g3⟩ ?_;rintro n τ w4 ⟨⟨hn1,hn2⟩,hx4,hu4⟩;refine qal fun K10 hK10=>?_;refine qal fun K11 hK11=>?_;refine qau ?_;refine qav (v:=.int .i64 (n:Int)) rfl rfl rfl ?_;refine qav (v:=.slice (some ⟨β,0,none⟩) c c) rfl rfl rfl ?_;refine qv2 ty22 rfl rfl rfl ?_;refine qrc rfl rfl rfl rfl ?_;refine jbe ?_;refine hK11 _ _ ?_;refine c_if rfl rfl (fun hb=>?_) (fun hb=>?_)
 ·refine je8 ?_;refine hK10 _ _ ?_;have hlt:n<c:=by omega
  have hn:1<=n:=by omega
  have hnn:=nmin n (c-n);refine wp_block ?_;refine wp_region_any mixed ?_;refine qgb (i:=0) (v:=.int .i64 (n:Int)) rfl rfl rfl rfl (by kernel_rfl) (fun c a w h=>(show _/\False from h).2) (fun w1=>qav (v:=.int .i64 (n:Int)) rfl rfl rfl q1) ?_;refine qgb (i:=1) (v:=.slice (some ⟨β,0,none⟩) c c) rfl rfl rfl rfl (by kernel_rfl) (fun c a w h=>(show _/\False from h).2) (fun w1=>qav (v:=.slice (some ⟨β,0,none⟩) c c) rfl rfl rfl q1) ?_;refine qgb (i:=2) (v:=.int .i64 (n:Int)) rfl rfl rfl rfl (by kernel_rfl) (fun c a w h=>(show _/\False from h).2) (fun w1=>qav (v:=.int .i64 (n:Int)) rfl rfl rfl q1) ?_;refine qgb (i:=3) (v:=.slice (some ((⟨β,0,none⟩:Addr).add (n*1))) (c-n) (c-n)) rfl rfl rfl rfl (by kernel_rfl) (fun c a w h=>(show _/\False from h).2) (fun w1=>zbl ty22 ty9 rfl rfl rfl rfl hlt hn1 (jaq _) q1) ?_;refine qgb (i:=4) (v:=.slice (some ⟨β,0,none⟩) c c) rfl rfl rfl rfl (by kernel_rfl) (fun c a w h=>(show _/\False from h).2) (fun w1=>qav (v:=.slice (some ⟨β,0,none⟩) c c) rfl rfl rfl q1) ?_;refine qgb (i:=5) (v:=.int .i64 (n:Int)) rfl rfl rfl rfl (by kernel_rfl) (fun c a w h=>(show _/\False from h).2) (fun w1=>qav (v:=.int .i64 (n:Int)) rfl rfl rfl q1) ?_;refine qgb (i:=6) (v:=.slice (some ⟨β,0,none⟩) n c) rfl rfl rfl rfl (by kernel_rfl) (fun c a w h=>(show _/\False from h).2) (fun w1=>zde ty22 ty9 rfl rfl rfl rfl hn1 q1) ?_;have hx5:=hx4.mono0 (Upd.drew [] w4);have u5:=Upd.drew [] w4;generalize ({ w4 with drawn:=w4.drawn+1 }:World)=w5 at hx5 u5;obtain⟨w6,r1,r2,r3,r4⟩:=zix (dT:=22) (sT:=22) (c:=c) hlt hn hx5;refine qtf (i:=7) rfl (by kernel_rfl) ?_;refine q5m rfl rfl rfl rfl rfl r1 ?_;refine jbe ⟨rfl,?_⟩;refine qtf (i:=8) rfl (by kernel_rfl) ?_;refine zp9 rfl rfl rfl rfl (by omega) ?_;refine jbe ⟨rfl,?_⟩;refine qtf (i:=9) rfl (by kernel_rfl) ?_;refine qa0 (v:=.int .i64 ((n+Nat.min n (c-n):Nat):Int)) rfl rfl (jav (Value.int .i64) (by omega)) ?_;refine jbe ⟨rfl,?_⟩;refine wpAny_done (by kernel_rfl) ?_ _;refine⟨n+Nat.min n (c-n),by show c-(n+Nat.min n (c-n))<c-n;omega,⟨⟨by omega,by omega⟩,by rw[show c-(n+Nat.min n (c-n))=c-n-Nat.min n (c-n) by omega];exact r2,(hu4.trans (u5.mono (by simp))).trans r3⟩,_,rfl,(by repeat first|exact qbb.refl _ _|refine qbb.upd rfl ?_|refine qbb.upds rfl ?_|refine qbb.mix rfl ?_),rfl,trivial⟩
 ·refine wp_exit ?_;have hnc:n=c:=by omega
  subst hnc;refine hK9 _ _ ?_;refine qal fun K12 hK12=>?_;refine qau ?_;refine qav (v:=.slice (some ⟨β,0,none⟩) n n) rfl rfl rfl ?_;refine qa0 (v:=.slice (some ⟨β,0,none⟩) n n) rfl rfl rfl ?_;refine jbe ?_;refine hK12 _ _ ?_;refine jfb ?_;refine ret1 Tryz.results76 rfl ⟨β,by omega,rfl,?_,hext hu4⟩;rw[jed,jfg,jbl] at hx4;exact hx4
end
theorem zi5:Con Tryz.prog 76 qi0 :=
 ⟨zds,fun M w x us y hy hM hg hv=>by
  obtain⟨l,n,_⟩:=x;obtain⟨hk,rfl⟩:=qa8 (show cond (decide (l.length=1)&&S.inI n 0 1000) (some (List.replicate n.toNat (l.getD 0 S.none_),())) none=some y from hy);simp only[jad,jcc,S.inI] at hk;obtain⟨h1,h2,h3⟩:=hk;obtain⟨s,rfl⟩:∃s,l=[s]:=by
   cases l with
   | nil=>cases h1
   | cons s r=>cases r with
    | nil=>exact⟨s,rfl⟩
    | cons _ _=>simp at h1
  have hni:∃c:Nat,(show Int from n)=(c:Int):=⟨Int.toNat n,(Int.toNat_of_nonneg h2).symm⟩;obtain⟨c,hc0⟩:=hni;have hc0:n=Int.ofNat c:=hc0;subst hc0;have h3:(c:Int)<=1000:=h3;obtain⟨u1,us1,rfl,a1,a2⟩:=hv.inv;obtain⟨u2,us2,rfl,a3,a4⟩:=a2.inv;obtain rfl:us2=[]:=ja2.1 a4.1.symm;cases a3;cases a1 with
  | lst us q1 q2 q3 hb hh hc hu =>
  have hcell:=hc 0 (by simp) 0 (by decide);have hus:=hu 0 (by simp) 0 Nat.zero_lt_one;rename_i b off cap cells t fz;have hsz:s.size<9223372036854775808/\us 0 0=.string s:=by
   have hus:VR (EM M w) (.str s) (us 0 0):=hus;generalize us 0 0=u at hus;cases hus with
   | str _ h=>exact⟨h,rfl⟩
  rw[hsz.2] at hcell;have hcw:w.cell? ⟨b,off,none⟩=some (.string s):=by
   have hh:w.heap[b]?=some (.cells cells t fz):=hh;unfold World.cell?;rw[hh];simpa using hcell
  refine(jdk.2 (q99 s c (by omega) (cap:=cap) hcw)).mono fun e w' hR=>?_;cases e with
  | returned v =>
   obtain⟨β,hβ,rfl,hx,hu'⟩:=hR;obtain⟨p1,p2⟩:=Post.idle (preM hM hg) hu';refine⟨_,(EM M w).at_ w',rfl,rfl,?_,p1,p2⟩;show VR _ (.lst .str (List.replicate c s)) _;obtain⟨t',ht'⟩:=hx;cases c with
   | zero=>exact .lst0 (by omega)
   | succ c =>
    have hl:(List.replicate (c+1) s).length=c+1:=jbd;have:=VR.lst (E:=(EM M w).at_ w') (c:=.str) (l:=List.replicate (c+1) s) (cap:=c+1) (off:=0) (fun _ _=>.string s) (by rw[hl];exact jaq _) (by omega) (by rw[hl];show (c+1)*16<=_;omega)
     (fun h=>by have:=hM _ h;omega) ht' (fun i hi j hj=>by
      have hj:j<1:=hj;have:j=0:=by omega
      subst this;rw[hl] at hi;show (List.replicate (c+1) (Value.string s)).toArray[0+i*1+0]?=_;simp only[ja8,List.getElem?_replicate];rw[jan (by omega)]) (fun i hi j hj=>by
      have hj:j<1:=hj;have:j=0:=by omega
      subst this;show VR _ (.str (List.replicate (c+1) s)[i]) _;rw[List.getElem_replicate];exact .str _ hsz.1)
    rw[hl] at this;exact this
  | _=>exact hR.elim⟩
end Go.Proofs.YtnhmanoiolfapaaGreat
end

section
set_option maxRecDepth 100000
namespace Go.Proofs.YtnhmanoiolfapaaGreat
open Go Go.RowKit Go.Shelf Go.Sort Go.Lib
def zni:Go.Shelf.Ren:=⟨fun|6=>123|15=>129|14=>128|28=>139|29=>140|20=>131|21=>132|22=>133|23=>134|24=>135|25=>136|26=>137|27=>138|46=>141|47=>142|48=>143|49=>144|50=>145|57=>146|n=>n,fun|22=>35|24=>92|25=>190|3=>3|39=>141|0=>0|53=>178|55=>181|4=>4|46=>198|45=>197|50=>202|5=>5|9=>9|66=>206|70=>210|76=>212|77=>107|n=>n,fun|n=>n⟩
theorem q4g:Go.Proofs.SlLaysF0.n6 Tryz.prog zni:={
 mixed:=by kernel_rfl
 f6:=⟨Tryz.f123.name,by decide,Tryz.func123.trans (jav some (by kernel_rfl))⟩
 f14:=⟨Tryz.f128.name,by decide,Tryz.func128.trans (jav some (by kernel_rfl))⟩
 f15:=Tryz.func129.trans (jav some (by kernel_rfl))
 f20:=⟨Tryz.f131.name,by decide,Tryz.func131.trans (jav some (by kernel_rfl))⟩
 f21:=⟨Tryz.f132.name,by decide,Tryz.func132.trans (jav some (by kernel_rfl))⟩
 f22:=⟨Tryz.f133.name,by decide,Tryz.func133.trans (jav some (by kernel_rfl))⟩
 f23:=⟨Tryz.f134.name,by decide,Tryz.func134.trans (jav some (by kernel_rfl))⟩
 f24:=⟨Tryz.f135.name,by decide,Tryz.func135.trans (jav some (by kernel_rfl))⟩
 f25:=⟨Tryz.f136.name,by decide,Tryz.func136.trans (jav some (by kernel_rfl))⟩
 f26:=⟨Tryz.f137.name,by decide,Tryz.func137.trans (jav some (by kernel_rfl))⟩
 f27:=⟨Tryz.f138.name,by decide,Tryz.func138.trans (jav some (by kernel_rfl))⟩
 f28:=Tryz.func139.trans (jav some (by kernel_rfl))
 f29:=Tryz.func140.trans (jav some (by kernel_rfl))
 f46:=⟨Tryz.f141.name,by decide,Tryz.func141.trans (jav some (by kernel_rfl))⟩
 f47:=Tryz.func142.trans (jav some (by kernel_rfl))
 f48:=Tryz.func143.trans (jav some (by kernel_rfl))
 f49:=⟨Tryz.f144.name,by decide,Tryz.func144.trans (jav some (by kernel_rfl))⟩
 f50:=⟨Tryz.f145.name,by decide,Tryz.func145.trans (jav some (by kernel_rfl))⟩
 f57:=⟨Tryz.f146.name,by decide,Tryz.func146.trans (jav some (by kernel_rfl))⟩
 t0:=Tryz.underlying0
 a0:=Tryz.isAgg0
 z0:=Tryz.sizeOf0
 v0:=Tryz.zeroValue0
 t3:=Tryz.underlying3
 a3:=Tryz.isAgg3
 z3:=Tryz.sizeOf3
 v3:=Tryz.zeroValue3
 t4:=Tryz.underlying4
 a4:=Tryz.isAgg4
 z4:=Tryz.sizeOf4
 v4:=Tryz.zeroValue4
 t5:=Tryz.underlying5
 a5:=Tryz.isAgg5
 z5:=Tryz.sizeOf5
 v5:=Tryz.zeroValue5
 t9:=Tryz.underlying9
 a9:=Tryz.isAgg9
 z9:=Tryz.sizeOf9
 v9:=Tryz.zeroValue9
 t22:=Tryz.underlying35
 a22:=Tryz.isAgg35
 z22:=Tryz.sizeOf35
 v22:=Tryz.zeroValue35
 t25:=Tryz.underlying190
 a25:=Tryz.isAgg190
 z25:=Tryz.sizeOf190
 v25:=Tryz.zeroValue190
 t39:=Tryz.underlying141
 a39:=Tryz.isAgg141
 z39:=Tryz.sizeOf141
 v39:=Tryz.zeroValue141
 t45:=Tryz.underlying197
 a45:=Tryz.isAgg197
 z45:=Tryz.sizeOf197
 v45:=Tryz.zeroValue197
 t46:=Tryz.underlying198
 a46:=Tryz.isAgg198
 z46:=Tryz.sizeOf198
 v46:=Tryz.zeroValue198
 t50:=Tryz.underlying202
 a50:=Tryz.isAgg202
 z50:=Tryz.sizeOf202
 v50:=Tryz.zeroValue202
 t53:=Tryz.underlying178
 a53:=Tryz.isAgg178
 z53:=Tryz.sizeOf178
 v53:=Tryz.zeroValue178
 t55:=Tryz.underlying181
 a55:=Tryz.isAgg181
 z55:=Tryz.sizeOf181
 v55:=Tryz.zeroValue181
 t66:=Tryz.underlying206
 a66:=Tryz.isAgg206
 z66:=Tryz.sizeOf206
 v66:=Tryz.zeroValue206
 t70:=Tryz.underlying210
 a70:=Tryz.isAgg210
 z70:=Tryz.sizeOf210
 v70:=Tryz.zeroValue210
 t76:=Tryz.underlying212
 a76:=Tryz.isAgg212
 z76:=Tryz.sizeOf212
 v76:=Tryz.zeroValue212
 t77:=Tryz.underlying107
 a77:=Tryz.isAgg107
 z77:=Tryz.sizeOf107
 v77:=Tryz.zeroValue107 }
def encC(x:Int × ByteArray × Bool):List Value:=[.int .i64 x.1,.string x.2.1,.bool x.2.2]
theorem zre(cf:(Int × ByteArray × Bool)->(Int × ByteArray × Bool)->Int)(hO:SWO (ltOf cf))(g:Nat)(cb:Array Value)(blk off cap:Nat)(d:Array (Int × ByteArray × Bool))(w:World)
  (eg:∀args w,(callFunc g args).run Tryz.prog w=.ok (.enter g args) w) (hcmp:CmpLays Tryz.prog g cb encC 3 cf blk off d.size w) (hH:HoldsK encC 3 w blk off d) (hblk:blk<w.heap.size) (hsz:d.size<4611686018427387904) :
  Calls Tryz.prog 123 #[.slice (some ⟨blk,off,none⟩) d.size cap,.func (.func g) #[] cb] w fun e w' =>
   e=.returned (.tuple #[])/\∃d' n os,PermIn 0 d.size d d'/\SortedIn (ltOf cf) 0 d.size d'/\w'=sortWorldK encC 3 w blk off n d' os :=
 AnyQ.slices_SortFunc q4g 3 Tryz.isAgg92 Tryz.sizeOf92 encC (fun _=>rfl) (fun x v hv=>by simp[encC] at hv;rcases hv with rfl|rfl|rfl<;>rfl) cf hO g cb blk off cap d w eg hcmp hH hblk hsz
theorem zaq(p:Option Addr)(cap:Nat)(fv:Value)(w:World):Calls Tryz.prog 123 #[.slice p 0 cap,fv] w fun e w'=>e=.returned (.tuple #[])/\w'=w :=
 AnyF.slices_SortFunc_none (P:=Tryz.prog) q4g p cap fv w
end Go.Proofs.YtnhmanoiolfapaaGreat
end

section
set_option maxRecDepth 100000
namespace Go.Sx
open Go Go.RowKit
def Gr(w w':World):Prop:=∃q os',w'=Sort.grow (w.drewN q) os'
theorem Gr.refl(w:World):Gr w w:=⟨0,#[],by simp[World.drewN]⟩
theorem Gr.trans{a b c:World}(h:Gr a b)(k:Gr b c):Gr a c:=by
 obtain⟨q,os,rfl⟩:=h;obtain⟨q',os',rfl⟩:=k;exact⟨q+q',os++os',by simp[Sort.grow,World.drewN,Array.append_assoc,jc0]⟩
theorem Gr.push(w:World)(o:Obj):Gr w { w with heap:=w.heap.push o }:=⟨0,#[o],by simp[Sort.grow,World.drewN]⟩
theorem Gr.drew(w:World):Gr w { w with drawn:=w.drawn+1 }:=⟨1,#[],by
 unfold Sort.grow World.drewN;simp only[Array.append_empty]⟩
theorem Gr.upd{w w':World}(h:Gr w w'):Upd [] w w':=by
 obtain⟨q,os,rfl⟩:=h;refine⟨rfl,rfl,rfl,by simp[Sort.grow,World.drewN],fun b hb _=>?_⟩;show (w.heap++os)[b]?=_;rw[jeg hb]
theorem Upd.old_upd{w w2 w3:World}{g:Nat}(h:Upd [] w w2)(k:Upd [g] w2 w3)(hg:w.heap.size<=g):Upd [] w w3 :=
 ⟨k.os.trans h.os,k.tape.trans h.tape,k.output.trans h.output,jbk h.size k.size,fun x hx hn=>(k.same x (jbh hx h.size) (by simp;omega)).trans (h.same x hx hn)⟩
theorem Upd.tr0{w w':World}(h:Upd [] w w'):Tr [] w [] w':=⟨fun b hb _=>⟨by simp,h.same b hb (by simp)⟩⟩
theorem Upd.cell{w w':World}(u:Upd [] w w'){a:Addr}{v:Value}(h:w.cell? a=some v):w'.cell? a=some v:=by
 have:a.block<w.heap.size:=by
  unfold World.cell? at h;split at h
  ·rename_i h';exact qas h'
  ·cases h
 unfold World.cell? at h ⊢;rw[u.same _ this (by simp)];exact h
section
variable {P : Program} {n : Nat} {σ : Nat -> Value} {w : World} {ops : Array Oper} {rest : List Oper} {d : Nat} {op : Op} {ty : TypeId} {pos : String} {aft : Array Edge} {g : Option (Nat × Bool)} {T : TypeId} {x : Operand} {C : World -> Prop} {Qp : Act -> Prop}
theorem qwb{Q:Exit->Act->World->Prop}{v:Value}{zs:List Value}(hg:qao ops σ n g=true)(hx:okO n x=true)(ex:ev σ x=v)(hz:v.cells.toList=zs)
  (k:∀β w',w.heap.size=β->Gr w w'->w'.heap.size=β+1->Box w' β zs->wpList P ops Q rest (Fr n (upd σ d (.pointer (some ⟨β,0,none⟩)))) w'):wpList P ops Q (⟨some d,.box T x,ty,pos,aft,g⟩::rest) (Fr n σ) w:=by
 subst hz;refine qa6 (w':={ w with heap:=w.heap.push (.cells v.cells T) }) hg ?_ (k _ _ rfl (Gr.push _ _) (by simp) (by simpa using Box.push w v.cells.toList T));simp only[execOp,qat hx,ex,Instr.box,jag,jaa,jae,newVar,newRow];rfl
theorem qlm{v:Value}(hp:qh4 op=true)(hd:Nat.blt d n=true)(hg:qao ops σ n g=true)
  (h:∀w1,C w1->wpList P ops (QOne n σ d v w1) [⟨some d,op,ty,pos,aft,g⟩] (Fr n σ) w1)
  (k:wpQuiet P ops C Qp rest (Fr n (upd σ d v))):wpQuiet P ops C Qp (⟨some d,op,ty,pos,aft,g⟩::rest) (Fr n σ):=by
 have hd':d<n:=by simpa using hd
 refine wpQuiet_step fun K hK=>?_;rw[qf1 (o:=⟨some d,op,ty,pos,aft,g⟩) hg,jan rfl];refine⟨v,fun w1 hw1=>?_,by show K ((Fr n σ).put (some d) v);rw[qdy];exact hK _ k⟩;have h1:=h w1 hw1;unfold wpList at h1;rw[qf1 (o:=⟨some d,op,ty,pos,aft,g⟩) hg,jan rfl] at h1;rcases h1 with h1|⟨_,a,w',h1,_⟩
 ·unfold Oper.quietAt;unfold Oper.wp at h1;cases hr:(execOp (Fr n σ).eval ⟨some d,op,ty,pos,aft,g⟩).run P w1 with
  | ok x w' =>
   rw[hr] at h1;cases x with
   | value u =>
    rw[Oper.upon_value,qdy] at h1;obtain⟨_,h2,h3⟩:=h1;exact⟨h3,qrj hd' h2⟩
   | skip =>
    rw[Oper.upon_skip,qdy] at h1;obtain⟨_,h2,h3⟩:=h1;exact⟨h3,(qrj hd' h2).symm⟩
   | _=>obtain⟨u,hu⟩:=qv1 hp hr;cases hu
  | halt x w'=>rw[hr] at h1;cases x<;>first|exact h1.elim|(obtain⟨h2,_⟩:=h1;cases h2)
 ·cases h1
theorem zdc{f:Nat}{l:List Operand}{args:List Value}{ts:Array TypeId}{v:Value}(hF:qai P f)(hg:qao ops σ n g=true)(hx:okOs n l=true)(ea:evs σ l=args)
  (hc:∀w1,C w1->Calls P f args.toArray w1 (Ret fun v' w'=>v'=v/\C w'))
  (k:wpQuiet P ops C Qp rest (Fr n (upd σ d v))):wpQuiet P ops C Qp (⟨some d,.call ⟨.value (.func f),l.toArray,ts⟩,ty,pos,aft,g⟩::rest) (Fr n σ):=by
 refine wpQuiet_step fun K hK=>?_;rw[qf1 (o:=⟨some d,_,ty,pos,aft,g⟩) hg,jan rfl];refine⟨v,fun w1 hw1=>?_,by show K ((Fr n σ).put (some d) v);rw[qdy];exact hK _ k⟩;have hr:(execOp (Fr n σ).eval ⟨some d,.call ⟨.value (.func f),l.toArray,ts⟩,ty,pos,aft,g⟩).run P w1=.ok (.enter f args.toArray) w1:=by
  obtain⟨fn,hf,hb,hn⟩:=hF;have hb':fn.body.isNone=false:=by cases h:fn.body<;>simp [h] at hb ⊢
  simp only[execOp,resolve,Act.eval,Deferred.ofValue,invoke,callFunc,qnb hx,ea,jag,jae,jaa,jeq,hf,hb',hn,jba,jbs];simp
 unfold Oper.quietAt;rw[hr];refine⟨rfl,(hc w1 hw1).mono fun e w' he=>?_⟩;cases e with
 | returned v'=>obtain⟨h1,h2⟩:=he;exact⟨by rw[h1],h2⟩
 | _=>exact he.elim
theorem q27{f:Nat}{xo:Operand}{caps:Array Value}{l:List Operand}{args:List Value}{ts:Array TypeId}{v:Value}(hF:qai P f)(hg:qao ops σ n g=true)(hx:(okO n xo&&okOs n l)=true)(ef:ev σ xo=.func (.func f) #[] caps)(ea:evs σ l++caps.toList=args)
  (hc:∀w1,C w1->Calls P f args.toArray w1 (Ret fun v' w'=>v'=v/\C w'))
  (k:wpQuiet P ops C Qp rest (Fr n (upd σ d v))):wpQuiet P ops C Qp (⟨some d,.call ⟨.value xo,l.toArray,ts⟩,ty,pos,aft,g⟩::rest) (Fr n σ):=by
 simp only[jad] at hx;refine wpQuiet_step fun K hK=>?_;rw[qf1 (o:=⟨some d,_,ty,pos,aft,g⟩) hg,jan rfl];refine⟨v,fun w1 hw1=>?_,by show K ((Fr n σ).put (some d) v);rw[qdy];exact hK _ k⟩;have hr:(execOp (Fr n σ).eval ⟨some d,.call ⟨.value xo,l.toArray,ts⟩,ty,pos,aft,g⟩).run P w1=.ok (.enter f args.toArray) w1:=by
  obtain⟨fn,hf,hb,hn⟩:=hF;have hb':fn.body.isNone=false:=by cases h:fn.body<;>simp [h] at hb ⊢
  simp only[execOp,resolve,qat hx.1,ef,Deferred.ofValue,invoke,callFunc,qnb hx.2,<- ea,jag,jae,jaa,jeq,hf,hb',hn,jba,jbs];simp
 unfold Oper.quietAt;rw[hr];refine⟨rfl,(hc w1 hw1).mono fun e w' he=>?_⟩;cases e with
 | returned v'=>obtain⟨h1,h2⟩:=he;exact⟨by rw[h1],h2⟩
 | _=>exact he.elim
end
end Go.Sx
namespace Go.Proofs.YtnhmanoiolfapaaGreat
open Go Go.Sx Go.RowKit Go.Sort Go.Shelf
theorem qxo:qai Tryz.prog 130:=⟨_,Tryz.func130,by kernel_rfl,by kernel_rfl⟩
theorem zjz:Fld Tryz.prog 92 0 0:=Fld.mk (F := ⟨"Key", 3,0, false, "", "", 0⟩) ty92 rfl ty3
def cmpI(a b:Int):Int:=if a<b then -1 else if b<a then 1 else 0
section
attribute [local irreducible] Go.wpList Go.wpQuiet Go.Code.wp
theorem q7i(a:Int)(w:World):Calls Tryz.prog 130 #[.int .i64 a] w (Ret fun v w'=>v=.bool false/\Gr w w'):=by
 refine(enter (l:=[.int .i64 a]) Tryz.func130 rfl Tryz.ntmps130 rfl ?_);refine qal fun K1 hK1=>?_;refine qau ?_;refine qa0 (v:=.bool false) rfl rfl rfl ?_;refine jbe ?_;refine hK1 _ _ ?_;refine qal fun K2 hK2=>?_;refine qau ?_;refine qav (v:=.int .i64 a) rfl rfl rfl ?_;refine qav (v:=.int .i64 a) rfl rfl rfl ?_;refine qzd rfl rfl rfl rfl ?_;refine qa0 (v:=.bool false) rfl rfl (jav Value.bool (jar (fun h=>h rfl))) ?_;refine jbe ?_;refine hK2 _ _ ?_;refine jfb ?_;exact ret1 Tryz.results130 rfl ⟨rfl,Gr.refl w⟩
theorem zhr(a b:Int)(w:World):Calls Tryz.prog 125 #[.int .i64 a,.int .i64 b] w (Ret fun v w'=>v=.int .i64 (cmpI a b)/\Gr w w'):=by
 refine(enter (l:=[.int .i64 a,.int .i64 b]) Tryz.func125 rfl Tryz.ntmps125 rfl ?_);refine qal fun K1 hK1=>?_;refine qau ?_;refine qa0 (v:=.int .i64 0) rfl rfl rfl ?_;refine jbe ?_;refine hK1 _ _ ?_;refine qal fun K2 hK2=>?_;refine qau ?_;refine qav (v:=.int .i64 a) rfl rfl rfl ?_;refine qf7 (l:=[.tmp 7]) (args:=[.int .i64 a]) qxo rfl rfl rfl (q7i a w) ?_;rintro _ w1 ⟨rfl,g1⟩;refine qa0 (v:=.bool false) rfl rfl rfl ?_;refine jbe ?_;refine hK2 _ _ ?_;refine qal fun K3 hK3=>?_;refine qau ?_;refine qav (v:=.int .i64 b) rfl rfl rfl ?_;refine qf7 (l:=[.tmp 9]) (args:=[.int .i64 b]) qxo rfl rfl rfl (q7i b w1) ?_;rintro _ w2 ⟨rfl,g2⟩;refine qa0 (v:=.bool false) rfl rfl rfl ?_;refine jbe ?_;refine hK3 _ _ ?_;refine qal fun K4 hK4=>?_;refine qal fun K5 hK5=>?_;refine qau ?_;refine qav (v:=.bool false) rfl rfl rfl ?_;refine jbe ?_;refine hK5 _ _ ?_;refine qlj rfl rfl ?_;refine je8 ?_;refine hK4 _ _ ?_;refine qal fun K6 hK6=>?_;refine qal fun K7 hK7=>?_;refine qau ?_;refine qav (v:=.bool false) rfl rfl rfl ?_;refine jbe ?_;refine hK7 _ _ ?_;refine qlj rfl rfl ?_;refine je8 ?_;refine hK6 _ _ ?_;refine qal fun K8 hK8=>?_;refine qal fun K9 hK9=>?_;refine qau ?_;refine qav (v:=.int .i64 a) rfl rfl rfl ?_;refine qav (v:=.int .i64 b) rfl rfl rfl ?_;refine qrc rfl rfl rfl rfl ?_;refine jbe ?_;refine hK9 _ _ ?_;refine c_if rfl rfl (fun h=>?_) (fun h=>?_)
 ·refine qal fun KA hKA=>?_;refine qau ?_;refine qa0 (v:=.int .i64 (-1)) rfl rfl rfl ?_;refine jbe ?_;refine hKA _ _ ?_;refine jfb ?_;exact ret1 Tryz.results125 rfl ⟨by unfold cmpI;rw[jan h];rfl,g1.trans g2⟩
 refine je8 ?_;refine hK8 _ _ ?_;refine qal fun KB hKB=>?_;refine qal fun KC hKC=>?_;refine qau ?_;refine qav (v:=.int .i64 a) rfl rfl rfl ?_;refine qav (v:=.int .i64 b) rfl rfl rfl ?_;refine qqs rfl rfl rfl rfl ?_;refine jbe ?_;refine hKC _ _ ?_;refine c_if rfl rfl (fun h2=>?_) (fun h2=>?_)
 ·refine qal fun KA hKA=>?_;refine qau ?_;refine qa0 (v:=.int .i64 1) rfl rfl rfl ?_;refine jbe ?_;refine hKA _ _ ?_;refine jfb ?_;exact ret1 Tryz.results125 rfl ⟨by unfold cmpI;rw[jao h,jan h2];rfl,g1.trans g2⟩
 refine je8 ?_;refine hKB _ _ ?_;refine qal fun KD hKD=>?_;refine qau ?_;refine qa0 (v:=.int .i64 0) rfl rfl rfl ?_;refine jbe ?_;refine hKD _ _ ?_;refine jfb ?_;exact ret1 Tryz.results125 rfl ⟨by unfold cmpI;rw[jao h,jao h2];rfl,g1.trans g2⟩
theorem q2a(x:Int × ByteArray × Bool)(w:World):Calls Tryz.prog 115 #[.agg (encC x).toArray] w (Ret fun v w'=>v=.int .i64 x.1/\Gr w w'):=by
 refine(enter (l:=[.agg (encC x).toArray]) Tryz.func115 rfl Tryz.ntmps115 rfl ?_);refine qal fun K1 hK1=>?_;refine qau ?_;refine qwb (v:=.agg (encC x).toArray) (zs:=encC x) rfl rfl rfl rfl fun β w1 hβ g1 hz1 hx1=>?_;refine qa0 (v:=.int .i64 0) rfl rfl rfl ?_;refine jbe ?_;refine hK1 _ _ ?_;refine qal fun K2 hK2=>?_;refine qau ?_;refine qsq zjz rfl rfl rfl ?_;refine qgh (v:=.int .i64 x.1) ty3 rfl rfl rfl rfl hx1 rfl ?_;refine qa0 (v:=.int .i64 x.1) rfl rfl rfl ?_;refine jbe ?_;refine hK2 _ _ ?_;refine jfb ?_;exact ret1 Tryz.results115 rfl ⟨rfl,g1⟩
theorem za6(x y:Int × ByteArray × Bool){b:Nat}{w:World}(hb:w.cell? ⟨b,0,none⟩=some (.func (.func 115) #[] #[])) :
  Calls Tryz.prog 124 #[.agg (encC x).toArray,.agg (encC y).toArray,.pointer (some ⟨b,0,none⟩)] w (Ret fun v w'=>v=.int .i64 (cmpI x.1 y.1)/\Gr w w'):=by
 refine(enter (l:=[.agg (encC x).toArray,.agg (encC y).toArray,.pointer (some ⟨b,0,none⟩)]) Tryz.func124 rfl Tryz.ntmps124 rfl ?_);refine qal fun K1 hK1=>?_;refine qau ?_;refine qwb (v:=.agg (encC x).toArray) (zs:=encC x) rfl rfl rfl rfl fun β1 w1 hβ1 g1 hz1 hx1=>?_;refine qwb (v:=.agg (encC y).toArray) (zs:=encC y) rfl rfl rfl rfl fun β2 w2 hβ2 g2 hz2 hx2=>?_;refine qa0 (v:=.int .i64 0) rfl rfl rfl ?_;refine jbe ?_;refine hK1 _ _ ?_;have hx1':=hx1.mono0 g2.upd;have hb2:=(g1.trans g2).upd.cell hb;refine qal fun K2 hK2=>?_;refine wp_region_quiet (C:=Gr w2) mixed (by kernel_rfl) (Gr.drew w2) ?_;refine qlm (v:=.func (.func 115) #[] #[]) rfl rfl rfl (fun wq gq=>qqb qu4 rfl rfl rfl rfl (gq.upd.cell hb2) q1) ?_;refine qlm (v:=.agg (encC x).toArray) rfl rfl rfl (fun wq gq=>qwx (ds:=encC x) ty92 rfl rfl rfl rfl (hx1'.mono0 gq.upd) rfl rfl q1) ?_;refine q27 (f:=115) (l:=[.tmp 7]) (args:=[.agg (encC x).toArray]) (v:=.int .i64 x.1) q61 rfl rfl rfl rfl (fun wq gq=>(q2a x wq).mono fun e w' h=>by
  cases e with
  | returned v=>exact⟨h.1,gq.trans h.2⟩
  | _=>exact h.elim) ?_
 refine qlm (v:=.func (.func 115) #[] #[]) rfl rfl rfl (fun wq gq=>qqb qu4 rfl rfl rfl rfl (gq.upd.cell hb2) q1) ?_;refine qlm (v:=.agg (encC y).toArray) rfl rfl rfl (fun wq gq=>qwx (ds:=encC y) ty92 rfl rfl rfl rfl (hx2.mono0 gq.upd) rfl rfl q1) ?_;refine q27 (f:=115) (l:=[.tmp 10]) (args:=[.agg (encC y).toArray]) (v:=.int .i64 y.1) q61 rfl rfl rfl rfl (fun wq gq=>(q2a y wq).mono fun e w' h=>by
  cases e with
  | returned v=>exact⟨h.1,gq.trans h.2⟩
  | _=>exact h.elim) ?_
 refine zdc (f:=125) (l:=[.tmp 8,.tmp 11]) (args:=[.int .i64 x.1,.int .i64 y.1]) (v:=.int .i64 (cmpI x.1 y.1)) zdl rfl rfl rfl (fun wq gq=>(zhr x.1 y.1 wq).mono fun e w' h=>by
  cases e with
  | returned v=>exact⟨h.1,gq.trans h.2⟩
  | _=>exact h.elim) ?_
 refine qlm (v:=.int .i64 (cmpI x.1 y.1)) rfl rfl rfl (fun wq gq=>qa0 (v:=.int .i64 (cmpI x.1 y.1)) rfl rfl rfl q1) ?_;refine wpQuiet_nil fun w3 g3=>?_;refine hK2 _ _ ?_;refine jfb ?_;exact ret1 Tryz.results124 rfl ⟨rfl,(g1.trans g2).trans g3⟩
end
end Go.Proofs.YtnhmanoiolfapaaGreat
end

section
set_option maxRecDepth 100000
namespace Go.Proofs.YtnhmanoiolfapaaGreat
open Go Go.Sx Go.RowKit Go.Sort Go.Shelf
abbrev DC:Type:=Int × ByteArray × Bool
instance:Dat DC where
 sz:=3
 enc _ _ cs x:=cs=encC x
 len h:=by rw[h];rfl
 mono h _:=h
 ones h:=by rw[h];rfl
theorem zlh{w:World}{a:Option Addr}{cap:Nat}{l:List DC}(hS:SL [] w a cap l)(hl:l.length<=1000):Calls Tryz.prog 122 #[.slice a l.length cap] w (Ret fun v w'=>∃a' c' m',v=.slice a' l.length c'/\Go.Sx.Own m' [] w' a' c' l/\Evo [] w m' w'):=by
 have hM:Lo [] w:=fun b hb=>by cases hb
 refine enter (l:=[.slice a l.length cap]) Tryz.func122 rfl Tryz.ntmps122 rfl ?_;refine qal fun KhK1 hK1=>?_;refine qau ?_;refine qa0 (v:=.slice none 0 0) rfl rfl rfl ?_;refine jbe ?_;refine hK1 _ _ ?_;refine qal fun KhK2 hK2=>?_;refine qal fun KhK3 hK3=>?_;refine qau ?_;refine qav (v:=.slice a l.length cap) rfl rfl rfl ?_;refine qr3 ty35 rfl rfl rfl rfl ?_;refine jbe ?_;refine hK3 _ _ ?_;refine qp2 rfl rfl (fun hb4=>?_) (fun hb4=>?_)
 ·obtain rfl:=hS.isNone hb4;refine qal fun KhK5 hK5=>?_;refine qau ?_;refine qa0 (v:=.slice none 0 0) rfl rfl rfl ?_;refine jbe ?_;refine hK5 _ _ ?_;refine jfb ?_;exact ret1 Tryz.results122 rfl ⟨none,0,[],rfl,Go.Sx.Own.nil,Evo.refl [] w⟩
 ·refine je8 ?_;refine hK2 _ _ ?_;refine qal fun KhK7 hK7=>?_;refine qau ?_;refine qsj (α:=DC) (m:=[]) (M:=[]) ty35 ty92 rfl (hM.mono (Evo.refl [] w).size) fun β14 w15 hβ16 u17 hz18 ho19=>?_;have e20:=u17.evoN (m:=[]) hβ16 hz18;refine qav (v:=.slice a l.length cap) rfl rfl rfl ?_;refine qny (l:=([]:List DC)) ty35 ty35 ty92 rfl rfl rfl rfl rfl rfl rfl ho19 (hS.mono (e20.tr [])) (hM.mono e20.size) (by show (0+l.length)*32<=140737488355328;omega) fun a22 c23 w24 m25 ho26 e27 u28 hbk29 hsub30=>?_;refine qa0 (v:=.slice a22 (([]:List DC)++l).length c23) rfl rfl rfl ?_;refine jbe ?_;refine hK7 _ _ ?_;refine jfb ?_;exact ret1 Tryz.results122 rfl ⟨a22,c23,m25,rfl,ho26,e20.trans e27⟩
theorem zgc{w:World}{g off n:Nat}{d:Array DC}{os:Array Obj}:Upd [g] w (sortWorldK encC 3 w g off n d os):=by
 refine⟨rfl,rfl,rfl,?_,fun b hb hn=>?_⟩
 ·show w.heap.size<=((w.heap.modify g _)++os).size;simp
 ·show ((w.heap.modify g _)++os)[b]?=_;rw[jeg (by simpa using hb),jc9,jao (by simp at hn;omega)]
theorem zow:SWO (ltOf fun x y:DC=>cmpI x.1 y.1):=by
 have e:∀x y:DC,ltOf (fun x y:DC=>cmpI x.1 y.1) x y=decide (x.1<y.1):=fun x y=>by
  unfold ltOf cmpI;by_cases h1:x.1<y.1
  ·simp[h1]
  ·by_cases h2:y.1<x.1<;>simp [h1,h2]
 refine⟨fun x=>?_,fun x y z h1 h2=>?_,fun x y z h1 h2=>?_⟩
 ·rw[e];simp
 ·rw[e] at *;simp only[jcc] at *;omega
 ·rw[e] at *;simp only[jex] at *;omega
def RowC(b0:Nat)(w:World)(a:Option Addr)(cap:Nat)(l:List DC):Prop :=
 (l.length<=cap/\cap<9223372036854775808)/\(l=[]\/∃g,a=some ⟨g,0,none⟩/\b0<=g/\∀i (h:i<l.length) j,j<3->w.cell? ⟨g,i*3+j,none⟩=(encC l[i])[j]?)
def qqx(l:List DC):Prop:=∀(i j:Nat) (hi:i<l.length) (hj:j<l.length),i<j->¬(l[j]).1<(l[i]).1
section
attribute [local irreducible] Go.wpList Go.wpQuiet Go.Code.wp
theorem znd{w:World}{a:Option Addr}{cap:Nat}{l:List DC}(hS:SL [] w a cap l)(hl:l.length<=1000) :
  Calls Tryz.prog 114 #[.slice a l.length cap,.func (.func 115) #[] #[]] w (Ret fun v w'=>∃a' c' l',v=.slice a' l'.length c'/\(List.Perm l' l/\qqx l')/\RowC w.heap.size w' a' c' l'/\Upd [] w w'):=by
 refine enter (l:=[.slice a l.length cap,.func (.func 115) #[] #[]]) Tryz.func114 rfl Tryz.ntmps114 rfl ?_;refine qal fun K1 hK1=>?_;refine qau ?_;refine zlr (v:=.func (.func 115) #[] #[]) (zs:=[.func (.func 115) #[] #[]]) rfl rfl rfl rfl fun βt w1 hβ1 u1 hz1 hx1=>?_;refine qa0 (v:=.slice none 0 0) rfl rfl rfl ?_;refine jbe ?_;refine hK1 _ _ ?_;refine qal fun K2 hK2=>?_;refine qau ?_;refine qav (v:=.slice a l.length cap) rfl rfl rfl ?_;refine qf7 (l:=[.tmp 6]) (args:=[.slice a l.length cap]) zpz rfl rfl rfl (zlh (hS.mono u1.tr0) hl) ?_;rintro _ w2 ⟨a2,c2,m2,rfl,ho2,e2⟩;refine qa0 (v:=.slice a2 l.length c2) rfl rfl rfl ?_;refine jbe ?_;refine hK2 _ _ ?_;have u2:=e2.old;have hx2:=hx1.mono0 u2;have hold:Upd [] w w2:=u1.trans u2;refine qal fun K3 hK3=>?_;refine qau ?_;refine qav (v:=.slice a2 l.length c2) rfl rfl rfl ?_;refine zit (vs:=[.pointer (some ⟨βt,0,none⟩)]) rfl rfl rfl ?_;have hsort:Calls Tryz.prog 123 #[.slice a2 l.length c2,.func (.func 124) #[] #[.pointer (some ⟨βt,0,none⟩)]] w2 (Ret fun v w'=>∃l',l'.length=l.length/\(List.Perm l' l/\qqx l')/\RowC w.heap.size w' a2 c2 l'/\Upd [] w w'):=by
  rcases ho2 with ⟨rfl,rfl,rfl⟩|⟨g,cells,rfl,hgm,_,hbx,hcl,hcap,hel⟩
  ·refine(zaq none 0 _ w2).mono fun e w' h=>?_;obtain⟨rfl,rfl⟩:=h;exact⟨[],rfl,⟨jfo _,fun i j hi=>by simp at hi⟩,⟨⟨jaq _,by omega⟩,.inl rfl⟩,hold⟩
  ·have hgw:w1.heap.size<=g:=by
    rcases e2.own g hgm with h|h
    ·cases h
    ·exact h
   have hne:βt≠g:=by have:=hx1.lt;omega
   have hcl2:l.length*3<=cells.length:=by rw[hcl];show _<=c2*3;omega
   have hcell:∀i (h:i<l.length) j,j<3->cells[i*3+j]?=(encC l[i])[j]?:=fun i h j hj=>by
    obtain⟨cs,h1,h2⟩:=hel i h;have h1:cs=encC l[i]:=h1;rw[<- h1];exact h2 j hj
   have hfz:∀o,w2.frozen? ⟨g,o,none⟩=false:=fun o=>by
    obtain⟨t,ht⟩:=hbx;simp[World.frozen?,ht]
   have hH:HoldsK encC 3 w2 g 0 l.toArray:=fun t ht=>by
    rw[size_flatK] at ht;refine⟨?_,by rw[hfz]⟩;have ht3:t<l.length*3:=by simpa using ht
    rw[jbm,hbx.cell,get_flatK encC 3 l.toArray t (by simpa using ht3)];have h1:t / 3<l.length:=by omega
    have h2:=hcell (t / 3) h1 (t % 3) (by omega);rw[show t / 3*3+t % 3=t by omega] at h2;rw[h2];have e3:(l.toArray)[t / 3]! = l[t / 3]:=by simp[h1]
    rw[e3];have h4:t % 3<(encC l[t / 3]).length:=by show t % 3<3;omega
    rw[jac h4];show _=some ((encC l[t / 3])[t % 3]!);rw[je6 (encC l[t / 3]) (t % 3) h4]
   have hbt:w2.cell? ⟨βt,0,none⟩=some (.func (.func 115) #[] #[]):=by rw[hx2.cell];rfl
   have eg:∀args w,(callFunc 124 args).run Tryz.prog w=.ok (.enter 124 args) w:=enters_of Tryz.func124 (by kernel_rfl) rfl;have hcmp:CmpLays Tryz.prog 124 #[.pointer (some ⟨βt,0,none⟩)] encC 3 (fun x y:DC=>cmpI x.1 y.1) g 0 l.toArray.size w2:=fun m os dk hs x y=>by
    refine(za6 x y (b:=βt) ?_).mono fun e w' h=>?_
    ·rw[cell?_sortWorldK_other encC 3 w2 g 0 m dk os ⟨βt,0,none⟩ hne hx2.lt];exact hbt
    ·cases e with
     | returned v=>obtain⟨rfl,q,os',h2⟩:=h;exact⟨rfl,q,os',h2⟩
     | _=>exact h.elim
   have hcon:=zre (fun x y:DC=>cmpI x.1 y.1) zow 124 #[.pointer (some ⟨βt,0,none⟩)] g 0 c2 l.toArray w2 eg hcmp hH hbx.lt (by simp;omega);have el:l.toArray.size=l.length:=by simp
   rw[el] at hcon;refine hcon.mono fun e w' h=>?_;obtain⟨rfl,d',n,os,hp,hs,rfl⟩:=h;obtain⟨hp1,_,hp3⟩:=hp;have hd:d'.toList.length=l.length:=by rw[jdr,hp1,el]
   have hd2:d'.size=l.length:=by rw[hp1,el]
   have hperm:List.Perm d'.toList l:=by
    have e1:d'.extract 0 l.length=d':=by rw[<- hd2];exact Array.extract_size
    have e2:l.toArray.extract 0 l.length=l.toArray:=by rw[<- el];exact Array.extract_size
    rw[e1,e2] at hp3;exact hp3
   have hH2:=holdsK_sortWorldK_c encC 3 w2 g 0 l.toArray d' n os hH hbx.lt hp1;refine⟨d'.toList,hd,⟨hperm,fun i j hi hj hij=>?_⟩,⟨⟨by rw[hd];exact hcap.1,hcap.2⟩,.inr ⟨g,rfl,jbk u1.size hgw,fun i hi j hj=>?_⟩⟩,hold.old_upd zgc (jbk u1.size hgw)⟩
   ·have:=hs i j (jb8 _) hij (by rw[<- hd];exact hj);have hi':i<d'.size:=by simpa using hi
    have hj':j<d'.size:=by simpa using hj
    rw[je6 d' i hi',je6 d' j hj'] at this;unfold ltOf cmpI at this;simp only[jex] at this;show ¬(d'.toList[j]).1<(d'.toList[i]).1;rw[jfc,jfc];intro hlt;rw[jan hlt] at this;omega
   ·have hi':i<d'.size:=by simpa using hi
    have ht:i*3+j<(flatK encC 3 d').size:=by rw[size_flatK];omega
    have:=(hH2 (i*3+j) ht).1;rw[jbm] at this;rw[this,get_flatK encC 3 d' (i*3+j) (by omega)];have e1:(i*3+j) / 3=i:=by omega
    have e2:(i*3+j) % 3=j:=by omega
    rw[e1,e2,je6 d' i hi',jfc];have h4:j<(encC d'[i]).length:=hj;rw[jac h4];show some ((encC d'[i])[j]!)=_;rw[je6 (encC d'[i]) j h4]
 refine qf7 (l:=[.tmp 8,.tmp 9]) (args:=[.slice a2 l.length c2,.func (.func 124) #[] #[.pointer (some ⟨βt,0,none⟩)]]) zem rfl rfl rfl hsort ?_;rintro _ w3 ⟨l',hl',hps,hrow,hu⟩;refine jbe ?_;refine hK3 _ _ ?_;refine qal fun K4 hK4=>?_;refine qau ?_;refine qav (v:=.slice a2 l.length c2) rfl rfl rfl ?_;refine qa0 (v:=.slice a2 l.length c2) rfl rfl rfl ?_;refine jbe ?_;refine hK4 _ _ ?_;refine jfb ?_;exact ret1 Tryz.results114 rfl ⟨a2,c2,l',by rw[hl'];rfl,hps,hrow,hu⟩
end
end Go.Proofs.YtnhmanoiolfapaaGreat
end

section
set_option maxRecDepth 100000
namespace Go.Sx
open Go Go.RowKit
section
variable {P : Program} {w : World}
theorem zep{ty:TypeId}{β bm since c0:Nat}{seen:Array Nat}{es:Array MapEntry}{clock:Nat}(hi:w.heap[β]?=some (.mapIter (some bm) since seen c0))(hb:w.heap[bm]?=some (.map es clock))(hold:∀x∈es.toList,x.born<since)(hsc:since<=c0) :
  ((leftOf es seen).size=0/\(Instr.next (.pointer (some ⟨β,0,none⟩)) false ty).run P w=.ok (.tuple #[.bool false]) w) \/
  ∃e∈(leftOf es seen).toList,∃w1:World,Upd [β] w w1/\w1.heap[β]?=some (.mapIter (some bm) since (seen.push e.born) clock)/\(Instr.next (.pointer (some ⟨β,0,none⟩)) false ty).run P w=.ok (.tuple #[.bool true,e.key,e.val]) w1:=by
 have hlt:=qas hi;simp only[Instr.next,getObj,jag,Sem.run,hi,hb,Result.andThen,next_test_false seen es since c0 hold hsc,jba,jbs];unfold leftOf;have hmem:∀x∈(Array.filter (fun e=>!seen.contains e.born) es).toList,x.born<since:=fun x hx=>hold x (by simp at hx ⊢;exact hx.1);generalize Array.filter (fun e=>!seen.contains e.born) es=L at hmem ⊢;have e1:L.filter (fun x=>decide (x.born<since))=L:=Array.filter_eq_self.2 (fun x hx=>by simpa using hmem x (by simpa using hx));have e2:L.filter (fun x=>decide (x.born ≥ since))=#[]:=by
  rw[Array.filter_eq_empty_iff];intro x hx;have:=hmem x (by simpa using hx);simp;omega
 simp only[e1,e2,Array.append_empty];by_cases h0:L.size=0
 ·left;have:L=#[]:=jc4 h0;subst this;refine⟨rfl,?_⟩;simp[choose,Sem.run,Question.forced]
 ·right;have hne:L.isEmpty=false:=by simp[Array.isEmpty,h0]
  simp only[hne,jba,jbs,Array.empty_append,Array.size_map];have hch:∃(j:Nat) (w1:World),j<L.size/\w1.Alike w/\w1.tape=w.tape/\(choose (Question.mapNext L.size)).run P w=.ok j w1:=by
   by_cases hf:L.size<=1
   ·exact⟨0,w,by omega,⟨rfl,rfl,rfl⟩,rfl,by simp[choose,Sem.run,Question.forced,hf]⟩
   ·exact⟨_,{ w with drawn:=w.drawn+1 },jc1 _ (by omega),⟨rfl,rfl,rfl⟩,rfl,by
     simp only[choose,Sem.run,Question.forced,jcc,hf,jbs,Question.cut];rfl⟩
  obtain⟨j,w1,hj,hal,htp,hrun⟩:=hch;have hi1:w1.heap[β]?=some (.mapIter (some bm) since seen c0):=by rw[hal.1];exact hi
  refine⟨L[j],by simp,{ w1 with heap:=w1.heap.setIfInBounds β (.mapIter (some bm) since (seen.push L[j].born) clock) },⟨hal.2.1,htp,hal.2.2,?_,fun b hb hn=>?_⟩,?_,?_⟩
  ·show w.heap.size<=(w1.heap.setIfInBounds β _).size;rw[Array.size_setIfInBounds,hal.1];exact jaq _
  ·show (w1.heap.setIfInBounds β _)[b]?=_;rw[Array.getElem?_setIfInBounds,jao (by simp at hn;omega),hal.1]
  ·show (w1.heap.setIfInBounds β _)[β]?=_;rw[Array.getElem?_setIfInBounds,jan rfl,jan (by rw[hal.1];exact hlt)]
  ·simp only[hrun,Array.getElem?_map,jco hj,jc5,jag,setObj,Sem.run,hi1,Result.andThen];rfl
theorem zd4{β bm since:Nat}{seen:Array Nat}{es:Array MapEntry}{clock:Nat}{e:MapEntry}(hi:w.heap[β]?=some (.mapIter (some bm) since (seen.push e.born) clock))(hb:w.heap[bm]?=some (.map es clock))(he:e∈es.toList)(hn:(es.toList.map (·.born)).Nodup) :
  (Instr.entry (.pointer (some ⟨β,0,none⟩))).run P w=.ok (.tuple #[e.key,e.val]) w:=by
 have hf:es.find? (·.born==e.born)=some e:=by rw[<- Array.find?_toList];exact find_born e es.toList hn he
 simp only[Instr.entry,getObj,jag,Sem.run,hi,hb,Result.andThen,Array.back?_push,bne_self_eq_false,jba,jbs,hf];rfl
end
section
variable {P : Program} {n : Nat} {σ : Nat -> Value} {w : World} {Q : Exit -> Act -> World -> Prop} {ops : Array Oper} {rest : List Oper} {d : Nat} {ty : TypeId} {pos : String} {aft : Array Edge} {g : Option (Nat × Bool)} {T : TypeId} {x : Operand}
theorem zf6{K E:TypeId}{bm:Nat}{es:Array MapEntry}{clock:Nat}(hT:P.underlying T=some (.map K E))(hb:w.heap[bm]?=some (.map es clock))(hg:qao ops σ n g=true)(hx:okO n x=true)(ex:ev σ x=.map (some bm))
  (k:∀β w',w.heap.size=β->Upd [] w w'->w'.heap[β]?=some (.mapIter (some bm) clock #[] clock)->wpList P ops Q rest (Fr n (upd σ d (.pointer (some ⟨β,0,none⟩)))) w'):wpList P ops Q (⟨some d,.range T x,ty,pos,aft,g⟩::rest) (Fr n σ) w :=
 qa6 hg (by simp only[execOp,qat hx,ex,run_range_map w T K E bm es clock hT hb,jag,jae,jaa]) (k _ _ rfl (Upd.alloc _ _) (jcr _ _))
theorem zax{β bm since c0:Nat}{seen:Array Nat}{es:Array MapEntry}{clock:Nat}(hi:w.heap[β]?=some (.mapIter (some bm) since seen c0))(hb:w.heap[bm]?=some (.map es clock))(hold:∀x∈es.toList,x.born<since)(hsc:since<=c0)
  (hg:qao ops σ n g=true) (hx:okO n x=true) (ex:ev σ x=.pointer (some ⟨β,0,none⟩))
  (k0:(leftOf es seen).size=0->wpList P ops Q rest (Fr n (upd σ d (.tuple #[.bool false]))) w)
  (k1:∀e w1,e∈(leftOf es seen).toList->Upd [β] w w1->w1.heap[β]?=some (.mapIter (some bm) since (seen.push e.born) clock)->wpList P ops Q rest (Fr n (upd σ d (.tuple #[.bool true,e.key,e.val]))) w1) :
  wpList P ops Q (⟨some d,.next x false,ty,pos,aft,g⟩::rest) (Fr n σ) w:=by
 rcases zep (P:=P) (ty:=ty) hi hb hold hsc with ⟨h1,h2⟩|⟨e,he,w1,h1,h2,h3⟩
 ·exact qa6 hg (by simp only[execOp,qat hx,ex,h2,jag,jae,jaa]) (k0 h1)
 ·exact qa6 hg (by simp only[execOp,qat hx,ex,h3,jag,jae,jaa]) (k1 e w1 he h1 h2)
theorem zpy{β bm since:Nat}{seen:Array Nat}{es:Array MapEntry}{clock:Nat}{e:MapEntry}(hi:w.heap[β]?=some (.mapIter (some bm) since (seen.push e.born) clock))(hb:w.heap[bm]?=some (.map es clock))(he:e∈es.toList)(hn:(es.toList.map (·.born)).Nodup)
  (hg:qao ops σ n g=true) (hx:okO n x=true) (ex:ev σ x=.pointer (some ⟨β,0,none⟩)) (k:wpList P ops Q rest (Fr n (upd σ d (.tuple #[e.key,e.val]))) w) :
  wpList P ops Q (⟨some d,.entry x,ty,pos,aft,g⟩::rest) (Fr n σ) w :=
 qa6 hg (by simp only[execOp,qat hx,ex,zd4 (P:=P) hi hb he hn,jag,jae,jaa]) k
end
theorem zqe{es:Array MapEntry}{seen:Array Nat}{e:MapEntry}(hn:(es.toList.map (·.born)).Nodup)(he:e∈(leftOf es seen).toList):List.Perm (leftOf es seen).toList (e::(leftOf es (seen.push e.born)).toList):=by
 have h1:(leftOf es (seen.push e.born)).toList=(leftOf es seen).toList.filter fun x=>!(x.born==e.born):=by
  unfold leftOf;rw[jd3,jd3,List.filter_filter];congr 1;funext x;rw[Array.contains_push];cases seen.contains x.born<;>cases hx:(e.born==x.born)<;>simp_all [BEq.comm]
 rw[h1];have hn2:((leftOf es seen).toList.map (·.born)).Nodup:=by
  unfold leftOf;rw[jd3];exact hn.sublist (List.filter_sublist.map _)
 generalize (leftOf es seen).toList=L at he hn2;induction L with
 | nil=>cases he
 | cons x L ih =>
  obtain⟨n1,n2⟩:=jcl.1 hn2;rcases jau.1 he with rfl|he
  ·have:(e::L).filter (fun x=>!(x.born==e.born))=L:=by
    rw[List.filter_cons_of_neg (by simp)];refine List.filter_eq_self.2 fun y hy=>?_;have:y.born≠e.born:=fun e'=>n1 (jb9.2 ⟨y,hy,e'⟩);simpa using this
   rw[this]
  ·have hne:x.born≠e.born:=fun e'=>n1 (jb9.2 ⟨e,he,e'.symm⟩);rw[List.filter_cons_of_pos (by simpa using hne)];exact((ih he n2).cons x).trans (List.Perm.swap e x _)
end Go.Sx
namespace Go.Proofs.YtnhmanoiolfapaaGreat
open Go Go.Sx Go.RowKit Go.Sort Go.Shelf
def qbl(e:MapEntry):DC:=(match e.key with|.int _ k=>k|_=>0,match e.val with|.string s=>s|_=>⟨#[]⟩,false)
theorem zi7:Szs Tryz.prog 92 [(0,1),(1,1),(2,1)]:=Go.Jx.szs_of ttOK (ty:=92) rfl rfl rfl
section
attribute [local irreducible] Go.wpList Go.wpQuiet Go.Code.wp
theorem zd7{w:World}{bm:Nat}{es:Array MapEntry}{clock:Nat}(hb:w.heap[bm]?=some (.map es clock))(hn:(es.toList.map (·.born)).Nodup)(hold:∀x∈es.toList,x.born<clock)(hkv:∀e∈es.toList,e.key=.int .i64 (qbl e).1/\e.val=.string (qbl e).2.1)(hl:es.size<=1000) :
  Calls Tryz.prog 98 #[.map (some bm)] w (Ret fun v w'=>∃a' c' l',v=.slice a' l'.length c'/\(List.Perm l' (es.toList.map qbl)/\qqx l')/\RowC w.heap.size w' a' c' l'/\Upd [] w w'):=by
 have hltm:=qas hb;refine enter (l:=[.map (some bm)]) Tryz.func98 rfl Tryz.ntmps98 rfl ?_;refine qal fun K1 hK1=>?_;refine qau ?_;refine qa0 (v:=.slice none 0 0) rfl rfl rfl ?_;refine jbe ?_;refine hK1 _ _ ?_;refine qal fun K2 hK2=>?_;refine qau ?_;refine qa0 (v:=.slice none 0 0) rfl rfl rfl ?_;refine jbe ?_;refine hK2 _ _ ?_;refine qal fun K3 hK3=>?_;refine qal fun K4 hK4=>?_;refine qau ?_;refine qav (v:=.map (some bm)) rfl rfl rfl ?_;refine zf6 q4c.und hb rfl rfl rfl fun β w1 hβ u1 hi1=>?_;refine jbe ?_;refine hK4 _ _ ?_;have hb1:w1.heap[bm]?=some (.map es clock):=(u1.same bm hltm (by simp)).trans hb;have hM0:Lo ([]:List Nat) w1:=fun b hb=>by cases hb
 have hperm0:(leftOf es #[]).toList=es.toList:=by
  unfold leftOf;rw[jd3];exact List.filter_eq_self.2 fun x _=>by simp
 refine wp_block ?_;refine qt9 (X:=(Array Nat × List DC) × (Option Addr × Nat × List Nat)) (3::4::5::(List.range 19).drop 8) (fun x=>[(3,.slice x.2.1 x.1.2.length x.2.2.1)])
  (fun x wi=>(wi.heap[β]?=some (.mapIter (some bm) clock x.1.1 clock)/\wi.heap[bm]?=some (.map es clock))/\List.Perm (x.1.2++(leftOf es x.1.1).toList.map qbl) (es.toList.map qbl)/\Go.Sx.Own x.2.2.2 [] wi x.2.1 x.2.2.1 x.1.2/\(β∈x.2.2.2/\(∀b∈blk x.2.1,β<b)/\∀b∈x.2.2.2,b<wi.heap.size)/\Upd [] w wi)
  (fun x=>(leftOf es x.1.1).size) ((#[],[]),(none,0,[β])) ⟨rfl,trivial⟩ ⟨⟨hi1,hb1⟩,by rw[hperm0];exact jfo _,Go.Sx.Own.nil,⟨by simp,fun b hb=>(by cases hb),fun b hb=>by rw[jb7.1 hb];exact qas hi1⟩,u1⟩ ?_
 rintro⟨⟨seen,out⟩,ao,co,mo⟩ τ w2 ⟨⟨hi2,hb2⟩,hp2,ho2,hm2,hu2⟩;have hlo:out.length<=es.size:=by
  have:=hp2.length_eq;simp only[jaf,jby,jdr] at this;omega
 refine qal fun K5 hK5=>?_;refine qau ?_;refine zax hi2 hb2 hold (jaq _) rfl rfl rfl (fun h0=>?_) (fun e w3 he hu3 hi3=>?_)
 ·refine qis (v:=.bool false) rfl rfl rfl rfl ?_;refine jbe ?_;refine hK5 _ _ ?_;refine qal fun K6 hK6=>?_;refine qlj rfl rfl ?_;refine wp_exit ?_;refine hK3 _ _ ?_;have hnil:(leftOf es seen).toList=[]:=by
   have:leftOf es seen=#[]:=jc4 h0;rw[this]
  rw[hnil,List.map_nil,jbl] at hp2;have hold2:Upd [] w w2:=hu2;refine qal fun K7 hK7=>?_;refine qau ?_;refine qav (v:=.slice ao out.length co) rfl rfl rfl ?_;refine qf7 (l:=[.tmp 19,.func 115]) (args:=[.slice ao out.length co,.func (.func 115) #[] #[]]) zhh rfl rfl rfl (znd (ho2.shut (N:=[]) (fun b hb=>by cases hb) (fun b _=>by simp)) (by omega)) ?_;rintro _ w4 ⟨a',c',l',rfl,⟨hps,hso⟩,hrow,hu4⟩;refine qa0 (v:=.slice a' l'.length c') rfl rfl rfl ?_;refine jbe ?_;refine hK7 _ _ ?_;refine jfb ?_;refine ret1 Tryz.results98 rfl ⟨a',c',l',rfl,⟨hps.trans hp2,hso⟩,⟨hrow.1,?_⟩,hold2.trans hu4⟩;rcases hrow.2 with h|⟨g,h1,h2,h3⟩
  ·exact .inl h
  ·exact .inr ⟨g,h1,jbk hold2.size h2,h3⟩
 ·refine qis (v:=.bool true) rfl rfl rfl rfl ?_;refine jbe ?_;refine hK5 _ _ ?_;refine qal fun K6 hK6=>?_;refine q7w rfl rfl ?_;refine je8 ?_;refine hK6 _ _ ?_;have hein:e∈es.toList:=by
   unfold leftOf at he;rw[jd3] at he;exact(jcm.1 he).1
  obtain⟨hk,hv⟩:=hkv e hein;have hbm3:bm≠β:=by omega
  have hb3:w3.heap[bm]?=some (.map es clock):=(hu3.same bm (qas hb2) (by simpa using hbm3)).trans hb2;refine wp_block ?_;refine qal fun K7 hK7=>?_;refine qau ?_;refine zpy hi3 hb3 hein hn rfl rfl rfl ?_;rw[hk,hv];refine qis (v:=.int .i64 (qbl e).1) rfl rfl rfl rfl ?_;refine qis (v:=.string (qbl e).2.1) rfl rfl rfl rfl ?_;refine qa0 (v:=.int .i64 (qbl e).1) rfl rfl rfl ?_;refine qa0 (v:=.string (qbl e).2.1) rfl rfl rfl ?_;refine jbe ?_;refine hK7 _ _ ?_;have hlp:=zqe hn he;have hsz:(leftOf es seen).size=(leftOf es (seen.push e.born)).size+1:=by
   have:=hlp.length_eq;simpa using this
  have hu03:Upd [] w w3:=Upd.old_upd hu2 hu3 (by omega);have hM3:Lo ([]:List Nat) w3:=fun b hb=>by cases hb
  have hev3:Evo mo w2 mo w3:=hu3.evo (by intro b hb;simp at hb;rw[hb];exact hm2.1);have ho3:Go.Sx.Own mo [] w3 ao co out:=ho2.mono hu3 (fun b hb=>by have:=hm2.2.1 b hb;simp;omega) hev3 (ho2.mem);refine qau ?_;refine qav (v:=.slice ao out.length co) rfl rfl rfl ?_;refine qav (v:=.int .i64 (qbl e).1) rfl rfl rfl ?_;refine qav (v:=.string (qbl e).2.1) rfl rfl rfl ?_;refine zby (r:=encC (qbl e)) ty92 zi7 rfl rfl rfl rfl rfl ?_;refine zj1 (r:=encC (qbl e)) ty35 ty92 rfl rfl rfl rfl rfl rfl fun β4 w4 hβ4 hu4 hz4 hx4=>?_;have hβ4':β4 ∉ mo++[]:=fun h=>by
   rw[jbl] at h;have h1:=hm2.2.2 β4 h;have h2:=hu3.size;omega
  have ev4:Evo mo w3 mo w4:=hu4.evo0;have ho4:Go.Sx.Own mo [] w4 ao co out:=ho3.mono hu4 (fun b hb=>by simp) ev4 ho2.mem;have hs4:SL (mo++[]) w4 (some ⟨β4,0,none⟩) 1 [qbl e]:=SL.of_box1 hx4 hβ4' rfl;have hM4:Lo ([]:List Nat) w4:=fun b hb=>by cases hb
  refine qny ty35 ty35 ty92 rfl rfl rfl rfl rfl rfl rfl ho4 hs4 hM4 (by show (out.length+1)*32<=140737488355328;omega) fun a5 c5 w5 m5 ho5 ev5 hu5 hbk5 hsub5=>?_;refine qa0 (v:=.slice a5 (out++[qbl e]).length c5) rfl rfl rfl ?_;refine jbe ?_;have hu04:Upd [] w w4:=hu03.trans hu4;have hi4:w4.heap[β]?=some (.mapIter (some bm) clock (seen.push e.born) clock):=(hu4.same β (qas hi3) (by simp)).trans hi3;have hb4:w4.heap[bm]?=some (.map es clock):=(hu4.same bm (qas hb3) (by simp)).trans hb3;have hnb:∀b∈blk ao,β<b:=hm2.2.1;have hi5:w5.heap[β]?=some (.mapIter (some bm) clock (seen.push e.born) clock):=(hu5.same β (qas hi4) (fun h=>by have:=hnb β h;omega)).trans hi4;have hb5:w5.heap[bm]?=some (.map es clock):=(hu5.same bm (qas hb4) (fun h=>by have:=hnb bm h;omega)).trans hb4;have hlt4:β<w4.heap.size:=qas hi4;refine⟨((seen.push e.born,out++[qbl e]),(a5,c5,m5)),by show (leftOf es (seen.push e.born)).size<(leftOf es seen).size;omega,⟨⟨hi5,hb5⟩,?_,ho5,⟨hsub5 β hm2.1,fun b hb=>?_,?_⟩,⟨hu5.os.trans hu04.os,hu5.tape.trans hu04.tape,hu5.output.trans hu04.output,jbk hu04.size hu5.size,fun x hx hn=>(hu5.same x (jbh hx hu04.size) (fun h=>by have:=hnb x h;omega)).trans (hu04.same x hx hn)⟩⟩,_,rfl,(by repeat first|exact qbb.refl _ _|refine qbb.upd rfl ?_|refine qbb.upds rfl ?_|refine qbb.mix rfl ?_),rfl,trivial⟩
  ·refine List.Perm.trans ?_ hp2;show List.Perm ((out++[qbl e])++(leftOf es (seen.push e.born)).toList.map qbl) (out++(leftOf es seen).toList.map qbl);rw[jay];exact List.Perm.append_left out (hlp.map qbl).symm
  ·rcases hbk5 b hb with h|h
   ·exact hnb b h
   ·omega
  ·exact ev5.lo fun b hb=>jbh (hm2.2.2 b hb) (jbk hu3.size hu4.size)
end
end Go.Proofs.YtnhmanoiolfapaaGreat
end

noncomputable section
set_option maxRecDepth 100000
namespace Go.Proofs.YtnhmanoiolfapaaGreat
open Go Go.Sx Go.RowKit Go.Jx
theorem qod{m:List (Int × ByteArray)}(h:S.mapG m=true):(m.map (·.1)).Nodup/\∀p∈m,(0<=p.1/\p.1<=199)/\p.2.size<=4000:=by
 unfold S.mapG at h;simp only[jad,jcc,jbi] at h;refine⟨h.1,fun p hp=>?_⟩;have:=h.2 p hp;unfold S.inI at this;simp only[jad,jcc] at this;exact⟨this.1,jak this.2⟩
theorem qgc:∀{l:List qaa} {last:Int},S.okGo l last=true->(∀c∈l,last<c.1)/\l.Pairwise (fun a b=>a.1<b.1)
 | [],_,_=>⟨fun c hc=>(by cases hc),List.Pairwise.nil⟩
 | c::l,last,h=>by
  obtain⟨_,_,_,h4,h5⟩:=qbo.1 h;obtain⟨i1,i2⟩:=qgc h5;refine⟨fun x hx=>?_,List.Pairwise.cons i1 i2⟩;rcases jau.1 hx with rfl|hx
  ·exact h4
  ·have:=i1 x hx;omega
theorem q2p{c:qaa}(hg:c.2.2=false):∀{l:List qaa},(∀x∈l,x.1≠c.1)->List.Perm (S.ins1 c l) (c::l)
 | [],_=>by
  show List.Perm (cond c.2.2 [] [c]) _;rw[hg];exact jfo _
 | a::r,h=>by
  show List.Perm (if a.1<c.1 then a::S.ins1 c r else if a.1=c.1 then cond c.2.2 r (c::r) else cond c.2.2 (a::r) (c::a::r)) _;by_cases q1:a.1<c.1
  ·rw[jan q1];exact((q2p hg fun x hx=>h x (ja9 _ hx)).cons a).trans (List.Perm.swap c a r)
  ·rw[jao q1,jao (h a (by simp)),hg];exact jfo _
theorem q1a:∀(m:List (Int × ByteArray)) (c:List qaa),(m.map (·.1)).Nodup->(∀p∈m,((0<=p.1/\p.1<=199)/\p.2.size<=4000)/\∀x∈c,x.1≠p.1)->okS c (-1) ->
  okS (m.foldl (fun c p=>S.ins1 (p.1,p.2,false) c) c) (-1)/\List.Perm (m.foldl (fun c p=>S.ins1 (p.1,p.2,false) c) c) (c++m.map fun p=>(p.1,p.2,false))
 | [],c,_,_,h=>⟨h,by simp⟩
 | p::m,c,hn,hr,h=>by
  obtain⟨n1,n2⟩:=jcl.1 hn;have hp:=hr p (by simp);have h1:=q2p (c:=(p.1,p.2,false)) rfl hp.2;have h2:okS (S.ins1 (p.1,p.2,false) c) (-1):=qkj (p.1,p.2,false) hp.1 h (show (-1:Int)<p.1 by have:=hp.1.1.1;omega);obtain⟨i1,i2⟩:=q1a m (S.ins1 (p.1,p.2,false) c) n2 (fun q hq=>⟨(hr q (ja9 _ hq)).1,fun x hx=>by
   rcases jau.1 (h1.mem_iff.1 hx) with rfl|hx
   ·exact fun e=>n1 (jb9.2 ⟨q,hq,e.symm⟩)
   ·exact(hr q (ja9 _ hq)).2 x hx⟩) h2
  refine⟨i1,i2.trans ?_⟩;refine(h1.append_right _).trans ?_;show List.Perm ((p.1,p.2,false)::(c++m.map fun p=>(p.1,p.2,false))) (c++(p.1,p.2,false)::m.map fun p=>(p.1,p.2,false));exact List.perm_middle.symm
theorem qgq{m:List (Int × ByteArray)}(h:S.mapG m=true):okS (S.listed m) (-1)/\List.Perm (S.listed m) (m.map fun p=>(p.1,p.2,false)):=by
 obtain⟨h1,h2⟩:=qod h;exact q1a m [] h1 (fun p hp=>⟨h2 p hp,fun x hx=>by cases hx⟩) ⟨rfl,fun x hx=>by cases hx⟩
theorem q1l{m:List (Int × ByteArray)}(h:S.mapG m=true):(S.listed m).length=m.length:=(qgq h).2.length_eq.trans (jby _)
theorem zga{m:List (Int × ByteArray)}(h:S.mapG m=true):m.length<=200:=by
 obtain⟨h1,h2⟩:=qgq h;have h3:=qts h1.1 (jbr _);have e:=q1l h;omega
theorem zaj{m:List (Int × ByteArray)}(h:S.mapG m=true){l:List qaa}(hp:List.Perm l (m.map fun p=>(p.1,p.2,false)))(hs:qqx l):l=S.listed m:=by
 obtain⟨h1,h2⟩:=qgq h;obtain⟨n1,n2⟩:=qod h;have hn:(l.map (·.1)).Nodup:=by
  refine(hp.map (·.1)).nodup_iff.2 ?_;rw[jfj];exact n1
 have hle:l.Pairwise (fun a b=>¬b.1<a.1):=List.pairwise_iff_getElem.2 fun i j hi hj hij=>hs i j hi hj hij;have hne:l.Pairwise (fun a b=>a.1≠b.1):=List.pairwise_map.1 hn;have hlt:l.Pairwise (fun a b=>a.1<b.1):=(hle.and hne).imp fun⟨a,b⟩=>by omega
 exact List.Perm.eq_of_pairwise (le:=fun a b:qaa=>a.1<b.1) (fun a b _ _ q1 q2=>absurd q1 (by omega)) hlt (qgc h1.1).2 (hp.trans h2.symm)
theorem qx3:∀m:List (Int × ByteArray),(tmEs (.int .i64) .str m).map (·.1)=m.map fun p=>IV.int .i64 p.1
 | []=>rfl
 | p::m=>jav (IV.int .i64 p.1::·) (qx3 m)
theorem qyi:∀m:List (Int × ByteArray),(tmEs (.int .i64) .str m).map (·.2)=m.map fun p=>IV.str p.2
 | []=>rfl
 | p::m=>jav (IV.str p.2::·) (qyi m)
def usC(L:List qaa)(i j:Nat):Value:=(encC (L.getD i (0,S.none_,false))).getD j .nilFunc
theorem q1t{L:List qaa}{i j:Nat}(h:i<L.length):usC L i j=(encC L[i]).getD j .nilFunc:=by
 unfold usC;rw[jai (l:=L),jac h];rfl
theorem zpn(E:Env)(m:List (Int × ByteArray))(us:List Value)(hG:S.mapG m=true)(p:Pre T0 E (Sc qcq.ps ((some m,()):ElP qcq.ps)))(hv:VRs E [.map 0] us) :
  CallsIn Fence.wide 0 Tryz.prog 98 us.toArray E.w (RetB 1 T0 E (Sc qcq.ps ((some m,()):ElP qcq.ps)) ⟨.lst qac (S.listed m),Sc qcq.ps ((some m,()):ElP qcq.ps),0,0⟩):=by
 obtain⟨u,us',rfl,a1,a2⟩:=VRs.inv (v:=.map 0) (cs:=[]) hv;obtain rfl:us'=[]:=ja2.1 a2.1.symm;have hA:E.A 0:=by cases a1;assumption
 have hu:u=.map (some (E.ρ 0)):=by cases a1;rfl
 subst hu;obtain⟨ents,clock,h1,h2,h3,h4⟩:=p.st.objs 0 trivial hA (.tmap (.int .i64) .str m) rfl;have h2:VRs E (m.map fun p=>IV.int .i64 p.1) (ents.toList.map (·.key)):=by
  rw[qx3] at h2;exact h2
 have h3:VRs E (m.map fun p=>IV.str p.2) (ents.toList.map (·.val)):=by
  rw[qyi] at h3;exact h3
 have hl2:ents.toList.length=m.length:=by
  have:=h2.1;rw[jby,jby] at this;exact this.symm
 have hel:∀i (hi:i<m.length) (hi2:i<ents.toList.length),ents.toList[i].key=.int .i64 (m[i]).1/\ents.toList[i].val=.string (m[i]).2:=fun i hi hi2=>by
  have q1:=h2.2 i (by rw[jby];exact hi) (by rw[jby];exact hi2);have q2:=h3.2 i (by rw[jby];exact hi) (by rw[jby];exact hi2);simp only[jce] at q1 q2;constructor
  ·generalize ents.toList[i].key=u at q1;cases q1;rfl
  ·generalize ents.toList[i].val=u at q2;cases q2;rfl
 have hkv:∀e∈ents.toList,e.key=.int .i64 (qbl e).1/\e.val=.string (qbl e).2.1:=fun e he=>by
  obtain⟨i,hi,rfl⟩:=jcs.1 he;obtain⟨q1,q2⟩:=hel i (by omega) hi;unfold qbl;rw[q1,q2];exact⟨rfl,rfl⟩
 have hmap:ents.toList.map qbl=m.map fun p=>(p.1,p.2,false):=by
  apply List.ext_getElem
  ·simp[hl2]
  ·intro i hi1 hi2;rw[jce,jce];obtain⟨q1,q2⟩:=hel i (by simpa using hi2) (by simpa using hi1);unfold qbl;rw[q1,q2]
 have hlen:=zga hG;refine(jdk.2 (zd7 h1 h4.1 h4.2 hkv (by rw[<- jdr];omega))).mono fun e w' hR=>?_;cases e with
 | returned v =>
  obtain⟨a',c',l',rfl,⟨hp,hs⟩,⟨hc,hrow⟩,hu⟩:=hR;rw[hmap] at hp;obtain rfl:=zaj hG hp hs;obtain⟨p1,p2⟩:=Post.idle p hu;refine⟨_,E.at_ w',rfl,rfl,?_,PostB.of (jdw (qir qcq.ps ((some m,()):ElP qcq.ps)).symm) (fun _ _=>trivial) p1 p2⟩;show VR _ (.lst qac (S.listed m)) _;obtain⟨o1,o2⟩:=qgq hG;have hll:(S.listed m).length<=200:=by have:=q1l hG;omega
  generalize hL:S.listed m=L at hc hrow hll o1 o2;cases L with
  | nil=>exact .lst0 hc.2
  | cons c0 L =>
   rcases hrow with h|⟨g,rfl,hg,hcell⟩
   ·cases h
   have h00:=hcell 0 (by simp) 0 (by omega);obtain⟨cells,t,fz,hh⟩:∃cells t fz,w'.heap[g]?=some (.cells cells t fz):=by
    unfold World.cell? at h00;split at h00
    ·rename_i c t fz h;exact⟨c,t,fz,h⟩
    ·cases h00
   have hcell2:∀i (h:i<(c0::L).length) j,j<3->cells[i*3+j]?=(encC (c0::L)[i])[j]?:=fun i h j hj=>by
    rw[<- hcell i h j hj];simp[World.cell?,hh]
   refine VR.lst (E:=E.at_ w') (c:=qac) (l:=c0::L) (off:=0) (cells:=cells) (t:=t) (fz:=fz) (usC (c0::L)) hc.1 hc.2 (by show (c0::L).length*25<=140737488355328;omega) (fun h=>?_) hh (fun i hi j hj=>?_) (fun i hi j hj=>?_)
   ·have:=p.st.lo g h;omega
   ·show cells[0+i*3+j]?=_;have hj:j<3:=hj;have hi:i<(c0::L:List qaa).length:=hi;rw[jbm,hcell2 i hi j hj,q1t hi,jai,jac (show j<(encC ((c0::L:List qaa)[i]'hi)).length from hj)];rfl
   ·have hj:j<3:=hj;have hi:i<(c0::L:List qaa).length:=hi;have hin:(c0::L)[i]∈(c0::L):=jbj hi;have hpm:(c0::L)[i]∈(m.map fun p=>((p.1,p.2,false):qaa)):=by
     exact o2.mem_iff.1 hin
    obtain⟨q,hq,hqe⟩:=jb9.1 hpm;obtain⟨⟨k1,k2⟩,k3⟩:=(qod hG).2 q hq;show VR _ (cel qac ((c0::L:List qaa)[i]'hi))[j] (usC (c0::L) i j);rw[q1t hi];have hx:∀(x:qaa) (hx:x=(q.1,q.2,false)) (hj':j<(cel qac x).length),VR (E.at_ w') (cel qac x)[j] ((encC x).getD j .nilFunc):=fun x hx hj'=>by
     subst hx;match j,hj with
     | 0,_=>exact .int .i64 q.1 (qfo ⟨by omega,by omega⟩)
     | 1,_=>exact .str q.2 (by omega)
     | 2,_=>exact .bool false
    exact hx _ hqe.symm _
 | _=>exact hR.elim
theorem q91:ConR Tryz.prog 98 qcq:=by
 refine⟨zm8,fun E x us y z hf p hv=>?_⟩;obtain⟨m,u0⟩:=x;cases u0;cases m with
 | none=>cases hf
 | some m =>
 have hf:cond (S.mapG m) (some (((S.listed m,()):ElR qcq.rts),((some m,()):ElP (refs qcq.ps)))) none=some (y,z):=hf;obtain⟨hG,e⟩:=qa8 hf;obtain⟨rfl,rfl⟩:=Prod.mk.inj e;exact zpn E m us hG p hv
abbrev KV:Type:=Int × ByteArray
def ms(k:Int)(v:ByteArray):List KV->List KV
 | []=>[(k,v)]
 | e::es=>if k=e.1 then (k,v)::es else e::ms k v es
def md(k:Int):List KV->List KV
 | []=>[]
 | e::es=>if k=e.1 then es else e::md k es
theorem q70(k:Int)(v:ByteArray):∀m:List KV,(mset (vc:=.str) (.int .i64) k v m:List KV)=ms k v m
 | []=>rfl
 | e::m=>by
  show cond (decide (k=e.1)) ((k,v)::m) (e::(mset (vc:=.str) (.int .i64) k v m:List KV))=if k=e.1 then (k,v)::m else e::ms k v m
  rw[q70 k v m];by_cases h:k=e.1
  ·rw[jal h,jan h];rfl
  ·rw[jar h,jao h];rfl
theorem q7s(k:Int):∀m:List KV,(mdel (vc:=.str) (.int .i64) k m:List KV)=md k m
 | []=>rfl
 | e::m=>by
  show cond (decide (k=e.1)) m (e::(mdel (vc:=.str) (.int .i64) k m:List KV))=if k=e.1 then m else e::md k m
  rw[q7s k m];by_cases h:k=e.1
  ·rw[jal h,jan h];rfl
  ·rw[jar h,jao h];rfl
theorem qpr{k:Int}{v:ByteArray}{p:KV}:∀{m:List KV},(m.map (·.1)).Nodup->(p∈ms k v m↔(p∈m/\p.1≠k)\/p=(k,v))
 | [],_=>by simp[ms]
 | e::m,h=>by
  obtain⟨n1,n2⟩:=jcl.1 h;unfold ms;by_cases hk:k=e.1
  ·rw[jan hk];constructor
   ·intro hp;rcases jau.1 hp with rfl|hp
    ·exact .inr rfl
    ·exact .inl ⟨ja9 _ hp,fun e'=>n1 (jb9.2 ⟨p,hp,e'.trans hk⟩)⟩
   ·rintro(⟨hp,hn⟩|rfl)
    ·rcases jau.1 hp with rfl|hp
     ·exact absurd hk.symm hn
     ·exact ja9 _ hp
    ·exact jb2
  ·rw[jao hk];have ih:=qpr (k:=k) (v:=v) (p:=p) n2;constructor
   ·intro hp;rcases jau.1 hp with rfl|hp
    ·exact .inl ⟨jb2,fun e'=>hk e'.symm⟩
    ·rcases ih.1 hp with ⟨a,b⟩|a
     ·exact .inl ⟨ja9 _ a,b⟩
     ·exact .inr a
   ·rintro(⟨hp,hn⟩|hp)
    ·rcases jau.1 hp with rfl|hp
     ·exact jb2
     ·exact ja9 _ (ih.2 (.inl ⟨hp,hn⟩))
    ·exact ja9 _ (ih.2 (.inr hp))
theorem qox{k:Int}{p:KV}:∀{m:List KV},(m.map (·.1)).Nodup->(p∈md k m↔p∈m/\p.1≠k)
 | [],_=>by simp[md]
 | e::m,h=>by
  obtain⟨n1,n2⟩:=jcl.1 h;unfold md;by_cases hk:k=e.1
  ·rw[jan hk];constructor
   ·intro hp;exact⟨ja9 _ hp,fun e'=>n1 (jb9.2 ⟨p,hp,e'.trans hk⟩)⟩
   ·rintro⟨hp,hn⟩;rcases jau.1 hp with rfl|hp
    ·exact absurd hk.symm hn
    ·exact hp
  ·rw[jao hk];have ih:=qox (k:=k) (p:=p) n2;constructor
   ·intro hp;rcases jau.1 hp with rfl|hp
    ·exact⟨jb2,fun e'=>hk e'.symm⟩
    ·exact⟨ja9 _ (ih.1 hp).1,(ih.1 hp).2⟩
   ·rintro⟨hp,hn⟩;rcases jau.1 hp with rfl|hp
    ·exact jb2
    ·exact ja9 _ (ih.2 ⟨hp,hn⟩)
theorem qza{k:Int}{v:ByteArray}:∀{m:List KV},(m.map (·.1)).Nodup->((ms k v m).map (·.1)).Nodup
 | [],_=>by simp[ms]
 | e::m,h=>by
  obtain⟨n1,n2⟩:=jcl.1 h;unfold ms;by_cases hk:k=e.1
  ·rw[jan hk];exact jcl.2 ⟨by rw[hk];exact n1,n2⟩
  ·rw[jao hk];refine jcl.2 ⟨fun hm=>?_,qza n2⟩;obtain⟨p,hp,he⟩:=jb9.1 hm;rcases(qpr n2).1 hp with ⟨a,_⟩|a
   ·exact n1 (jb9.2 ⟨p,a,he⟩)
   ·rw[a] at he;exact hk he
theorem q3a{k:Int}:∀{m:List KV},(m.map (·.1)).Nodup->((md k m).map (·.1)).Nodup
 | [],_=>by simp[md]
 | e::m,h=>by
  obtain⟨n1,n2⟩:=jcl.1 h;unfold md;by_cases hk:k=e.1
  ·rw[jan hk];exact n2
  ·rw[jao hk];refine jcl.2 ⟨fun hm=>?_,q3a n2⟩;obtain⟨p,hp,he⟩:=jb9.1 hm;exact n1 (jb9.2 ⟨p,((qox n2).1 hp).1,he⟩)
theorem qtc{c x:qaa}:∀{l:List qaa} {last:Int},S.okGo l last=true->(x∈S.ins1 c l↔(x∈l/\x.1≠c.1)\/(x=c/\c.2.2=false))
 | [],last,_=>by
  show x∈cond c.2.2 [] [c]↔_;cases c.2.2<;>simp
 | a::r,last,h=>by
  obtain⟨_,_,_,_,h5⟩:=qbo.1 h;have hlt:=(qgc h5).1;have ih:=qtc (c:=c) (x:=x) h5;show x∈(if a.1<c.1 then a::S.ins1 c r else if a.1=c.1 then cond c.2.2 r (c::r) else cond c.2.2 (a::r) (c::a::r))↔_;by_cases q1:a.1<c.1
  ·rw[jan q1,jau,ih,jau];constructor
   ·rintro(rfl|⟨a1,a2⟩|a1)
    ·exact .inl ⟨.inl rfl,by omega⟩
    ·exact .inl ⟨.inr a1,a2⟩
    ·exact .inr a1
   ·rintro(⟨rfl|a1,a2⟩|a1)
    ·exact .inl rfl
    ·exact .inr (.inl ⟨a1,a2⟩)
    ·exact .inr (.inr a1)
  ·rw[jao q1];by_cases q2:a.1=c.1
   ·rw[jan q2];have hr:∀y∈r,y.1≠c.1:=fun y hy=>by have:=hlt y hy;omega
    cases hg:c.2.2 with
    | true =>
     simp only[jab,jau,jfm,and_false,or_false];constructor
     ·intro hx;exact⟨.inr hx,hr x hx⟩
     ·rintro⟨rfl|a1,a2⟩
      ·exact absurd q2 a2
      ·exact a1
    | false =>
     simp only[jah,jau,and_true];constructor
     ·rintro(rfl|hx)
      ·exact .inr rfl
      ·exact .inl ⟨.inr hx,hr x hx⟩
     ·rintro(⟨rfl|a1,a2⟩|a1)
      ·exact absurd q2 a2
      ·exact .inr a1
      ·exact .inl a1
   ·rw[jao q2];have hr:∀y∈a::r,y.1≠c.1:=fun y hy=>by
     rcases jau.1 hy with rfl|hy
     ·exact q2
     ·have:=hlt y hy;omega
    cases hg:c.2.2 with
    | true =>
     simp only[jab,jfm,and_false,or_false];exact⟨fun hx=>⟨hx,hr x hx⟩,fun hx=>hx.1⟩
    | false =>
     simp only[jah,and_true];rw[jau];constructor
     ·rintro(rfl|hx)
      ·exact .inr rfl
      ·exact .inl ⟨hx,hr x hx⟩
     ·rintro(⟨a1,_⟩|a1)
      ·exact .inr a1
      ·exact .inl a1
theorem qs5{a b:List qaa}(ha:okS a (-1))(hb:okS b (-1))(h:∀x,x∈a↔x∈b):a=b:=by
 have h1:=(qgc ha.1).2;have h2:=(qgc hb.1).2;have n1:a.Nodup:=h1.imp fun {x y} hxy e=>by subst e;omega
 have n2:b.Nodup:=h2.imp fun {x y} hxy e=>by subst e;omega
 exact List.Perm.eq_of_pairwise (le:=fun a b:qaa=>a.1<b.1) (fun a b _ _ q1 q2=>absurd q1 (by omega)) h1 h2 ((List.perm_ext_iff_of_nodup n1 n2).2 h)
theorem q82{m:List KV}(h:S.mapG m=true){x:qaa}:x∈S.listed m↔(x.1,x.2.1)∈m/\x.2.2=false:=by
 rw[(qgq h).2.mem_iff,jb9];constructor
 ·rintro⟨p,hp,rfl⟩;exact⟨hp,rfl⟩
 ·rintro⟨hp,hx⟩;exact⟨_,hp,by obtain⟨a,b,c⟩:=x;cases hx;rfl⟩
theorem q5k{m:List KV}(h1:(m.map (·.1)).Nodup)(h2:∀p∈m,(0<=p.1/\p.1<=199)/\p.2.size<=4000):S.mapG m=true:=by
 unfold S.mapG;simp only[jad,jcc,jbi];refine⟨h1,fun p hp=>?_⟩;obtain⟨⟨a,b⟩,c⟩:=h2 p hp;unfold S.inI;simp only[jad,jcc];exact⟨⟨a,b⟩,jax c⟩
def qfn(m:List KV)(c:qaa):List KV:=cond c.2.2 (md c.1 m) (ms c.1 c.2.1 m)
theorem zcg{m:List KV}(h:S.mapG m=true){c:qaa}(hc:(0<=c.1/\c.1<=199)/\c.2.1.size<=4000):S.mapG (qfn m c)=true/\S.listed (qfn m c)=S.ins1 c (S.listed m):=by
 obtain⟨n1,n2⟩:=qod h;obtain⟨o1,o2⟩:=qgq h;have hG:S.mapG (qfn m c)=true:=by
  unfold qfn;cases c.2.2 with
  | true=>exact q5k (q3a n1) fun p hp=>n2 p ((qox n1).1 hp).1
  | false =>
   exact q5k (qza n1) fun p hp=>by
    rcases(qpr n1).1 hp with ⟨a,_⟩|rfl
    ·exact n2 p a
    ·exact hc
 refine⟨hG,qs5 (qgq hG).1 (qkj c hc o1 (by omega)) fun x=>?_⟩;rw[q82 hG,qtc o1.1,q82 h];unfold qfn;cases hg:c.2.2 with
 | true =>
  rw[jab,qox n1];simp only[jfm,and_false,or_false];exact⟨fun ⟨⟨a,b⟩,c⟩=>⟨⟨a,c⟩,b⟩,fun ⟨⟨a,c⟩,b⟩=>⟨⟨a,b⟩,c⟩⟩
 | false =>
  rw[jah,qpr n1];simp only[and_true];constructor
  ·rintro⟨⟨a,b⟩|a,d⟩
   ·exact .inl ⟨⟨a,d⟩,b⟩
   ·refine .inr ?_;obtain⟨x1,x2,x3⟩:=x;obtain⟨c1,c2,c3⟩:=c;simp only[jdt] at a d hg ⊢;exact⟨a.1,a.2,d.trans hg.symm⟩
  ·rintro(⟨⟨a,b⟩,d⟩|rfl)
   ·exact⟨.inl ⟨a,d⟩,b⟩
   ·exact⟨.inr rfl,hg⟩
theorem zpg(m:List KV)(l:List qaa):S.applied m l=l.foldl qfn m:=by
 unfold S.applied;have:∀(l:List qaa) (m:List KV),List.foldl (fun(m:List KV) (c:qaa)=>cond c.2.2 (mdel (vc:=.str) (.int .i64) c.1 m:List KV) (mset (vc:=.str) (.int .i64) c.1 c.2.1 m)) m l=l.foldl qfn m:=by
  intro l;induction l with
  | nil=>intro m;rfl
  | cons c l ih =>
   intro m;rw[jdz,jdz,ih];congr 1;unfold qfn;rw[<- q70,<- q7s]
 exact this l m
theorem qzn:∀{l:List qaa} {m:List KV} {last:Int},S.mapG m=true->S.okGo l last=true->S.mapG (S.applied m l)=true/\S.listed (S.applied m l)=S.changed (S.listed m) l
 | [],m,_,h,_=>⟨h,rfl⟩
 | c::l,m,last,h,hl=>by
  obtain⟨h1,h2,h3,h4,h5⟩:=qbo.1 hl;obtain⟨s1,s2⟩:=zcg h ⟨h1,h2⟩;have ih:=qzn (l:=l) s1 h5;rw[zpg] at ih ⊢;rw[jdz];refine⟨ih.1,ih.2.trans ?_⟩;rw[s2];rfl
theorem qnu{g:Nat->List qaa}(hg:∀k,k<200->g k=[]\/∃c,g k=[c]/\c.1=(k:Int)/\c.2.1.size<=4000/\(c.2.2=true->c.2.1=S.none_)):∀(n s:Nat),s+n<=200->S.okGo ((List.range' s n).flatMap g) ((s:Int)-1)=true
 | 0,s,_=>rfl
 | n+1,s,h=>by
  have ih:=qnu hg n (s+1) (by omega);rw[show ((s+1:Nat):Int)-1=(s:Int) by omega] at ih;rw[List.range'_succ,je2];rcases hg s (by omega) with e|⟨c,e,h1,h2,h3⟩
  ·rw[e,jci];exact q0c ih (by omega)
  ·rw[e,List.singleton_append];exact qbo.2 ⟨by omega,h2,h3,by omega,by rw[h1];exact ih⟩
theorem qui{k:Int}{p:qaa->Bool}:∀{l:List qaa} {last:Int},S.okGo l last=true->(l.filter fun c=>decide (c.1=k)&&p c)=[]\/∃c∈l,c.1=k/\p c=true/\(l.filter fun c=>decide (c.1=k)&&p c)=[c]
 | [],_,_=>.inl rfl
 | c::l,last,h=>by
  have h5:=(qbo.1 h).2.2.2.2;rcases qui (k:=k) (p:=p) h5 with e|⟨d,d1,d2,d3,e⟩
  ·rw[je9,e];by_cases hc:(decide (c.1=k)&&p c)=true
   ·rw[jan hc];rw[jad] at hc;exact .inr ⟨c,by simp,jaz hc.1,hc.2,rfl⟩
   ·rw[jao hc];exact .inl rfl
  ·have:=(qgc h5).1 d d1;rw[je9,e,jao]
   ·exact .inr ⟨d,by simp[d1],d2,d3,rfl⟩
   ·rw[jar (by omega),jcx];exact jey
theorem qs6{l:List qaa}{k:Int}:S.namesC l k=true↔∃c∈l,c.1=k:=by
 unfold S.namesC;rw[jdm];exact⟨fun ⟨c,h,e⟩=>⟨c,h,jaz e⟩,fun ⟨c,h,e⟩=>⟨c,h,jal e⟩⟩
theorem qnn{x:qaa}:∀{l m:List qaa} {last:Int},okS m (-1)->S.okGo l last=true->-1<=last->(x∈S.changed m l↔(x∈l/\x.2.2=false)\/(x∈m/\∀c∈l,c.1≠x.1))
 | [],m,_,_,_,_=>by
  show x∈m↔_;simp
 | c::l,m,last,hm,h,hg=>by
  obtain⟨h1,h2,h3,h4,h5⟩:=qbo.1 h;have hlt:=(qgc h5).1;have hi:=qkj c ⟨by omega,by omega⟩ hm (by omega);show x∈S.changed (S.ins1 c m) l↔_;rw[qnn hi h5 (by omega),qtc hm.1];constructor
  ·rintro(⟨a,b⟩|⟨⟨a,b⟩|⟨rfl,b⟩,d⟩)
   ·exact .inl ⟨by simp[a],b⟩
   ·refine .inr ⟨a,fun y hy=>?_⟩;rcases jau.1 hy with rfl|hy
    ·exact fun e=>b e.symm
    ·exact d y hy
   ·exact .inl ⟨by simp,b⟩
  ·rintro(⟨a,b⟩|⟨a,d⟩)
   ·rcases jau.1 a with rfl|a
    ·exact .inr ⟨.inr ⟨rfl,b⟩,fun y hy e=>by have:=hlt y hy;omega⟩
    ·exact .inl ⟨a,b⟩
   ·exact .inr ⟨.inl ⟨a,fun e=>d c (by simp) e.symm⟩,fun y hy=>d y (by simp[hy])⟩
theorem qpf{l:List qaa}{last:Int}(h:S.okGo l last=true){x:qaa}(hx:x∈l):(0<=x.1/\x.1<=199)/\x.2.1.size<=4000/\(x.2.2=true->x.2.1=S.none_):=by
 induction l generalizing last with
 | nil=>cases hx
 | cons c l ih =>
  obtain⟨h1,h2,h3,h4,h5⟩:=qbo.1 h;rcases jau.1 hx with rfl|hx
  ·exact⟨h1,h2,h3⟩
  ·exact ih h5 hx
theorem q56{was l:List qaa}(hw:okS was (-1))(hl:S.okC l=true)(k:Nat):S.afterK was l k=[]\/∃c,S.afterK was l k=[c]/\c.1=(k:Int)/\c.2.1.size<=4000/\(c.2.2=true->c.2.1=S.none_):=by
 unfold S.afterK;by_cases hn:S.namesC l (k:Int)=true
 ·rw[hn,show (was.filter fun c=>decide (c.1=(k:Int))&&!true)=[] from List.filter_eq_nil_iff.2 fun a _=>by simp,jci];rcases qui (k:=(k:Int)) (p:=fun c=>!c.2.2) hl with e|⟨c,c1,c2,c3,e⟩
  ·exact .inl e
  ·exact .inr ⟨c,e,c2,(qpf hl c1).2⟩
 ·rw[show (l.filter fun c=>decide (c.1=(k:Int))&&!c.2.2)=[] from List.filter_eq_nil_iff.2 fun a ha=>by
   rw[jar fun e=>hn (qs6.2 ⟨a,ha,e⟩),jcx];exact jey,jbl]
  rcases qui (k:=(k:Int)) (p:=fun c=>!S.namesC l (k:Int)) hw.1 with e|⟨c,c1,c2,c3,e⟩
  ·exact .inl e
  ·exact .inr ⟨c,e,c2,(qpf hw.1 c1).2⟩
theorem zqz{was l:List qaa}(hw:okS was (-1))(hl:S.okC l=true):S.after was l=S.changed was l:=by
 have hm:∀x,x∈S.after was l↔(x∈l/\x.2.2=false)\/(x∈was/\∀c∈l,c.1≠x.1):=fun x=>by
  unfold S.after;rw[jfv];constructor
  ·rintro⟨k,hk,hx⟩;rcases jbn.1 hx with hx|hx
   ·obtain⟨h1,h2⟩:=jcm.1 hx;rw[jad] at h2;refine .inr ⟨h1,fun c hc e=>?_⟩;have:S.namesC l (k:Int)=true:=qs6.2 ⟨c,hc,e.trans (jaz h2.1)⟩;rw[this] at h2;exact absurd h2.2 (by decide)
   ·obtain⟨h1,h2⟩:=jcm.1 hx;rw[jad] at h2;exact .inl ⟨h1,by have:=h2.2;cases hq:x.2.2 with|false=>rfl|true=>rw[hq] at this;cases this⟩
  ·rintro(⟨h1,h2⟩|⟨h1,h2⟩)
   ·have hr:=(qpf hl h1).1;refine⟨x.1.toNat,jei.2 (by omega),jb6 _ (jcm.2 ⟨h1,?_⟩)⟩;rw[h2,jal (by omega)];rfl
   ·have hr:=(qpf hw.1 h1).1;refine⟨x.1.toNat,jei.2 (by omega),jbz _ (jcm.2 ⟨h1,?_⟩)⟩;have:S.namesC l ((x.1.toNat:Nat):Int)=false:=by
     rw[jcz];intro e;obtain⟨c,hc,e⟩:=qs6.1 e;exact h2 c hc (by omega)
    rw[this,jal (by omega)];rfl
 have ha:okS (S.after was l) (-1):=by
  refine⟨?_,fun x hx=>?_⟩
  ·have:=qnu (g:=S.afterK was l) (fun k hk=>?_) 200 0 (by omega)
   ·unfold S.after;rw[jeh];exact this
   ·exact q56 hw hl k
  ·rcases(hm x).1 hx with h|h
   ·exact h.2
   ·exact hw.2 x h.1
 refine qs5 ha (qkh hw hl) fun x=>?_;rw[hm,qnn hw hl (by omega)]
def ql7(l:List DChg):Prop:=∀c∈l,0<=c.2.1/\c.2.1<=255
theorem q16{α β:Type}(f:α->Option β):∀l:List α,l.filterMap f=l.flatMap fun a=>(f a).toList
 | []=>rfl
 | a::l=>by
  rw[List.filterMap_cons,je2,q16 f l];cases f a<;>rfl
theorem q7g{l:List DChg}(h:ql7 l):S.okC (S.cells l)=true/\(S.cells l).length<=25:=by
 constructor
 ·have:=qnu (g:=fun k=>((l.reverse.find? fun c=>decide (c.1 % 25=(k:Int))).map (S.cellOf k)).toList) (fun k hk=>?_) 25 0 (by omega)
  ·unfold S.cells S.okC;rw[jeh,q16];exact this
  ·show Option.toList _=[]\/_;cases hf:l.reverse.find? fun c=>decide (c.1 % 25=(k:Int)) with
   | none=>exact .inl rfl
   | some c =>
    refine .inr ⟨S.cellOf k c,rfl,rfl,?_⟩;have hc:=h c (List.mem_reverse.1 (List.mem_of_find?_eq_some hf));unfold S.cellOf;cases c.2.2.2 with
    | true=>exact⟨jb8 _,fun _=>rfl⟩
    | false =>
     refine⟨?_,fun e=>by cases e⟩;show (qae _).size<=4000;rw[qbi,jbd];omega
 ·unfold S.cells;exact jbk (List.length_filterMap_le _ _) (by rw[jfq];omega)
def S.madeOk(n:Int):Bool:=decide ((S.newDisk n).2=0)&&(decide ((S.format (S.newDisk n).1).2=0)&&(decide ((S.doD (S.newDisk n).1 (S.format (S.newDisk n).1).1).2=0)&&decide ((S.open_ (S.madeD_ n)).2=0)))
theorem zqb:(List.range 17).all (fun k=>S.madeOk (8+2*((k:Nat):Int)))=true:=by kernel_rfl
theorem q8h{n:Int}(h:S.evn n=true):(S.newDisk n).2=0/\(S.format (S.newDisk n).1).2=0/\(S.doD (S.newDisk n).1 (S.format (S.newDisk n).1).1).2=0/\(S.open_ (S.madeD_ n)).2=0:=by
 unfold S.evn at h;rw[jad,qbm] at h;have h2:=jaz h.2;have:=jbi.1 zqb ((n.toNat-8) / 2) (jei.2 (by omega));rw[show 8+2*((((n.toNat-8) / 2:Nat)):Int)=n by omega] at this;unfold S.madeOk at this;rw[jad,jad,jad] at this;exact⟨jaz this.1,jaz this.2.1,jaz this.2.2.1,jaz this.2.2.2⟩
def JnR(j:qad):Prop:=∃L h a u c,j=((L,[]),h,((u:Nat):Int),c)/\Jn L h a u c
theorem q4z{n:Int}(h:S.evn n=true):JnR (S.madeN n):=by
 obtain⟨hf,a,u,c,j,_,e⟩:=qwn (q8h h).2.2.2;exact⟨_,hf,a,u,c,jav Prod.fst e,j⟩
theorem qy4{j:qad}(hj:JnR j){l:List DChg}(h:ql7 l):JnR (S.playStep j l)/\((S.cells l).length=0\/(S.save j (S.cells l)).2=0\/(S.save j (S.cells l)).2=14):=by
 have hk:=q7g h;unfold S.playStep;by_cases h0:(S.cells l).length=0
 ·rw[jan h0];exact⟨hj,.inl h0⟩
 ·obtain⟨L,hf,a,u,c,rfl,j⟩:=hj;rw[jao h0];rcases zge j hk.1 h0 (by omega) with ⟨L',h',a',u',e,j',_⟩|⟨e,_⟩
  ·rw[e,jan rfl];exact⟨⟨_,_,_,_,_,rfl,j'⟩,.inr (.inl rfl)⟩
  ·rw[e,jao (by show ¬(14:Int)=0;decide)];exact⟨⟨_,_,_,_,_,rfl,j⟩,.inr (.inr rfl)⟩
theorem qx2:∀{l:List (List DChg)} {j:qad},JnR j->(∀x∈l,ql7 x)->JnR (l.foldl S.playStep j)
 | [],_,h,_=>h
 | x::l,j,h,hl=>qx2 (j:=S.playStep j x) (qy4 h (hl x (by simp))).1 fun y hy=>hl y (by simp[hy])
theorem qra{s:Int}(h:0<=s/\s<=255):S.evn (8+2*(s % 17))=true:=by
 unfold S.evn;rw[jad,qbm];exact⟨by omega,jal (by omega)⟩
theorem zch{s:Int}{l:List (List DChg)}(h:0<=s/\s<=255)(hl:∀x∈l,ql7 x):JnR (S.played s l):=qx2 (q4z (qra h)) hl
def S.ten:ByteArray:=S.lit [48,49,50,51,52,53,54,55,56,57]
def S.hC:List qaa:=[(5,S.ten,false)]
def S.hL:List DAct:=(S.plan S.madeJ S.hC).1
def S.hD:qah:=(S.doD S.madeJ.1 (S.hL.take 4)).1
def S.hLost:qah:=(S.crash S.hD [0]).1
def S.hKept:qah:=(S.crash S.hD [1]).1
def S.hX:qad:=(S.open_ S.hLost).1
def S.hY:qad:=(S.open_ S.hKept).1
def S.hG:List qaa:=[(5,S.none_,true)]
def S.hZ:qad:=(S.commitJ S.hY S.hG).1
def S.hT:qad:=(S.turnJ S.hZ).1
def S.gPlan(j:qad)(l:List qaa):Bool:=S.sameJ j S.madeJ&&S.sameC l S.hC
def S.gDo(d:qah)(l:List DAct):Bool:=S.sameD d S.madeJ.1&&S.sameA l (S.hL.take 4)
def S.isZ(k:List Int):Bool:=decide (k=[0])
def S.gCrash(d:qah)(k:List Int):Bool:=S.sameD d S.hD&&(decide (k=[0])||decide (k=[1]))
def S.hCr(k:List Int):qah:=cond (S.isZ k) S.hLost S.hKept
def S.gOpen(d:qah):Bool:=S.sameD d S.hLost||S.sameD d S.hKept
def S.hOp(d:qah):qad:=cond (S.sameD d S.hLost) S.hX S.hY
def S.gCom(j:qad)(l:List qaa):Bool:=S.sameJ j S.hY&&S.sameC l S.hG
def S.gZ(j:qad):Bool:=S.sameJ j S.hZ
def q1y:Sm:=⟨[qag,.list qac],[(true,cAct),(false,.int .i64)],fun x=>cond (S.gPlan x.1 x.2.1) (some (S.hL,(0:Int),())) none⟩
def q24:Sm:=⟨[qan,.list cAct],[(false,qan),(false,.int .i64)],fun x=>cond (S.gDo x.1 x.2.1) (some (S.hD,(0:Int),())) none⟩
def q02:Sm:=⟨[qan,.list (.int .i64)],[(false,qan),(false,.int .i64)],fun x=>cond (S.gCrash x.1 x.2.1) (some (S.hCr x.2.1,(0:Int),())) none⟩
def q8i:Sm:=⟨[qan],[(false,qag),(false,.int .i64)],fun x=>cond (S.gOpen x.1) (some (S.hOp x.1,(0:Int),())) none⟩
def q0o:Sm:=⟨[qag,.list qac],[(false,qag),(false,.int .i64)],fun x=>cond (S.gCom x.1 x.2.1) (some (S.hZ,(0:Int),())) none⟩
def q65:Sm:=⟨[qag],[(false,.int .i64),(false,.int .i64)],fun x=>cond (S.gZ x.1) (some ((0:Int),(0:Int),())) none⟩
def q6t:Sm:=⟨[qag],[(false,qag),(false,.int .i64)],fun x=>cond (S.gZ x.1) (some (S.hT,(0:Int),())) none⟩
abbrev qoc:Type:=Bool × Unit
abbrev zba:Nat:=9
def ze6(lf:Nat):Option qoc:=(match (cond (S.inI (Int.ofNat 8) (Int.ofNat 8) (Int.ofNat 8)) (some (S.madeJ,(true,()))) none) with|none=>none|some v0=>(cond (Bool.not v0.2.1) (some (false,())) (match (cond (S.gPlan ((v0.1.1.1,v0.1.1.2),(v0.1.2.1,(v0.1.2.2.1,v0.1.2.2.2))) (List.cons ((Int.ofNat 5),((S.lit [48,49,50,51,52,53,54,55,56,57]),false)) [])) (some (S.hL,((Int.ofNat 0),()))) none) with|none=>none|some v1=>(cond (Bool.not (ieqI v1.2.1 (Int.ofNat 0))) (some (false,())) (cond (Bool.not (ieqI (Int.ofNat v1.1.length) (Int.ofNat 5))) (some (false,())) (match (jget v1.1 (Int.ofNat 0)) with|none=>none|some v2=>(match (GetElem?.getElem? v1.1 0) with|none=>none|some v3=>(cond (Bool.not (ieqI v3.2.1 (Int.ofNat 2))) (some (false,())) (match (jget v1.1 (Int.ofNat 1)) with|none=>none|some v4=>(match (GetElem?.getElem? v1.1 1) with|none=>none|some v5=>(cond (Bool.not (ieqI v5.2.1 (Int.ofNat 3))) (some (false,())) (match (jget v1.1 (Int.ofNat 2)) with|none=>none|some v6=>(match (GetElem?.getElem? v1.1 2) with|none=>none|some v7=>(cond (Bool.not v7.1) (some (false,())) (match (jget v1.1 (Int.ofNat 3)) with|none=>none|some v8=>(match (GetElem?.getElem? v1.1 3) with|none=>none|some v9=>(cond (Bool.not (ieqI v9.2.1 (Int.ofNat 2))) (some (false,())) (cond (Bool.not (ieqI v0.1.2.1 (Int.ofNat 0))) (some (false,())) (cond (Bool.not (ieqI v0.1.2.2.1 (Int.ofNat 1))) (some (false,())) (cond (Bool.not (ieqI (Int.ofNat v0.1.2.2.2.length) (Int.ofNat 0))) (some (false,())) (cond (lchk (Int.ofNat 0) (Int.ofNat 4) (Int.ofNat v1.1.length) (Int.ofNat v1.1.length)) (match (cond (S.gDo (v0.1.1.1,v0.1.1.2) (lsub v1.1 (Int.ofNat 0) (Int.ofNat 4))) (some (S.hD,((Int.ofNat 0),()))) none) with|none=>none|some v10=>(match (cond (S.gCrash (v10.1.1,v10.1.2) [(Int.ofNat 0)]) (some ((S.hCr [(Int.ofNat 0)]),((Int.ofNat 0),()))) none) with|none=>none|some v11=>(match (cond (S.gCrash (v10.1.1,v10.1.2) [(Int.ofNat 1)]) (some ((S.hCr [(Int.ofNat 1)]),((Int.ofNat 0),()))) none) with|none=>none|some v12=>(match (cond (S.gOpen (v11.1.1,v11.1.2)) (some ((S.hOp (v11.1.1,v11.1.2)),((Int.ofNat 0),()))) none) with|none=>none|some v13=>(match (cond (S.gOpen (v12.1.1,v12.1.2)) (some ((S.hOp (v12.1.1,v12.1.2)),((Int.ofNat 0),()))) none) with|none=>none|some v14=>(cond (Bool.not (ieqI v10.2.1 (Int.ofNat 0))) (some (false,())) (cond (Bool.not (ieqI v11.2.1 (Int.ofNat 0))) (some (false,())) (cond (Bool.not (ieqI v12.2.1 (Int.ofNat 0))) (some (false,())) (cond (Bool.not (ieqI v13.2.1 (Int.ofNat 0))) (some (false,())) (cond (Bool.not (ieqI v14.2.1 (Int.ofNat 0))) (some (false,())) (cond (Bool.not (ieqI (Int.ofNat v13.1.2.2.2.length) (Int.ofNat 0))) (some (false,())) (cond (Bool.not (ieqI (Int.ofNat v14.1.2.2.2.length) (Int.ofNat 1))) (some (false,())) (match (jget v14.1.2.2.2 (Int.ofNat 0)) with|none=>none|some v15=>(cond (Bool.not (keqS v15.2.1 (S.lit [48,49,50,51,52,53,54,55,56,57]))) (some (false,())) (match (cond (S.gCom ((v14.1.1.1,v14.1.1.2),(v14.1.2.1,(v14.1.2.2.1,v14.1.2.2.2))) (List.cons ((Int.ofNat 5),((S.lit []),true)) [])) (some (S.hZ,((Int.ofNat 0),()))) none) with|none=>none|some v16=>(match (cond (S.gZ ((v16.1.1.1,v16.1.1.2),(v16.1.2.1,(v16.1.2.2.1,v16.1.2.2.2)))) (some ((Int.ofNat 0),((Int.ofNat 0),()))) none) with|none=>none|some v17=>(match (cond (S.gZ ((v16.1.1.1,v16.1.1.2),(v16.1.2.1,(v16.1.2.2.1,v16.1.2.2.2)))) (some (S.hT,((Int.ofNat 0),()))) none) with|none=>none|some v18=>(cond (ieqI v16.2.1 (Int.ofNat 0)) (cond (ieqI v17.2.1 (Int.ofNat 0)) (cond (ieqI v18.2.1 (Int.ofNat 0)) (cond (ieqI v17.1 (Int.ofNat 0)) (cond (ieqI v18.1.2.1 (Int.ofNat 1)) (cond (ieqI v18.1.2.2.1 (Int.ofNat 1)) (some ((ieqI (Int.ofNat v18.1.2.2.2.length) (Int.ofNat 0)),())) (some (false,()))) (some (false,()))) (some (false,()))) (some (false,()))) (some (false,()))) (some (false,())))))))))))))))))))) none)))))))))))))))))))))
def qvg(lf:Nat):Option qoc:=ze6 lf
theorem zkh{g:ElA []->Option qoc}(hsm:SmOK Tryz.prog [(52,q8v),(22,spz7),(24,q1y),(32,q24),(34,q02),(13,q8i),(26,q0o),(20,q65),(41,q6t)])(hg:∀(x:ElA []) (y:qoc),WfA [] x->g x=some y->∃lf,qvg lf=some y):Con Tryz.prog 9 ⟨[],[(false,.bool)],g⟩ :=
 conU (fi:=fi9) (hxl:=[]) (fun lf x=>qvg lf) cm3 cal9 trivial hsm hg
abbrev qnt:Type:=qad × Bool × Unit
abbrev q71:Nat:=52
def qwr(lf:Nat)(x1:Int):Option qnt:=(cond (ieqI (S.newDisk x1).2 (Int.ofNat 0)) (cond (ieqI (S.format ((S.newDisk x1).1.1,(S.newDisk x1).1.2)).2 (Int.ofNat 0)) (cond (ieqI (S.doD ((S.newDisk x1).1.1,(S.newDisk x1).1.2) (S.format ((S.newDisk x1).1.1,(S.newDisk x1).1.2)).1).2 (Int.ofNat 0)) (some ((((S.open_ ((S.doD ((S.newDisk x1).1.1,(S.newDisk x1).1.2) (S.format ((S.newDisk x1).1.1,(S.newDisk x1).1.2)).1).1.1,(S.doD ((S.newDisk x1).1.1,(S.newDisk x1).1.2) (S.format ((S.newDisk x1).1.1,(S.newDisk x1).1.2)).1).1.2)).1.1.1,(S.open_ ((S.doD ((S.newDisk x1).1.1,(S.newDisk x1).1.2) (S.format ((S.newDisk x1).1.1,(S.newDisk x1).1.2)).1).1.1,(S.doD ((S.newDisk x1).1.1,(S.newDisk x1).1.2) (S.format ((S.newDisk x1).1.1,(S.newDisk x1).1.2)).1).1.2)).1.1.2),((S.open_ ((S.doD ((S.newDisk x1).1.1,(S.newDisk x1).1.2) (S.format ((S.newDisk x1).1.1,(S.newDisk x1).1.2)).1).1.1,(S.doD ((S.newDisk x1).1.1,(S.newDisk x1).1.2) (S.format ((S.newDisk x1).1.1,(S.newDisk x1).1.2)).1).1.2)).1.2.1,((S.open_ ((S.doD ((S.newDisk x1).1.1,(S.newDisk x1).1.2) (S.format ((S.newDisk x1).1.1,(S.newDisk x1).1.2)).1).1.1,(S.doD ((S.newDisk x1).1.1,(S.newDisk x1).1.2) (S.format ((S.newDisk x1).1.1,(S.newDisk x1).1.2)).1).1.2)).1.2.2.1,(S.open_ ((S.doD ((S.newDisk x1).1.1,(S.newDisk x1).1.2) (S.format ((S.newDisk x1).1.1,(S.newDisk x1).1.2)).1).1.1,(S.doD ((S.newDisk x1).1.1,(S.newDisk x1).1.2) (S.format ((S.newDisk x1).1.1,(S.newDisk x1).1.2)).1).1.2)).1.2.2.2))),((ieqI (S.open_ ((S.doD ((S.newDisk x1).1.1,(S.newDisk x1).1.2) (S.format ((S.newDisk x1).1.1,(S.newDisk x1).1.2)).1).1.1,(S.doD ((S.newDisk x1).1.1,(S.newDisk x1).1.2) (S.format ((S.newDisk x1).1.1,(S.newDisk x1).1.2)).1).1.2)).2 (Int.ofNat 0)),()))) (some ((((S.open_ ((S.doD ((S.newDisk x1).1.1,(S.newDisk x1).1.2) (S.format ((S.newDisk x1).1.1,(S.newDisk x1).1.2)).1).1.1,(S.doD ((S.newDisk x1).1.1,(S.newDisk x1).1.2) (S.format ((S.newDisk x1).1.1,(S.newDisk x1).1.2)).1).1.2)).1.1.1,(S.open_ ((S.doD ((S.newDisk x1).1.1,(S.newDisk x1).1.2) (S.format ((S.newDisk x1).1.1,(S.newDisk x1).1.2)).1).1.1,(S.doD ((S.newDisk x1).1.1,(S.newDisk x1).1.2) (S.format ((S.newDisk x1).1.1,(S.newDisk x1).1.2)).1).1.2)).1.1.2),((S.open_ ((S.doD ((S.newDisk x1).1.1,(S.newDisk x1).1.2) (S.format ((S.newDisk x1).1.1,(S.newDisk x1).1.2)).1).1.1,(S.doD ((S.newDisk x1).1.1,(S.newDisk x1).1.2) (S.format ((S.newDisk x1).1.1,(S.newDisk x1).1.2)).1).1.2)).1.2.1,((S.open_ ((S.doD ((S.newDisk x1).1.1,(S.newDisk x1).1.2) (S.format ((S.newDisk x1).1.1,(S.newDisk x1).1.2)).1).1.1,(S.doD ((S.newDisk x1).1.1,(S.newDisk x1).1.2) (S.format ((S.newDisk x1).1.1,(S.newDisk x1).1.2)).1).1.2)).1.2.2.1,(S.open_ ((S.doD ((S.newDisk x1).1.1,(S.newDisk x1).1.2) (S.format ((S.newDisk x1).1.1,(S.newDisk x1).1.2)).1).1.1,(S.doD ((S.newDisk x1).1.1,(S.newDisk x1).1.2) (S.format ((S.newDisk x1).1.1,(S.newDisk x1).1.2)).1).1.2)).1.2.2.2))),(false,())))) (some ((((S.open_ ((S.doD ((S.newDisk x1).1.1,(S.newDisk x1).1.2) (S.format ((S.newDisk x1).1.1,(S.newDisk x1).1.2)).1).1.1,(S.doD ((S.newDisk x1).1.1,(S.newDisk x1).1.2) (S.format ((S.newDisk x1).1.1,(S.newDisk x1).1.2)).1).1.2)).1.1.1,(S.open_ ((S.doD ((S.newDisk x1).1.1,(S.newDisk x1).1.2) (S.format ((S.newDisk x1).1.1,(S.newDisk x1).1.2)).1).1.1,(S.doD ((S.newDisk x1).1.1,(S.newDisk x1).1.2) (S.format ((S.newDisk x1).1.1,(S.newDisk x1).1.2)).1).1.2)).1.1.2),((S.open_ ((S.doD ((S.newDisk x1).1.1,(S.newDisk x1).1.2) (S.format ((S.newDisk x1).1.1,(S.newDisk x1).1.2)).1).1.1,(S.doD ((S.newDisk x1).1.1,(S.newDisk x1).1.2) (S.format ((S.newDisk x1).1.1,(S.newDisk x1).1.2)).1).1.2)).1.2.1,((S.open_ ((S.doD ((S.newDisk x1).1.1,(S.newDisk x1).1.2) (S.format ((S.newDisk x1).1.1,(S.newDisk x1).1.2)).1).1.1,(S.doD ((S.newDisk x1).1.1,(S.newDisk x1).1.2) (S.format ((S.newDisk x1).1.1,(S.newDisk x1).1.2)).1).1.2)).1.2.2.1,(S.open_ ((S.doD ((S.newDisk x1).1.1,(S.newDisk x1).1.2) (S.format ((S.newDisk x1).1.1,(S.newDisk x1).1.2)).1).1.1,(S.doD ((S.newDisk x1).1.1,(S.newDisk x1).1.2) (S.format ((S.newDisk x1).1.1,(S.newDisk x1).1.2)).1).1.2)).1.2.2.2))),(false,())))) (some ((((S.open_ ((S.doD ((S.newDisk x1).1.1,(S.newDisk x1).1.2) (S.format ((S.newDisk x1).1.1,(S.newDisk x1).1.2)).1).1.1,(S.doD ((S.newDisk x1).1.1,(S.newDisk x1).1.2) (S.format ((S.newDisk x1).1.1,(S.newDisk x1).1.2)).1).1.2)).1.1.1,(S.open_ ((S.doD ((S.newDisk x1).1.1,(S.newDisk x1).1.2) (S.format ((S.newDisk x1).1.1,(S.newDisk x1).1.2)).1).1.1,(S.doD ((S.newDisk x1).1.1,(S.newDisk x1).1.2) (S.format ((S.newDisk x1).1.1,(S.newDisk x1).1.2)).1).1.2)).1.1.2),((S.open_ ((S.doD ((S.newDisk x1).1.1,(S.newDisk x1).1.2) (S.format ((S.newDisk x1).1.1,(S.newDisk x1).1.2)).1).1.1,(S.doD ((S.newDisk x1).1.1,(S.newDisk x1).1.2) (S.format ((S.newDisk x1).1.1,(S.newDisk x1).1.2)).1).1.2)).1.2.1,((S.open_ ((S.doD ((S.newDisk x1).1.1,(S.newDisk x1).1.2) (S.format ((S.newDisk x1).1.1,(S.newDisk x1).1.2)).1).1.1,(S.doD ((S.newDisk x1).1.1,(S.newDisk x1).1.2) (S.format ((S.newDisk x1).1.1,(S.newDisk x1).1.2)).1).1.2)).1.2.2.1,(S.open_ ((S.doD ((S.newDisk x1).1.1,(S.newDisk x1).1.2) (S.format ((S.newDisk x1).1.1,(S.newDisk x1).1.2)).1).1.1,(S.doD ((S.newDisk x1).1.1,(S.newDisk x1).1.2) (S.format ((S.newDisk x1).1.1,(S.newDisk x1).1.2)).1).1.2)).1.2.2.2))),(false,()))))
def qhi(lf:Nat)(x1:Int):Option qnt:=qwr lf x1
theorem q8q{g:ElA [(.int .i64)]->Option qnt}(hsm:SmOK Tryz.prog [(28,qzq),(11,qyl),(32,qmy),(13,q1u)])(hg:∀(x:ElA [(.int .i64)]) (y:qnt),WfA [(.int .i64)] x->g x=some y->∃lf,qhi lf x.1=some y):Con Tryz.prog 52 ⟨[(.int .i64)],[(false,qag),(false,.bool)],g⟩ :=
 conU (fi:=fi52) (hxl:=[]) (fun lf x=>qhi lf x.1) cm3 zgy trivial hsm hg
theorem q7f(a b:Nat):(!iltI (Int.ofNat a) (Int.ofNat b))=Nat.ble b a:=by
 rw[qcj,jdd,jcd,jex,Nat.ble_eq];omega
theorem zc6:(S.newDisk 8).2=0/\(S.format (S.newDisk 8).1).2=0/\(S.doD (S.newDisk 8).1 (S.format (S.newDisk 8).1).1).2=0/\(S.open_ S.madeD).2=0:=by
 refine⟨?_,?_,?_,?_⟩<;>kernel_rfl
theorem zrz(lf:Nat):qhi lf 8=some (S.madeJ,true,()):=by
 obtain⟨h1,h2,h3,h4⟩:=zc6;simp only[qhi,qwr];show cond (ieqI (S.newDisk 8).2 _) (cond (ieqI (S.format (S.newDisk 8).1).2 _) (cond (ieqI (S.doD (S.newDisk 8).1 (S.format (S.newDisk 8).1).1).2 _) (some ((S.open_ S.madeD).1,ieqI (S.open_ S.madeD).2 _,())) _) _) _=_;rw[h1,h2,h3,h4];rfl
abbrev qnk:Type:=ByteArray × Unit
abbrev zsf:Nat:=54
def zij(lf:Nat):Option qnk:=(match (cond (S.oneN (S.lit [0]) (Int.ofNat 64)) (some (S.blank,())) none) with|none=>none|some v0=>(some (v0.1,())))
def q64(lf:Nat):Option qnk:=zij lf
theorem zc8{g:ElA []->Option qnk}(hsm:SmOK Tryz.prog [(90,q1q)])(hg:∀(x:ElA []) (y:qnk),WfA [] x->g x=some y->∃lf,q64 lf=some y):Con Tryz.prog 54 ⟨[],[(false,.str)],g⟩ :=
 conU (fi:=fi54) (hxl:=[]) (fun lf x=>q64 lf) cm3 zr4 trivial hsm hg
def qi9:Nat->Option Nm:=fun k=>cond (Nat.beq k 4) (some ⟨[0,1,12,13],[],[],[],[],0,0,false⟩) (none)
def qjv:Nat->Bool:=fun k=>cond (Nat.beq k 4) true (false)
def qy3:=qjv
abbrev qdh:Type:=Bool × Unit
def q1o:List (Nat × Sm):=[]
def q4s:List (Nat × Hx):=[]
def qv0(R:Type)(lf:Nat):ClK R:=qa3 Tryz.prog ttT.get ftT.get (nm1 100 qi9) (smL q1o) (hxL q4s) lf 20 R
abbrev zfm:Nat:=100
def qig(x1:(List qaa))(x2:(List qaa))(p:Int):NRes:=(NRes.mk (.node (some (IV.lst qac x1)) (.node (some (IV.lst qac x2)) .leaf (.node none .leaf (.node (some (IV.int .i64 p)) .leaf .leaf))) (.node none (.node none .leaf (.node (some (IV.int .i64 (Int.ofNat x1.length))) .leaf .leaf)) .leaf)) (IS.mk .leaf 0) [] 0)
def qte(lf:Nat)(x1:(List qaa))(x2:(List qaa))(L4:Int->Option qdh):Option qdh:=(cond (Bool.not (ieqI (Int.ofNat x1.length) (Int.ofNat x2.length))) (some (false,())) (L4 (Int.ofNat 0)))
def qn9(lf:Nat)(x1:(List qaa))(x2:(List qaa))(L4:Int->Option qdh)(p:Int):Option qdh:=(cond (iltI p (Int.ofNat x1.length)) (match (jget x1 p) with|none=>none|some v0=>(match (jget x2 p) with|none=>none|some v1=>(cond (Bool.not (Bool.and (keqI v0.1 v1.1) (Bool.and (keqS v0.2.1 v1.2.1) (Bool.and (keqB v0.2.2 v1.2.2) true)))) (some (false,())) (L4 (IntKind.i64.wrap (Int.add p (Int.ofNat 1))))))) (some (true,())))
abbrev gz18:Type:=ElA [(.list qac),(.list qac)]->Option qdh
abbrev sz18(g:gz18):Sm:=⟨[(.list qac),(.list qac)],[(false,.bool)],g⟩
abbrev Ez18(g:gz18)(J:JT qdh)(lf:Nat)(x1:(List qaa))(x2:(List qaa)):=qbs Tryz.prog ttT.get qi9 qd4.nt (qv0 _ lf) lf qjv J qd4.body [] (qaz (argV [(.list qac),(.list qac)] (x1,x2,())) 0 .leaf) S0 [] (qay ttT.get qd4 (sz18 g))
abbrev Bz18(g:gz18)(J:JT qdh)(lf k:Nat)(ms:List Nat)(q:NRes):=qcb Tryz.prog ttT.get qi9 qd4.nt (qv0 _ lf) lf qjv J k qd4.body [] ms q (qay ttT.get qd4 (sz18 g))
theorem zpq(g:gz18)(J:JT qdh)(lf:Nat)(x1:(List qaa))(x2:(List qaa)):Ez18 g J lf x1 x2=qte lf x1 x2 (fun q=>J 4 [lf] (qig x1 x2 q)):=by kernel_rfl
theorem zk0(g:gz18)(J:JT qdh)(lf:Nat)(x1:(List qaa))(x2:(List qaa))(m1:Nat)(p:Int):Bz18 g J lf 4 [m1] (qig x1 x2 p)=qn9 lf x1 x2 (fun q=>J 4 [m1] (qig x1 x2 q)) p:=by kernel_rfl
theorem q30:(regs qd4.body).Nodup:=by decide +kernel
theorem q2h:okC qi9 qjv qy3 qd4.body none=true:=by kernel_rfl
def Az18(g:gz18)(lf:Nat):JT qdh:=atN Tryz.prog ttT.get qi9 qd4 (sz18 g) (qv0 _ lf) lf qy3
def qpt(lf:Nat)(x1:(List qaa))(x2:(List qaa)):Nat->(Int)->Option qdh:=qa1 fun K p=>qn9 lf x1 x2 K p
theorem q8n(g:gz18)(lf:Nat)(x1:(List qaa))(x2:(List qaa)):∀(n:Nat) (p:Int),Az18 g lf 4 [n] (qig x1 x2 p)=qpt lf x1 x2 n p
 | 0,p=>qbq 4 [0] rfl _
 | n+1,p=>by
  have ih:=q8n g lf x1 x2 n;refine(qbp (qa7 20 _) q30 q2h 4 [n+1] [n] rfl _).trans ((zk0 g (Az18 g lf) lf x1 x2 n p).trans ?_);rw[(show (fun q=>Az18 g lf 4 [n] (qig x1 x2 q))=(fun q=>qpt lf x1 x2 n q) from funext ih)];rfl
def Fz18(lf:Nat)(x1:(List qaa))(x2:(List qaa)):Option qdh:=qte lf x1 x2 (fun q=>qpt lf x1 x2 lf q)
theorem zq6(g:gz18)(lf:Nat)(x1:(List qaa))(x2:(List qaa)):Ez18 g (Az18 g lf) lf x1 x2=Fz18 lf x1 x2:=by
  refine(zpq g (Az18 g lf) lf x1 x2).trans ?_;rw[(show (fun q=>Az18 g lf 4 [lf] (qig x1 x2 q))=(fun q=>qpt lf x1 x2 lf q) from funext fun q=>q8n g lf x1 x2 lf q)];rfl
theorem zoa:qbd Tryz.prog q4s:=trivial
theorem zbi{g:gz18}(hsm:SmOK Tryz.prog q1o)(hg:∀(x:ElA [(.list qac),(.list qac)]) (y:qdh),WfA [(.list qac),(.list qac)] x->g x=some y->∃lf,Fz18 lf x.1 x.2.1=some y):Con Tryz.prog 100 ⟨[(.list qac),(.list qac)],[(false,.bool)],g⟩ :=
 conV (st:=qjv) (fun lf x=>Fz18 lf x.1 x.2.1) cm3 zmr zoa q30 q2h (fun lf x=>zq6 g lf x.1 x.2.1) hsm hg
theorem zk9{j:qad}(h:S.turG j=true):S.smallJ j=true/\S.pk j.2.2.2=true/\(j.2.1=0\/j.2.1=1)/\8<=j.1.1.length:=by
 unfold S.turG at h;rw[jad,jad,jad,qbm] at h;exact⟨h.1,h.2.1,by omega,jak h.2.2.2⟩
theorem zli(lf:Nat)(j:qad)(h:S.turG j=true):qo3 lf j=some ((S.actsB (S.turn j)).1,(S.actsB (S.turn j)).2,()):=by
 obtain⟨hs,hp,hh,hge⟩:=zk9 h;obtain⟨h1,h2,_,_⟩:=qwp hs;have hpl:=qxs hp 1;have hpos:=qck j.2.2.2 1;have hp0:(S.packed j.2.2.2 0).length=(S.packed j.2.2.2 1).length:=by rw[qb0,qb0]
 obtain⟨b,e1,e2,e3,_,_⟩:=qid h2 hge (h:=1-j.2.1) (by omega);have hw:IntKind.i64.wrap (Int.sub (Int.ofNat 1) j.2.1)=1-j.2.1:=wrap_in (by show -_<=(1:Int)-j.2.1/\(1:Int)-j.2.1<_;omega);have hw2:IntKind.i64.wrap (Int.sub ((b+(j.1.1.length / 2-1):Nat):Int) (b:Int))=Int.ofNat (j.1.1.length / 2-1):=by
  have:Int.sub ((b+(j.1.1.length / 2-1):Nat):Int) (b:Int)=Int.ofNat (j.1.1.length / 2-1):=by
   show ((b+(j.1.1.length / 2-1):Nat):Int)-(b:Int)=((j.1.1.length / 2-1:Nat):Int);omega
  rw[this];exact qbv (by omega)
 simp only[qo3,q1c,hw];rw[hp,jab];simp only;rw[show S.inI (Int.ofNat j.1.1.length) (Int.ofNat 0) (Int.ofNat 1000)=true from qbm.2 ⟨jb3 _,by show (j.1.1.length:Int)<=1000;omega⟩,jab];simp only;rw[show Int.toNat (Int.ofNat j.1.1.length)=j.1.1.length from rfl,e1];simp only[hw2];by_cases c0:j.1.1.length / 2-1<(S.packed j.2.2.2 1).length
 ·have hn:S.turn j=none:=q9a (by rw[e1];show ((b+(j.1.1.length / 2-1):Nat):Int)-(b:Int)<((S.packed j.2.2.2 1).length:Int);omega);rw[qep (show Int.ofNat (j.1.1.length / 2-1)<Int.ofNat (S.packed j.2.2.2 (Int.ofNat 1)).length from jfz.2 c0),jab,hn];rfl
 have hsome:S.turn j=some (turA j.1.1 (1-j.2.1) b j.2.2.2):=by
  rw[q7x (by rw[e1];show ¬((b+(j.1.1.length / 2-1):Nat):Int)-(b:Int)<((S.packed j.2.2.2 1).length:Int);omega),e1];have:(((b+(j.1.1.length / 2-1):Nat):Int)-(b:Int)).toNat=j.1.1.length / 2-1:=by omega
  simp only[this];rfl
 rw[qff (show ¬Int.ofNat (j.1.1.length / 2-1)<Int.ofNat (S.packed j.2.2.2 (Int.ofNat 1)).length from fun h=>c0 (jfz.1 h)),jah,hsome];unfold turA;have hR:(S.puts (b:Int) (List.replicate (j.1.1.length / 2-1) S.blank)).length<=1000:=by rw[qe7,jbd];omega
 have w2:IntKind.i64.wrap (Int.add (b:Int) (Int.ofNat 1))=((b+1:Nat):Int):=qbv (n:=b+1) (by omega);have hsz:=qdw j.2.2.2 1 _ (qeo (i:=0) (show 0<(S.packed j.2.2.2 1).length by omega));have l1:lchk (Int.ofNat 1) (Int.ofNat (S.packed j.2.2.2 1).length) (Int.ofNat (S.packed j.2.2.2 1).length) (Int.ofNat (S.packed j.2.2.2 1).length)=true:=qb2.2 ⟨by decide,by show (1:Int)<=((S.packed j.2.2.2 1).length:Int);omega,jbr _,jbr _⟩;have hdl:Nat.ble ((S.packed j.2.2.2 1).drop 1).length 1000000=true:=jax (by rw[ja7];omega);have hpl0:(S.puts (b:Int) (S.packed j.2.2.2 0)).length<=20000:=by rw[qe7];omega
 have hj0:jget (S.packed j.2.2.2 (Int.ofNat 1)) (Int.ofNat 0)=some ((S.packed j.2.2.2 1).getD 0 S.none_):=qop hpos;have hg0:(S.packed j.2.2.2 (Int.ofNat 1))[0]?=some ((S.packed j.2.2.2 1).getD 0 S.none_):=get0 hpos;have htop:ByteArray.append (qae [IntKind.u8.wrap (1-j.2.1)]) (qae (List.replicate 63 0))=topS (1-j.2.1):=by
  rw[qey,qjm,show (1-j.2.1) % 256=1-j.2.1 by omega];rfl
 rw[show S.inI (Int.ofNat (j.1.1.length / 2-1)) (Int.ofNat 0) (Int.ofNat 1000)=true from qbm.2 ⟨jb3 _,by show ((j.1.1.length / 2-1:Nat):Int)<=1000;omega⟩,jab];simp only[show Int.toNat (Int.ofNat (j.1.1.length / 2-1))=j.1.1.length / 2-1 from rfl,in0 (show b<=1000000 by omega),w2,in0 (show b+1<=1000000 by omega),jb1,Bool.and_true,q1g,jci,hj0,hg0,hsz,decide_true,jab,unm2,q9m];rw[jax (show (List.replicate (j.1.1.length / 2-1) S.blank).length<=1000000 by rw[jbd];omega),jab];simp only;generalize S.puts (b:Int) (List.replicate (j.1.1.length / 2-1) S.blank)=X at hR;rw[qcc (show X.length<=4000000 by omega),jab];simp only;rw[qcc (show (X++[S.sync]).length<=1000000 by rw[jaf];show _+1<=_;omega),jab];simp only
 rw[show lchk (Int.ofNat 1) (Int.ofNat (S.packed j.2.2.2 (Int.ofNat 1)).length) (Int.ofNat (S.packed j.2.2.2 (Int.ofNat 1)).length) (Int.ofNat (S.packed j.2.2.2 (Int.ofNat 1)).length)=true from l1,jab,
  show lsub (S.packed j.2.2.2 (Int.ofNat 1)) (Int.ofNat 1) (Int.ofNat (S.packed j.2.2.2 (Int.ofNat 1)).length)=(S.packed j.2.2.2 1).drop 1 from qzj _,hdl,jb1,qcc (show (X++[S.sync]++S.puts (b:Int) [(S.packed j.2.2.2 0).getD 0 S.none_]).length<=1000000 by rw[jaf,jaf];show _+1+1<=_;omega),jab]
 simp only;rw[jay (X++[S.sync]),qz2 j.2.2.2 b];generalize S.puts (b:Int) (S.packed j.2.2.2 0)=Y at hpl0;rw[qcc (show (X++[S.sync]++Y).length<=4000000 by rw[jaf,jaf];show _+1+_<=_;omega),jab];simp only;rw[qcc (show (X++[S.sync]++Y++[S.sync]).length<=1000000 by rw[jaf,jaf,jaf];show _+1+_+1<=_;omega),jab];simp only;rw[qcc (show (X++[S.sync]++Y++[S.sync]++S.puts (b:Int) [(S.packed j.2.2.2 1).getD 0 S.none_]).length<=4000000 by rw[jaf,jaf,jaf,jaf];show _+1+_+1+1<=_;omega),jab];simp only;rw[show S.inI (Int.ofNat 0) (Int.ofNat 0) (Int.ofNat 1000000)=true from rfl,jb1,qcc (show (X++[S.sync]++Y++[S.sync]++S.puts (b:Int) [(S.packed j.2.2.2 1).getD 0 S.none_]++[S.sync]).length<=1000000 by rw[jaf,jaf,jaf,jaf,jaf];show _+1+_+1+1+1<=_;omega),jab];simp only[qv3,zqk,htop];rw[qcc (show (X++[S.sync]++Y++[S.sync]++S.puts (b:Int) [(S.packed j.2.2.2 1).getD 0 S.none_]++[S.sync]++S.puts (Int.ofNat 0) [topS (1-j.2.1)]).length<=4000000 by rw[jaf,jaf,jaf,jaf,jaf,jaf];show _+1+_+1+1+1+1<=_;omega),jab];simp only[qq9,jay];rfl
theorem quy{j:qad}{a u:Nat}(r:RJ j a u){l:List qaa}(hok:S.okC l=true):S.comG j l=true:=by
 have:=r.jn.le.1;have:=r.jn.dk.le;unfold S.comG;rw[jad,jad,qbm,r.used];exact⟨r.small,qlz hok,by omega⟩
theorem q10{j:qad}{a u:Nat}(r:RJ j a u):S.turG j=true:=by
 have h:=r.jn.hh;unfold S.turG;rw[jad,jad,jad,qbm];exact⟨r.small,qlz r.jn.le.2.1.1,by omega,jax r.jn.dk.ge⟩
theorem qjt{j:qad}{A:List DAct}{x:qad}{y:qah}(h:S.behind j A=(x,0))(k:S.doD j.1 A=(y,0)):S.behG j A=true:=by
 unfold S.behG;rw[h,k];rfl
theorem zp3{j:qad}{l:List qaa}(h1:S.right j=true)(h2:(S.size l).2=0):S.asked j l=0:=by
 unfold S.asked;rw[jan h1,h2]
theorem q9e{j:qad}{l:List qaa}:S.plan j l=if S.asked j l=0 then (match S.commit j l with
  | some a=>(a,0)
  | none=>([],14)) else ([],S.asked j l):=by
 unfold S.plan S.asked;by_cases h1:S.right j=true
 ·rw[jan h1,jan h1];by_cases h2:(S.size l).2=0
  ·rw[jan h2,jan h2];cases S.commit j l<;>rfl
  ·rw[jao h2,jao h2]
 ·rw[jao h1,jao h1,jao (by decide)]
theorem qro{j:qad}{l:List qaa}(h:S.asked j l=0):S.right j=true/\(S.size l).2=0:=by
 unfold S.asked at h;by_cases h1:S.right j=true
 ·rw[jan h1] at h;exact⟨h1,h⟩
 ·rw[jao h1] at h;cases h
theorem zhe(lf:Nat)(j:qad)(l:List qaa):qms lf j l=some ((S.plan j l).1,(S.plan j l).2,()):=by
 simp only[qms,qz4];show cond (!ieqI (S.asked j l) _) (some (_,S.asked j l,())) (match (cond (S.comG j l) (some ((S.actsB (S.commit j l)).1,((S.actsB (S.commit j l)).2,()))) none) with|none=>none|some v=>_)=_;rw[q9e];by_cases h0:S.asked j l=0
 ·obtain⟨h1,h2⟩:=qro h0;obtain⟨a,u,r⟩:=qe9 h1;rw[qbh (show S.asked j l=Int.ofNat 0 from h0),ja1,jah,quy r (qtl h2).1,jab,jan h0];simp only;cases S.commit j l<;>rfl
 ·rw[qbj (show ¬S.asked j l=Int.ofNat 0 from h0),ja3,jab,jao h0]
theorem zkz{j:qad}{l:List qaa}(h:(S.plan j l).2=0):S.right j=true/\(S.size l).2=0/\∃A,S.commit j l=some A/\S.plan j l=(A,0):=by
 rw[q9e] at h ⊢;by_cases h0:S.asked j l=0
 ·obtain⟨h1,h2⟩:=qro h0;rw[jan h0] at h ⊢;cases hc:S.commit j l with
  | none=>rw[hc] at h;cases h
  | some A=>exact⟨h1,h2,A,rfl,rfl⟩
 ·rw[jao h0] at h;exact absurd h h0
theorem zn1(lf:Nat)(j:qad)(l:List qaa):qpj lf j l=some ((S.commitJ j l).1,(S.commitJ j l).2,()):=by
 simp only[qpj,q5s];show cond (!ieqI (S.plan j l).2 _) (some (S.noJ,(S.plan j l).2,())) (match (cond (S.behG j (S.plan j l).1) (some ((S.behind j (S.plan j l).1).1,())) none) with|none=>none|some v=>_)=_;unfold S.commitJ;by_cases h0:(S.plan j l).2=0
 ·obtain⟨h1,h2,A,h3,h4⟩:=zkz h0;obtain⟨a,u,r⟩:=qe9 h1;rcases qub r (qtl h2).1 with ⟨c1,_⟩|⟨A',c1,_,_,c4,c5,_⟩
  ·rw[h3] at c1;cases c1
  ·have:A'=A:=by rw[h3] at c1;cases c1;rfl
   subst this;rw[jan h0,h4,show ieqI (A',(0:Int)).2 (Int.ofNat 0)=true from rfl,ja1,jah,qjt c5 c4,jab,c5];rfl
 ·rw[qbj (show ¬(S.plan j l).2=Int.ofNat 0 from h0),ja3,jab,jao h0]
theorem zo3{j:qad}:S.planTurn j=if S.errR j=0 then (match S.turn j with
  | some a=>(a,0)
  | none=>([],14)) else ([],S.errR j):=by
 unfold S.planTurn S.errR;by_cases h1:S.right j=true
 ·rw[jan h1,jan h1,jan rfl];cases S.turn j<;>rfl
 ·rw[jao h1,jao h1,jao (by decide)]
theorem zcq{j:qad}(h:S.errR j=0):S.right j=true:=jcj fun e=>by rw[qer e] at h;cases h
theorem zc3(lf:Nat)(j:qad):qnh lf j=some ((S.planTurn j).1,(S.planTurn j).2,()):=by
 simp only[qnh,q6s];show cond (!ieqI (S.errR j) _) (some (_,S.errR j,())) (match (cond (S.turG j) (some ((S.actsB (S.turn j)).1,((S.actsB (S.turn j)).2,()))) none) with|none=>none|some v=>_)=_;rw[zo3];by_cases h0:S.errR j=0
 ·obtain⟨a,u,r⟩:=qe9 (zcq h0);rw[qbh (show S.errR j=Int.ofNat 0 from h0),ja1,jah,q10 r,jab,jan h0];simp only;cases S.turn j<;>rfl
 ·rw[qbj (show ¬S.errR j=Int.ofNat 0 from h0),ja3,jab,jao h0]
theorem zmi(lf:Nat)(j:qad):qqg lf j=some ((S.turnJ j).1,(S.turnJ j).2,()):=by
 simp only[qqg,q17];show cond (!ieqI (S.planTurn j).2 _) (some (S.noJ,(S.planTurn j).2,())) (match (cond (S.behG j (S.planTurn j).1) (some ((S.behind j (S.planTurn j).1).1,())) none) with|none=>none|some v=>_)=_;by_cases h0:(S.planTurn j).2=0
 ·have h1:S.right j=true:=by
   unfold S.planTurn at h0;by_cases h1:S.right j=true
   ·exact h1
   ·rw[jao h1] at h0;cases h0
  obtain⟨a,u,r⟩:=qe9 h1;rcases qyw r h1 with ⟨_,_,t3,_⟩|⟨b,t1,t2,t3,t4,t5,_⟩
  ·rw[t3] at h0;cases h0
  ·have hb:S.behind j (turA j.1.1 (1-j.2.1) b j.2.2.2)=S.turnJ j:=by
    unfold S.turnJ;rw[t3];rfl
   rw[t3,show ieqI (turA j.1.1 (1-j.2.1) b j.2.2.2,(0:Int)).2 (Int.ofNat 0)=true from rfl,ja1,jah,qjt (hb.trans t5) t4,jab,hb,t5];rfl
 ·rw[qbj (show ¬(S.planTurn j).2=Int.ofNat 0 from h0),ja3,jab];unfold S.turnJ;rw[jao h0]
theorem zo9(lf:Nat)(j:qad)(l:List qaa):qoj lf j l=some ((S.save j l).1,(S.save j l).2,()):=by
 simp only[qoj,q7v];show cond (!ieqI (S.asked j l) _) (some (S.noJ,S.asked j l,())) (match (cond (S.comG j l) (some ((S.actsB (S.commit j l)).1,((S.actsB (S.commit j l)).2,()))) none) with|none=>none|some v=>_)=_;unfold S.save;by_cases h0:S.asked j l=0
 ·obtain⟨h1,h2⟩:=qro h0;obtain⟨a,u,r⟩:=qe9 h1;have hok:=(qtl h2).1;rw[qbh (show S.asked j l=Int.ofNat 0 from h0),ja1,jah,quy r hok,jab,jan h1,jan h2];simp only;rcases qub r hok with ⟨c1,_⟩|⟨A,c1,_,_,c4,c5,_⟩
  ·rw[c1];show (match (cond (S.turG j) (some ((S.actsB (S.turn j)).1,((S.actsB (S.turn j)).2,()))) none) with|none=>none|some t=>_)=_;rw[q10 r,jab];simp only;rcases qyw r h1 with ⟨t1,t2,t3,_⟩|⟨b,t1,t2,t3,t4,t5,t6⟩
   ·rw[t1,t2];rfl
   ·have hb:S.behind j (turA j.1.1 (1-j.2.1) b j.2.2.2)=S.turnJ j:=by
     unfold S.turnJ;rw[t3];rfl
    have h5:(S.turnJ j).2=0:=by rw[t5]
    have hr:S.right (S.turnJ j).1=true:=by rw[t5];exact t6.right
    obtain⟨a',u',r'⟩:=qe9 hr;rw[t2,jan h5];show cond (!true) _ (match (cond (S.behG j (turA j.1.1 (1-j.2.1) b j.2.2.2)) (some ((S.behind j (turA j.1.1 (1-j.2.1) b j.2.2.2)).1,())) none) with|none=>none|some q=>_)=_;rw[ja1,jah,qjt (hb.trans t5) t4,jab,hb];simp only;show (match (cond (S.comG (S.turnJ j).1 l) (some ((S.actsB (S.commit (S.turnJ j).1 l)).1,((S.actsB (S.commit (S.turnJ j).1 l)).2,()))) none) with|none=>none|some q=>_)=_;rw[quy r' hok,jab];simp only;rcases qub r' hok with ⟨d1,_⟩|⟨A,d1,_,_,d4,d5,_⟩
    ·rw[d1];rfl
    ·rw[d1];show cond (!true) _ (match (cond (S.behG (S.turnJ j).1 A) (some ((S.behind (S.turnJ j).1 A).1,())) none) with|none=>none|some q=>_)=_;rw[ja1,jah,qjt d5 d4,jab];show some ((S.behind (S.turnJ j).1 A).1,(0:Int),())=some ((S.behind (S.turnJ j).1 A).1,(S.behind (S.turnJ j).1 A).2,());rw[d5]
  ·rw[c1];show (match (cond (S.behG j A) (some ((S.behind j A).1,())) none) with|none=>none|some q=>_)=_;rw[qjt c5 c4,jab];show some ((S.behind j A).1,(0:Int),())=some ((S.behind j A).1,(S.behind j A).2,());rw[c5]
 ·rw[qbj (show ¬S.asked j l=Int.ofNat 0 from h0),ja3,jab];unfold S.asked;by_cases h1:S.right j=true
  ·have h2:¬(S.size l).2=0:=fun e=>h0 (zp3 h1 e);rw[jan h1,jan h1,jao h2]
  ·rw[jao h1,jao h1]
theorem qlp:Con Tryz.prog zsf qqh:=zc8 ⟨zfo,trivial⟩ fun x y hx h=>⟨0,h⟩
theorem zpe(a b:List qaa)(ha:a.length<LF):Fz18 LF a b=some (S.sameC a b,()):=by
 simp only[Fz18,qte];unfold S.sameC;by_cases e:a.length=b.length
 ·rw[qbh (show Int.ofNat a.length=Int.ofNat b.length from jav Int.ofNat e),ja1,jah];refine(q0w a b e ha (some (true,())) (some (false,())) (fun K=>?_) (fun K i v w h1 h2 h3 h4=>?_)).trans ?_
  ·simp only[qn9,qch,jah]
  ·simp only[qn9,h1,h2,h3,h4,jab,q49];cases decide (v=w)<;>rfl
  ·cases decide (a=b)<;>rfl
 ·rw[qbj (show ¬Int.ofNat a.length=Int.ofNat b.length from fun h=>e (jdo h)),ja3,jab,jar (fun h=>e (jav List.length h))]
theorem zen:Con Tryz.prog zfm qzi:=zbi trivial fun x y hx h=>⟨LF,(zpe x.1 x.2.1 (qdd (c:=qac) hx.1)).trans h⟩
theorem q50:Con Tryz.prog zrb qyl:=zj8 ⟨qke,qlp,qqt,trivial⟩ qw2 qvv fun x y hx h=>⟨0,(znh 0 x.1).trans h⟩
theorem q3z:Con Tryz.prog zg8 qwy:=zqu ⟨qqt,q8g,qp1,q22,qlp,trivial⟩ qw2 qvv fun x y hx h=>⟨0,by
 obtain⟨h1,h2⟩:=qa8 (show cond (S.comG x.1 x.2.1) (some ((S.actsB (S.commit x.1 x.2.1)).1,(S.actsB (S.commit x.1 x.2.1)).2,())) none=some y from h);exact(znp 0 x.1 x.2.1 h1).trans (jav some h2)⟩
theorem qei{P:Program}{f:Nat}{p:List TC}{r:List (Bool × TC)}{g g':ElA p->Option (ElR r)}(h:Con P f ⟨p,r,g⟩)(hg:∀x y,g' x=some y->g x=some y):Con P f ⟨p,r,g'⟩ :=
 ⟨h.callable,fun M w x us y hy hM hgl hv=>h.calls M w x us y (hg x y hy) hM hgl hv⟩
section
variable (hR : Con Tryz.prog 76 qi0) (hO : Con Tryz.prog 61 qgr)
include hR in
theorem q4e:Con Tryz.prog zkx qzq:=zb9 ⟨qmc,qlp,hR,trivial⟩ fun x y hx h=>⟨0,(zqc 0 x.1).trans h⟩
include hO in
theorem qr2:Con Tryz.prog zab qnw:=ziv ⟨qke,hO,zen,trivial⟩ fun x y hx h=>⟨0,(zh4 0 x.1).trans h⟩
include hO in
theorem qp7:Con Tryz.prog zgd q1u:=zhc ⟨qke,hO,trivial⟩ fun x y hx h=>⟨0,(zbk 0 x.1).trans h⟩
include hO in
include hO in
theorem zed:Con Tryz.prog zcy zeb:=zj4 ⟨qr2 hO,q8g,trivial⟩ fun x y hx h=>⟨0,(zcn 0 x.1).trans h⟩
include hO in
theorem q6u:Con Tryz.prog ze8 quv:=zrp ⟨qr2 hO,q2k,trivial⟩ fun x y hx h=>⟨0,(zex 0 x.1 x.2.1).trans h⟩
include hR in
theorem q4w:Con Tryz.prog zoo qtp:=zrc ⟨qqt,qp1,q22,qlp,hR,trivial⟩ qvv fun x y hx h=>⟨0,by
 obtain⟨h1,h2⟩:=qa8 (show cond (S.turG x.1) (some ((S.actsB (S.turn x.1)).1,(S.actsB (S.turn x.1)).2,())) none=some y from h);exact(zli 0 x.1 h1).trans (jav some h2)⟩
include hO in
theorem qsn:Con Tryz.prog zql qnj:=zgh ⟨qkf,hO,trivial⟩ fun x y hx h=>⟨0,by
 obtain⟨h1,h2⟩:=qa8 (show cond (S.behG x.1 x.2.1) (some ((S.behind x.1 x.2.1).1,())) none=some y from h);exact(zko 0 x.1 x.2.1 h1).trans (jav some h2)⟩
include hO in
theorem qtt:Con Tryz.prog za5 q8k:=zne ⟨q6u hO,q3z,trivial⟩ fun x y hx h=>⟨0,(zhe 0 x.1 x.2.1).trans h⟩
include hO in
theorem zqs:Con Tryz.prog znl zld:=zi2 ⟨qtt hO,qsn hO,trivial⟩ fun x y hx h=>⟨0,(zn1 0 x.1 x.2.1).trans h⟩
include hR hO in
theorem zlp:Con Tryz.prog zoi q1r:=zea ⟨qr2 hO,q4w hR,trivial⟩ fun x y hx h=>⟨0,(zc3 0 x.1).trans h⟩
include hR hO in
theorem zgz:Con Tryz.prog zp7 zbs:=zo5 ⟨zlp hR hO,qsn hO,trivial⟩ fun x y hx h=>⟨0,(zmi 0 x.1).trans h⟩
include hR hO in
theorem q9o:Con Tryz.prog zmo zp1:=zsm ⟨q6u hO,q3z,q4w hR,qsn hO,trivial⟩ fun x y hx h=>⟨0,(zo9 0 x.1 x.2.1).trans h⟩
end
theorem zpv(lf:Nat):qvg lf=some (true,()):=by kernel_rfl
theorem q57{a b:List qaa}(h:S.sameC a b=true):a=b:=jaz h
theorem qqd{a b:qah}(h:S.sameD a b=true):a=b:=jaz h
theorem qnx{a b:qad}(h:S.sameJ a b=true):a=b:=jaz h
theorem zot{a b:List DAct}(h:S.sameA a b=true):a=b:=jaz h
theorem zfl:(S.plan S.madeJ S.hC).2=0:=by kernel_rfl
theorem hDo:(S.doD S.madeJ.1 (S.hL.take 4)).2=0:=by kernel_rfl
theorem hCr0:(S.crash S.hD [0]).2=0:=by kernel_rfl
theorem hCr1:(S.crash S.hD [1]).2=0:=by kernel_rfl
theorem hOp0:(S.open_ S.hLost).2=0:=by kernel_rfl
theorem hOp1:(S.open_ S.hKept).2=0:=by kernel_rfl
theorem hOpE:S.sameD S.hKept S.hLost=false:=by kernel_rfl
theorem hOpF:S.sameD S.hLost S.hLost=true:=by kernel_rfl
theorem hCom:(S.commitJ S.hY S.hG).2=0:=by kernel_rfl
theorem zsj:S.room S.hZ=(0,0):=by kernel_rfl
theorem zhk:(S.turnJ S.hZ).2=0:=by kernel_rfl
theorem q9v{d:qah}{k:List Int}(h:S.gCrash d k=true):some ((S.crash d k).1,(S.crash d k).2,())=some (S.hCr k,(0:Int),()):=by
 unfold S.gCrash at h;rw[jad,jec] at h;have e1:=qqd h.1;subst e1;rcases h.2 with e2|e2
 ·have e2:=jaz e2;subst e2;rw[hCr0];rfl
 ·have e2:=jaz e2;subst e2;rw[hCr1];rfl
section
variable (hR : Con Tryz.prog 76 qi0) (hO : Con Tryz.prog 61 qgr)
include hO in
theorem zji:Con Tryz.prog 24 q1y:=qei (qtt hO) fun x y h=>by
 obtain⟨h1,rfl⟩:=qa8 (show cond (S.gPlan x.1 x.2.1) (some (S.hL,(0:Int),())) none=some y from h);obtain⟨a,b,_⟩:=x;unfold S.gPlan at h1;rw[jad] at h1;have e1:=qnx h1.1;have e2:=q57 h1.2;show some ((S.plan a b).1,(S.plan a b).2,())=_;rw[show a=S.madeJ from e1,show b=S.hC from e2,zfl];rfl
theorem zkl:Con Tryz.prog 32 q24:=qei qkf fun x y h=>by
 obtain⟨h1,rfl⟩:=qa8 (show cond (S.gDo x.1 x.2.1) (some (S.hD,(0:Int),())) none=some y from h);obtain⟨a,b,_⟩:=x;unfold S.gDo at h1;rw[jad] at h1;have e1:=qqd h1.1;have e2:=zot h1.2;show some ((S.doD a b).1,(S.doD a b).2,())=_;rw[show a=S.madeJ.1 from e1,show b=S.hL.take 4 from e2,hDo];rfl
theorem zid:Con Tryz.prog 34 q02:=qei q0r fun x y h=>by
 obtain⟨h1,rfl⟩:=qa8 (show cond (S.gCrash x.1 x.2.1) (some (S.hCr x.2.1,(0:Int),())) none=some y from h);exact q9v h1
include hO in
theorem zrm:Con Tryz.prog 13 q8i:=qei (qp7 hO) fun x y h=>by
 obtain⟨h1,rfl⟩:=qa8 (show cond (S.gOpen x.1) (some (S.hOp x.1,(0:Int),())) none=some y from h);obtain⟨a,_⟩:=x;unfold S.gOpen at h1;rw[jec] at h1;show some ((S.open_ a).1,(S.open_ a).2,())=some (cond (S.sameD a S.hLost) S.hX S.hY,0,());rcases h1 with e|e
 ·rw[show a=S.hLost from qqd e,hOp0,hOpF];rfl
 ·rw[show a=S.hKept from qqd e,hOp1,hOpE];rfl
include hO in
theorem zmz:Con Tryz.prog 26 q0o:=qei (zqs hO) fun x y h=>by
 obtain⟨h1,rfl⟩:=qa8 (show cond (S.gCom x.1 x.2.1) (some (S.hZ,(0:Int),())) none=some y from h);obtain⟨a,b,_⟩:=x;unfold S.gCom at h1;rw[jad] at h1;have e1:=qnx h1.1;have e2:=q57 h1.2;show some ((S.commitJ a b).1,(S.commitJ a b).2,())=_;rw[show a=S.hY from e1,show b=S.hG from e2,hCom];rfl
include hO in
theorem zig:Con Tryz.prog 20 q65:=qei (zed hO) fun x y h=>by
 obtain⟨h1,rfl⟩:=qa8 (show cond (S.gZ x.1) (some ((0:Int),(0:Int),())) none=some y from h);obtain⟨a,_⟩:=x;show some ((S.room a).1,(S.room a).2,())=_;rw[show a=S.hZ from qnx h1,zsj];rfl
include hR hO in
theorem zhu:Con Tryz.prog 41 q6t:=qei (zgz hR hO) fun x y h=>by
 obtain⟨h1,rfl⟩:=qa8 (show cond (S.gZ x.1) (some (S.hT,(0:Int),())) none=some y from h);obtain⟨a,_⟩:=x;show some ((S.turnJ a).1,(S.turnJ a).2,())=_;rw[show a=S.hZ from qnx h1,zhk];rfl
include hR hO in
theorem zom:Con Tryz.prog q71 q8v:=q8q ⟨q4e hR,q50,qkf,qp7 hO,trivial⟩ fun x y hx h=>⟨0,by
 obtain⟨h1,rfl⟩:=qa8 (show cond (S.inI x.1 8 8) (some (S.madeJ,true,())) none=some y from h);obtain⟨h2,h3⟩:=qbm.1 h1;rw[show x.1=(8:Int) from Int.le_antisymm h3 h2];exact zrz 0⟩
include hR hO in
theorem zm3:Con Tryz.prog zba q2e:=zkh ⟨zom hR hO,q2k,zji hO,zkl,zid,zrm hO,zmz hO,zig hO,zhu hR hO,trivial⟩ fun x y hx h=>⟨0,(zpv 0).trans h⟩
end
theorem zkf(l:List qaa)(k:Int)(hl:l.length<LF):Fz1 LF l k=some (S.namesC l k,()):=by
 simp only[Fz1,qvk];refine(qsr (T:=fun K p=>qjq LF l k K p) l (fun rest _=>some (S.namesC rest k,())) hl (fun K=>?_) (fun K i v rest r h=>?_)).trans rfl
 ·simp only[qjq,qch,jah];rfl
 ·simp only[qjq,r.ilt,r.get,r.next,jab];show _=some (decide (v.1=k)||S.namesC rest k,());by_cases e:v.1=k
  ·rw[qbh e,jab,jal e];rfl
  ·rw[qbj e,jah,h,jar e];rfl
theorem zah:Con Tryz.prog idz1 spz1:=mkz1 trivial fun x y hx h=>⟨LF,(zkf x.1 x.2.1 (qdd (c:=qac) hx.1)).trans h⟩
theorem zcx(l:List (List DChg))(hl:l.length<LF):Fz2 LF l=some (S.brief l,()):=by
 simp only[Fz2,qrq];refine(qsr (T:=fun K p=>qkd LF l K p) l (fun rest _=>some (rest.all (fun x=>Nat.ble x.length 10)&&Nat.ble l.length 12,())) hl (fun K=>?_) (fun K i v rest r h=>?_)).trans rfl
 ·simp only[qkd,qch,jah,q7f];rfl
 ·simp only[qkd,r.ilt,r.get,r.next,jab];rw[jdu];have:iltI (Int.ofNat 10) (Int.ofNat v.length)=!Nat.ble v.length 10:=by rw[<- q7f,Bool.not_not]
  rw[this,h];cases Nat.ble v.length 10<;>rfl
theorem zfp:Con Tryz.prog idz2 spz2:=mkz2 trivial fun x y hx h=>⟨LF,(zcx x.1 (qdd (c:=.list cChg) hx.1)).trans h⟩
theorem zjq(lf:Nat){n:Int}(h:S.evn n=true):qhi lf n=some (S.madeN n,true,()):=by
 obtain⟨h1,h2,h3,h4⟩:=q8h h;simp only[qhi,qwr];show cond (ieqI (S.newDisk n).2 _) (cond (ieqI (S.format (S.newDisk n).1).2 _) (cond (ieqI (S.doD (S.newDisk n).1 (S.format (S.newDisk n).1).1).2 _) (some ((S.open_ (S.madeD_ n)).1,ieqI (S.open_ (S.madeD_ n)).2 _,())) _) _) _=_;rw[h1,h2,h3,h4];rfl
theorem zil(d:qah)(l:List DAct)(m:Int)(k:List Int)(h:S.cutG d l m=true)(hk:∀x∈k,0<=x/\x<=255)(hl:k.length<=200):Fz5 LF d l m k=some ((S.cut d l m k).1,decide ((S.cut d l m k).2=0),()):=by
 unfold S.cutG at h;rw[jad,qbm] at h;have h2:=jaz h.2;have hs:lsub l (Int.ofNat 0) m=l.take m.toNat:=rfl;simp only[Fz5,qwg,hs];have hc:lchk (Int.ofNat 0) m (Int.ofNat l.length) (Int.ofNat l.length)=true:=by
  have h0:=h.1;unfold lchk;simp only[Int.ofNat_eq_natCast];simp;omega
 rw[hc,jab,qbh (show (S.doD d (l.take m.toNat)).2=Int.ofNat 0 from h2),ja1,jah];have e:∀i,(k.take i).map (fun x=>Int.tmod (IntKind.i64.wrap x) (Int.ofNat 65))=(k.take i).map (· % 65):=fun i=>jdh fun x hx=>by
  have:=hk x (jca hx);rw[wrap_in (by omega)];exact jdg this.1
 have hlen:(k.take (S.doD d (l.take m.toNat)).1.2.length).length<LF:=by rw[jbc];unfold LF;omega
 have key:=range0 (T:=fun K p=>qjx LF d l m k K p) (σ:=List Int) (k.take (S.doD d (l.take m.toNat)).1.2.length) (fun i s=>(i,s)) (fun i s=>s=(k.take i).map fun x=>Int.tmod (IntKind.i64.wrap x) (Int.ofNat 65)) (fun rest i s=>some ((S.cut d l m k).1,decide ((S.cut d l m k).2=0),())) hlen (fun K s hI=>?_) (fun K i v rest s hI r h=>?_) [] rfl
 ·exact key
 ·have hx:s=(k.take (S.doD d (l.take m.toNat)).1.2.length).map (· % 65):=by
   rw[hI,e,jbc];rcases Nat.le_total (S.doD d (l.take m.toNat)).1.2.length k.length with hq|hq
   ·rw[jcn hq]
   ·rw[Nat.min_eq_right hq,jbt (jaq _),jbt hq]
  have hf:some (((S.crash (S.doD d (l.take m.toNat)).1 s).1.1,(S.crash (S.doD d (l.take m.toNat)).1 s).1.2),ieqI (S.crash (S.doD d (l.take m.toNat)).1 s).2 (Int.ofNat 0),())=some ((S.cut d l m k).1,decide ((S.cut d l m k).2=0),()):=by
   rw[hx,qdq];rfl
  simp only[qjx,hs];rw[jbc];rcases jb0 k.length (S.doD d (l.take m.toNat)).1.2.length with hq|hq
  ·rw[Nat.min_eq_right (by omega),show iltI (Int.ofNat k.length) (Int.ofNat (S.doD d (l.take m.toNat)).1.2.length)=true by rw[qba];exact jal (by simp;omega),jab,qch,jah];exact hf
  ·rw[jcn hq,show iltI (Int.ofNat (S.doD d (l.take m.toNat)).1.2.length) (Int.ofNat (S.doD d (l.take m.toNat)).1.2.length)=false from qch _,jah];exact hf
 ·have h1:=r.lt;rw[jbc] at h1;have hg:k[i]?=some v:=by
   have:=r.get?;rw[List.getElem?_take_of_lt (by omega)] at this;exact this
  simp only[qjx,hs];rw[show iltI (Int.ofNat i) (Int.ofNat (S.doD d (l.take m.toNat)).1.2.length)=true by rw[qba];exact jal (by simp;omega),jab,show iltI (Int.ofNat i) (Int.ofNat k.length)=true by rw[qba];exact jal (by simp;omega),jab,qc6,hg];simp only;rw[r.next,show Nat.ble (Nat.mul (Nat.add s.length 1) 8) 140737488355328=true from ?_,jab]
  ·refine h _ ?_;rw[hI,List.take_add_one,hg,List.map_append];rfl
  ·rw[hI,jby,jbc];exact jax (by show (_+1)*8<=_;omega)
theorem qfu{k:IntKind}{n:Int}(h:WfE (.int k) n):k.min<=n/\n<=k.max:=by
 exact(qn0 k n).1 h
theorem zmm:Con Tryz.prog idz5 spz5:=mkz5 ⟨qkf,q0r,trivial⟩ fun x y hx h=>⟨LF,by
 obtain⟨h1,h2⟩:=qa8 (show cond (S.cutG x.1 x.2.1 x.2.2.1&&Nat.ble x.2.2.2.1.length 200) (some _) none=some y from h);rw[jad] at h1;rw[<- h2];exact zil x.1 x.2.1 x.2.2.1 x.2.2.2.1 h1.1 (fun z hz=>qfu (k:=.u8) (hx.2.2.2.1.2 z hz)) (jak h1.2)⟩
def chgB(l:List DChg):Prop:=∀c∈l,(0<=c.1/\c.1<=255)/\(0<=c.2.1/\c.2.1<=255)/\0<=c.2.2.1/\c.2.2.1<=255
theorem qwa{l:List DChg}(h:chgB l):ql7 l:=fun c hc=>(h c hc).2.1
theorem qn6{l:List DChg}(h:WfE (.list cChg) l):chgB l:=fun c hc=>by
 have:=h.2 c hc;exact⟨qfu (k:=.u8) this.1,qfu (k:=.u8) this.2.1,qfu (k:=.u8) this.2.2.1⟩
theorem outC{n:Nat}(h:n<=100000):Nat.ble (Nat.mul (Nat.add n 1) 32) 140737488355328=true:=jax (by show (n+1)*32<=_;omega)
theorem q0n(l:List DChg)(K3:(Int × List qaa)->Option Rtz3)(K6:(Int × Int × List qaa)->Option Rtz3){i:Int}{c:DChg}(hi:jget l i=some c)(hc:(0<=c.1/\c.1<=255)/\(0<=c.2.1/\c.2.1<=255)/\0<=c.2.2.1/\c.2.2.1<=255){k:Nat}(hk:k<25){out:List qaa}(ho:out.length<=1000) :
  ∀(m F n:Nat),n+m=c.2.1.toNat->m<F->(c.2.2.2=true->n=0)->qgk LF l K3 K6 F (c.2.2.2,i,(n:Int),qae (List.replicate n c.2.2.1),(k:Int),out,(k:Int))=K3 (Int.ofNat (k+1),out++[S.cellOf k c])
 | m,0,n,_,h,_=>by omega
 | m,F+1,n,hn,hF,hg=>by
  show qov LF l (qgk LF l K3 K6 F) K3 _=_;have hnext:IntKind.i64.wrap (Int.add (k:Int) (Int.ofNat 1))=Int.ofNat (k+1):=qkp (by unfold LF;omega);have hw:IntKind.i64.wrap c.2.1=c.2.1:=wrap_in (by omega);simp only[qov,hi,hw,hnext,outC (show out.length<=100000 by omega),jab];cases m with
  | zero =>
   rw[show iltI (n:Int) c.2.1=false by rw[qba];exact jar (by omega),jah];have:S.cellOf k c=((k:Int),qae (List.replicate n c.2.2.1),c.2.2.2):=by
    unfold S.cellOf;cases hb:c.2.2.2 with
    | true=>rw[hg hb];rfl
    | false=>rw[show c.2.1.toNat=n by omega];rfl
   rw[this];rfl
  | succ m =>
   rw[show iltI (n:Int) c.2.1=true by rw[qba];exact jal (by omega),jab];cases hb:c.2.2.2 with
   | true =>
    have:S.cellOf k c=((k:Int),qae (List.replicate n c.2.2.1),true):=by
     unfold S.cellOf;rw[hb,hg hb];rfl
    rw[this];rfl
   | false =>
    have ih:=q0n l K3 K6 hi hc hk ho m F (n+1) (by omega) (by omega) (fun e=>by rw[hb] at e;cases e);rw[hb] at ih;rw[ja3,jab,qbi,jbd,show Nat.ble (Nat.succ (Nat.add n 1)) 9223372036854775808=true from jax (by show n+1+1<=_;omega),jab,qv3,qey];have e1:IntKind.i64.wrap (Int.add (n:Int) (Int.ofNat 1))=((n+1:Nat):Int):=qkp (by unfold LF;omega);have e2:List.replicate n c.2.2.1++[c.2.2.1]=List.replicate (n+1) c.2.2.1:=by rw[List.replicate_succ']
    rw[e1,e2];exact ih
def S.cellAt(l:List DChg)(k:Nat):Option qaa:=(l.reverse.find? fun c=>decide (c.1 % 25=(k:Int))).map (S.cellOf k)
theorem q4x(l:List DChg)(hl:chgB l)(hlen:l.length<LF)(K3:(Int × List qaa)->Option Rtz3){k:Nat}(hk:k<25){out:List qaa}(ho:out.length<=1000) :
  ∀(n F:Nat),n<=l.length->n<F->qfm LF l K3 F ((n:Int)-1,(k:Int),out)=K3 (Int.ofNat (k+1),out++(S.cellAt (l.take n) k).toList)
 | n,0,_,h=>by omega
 | n,F+1,hn,hF=>by
  show qmk LF l (qfm LF l K3 F) (fun q=>qgk LF l K3 (qfm LF l K3 F) LF q) K3 _=_;have hnext:IntKind.i64.wrap (Int.add (k:Int) (Int.ofNat 1))=Int.ofNat (k+1):=qkp (by unfold LF;omega);simp only[qmk,hnext];cases n with
  | zero =>
   rw[show iltI (((0:Nat):Int)-1) (Int.ofNat 0)=true from rfl,ja1,jah];show _=K3 (_,out++[]);rw[jbl]
  | succ n =>
   have hb:n<l.length:=by omega
   have hi:jget l (((n+1:Nat):Int)-1)=some l[n]:=by
    rw[show ((n+1:Nat):Int)-1=Int.ofNat n by simp,qc6,jac hb]
   have hc:=hl _ (jbj hb);rw[show iltI (((n+1:Nat):Int)-1) (Int.ofNat 0)=false by rw[qba];exact jar (by simp),ja3,jab,hi];simp only;have ht:Int.tmod (IntKind.i64.wrap (l[n]).1) (Int.ofNat 25)=(l[n]).1 % 25:=by
    rw[wrap_in (by omega)];exact jdg hc.1.1
   have hca:S.cellAt (l.take (n+1)) k=if (l[n]).1 % 25=(k:Int) then some (S.cellOf k l[n]) else S.cellAt (l.take n) k:=by
    unfold S.cellAt;rw[jdx hb,List.reverse_append,List.reverse_singleton,List.singleton_append,List.find?_cons];by_cases e:(l[n]).1 % 25=(k:Int)
    ·rw[jal e,jan e];rfl
    ·rw[jar e,jao e]
   rw[ht,hca];by_cases e:(l[n]).1 % 25=(k:Int)
   ·rw[qbh e,ja1,jah,jan e];exact q0n l K3 _ hi hc hk ho (l[n]).2.1.toNat LF 0 (by omega) (by unfold LF;omega) fun _=>rfl
   ·rw[qbj e,ja3,jab,jao e];have e1:IntKind.i64.wrap (Int.sub (((n+1:Nat):Int)-1) (Int.ofNat 1))=(n:Int)-1:=by
     rw[show Int.sub (((n+1:Nat):Int)-1) (Int.ofNat 1)=(n:Int)-1 from (show ((n+1:Nat):Int)-1-1=(n:Int)-1 by omega)];exact wrap_in (by unfold LF at hlen;omega)
    rw[e1];exact q4x l hl hlen K3 hk ho n F (by omega) (by omega)
theorem q2l(l:List DChg)(hl:chgB l)(hlen:l.length<LF):∀(m F k:Nat) (out:List qaa),k+m=25->out.length<=k->m<F->qhb LF l F (Int.ofNat k,out)=some (out++(List.range' k m).filterMap (S.cellAt l),())
 | m,0,k,out,_,_,h=>by omega
 | m,F+1,k,out,hm,ho,hF=>by
  show qpu LF l (fun q=>qfm LF l (qhb LF l F) LF q) _=_;simp only[qpu];cases m with
  | zero =>
   rw[show iltI (Int.ofNat 24) (Int.ofNat k)=true by rw[qba];exact jal (by simp;omega),ja1,jah];show _=some (out++[],());rw[jbl]
  | succ m =>
   rw[show iltI (Int.ofNat 24) (Int.ofNat k)=false by rw[qba];exact jar (by simp;omega),ja3,jab];have e1:IntKind.i64.wrap (Int.sub (Int.ofNat l.length) (Int.ofNat 1))=(l.length:Int)-1:=by
    rw[show Int.sub (Int.ofNat l.length) (Int.ofNat 1)=(l.length:Int)-1 from rfl];exact wrap_in (by unfold LF at hlen;omega)
   rw[e1];refine(q4x l hl hlen _ (k:=k) (by omega) (by omega) l.length LF (jaq _) hlen).trans ?_;rw[jbt (jaq _),q2l l hl hlen m F (k+1) _ (by omega) (by
    rw[jaf];cases S.cellAt l k with
    | none=>show _+0<=_;omega
    | some c=>show _+1<=_;omega) (by omega),jay,List.range'_succ,List.filterMap_cons]
   cases S.cellAt l k<;>rfl
theorem zgk(l:List DChg)(hl:chgB l)(hlen:l.length<LF):Fz3 LF l=some (S.cells l,()):=by
 simp only[Fz3,qs7];refine(q2l l hl hlen 25 LF 0 [] rfl (jaq _) (by unfold LF;omega)).trans ?_;rw[jci,<- jeh];rfl
theorem q7y:Con Tryz.prog idz3 spz3:=mkz3 trivial fun x y hx h=>⟨LF,(zgk x.1 (qn6 hx.1) (qdd (c:=cChg) hx.1)).trans h⟩
theorem znt(was l:List qaa)(hlen:l.length<=200)(K3:(Int × List qaa)->Option Rtz4){k:Nat}(hk:k<200){out:List qaa}(ho:out.length<=500) :
  qh6 LF was l K3 LF (out,Int.ofNat 0,(k:Int))=K3 (Int.ofNat (k+1),out++l.filter fun c=>decide (c.1=(k:Int))&&!c.2.2):=by
 have hnext:IntKind.i64.wrap (Int.add (k:Int) (Int.ofNat 1))=Int.ofNat (k+1):=qkp (by unfold LF;omega);refine range0 (T:=fun K p=>qk2 LF was l K K3 p) l (fun i s=>(s,i,(k:Int))) (fun i s=>s.length<=500+i) (fun rest i s=>K3 (Int.ofNat (k+1),s++rest.filter fun c=>decide (c.1=(k:Int))&&!c.2.2)) (by unfold LF;omega) (fun K s hI=>?_) (fun K i v rest s hI r h=>?_) out ho
 ·simp only[qk2,qch,jah,hnext];rw[List.filter_nil,jbl]
 ·have hi:=r.lt;simp only[qk2,r.ilt,r.get,r.next,jab,outC (show s.length<=100000 by omega)];rw[je9];by_cases e:v.1=(k:Int)
  ·rw[qbh e,jab,jal e,jb1];cases hb:v.2.2 with
   | true =>
    rw[ja1,jah,jao (by decide)];exact h s (by omega)
   | false =>
    rw[ja3,jab,jan rfl];have hv:((v.1,v.2.1,false):qaa)=v:=by rw[<- hb]
    show K (s++[(v.1,v.2.1,false)],Int.ofNat (i+1),(k:Int))=_;rw[hv];have:=h (s++[v]) (by rw[jaf];show s.length+1<=_;omega);rw[jay] at this;exact this
  ·rw[qbj e,jah,jar e,jcx,jao jey];exact h s (by omega)
theorem zoq(was l:List qaa)(hw:was.length<=200)(hlen:l.length<=200)(K3:(Int × List qaa)->Option Rtz4){k:Nat}(hk:k<200){out:List qaa}(ho:out.length<=250) :
  qit LF was l K3 LF (Int.ofNat 0,out,(k:Int))=K3 (Int.ofNat (k+1),out++S.afterK was l k):=by
 refine(range0 (T:=fun K p=>qk9 LF was l K (fun q=>qh6 LF was l K3 LF q) p) was (fun i s=>(i,s,(k:Int))) (fun i s=>s.length<=250+i)
  (fun rest i s=>K3 (Int.ofNat (k+1),(s++rest.filter fun c=>decide (c.1=(k:Int))&&!S.namesC l (k:Int))++l.filter fun c=>decide (c.1=(k:Int))&&!c.2.2)) (by unfold LF;omega) (fun K s hI=>?_) (fun K i v rest s hI r h=>?_) out ho).trans ?_
 ·simp only[qk9,qch,jah];rw[List.filter_nil,jbl];exact znt was l hlen K3 hk (by omega)
 ·have hi:=r.lt;simp only[qk9,r.ilt,r.get,r.next,jab,outC (show s.length<=100000 by omega)];rw[je9];by_cases e:v.1=(k:Int)
  ·rw[qbh e,jab,jal e,jb1];cases hb:S.namesC l (k:Int) with
   | true =>
    rw[ja1,jah,jao (by decide)];have:=h s (by omega);rw[hb] at this;exact this
   | false =>
    rw[ja3,jab,jan rfl];have:=h (s++[v]) (by rw[jaf];show s.length+1<=_;omega);rw[hb,jay s [v]] at this;exact this
  ·rw[qbj e,jah,jar e,jcx,jao jey];exact h s (by omega)
 ·rw[jay];rfl
theorem q6f{was l:List qaa}(hw:okS was (-1))(hl:S.okC l=true):∀(m F k:Nat),k+m=200->m<F->qhz LF was l F (Int.ofNat k,(List.range' 0 k).flatMap (S.afterK was l))=some (S.after was l,())
 | m,0,k,_,h=>by omega
 | m,F+1,k,hm,hF=>by
  show qq2 LF was l (fun q=>qit LF was l (qhz LF was l F) LF q) _=_;simp only[qq2];cases m with
  | zero =>
   rw[show iltI (Int.ofNat 199) (Int.ofNat k)=true by rw[qba];exact jal (by simp;omega),ja1,jah];unfold S.after;rw[jeh,show k=200 by omega]
  | succ m =>
   rw[show iltI (Int.ofNat 199) (Int.ofNat k)=false by rw[qba];exact jar (by simp;omega),ja3,jab];have ho:((List.range' 0 k).flatMap (S.afterK was l)).length<=200:=qn7 (qnu (fun i _=>q56 hw hl i) k 0 (by omega));refine(zoq was l (qn7 hw.1) (qn7 hl) _ (k:=k) (by omega) (by omega)).trans ?_;rw[show (List.range' 0 k).flatMap (S.afterK was l)++S.afterK was l k=(List.range' 0 (k+1)).flatMap (S.afterK was l) by
    rw[List.range'_concat,List.flatMap_append,List.flatMap_singleton,jea,jbm]]
   exact q6f hw hl m F (k+1) (by omega) (by omega)
theorem zmu:Con Tryz.prog idz4 spz4:=mkz4 ⟨zah,trivial⟩ fun x y hx h=>⟨LF,by
 obtain⟨h1,h2⟩:=qa8 (show cond (S.mrg x.1 x.2.1) (some (S.after x.1 x.2.1,())) none=some y from h);obtain⟨hw,hl⟩:=zrn h1;rw[<- h2];simp only[Fz4,qse];exact q6f hw hl 200 LF 0 rfl (by unfold LF;omega)⟩
theorem mul2(a:Int):Int.mul (Int.ofNat 2) a=2*a:=rfl
theorem add8(a:Int):Int.add (Int.ofNat 8) a=8+a:=rfl
theorem zgn(s:Int)(l:List (List DChg))(hs:0<=s/\s<=255)(hl:∀x∈l,chgB x)(hlen:l.length<LF):Fz6 LF s l=some (S.played s l,true,()):=by
 have ht:Int.tmod s (Int.ofNat 17)=s % 17:=jdg hs.1;have hn:IntKind.i64.wrap (Int.add (Int.ofNat 8) (IntKind.i64.wrap (Int.mul (Int.ofNat 2) (IntKind.i64.wrap (Int.tmod s (Int.ofNat 17))))))=8+2*(s % 17):=by
  rw[ht,wrap_in (n:=s % 17) (by omega),mul2,wrap_in (n:=2*(s % 17)) (by omega),add8];exact wrap_in (by omega)
 unfold Fz6 qvi;rw[hn,qra hs,jab];have hj:=q4z (qra hs);show _=some (l.foldl S.playStep (S.madeN (8+2*(s % 17))),true,())
 revert hj
 generalize S.madeN (8+2*(s % 17))=j0;intro hj;refine range0 (T:=fun K p=>qln LF s l K p) (σ:=qad) l (fun i j=>(true,j.1.2,j.1.1,j.2.1,j.2.2.2,j.2.2.1,i)) (fun i j=>JnR j) (fun rest i j=>some (rest.foldl S.playStep j,true,())) hlen (fun K j hI=>?_) (fun K i v rest j hI r h=>?_) j0 hj
 ·simp only[qln,qch,jah];rfl
 ·simp only[qln,r.ilt,r.get,r.next,jab];obtain⟨h1,h2⟩:=qy4 hI (qwa (hl v r.mem));have hi:=h _ h1;rw[jdz];have hso:S.saveO j (S.cells v)=some ((S.save j (S.cells v)).1,(S.save j (S.cells v)).2,()):=by
   unfold S.saveO S.sameJ;rw[jal rfl,jab]
  show cond (ieqI (Int.ofNat (S.cells v).length) (Int.ofNat 0)) _ (match S.saveO j (S.cells v) with|none=>none|some w=>_)=_;rw[hso];unfold S.playStep at hi ⊢;by_cases h0:(S.cells v).length=0
  ·rw[jan h0] at hi ⊢;rw[qbh (by rw[h0]),jab];exact hi
  ·rw[jao h0] at hi ⊢;rw[qbj (by intro e;exact h0 (jdo e)),jah];simp only;by_cases h3:(S.save j (S.cells v)).2=0
   ·rw[jan h3] at hi ⊢;rw[qbh (show (S.save j (S.cells v)).2=Int.ofNat 0 from h3),jab,jab];exact hi
   ·have h4:(S.save j (S.cells v)).2=14:=by rcases h2 with h2|h2|h2<;>first|exact absurd h2 h0|exact absurd h2 h3|exact h2
    rw[jao h3] at hi ⊢;rw[qbj (show ¬(S.save j (S.cells v)).2=Int.ofNat 0 from h3),jah,jah,qbh (show (S.save j (S.cells v)).2=Int.ofNat 14 from h4)];exact hi
theorem quf(j:qad):S.sameJ j j=true:=jal rfl
theorem qzh(d:qah):S.sameD d d=true:=jal rfl
theorem ifO{α:Type}{b:Bool}{x:Option α}{y:α}(hb:b=true)(h:cond b x none=some y):x=some y:=by rw[hb] at h;exact h
section
variable (hR : Con Tryz.prog 76 qi0) (hO : Con Tryz.prog 61 qgr)
include hR hO in
theorem q9t:Con Tryz.prog q71 q7l:=q8q ⟨q4e hR,q50,qkf,qp7 hO,trivial⟩ fun x y hx h=>⟨0,by
 obtain⟨h1,h2⟩:=qa8 (show cond (S.evn x.1) (some (S.madeN x.1,true,())) none=some y from h);rw[<- h2];exact zjq 0 h1⟩
include hO in
theorem zpb:Con Tryz.prog 24 qyd:=qei (qtt hO) fun x y h=>ifO (quf _) h
include hO in
theorem zob:Con Tryz.prog 13 q1m:=qei (qp7 hO) fun x y h=>ifO (qzh _) h
include hO in
include hO in
include hR hO in
theorem zp5:Con Tryz.prog 43 q3d:=qei (q9o hR hO) fun x y h=>ifO (quf _) h
include hR hO in
include hR hO in
theorem zca:Con Tryz.prog idz6 spz6:=mkz6 ⟨q9t hR hO,q7y,zp5 hR hO,trivial⟩ fun x y hx h=>⟨LF,by
 obtain⟨h1,h2⟩:=qa8 (show cond (S.brief x.2.1) (some (S.played x.1 x.2.1,true,())) none=some y from h);rw[<- h2];exact zgn x.1 x.2.1 (qfu (k:=.u8) hx.1) (fun z hz=>qn6 (hx.2.1.2 z hz)) (qdd (c:=.list cChg) hx.2.1)⟩
end
abbrev qp6:Type:=Bool × Unit
abbrev zes:Nat:=7
def q4o(lf:Nat)(x1:Int)(x2:(List (List qax)))(x3:(List qax))(x4:Int)(x5:(List Int))(x6:Int)(x7:(List Int)):Option qp6:=(cond (Bool.not (S.brief x2)) (some (true,())) (cond (iltI (Int.ofNat 10) (Int.ofNat x3.length)) (some (true,())) (cond (iltI (Int.ofNat 200) (Int.ofNat x5.length)) (some (true,())) (cond (iltI (Int.ofNat 200) (Int.ofNat x7.length)) (some (true,())) (match (S.playedO x1 x2) with|none=>none|some v0=>(cond (Bool.not v0.2.1) (some (false,())) (match (S.planO ((v0.1.1.1,v0.1.1.2),(v0.1.2.1,(v0.1.2.2.1,v0.1.2.2.2))) (S.cells x3)) with|none=>none|some v1=>(cond (Bool.not (ieqI v1.2.1 (Int.ofNat 0))) (cond (ieqI v1.2.1 (Int.ofNat 14)) (some (true,())) (cond (ieqI v1.2.1 (Int.ofNat 1)) (some ((ieqI (Int.ofNat (List.length (S.cells x3))) (Int.ofNat 0)),())) (some (false,())))) (match (S.afterO v0.1.2.2.2 (S.cells x3)) with|none=>none|some v2=>(cond (ieqI (IntKind.i64.wrap (Int.ofNat (Nat.add v1.1.length 1))) (Int.ofNat 0)) none (match (S.cutO (v0.1.1.1,v0.1.1.2) v1.1 (Int.tmod (IntKind.i64.wrap x4) (IntKind.i64.wrap (Int.ofNat (Nat.add v1.1.length 1)))) x5) with|none=>none|some v3=>(match (S.openO (v3.1.1,v3.1.2)) with|none=>none|some v4=>(cond (Bool.not v3.2.1) (some (false,())) (cond (Bool.not (ieqI v4.2.1 (Int.ofNat 0))) (some (false,())) (cond (Bool.not (S.sameC v4.1.2.2.2 v0.1.2.2.2)) (cond (Bool.not (S.sameC v4.1.2.2.2 v2.1)) (some (false,())) (cond (ieqI (Int.tmod (IntKind.i64.wrap x4) (IntKind.i64.wrap (Int.ofNat (Nat.add v1.1.length 1)))) (Int.ofNat v1.1.length)) (cond (Bool.not (S.sameC v4.1.2.2.2 v2.1)) (some (false,())) (match (S.planO ((v4.1.1.1,v4.1.1.2),(v4.1.2.1,(v4.1.2.2.1,v4.1.2.2.2))) (S.cells x3)) with|none=>none|some v5=>(cond (Bool.not (ieqI v5.2.1 (Int.ofNat 0))) (cond (ieqI v5.2.1 (Int.ofNat 14)) (some ((S.sameC v4.1.2.2.2 v2.1),())) (some (false,()))) (cond (ieqI (IntKind.i64.wrap (Int.ofNat (Nat.add v5.1.length 1))) (Int.ofNat 0)) none (match (S.cutO (v3.1.1,v3.1.2) v5.1 (Int.tmod (IntKind.i64.wrap x6) (IntKind.i64.wrap (Int.ofNat (Nat.add v5.1.length 1)))) x7) with|none=>none|some v6=>(match (S.openO (v6.1.1,v6.1.2)) with|none=>none|some v7=>(cond v6.2.1 (cond (ieqI v7.2.1 (Int.ofNat 0)) (cond (S.sameC v7.1.2.2.2 v4.1.2.2.2) (some (true,())) (some ((S.sameC v7.1.2.2.2 v2.1),()))) (some (false,()))) (some (false,()))))))))) (match (S.planO ((v4.1.1.1,v4.1.1.2),(v4.1.2.1,(v4.1.2.2.1,v4.1.2.2.2))) (S.cells x3)) with|none=>none|some v8=>(cond (Bool.not (ieqI v8.2.1 (Int.ofNat 0))) (cond (ieqI v8.2.1 (Int.ofNat 14)) (some ((S.sameC v4.1.2.2.2 v2.1),())) (some (false,()))) (cond (ieqI (IntKind.i64.wrap (Int.ofNat (Nat.add v8.1.length 1))) (Int.ofNat 0)) none (match (S.cutO (v3.1.1,v3.1.2) v8.1 (Int.tmod (IntKind.i64.wrap x6) (IntKind.i64.wrap (Int.ofNat (Nat.add v8.1.length 1)))) x7) with|none=>none|some v9=>(match (S.openO (v9.1.1,v9.1.2)) with|none=>none|some v10=>(cond v9.2.1 (cond (ieqI v10.2.1 (Int.ofNat 0)) (cond (S.sameC v10.1.2.2.2 v4.1.2.2.2) (some (true,())) (some ((S.sameC v10.1.2.2.2 v2.1),()))) (some (false,()))) (some (false,())))))))))) (cond (ieqI (Int.tmod (IntKind.i64.wrap x4) (IntKind.i64.wrap (Int.ofNat (Nat.add v1.1.length 1)))) (Int.ofNat v1.1.length)) (cond (Bool.not (S.sameC v4.1.2.2.2 v2.1)) (some (false,())) (match (S.planO ((v4.1.1.1,v4.1.1.2),(v4.1.2.1,(v4.1.2.2.1,v4.1.2.2.2))) (S.cells x3)) with|none=>none|some v11=>(cond (Bool.not (ieqI v11.2.1 (Int.ofNat 0))) (cond (ieqI v11.2.1 (Int.ofNat 14)) (some ((S.sameC v4.1.2.2.2 v2.1),())) (some (false,()))) (cond (ieqI (IntKind.i64.wrap (Int.ofNat (Nat.add v11.1.length 1))) (Int.ofNat 0)) none (match (S.cutO (v3.1.1,v3.1.2) v11.1 (Int.tmod (IntKind.i64.wrap x6) (IntKind.i64.wrap (Int.ofNat (Nat.add v11.1.length 1)))) x7) with|none=>none|some v12=>(match (S.openO (v12.1.1,v12.1.2)) with|none=>none|some v13=>(cond v12.2.1 (cond (ieqI v13.2.1 (Int.ofNat 0)) (cond (S.sameC v13.1.2.2.2 v4.1.2.2.2) (some (true,())) (some ((S.sameC v13.1.2.2.2 v2.1),()))) (some (false,()))) (some (false,()))))))))) (match (S.planO ((v4.1.1.1,v4.1.1.2),(v4.1.2.1,(v4.1.2.2.1,v4.1.2.2.2))) (S.cells x3)) with|none=>none|some v14=>(cond (Bool.not (ieqI v14.2.1 (Int.ofNat 0))) (cond (ieqI v14.2.1 (Int.ofNat 14)) (some ((S.sameC v4.1.2.2.2 v2.1),())) (some (false,()))) (cond (ieqI (IntKind.i64.wrap (Int.ofNat (Nat.add v14.1.length 1))) (Int.ofNat 0)) none (match (S.cutO (v3.1.1,v3.1.2) v14.1 (Int.tmod (IntKind.i64.wrap x6) (IntKind.i64.wrap (Int.ofNat (Nat.add v14.1.length 1)))) x7) with|none=>none|some v15=>(match (S.openO (v15.1.1,v15.1.2)) with|none=>none|some v16=>(cond v15.2.1 (cond (ieqI v16.2.1 (Int.ofNat 0)) (cond (S.sameC v16.1.2.2.2 v4.1.2.2.2) (some (true,())) (some ((S.sameC v16.1.2.2.2 v2.1),()))) (some (false,()))) (some (false,()))))))))))))))))))))))))
def qob(lf:Nat)(x1:Int)(x2:(List (List qax)))(x3:(List qax))(x4:Int)(x5:(List Int))(x6:Int)(x7:(List Int)):Option qp6:=q4o lf x1 x2 x3 x4 x5 x6 x7
theorem zdp{g:ElA [(.int .u8),(.list (.list cCosignerlaw23Change)),(.list cCosignerlaw23Change),(.int .u16),(.list (.int .u8)),(.int .u16),(.list (.int .u8))]->Option qp6}(hsm:SmOK Tryz.prog [(9,q2e),(45,spz2),(46,spz6),(47,spz3),(24,qyd),(48,spz4),(49,spz5),(13,q1m),(50,q7e)])(hg:∀(x:ElA [(.int .u8),(.list (.list cCosignerlaw23Change)),(.list cCosignerlaw23Change),(.int .u16),(.list (.int .u8)),(.int .u16),(.list (.int .u8))]) (y:qp6),WfA [(.int .u8),(.list (.list cCosignerlaw23Change)),(.list cCosignerlaw23Change),(.int .u16),(.list (.int .u8)),(.int .u16),(.list (.int .u8))] x->g x=some y->∃lf,qob lf x.1 x.2.1 x.2.2.1 x.2.2.2.1 x.2.2.2.2.1 x.2.2.2.2.2.1 x.2.2.2.2.2.2.1=some y):Con Tryz.prog 7 ⟨[(.int .u8),(.list (.list cCosignerlaw23Change)),(.list cCosignerlaw23Change),(.int .u16),(.list (.int .u8)),(.int .u16),(.list (.int .u8))],[(false,.bool)],g⟩ :=
 conU (fi:=fi7) (hxl:=[]) (fun lf x=>qob lf x.1 x.2.1 x.2.2.1 x.2.2.2.1 x.2.2.2.2.1 x.2.2.2.2.2.1 x.2.2.2.2.2.2.1) cm3 cal7 trivial hsm hg
end Go.Proofs.YtnhmanoiolfapaaGreat
end

section
namespace Go.Jx
open Go Go.Sx Go.RowKit
universe u

theorem jup{m bi:Nat}{E0 Ei:Env}{S S':IS}{Wb B:World}(p0:Pre T0 E0 S)(hbi:qcz E0 S bi)(hW:Beside bi E0.w Wb)(k:PostB m T0 (E0.at_ Wb) S Ei S')(hT0:∀id,m<=id->T0.w id)(u:Upd [bi] Ei.w B) :
  ∃Wb',Beside bi E0.w Wb'/\PostB m T0 (E0.at_ Wb') S (Ei.at_ B) S':=by
 obtain⟨hle,pW,hbW⟩:=p0.beside hbi hW;have pi:=k.pre hT0 pW;have hlt:bi<Wb.heap.size:=by rw[hW.size];exact p0.st.lo bi hbi.1
 have h1:Ei.w.heap[bi]?=some Wb.heap[bi]:=(k.at_same pW hbW).trans (jco hlt);obtain⟨B',u1,hB⟩:=zrj u h1;obtain⟨i1,i2⟩:=Post.idle pi u1;have k2:=k.trans (PostB.of k.le hT0 i1 i2);have hltB:bi<B.heap.size:=jbh (qas h1) u.size;have h3:=Beside.put Wb bi B.heap[bi];refine⟨Wb.putObj bi B.heap[bi],⟨h3.os.trans hW.os,h3.tape.trans hW.tape,h3.output.trans hW.output,h3.size.trans hW.size,fun x hx=>(h3.same x hx).trans (hW.same x hx)⟩,?_⟩;have:=PostB.beside (E:=E0.at_ Wb) (E':=Ei.at_ B') (w:=Wb.putObj bi B.heap[bi]) (w':=B) k2 pW hbW h3 hB (by rw[jbp hlt];exact jco hltB);exact this
section
variable {P : Program} {tt : Nat -> Option TI}
theorem zmv(hm:P.follows .mixedOrders=true)(htt:TT P tt){k f:Nat}{s:SmI}{cfg:LpC}{lf:Nat}(hc:ConW P f s){cl:Cl}(hcl:ClOK P cl)(hfr:ClFr cl){vs:List IV}{S:IS}{r:Res}(h:itW P tt k s cfg lf cl vs S=some r)
   {T:TW} {E:Env} {us:List Value} (p:Pre T E S) (hrd:tin T.r r.rd) (hwr:tin T.w r.wr) (hv:VRs E vs us):qai P f/\CallsIn Fence.wide 0 P f us.toArray E.w (RetE T E S r):=by
 refine⟨hc.callable,?_⟩;obtain⟨id,caps,xi,i,isubs,S1,w1,nt,fr,pr,assign,body,D,d0,rows,subs,S2,w2,d,l,q,rfl,h1,ho,h2,hb,h3,h4,h5,rfl⟩:=qwq h;obtain⟨t1,t2⟩:=qap hwr;obtain⟨t3,t4⟩:=qap t2;obtain⟨t5,t6⟩:=qap t3;have hTid:=qaf t1;have hbits:=qvh t4;have hTi:T.w i:=hbits i (by simp);unfold itB at hb;simp only[jad] at hb;obtain⟨b1,b2,b3,b4,b5,b6,b7,b8,b9⟩:=hb;have hnd:=qk7 b1;obtain⟨u0,us,rfl,a1,a2⟩:=hv.inv;have hA:E.A id:=by cases a1;assumption
 obtain⟨E1,e1,q1,f1,il1,il2,iA,ib2,ib3⟩:=qe6 s.ips h1 p t5 a2;have p1:=q1.pre p;have hle1:=q1.env p;obtain⟨z1,z2,z3,z4,z5⟩:=hle1.alw id hA;obtain⟨fn,tmps,g1,g2,g3⟩:=p1.st.objs id (T.sub _ hTid) z1 _ ho;have hls:VRs E1 (cfg.ls.map (slot fr)) (cfg.ls.map fun t=>tmps.getD t undef):=⟨by simp,fun i hi hi2=>by
   simp only[jce];refine g2.get _ ?_;have:=(jbi.1 b8) (cfg.ls[i]'(by simpa using hi)) (jbj _);simpa using this⟩
 obtain⟨E2,e2,q2,f2,l1,l2,A2,c2,c3⟩:=qe6 cfg.lp h2 p1 t6 hls;have p2:=q2.pre p1;have hle2:=q2.env p1;obtain⟨_,y2,y3⟩:=qel cfg.lp h3 l2;have hq12:=Post.trans p q1 f1 q2;have hf12:=f1.trans f2 q1.le;have hS2:S2.H id=some (.loop .ready none nt fr [pr] assign body D):=by
   rw[(qez _ h2).2 id (p1.bnd id z1) (by simpa using b9)];exact ho
 obtain⟨hA2,x2,x3,x4,x5⟩:=hle2.alw id z1;obtain⟨fn',tmps',g1',g2',g3'⟩:=p2.st.objs id (T.sub _ hTid) hA2 _ hS2;obtain⟨nq1,nq2⟩:=jcl.1 hnd;have nq3:=(jc3.1 nq2);have hheld:Held T E2 S2 cfg.lp d rows subs:=⟨l1,l2,nq3.2.1,fun i hi=>hbits i (jb6 _ hi),A2,fun ι hι j o hj=>by
     obtain⟨id',g1,g2,g3,g4,_⟩:=qr4 h3 l2 p2 (fun i hi=>T.sub _ (hbits i (jb6 _ (jbz _ hi)))) (c3 _ _ hι) j o hj;exact⟨id',g1,g2,g3,g4⟩,
   fun i hi=>qvq ((jbi.1 b3) i hi),y3⟩
 have hidq:id ∉ rows++subs:=fun hi=>nq1 (jb6 _ hi);have hiq:i ∉ rows++subs:=fun h2=>nq3.2.2 i (by simp) i h2 rfl;have hidi:id≠i:=fun e=>nq1 (jbz _ (by simp[e]));have p0:=hheld.pre p2;have hlive:Live E2 S2.H id:=⟨p2.st.blk id (T.sub _ hTid) hA2 _ hS2 rfl,_,hS2,rfl⟩;have hns:Nums idN 0 isubs:=by
   have:isubs=[]:=ja2.1 (by rw[il2,hc.ns]);rw[this];intro j id hj;simp at hj
 have hrow:∀(j:Nat) (o:IObj),(qar s.ips idN 0 xi)[j]?=some o->∃i',[i][j]?=some i'/\E2.A i'/\(o.blk=true->E2.hb i'=true)/\OR E2 i' o:=fun j o hj=>by
   obtain⟨i,i1,i2,i3,i4⟩:=ib3 idN 0 hns j o hj;obtain⟨j1,j2,j3,j4,j5⟩:=hle2.alw i i2;exact⟨i,i1,j1,fun hb=>j5.trans (i3 hb),i4.mono hle2 i2 i3 (fun _ _=>by rw[e2])⟩
 have hread:qrz E2 s xi us [i]:=⟨fun ρ k hk=>(ib2 ρ k hk).mono hle2,hrow⟩;have hAi:E2.A i:=by
   have hj2:0<(qar s.ips idN 0 xi).length:=by rw[qa2,<- il1];simp
   obtain⟨i',i1,i2,_⟩:=hrow 0 _ (jac hj2);cases i1;exact i2
 have hLi:Live E2 S2.H i:=by
   obtain⟨cs,hcs⟩:=qvq ((jbi.1 b2) i (by simp));exact⟨p2.st.blk i (T.sub _ hTi) hAi _ hcs rfl,_,hcs,rfl⟩
 have hfar:∀i,i ∉ rows++subs->T.r i->E2.A i->Live E2 S2.H i->∀k,(renE 0 (rows++subs) E2).A k->Live (renE 0 (rows++subs) E2) (Sc cfg.lp d).H k->(renE 0 (rows++subs) E2).ρ k≠E2.ρ i:=fun i hi ht ha hl k hk hkl e=>by
   have hk1:k<(rows++subs).length:=by have:=hk.1;omega
   have hm1:=(qb3 hk1).1;obtain⟨h0,o,ho1,ho2⟩:=hkl;have hl2:Live E2 S2.H (ol 0 (rows++subs) k):=⟨h0,(hheld.obj p2 hk1 hk.2 ho1).live ho2⟩;have:=p2.st.inj _ _ (T.sub _ (hheld.w _ hm1)) ht hk.2 ha hl2 hl e;exact hi (this▸hm1)
 have hap:qcz (renE 0 (rows++subs) E2) (Sc cfg.lp d) (E2.ρ id):=⟨p2.st.own id (T.sub _ hTid) hA2 hlive,hfar id hidq (T.sub _ hTid) hA2 hlive⟩;have hai:qcz (renE 0 (rows++subs) E2) (Sc cfg.lp d) (E2.ρ i):=⟨p2.st.own i (T.sub _ hTi) hAi hLi,hfar i hiq (T.sub _ hTi) hAi hLi⟩;have hbne:E2.ρ id≠E2.ρ i:=fun e=>hidi (p2.st.inj _ _ (T.sub _ hTid) (T.sub _ hTi) hA2 hAi hlive hLi e);have hbim:E2.ρ i∈E2.m:=p2.st.own i (T.sub _ hTi) hAi hLi;generalize hE0:renE 0 (rows++subs) E2=E0 at p0 hap hai hfar;have hE0w:E0.w=E2.w:=by rw[<- hE0];rfl
 have hE0m:E0.m=E2.m:=by rw[<- hE0];rfl
 generalize hbk:E2.ρ id=b at hap g1' hbne;generalize hbik:E2.ρ i=bi at hai hbne;obtain⟨rec,hrec⟩:∃rec:Loop,rec={ state:=.ready,pending:=none,fn:=fn',tmps:=tmps',params:=[pr].toArray,assign:=assign,body:=body,defers:=E2.ρ D }:=⟨_,rfl⟩;have hl0:E0.w.heap[b]?=some (.loop rec):=by rw[hE0w,g1',hrec]
 have htm:tmps'=tmps:=by
   have h1:=g1';rw[e2,<- hbk,x2,g1] at h1;have h1:=jb5 h1;injection h1 with h1
   injection h1 with _ _ _ h1
   exact h1.symm
 have hargs:VRs E0 (qaq cfg.lp idN 0 d) (cfg.ls.map fun t=>rec.tmps.getD t undef):=by
   have e:rec.tmps=tmps:=by rw[hrec];exact htm
   rw[e,<- hE0];exact argsP_env (E:=E2) (E':=renE 0 (rows++subs) E2) (ρ:=ol 0 (rows++subs)) (fun _ h=>h) rfl cfg.lp (fun j a b=>Held.numTo E2 _ (by rw[hheld.len];omega)) (by rw[y2];exact c2 _ _ hheld.num.1)
 generalize hg:qew P tt cfg s.c nt lf cl pr assign body d=g at h5;have hd0:updP cfg.lp d (qdc cfg.lp d)=d:=qqw _ _;have hT0:∀id,mP cfg.lp<=id->T0.w id:=fun _ _=>trivial
 -- the two states of affairs
 let J:List (El s.c)->World->Prop:=fun pre W=>∃z Wb Ei,foldB g pre (qdc cfg.lp d)=some (z,none)/\Beside bi E0.w Wb/\PostB (mP cfg.lp) T0 (E0.at_ Wb) (Sc cfg.lp d) Ei (Sc cfg.lp (updP cfg.lp d z))/\Ei.w=W
 let K:World->Prop:=fun W=>∃z cd Wb Ei,foldB g l (qdc cfg.lp d)=some (z,some cd)/\Beside bi E0.w Wb/\PostB (mP cfg.lp) T0 (E0.at_ Wb) (Sc cfg.lp d) Ei (Sc cfg.lp (updP cfg.lp d z))/\Upd [b,bi] Ei.w W/\W.heap[b]?=some (.loop { rec with state:=.done,pending:=some cd })
 have hbes0:Beside bi E0.w E0.w:=⟨rfl,rfl,rfl,rfl,fun _ _=>rfl⟩;have hJ0:J [] E0.w:=⟨qdc cfg.lp d,E0.w,E0,rfl,hbes0,by rw[hd0];exact PostB.refl (by rw[qir];omega) hT0 p0,rfl⟩;have hJu:∀s A B,J s A->Upd [bi] A B->J s B:=fun pre A B ⟨z,Wb,Ei,k1,hW,k2,k3⟩ u=>by
   subst k3;obtain⟨Wb',w1,w2⟩:=jup p0 hai hW k2 hT0 u;exact⟨z,Wb',Ei.at_ B,k1,w1,w2,rfl⟩
 have hKu:∀A B,K A->Upd [bi] A B->K B:=fun A B ⟨z,cd,Wb,Ei,k1,hW,k2,k3,k4⟩ u=>⟨z,cd,Wb,Ei,k1,hW,k2,k3.trans (u.mono (by simp)),(u.same _ (qas k4) (by simpa using hbne)).trans k4⟩;have hRd:∀pre A,J pre A->E2.Le (E2.at_ A):=fun pre A ⟨z,Wb,Ei,k1,hW,k2,k3⟩=>by
   subst k3;refine⟨fun _ h=>⟨h,rfl,rfl,rfl,rfl⟩,⟨fun x hx hxm=>⟨hxm,?_⟩⟩⟩;have hsz:x<Wb.heap.size:=by rw[hW.size,hE0w];exact hx
   have h1:Ei.w.heap[x]?=Wb.heap[x]?:=k2.same x hsz fun k _ ha hl e=>hxm (by rw[<- e,<- hE0m];exact p0.st.own k trivial ha hl);have h2:Wb.heap[x]?=E0.w.heap[x]?:=hW.same x fun e=>hxm (by rw[e,<- hbik];exact hbim);show Ei.w.heap[x]?=E2.w.heap[x]?;rw[h1,h2,hE0w]
 have hround:∀pre x post A0 A u,l=pre++x::post->J pre A0->Upd [bi] A0 A->(∀E:Env,E.w=A->(∀b∈E.m,b<A0.heap.size/\(b<E2.w.heap.size->b∈E2.m))->VR E (asIV s.c x) u)->YieldAt Fence.wide 0 P b #[u] A fun e B=>(∀c,(c=bi\/A0.heap.size<=c)->c<A.heap.size->B.heap[c]?=A.heap[c]?)/\((e=.returned (.bool true)/\J (pre++[x]) B)\/(e=.returned (.bool false)/\K B)):=fun pre x post A0 A u hl ⟨z,Wb0,Ei0,k1,hW0,k20,k30⟩ hup0 hu=>by
   subst k30;obtain⟨_,pW0,hiW0⟩:=p0.beside hai hW0;have hpi0:=k20.pre hT0 pW0;obtain⟨Wb,hW,k2⟩:=jup p0 hai hW0 k20 hT0 hup0;obtain⟨hleW,pW,hiW⟩:=p0.beside hai hW;have hapW:qcz (E0.at_ Wb) (Sc cfg.lp d) b:=hap;have hapW0:qcz (E0.at_ Wb0) (Sc cfg.lp d) b:=hap;have hlow0:∀k,(Ei0.at_ A).A k->Live (Ei0.at_ A) (Sc cfg.lp (updP cfg.lp d z)).H k->(Ei0.at_ A).ρ k<Ei0.w.heap.size:=fun k ha hl=>hpi0.st.lo _ (hpi0.st.own k trivial ha hl);have hmem0:∀b∈(Ei0.at_ A).m,b<Ei0.w.heap.size/\(b<E2.w.heap.size->b∈E2.m):=fun b hb=>⟨hpi0.st.lo b hb,fun hlt=>by
     rcases k20.memo b hb with h|h
     · rw[<- hE0m];exact h
     · have:Wb0.heap.size<=b:=h;rw[hW0.size,hE0w] at this;omega⟩
   obtain⟨Ei,hEi⟩:∃Ei,Ei=Ei0.at_ A:=⟨_,rfl⟩;have hEw:Ei.w=A:=by rw[hEi];rfl
   rw[<- hEi] at k2 hlow0 hmem0;rw[<- hEw];have hWb:Wb.heap[b]?=some (.loop rec):=(hW.same b hbne).trans hl0;have hWb0:Wb0.heap[b]?=some (.loop rec):=(hW0.same b hbne).trans hl0;have hb0:b<Ei0.w.heap.size:=qas ((k20.at_same pW0 hapW0).trans hWb0);have hwhole:foldB g (x::post) z=some q:=by
     rw[<- qo6 g pre (x::post) _ _ k1,<- hl];exact h5
   have hsnoc:foldB g (pre++[x]) (qdc cfg.lp d)=foldB g [x] z:=qo6 g pre [x] _ _ k1;cases hgx:g z x with
   | none=>simp only[foldB,hgx] at hwhole;cases hwhole
   | some q1 =>
   obtain⟨z1,e⟩:=q1;rw[<- hg] at hgx;have hlow:((E0.at_ Wb).bel (mP cfg.lp)).Le Ei:=k2.env pW;have hargsB:VRs ((E0.at_ Wb).bel (mP cfg.lp)) (qaq cfg.lp idN 0 d) (cfg.ls.map fun t=>rec.tmps.getD t undef) :=
     argsP_env (E:=E0.at_ Wb) (E':=(E0.at_ Wb).bel (mP cfg.lp)) (ρ:=idN) (fun _ h=>h) rfl cfg.lp (fun j _ hj hA=>⟨⟨hA,by show j<mP cfg.lp;omega⟩,rfl,rfl,rfl,rfl⟩) (hargs.mono hleW)
   have hst:=zq1 (E:=Ei) (b:=b) (rec:=rec) hm hcl hfr htt hgx ⟨b4,b5⟩ ⟨by simpa using b6,by simpa using b7⟩ (k2.pre hT0 pW) (k2.apart pW hapW) ((k2.at_same pW hapW).trans hWb)
     (by rw[hrec];exact⟨rfl,rfl,rfl,rfl,rfl,g2'.size⟩) (hargsB.mono hlow) (hu Ei hEw hmem0)
   obtain⟨fnr,tmpr,asr,bdr,hyr,hRr⟩:=hst;refine⟨fnr,tmpr,asr,bdr,hyr,hRr.mono fun en B hB=>?_⟩;obtain⟨E',m1,m2⟩:=hB;have hall:=k2.trans m1;rw[hg] at hgx;have hiA:=k2.apart pW hiW;have hkeep:∀c,(c=bi\/Ei0.w.heap.size<=c)->c<Ei.w.heap.size->E'.w.heap[c]?=Ei.w.heap[c]?:=fun c h1 h2=>m1.same c h2 fun k _ ha hl e=>by
     rcases h1 with h1|h1
     · exact hiA.2 k ha hl (e.trans h1)
     · have:=hlow0 k ha hl;omega
   rcases m2 with ⟨rfl,rfl,rfl⟩|⟨cd,rfl,rfl,m3,m4⟩
   · refine⟨hkeep,.inl ?_⟩;refine⟨rfl,z1,Wb,E',?_,hW,hall,rfl⟩;rw[hsnoc];simp only[foldB,hgx]
   · refine⟨fun c h1 h2=>(m3.same c (qas ((hkeep c h1 h2).trans (jco h2))) (fun hc=>by
       have hcb:c=b:=by simpa using hc
       rcases h1 with h1|h1
       · exact hbne (hcb.symm.trans h1)
       · omega)).trans (hkeep c h1 h2),.inr ?_⟩
     refine⟨rfl,z1,cd,Wb,E',?_,hW,hall,m3.mono (by simp),m4⟩;rw[hl,qo6 g pre (x::post) _ _ k1];simp only[foldB,hgx]
 have hit:=hc.it E2 xi us i l h4 p2.gl hread hbim p2.st.lo b J K;rw[hbik] at hit;have hit:=hit hJu hKu hRd hround (by rw[<- hE0w];exact hJ0);have hu0:u0=.func (.yield b) #[] #[]:=by
   cases a1;rw[<- hbk,x2,z2]
 have hw:E2.w=E.w:=by rw[e2,e1]
 rw[hw] at hit;rw[hu0,show (Value.func (.yield b) #[] #[]::us).toArray=#[.func (.yield b) #[] #[]]++us.toArray by simp];refine hit.mono fun en B ⟨hen,hB⟩=>?_
 -- what comes back
 have hfin:∀(z:ElP (refs cfg.lp)) (pe:Option Code) (Wb:World) (Ei:Env),q=(z,pe)->Beside bi E0.w Wb->PostB (mP cfg.lp) T0 (E0.at_ Wb) (Sc cfg.lp d) Ei (Sc cfg.lp (updP cfg.lp d z))->Upd [b] Ei.w B ->
     B.heap[b]?=some (.loop { rec with state:=cond pe.isNone .ready .done,pending:=pe })->RetE T E S (qk4 S2 cfg id nt fr pr D assign body i rows subs (w1 ||| w2) q) en B:=fun z pe Wb Ei hqz hW k2 hup hbl=>by
   subst hqz;rw[hE0w,<- hbik] at hW;obtain⟨wr1,wr2⟩:=Post.write (o':=.dead) p2 hTi hAi hLi hW.upd trivial;have hheldW:=hheld.dead p2 hTi hAi hLi hiq hW;have p2W:=wr1.pre p2;have hle2W:=wr1.env p2;have hE0W:E0.at_ Wb=renE 0 (rows++subs) (E2.at_ Wb):=by rw[<- hE0];rfl
   rw[<- q29 cfg.lp d z,hE0W] at k2;obtain⟨m1,m2⟩:=hheldW.back (s:=sQ cfg.lp) (x:=d) p2W k2;have p3:=m1.pre p2W;have hle3:=m1.env p2W;obtain⟨n1,n2,n3,n4,n5⟩:=hle3.alw id hA2;have hlt:id<S2.next:=p2.bnd id hA2
   have hSd:(S2.set i .dead).H id=some (.loop .ready none nt fr [pr] assign body D):=by rw[IS.H_set,up_ne _ _ hidi];exact hS2
   have hobj:(qbz (sQ cfg.lp) S2.next rows subs () z (S2.set i .dead)).H id=some (.loop .ready none nt fr [pr] assign body D):=by
     unfold qbz;rw[qb8,qqk,qo5,jan (show id<(S2.set i .dead).next from hlt),qgy (fun h=>hidq (jbz _ h)),ql0 (fun h=>hidq (jb6 _ h))];exact hSd
   have hL3:Live (mrgR (E2.at_ Wb) Ei S2.next (mP (sQ cfg.lp).ps)) (qbz (sQ cfg.lp) S2.next rows subs () z (S2.set i .dead)).H id:=⟨n5.trans hlive.1,_,hobj,rfl⟩;have n2':(mrgR (E2.at_ Wb) Ei S2.next (mP (sQ cfg.lp).ps)).ρ id=b:=n2.trans hbk;have hub:Upd [(mrgR (E2.at_ Wb) Ei S2.next (mP (sQ cfg.lp).ps)).ρ id] (mrgR (E2.at_ Wb) Ei S2.next (mP (sQ cfg.lp).ps)).w B:=by rw[n2'];exact hup
   have hle4:=Env.at_le p3.st hTid n1 hL3 hub;obtain⟨w1',w2'⟩:=Post.write p3 (o':=.loop (cond pe.isNone .ready .done) pe nt fr [pr] assign body D) hTid n1 hL3 hub ⟨fn',tmps',by
     show B.heap[(mrgR (E2.at_ Wb) Ei S2.next (mP (sQ cfg.lp).ps)).ρ id]?=_;rw[n2',hbl,hrec];have:E2.ρ D=(mrgR (E2.at_ Wb) Ei S2.next (mP (sQ cfg.lp).ps)).ρ D:=((hle3.alw D g3').2.1).symm;show some (Obj.loop { state:=cond pe.isNone .ready .done,pending:=pe,fn:=fn',tmps:=tmps',params:=[pr].toArray,assign:=assign,body:=body,defers:=E2.ρ D })=_;rw[this];rfl,((g2'.mono hle2W).mono hle3).mono hle4,(hle4.alw D (hle3.alw D g3').1).1⟩
   have r0:=Post.trans p hq12 hf12 wr1;have rf0:=hf12.trans wr2 hq12.le;have r1:=Post.trans p r0 rf0 m1;have rf1:=rf0.trans m2 r0.le;exact⟨_,_,hen,rfl,.tup (us:=[]) rfl (fun i h=>by simp at h),Post.trans p r1 rf1 w1',rf1.trans w2' r1.le⟩
 rcases hB with ⟨z,Wb,Ei,k1,hW,k2,k3⟩|⟨z,cd,Wb,Ei,k1,hW,k2,k3,k4⟩
 · obtain⟨_,pW,_⟩:=p0.beside hai hW;have hapW:qcz (E0.at_ Wb) (Sc cfg.lp d) b:=hap;refine hfin z none Wb Ei (jb5 (h5.symm.trans k1)) hW k2 (by rw[k3];exact Upd.refl _ _) ?_;rw[<- k3,(k2.at_same pW hapW),show (E0.at_ Wb).w.heap[b]?=some (.loop rec) from (hW.same b hbne).trans hl0,hrec];rfl
 · obtain⟨_,pW,_⟩:=p0.beside hai hW;have hapW:qcz (E0.at_ Wb) (Sc cfg.lp d) b:=hap;have hEb:Ei.w.heap[b]?=some (.loop rec):=(k2.at_same pW hapW).trans ((hW.same b hbne).trans hl0);have hltb:b<B.heap.size:=qas k4;have hsp:Upd [bi] Ei.w (B.putObj b (.loop rec)):=⟨k3.os,k3.tape,k3.output,by rw[(Beside.put B b (.loop rec)).size];exact k3.size,fun x hx hn=>by
     by_cases e:x=b
     · subst e;rw[jbp hltb,hEb]
     · rw[jcb e];exact k3.same x hx (by simp at hn ⊢;exact⟨e,hn⟩)⟩
   obtain⟨Wb',v1,v2⟩:=jup p0 hai hW k2 hT0 hsp;exact hfin z (some cd) Wb' (Ei.at_ (B.putObj b (.loop rec))) (jb5 (h5.symm.trans k1)) v1 v2 (Beside.put B b (.loop rec)).symm.upd k4
theorem zmn(hm:P.follows .mixedOrders=true)(htt:TT P tt){f:Nat}{s:SmI}(k:Nat)(cfg:LpC)(lf:Nat)(hc:ConW P f s):HxOK P f (itWx P tt k s cfg lf).f :=
 ⟨fun cl h1 h2 _ vs S r h T E us p hr hw hv=>zmv hm htt hc h1 h2 h p hr hw hv,fun cl _ vs S=>zmt,fun cl _ vs S r h hw _=>(q92 h hw).elim⟩
end
end Go.Jx
end

section
namespace Go.Jx
open Go Go.Sx Go.RowKit
theorem zbe{E:Env}{k:IntKind}{n:Int}{v:Value}(h:VR E (.int k n) v):v=.int k n:=by cases h;rfl
theorem zcd{E:Env}{s:ByteArray}{v:Value}(h:VR E (.str s) v):v=.string s:=by cases h;rfl
theorem zdz{E:Env}{b:Bool}{v:Value}(h:VR E (.bool b) v):v=.bool b:=by cases h;rfl
end Go.Jx
end

section
set_option maxRecDepth 100000
namespace Go.Jx
open Go Go.Sx Go.RowKit
theorem VR.asE{E E':Env}(hm:∀b,b∈E'.m->b∈E.m)(hw:E'.w=E.w){c:TC}{x:El c}{u:Value}(h:VR E (asIV c x) u):VR E' (asIV c x) u:=by
 cases c with
 | two a b =>
  cases h with
  | agg hl hh=>exact .agg hl fun i a b=>(VR.noid hm hw (hh i a b)).2.2 _ _ (jbj a)
 | int k=>exact(VR.noid hm hw h).2.2 (.int k) x (by simp[cel,asIV])
 | bool=>exact(VR.noid hm hw h).2.2 .bool x (by simp[cel,asIV])
 | str=>exact(VR.noid hm hw h).2.2 .str x (by simp[cel,asIV])
 | list c=>exact(VR.noid hm hw h).2.2 (.list c) x (by simp[cel,asIV])
end Go.Jx
namespace Go.Sx
open Go Go.RowKit
section
variable {P : Program} {n : Nat} {σ : Nat -> Value} {w : World} {ops : Array Oper} {rest : List Oper} {d : Nat} {ty : TypeId} {pos : String} {aft : Array Edge} {g : Option (Nat × Bool)}
def cutA(a:Addr)(cap k s:Nat):Addr:=if cap=k then a else a.add (k*s)
theorem zfk{T E:TypeId}{size bytes s2 b2:Nat}{zero z2:Value}{E':TypeDesc}{a:Addr}{len cap k:Nat}{kk:IntKind}(hT:Ty P T (.slice E) size bytes zero)(hE:Ty P E E' s2 b2 z2)(hl:k<=len)(hc:len<=cap) :
  (Instr.sliceAt T (.slice (some a) len cap) (some (.int kk (k:Nat))) none none).run P w=.ok (.slice (some (cutA a cap k s2)) (len-k) (cap-k)) w:=by
 have h1:(0:Int)<=(k:Nat)/\((k:Nat):Int)<=len:=⟨by omega,by omega⟩;by_cases h3:cap=k
 ·subst h3;simp only[Instr.sliceAt,jag,jam hT.und,jaa,Instr.slice,Instr.sliceBounds,Instr.sliceBound,asIntOf,jae,h1,je3,jcu,run_sizeOf hE,cutA];simp
 ·rw[q20 hT hE (by omega) hl hc];unfold cutA;rw[jao h3]
theorem znw{Q:Exit->Act->World->Prop}{T E:TypeId}{size bytes s2 b2:Nat}{zero z2:Value}{E':TypeDesc}{x y:Operand}{a:Addr}{len cap k:Nat}{kk:IntKind}(hT:Ty P T (.slice E) size bytes zero)(hE:Ty P E E' s2 b2 z2)
  (hg:qao ops σ n g=true) (hx:(okO n x&&okO n y)=true) (ex:ev σ x=.slice (some a) len cap) (ey:ev σ y=.int kk (k:Nat)) (hl:k<=len) (hc:len<=cap)
  (kt:wpList P ops Q rest (Fr n (upd σ d (.slice (some (cutA a cap k s2)) (len-k) (cap-k)))) w):wpList P ops Q (⟨some d,.slice T x (some y) none none,ty,pos,aft,g⟩::rest) (Fr n σ) w:=by
 simp only[jad] at hx;exact qa6 hg (by simp only[execOp,qat hx.1,ex,Option.map_none,jc5,qat hx.2,ey,zfk hT hE hl hc,jag,jae,jaa]) kt
theorem SL.cut{M:List Nat}{a:Addr}{cap k:Nat}{l:List ByteArray}(h:SL M w (some a) cap l)(hk:k<=l.length):SL M w (some (cutA a cap k 1)) (cap-k) (l.drop k):=by
 obtain⟨⟨h1,h2⟩,h3⟩:=h;refine⟨⟨by rw[ja7];omega,by omega⟩,?_⟩;rcases h3 with rfl|⟨b,off,cells,t,fz,ha,hb,hh,hall⟩
 ·exact .inl (by simp)
 ·cases ha;by_cases hc:cap=k
  ·exact .inl (jct (by omega))
  ·refine .inr ⟨b,off+k,cells,t,fz,?_,hb,hh,fun i hi=>?_⟩
   ·unfold cutA;rw[jao hc,qbg _ rfl,jfs]
   ·rw[ja7] at hi;obtain⟨cs,c1,c2⟩:=hall (k+i) (by omega);refine⟨cs,by rw[List.getElem_drop];exact c1,fun j hj=>?_⟩;have:=c2 j hj;have e:(Dat.sz ByteArray)=1:=rfl;rw[e] at this ⊢;rw[show off+k+i*1+j=off+(k+i)*1+j by omega];exact this
end
end Go.Sx
namespace Go.Proofs.YtnhmanoiolfapaaGreat
open Go Go.Sx Go.RowKit Go.Jx
theorem zox:Fld Tryz.prog 151 1 1:=Fld.mk (F := ⟨"sectors", 3,1, false, "", "cosigner/keep", 24⟩) qiz rfl ty3
theorem zar:Fld Tryz.prog 151 2 2:=Fld.mk (F := ⟨"torn", 4,2, false, "", "cosigner/keep", 32⟩) qiz rfl ty4
theorem zm9(M:List Nat)(w:World):Gl M w:=⟨fun b hb=>by cases hb⟩
theorem q9u{w:World}{m0:List Nat}{a:Option Addr}{cap:Nat}{l:List ByteArray}(hS:SL m0 w a cap l)(h1:S.secs1 l=true) :
  Calls Tryz.prog 112 #[.slice a l.length cap] w (Ret fun v w'=>Upd [] w w'/\(∃a1 n1 c1,v=.agg #[.slice a1 n1 c1,.int .i64 (S.readK l).2.1,.bool (S.readK l).2.2]) /\
   ∀E:Env,E.w=w'->(∀x∈E.m,x<w.heap.size/\∀ad,a=some ad->x≠ad.block)->VR E (asIV cKeepRecord (S.readK l)) v):=by
 obtain⟨hn,hlen,hsz⟩:=q3n h1;obtain⟨⟨hc1,hc2⟩,h|⟨b,off,cells,t,fz,rfl,hb,hh,hall⟩⟩:=hS
 ·rw[h] at hn;simp at hn
 have hlt:=qas hh
 let M0:=(List.range w.heap.size).filter fun x=>!(x==b)
 have hM0:∀x∈M0,x<w.heap.size:=fun x hx=>by
  have:=(jcm.1 hx).1;simpa using this
 have hbM:b ∉ M0:=fun hx=>by
  have:=(jcm.1 hx).2;simp at this
 have hv:VR (EM M0 w) (.lst .str l) (.slice (some ⟨b,off,none⟩) l.length cap):=by
  refine VR.lst (fun i _=>.string (l.getD i S.none_)) hc1 hc2 (by show l.length*16<=_;omega) hbM hh (fun i hi j hj=>?_) (fun i hi j hj=>?_)
  ·have hj:j<1:=hj;have:j=0:=by omega
   subst this;obtain⟨cs,c1,c2⟩:=hall i hi;have c1:cs=[.string l[i]]:=c1;have:=c2 0 (by show 0<1;omega);rw[c1] at this;have hi:i<List.length (α:=ByteArray) l:=hi;rw[jai,jac hi];exact this
  ·have hj:j<1:=hj;have:j=0:=by omega
   subst this;have hi:i<List.length (α:=ByteArray) l:=hi;rw[jai,jac hi];show VR _ (.str l[i]) (.string l[i]);exact .str _ (by have:=hsz l[i] (jbj hi);omega)
 have hcall:=zro.calls M0 w (l,()) [.slice (some ⟨b,off,none⟩) l.length cap] (S.readK l,()) (by
  show cond (S.secs1 l) (some (S.readK l,())) none=_;rw[h1];rfl) hM0 (zm9 _ _) (.cons hv .nil)
 refine(jdk.1 hcall).mono fun e w' hR=>?_;obtain⟨v,E',rfl,rfl,k1,k2,k3⟩:=hR;have k1:VR E' (asIV cKeepRecord (S.readK l)) v:=k1;refine⟨⟨k2.stp.os,k2.stp.tape,k2.stp.output,k2.stp.size,fun x hx _=>k2.stp.same x hx fun id _ hA _=>hA.elim⟩,?_,fun E hE hm=>VR.asE (fun x hx=>?_) hE k1⟩
 ·generalize S.readK l=r at k1;obtain⟨cl,nn,tt⟩:=r;have k1:VR E' (.agg [.lst qac cl,.int .i64 nn,.bool tt]) v:=k1;cases k1 with
  | @agg _ us hl hh2 =>
   match us,hl,hh2 with
   | [x1,x2,x3],hl,hh2 =>
    have q1:VR E' (.lst qac cl) x1:=hh2 0 (by simp) (by simp);have q2:VR E' (.int .i64 nn) x2:=hh2 1 (by simp) (by simp);have q3:VR E' (.bool tt) x3:=hh2 2 (by simp) (by simp);rw[zbe q2,zdz q3];cases q1 with
    | lst0 _=>exact⟨_,_,_,rfl⟩
    | lst us h1 h2 h3 hb hh hc hu=>exact⟨_,_,_,rfl⟩
 ·obtain⟨h2,h3⟩:=hm x hx;have hxb:x≠b:=h3 _ rfl;have hx0:x∈M0:=jcm.2 ⟨by simpa using h2,by simpa using hxb⟩;rcases k2.stp.mem x hx0 h2 with h|⟨id,_,hA,_⟩
  ·exact h
  ·exact hA.elim
theorem qrt(l:List ByteArray)(h:(S.readK l).2.2=false):1<=(S.readK l).2.1.toNat/\(S.readK l).2.1.toNat<=l.length/\(S.readK l).2.1=((S.readK l).2.1.toNat:Int):=by
 revert h
 unfold S.readK;split
 ·intro h;cases h
 ·rename_i hc;have h1:1<=S.recM (qab (l.getD 0 S.none_)):=by unfold S.recM;omega
  have h2:S.recM (qab (l.getD 0 S.none_))<=l.length:=by omega
  split
  ·intro _;exact⟨by simpa using h1,by simpa using h2,by simp⟩
  ·intro _;exact⟨by simpa using h1,by simpa using h2,by simp⟩
theorem zia:∀(f:Nat) (l:List ByteArray),l.length<f->S.recsGo f l=S.recsGo (l.length+1) l:=by
 intro f;induction f using Nat.strongRecOn with
 | ind f ih =>
  intro l hl;cases l with
  | nil=>cases f with
   | zero=>omega
   | succ f=>rfl
  | cons s r=>cases f with
   | zero=>omega
   | succ f =>
    show (if (qab s).getD 0 0=0 then [] else S.readK (s::r)::cond (S.readK (s::r)).2.2 [] (S.recsGo f ((s::r).drop (S.readK (s::r)).2.1.toNat)))=(if (qab s).getD 0 0=0 then [] else S.readK (s::r)::cond (S.readK (s::r)).2.2 [] (S.recsGo (s::r).length ((s::r).drop (S.readK (s::r)).2.1.toNat)));by_cases h0:(qab s).getD 0 0=0
    ·rw[jan h0,jan h0]
    ·rw[jao h0,jao h0];cases ht:(S.readK (s::r)).2.2 with
     | true=>rfl
     | false =>
      obtain⟨h1,h2,_⟩:=qrt (s::r) ht;have hd:((s::r).drop (S.readK (s::r)).2.1.toNat).length<(s::r).length:=by rw[ja7];simp only[jas] at *;omega
      show _::S.recsGo f _=_::S.recsGo _ _;rw[ih f (by omega) _ (by simp only[jas] at *;omega)];by_cases hf:(s::r).length=f
      ·rw[hf,ih f (by omega) _ (by simp only[jas] at *;omega)]
      ·rw[ih (s::r).length (by simp only[jas] at *;omega) _ hd]
theorem qsx(s:ByteArray)(r:List ByteArray):S.recsK (s::r)=if (qab s).getD 0 0=0 then [] else S.readK (s::r)::cond (S.readK (s::r)).2.2 [] (S.recsK ((s::r).drop (S.readK (s::r)).2.1.toNat)):=by
 show (if (qab s).getD 0 0=0 then [] else S.readK (s::r)::cond (S.readK (s::r)).2.2 [] (S.recsGo (s::r).length ((s::r).drop (S.readK (s::r)).2.1.toNat)))=_;by_cases h0:(qab s).getD 0 0=0
 ·rw[jan h0,jan h0]
 ·rw[jao h0,jao h0];cases ht:(S.readK (s::r)).2.2 with
  | true=>rfl
  | false =>
   obtain⟨h1,h2,_⟩:=qrt (s::r) ht;have hd:((s::r).drop (S.readK (s::r)).2.1.toNat).length<(s::r).length:=by rw[ja7];simp only[jas] at *;omega
   show _::S.recsGo _ _=_::S.recsK _;unfold S.recsK;rw[zia _ _ hd]
theorem zbd{s:ByteArray}(h:0<s.size):((qfx s 0).toNat:Int)=(qab s).getD 0 0:=by
 rw[jai,zok h];unfold qfx;rw[jai,jac (by simpa using h)];rfl
theorem q89{l:List ByteArray}(h:S.secs l=true)(k:Nat):S.secs (l.drop k)=true:=by
 obtain⟨h1,h2⟩:=qjl h;unfold S.secs S.anyShort;rw[jad];refine⟨jax (by rw[ja7];omega),?_⟩;rw[jcd,jdc];intro s hs;have:=h2 s (jdy hs);unfold S.short;simp[this]
section
attribute [local irreducible] Go.wpList Go.wpQuiet Go.Code.wp
theorem zik{W0:World}{b:Nat}{m0:List Nat}{r0:List Value}{a0:Option Addr}{cap0:Nat}{l0:List ByteArray}(hbm:b∈m0)(hlo:∀x∈m0,x<W0.heap.size)(hS0:SL m0 W0 a0 cap0 l0)(hl0:S.secs l0=true)(hbox0:Box W0 b (.slice a0 l0.length cap0::r0)) :
   q7b Tryz.prog 111 [.pointer (some ⟨b,0,none⟩)] b m0 W0 (fun W=>Tr m0 W0 m0 W) (fun(x:qfs) u E=>VR E (asIV cKeepRecord x) u) (S.recsK l0):=by
 intro l J K hJ hK hR hy h0;refine jdk.2 (Calls.mono (R:=Ret fun v B=>v=.tuple #[]/\(J (S.recsK l0) B\/K B)) ?_ (fun e B h=>by cases e<;>first|exact⟨by rw[h.1],h.2⟩|exact h.elim));refine(enter (l:=[.func (.yield l) #[] #[],.pointer (some ⟨b,0,none⟩)]) Tryz.func111 rfl Tryz.ntmps111 rfl ?_);refine wp_block ?_;refine qt9 (X:=(List qfs × List ByteArray) × (Option Addr × Nat)) ((List.range 28).drop 3) (fun _=>[]) (fun x w1=>J x.1.1 w1/\SL m0 W0 x.2.1 x.2.2 x.1.2/\Box w1 b (.slice x.2.1 x.1.2.length x.2.2::r0)/\S.secs x.1.2=true/\S.recsK l0=x.1.1++S.recsK x.1.2) (fun x=>x.1.2.length) (([],l0),(a0,cap0)) trivial ⟨h0,hS0,hbox0,hl0,rfl⟩ ?_;rintro⟨⟨pre,lr⟩,a,cap⟩ τ w1 ⟨hj,hs0,hbox,hsec,hrec⟩;have hs1:SL m0 w1 a cap lr:=hs0.mono (hR _ _ hj);refine qal fun K1 hK1=>?_;refine qal fun K2 hK2=>?_;refine qau ?_;refine qgh (v:=.slice a lr.length cap) ty22 rfl rfl rfl rfl hbox rfl ?_;refine qv2 ty22 rfl rfl rfl ?_;refine qqs rfl rfl rfl rfl ?_;cases lr with
 | nil =>
   refine qav (v:=.bool false) rfl rfl rfl ?_;refine qf5 rfl ?_;refine qf5 rfl ?_;refine qf5 rfl ?_;refine qf5 rfl ?_;refine qf5 rfl ?_;refine qt6 (v:=.bool false) rfl rfl rfl rfl ?_;refine jbe ?_;refine hK2 _ _ ?_;refine qlj rfl rfl ?_;refine wp_exit ?_;have e:S.recsK l0=pre:=by rw[hrec];exact jbl _
   exact qxk Tryz.results111 ⟨rfl,.inl (by rw[e];exact hj)⟩
 | cons s r =>
   obtain⟨hlen,hsz⟩:=qjl hsec;have hs64:s.size=64:=hsz s (by simp);refine qav (v:=.bool true) rfl rfl (jav Value.bool (jal (by show (0:Int)<((r.length+1:Nat):Int);omega))) ?_;refine qgh (v:=.slice a (s::r).length cap) ty22 rfl rfl rfl rfl hbox rfl ?_;refine ziq (j:=0) ty22 ty9 rfl rfl rfl rfl rfl hs1 (by simp) fun ad cs u hget henc hca=>?_;have hus:u=s:=by simpa using hget.symm
   subst hus;have henc:cs=[.string u]:=henc;subst henc;refine zhn (v:=.string u) ty9 rfl rfl rfl rfl hca rfl ?_;refine zm4 (j:=0) ty9.und rfl rfl rfl rfl (by omega) ?_;refine qzd rfl rfl rfl rfl ?_;refine q2w (v:=.bool (decide (((qfx u 0).toNat:Int)≠0))) rfl rfl rfl rfl ?_;refine jbe ?_;refine hK2 _ _ ?_;have hb0:=zbd (s:=u) (by omega);refine c_if rfl rfl (fun hne=>?_) (fun hne=>?_)
   · refine je8 ?_;refine hK1 _ _ ?_;have hne:¬(qab u).getD 0 0=0:=by rw[<- hb0];exact hne
     have hrk:=qsx u r;rw[jao hne] at hrk;have hsec1:S.secs1 (u::r)=true:=by unfold S.secs1;rw[hsec];rfl
     generalize hL:u::r=L at *;refine wp_block ?_;refine qal fun K3 hK3=>?_;refine qau ?_;refine qgh (v:=.slice a L.length cap) ty22 rfl rfl rfl rfl hbox rfl ?_;refine qf7 (l:=[.tmp 14]) (args:=[.slice a L.length cap]) q8f rfl rfl rfl (q9u hs1 hsec1) ?_;rintro _ w2 ⟨u2,⟨a1,n1,c1,rfl⟩,hvr⟩;refine zq5 (zs:=[.slice none 0 0,.int .i64 0,.bool false]) qiz rfl rfl fun β w3 hβ u3 hz3 hx3=>?_;refine q14 (v:=.agg #[.slice a1 n1 c1,.int .i64 (S.readK L).2.1,.bool (S.readK L).2.2]) (cs':=[.slice a1 n1 c1,.int .i64 (S.readK L).2.1,.bool (S.readK L).2.2]) qiz rfl rfl rfl rfl hx3 rfl rfl rfl fun w4 u4 hz4 hx4=>?_;refine jbe ?_;refine hK3 _ _ ?_;have hβ1:w1.heap.size<=β:=by rw[<- hβ];exact u2.size
     have u24:Upd [] w2 w4:=Upd.old_upd u3 u4 (by omega);have u14:Upd [] w1 w4:=u2.trans u24;have hbox4:=hbox.mono0 u14;have hbltw1:b<w1.heap.size:=hbox.lt;have hneb:b≠β:=by omega
     -- what is handed over
     have hgive:∀E:Env,E.w=w4->(∀x∈E.m,x<w1.heap.size/\(x<W0.heap.size->x∈m0))->VR E (asIV cKeepRecord (S.readK L)) (.agg #[.slice a1 n1 c1,.int .i64 (S.readK L).2.1,.bool (S.readK L).2.2]):=fun E hE hm=>by
       have h1:=hvr (E.at_ w2) rfl (fun x hx=>⟨(hm x hx).1,fun ad had=>?_⟩)
       · refine VR.mono (E:=E.at_ w2) (E':=E) ⟨fun _ h=>⟨h,rfl,rfl,rfl,rfl⟩,⟨fun x hx hxm=>⟨hxm,?_⟩⟩⟩ h1;show E.w.heap[x]?=w2.heap[x]?;rw[hE];exact u24.same x hx (by simp)
       · subst had;obtain⟨_,h|⟨bl,off,cells,t,fz,ha,hbl,hh,_⟩⟩:=hs0
         · rw[<- hL] at h;cases h
         · cases ha;intro e;have e:x=bl:=e;exact hbl (e▸(hm x hx).2 (by rw[e];exact qas hh))
     have hsp:S.recsK l0=pre++S.readK L::cond (S.readK L).2.2 [] (S.recsK (L.drop (S.readK L).2.1.toNat)):=by rw[hrec,hrk]
     refine qal fun K4 hK4=>?_;refine qal fun K5 hK5=>?_;refine(wpIn_wide (n:=0)).1 (wpIn_region_lit (zlv 2 rfl ?lo rfl ?_))
     case lo=>rintro⟨_,_,h⟩;exact(show False from h)
     dsimp only [jet,jd6,List.drop_succ_cons,jd7];refine qav (v:=.func (.yield l) #[] #[]) rfl rfl rfl ?_;refine qwx (ds:=[.slice a1 n1 c1,.int .i64 (S.readK L).2.1,.bool (S.readK L).2.2]) qiz rfl rfl rfl rfl hx4 rfl rfl ?_;refine jbe ?_;refine zqo ?_;refine zg0 rfl rfl rfl rfl rfl (hy pre (S.readK L) _ w1 w4 _ hsp hj (u14.mono (by simp)) hgive) ?_;rintro e w5 ⟨hfr,⟨rfl,hj5⟩|⟨rfl,hk5⟩⟩
     · have hx5:Box w5 β [.slice a1 n1 c1,.int .i64 (S.readK L).2.1,.bool (S.readK L).2.2]:=by
         obtain⟨t6,ht6⟩:=hx4;exact⟨t6,(hfr β (.inr hβ1) (qas ht6)).trans ht6⟩
       have hbox5:Box w5 b (.slice a L.length cap::r0):=by
         obtain⟨t6,ht6⟩:=hbox4;exact⟨t6,(hfr b (.inl rfl) (qas ht6)).trans ht6⟩
       refine⟨_,rfl,q35 rfl ?lo rfl ?_⟩
       case lo=>rintro⟨_,_,h⟩;exact(show False from h)
       refine q42 rfl rfl rfl ?_;refine qav (v:=.bool false) rfl rfl rfl ?_;refine qsq zar rfl rfl rfl ?_;refine qgh (v:=.bool (S.readK L).2.2) ty4 rfl rfl rfl rfl hx5 rfl ?_;refine qt6 (v:=.bool (S.readK L).2.2) rfl rfl rfl rfl ?_;refine jbe ?_;refine hK5 _ _ ?_;refine qp2 rfl rfl (fun ht=>?_) (fun ht=>?_)
       · rw[ht,jab] at hsp;rw[<- hsp] at hj5;refine jfb ?_;exact ret0 Tryz.results111 ⟨rfl,.inl hj5⟩
       · rw[ht,jah] at hsp;obtain⟨k1,k2,k3⟩:=qrt L ht;refine je8 ?_;refine hK4 _ _ ?_;obtain⟨ad,had⟩:∃ad,a=some ad:=by
           obtain⟨_,h|⟨bl,off,cells,t,fz,ha,_⟩⟩:=hs0
           · rw[<- hL] at h;cases h
           · exact⟨_,ha⟩
         subst had;have hcap:L.length<=cap:=hs0.1.1;refine qau ?_;refine qgh (v:=.slice (some ad) L.length cap) ty22 rfl rfl rfl rfl hbox5 rfl ?_;refine qsq zox rfl rfl rfl ?_;refine qgh (v:=.int .i64 ((S.readK L).2.1.toNat:Int)) ty3 rfl rfl rfl rfl hx5 (by rw[<- k3];rfl) ?_;refine znw ty22 ty9 rfl rfl rfl rfl k2 hcap ?_;refine q14 (v:=.slice (some (cutA ad cap (S.readK L).2.1.toNat 1)) (L.length-(S.readK L).2.1.toNat) (cap-(S.readK L).2.1.toNat)) (cs':=.slice (some (cutA ad cap (S.readK L).2.1.toNat 1)) (L.drop (S.readK L).2.1.toNat).length (cap-(S.readK L).2.1.toNat)::r0) ty22 rfl rfl rfl rfl hbox5 rfl (by
           simp only[jas,ja6,jad];exact⟨⟨rfl,jax (by show 0+1<=r0.length+1;omega)⟩,rfl⟩) (by rw[ja7];rfl) fun w6 u6 hz6 hx6=>?_
         refine jbe ?_;exact⟨((pre++[S.readK L],L.drop (S.readK L).2.1.toNat),(some (cutA ad cap (S.readK L).2.1.toNat 1),cap-(S.readK L).2.1.toNat)),by show (L.drop _).length<L.length;rw[ja7];omega,⟨hJ _ _ _ hj5 u6,hs0.cut k2,hx6,q89 hsec _,by rw[hsp,jay];rfl⟩,_,rfl,(by repeat first|exact qbb.refl _ _|refine qbb.upd rfl ?_|refine qbb.upds rfl ?_|refine qbb.mix rfl ?_),trivial⟩
     · refine⟨_,rfl,q35 rfl ?lo rfl ?_⟩
       case lo=>rintro⟨_,_,h⟩;exact(show False from h)
       refine q42 rfl rfl rfl ?_;refine qav (v:=.bool true) rfl rfl rfl ?_;refine qf5 rfl ?_;refine qf5 rfl ?_;refine q2w (v:=.bool true) rfl rfl rfl rfl ?_;refine jbe ?_;refine hK5 _ _ ?_;refine q7w rfl rfl ?_;refine jfb ?_;exact ret0 Tryz.results111 ⟨rfl,.inr hk5⟩
   · refine wp_exit ?_;have hz:(qab u).getD 0 0=0:=by rw[<- hb0];exact Decidable.not_not.1 hne
     have e:S.recsK l0=pre:=by rw[hrec,qsx,jan hz];exact jbl _
     exact qxk Tryz.results111 ⟨rfl,.inl (by rw[e];exact hj)⟩
end
end Go.Proofs.YtnhmanoiolfapaaGreat
namespace Go.Proofs.YtnhmanoiolfapaaGreat
open Go Go.Sx Go.RowKit Go.Jx
theorem zi1:ConW Tryz.prog 111 q6y:=by
 refine⟨zg5,rfl,fun E x us i l hl hgl hrd hbm hlo=>?_⟩;obtain⟨⟨L0,_⟩,_⟩:=x;obtain⟨L,hL⟩:∃L:List ByteArray,L=L0:=⟨L0,rfl⟩;subst hL;obtain⟨hsec,rfl⟩:=qa8 (show cond (S.secs L) (some (S.recsK L)) none=some l from hl);obtain⟨hlen,hsz⟩:=qjl hsec;obtain⟨h1,h2⟩:=hrd;obtain⟨i',i1,i2,i3,i4⟩:=h2 0 _ rfl;have e0:i=i':=by simpa using i1
 subst e0;have i4:OR E i (.row [.lst .str L]):=i4;obtain⟨cells,t,k1,k2,k3,k4⟩:=i4;have ha:=h1 (fun _=>i) 0 (fun j id hj=>by
  cases j with
  | zero=>simpa using hj
  | succ j=>simp at hj)
 obtain⟨u,us',rfl,a1,a2⟩:=VRs.inv (v:=.ptr i 0) (cs:=[]) ha;obtain rfl:us'=[]:=ja2.1 a2.1.symm;have hu:u=.pointer (some ⟨E.ρ i,0,none⟩):=by cases a1;rfl
 subst hu;obtain⟨h0,r0,hc0⟩:∃h0 r0,cells.toList=h0::r0:=by
  cases hc:cells.toList with
  | nil=>have:=jav List.length hc;simp at this;simp [this] at k3
  | cons h r=>exact⟨h,r,rfl⟩
 have hv:VR E (.lst .str L) h0:=by
  have:=k4.2 0 (by simp) (by simp[hc0]);simpa [hc0] using this
 have hS:∃a cap,h0=.slice a L.length cap/\SL (α:=ByteArray) E.m E.w a cap L:=by
  cases hv with
  | @lst0 _ a cap hc=>exact⟨a,cap,rfl,⟨jb8 _,hc⟩,.inl rfl⟩
  | @lst _ _ bl off cap cells t fz us q1 q2 q3 hb hh hc hu =>
   refine⟨_,cap,rfl,⟨q1,q2⟩,.inr ⟨bl,off,cells,t,fz,rfl,hb,hh,fun j hj=>?_⟩⟩;refine⟨[.string L[j]],rfl,fun k hk=>?_⟩;have hk:k<1:=hk;have hk0:k=0:=by omega
   subst hk0;have q5:=hc j hj 0 (by show 0<1;omega);have q6:VR E (.str L[j]) (us j 0):=hu j hj 0 Nat.zero_lt_one;rw[zcd q6] at q5;exact q5
 obtain⟨a,cap,rfl,hS⟩:=hS;have hbox:Box E.w (E.ρ i) (.slice a L.length cap::r0):=⟨t,by rw[k1,<- hc0]⟩;have hit:=zik hbm hlo hS hsec hbox;exact fun lb J K q1 q2 q3 q4 q5=>hit lb J K q1 q2 (fun s A h=>(q3 s A h).tr) q4 q5
end Go.Proofs.YtnhmanoiolfapaaGreat
end

noncomputable section
set_option maxRecDepth 100000
namespace Go.Proofs.YtnhmanoiolfapaaGreat
open Go Go.Sx Go.RowKit Go.Jx
def q54:List (Nat × Hx):=[(113,qp9 qac),(97,hxR qo1),(98,hxR qcq),(111,itWx Tryz.prog ttT.get 0 q6y ⟨[6,7,8,9],[.ref (.box [.map (.int .i64) .str]),.ref (.box [.dat (.int .i64)]),.ref (.box [.dat .bool]),.ref (.box [.dat .bool])],zke⟩ 0)]
abbrev qpy:Type:=qad × Bool × Unit
def qyy(lf:Nat)(x1:qah):Option qpy:=(match (jget x1.1 (Int.ofNat 0)) with|none=>none|some v0=>(match (jget (qab v0) (Int.ofNat 0)) with|none=>none|some v1=>(cond (iltI (Int.ofNat 1) v1) (some ((([],[]),((Int.ofNat 0),((Int.ofNat 0),[]))),(false,()))) (cond (lchk (Int.ofNat 1) (Int.ofNat v0.size) (Int.ofNat v0.size) (Int.ofNat v0.size)) (cond (Bool.not (keqS (ByteArray.extract v0 1 (Int.toNat (Int.ofNat v0.size))) (S.lit [0,0,0,0,0,0,0,0,0,0,0,0,0,0,0,0,0,0,0,0,0,0,0,0,0,0,0,0,0,0,0,0,0,0,0,0,0,0,0,0,0,0,0,0,0,0,0,0,0,0,0,0,0,0,0,0,0,0,0,0,0,0,0]))) (some ((([],[]),((Int.ofNat 0),((Int.ofNat 0),[]))),(false,()))) (match (jget (qab v0) (Int.ofNat 0)) with|none=>none|some v2=>(match (cond (S.inI (Int.ofNat x1.1.length) (Int.ofNat 0) (Int.ofNat 1000)) (some ((S.half (Int.toNat (Int.ofNat x1.1.length)) (IntKind.i64.wrap v2)),())) none) with|none=>none|some v3=>(cond (lchk v3.1.1 v3.1.2 v3.1.2 (Int.ofNat x1.1.length)) (match (cond (S.secs (lsub x1.1 v3.1.1 v3.1.2)) (some (S.recsK (lsub x1.1 v3.1.1 v3.1.2))) (none:Option (List (El Go.Proofs.YtnhmanoiolfapaaGreat.cKeepRecord)))) with|none=>none|some v4=>(match (qdb (fun v5 v6=>(cond v6.2.2 (some (((v5.1.1,()),((v5.2.1.1,()),((v5.2.2.1.1,()),((true,()),())))),true)) (cond v5.2.2.1.1 (match (idxO (fun v7=>(some v7.2.2)) v6.1 0) with|none=>none|some v8=>(cond (Bool.not (iltI v8 (Int.ofNat 0))) (some (((v5.1.1,()),((v5.2.1.1,()),((v5.2.2.1.1,()),((true,()),())))),true)) (some ((((S.applied v5.1.1 v6.1),()),(((IntKind.i64.wrap (Int.add v5.2.1.1 v6.2.1)),()),((false,()),((v5.2.2.2.1.1,()),())))),false)))) (some ((((S.applied v5.1.1 v6.1),()),(((IntKind.i64.wrap (Int.add v5.2.1.1 v6.2.1)),()),((false,()),((v5.2.2.2.1.1,()),())))),false))))) v4 (([],()),(((Int.ofNat 0),()),((true,()),((false,()),()))))) with|none=>none|some v9=>(cond v9.2 (cond v9.1.2.2.2.1.1 (some ((([],[]),((Int.ofNat 0),((Int.ofNat 0),[]))),(false,()))) (cond v9.1.2.2.1.1 (some ((([],[]),((Int.ofNat 0),((Int.ofNat 0),[]))),(false,()))) (match (jget (qab v0) (Int.ofNat 0)) with|none=>none|some v10=>(match (cond (S.mapG v9.1.1.1) (some (((S.listed v9.1.1.1),()),((some v9.1.1.1),()))) none) with|none=>none|some v11=>(some (((x1.1,[]),((IntKind.i64.wrap v10),(v9.1.2.1.1,v11.1.1))),(true,()))))))) (cond v9.1.2.2.2.1.1 (some ((([],[]),((Int.ofNat 0),((Int.ofNat 0),[]))),(false,()))) (cond v9.1.2.2.1.1 (some ((([],[]),((Int.ofNat 0),((Int.ofNat 0),[]))),(false,()))) (match (jget (qab v0) (Int.ofNat 0)) with|none=>none|some v12=>(match (cond (S.mapG v9.1.1.1) (some (((S.listed v9.1.1.1),()),((some v9.1.1.1),()))) none) with|none=>none|some v13=>(some (((x1.1,[]),((IntKind.i64.wrap v12),(v9.1.2.1.1,v13.1.1))),(true,())))))))))) none)))) none))))
def qng(lf:Nat)(x1:qah):Option qpy:=qyy lf x1
theorem zl6(hrz19:ConR Tryz.prog 97 qo1)(hr_k_cells_list:ConR Tryz.prog 98 qcq):qbd Tryz.prog q54:=⟨zj3,⟨qfg hrz19,⟨qfg hr_k_cells_list,⟨zmn mixed ttOK 0 _ 0 zi1,trivial⟩⟩⟩⟩
theorem zn4{g:ElA [qan]->Option qpy}(hsm:SmOK Tryz.prog [(93,ql2),(54,q39),(77,qk6)])(hrz19:ConR Tryz.prog 97 qo1)(hr_k_cells_list:ConR Tryz.prog 98 qcq)(hg:∀(x:ElA [qan]) (y:qpy),WfA [qan] x->g x=some y->∃lf,qng lf x.1=some y):Con Tryz.prog 61 ⟨[qan],[(false,qag),(false,.bool)],g⟩ :=
 conU (fi:=fi61) (hxl:=q54) (fun lf x=>qng lf x.1) cm3 ze4 (zl6 hrz19 hr_k_cells_list) hsm hg
def qkv:Nat->Option Nm:=fun k=>cond (Nat.beq k 1) (some ⟨[0,6,7,8],[],[],[(0,(.int .i64),.str)],[],0,0,false⟩) (cond (Nat.beq k 999999) (some ⟨[],[],[],[],[],0,0,false⟩) none)
def qld:Nat->Bool:=fun k=>cond (Nat.beq k 1) true (false)
def qw4:=qld
abbrev qcn:Type:=(Unit) × (Option (List (Int × ByteArray))) × Unit
def qt1:List (Nat × Sm):=[]
def qwc:List (Nat × Hx):=[]
def qwt(R:Type)(lf:Nat):ClK R:=qa3 Tryz.prog ttT.get ftT.get (fun _ _=>none) (smL qt1) (hxL qwc) lf 20 R
abbrev zic:Nat:=97
def qiu(x1:(List (Int × ByteArray)))(x2:(List qaa))(p:Int × (List (Int × ByteArray))):NRes:=(NRes.mk (.node (some (IV.map 0)) (.node none (.node none (.node (some (IV.int .i64 (Int.ofNat x2.length))) .leaf .leaf) .leaf) .leaf) (.node none (.node none (.node (some (IV.int .i64 p.1)) .leaf .leaf) .leaf) (.node (some (IV.lst qac x2)) .leaf .leaf))) (IS.mk (.node (some (IObj.tmap (TC.int .i64) TC.str p.2)) .leaf .leaf) 1) [] 0)
def qrm(lf:Nat)(x1:(List (Int × ByteArray)))(x2:(List qaa))(L1:(Int × (List (Int × ByteArray)))->Option qcn):Option qcn:=(L1 ((Int.ofNat 0),x1))
def qqv(lf:Nat)(x1:(List (Int × ByteArray)))(x2:(List qaa))(L1:(Int × (List (Int × ByteArray)))->Option qcn)(p:Int × (List (Int × ByteArray))):Option qcn:=(cond (iltI p.1 (Int.ofNat x2.length)) (match (jget x2 p.1) with|none=>none|some v0=>(cond v0.2.2 (L1 ((IntKind.i64.wrap (Int.add p.1 (Int.ofNat 1))),(@mdel (TC.int .i64) TC.str v0.1 p.2))) (L1 ((IntKind.i64.wrap (Int.add p.1 (Int.ofNat 1))),(@mset (TC.int .i64) TC.str v0.1 v0.2.1 p.2))))) (some ((),((some p.2),()))))
abbrev gz19:Type:=ElP [.ref (.mp (.int .i64) .str),.dat (.list qac)]->Option qcn
abbrev sz19(g:gz19):SmR:=⟨[.ref (.mp (.int .i64) .str),.dat (.list qac)],[],g⟩
abbrev Ez19(g:gz19)(J:JT qcn)(lf:Nat)(x1:(List (Int × ByteArray)))(x2:(List qaa)):=qb6 Tryz.prog ttT.get qkv (mP [.ref (.mp (.int .i64) .str),.dat (.list qac)]) fi97.nt (qwt _ lf) lf qld J fi97.body [] (qaz (qaq [.ref (.mp (.int .i64) .str),.dat (.list qac)] idN 0 (some x1,x2,())) 0 .leaf) (Sc [.ref (.mp (.int .i64) .str),.dat (.list qac)] (some x1,x2,())) [] (qd3 ttT.get fi97 (sz19 g))
abbrev Bz19(g:gz19)(J:JT qcn)(lf k:Nat)(ms:List Nat)(q:NRes):=qb9 Tryz.prog ttT.get qkv (mP [.ref (.mp (.int .i64) .str),.dat (.list qac)]) fi97.nt (qwt _ lf) lf qld J k fi97.body [] ms q (qd3 ttT.get fi97 (sz19 g))
theorem zcr(g:gz19)(J:JT qcn)(lf:Nat)(x1:(List (Int × ByteArray)))(x2:(List qaa)):Ez19 g J lf x1 x2=qrm lf x1 x2 (fun q=>J 1 [lf] (qiu x1 x2 q)):=by kernel_rfl
theorem zg4(g:gz19)(J:JT qcn)(lf:Nat)(x1:(List (Int × ByteArray)))(x2:(List qaa))(m1:Nat)(p:Int × (List (Int × ByteArray))):Bz19 g J lf 1 [m1] (qiu x1 x2 p)=qqv lf x1 x2 (fun q=>J 1 [m1] (qiu x1 x2 q)) p:=by kernel_rfl
theorem q2g:(regs fi97.body).Nodup:=by decide +kernel
theorem q8p:okC qkv qld qw4 fi97.body none=true:=by kernel_rfl
def Az19(g:gz19)(lf:Nat):JT qcn:=atQ Tryz.prog ttT.get qkv fi97 (sz19 g) (qwt _ lf) lf qw4
def qos(lf:Nat)(x1:(List (Int × ByteArray)))(x2:(List qaa)):Nat->(Int × (List (Int × ByteArray)))->Option qcn:=qa1 fun K p=>qqv lf x1 x2 K p
theorem q2u(g:gz19)(lf:Nat)(x1:(List (Int × ByteArray)))(x2:(List qaa)):∀(n:Nat) (p:Int × (List (Int × ByteArray))),Az19 g lf 1 [n] (qiu x1 x2 p)=qos lf x1 x2 n p
 | 0,p=>q74 1 [0] rfl _
 | n+1,p=>by
  have ih:=q2u g lf x1 x2 n;refine(q9c rfl (qa7 20 _) q2g q8p 1 [n+1] [n] rfl _).trans ((zg4 g (Az19 g lf) lf x1 x2 n p).trans ?_);rw[(show (fun q=>Az19 g lf 1 [n] (qiu x1 x2 q))=(fun q=>qos lf x1 x2 n q) from funext ih)];rfl
def Fz19(lf:Nat)(x1:(List (Int × ByteArray)))(x2:(List qaa)):Option qcn:=qrm lf x1 x2 (fun q=>qos lf x1 x2 lf q)
theorem zb1(g:gz19)(lf:Nat)(x1:(List (Int × ByteArray)))(x2:(List qaa)):Ez19 g (Az19 g lf) lf x1 x2=Fz19 lf x1 x2:=by
  refine(zcr g (Az19 g lf) lf x1 x2).trans ?_;rw[(show (fun q=>Az19 g lf 1 [lf] (qiu x1 x2 q))=(fun q=>qos lf x1 x2 lf q) from funext fun q=>q2u g lf x1 x2 lf q)];rfl
theorem zhw:qbd Tryz.prog qwc:=trivial
theorem zel{g:gz19}(hsm:SmOK Tryz.prog qt1)(h0:∀(x:ElP [.ref (.mp (.int .i64) .str),.dat (.list qac)]) (y:qcn),g x=some y->∃(x1:(List (Int × ByteArray))) (x2:(List qaa)),x=(some x1,x2,()))(hg:∀(x1:(List (Int × ByteArray))) (x2:(List qaa)) (y:qcn),WfP [.ref (.mp (.int .i64) .str),.dat (.list qac)] (some x1,x2,())->g (some x1,x2,())=some y->∃lf,Fz19 lf x1 x2=some y):ConR Tryz.prog 97 ⟨[.ref (.mp (.int .i64) .str),.dat (.list qac)],[],g⟩ :=
 conTR (nmf:=qkv) (sml:=qt1) (hxl:=qwc) (st:=qld) (hd:=qw4) 20 mixed ttOK ftOK hsm zhw zn8 (by kernel_rfl) (fun x=>by kernel_rfl) q2g q8p fun x y z hx hy=>by
  obtain⟨x1,x2,rfl⟩:=h0 x (y,z) hy;obtain⟨lf,h⟩:=hg x1 x2 (y,z) hx hy;exact⟨lf,(zb1 g lf x1 x2).trans h⟩
theorem ze0(m:List (Int × ByteArray))(l:List qaa)(hl:l.length<LF):Fz19 LF m l=some ((),(some (S.applied m l),())):=by
 simp only[Fz19,qrm];refine range0 (σ:=List (Int × ByteArray)) (R:=qcn) l (fun i m=>(i,m)) (fun _ _=>True) (fun rest _ m=>some ((),(some (S.applied m rest),()))) hl (fun K m _=>?_) (fun K i v rest m _ r hk=>?_) m trivial
 ·simp only[qqv,qch,jah];rfl
 ·simp only[qqv,r.ilt,r.get,r.next,jab];show _=some ((),(some (S.applied (cond v.2.2 (mdel (vc:=.str) (.int .i64) v.1 m) (mset (vc:=.str) (.int .i64) v.1 v.2.1 m)) rest),()));cases v.2.2 with
  | true=>exact hk _ trivial
  | false=>exact hk _ trivial
theorem zdw:ConR Tryz.prog zic qo1:=zel trivial (fun x y h=>by
 obtain⟨m,l,_⟩:=x;cases m with
 | none=>cases h
 | some m=>exact⟨m,l,rfl⟩) fun m l y hx h=>⟨LF,(ze0 m l (qdd (c:=qac) hx.2.1)).trans h⟩
theorem zad(l:List ByteArray):match S.readR l with
  | some x=>S.readK l=(x.1,(x.2:Int),false)
  | none=>(S.readK l).2.2=true:=by
 unfold S.readR S.readK;by_cases hc:¬(qab (l.getD 0 S.none_)).getD 0 0=1\/l.length<S.recM (qab (l.getD 0 S.none_))
 ·rw[jan hc,jan hc]
 ·rw[jao hc,jao hc];cases S.changes (S.recN (qab (l.getD 0 S.none_))+1) ((((l.take (S.recM (qab (l.getD 0 S.none_)))).flatMap qab).drop 4).take (S.recN (qab (l.getD 0 S.none_)))) (-1) with
  | none=>rfl
  | some c =>
   simp only;cases hz:(((l.take (S.recM (qab (l.getD 0 S.none_)))).flatMap qab).drop (4+S.recN (qab (l.getD 0 S.none_)))).all fun b=>decide (b=0) with
   | true=>rfl
   | false=>rfl
abbrev StO:Type:=(List KV × Unit) × (Int × Unit) × (Bool × Unit) × (Bool × Unit) × Unit
def stO(m:List KV)(u:Int)(first torn:Bool):StO:=((m,()),((u,()),((first,()),((torn,()),()))))
def qf6(v5:StO)(v6:qfs):Option (StO × Bool):=(cond v6.2.2 (some (((v5.1.1,()),((v5.2.1.1,()),((v5.2.2.1.1,()),((true,()),())))),true)) (cond v5.2.2.1.1 (match (idxO (fun v7:qaa=>(some v7.2.2)) v6.1 0) with|none=>none|some v8=>(cond (Bool.not (iltI v8 (Int.ofNat 0))) (some (((v5.1.1,()),((v5.2.1.1,()),((v5.2.2.1.1,()),((true,()),())))),true)) (some ((((S.applied v5.1.1 v6.1),()),(((IntKind.i64.wrap (Int.add v5.2.1.1 v6.2.1)),()),((false,()),((v5.2.2.2.1.1,()),())))),false)))) (some ((((S.applied v5.1.1 v6.1),()),(((IntKind.i64.wrap (Int.add v5.2.1.1 v6.2.1)),()),((false,()),((v5.2.2.2.1.1,()),())))),false))))
theorem zl2(m:List KV)(u:Int)(first torn:Bool){r:qfs}(h:r.2.2=true):qf6 (stO m u first torn) r=some (stO m u first true,true):=by
 unfold qf6;rw[h];rfl
theorem zg3(m:List KV)(u v:Nat)(first torn:Bool)(c:List qaa)(h:u+v<=100000):qf6 (stO m u first torn) (c,(v:Int),false)=if first=true/\(c.any (·.2.2))=true then some (stO m u first true,true) else some (stO (S.applied m c) ((u+v:Nat):Int) false torn,false):=by
 unfold qf6 stO;simp only[jah];have e1:IntKind.i64.wrap (Int.add (u:Int) (v:Int))=((u+v:Nat):Int):=qbv (n:=u+v) (by omega);have e2:idxO (fun v7:qaa=>(some v7.2.2)) c 0=some (Go.Jx.S.idx (·.2.2) c):=qq4 (fun v:qaa=>v.2.2) fun x _=>rfl;cases first with
 | false =>
  rw[jah,jao (by simp),e1]
 | true =>
  rw[jab,e2];simp only;rw[qqf];cases c.any (·.2.2) with
  | true=>rw[jab,jan (by simp)]
  | false=>rw[jah,jao (by simp),e1]
theorem qsz{D α:Type}{g:D->α->Option (D × Bool)}{x:α}{xs:List α}{d d':D}{b:Bool}(h:g d x=some (d',b)):qdb g (x::xs) d=cond b (some (d',true)) (qdb g xs d'):=by
 simp only[qdb,h]
theorem zgm:∀(k:Nat) (l:List ByteArray) (f:Nat) (m:List KV) (u:Nat),l.length=k->l.length<f->szS l->S.mapG m=true->u+l.length<=1000 ->
  match S.recs f l (S.listed m) u with
  | none=>∃m' u' first,qdb qf6 (S.recsK l) (stO m u (decide (u=0)) false)=some (stO m' u' first true,true)
  | some (c',u')=>∃m',qdb qf6 (S.recsK l) (stO m u (decide (u=0)) false)=some (stO m' u' (decide (u'=0)) false,false)/\S.mapG m'=true/\c'=S.listed m':=by
 intro k;induction k using Nat.strongRecOn with
 | ind k ih =>
  intro l f m u hk hf hs hG hu;cases f with
  | zero=>omega
  | succ f =>
   cases l with
   | nil=>exact⟨m,rfl,hG,rfl⟩
   | cons s r =>
    rw[qfh,qsx];by_cases h0:(qab s).getD 0 0=0
    ·rw[jan h0,jan h0];exact⟨m,rfl,hG,rfl⟩
    ·rw[jao h0,jao h0];have hRK:=zad (s::r);cases hx:S.readR (s::r) with
     | none =>
      rw[hx] at hRK;refine⟨m,u,decide (u=0),?_⟩;exact qsz (zl2 m u (decide (u=0)) false hRK)
     | some x =>
      rw[hx] at hRK;obtain⟨i1,i2,i3,_,_,_⟩:=qv5 hs hx;have hRK:S.readK (s::r)=(x.1,(x.2:Int),false):=hRK;rw[hRK];simp only[jah,jbw];have hst:=zg3 m u x.2 (decide (u=0)) false x.1 (by omega);cases hq:(decide (u=0)&&x.1.any (·.2.2)) with
      | true =>
       rw[jab];have hq2:=(jad _ _).mp hq;rw[jan ⟨hq2.1,hq2.2⟩] at hst;exact⟨m,u,decide (u=0),qsz hst⟩
      | false =>
       rw[jao (fun hh=>by rw[hh.1,hh.2] at hq;cases hq)] at hst;rw[jah];obtain⟨a1,a2⟩:=qzn (l:=x.1) hG i3;have hd:((s::r).drop x.2).length=(s::r).length-x.2:=ja7;have:=ih (((s::r).drop x.2).length) (by rw[hd];omega) ((s::r).drop x.2) f (S.applied m x.1) (u+x.2) rfl (by rw[hd];omega) (hs.drop x.2) a1 (by rw[hd];omega);rw[a2] at this;have hu0:decide (u+x.2=0)=false:=jar (by omega);rw[hu0] at this;rw[qsz hst,jah];exact this
theorem zq0(d:qah)(h:S.okL d=true):qng LF d=some ((S.openedJ d).1,(S.openedJ d).2,()):=by
 unfold S.okL at h;simp only[jad,jcc] at h;obtain⟨h1,h2,h3⟩:=h;have h2:=jak h2;obtain⟨hle,hsz⟩:=qjl h1;simp only[qng,qyy];have hs64:=hsz _ (qeo (i:=0) (show 0<d.1.length by omega));obtain⟨b0,b1,b2,b3,r,hb⟩:=q06 hs64;have hrb:rng (b0::b1::b2::b3::r):=hb▸qdm _;have hb0:=hrb b0 (by simp);have hszl:(d.1.getD 0 S.none_).size=(b0::b1::b2::b3::r).length:=by rw[<- qcs,hb]
 have l1:lchk (Int.ofNat 1) (Int.ofNat (d.1.getD 0 S.none_).size) (Int.ofNat (d.1.getD 0 S.none_).size) (Int.ofNat (d.1.getD 0 S.none_).size)=true:=by rw[hs64];rfl
 have hext:ByteArray.extract (d.1.getD 0 S.none_) 1 (Int.toNat (Int.ofNat (d.1.getD 0 S.none_).size))=qae (b1::b2::b3::r):=by
  show ByteArray.extract (d.1.getD 0 S.none_) 1 (d.1.getD 0 S.none_).size=_;rw[hszl,<- qe8 (d.1.getD 0 S.none_),hb];exact qk8 hrb 1
 have hr1:rng (b1::b2::b3::r):=fun x hx=>hrb x (ja9 _ hx);simp only[qop (d:=S.none_) (show 1<=d.1.length by omega),hb,qc6,jap,l1,hext,jab];simp only[q4t,zgi,qbt hr1,qbt (qg0 63)];unfold S.openedJ S.opened;rw[hb];simp only[jfh];by_cases q1:1<b0
 ·rw[qep (show Int.ofNat 1<b0 from q1),jab,jan (.inl q1)];rfl
 rw[qff (show ¬Int.ofNat 1<b0 from q1),jah];by_cases q2:(b1::b2::b3::r)=List.replicate 63 0
 ·rw[jal q2,ja1,jah,jao (fun hh=>hh.elim q1 (fun hh=>hh q2))];rw[show S.inI (Int.ofNat d.1.length) (Int.ofNat 0) (Int.ofNat 1000)=true from by
   unfold S.inI;rw[jal (show Int.ofNat 0<=Int.ofNat d.1.length from jb3 _),jal (show Int.ofNat d.1.length<=Int.ofNat 1000 by show ((d.1.length:Nat):Int)<=1000;omega)];rfl,jab,wrap_in (n:=b0) (by omega)]
  simp only;obtain⟨a,e1,e2,e3,_,_⟩:=qid h3 h2 (h:=b0) (by omega);unfold S.halfS;have ehalf:S.half (Int.toNat (Int.ofNat d.1.length)) b0=S.half d.1.length b0:=rfl;rw[ehalf,e1];simp only[jbw];have hlc:lchk (a:Int) ((a+(d.1.length / 2-1):Nat):Int) ((a+(d.1.length / 2-1):Nat):Int) (Int.ofNat d.1.length)=true:=qb2.2 ⟨by omega,by omega,jbr _,by show ((a+(d.1.length / 2-1):Nat):Int)<=((d.1.length:Nat):Int);omega⟩;rw[hlc,jab];have hsub:lsub d.1 (a:Int) ((a+(d.1.length / 2-1):Nat):Int)=(d.1.take (a+(d.1.length / 2-1))).drop a:=by
   unfold lsub;rw[jbw,jbw]
  rw[hsub];have hsz2:szS ((d.1.take (a+(d.1.length / 2-1))).drop a):=fun s hs=>hsz s (jca (jdy hs));have hlen2:((d.1.take (a+(d.1.length / 2-1))).drop a).length<=d.1.length:=by rw[ja7,jbc];omega
  have hsec2:S.secs ((d.1.take (a+(d.1.length / 2-1))).drop a)=true:=by
   refine q89 ?_ _;unfold S.secs S.anyShort;rw[jad];refine⟨jax (by rw[jbc];omega),?_⟩;rw[jcd,jdc];intro s hs;have:=hsz s (jca hs);unfold S.short;simp[this]
  rw[hsec2];generalize (d.1.take (a+(d.1.length / 2-1))).drop a=H at hsz2 hlen2 hsec2;have hfold:=zgm H.length H (d.1.length+1) [] 0 rfl (by omega) hsz2 rfl (by omega);have hst:((([]:List KV),()),(((Int.ofNat 0:Int),()),((true,()),((false,()),()))))=stO [] (0:Nat) (decide ((0:Nat)=0)) false:=rfl
  show (match qdb qf6 (S.recsK H) (stO [] (0:Nat) (decide ((0:Nat)=0)) false) with
   | none=>none
   | some v9=>_)=_
  have hl0:S.listed []=[]:=rfl;rw[hl0] at hfold;cases hrec:S.recs (d.1.length+1) H [] 0 with
  | none =>
   rw[hrec] at hfold;obtain⟨m',u',first,hfo⟩:=hfold;rw[hfo];rfl
  | some x =>
   obtain⟨c,u⟩:=x;rw[hrec] at hfold;obtain⟨m',hfo,hG,rfl⟩:=hfold;rw[hfo];simp only[stO];by_cases hu:u=0
   ·rw[jan hu,jal hu];rfl
   ·rw[jao hu,jar hu];simp only[jah];rw[hG];simp only[jab]
 ·rw[jar q2,ja3,jab,jan (.inr q2)];rfl
theorem zpi:Con Tryz.prog 61 qgr:=zn4 ⟨qp1,qlp,qol,trivial⟩ zdw q91 fun x y hx h=>⟨LF,by
 obtain⟨h1,h2⟩:=qa8 (show cond (S.okL x.1) (some ((S.openedJ x.1).1,(S.openedJ x.1).2,())) none=some y from h);exact(zq0 x.1 h1).trans (jav some h2)⟩
end Go.Proofs.YtnhmanoiolfapaaGreat
end
