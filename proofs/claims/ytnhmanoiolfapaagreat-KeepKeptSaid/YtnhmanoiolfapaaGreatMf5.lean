/- Texts: Kw4, Kpa, Kpb, Kpc, Kpd, Kpe, Kw5, Kw6, Jcr, Jit, Ksx, Ksh, Ksr, Krp, Rg, Krq, Kso, Kca, Kcb, Kcc, Kcd, Kma, Kw7, Ksm, Kl3, Kl1, Kl2, Kg9, Kpf, Kpg, Kph, Kpj, Kl4, Kpl, Kw8, Kge, Jiu, Jcs, Kri, Kgb, Kga, Kpi, Kpk, Kl8. -/
import Derived.Test.YtnhmanoiolfapaaGreatMf4
import Derived.Shelf.Strings.Repeat
import Derived.Test.YtnhmanoiolfapaaGreatProg
import Derived.Laws.IdiomCopy
import Derived.Laws.MakeOwn
import Derived.Test.YtnhmanoiolfapaaGreatMf1
import Derived.Shelf.SlSortCmp.WholeK
import Derived.Shelf.SlSortCmp.NoneTotal
import Derived.Laws.IdiomRangeMap
import Derived.Test.YtnhmanoiolfapaaGreatMf3
set_option linter.unusedVariables false
noncomputable section
set_option maxRecDepth 100000
namespace Go.Proofs.YtnhmanoiolfapaaGreat
open Go Go.Sx Go.RowKit Go.Jx
theorem qxs{d:qaf}(h:S.checkDisk d=0):Dk d.1:=by
 obtain⟨ok,h8,h2⟩:=qq3 h;exact⟨ok.sz,h8,ok.le,h2⟩
theorem Jn.opened_{L:List ByteArray}{h:Int}{a u:Nat}{c:List qaa}(j:Jn L h a u c):S.open_ (L,[])=(((L,[]),h,(u:Int),c),0):=by
 unfold S.open_;rw[jao j.dk.check,jao (show (L,([]:List DPut)).2.length=0 from rfl)]
 show (match S.opened L with
  | some (h,u,c)=>(((L,([]:List DPut)),h,(u:Int),c),(0:Int))
  | none=>(S.noJ,15))=_
 rw[j.open_]
theorem qxa{d:qaf}(h:(S.open_ d).2=0):∃hf a u c,Jn d.1 hf a u c/\d.2=[]/\S.open_ d=(((d.1,[]),hf,(u:Int),c),0):=by
 unfold S.open_ at h ⊢;by_cases h0:S.checkDisk d=0
 ·rw[jao h0] at h ⊢;by_cases h1:d.2.length=0
  ·rw[jao h1] at h ⊢;cases ho:S.opened d.1 with
   | none=>rw[ho] at h;cases h
   | some x =>
    obtain⟨hf,u,c⟩:=x;obtain⟨a,j⟩:=znb (qxs h0) ho;exact⟨hf,a,u,c,j,jaz.1 h1,rfl⟩
  ·rw[jan h1] at h;cases h
 ·rw[jan h0] at h;exact absurd h h0
theorem quk{j:qad}(h:S.right j=true):∃a u,Jn j.1.1 j.2.1 a u j.2.2.2/\j.1.2=[]/\j.2.2.1=((u:Nat):Int):=by
 unfold S.right at h;rw[jae] at h;obtain⟨hf,a,u,c,k,h1,h2⟩:=qxa (ja1 h.1);have h3:=ja1 h.2;rw[h2] at h3;obtain⟨⟨l,q⟩,hh,uu,cc⟩:=j;cases h3;exact⟨a,u,k,rfl,rfl⟩
theorem Jn.right{L:List ByteArray}{h:Int}{a u:Nat}{c:List qaa}(j:Jn L h a u c):S.right ((L,[]),h,(u:Int),c)=true:=by
 unfold S.right;rw[jae];show decide ((S.open_ (L,[])).2=0)=true/\decide ((S.open_ (L,[])).1=_)=true;rw[j.opened_];exact⟨jak rfl,jak rfl⟩
theorem qmf{l:List qaa}(h:S.okC l=true):S.pk l=true:=by
 unfold S.pk;rw[h,ja2 (by have:=qrh h;omega)];rfl
theorem zp0(l:List qaa)(m m':Int):(S.packed l m).drop 1=(S.packed l m').drop 1:=by
 have e:∀x:Int,S.packed l x=qag ((S.recB l x).take 64++List.replicate (64-(S.recB l x).length) 0)::S.chunks ((S.body l).length+3) ((S.recB l x).drop 64):=fun x=>qgr ((S.body l).length+3) (b:=S.recB l x) (by rw[qep];omega);rw[e m,e m'];rfl
theorem qtf(l:List qaa)(m:Int):S.packed l m=(S.packed l m).getD 0 S.none_::(S.packed l 1).drop 1:=by
 have hp:=qfe l m;rw[<- zp0 l m 1];cases h:S.packed l m with
 | nil=>rw[h] at hp;cases hp
 | cons s r=>rfl
theorem qir(l:List qaa)(m:Int):szS (S.packed l m):=q3u _ _
theorem q4z:S.blank.size=64:=by kernel_rfl
theorem q77:(qab S.blank).getD 0 0=0:=by kernel_rfl
theorem zab{L:List ByteArray}{a:Nat}{x y:ByteArray}{r:List ByteArray}(h:a+(r.length+1)<=L.length):over (over L a (x::r)) a [y]=over L a (y::r):=by
 have h':a+(x::r).length<=L.length:=h;have h1:=qx8 h';have h2:=qm3 h';show (over L a (x::r)).take a++([y]++(over L a (x::r)).drop (a+1))=L.take a++((y::r)++L.drop (a+(r.length+1)));rw[h1,<- jdv,h2];rfl
theorem ztc(X:List ByteArray)(t:ByteArray):∀{b:Nat},1<=b->(over X 0 [t]).drop b=X.drop b
 | 0,h=>by omega
 | b+1,_=>by
  show (t::X.drop (0+1)).drop (b+1)=_;rw[List.drop_succ_cons,jdv,show 0+1+b=b+1 by omega]
theorem Dk.over{L:List ByteArray}(d:Dk L){a:Nat}{ss:List ByteArray}(h:a+ss.length<=L.length)(hs:szS ss):Dk (over L a ss):=by
 refine⟨zsl d.sz hs,?_,?_,?_⟩<;>rw[qgm h]
 ·exact d.ge
 ·exact d.le
 ·exact d.ev
theorem qxz{L:List ByteArray}{a:Nat}{l:List qaa}{tail:List ByteArray}{r:List DAct}(ht:szS tail)(h:a+((S.packed l 1).length+tail.length)<=L.length)(hL:L.length<=1000) :
  S.doGo (S.puts (a:Int) (S.packed l 0++tail)++(S.sync::S.put (a:Int) ((S.packed l 1).getD 0 S.none_)::S.sync::r)) L []=S.doGo r (over L a (S.packed l 1++tail)) []:=by
 have e1:(S.packed l 0).length=(S.packed l 1).length:=by rw[qcx,qcx]
 have hp:=qfe l 1;have h':a+(S.packed l 0++tail).length<=L.length:=by rw[jah,e1];exact h
 have hs:szS (S.packed l 0++tail):=fun s hs=>(jbn.1 hs).elim (qir l 0 s) (ht s);have hol:(over L a (S.packed l 0++tail)).length=L.length:=qgm h';rw[quq _ _ _ _ _ hs h' (by rw[jbi];omega),jcj,qmw,qjj _ _ _ h',qsn (qir l 1 _ (qi6 (by omega))) (by omega) (by rw[jbi];omega),qmw];have:S.settled (over L a (S.packed l 0++tail)) ([]++[(((a:Nat):Int),(S.packed l 1).getD 0 S.none_)])=over L a (S.packed l 1++tail):=by
  refine(qjj [(S.packed l 1).getD 0 S.none_] a _ (by rw[hol];simp only[jat,jbi];omega)).trans ?_;have hlen:a+(((S.packed l 1).drop 1++tail).length+1)<=L.length:=by rw[jah,ja7];omega
  have s1:=qtf l 1;rw[qtf l 0,jc4];refine(zab hlen).trans (jav (over L a) ?_);rw[<- jc4,<- s1]
 rw[this]
def qem(b:Bool):List ByteArray:=cond b [S.blank] []
theorem q37(b:Bool):szS (qem b):=fun s h=>by
 cases b with
 | true=>rw[jcc.1 h];exact q4z
 | false=>cases h
theorem zja(l:List qaa)(a:Nat)(e:Int)(b:Bool):S.laid l (a:Int) e b=S.puts (a:Int) (S.packed l 0++qem (b&&decide ((a:Int)+(S.packed l 1).length<e)))++[S.sync,S.put (a:Int) ((S.packed l 1).getD 0 S.none_),S.sync]:=by
 have e1:(S.packed l 0).length=(S.packed l 1).length:=by rw[qcx,qcx]
 unfold S.laid;rw[qw1,e1,ja0];cases (b&&decide ((a:Int)+(S.packed l 1).length<e))<;>rfl
theorem q8x{j:qad}{l:List qaa}(h:¬S.roomOf j<(S.packed l 1).length):S.commit j l=some (S.laid l ((S.half j.1.1.length j.2.1).1+j.2.2.1) (S.half j.1.1.length j.2.1).2 true):=by
 unfold S.commit S.laid;rw[jan h,jb1,ja0]
theorem qnk{L:List ByteArray}{h:Int}{a u:Nat}{c:List qaa}(j:Jn L h a u c):S.roomOf ((L,[]),h,(u:Int),c)=((L.length / 2-1-u:Nat):Int):=by
 have:=j.le.1;unfold S.roomOf;show (S.half L.length h).2-(S.half L.length h).1-(u:Int)=_;rw[j.fr];show ((a+(L.length / 2-1):Nat):Int)-(a:Int)-(u:Int)=_;omega
def comL(L:List ByteArray)(a u:Nat)(l:List qaa):List ByteArray:=over L (a+u) (S.packed l 1++qem (decide (u+(S.packed l 1).length<L.length / 2-1)))
theorem qng{L:List ByteArray}{h:Int}{a u:Nat}{c l:List qaa}(j:Jn L h a u c)(hl:S.okC l=true)(hr:u+(S.packed l 1).length<=L.length / 2-1) :
  S.commit ((L,[]),h,(u:Int),c) l=some (S.laid l ((a+u:Nat):Int) ((a+(L.length / 2-1):Nat):Int) true) /\
  S.doD (L,[]) (S.laid l ((a+u:Nat):Int) ((a+(L.length / 2-1):Nat):Int) true)=((comL L a u l,[]),0) /\
  Jn (comL L a u l) h a (u+(S.packed l 1).length) (S.changed c l)/\(comL L a u l).length=L.length:=by
 have hto:=j.to_;have hle:=j.dk.le;have hb:=qot (qmf hl);have hd:decide (((a+u:Nat):Int)+(S.packed l 1).length<((a+(L.length / 2-1):Nat):Int))=decide (u+(S.packed l 1).length<L.length / 2-1):=jdi.2 (by omega);have htl:(qem (decide (u+(S.packed l 1).length<L.length / 2-1))).length=if u+(S.packed l 1).length<L.length / 2-1 then 1 else 0:=by
  by_cases e:u+(S.packed l 1).length<L.length / 2-1
  ·rw[jao e,jak e];rfl
  ·rw[jan e,jap e];rfl
 have hfit:a+u+((S.packed l 1).length+(qem (decide (u+(S.packed l 1).length<L.length / 2-1))).length)<=L.length:=by
  rw[htl];split<;>omega
 have hfit':a+u+(S.packed l 1++qem (decide (u+(S.packed l 1).length<L.length / 2-1))).length<=L.length:=by rw[jah];exact hfit
 have hsz:szS (S.packed l 1++qem (decide (u+(S.packed l 1).length<L.length / 2-1))):=fun s hs=>(jbn.1 hs).elim (qir l 1 s) (q37 _ s);refine⟨?_,?_,?_,qgm hfit'⟩
 ·rw[q8x (by rw[qnk j];omega)];show some (S.laid l ((S.half L.length h).1+(u:Int)) (S.half L.length h).2 true)=_;rw[j.fr];rfl
 ·unfold S.doD;rw[jao j.dk.check,zja,jb1,hd];exact(qxz (r:=[]) (q37 _) hfit hle).trans (q9e _ _)
 ·refine j.more (j.dk.over hfit' hsz) (qgm hfit') (qx8 hfit') hl (by omega) hr (rest:=qem (decide (u+(S.packed l 1).length<L.length / 2-1))++L.drop (a+u+(S.packed l 1++qem (decide (u+(S.packed l 1).length<L.length / 2-1))).length)) ?_ ?_
  ·show (over L (a+u) _).drop (a+u)=_;rw[qm3 hfit',ja0]
  ·by_cases e:u+(S.packed l 1).length<L.length / 2-1
   ·right;rw[jak e];exact q77
   ·left;omega
theorem qzc:∀{c:List qaa} {last:Int},okS c last->S.changed [] c=c
 | [],_,_=>rfl
 | x::c,last,h=>by
  have hx:=h.2 x (by simp);have h5:=(qbm.1 h.1).2.2.2.2;rw[zqf h.1,hx,jag,qzc (c:=c) ⟨h5,fun y hy=>h.2 y (by simp[hy])⟩]
theorem q8e{j:qad}(h:¬(S.half j.1.1.length (1-j.2.1)).2-(S.half j.1.1.length (1-j.2.1)).1<(S.packed j.2.2.2 1).length):S.turn j=some (S.puts (S.half j.1.1.length (1-j.2.1)).1 (List.replicate ((S.half j.1.1.length (1-j.2.1)).2-(S.half j.1.1.length (1-j.2.1)).1).toNat S.blank)++[S.sync]++S.puts (S.half j.1.1.length (1-j.2.1)).1 (S.packed j.2.2.2 0) ++
  [S.sync,S.put (S.half j.1.1.length (1-j.2.1)).1 ((S.packed j.2.2.2 1).getD 0 S.none_),S.sync,S.put 0 (qag ((1-j.2.1)::List.replicate 63 0)),S.sync]):=by
 unfold S.turn;rw[jan h]
def topS(h:Int):ByteArray:=qag (h::List.replicate 63 0)
def turL(L:List ByteArray)(h:Int)(b:Nat)(c:List qaa):List ByteArray:=over (over (over L b (List.replicate (L.length / 2-1) S.blank)) b (S.packed c 1)) 0 [topS h]
def turA(L:List ByteArray)(h:Int)(b:Nat)(c:List qaa):List DAct:=S.puts (b:Int) (List.replicate (L.length / 2-1) S.blank)++[S.sync]++S.puts (b:Int) (S.packed c 0)++[S.sync,S.put (b:Int) ((S.packed c 1).getD 0 S.none_),S.sync,S.put 0 (topS h),S.sync]
theorem q4j{h:Int}:(topS h).size=64:=by
 unfold topS;rw[qbh,jat,jbb]
theorem zer{h:Int}(hh:h=0\/h=1):qab (topS h)=topB h:=qb4 fun x hx=>by
 rcases jau.1 hx with rfl|hx
 ·omega
 ·exact qg2 63 x hx
theorem q9j{L:List ByteArray}{h:Int}{a u:Nat}{c:List qaa}(j:Jn L h a u c)(hr:(S.packed c 1).length<=L.length / 2-1):∃b:Nat,S.half L.length (1-h)=((b:Int),((b+(L.length / 2-1):Nat):Int)) /\
  S.turn ((L,[]),h,(u:Int),c)=some (turA L (1-h) b c)/\S.doD (L,[]) (turA L (1-h) b c)=((turL L (1-h) b c,[]),0)/\Jn (turL L (1-h) b c) (1-h) b (S.packed c 1).length c/\(turL L (1-h) b c).length=L.length:=by
 have hh:=j.hh;have hle:=j.dk.le;have hge:=j.dk.ge;have hok:=j.le.2.1;have hb:=qot (qmf hok.1);obtain⟨b,e1,e2,e3,_,_⟩:=qit j.dk.ev hge (h:=1-h) (by omega);have hK:(List.replicate (L.length / 2-1) S.blank).length=L.length / 2-1:=jbb;have hf1:b+(List.replicate (L.length / 2-1) S.blank).length<=L.length:=by rw[hK];omega
 have hs1:szS (List.replicate (L.length / 2-1) S.blank):=fun s hs=>by rw[(jfh.1 hs).2];exact q4z
 have d1:=j.dk.over hf1 hs1;have l1:(over L b (List.replicate (L.length / 2-1) S.blank)).length=L.length:=qgm hf1;have hf2:b+(S.packed c 1).length<=(over L b (List.replicate (L.length / 2-1) S.blank)).length:=by rw[l1];omega
 have d2:=d1.over hf2 (qir c 1);have l2:=(qgm hf2).trans l1;have hf3:0+[topS (1-h)].length<=(over (over L b (List.replicate (L.length / 2-1) S.blank)) b (S.packed c 1)).length:=by rw[l2];show 0+1<=_;omega
 have hs3:szS [topS (1-h)]:=fun s hs=>by rw[jcc.1 hs];exact q4j
 have d3:=d2.over hf3 hs3;have l3:(turL L (1-h) b c).length=L.length:=(qgm hf3).trans l2;have hmem:(S.packed c 1).getD 0 S.none_∈S.packed c 1:=qi6 (qfe c 1);refine⟨b,e1,?_,?_,?_,l3⟩
 ·rw[q8e]
  ·show some (S.puts (S.half L.length (1-h)).1 (List.replicate ((S.half L.length (1-h)).2-(S.half L.length (1-h)).1).toNat S.blank)++[S.sync]++S.puts (S.half L.length (1-h)).1 (S.packed c 0)++_)=_;rw[e1];have:(((b+(L.length / 2-1):Nat):Int)-(b:Int)).toNat=L.length / 2-1:=by omega
   simp only[this];rfl
  ·show ¬(S.half L.length (1-h)).2-(S.half L.length (1-h)).1<_;rw[e1];show ¬((b+(L.length / 2-1):Nat):Int)-(b:Int)<((S.packed c 1).length:Int);omega
 ·unfold S.doD;rw[jao j.dk.check];show S.doGo (turA L (1-h) b c) L []=_;unfold turA;rw[ja0,ja0,quq _ _ _ _ _ hs1 hf1 (by rw[jbi,hK];omega),jcj];show S.doGo (S.sync::_) _ _=_;rw[qmw,qjj _ _ _ hf1];have:=qxz (L:=over L b (List.replicate (L.length / 2-1) S.blank)) (a:=b) (l:=c) (tail:=[]) (r:=[S.put ((0:Nat):Int) (topS (1-h)),S.sync]) (fun s hs=>by cases hs) (by rw[l1,jbi];omega) (by rw[l1];exact hle);rw[jbl,jbl] at this;refine this.trans ?_;rw[qsn q4j (by rw[l2];omega) (by rw[jbi];omega),qmw,q9e];refine jav (fun z=>((z,[]),0)) ?_;exact qjj [topS (1-h)] 0 _ hf3
 ·have hh':1-h=0\/1-h=1:=by omega
  have htop:(turL L (1-h) b c).getD 0 S.none_=topS (1-h):=rfl;refine⟨d3,hh',by rw[htop];exact zer hh',by rw[l3];exact e1,e2,by rw[l3];exact e3,⟨2,?_⟩,qfe c 1⟩;rw[l3];have hdr:(turL L (1-h) b c).drop b=S.packed c 1++(over L b (List.replicate (L.length / 2-1) S.blank)).drop (b+(S.packed c 1).length):=by
   rw[<- qm3 hf2];show (over _ 0 [topS (1-h)]).drop b=_;exact ztc _ _ e2
  rw[hdr,List.take_append,jbw hr,q5t 1 c _ [] 0 hok.1 (by omega)];have hng:c.any (·.2.2)=false:=jdb.2 fun x hx=>by rw[hok.2 x hx];decide
  rw[hng,Bool.and_false,jag,qzc hok,jbk];have hrest:((over L b (List.replicate (L.length / 2-1) S.blank)).drop (b+(S.packed c 1).length)).take (L.length / 2-1-(S.packed c 1).length)=List.replicate (L.length / 2-1-(S.packed c 1).length) S.blank:=by
   rw[<- jdv,qm3 hf1,jd6 (by rw[hK];exact hr),List.drop_replicate,jd5 (by rw[jbb];exact jar _),jbw (by rw[jbb];exact jar _)]
  rw[hrest];cases L.length / 2-1-(S.packed c 1).length with
  | zero=>rfl
  | succ n=>rw[List.replicate_succ,qe2,jao q77]
theorem qx6(a b:qaa):(keqI a.1 b.1&&(keqS a.2.1 b.2.1&&(keqB a.2.2 b.2.2&&true)))=decide (a=b):=by
 obtain⟨a1,a2,a3⟩:=a;obtain⟨b1,b2,b3⟩:=b;rw[jcu];simp[keqI,keqS,keqB]
theorem zrs(a b:DPut):(keqI a.1 b.1&&(keqS a.2 b.2&&true))=decide (a=b):=by
 obtain⟨a1,a2⟩:=a;obtain⟨b1,b2⟩:=b;rw[jcu];simp[keqI,keqS]
theorem qpa{α R:Type}[DecidableEq α]{T:(Int->Option R)->Int->Option R}(a b:List α)(hl:a.length=b.length)(ha:a.length<LF)(Y N:Option R)
  (h0:∀K,T K (Int.ofNat a.length)=Y)
  (h1:∀K i v w,iltI (Int.ofNat i) (Int.ofNat a.length)=true->jget a (Int.ofNat i)=some v->jget b (Int.ofNat i)=some w->IntKind.i64.wrap (Int.add (Int.ofNat i) (Int.ofNat 1))=Int.ofNat (i+1)->T K (Int.ofNat i)=cond (decide (v=w)) (K (Int.ofNat (i+1))) N) :
  qa1 T LF (Int.ofNat 0)=cond (decide (a=b)) Y N:=by
 refine(qrm (T:=T) a (fun rest i=>cond (decide (rest=b.drop i)) Y N) ha (fun K=>?_) (fun K i v rest r h=>?_)).trans ?_
 ·rw[h0,hl,jcr (jar _)];rfl
 ·have hi:=r.lt;obtain⟨w,w1,w2⟩:∃w,b[i]?=some w/\b.drop i=w::b.drop (i+1):=⟨b[i],jac (by omega),jdg (by omega)⟩;rw[h1 K i v w r.ilt r.get (by rw[qdt];exact w1) r.next,h,w2];by_cases e:v=w
  ·rw[jak e,jaa];have:decide (rest=b.drop (i+1))=decide (v::rest=w::b.drop (i+1)):=jdi.2 (by rw[e];simp);rw[this]
  ·rw[jap e,jag,jap (fun h=>e (List.cons.inj h).1),jag]
 ·rfl
theorem zaq(a b:List qaa)(ha:a.length<LF):Fz15 LF a b=some (S.sameC a b,()):=by
 simp only[Fz15,qvz];unfold S.sameC;by_cases e:a.length=b.length
 ·rw[qbj (show Int.ofNat a.length=Int.ofNat b.length from jav Int.ofNat e),jay,jag];refine(qpa a b e ha (some (true,())) (some (false,())) (fun K=>?_) (fun K i v w h1 h2 h3 h4=>?_)).trans ?_
  ·simp only[qm2,qca,jag]
  ·simp only[qm2,h1,h2,h3,h4,jaa,qx6];cases decide (v=w)<;>rfl
  ·cases decide (a=b)<;>rfl
 ·rw[qbg (show ¬Int.ofNat a.length=Int.ofNat b.length from fun h=>e (jdj h)),jax,jaa,jap (fun h=>e (jav List.length h))]
theorem qxw:Con Tryz.prog zn5 quh:=zba trivial fun x y hx h=>⟨LF,(zaq x.1 x.2.1 (qcj (c:=qac) hx.1)).trans h⟩
theorem zow(a b:qaf)(ha:a.1.length<LF)(ha2:a.2.length<LF):Fz16 LF a b=some (S.sameD a b,()):=by
 simp only[Fz16,qsi];unfold S.sameD;by_cases e:a.1.length=b.1.length
 ·rw[qbj (show Int.ofNat a.1.length=Int.ofNat b.1.length from jav Int.ofNat e),jay,jag];by_cases e2:a.2.length=b.2.length
  ·rw[qbj (show Int.ofNat a.2.length=Int.ofNat b.2.length from jav Int.ofNat e2),jay,jag];have g9:qjq LF a b LF (Int.ofNat 0)=cond (decide (a.2=b.2)) (some (true,())) (some (false,())):=by
    refine qpa a.2 b.2 e2 ha2 (some (true,())) (some (false,())) (fun K=>?_) (fun K i v w h1 h2 h3 h4=>?_)
    ·simp only[qnl,qca,jag]
    ·simp only[qnl,h1,h2,h3,h4,jaa,zrs];cases decide (v=w)<;>rfl
   refine(qpa a.1 b.1 e ha (cond (decide (a.2=b.2)) (some (true,())) (some (false,()))) (some (false,())) (fun K=>?_) (fun K i v w h1 h2 h3 h4=>?_)).trans ?_
   ·simp only[qoc,qca,jag,g9]
   ·simp only[qoc,h1,h2,h3,h4,jaa,keqS];cases decide (v=w)<;>rfl
   ·have:decide (a=b)=(decide (a.1=b.1)&&decide (a.2=b.2)):=by
     rw[jcu];obtain⟨a1,a2⟩:=a;obtain⟨b1,b2⟩:=b;simp
    rw[this];cases decide (a.1=b.1)<;>cases decide (a.2=b.2)<;>rfl
  ·rw[qbg (show ¬Int.ofNat a.2.length=Int.ofNat b.2.length from fun h=>e2 (jdj h)),jax,jaa,jap (fun h=>e2 (jav (fun z:qaf=>z.2.length) h))]
 ·rw[qbg (show ¬Int.ofNat a.1.length=Int.ofNat b.1.length from fun h=>e (jdj h)),jax,jaa,jap (fun h=>e (jav (fun z:qaf=>z.1.length) h))]
theorem zbw:Con Tryz.prog zbm q0c:=zkk trivial fun x y hx h=>⟨LF,(zow x.1 x.2.1 (qcj (c:=.str) hx.1.1) (qcj (c:=cPut) hx.1.2)).trans h⟩
theorem zbe(lf:Nat)(a b:qad):qos lf a b=some (S.sameJ a b,()):=by
 simp only[qos,q4h,qc8];obtain⟨d,h,u,c⟩:=a;obtain⟨d',h',u',c'⟩:=b;show cond (decide (h=h')) (cond (decide (u=u')) (cond (decide (d=d')) (some (decide (c=c'),())) _) _) _=some (decide ((d,h,u,c)=(d',h',u',c')),());by_cases e1:h=h'
 ·by_cases e2:u=u'
  ·by_cases e3:d=d'
   ·subst e1 e2 e3;rw[jak rfl,jak rfl,jak rfl];have:decide (c=c')=decide ((d,h,u,c)=(d,h,u,c')):=jdi.2 (by simp);rw[<- this];rfl
   ·rw[jap e3,jak e1,jak e2,jap (fun q=>e3 (jav (fun z:qad=>z.1) q))];rfl
  ·rw[jap e2,jak e1,jap (fun q=>e2 (jav (fun z:qad=>z.2.2.1) q))];rfl
 ·rw[jap e1,jap (fun q=>e1 (jav (fun z:qad=>z.2.1) q))];rfl
theorem zru:Con Tryz.prog zmv qz7:=znk ⟨zbw,qxw,trivial⟩ fun x y hx h=>⟨0,(zbe 0 x.1 x.2.1).trans h⟩
def qcy(l:List qaa)(i:Nat):Int:=if i=0 then -1 else ((l.getD (i-1) (0,S.none_,false)).1)
theorem q4v{R:Type}{l:List qaa}{i:Nat}{k:Int}(hk:0<=k)(hi:i<=l.length)(hl:l.length<1000000)(N T:Option R) :
  cond (iltI (Int.ofNat 0) (Int.ofNat i)) (match jget l (IntKind.i64.wrap (Int.sub (Int.ofNat i) (Int.ofNat 1))) with
   | none=>none
   | some v=>cond (!iltI v.1 k) N T) T=cond (decide (qcy l i<k)) T N:=by
 unfold qcy;cases i with
 | zero =>
  rw[jao rfl,jak (show (-1:Int)<k by omega)];rfl
 | succ i =>
  rw[jan (by omega),qce,jak (by omega),jaa];have e:IntKind.i64.wrap (Int.sub (Int.ofNat (i+1)) (Int.ofNat 1))=Int.ofNat i:=by
   have:Int.sub (Int.ofNat (i+1)) (Int.ofNat 1)=Int.ofNat i:=by
    show ((i+1:Nat):Int)-1=(i:Int);omega
   rw[this];exact qbz (by omega)
  rw[e,qu0 (i:=Int.ofNat i) (d:=(0,S.none_,false)) (jb0 _) (by show (i:Int)<(l.length:Int);omega)];show cond (!iltI (l.getD i (0,S.none_,false)).1 k) N T=cond (decide ((l.getD i (0,S.none_,false)).1<k)) T N;rw[qbc];cases decide ((l.getD i (0,S.none_,false)).1<k)<;>rfl
theorem zat{l:List qaa}{i:Nat}{v:qaa}(h:l[i]?=some v):qcy l (i+1)=v.1:=by
 unfold qcy;rw[jan (by omega),jai,Nat.add_sub_cancel,h];rfl
theorem zm4(s:ByteArray):keqS s (S.lit [])=decide (s.size=0):=by
 unfold keqS;exact jdi.2 q0n.symm
theorem qtq{j:qad}(h:S.smallJ j=true):j.1.1.length<=1000/\j.1.1.length % 2=0/\-1000<=j.2.2.1/\j.2.2.1<=1000:=by
 unfold S.smallJ at h;rw[jae,jae,qbk] at h;exact⟨jal h.1,ja1 h.2.1,h.2.2.1,h.2.2.2⟩
structure RJ (j:qad) (a u:Nat):Prop where
 jn:Jn j.1.1 j.2.1 a u j.2.2.2
 eq:j=((j.1.1,[]),j.2.1,(u:Int),j.2.2.2)
 small:S.smallJ j=true
 room:S.roomR j=((j.1.1.length / 2-1-u:Nat):Int)
 room2:S.roomOf j=((j.1.1.length / 2-1-u:Nat):Int)
 halfG:(Nat.ble j.1.1.length 1000&&decide (j.1.1.length % 2=0))=true
 used:j.2.2.1=(u:Int)
theorem qfb{j:qad}(h:S.right j=true):∃a u,RJ j a u:=by
 obtain⟨a,u,jn,h1,h2⟩:=quk h;have hle:=jn.dk.le;have hge:=jn.dk.ge;have hev:=jn.dk.ev;have hu:=jn.le.1;refine⟨a,u,jn,?_,?_,?_,?_,?_,h2⟩
 ·obtain⟨⟨l,q⟩,hh,uu,cc⟩:=j;simp only at h1 h2;rw[h1,h2]
 ·unfold S.smallJ;rw[ja2 hle,jak hev,jb1,jb1,qbk,h2];omega
 ·unfold S.roomR;rw[h2];omega
 ·have:=qnk jn;obtain⟨⟨l,q⟩,hh,uu,cc⟩:=j;simp only at h1 h2;subst h1 h2;exact this
 ·rw[ja2 hle,jak hev];rfl
theorem qsd{l:List qaa}(h:(S.size l).2=0):S.okC l=true/\(S.size l).1=((S.packed l 1).length:Int)/\1<=l.length:=by
 unfold S.size at h ⊢;by_cases h1:60<l.length
 ·rw[jao h1] at h;cases h
 rw[jan h1] at h ⊢;by_cases h2:l.length=0
 ·rw[jao h2] at h;cases h
 rw[jan h2] at h ⊢;cases hc:S.okC l with
 | false=>rw[hc] at h;cases h
 | true=>exact⟨rfl,rfl,by omega⟩
theorem qyc{j:qad}{l:List qaa}(h:S.roomOf j<(S.packed l 1).length):S.commit j l=none:=by
 unfold S.commit;rw[jao h]
theorem q5w{j:qad}(h:(S.half j.1.1.length (1-j.2.1)).2-(S.half j.1.1.length (1-j.2.1)).1<(S.packed j.2.2.2 1).length):S.turn j=none:=by
 unfold S.turn;rw[jao h]
theorem zdy:S.lit [0,0,0,0,0,0,0,0,0,0,0,0,0,0,0,0,0,0,0,0,0,0,0,0,0,0,0,0,0,0,0,0,0,0,0,0,0,0,0,0,0,0,0,0,0,0,0,0,0,0,0,0,0,0,0,0,0,0,0,0,0,0,0]=qag (List.replicate 63 0):=q9k
theorem q1a{j:qad}{a u:Nat}(r:RJ j a u)(h1:S.right j=true):(S.turn j=none/\S.turnJ j=(S.noJ,14)/\S.planTurn j=([],14)/\j.1.1.length / 2-1<(S.packed j.2.2.2 1).length) \/
  ∃b:Nat,S.half j.1.1.length (1-j.2.1)=((b:Int),((b+(j.1.1.length / 2-1):Nat):Int))/\S.turn j=some (turA j.1.1 (1-j.2.1) b j.2.2.2)/\S.planTurn j=(turA j.1.1 (1-j.2.1) b j.2.2.2,0)/\S.doD j.1 (turA j.1.1 (1-j.2.1) b j.2.2.2)=((turL j.1.1 (1-j.2.1) b j.2.2.2,[]),0) /\
   S.turnJ j=(((turL j.1.1 (1-j.2.1) b j.2.2.2,[]),1-j.2.1,((S.packed j.2.2.2 1).length:Int),j.2.2.2),0)/\Jn (turL j.1.1 (1-j.2.1) b j.2.2.2) (1-j.2.1) b (S.packed j.2.2.2 1).length j.2.2.2:=by
 by_cases h3:j.1.1.length / 2-1<(S.packed j.2.2.2 1).length
 ·left;have hh:=r.jn.hh;obtain⟨b,e1,e2,e3,_,_⟩:=qit r.jn.dk.ev r.jn.dk.ge (h:=1-j.2.1) (by omega);have hn:S.turn j=none:=q5w (by rw[e1];show ((b+(j.1.1.length / 2-1):Nat):Int)-(b:Int)<_;omega);have hp:S.planTurn j=([],14):=by
   unfold S.planTurn;rw[jao h1,hn]
  refine⟨hn,?_,hp,h3⟩;unfold S.turnJ;rw[hp];rfl
 ·right;obtain⟨b,f1,f2,f3,f4,f5⟩:=q9j r.jn (by omega);rw[<- r.eq] at f2;have hq:j.1=(j.1.1,[]):=jav (·.1) r.eq;rw[<- hq] at f3;have hp:S.planTurn j=(turA j.1.1 (1-j.2.1) b j.2.2.2,0):=by
   unfold S.planTurn;rw[jao h1,f2]
  refine⟨b,f1,f2,hp,f3,?_,f4⟩;unfold S.turnJ;rw[hp];show S.open_ (S.doD j.1 (turA j.1.1 (1-j.2.1) b j.2.2.2)).1=_;rw[f3];exact f4.opened_
theorem qul{j:qad}{a u:Nat}(r:RJ j a u){l:List qaa}(hl:S.okC l=true):(S.commit j l=none/\j.1.1.length / 2-1<u+(S.packed l 1).length) \/
  ∃A,S.commit j l=some A/\A=S.laid l ((a+u:Nat):Int) ((a+(j.1.1.length / 2-1):Nat):Int) true/\u+(S.packed l 1).length<=j.1.1.length / 2-1/\S.doD j.1 A=((comL j.1.1 a u l,[]),0) /\
   S.behind j A=(((comL j.1.1 a u l,[]),j.2.1,((u+(S.packed l 1).length:Nat):Int),S.changed j.2.2.2 l),0)/\Jn (comL j.1.1 a u l) j.2.1 a (u+(S.packed l 1).length) (S.changed j.2.2.2 l):=by
 have hu:=r.jn.le.1;by_cases h3:j.1.1.length / 2-1<u+(S.packed l 1).length
 ·exact .inl ⟨qyc (by rw[r.room2];omega),h3⟩
 ·right;obtain⟨c1,c2,c3,_⟩:=qng r.jn hl (by omega);rw[<- r.eq] at c1;have hq:j.1=(j.1.1,[]):=jav (·.1) r.eq;rw[<- hq] at c2;refine⟨_,c1,rfl,by omega,c2,?_,c3⟩;unfold S.behind;rw[c2];exact c3.opened_
theorem zjt(lf:Nat)(j:qad)(h:S.smallJ j=true):qpn lf j=some (S.roomOf j,()):=by
 obtain⟨h1,h2,h3,h4⟩:=qtq h;simp only[qpn,q6c];rw[show S.inI (Int.ofNat j.1.1.length) (Int.ofNat 0) (Int.ofNat 1000)=true from qbk.2 ⟨jb0 _,by show (j.1.1.length:Int)<=1000;omega⟩,jaa];simp only;unfold S.roomOf;show some (IntKind.i64.wrap (Int.sub (IntKind.i64.wrap ((S.half j.1.1.length j.2.1).2-(S.half j.1.1.length j.2.1).1)) j.2.2.1),())=_;have hb:-1000<=(S.half j.1.1.length j.2.1).2-(S.half j.1.1.length j.2.1).1/\(S.half j.1.1.length j.2.1).2-(S.half j.1.1.length j.2.1).1<=1000:=by
  unfold S.half;split
  ·show -1000<=((j.1.1.length / 2:Nat):Int)-1/\((j.1.1.length / 2:Nat):Int)-1<=1000;omega
  ·show -1000<=(j.1.1.length:Int)-1-((j.1.1.length / 2:Nat):Int)/\(j.1.1.length:Int)-1-((j.1.1.length / 2:Nat):Int)<=1000;omega
 rw[wrap_in (n:=(S.half j.1.1.length j.2.1).2-(S.half j.1.1.length j.2.1).1) (by omega)];refine jav (fun z=>some (z,())) (wrap_in ?_);show -_<=(S.half j.1.1.length j.2.1).2-(S.half j.1.1.length j.2.1).1-j.2.2.1/\(S.half j.1.1.length j.2.1).2-(S.half j.1.1.length j.2.1).1-j.2.2.1<_;omega
theorem q7h:Con Tryz.prog zap qwt:=zj1 ⟨qn6,trivial⟩ fun x y hx h=>⟨0,by
 obtain⟨h1,h2⟩:=qba (show cond (S.smallJ x.1) (some (S.roomOf x.1,())) none=some y from h);exact(zjt 0 x.1 h1).trans (jav some h2)⟩
theorem zfp(l:List qaa):Fz6 LF l=some ((S.size l).1,(S.size l).2,()):=by
 simp only[Fz6,qsz];unfold S.size;rw[qce,q16];by_cases h1:60<l.length
 ·rw[jak h1,jaa,jao h1];rfl
 rw[jap h1,jag,jan h1];by_cases h2:l.length=0
 ·rw[jak h2,jaa,jao h2];rfl
 rw[jap h2,jag,jan h2];have hfin:∀b:Bool,b=S.okC l->(cond b (some (((S.packed l 1).length:Int),(0:Int),())) (some ((0:Int),(1:Int),())))=some ((cond (S.okC l) (((S.packed l 1).length:Int),(0:Int)) ((0:Int),(1:Int))).1,(cond (S.okC l) (((S.packed l 1).length:Int),(0:Int)) ((0:Int),(1:Int))).2,()):=fun b hb=>by
  subst hb;cases S.okC l<;>rfl
 refine(range0 (σ:=Unit) (R:=Rtz6) (T:=fun K p=>qjv LF l K p) l (fun i _=>i) (fun i _=>S.okGo (l.drop i) (qcy l i)=S.okC l\/S.okC l=S.okGo (l.drop i) (qcy l i)) (fun rest i _=>cond (S.okGo rest (qcy l i)) (some (((S.packed l 1).length:Int),(0:Int),())) (some ((0:Int),(1:Int),()))) (by unfold LF;omega) (fun K s hs=>?_) (fun K i v rest s hs r hk=>?_) () (.inl rfl)).trans (hfin _ rfl)
 ·rw[jcr (jar _)] at hs;have hok:S.okC l=true:=hs.elim (fun h=>h.symm) id;simp only[qjv,qca,jag];rw[qmf hok,jaa];rfl
 ·have hd:=r.drop;have hi:=r.lt;have hgi:l[i]?=some v:=by
   have:=r.get
   rwa [qdt] at this
  have hst:S.okGo (v::rest) (qcy l i)=(S.inI v.1 0 199&&(decide (v.2.1.size<=4000)&&(!(v.2.2&&!decide (v.2.1.size=0))&&(decide (qcy l i<v.1)&&S.okGo rest v.1)))):=rfl;have hs':S.okC l=S.okGo (v::rest) (qcy l i):=by rw[hd] at hs;exact hs.elim (fun h=>h.symm) id
  have hnext:qcy l (i+1)=v.1:=zat hgi;rw[hnext] at hk;simp only[qjv,r.ilt,r.get,r.next,jaa];rw[hst];by_cases c1:S.inI v.1 0 199=true
  ·rw[show S.inI v.1 (Int.ofNat 0) (Int.ofNat 199)=true from c1,jay,jag,c1,jb1,qce];by_cases c2:v.2.1.size<=4000
   ·rw[jap (show ¬4000<v.2.1.size by omega),jag,jak c2,jb1,zm4];have hv0:0<=v.1:=(qbk.1 c1).1;have hfinal:cond (decide (qcy l i<v.1)) (K (Int.ofNat (i+1))) (some (Int.ofNat 0,Int.ofNat 1,()))=cond (decide (qcy l i<v.1)&&S.okGo rest v.1) (some (((S.packed l 1).length:Int),(0:Int),())) (some ((0:Int),(1:Int),()))\/¬(v.2.2&&!decide (v.2.1.size=0))=false:=by
     by_cases cg:(v.2.2&&!decide (v.2.1.size=0))=false
     ·left;by_cases c4:qcy l i<v.1
      ·rw[jak c4,jaa,jb1];refine hk () ?_;rw[r.tail];left;rw[hs',hst,c1,jak c2,cg,jak c4];rfl
      ·rw[jap c4,jag,jcw,jag];rfl
     ·exact .inr cg
    cases hg:v.2.2 with
    | true =>
     rw[jaa,jb1];by_cases c3:v.2.1.size=0
     ·rw[jak c3,jay,jag,jax,jb1];refine(q4v (l:=l) hv0 (by omega) (by omega) _ _).trans ?_;refine hfinal.resolve_right ?_;rw[jak c3,jay,Bool.and_false];decide
     ·rw[jap c3,jax,jaa,jay,jcw,jag];rfl
    | false =>
     rw[jag,jcw,jax,jb1];refine(q4v (l:=l) hv0 (by omega) (by omega) _ _).trans ?_;refine hfinal.resolve_right ?_;rw[hg,jcw];decide
   ·rw[jak (show 4000<v.2.1.size by omega),jaa,jap c2,jcw,jag];rfl
  ·have c1:=jci.2 c1;rw[show S.inI v.1 (Int.ofNat 0) (Int.ofNat 199)=false from c1,jax,jaa,c1,jcw,jag];rfl
theorem q2n:Con Tryz.prog idz6 spz6:=mkz6 ⟨qg9,qp8,trivial⟩ fun x y hx h=>⟨LF,(zfp x.1).trans h⟩
theorem qm9{j:qad}(h:S.right j=true):S.errR j=0:=by unfold S.errR;rw[jao h]
theorem qeb{j:qad}(h:¬S.right j=true):S.errR j=1:=by unfold S.errR;rw[jan h]
theorem qst{d:qaf}(h:S.checkDisk d=0):S.okL d=true:=by
 have k:=qxs h;unfold S.okL S.secs;rw[jae,jae,jae,jca];refine⟨⟨ja2 k.le,jdb.2 fun s q=>?_⟩,ja2 k.ge,jak k.ev⟩;unfold S.short;rw[k.sz s q];decide
theorem ziu(lf:Nat)(j:qad):qmo lf j=some (S.errR j,()):=by
 simp only[qmo,q5s];show cond (!ieqI (S.checkDisk j.1) _) _ (cond (iltI (Int.ofNat 0) (Int.ofNat j.1.2.length)) _ (match (cond (S.okL j.1) (some ((S.openedJ j.1).1,((S.openedJ j.1).2,()))) none) with|none=>none|some v=>_))=_;by_cases h0:S.checkDisk j.1=0
 ·rw[qbj (show _=Int.ofNat 0 from h0),jay,jag,qce];by_cases h1:j.1.2.length=0
  ·have hq:j.1.2=[]:=jaz.1 h1;rw[jap (by omega),jag,qst h0,jaa];simp only;unfold S.openedJ;cases ho:S.opened j.1.1 with
   | none =>
    have hr:¬S.right j=true:=fun h=>by
     obtain⟨a,u,r⟩:=qfb h;rw[r.jn.open_] at ho;cases ho
    rw[qeb hr];rfl
   | some x =>
    obtain⟨hf,u,c⟩:=x;simp only;rw[jay,jag,qc8,qc8];have hop:S.open_ j.1=(((j.1.1,[]),hf,(u:Int),c),0):=by
     unfold S.open_;rw[jao h0,jao h1,ho]
    have hre:S.right j=decide ((((j.1.1,[]),hf,(u:Int),c):qad)=j):=by
     unfold S.right;rw[hop];rfl
    obtain⟨⟨L,q⟩,h',u',c'⟩:=j;simp only at hq;subst hq;show cond (!decide (hf=h')) _ (cond (!decide ((u:Int)=u')) _ (cond (!decide (c=c')) _ _))=_;by_cases e1:hf=h'
    ·by_cases e2:(u:Int)=u'
     ·by_cases e3:c=c'
      ·rw[jak e1,jak e2,jak e3,qm9 (by rw[hre,e1,e2,e3];exact jak rfl)];rfl
      ·rw[jak e1,jak e2,jap e3,qeb (fun h=>by rw[hre] at h;exact e3 (jav (fun z:qad=>z.2.2.2) (ja1 h)))];rfl
     ·rw[jak e1,jap e2,qeb (fun h=>by rw[hre] at h;exact e2 (jav (fun z:qad=>z.2.2.1) (ja1 h)))];rfl
    ·rw[jap e1,qeb (fun h=>by rw[hre] at h;exact e1 (jav (fun z:qad=>z.2.1) (ja1 h)))];rfl
  ·have hr:¬S.right j=true:=fun h=>by
    obtain⟨a,u,jn,h2,_⟩:=quk h;rw[h2] at h1;exact h1 rfl
   rw[jak (by omega),jaa,qeb hr];rfl
 ·have hr:¬S.right j=true:=fun h=>by
   obtain⟨a,u,jn,h2,_⟩:=quk h;have:=jn.dk.check;rw[show j.1=(j.1.1,[]) from Prod.ext rfl h2] at h0;exact h0 this
  rw[qbg (show ¬_=Int.ofNat 0 from h0),jax,jaa,qeb hr];rfl
theorem zdp(lf:Nat)(d:qaf):qqb lf d=some ((S.open_ d).1,(S.open_ d).2,()):=by
 simp only[qqb,q5f];unfold S.open_;show cond (!ieqI (S.checkDisk d) _) _ (cond (iltI (Int.ofNat 0) (Int.ofNat d.2.length)) _ (match (cond (S.okL d) (some ((S.openedJ d).1,((S.openedJ d).2,()))) none) with|none=>none|some v=>_))=_;by_cases h0:S.checkDisk d=0
 ·rw[qbj (show _=Int.ofNat 0 from h0),jay,jag,qce,jao h0];by_cases h1:d.2.length=0
  ·rw[jap (by omega),jag,qst h0,jaa,jao h1];simp only;unfold S.openedJ;cases S.opened d.1<;>rfl
  ·rw[jak (by omega),jaa,jan h1];rfl
 ·rw[qbg (show ¬_=Int.ofNat 0 from h0),jax,jaa,jan h0];rfl
theorem zq5(j:qad)(k:Int)(hl:j.2.2.2.length<LF):Fz7 LF j k=some ((S.value j k).1,(S.value j k).2.1,(S.value j k).2.2,()):=by
 simp only[Fz7,qsf];unfold S.value;show cond (!ieqI (S.errR j) _) (some (_,_,S.errR j,())) (cond (!S.inI k 0 199) _ _)=_;by_cases h1:S.right j=true
 ·rw[qm9 h1,show ieqI 0 (Int.ofNat 0)=true from rfl,jay,jag];by_cases h2:S.inI k 0 199=true
  ·rw[h2,jay,jag,jao ⟨h1,rfl⟩]
   refine(qrm (T:=fun K p=>qkf LF j k K p) j.2.2.2 (fun rest _=>some ((match rest.find? (fun c=>decide (c.1=k)) with
    | some c=>(c.2.1,true,0)
    | none=>(S.none_,false,0):ByteArray × Bool × Int).1,(match rest.find? (fun c=>decide (c.1=k)) with
    | some c=>(c.2.1,true,0)
    | none=>(S.none_,false,0):ByteArray × Bool × Int).2.1,(match rest.find? (fun c=>decide (c.1=k)) with
    | some c=>(c.2.1,true,0)
    | none=>(S.none_,false,0):ByteArray × Bool × Int).2.2,())) hl (fun K=>?_) (fun K i v rest r h=>?_)).trans rfl
   ·simp only[qkf,qca,jag];rfl
   ·simp only[qkf,r.ilt,r.get,r.next,jaa,qc8];rw[List.find?_cons];by_cases e:v.1=k
    ·rw[jak e];rfl
    ·rw[jap e,jag,h]
  ·rw[jci.2 h2,jax,jaa,jan (fun h=>by cases h.2)];rfl
 ·rw[qeb h1,show ieqI 1 (Int.ofNat 0)=false from rfl,jax,jaa,jan (fun h=>h1 h.1)];rfl
theorem zmp(lf:Nat)(j:qad):qom lf j=some ((S.room j).1,(S.room j).2,()):=by
 simp only[qom,q1t];unfold S.room;show cond (!ieqI (S.errR j) _) (some (_,S.errR j,())) (match (cond (S.smallJ j) (some (S.roomOf j,())) none) with|none=>none|some v=>_)=_;by_cases h1:S.right j=true
 ·obtain⟨a,u,r⟩:=qfb h1;rw[qm9 h1,show ieqI 0 (Int.ofNat 0)=true from rfl,jay,jag,r.small,jaa,jao h1];rfl
 ·rw[qeb h1,show ieqI 1 (Int.ofNat 0)=false from rfl,jax,jaa,jan h1];rfl
theorem zd2(lf:Nat)(j:qad)(l:List qaa):qop lf j l=some (S.asked j l,()):=by
 simp only[qop,q09];unfold S.asked;show cond (!ieqI (S.errR j) _) (some (S.errR j,())) _=_;by_cases h1:S.right j=true
 ·rw[qm9 h1,show ieqI 0 (Int.ofNat 0)=true from rfl,jay,jag,jao h1]
 ·rw[qeb h1,show ieqI 1 (Int.ofNat 0)=false from rfl,jax,jaa,jan h1]
theorem q2q(a b:List DAct):S.app a b=a++b:=rfl
theorem qch{a:List DAct}{n:Nat}(h:a.length<=n):Nat.ble (S.lenA a) n=true:=ja2 h
theorem qwd(a:Int)(s:ByteArray):S.puts a [s]=[S.put a s]:=rfl
theorem unm(l:List qaa):qag (0::(qab ((S.packed l 1).getD 0 S.none_)).drop 1)=(S.packed l 0).getD 0 S.none_:=by
 have e:∀m:Int,0<=m/\m<256->qab ((S.packed l m).getD 0 S.none_)=m::((S.recB l 0).drop 1).take 63++List.replicate (64-(S.recB l 0).length) 0:=fun m hm=>by
  have h:=qgr ((S.body l).length+3) (b:=S.recB l m) (by rw[qep];omega);have:S.packed l m=qag ((S.recB l m).take 64++List.replicate (64-(S.recB l m).length) 0)::S.chunks ((S.body l).length+3) ((S.recB l m).drop 64):=h;rw[this];exact qb4 (qfc (qer (qji l hm) 64) (qg2 _))
 refine qfo ?_;rw[e 1 (by omega),e 0 (by omega)];have hr:rng ((0:Int)::(((S.recB l 0).drop 1).take 63++List.replicate (64-(S.recB l 0).length) 0)):=fun x hx=>by
  rcases jau.1 hx with rfl|hx
  ·decide
  ·exact qfc (qer (qei (qji l (by decide)) 1) 63) (qg2 _) x hx
 exact qb4 hr
theorem unm2(l:List qaa):qag (Int.ofNat 0::(qab ((S.packed l 1).getD 0 S.none_)).drop 1)=(S.packed l 0).getD 0 S.none_:=unm l
theorem q18(l:List ByteArray):lsub l (Int.ofNat 1) (Int.ofNat l.length)=l.drop 1:=by
 unfold lsub;show (l.take l.length).drop 1=_;rw[List.take_length]
theorem q24(l:List qaa)(a:Nat):S.puts (a:Int) [(S.packed l 0).getD 0 S.none_]++S.puts ((a+1:Nat):Int) ((S.packed l 1).drop 1)=S.puts (a:Int) (S.packed l 0):=by
 rw[qtf l 0];exact(qw1 a [(S.packed l 0).getD 0 S.none_] ((S.packed l 1).drop 1)).symm
theorem in0{n:Nat}(h:n<=1000000):S.inI ((n:Nat):Int) (Int.ofNat 0) (Int.ofNat 1000000)=true:=qbk.2 ⟨jb0 _,by show (n:Int)<=1000000;omega⟩
theorem zcd{j:qad}{l:List qaa}(h:S.comG j l=true):S.smallJ j=true/\S.pk l=true/\0<=j.2.2.1/\j.2.2.1<=1000:=by
 unfold S.comG at h;rw[jae,jae,qbk] at h;exact⟨h.1,h.2.1,h.2.2⟩
theorem zhc(n:Nat)(hn:n<=1000)(h:Int)(h1:0<n\/h=0):∃a b:Nat,(S.half n h).1=(a:Int)/\(S.half n h).2=(b:Int)/\a<=1000/\b<=1000:=by
 unfold S.half;by_cases e:h=0
 ·rw[jao e];exact⟨1,n / 2,rfl,rfl,by omega,by omega⟩
 ·rw[jan e];have:0<n:=h1.resolve_right e;exact⟨n / 2,n-1,rfl,by show (n:Int)-1=((n-1:Nat):Int);omega,by omega,by omega⟩
theorem zr8(lf:Nat)(j:qad)(l:List qaa)(h:S.comG j l=true):qn9 lf j l=some ((S.actsB (S.commit j l)).1,(S.actsB (S.commit j l)).2,()):=by
 obtain⟨hs,hp,hu0,hu1⟩:=zcd h;obtain⟨h1,h2,_,_⟩:=qtq hs;have hpl:=q25 hp 1;have hpos:=qfe l 1;have hp0:(S.packed l 0).length=(S.packed l 1).length:=by rw[qcx,qcx]
 simp only[qn9,q5x];show (match (cond (S.pk l) (some ((S.packed l 1),())) none) with|none=>none|some v0=>(match (cond (S.smallJ j) (some (S.roomOf j,())) none) with|none=>none|some v1=>_))=_;rw[hp,jaa,hs,jaa];simp only;by_cases c0:S.roomOf j<((S.packed l 1).length:Int)
 ·rw[qev (show S.roomOf j<Int.ofNat (S.packed l 1).length from c0),jaa,qyc c0];rfl
 rw[qfp (show ¬S.roomOf j<Int.ofNat (S.packed l 1).length from c0),jag,q8x c0,show S.inI (Int.ofNat j.1.1.length) (Int.ofNat 0) (Int.ofNat 1000)=true from qbk.2 ⟨jb0 _,by show (j.1.1.length:Int)<=1000;omega⟩,jaa];simp only;obtain⟨a,b,ea,eb,ha,hb⟩:=zhc j.1.1.length h1 j.2.1 (by
  refine jet j.1.1.length |>.elim (fun e=>?_) (fun e=>.inl e);refine jcg fun hc=>?_;have hc:¬j.2.1=0:=fun h=>hc (.inr h);have:S.roomOf j=-1-j.2.2.1:=by
   unfold S.roomOf S.half;rw[e,jan hc];show ((0:Nat):Int)-1-((0 / 2:Nat):Int)-j.2.2.1=_;omega
  rw[this] at c0;omega)
 obtain⟨u,hu⟩:∃u:Nat,j.2.2.1=(u:Int):=⟨j.2.2.1.toNat,by omega⟩;have huu:u<=1000:=by omega
 rw[show Int.toNat (Int.ofNat j.1.1.length)=j.1.1.length from rfl,ea,eb,hu];have w1:IntKind.i64.wrap (Int.add (a:Int) (u:Int))=((a+u:Nat):Int):=qbz (n:=a+u) (by omega);have w2:IntKind.i64.wrap (Int.add ((a+u:Nat):Int) (Int.ofNat 1))=((a+u+1:Nat):Int):=qbz (n:=a+u+1) (by omega);have w3:IntKind.i64.wrap (Int.add ((a+u:Nat):Int) (Int.ofNat (S.packed l 1).length))=((a+u+(S.packed l 1).length:Nat):Int):=qbz (n:=a+u+(S.packed l 1).length) (by omega);have hsz:=qir l 1 _ (qi6 (i:=0) (show 0<(S.packed l 1).length by omega));have l1:lchk (Int.ofNat 1) (Int.ofNat (S.packed l 1).length) (Int.ofNat (S.packed l 1).length) (Int.ofNat (S.packed l 1).length)=true:=qb3.2 ⟨by decide,by show (1:Int)<=((S.packed l 1).length:Int);omega,jbr _,jbr _⟩;have hdl:Nat.ble ((S.packed l 1).drop 1).length 1000000=true:=ja2 (by rw[ja7];omega);have hpl0:(S.puts ((a+u:Nat):Int) (S.packed l 0)).length<=20000:=by rw[qlm];omega
 rw[w1,w3];simp only[qnz (d:=S.none_) hpos,get0 (d:=S.none_) hpos,hsz,decide_true,jaa,unm2,w2,in0 (show a+u<=1000000 by omega),in0 (show a+u+1<=1000000 by omega),in0 (show a+u+(S.packed l 1).length<=1000000 by omega),l1,q18,hdl,Bool.and_true,jb1,q2q,jcj];rw[qch (show (S.puts ((a+u:Nat):Int) [(S.packed l 0).getD 0 S.none_]).length<=1000000 by rw[qlm];show 1<=_;omega),jaa];simp only;rw[q24 l (a+u),qch (show (S.puts ((a+u:Nat):Int) (S.packed l 0)).length<=1000000 by omega),jaa];simp only;rw[qch (show (S.puts ((a+u:Nat):Int) (S.packed l 0)).length<=4000000 by omega),jaa];simp only;rw[qch (show (S.puts ((a+u:Nat):Int) (S.packed l 0)++[S.sync]).length<=1000000 by rw[jah];show _+1<=_;omega),jaa];simp only;rw[qch (show (S.puts ((a+u:Nat):Int) (S.packed l 0)++[S.sync]++S.puts ((a+u:Nat):Int) [(S.packed l 1).getD 0 S.none_]).length<=4000000 by rw[jah,jah];show _+1+1<=_;omega),jaa];simp only;rw[qch (show (S.puts ((a+u:Nat):Int) (S.packed l 0)++S.puts ((a+u+(S.packed l 1).length:Nat):Int) [S.blank]).length<=4000000 by rw[jah];show _+1<=_;omega),jaa];simp only;rw[qch (show (S.puts ((a+u:Nat):Int) (S.packed l 0)++S.puts ((a+u+(S.packed l 1).length:Nat):Int) [S.blank]++[S.sync]).length<=1000000 by rw[jah,jah];show _+1+1<=_;omega),jaa];simp only;rw[qch (show (S.puts ((a+u:Nat):Int) (S.packed l 0)++S.puts ((a+u+(S.packed l 1).length:Nat):Int) [S.blank]++[S.sync]++S.puts ((a+u:Nat):Int) [(S.packed l 1).getD 0 S.none_]).length<=4000000 by rw[jah,jah,jah];show _+1+1+1<=_;omega),jaa,qbc];unfold S.laid;rw[jb1];have hc2:(a:Int)+(u:Int)=((a+u:Nat):Int):=by omega
 have hc3:((a+u:Nat):Int)+((S.packed l 1).length:Int)=((a+u+(S.packed l 1).length:Nat):Int):=by omega
 rw[hc2,hc3];cases decide (((a+u+(S.packed l 1).length:Nat):Int)<(b:Int)) with
 | true =>
  simp only[jaa,qwd,ja0];rfl
 | false =>
  simp only[jag,qwd,ja0,jcj];rfl
theorem zlf{d:qaf}(h:(S.open_ d).2=0):S.okL d=true/\S.openedJ d=((S.open_ d).1,true):=by
 obtain⟨hf,a,u,c,jn,h1,h2⟩:=qxa h;have hd:d=(d.1,[]):=Prod.ext rfl h1;refine⟨qst (by rw[hd];exact jn.dk.check),?_⟩;unfold S.openedJ;rw[jn.open_,h2]
theorem zrd(lf:Nat)(j:qad)(a:List DAct)(h:S.behG j a=true):qpp lf j a=some ((S.behind j a).1,()):=by
 unfold S.behG at h;rw[jae] at h;have h1:=ja1 h.1;simp only[qpp,q4o];unfold S.behind at h1 ⊢;obtain⟨h2,h3⟩:=zlf h1;show (match (cond (S.okL (S.doD j.1 a).1) (some ((S.openedJ (S.doD j.1 a).1).1,((S.openedJ (S.doD j.1 a).1).2,()))) none) with|none=>none|some v=>_)=_;rw[h2,jaa,h3]
def S.kept(k:List Int)(n:Nat):List Int:=(k.take n).map (· % 65)
theorem zbs{l:List qaa}(hl:S.okC l=true)(h0:l.length≠0)(h60:l.length<=60):S.size l=(((S.packed l 1).length:Int),0):=by
 unfold S.size;rw[jan (by omega),jan h0,hl,jaa]
theorem q2c{L:List ByteArray}{h:Int}{a u:Nat}{c l:List qaa}(j:Jn L h a u c)(hr:¬u+(S.packed l 1).length<=L.length / 2-1):S.commit ((L,[]),h,(u:Int),c) l=none:=by
 have:=j.le.1;unfold S.commit;rw[jao (by rw[qnk j];omega)]
theorem q4d{L:List ByteArray}{h:Int}{a u:Nat}{c l:List qaa}(j:Jn L h a u c)(hl:S.okC l=true)(hr:u+(S.packed l 1).length<=L.length / 2-1) :
  S.behind ((L,[]),h,(u:Int),c) (S.laid l ((a+u:Nat):Int) ((a+(L.length / 2-1):Nat):Int) true)=(((comL L a u l,[]),h,((u+(S.packed l 1).length:Nat):Int),S.changed c l),0):=by
 obtain⟨_,h2,h3,_⟩:=qng j hl hr;unfold S.behind;rw[h2];exact h3.opened_
theorem zg5{L:List ByteArray}{h:Int}{a u:Nat}{c:List qaa}(j:Jn L h a u c)(hr:¬(S.packed c 1).length<=L.length / 2-1):S.turn ((L,[]),h,(u:Int),c)=none:=by
 have hh:=j.hh;obtain⟨b,e1,_⟩:=qit j.dk.ev j.dk.ge (h:=1-h) (by omega);unfold S.turn;rw[jao];show (S.half L.length (1-h)).2-(S.half L.length (1-h)).1<((S.packed c 1).length:Int);rw[e1];show ((b+(L.length / 2-1):Nat):Int)-(b:Int)<_;omega
theorem q8u{L:List ByteArray}{h:Int}{a u:Nat}{c:List qaa}(j:Jn L h a u c)(hr:(S.packed c 1).length<=L.length / 2-1):∃b,S.turnJ ((L,[]),h,(u:Int),c)=(((turL L (1-h) b c,[]),1-h,(((S.packed c 1).length:Nat):Int),c),0) /\
  S.planTurn ((L,[]),h,(u:Int),c)=(turA L (1-h) b c,0)/\Jn (turL L (1-h) b c) (1-h) b (S.packed c 1).length c/\(turL L (1-h) b c).length=L.length/\S.half L.length (1-h)=((b:Int),((b+(L.length / 2-1):Nat):Int)):=by
 obtain⟨b,h1,h2,h3,h4,h5⟩:=q9j j hr;have hp:S.planTurn ((L,[]),h,(u:Int),c)=(turA L (1-h) b c,0):=by
  unfold S.planTurn;rw[jao j.right,h2]
 refine⟨b,?_,hp,h4,h5,h1⟩;unfold S.turnJ;rw[hp,jao rfl];unfold S.behind;rw[h3];exact h4.opened_
theorem q7b{L:List ByteArray}{h:Int}{a u:Nat}{c:List qaa}(j:Jn L h a u c)(hr:¬(S.packed c 1).length<=L.length / 2-1):S.planTurn ((L,[]),h,(u:Int),c)=([],14)/\S.turnJ ((L,[]),h,(u:Int),c)=(S.noJ,14):=by
 have hp:S.planTurn ((L,[]),h,(u:Int),c)=([],14):=by
  unfold S.planTurn;rw[jao j.right,zg5 j hr]
 refine⟨hp,?_⟩;unfold S.turnJ;rw[hp,jan (by show ¬(14:Int)=0;decide)]
theorem qpz{L:List ByteArray}{h:Int}{a u:Nat}{c l:List qaa}(j:Jn L h a u c)(hl:S.okC l=true)(h0:l.length≠0)(h60:l.length<=60) :
  (∃L' h' a' u',S.save ((L,[]),h,(u:Int),c) l=(((L',[]),h',((u':Nat):Int),S.changed c l),0)/\Jn L' h' a' u' (S.changed c l)/\L'.length=L.length /\
   (u+(S.packed l 1).length<=L.length / 2-1\/(S.packed c 1).length+(S.packed l 1).length<=L.length / 2-1)) \/
  S.save ((L,[]),h,(u:Int),c) l=(S.noJ,14)/\¬u+(S.packed l 1).length<=L.length / 2-1/\¬(S.packed c 1).length+(S.packed l 1).length<=L.length / 2-1:=by
 unfold S.save;rw[jao j.right,zbs hl h0 h60,jao rfl];by_cases hr:u+(S.packed l 1).length<=L.length / 2-1
 ·obtain⟨h1,_,h3,h4⟩:=qng j hl hr;rw[h1];exact .inl ⟨_,_,_,_,q4d j hl hr,h3,h4,.inl hr⟩
 ·rw[q2c j hr];by_cases ht:(S.packed c 1).length<=L.length / 2-1
  ·obtain⟨b,t1,_,t3,t4,_⟩:=q8u j ht;simp only;rw[t1,jao rfl];by_cases hr2:(S.packed c 1).length+(S.packed l 1).length<=L.length / 2-1
   ·have hr3:(S.packed c 1).length+(S.packed l 1).length<=(turL L (1-h) b c).length / 2-1:=by rw[t4];exact hr2
    obtain⟨h1,_,h3,h4⟩:=qng t3 hl hr3;rw[h1];exact .inl ⟨_,_,_,_,q4d t3 hl hr3,h3,h4.trans t4,.inr hr2⟩
   ·rw[q2c t3 (by rw[t4];exact hr2)];exact .inr ⟨rfl,hr,hr2⟩
  ·simp only;rw[(q7b j ht).2,jan (by show ¬(14:Int)=0;decide)];exact .inr ⟨rfl,hr,by omega⟩
end Go.Proofs.YtnhmanoiolfapaaGreat
end

section
namespace Go.Jx
open Go Go.Sx Go.RowKit
universe u

def qdf{D α:Type}(g:D->α->Option (D × Bool)):List α->D->Option (D × Bool)
 | [],d=>some (d,false)
 | x::xs,d=>match g d x with
  | none=>none
  | some (d',b)=>cond b (some (d',true)) (qdf g xs d')
section
variable (P : Program) (tt : Nat -> Option TI)
end
section
variable {P : Program} {tt : Nat -> Option TI}
end
end Go.Jx
end

section
namespace Go.Jx
open Go Go.Sx Go.RowKit
universe u

theorem zm3{b:Nat}{A B:World}{o:Obj}(u:Upd [b] A B)(hA:A.heap[b]?=some o):∃B',Upd [] A B'/\Beside b B' B:=by
 have hlt:b<A.heap.size:=qas hA;refine⟨B.putObj b o,⟨u.os,u.tape,u.output,by rw[(Beside.put B b o).size];exact u.size,fun x hx _=>?_⟩,(Beside.put B b o).symm⟩;by_cases e:x=b
 ·subst e;rw[jbp (jbf hx u.size),hA]
 ·rw[jb7 e];exact u.same x hx (by simpa using e)
def q6r(P:Program)(gf:Nat)(us:List Value)(bx:Nat)(m0:List Nat)(W0:World)(Rd:World->Prop){α:Type}(V:α->Value->Env->Prop)(xs:List α):Prop :=
 ∀(l:Nat) (J:List α->World->Prop) (K:World->Prop),(∀s A B,J s A->Upd [bx] A B->J s B)->(∀A B,K A->Upd [bx] A B->K B)->(∀s A,J s A->Rd A) ->
  (∀pre x post A0 A u,xs=pre++x::post->J pre A0->Upd [bx] A0 A->(∀E:Env,E.w=A->(∀b∈E.m,b<A0.heap.size/\(b<W0.heap.size->b∈m0))->V x u E) ->
   YieldAt Fence.wide 0 P l #[u] A fun e B=>(∀b,(b=bx\/A0.heap.size<=b)->b<A.heap.size->B.heap[b]?=A.heap[b]?)/\((e=.returned (.bool true)/\J (pre++[x]) B)\/(e=.returned (.bool false)/\K B))) ->
  J [] W0->CallsIn Fence.wide 0 P gf (#[.func (.yield l) #[] #[]]++us.toArray) W0 fun e B=>e=.returned (.tuple #[])/\(J xs B\/K B)
structure ConW (P:Program) (f:Nat) (s:SmI):Prop where
 callable:qai P f
 ns:nP s.ips=0
 it:∀(E:Env) (x:ElP s.ips) (us:List Value) (i:Nat) (l:List (El s.c)),s.xs x=some l->Gl E.m E.w->qxh E s x us [i]->E.ρ i∈E.m->(∀b∈E.m,b<E.w.heap.size) ->
  q6r P f us (E.ρ i) E.m E.w (fun W=>E.Le (E.at_ W)) (fun x u E=>VR E (asIV s.c x) u) l
def endX(k:Nat):IEx->Option Bool
 | .normal=>some false
 | .exit i=>cond (Nat.beq i k) (some true) none
 | _=>none
def retX{D:Type}(k:Nat):Option (D × Option Code)->Option (D × Bool)
 | some (d,none)=>some (d,false)
 | some (d,some (.exit i))=>cond (Nat.beq i k) (some (d,true)) none
 | _=>none
def qtd(k:Nat)(b:Bool):Option Code:=cond b (some (.exit k)) none
theorem znw{D:Type}{k:Nat}{o:Option (D × Option Code)}{d:D}{b:Bool}(h:retX k o=some (d,b)):o=some (d,qtd k b):=by
 unfold retX at h;split at h
 ·cases h;rfl
 ·rename_i i;cases hb:Nat.beq i k with
  | false=>rw[hb] at h;cases h
  | true =>
   rw[hb] at h;have:=jaj hb;subst this;cases h;rfl
 ·cases h
theorem qze{D α:Type}{k:Nat}(g:D->α->Option (D × Option Code)):∀(xs:List α) (d d':D) (b:Bool),qdf (fun d x=>retX k (g d x)) xs d=some (d',b)->foldB g xs d=some (d',qtd k b)
 | [],d,d',b,h=>by cases h;rfl
 | x::xs,d,d',b,h=>by
  simp only[qdf,foldB] at h ⊢;cases hg:retX k (g d x) with
  | none=>rw[hg] at h;cases h
  | some q =>
   obtain⟨z,e⟩:=q;rw[hg] at h;rw[znw hg];cases e with
   | false=>exact qze g xs z d' b h
   | true=>cases h;rfl
section
variable (P : Program) (tt : Nat -> Option TI)
def qph(k:Nat)(cfg:LpC)(c:TC)(nt lf:Nat)(clP:ClP)(pr:Nat)(assign body:Code)(d:ElP cfg.lp)(z:ElP (refs cfg.lp))(x:El c):Option (ElP (refs cfg.lp) × Bool) :=
 qax P tt cfg.nm (mP cfg.lp) nt (clP (ElP (refs cfg.lp) × Bool)) lf none assign (qdp [pr] [asIV c x] (putL cfg.ls (qaq cfg.lp idN 0 d) .leaf)) (Sc cfg.lp (updP cfg.lp d z)) [] fun r1=>match r1.e with
  | .normal=>match r1.ds with
   | []=>qax P tt cfg.nm (mP cfg.lp) nt (clP (ElP (refs cfg.lp) × Bool)) lf none body r1.fr r1.S [] fun r2=>match r2.ds with
     | []=>match endX k r2.e with
      | none=>none
      | some b=>match runQ (sQ cfg.lp) ⟨.tup [],r2.S,0,0⟩ with
       | none=>none
       | some y=>some (y.2,b)
     | _=>none
   | _=>none
  | _=>none
theorem zom{k:Nat}{cfg:LpC}{c:TC}{nt lf:Nat}{cl:Cl}{clP:ClP}(hcl:∀R,ClEq cl (clP R))(pr:Nat)(assign body:Code)(d:ElP cfg.lp)(z:ElP (refs cfg.lp))(x:El c) :
  qph P tt k cfg c nt lf clP pr assign body d z x=retX k (qeq P tt cfg c nt lf cl pr assign body d z x):=by
 unfold qph qeq;rw[qen (hcl _)];cases qak P tt cfg.nm (mP cfg.lp) nt cl lf none assign (qdp [pr] [asIV c x] (putL cfg.ls (qaq cfg.lp idN 0 d) .leaf)) (Sc cfg.lp (updP cfg.lp d z)) [] with
 | none=>rfl
 | some r1 =>
  simp only[bd];cases r1.e<;>try rfl
  simp only;cases r1.ds with
  | cons _ _=>rfl
  | nil =>
   simp only;rw[qen (hcl _)];cases qak P tt cfg.nm (mP cfg.lp) nt cl lf none body r1.fr r1.S [] with
   | none=>rfl
   | some r2 =>
    simp only[bd];cases r2.ds with
    | cons _ _=>rfl
    | nil =>
     simp only;cases r2.e with
     | exit i =>
      simp only[endX,qdl];cases hk:Nat.beq i k<;>cases runQ (sQ cfg.lp) ⟨.tup [],r2.S,0,0⟩<;>simp [retX,hk]
     | _=>cases runQ (sQ cfg.lp) ⟨.tup [],r2.S,0,0⟩<;>rfl
def qlw(S2:IS)(cfg:LpC)(id nt:Nat)(fr:PT IV)(pr D:Nat)(assign body:Code)(i:Nat)(rows subs:List Nat)(w:Nat)(q:ElP (refs cfg.lp) × Option Code):Res :=
 ⟨.tup [],(qbw (sQ cfg.lp) S2.next rows subs () q.1 (S2.set i .dead)).set id (.loop (cond q.2.isNone .ready .done) q.2 nt fr [pr] assign body D),2 ^ id,2 ^ id ||| (w ||| qbs ([i]++(rows++subs)))⟩
def itW(k:Nat)(s:SmI)(cfg:LpC)(lf:Nat)(cl:Cl)(vs:List IV)(S:IS):Option Res:=match vs with
 | .yield id::caps=>match rdP s.ips S caps with
  | some (xi,[i],_,S1,w1)=>match S1.heap.get id with
   | some (.loop .ready none nt fr [pr] assign body D)=>match rdP cfg.lp S1 (cfg.ls.map (slot fr)) with
    | none=>none
    | some (d0,rows,subs,S2,w2)=>cond (itB S2 cfg id nt [i] rows subs w2 assign body) (match fiP cfg.lp rows subs S2 d0 with
     | none=>none
     | some d=>match s.xs xi with
      | none=>none
      | some l=>match qdf (fun z x=>retX k (qeq P tt cfg s.c nt lf cl pr assign body d z x)) l (qc7 cfg.lp d) with
       | none=>none
       | some z=>some (qlw S2 cfg id nt fr pr D assign body i rows subs (w1 ||| w2) (z.1,qtd k z.2))) none
   | _=>none
  | _=>none
 | _=>none
def itWK(k:Nat)(s:SmI)(cfg:LpC)(lf:Nat)(clP:ClP)(R:Type)(vs:List IV)(S:IS)(kk:Res->Option R):Option R:=match vs with
 | .yield id::caps=>match rdP s.ips S caps with
  | some (xi,[i],_,S1,w1)=>match S1.heap.get id with
   | some (.loop .ready none nt fr [pr] assign body D)=>match rdP cfg.lp S1 (cfg.ls.map (slot fr)) with
    | none=>none
    | some (d0,rows,subs,S2,w2)=>cond (itB S2 cfg id nt [i] rows subs w2 assign body) (match fiP cfg.lp rows subs S2 d0 with
     | none=>none
     | some d=>match s.xs xi with
      | none=>none
      | some l=>match qdf (qph P tt k cfg s.c nt lf clP pr assign body d) l (qc7 cfg.lp d) with
       | none=>none
       | some z=>cond z.2 (kk (qlw S2 cfg id nt fr pr D assign body i rows subs (w1 ||| w2) (z.1,some (.exit k)))) (kk (qlw S2 cfg id nt fr pr D assign body i rows subs (w1 ||| w2) (z.1,none)))) none
   | _=>none
  | _=>none
 | _=>none
end
section
variable {P : Program} {tt : Nat -> Option TI}
theorem zn3(k:Nat)(s:SmI)(cfg:LpC)(lf:Nat)(cl:Cl)(clP:ClP)(hcl:∀R,ClEq cl (clP R))(R:Type)(vs:List IV)(S:IS)(kk:Res->Option R):itWK P tt k s cfg lf clP R vs S kk=ob (itW P tt k s cfg lf cl vs S) kk:=by
 unfold itWK itW;cases vs with
 | nil=>rfl
 | cons v caps =>
 cases v<;>try rfl
 rename_i id;simp only;cases rdP s.ips S caps with
 | none=>rfl
 | some a =>
 obtain⟨xi,irows,_,S1,w1⟩:=a;cases irows with
 | nil=>rfl
 | cons i irows =>
 cases irows with
 | cons _ _=>rfl
 | nil =>
 simp only;cases S1.heap.get id with
 | none=>rfl
 | some o =>
 cases o<;>try rfl
 rename_i st pe nt fr ps assign body D;cases st<;>try rfl
 cases pe<;>try rfl
 cases ps with
 | nil=>rfl
 | cons pr ps =>
 cases ps with
 | cons _ _=>rfl
 | nil =>
 simp only;cases rdP cfg.lp S1 (cfg.ls.map (slot fr)) with
 | none=>rfl
 | some b =>
 obtain⟨d0,rows,subs,S2,w2⟩:=b;simp only[qbd];cases fiP cfg.lp rows subs S2 d0 with
 | none=>rfl
 | some d =>
 simp only;cases s.xs xi with
 | none=>rfl
 | some l =>
 have e:qph P tt k cfg s.c nt lf clP pr assign body d=fun z x=>retX k (qeq P tt cfg s.c nt lf cl pr assign body d z x):=by
  funext z x;exact zom P tt hcl pr assign body d z x
 simp only[e];cases qdf (fun z x=>retX k (qeq P tt cfg s.c nt lf cl pr assign body d z x)) l (qc7 cfg.lp d) with
 | none=>rfl
 | some q=>obtain⟨z,b⟩:=q;cases b<;>rfl
theorem qvg{k:Nat}{s:SmI}{cfg:LpC}{lf:Nat}{cl:Cl}{vs:List IV}{S:IS}{r:Res}(h:itW P tt k s cfg lf cl vs S=some r) :
  ∃id caps xi i isubs S1 w1 nt fr pr assign body D d0 rows subs S2 w2 d l q,vs=.yield id::caps/\rdP s.ips S caps=some (xi,[i],isubs,S1,w1)/\S1.heap.get id=some (.loop .ready none nt fr [pr] assign body D) /\
   rdP cfg.lp S1 (cfg.ls.map (slot fr))=some (d0,rows,subs,S2,w2)/\itB S2 cfg id nt [i] rows subs w2 assign body=true/\fiP cfg.lp rows subs S2 d0=some d/\s.xs xi=some l /\
   foldB (qeq P tt cfg s.c nt lf cl pr assign body d) l (qc7 cfg.lp d)=some q/\r=qlw S2 cfg id nt fr pr D assign body i rows subs (w1 ||| w2) q:=by
 unfold itW at h;split at h<;>try cases h
 rename_i id caps;split at h<;>try cases h
 rename_i xi i isubs S1 w1 h1;split at h<;>try cases h
 rename_i nt fr pr assign body D ho;split at h
 ·cases h
 rename_i d0 rows subs S2 w2 h2;cases hb:itB S2 cfg id nt [i] rows subs w2 assign body with
 | false=>rw[hb] at h;cases h
 | true =>
 rw[hb,jaa] at h;split at h
 ·cases h
 rename_i d h3;split at h
 ·cases h
 rename_i l h4;split at h<;>cases h;rename_i q h5;exact⟨id,caps,xi,i,isubs,S1,w1,nt,fr,pr,assign,body,D,d0,rows,subs,S2,w2,d,l,_,rfl,h1,ho,h2,hb,h3,h4,qze _ _ _ _ _ h5,rfl⟩
theorem zsn{k:Nat}{s:SmI}{cfg:LpC}{lf:Nat}{cl:Cl}{vs:List IV}{S:IS}:FrO S (itW P tt k s cfg lf cl vs S):=fun r h=>by
 obtain⟨id,caps,xi,i,isubs,S1,w1,nt,fr,pr,assign,body,D,d0,rows,subs,S2,w2,d,l,q,rfl,h1,ho,h2,hb,h3,h4,h5,rfl⟩:=qvg h;have k1:=qex _ h1;have k2:=qex _ h2;have k0:=FrX.set S2 i .dead;have k3:=k0.trans ((qrs subs (S2.set i .dead)).trans ((qs7 rows (qar (refs cfg.lp) (fun k=>S2.next+(k-mP cfg.lp)) (mP cfg.lp) q.1) _).trans (qql (newO (sQ cfg.lp) () q.1) _ 0)));have k4:=(k1.trans k2).trans (k3.trans (FrX.set _ id (.loop (cond q.2.isNone .ready .done) q.2 nt fr [pr] assign body D)));refine⟨k4.1,fun j hj hbit=>k4.2 j hj ?_⟩;have hbit:(2 ^ id ||| ((w1 ||| w2) ||| qbs ([i]++(rows++subs)))).testBit j=false:=hbit;have e0:qbs [i]=2 ^ i:=by simp[qbs]
 simp only[qtg,e0,jcd,jce,Nat.zero_testBit] at hbit ⊢;obtain⟨a,⟨b,c⟩,g,e,f⟩:=hbit;exact⟨⟨b,c⟩,⟨g,f,e,trivial⟩,a⟩
theorem zqp{k:Nat}{s:SmI}{cfg:LpC}{lf:Nat}{cl:Cl}{vs:List IV}{S:IS}{r:Res}(h:itW P tt k s cfg lf cl vs S=some r)(hw:r.wr=0):False:=by
 obtain⟨id,caps,xi,i,isubs,S1,w1,nt,fr,pr,assign,body,D,d0,rows,subs,S2,w2,d,l,q,rfl,h1,ho,h2,hb,h3,h4,h5,rfl⟩:=qvg h;have:2 ^ id=0:=(or_zero hw).1;have:=jfg (n:=id);omega
def itWx(P:Program)(tt:Nat->Option TI)(k:Nat)(s:SmI)(cfg:LpC)(lf:Nat):Hx:=⟨itW P tt k s cfg lf,fun clP R vs S kk=>itWK P tt k s cfg lf clP R vs S kk,fun cl clP hcl R vs S kk=>zn3 k s cfg lf cl clP hcl R vs S kk⟩
theorem Held.dead{T:TW}{E:Env}{S:IS}{l:List PK}{x:ElP l}{rows subs:List Nat}(h:Held T E S l x rows subs)(p:Pre T E S){i:Nat}{w:World}(hT:T.w i)(hA:E.A i)(hL:Live E S.H i)(hi:i ∉ rows++subs)(hb:Beside (E.ρ i) E.w w) :
  Held T (E.at_ w) (S.set i .dead) l x rows subs:=by
 have hle:=Env.at_le p.st hT hA hL hb.upd;refine⟨h.l1,h.l2,h.nd,h.w,h.A,fun ι hι j o hj=>?_,fun id hid=>?_,fun j=>?_⟩
 ·obtain⟨id,g1,g2,g3,g4⟩:=h.at_ ι hι j o hj;have hm:id∈rows:=jbu g1;refine⟨id,g1,g2,g3,g4.mono hle g2 g3 fun hl hh=>hb.same _ fun e=>?_⟩;obtain⟨cs,hcs⟩:=h.row id hm;have:=p.st.inj _ _ (T.sub _ (h.w id (jbv _ hm))) (T.sub _ hT) g2 hA ⟨hh,_,hcs,rfl⟩ hL e;exact hi (this▸jbv _ hm)
 ·obtain⟨cs,hcs⟩:=h.row id hid;exact⟨cs,by rw[IS.H_set,up_ne _ _ (fun e:id=i=>hi (e▸jbv _ hid))];exact hcs⟩
 ·rw[h.sub];cases hs:subs[j]? with
  | none=>rfl
  | some id =>
   have hm:id∈subs:=jbu hs;show S.H id=(S.set i .dead).H id;rw[IS.H_set,up_ne _ _ (fun e:id=i=>hi (e▸jb5 _ hm))]
end
end Go.Jx
end

noncomputable section
set_option maxRecDepth 100000
namespace Go.Proofs.YtnhmanoiolfapaaGreat
open Go Go.Sx Go.RowKit Go.Jx
def S.listed(m:List (Int × ByteArray)):List qaa:=m.foldl (fun c p=>S.ins1 (p.1,p.2,false) c) []
def S.mapG(m:List (Int × ByteArray)):Bool:=decide (m.map (·.1)).Nodup&&m.all fun p=>S.inI p.1 0 199&&Nat.ble p.2.size 4000
def qcz:SmR:=⟨[.ref (.mp (.int .i64) .str)],[(false,.list qac)],fun x=>match x.1 with
 | some m=>cond (S.mapG m) (some ((S.listed m,()),(some m,()))) none
 | none=>none⟩
def S.recsGo:Nat->List ByteArray->List qfv
 | 0,_=>[]
 | f+1,l=>match l with
  | []=>[]
  | s::r=>if (qab s).getD 0 0=0 then [] else S.readK (s::r)::cond (S.readK (s::r)).2.2 [] (S.recsGo f ((s::r).drop (S.readK (s::r)).2.1.toNat))
def S.recsK(l:List ByteArray):List qfv:=S.recsGo (l.length+1) l
def q0k:SmI:=⟨[.ref (.box [.dat (.list .str)])],cKeepRecord,fun x=>cond (S.secs x.1.1) (some (S.recsK x.1.1)) none⟩
end Go.Proofs.YtnhmanoiolfapaaGreat
end

section
namespace Go.Proofs.YtnhmanoiolfapaaGreat
open Go Go.RowKit Go.Shelf
def qvm:Go.Shelf.Ren:=⟨fun|105=>90|212=>102|99=>106|165=>107|166=>108|170=>109|169=>110|263=>116|264=>117|206=>118|240=>119|241=>120|276=>126|277=>127|n=>n,fun|9=>9|3=>3|4=>4|20=>20|0=>0|46=>141|109=>158|5=>5|72=>166|76=>170|51=>178|146=>179|53=>181|148=>182|70=>164|37=>78|75=>169|127=>184|164=>191|80=>100|n=>n,fun|n=>n⟩
theorem qxu:Go.Proofs.Lays.n105 Tryz.prog qvm:={
 mixed:=by kernel_rfl
 f99:=Tryz.func106.trans (jav some (by kernel_rfl))
 f105:=Tryz.func90.trans (jav some (by kernel_rfl))
 f165:=Tryz.func107.trans (jav some (by kernel_rfl))
 f166:=Tryz.func108.trans (jav some (by kernel_rfl))
 f169:=Tryz.func110.trans (jav some (by kernel_rfl))
 f170:=Tryz.func109.trans (jav some (by kernel_rfl))
 f206:=Tryz.func118.trans (jav some (by kernel_rfl))
 f212:=Tryz.func102.trans (jav some (by kernel_rfl))
 f240:=Tryz.func119.trans (jav some (by kernel_rfl))
 f241:=Tryz.func120.trans (jav some (by kernel_rfl))
 f263:=Tryz.func116.trans (jav some (by kernel_rfl))
 f264:=Tryz.func117.trans (jav some (by kernel_rfl))
 f276:=Tryz.func126.trans (jav some (by kernel_rfl))
 f277:=Tryz.func127.trans (jav some (by kernel_rfl))
 t0:=Tryz.underlying0
 a0:=Tryz.isAgg0
 z0:=Tryz.sizeOf0
 v0:=Tryz.zeroValue0
 t3:=Tryz.underlying3
 a3:=Tryz.isAgg3
 z3:=Tryz.sizeOf3
 v3:=Tryz.zeroValue3
 t4:=Tryz.underlying4
 a4:=Tryz.isAgg4
 z4:=Tryz.sizeOf4
 v4:=Tryz.zeroValue4
 t5:=Tryz.underlying5
 a5:=Tryz.isAgg5
 z5:=Tryz.sizeOf5
 v5:=Tryz.zeroValue5
 t9:=Tryz.underlying9
 a9:=Tryz.isAgg9
 z9:=Tryz.sizeOf9
 v9:=Tryz.zeroValue9
 t20:=Tryz.underlying20
 a20:=Tryz.isAgg20
 z20:=Tryz.sizeOf20
 v20:=Tryz.zeroValue20
 t37:=Tryz.underlying78
 a37:=Tryz.isAgg78
 z37:=Tryz.sizeOf78
 v37:=Tryz.zeroValue78
 t46:=Tryz.underlying141
 a46:=Tryz.isAgg141
 z46:=Tryz.sizeOf141
 v46:=Tryz.zeroValue141
 t51:=Tryz.underlying178
 a51:=Tryz.isAgg178
 z51:=Tryz.sizeOf178
 v51:=Tryz.zeroValue178
 t53:=Tryz.underlying181
 a53:=Tryz.isAgg181
 z53:=Tryz.sizeOf181
 v53:=Tryz.zeroValue181
 t70:=Tryz.underlying164
 a70:=Tryz.isAgg164
 z70:=Tryz.sizeOf164
 v70:=Tryz.zeroValue164
 t72:=Tryz.underlying166
 a72:=Tryz.isAgg166
 z72:=Tryz.sizeOf166
 v72:=Tryz.zeroValue166
 t75:=Tryz.underlying169
 a75:=Tryz.isAgg169
 z75:=Tryz.sizeOf169
 v75:=Tryz.zeroValue169
 t76:=Tryz.underlying170
 a76:=Tryz.isAgg170
 z76:=Tryz.sizeOf170
 v76:=Tryz.zeroValue170
 t109:=Tryz.underlying158
 a109:=Tryz.isAgg158
 z109:=Tryz.sizeOf158
 v109:=Tryz.zeroValue158
 t127:=Tryz.underlying184
 a127:=Tryz.isAgg184
 z127:=Tryz.sizeOf184
 v127:=Tryz.zeroValue184
 t146:=Tryz.underlying179
 a146:=Tryz.isAgg179
 z146:=Tryz.sizeOf179
 v146:=Tryz.zeroValue179
 t148:=Tryz.underlying182
 a148:=Tryz.isAgg182
 z148:=Tryz.sizeOf182
 v148:=Tryz.zeroValue182
 t164:=Tryz.underlying191
 a164:=Tryz.isAgg191
 z164:=Tryz.sizeOf191
 v164:=Tryz.zeroValue191 }
theorem zk6:Builder.Extra Tryz.prog qvm:={
 sizeBuilder:=by kernel_rfl
 liesBuilder:=by kernel_rfl
 t5:=Tryz.underlying5
 a5:=Tryz.isAgg5
 z5:=Tryz.sizeOf5
 v5:=Tryz.zeroValue5
 infoByte:=by kernel_rfl
 cellsByte:=by kernel_rfl
 sizeByte:=by kernel_rfl
 neB5:=by decide }
theorem zh8(s:ByteArray)(c:Nat)(w:World)(hc:c<=9223372036854775807)(hlen:s.size*c<=140737488355328) :
  Calls Tryz.prog 90 #[.string s,.int .i64 c] w fun e w'=>e=.returned (.string ⟨(Lib.repeatL s.data.toList c).toArray⟩)/\Below w.heap.size w w':=Any.strings_Repeat qxu zk6 s c w hc hlen
end Go.Proofs.YtnhmanoiolfapaaGreat
end

noncomputable section
set_option maxRecDepth 100000
namespace Go.Proofs.YtnhmanoiolfapaaGreat
open Go Go.Sx Go.RowKit Go.Jx
theorem zmh:qai Tryz.prog 90:=⟨_,Tryz.func90,by kernel_rfl,by kernel_rfl⟩
theorem zhd{f:Nat}{s:Sm}(hC:qai Tryz.prog f)(hr:∀y,resO s.rts y=[])
  (h:∀(M:List Nat) (w:World) (x:ElA s.pts) (us:List Value) (y:ElR s.rts),s.f x=some y->VRs (EM M w) (argV s.pts x) us->∃v,(∀E':Env,VR E' (tupI (resV s.rts 0 y)) v)/\Calls Tryz.prog f us.toArray w fun e w'=>e=.returned v/\Below w.heap.size w w'):Con Tryz.prog f s :=
 ⟨hC,fun M w x us y hy hM hg hv=>by
  obtain⟨v,h1,h2⟩:=h M w x us y hy hv;refine(jdh.2 h2).mono fun e w' hR=>?_;obtain⟨rfl,hb⟩:=hR;rw[hr y];obtain⟨q1,q2⟩:=Post.idle (preM hM hg) (Upd.of_below hb);exact⟨v,(EM M w).at_ w',rfl,rfl,h1 _,q1,q2⟩⟩
theorem zho{s:ByteArray}{n:Int}(h:S.oneN s n=true):s=S.lit [0]/\n=64:=by
 unfold S.oneN at h;rw[jae] at h;exact⟨ja1 h.1,ja1 h.2⟩
theorem zde:S.blank.size=64:=by kernel_rfl
theorem zqx{E:Env}(s:ByteArray)(n:Int){us:List Value}{y:ByteArray × Unit}(hy:cond (S.oneN s n) (some (S.blank,())) none=some y)(hv:VRs E [.str s,.int .i64 n] us) :
  ∃v,(∀E':Env,VR E' (.str y.1) v)/\Calls Tryz.prog 90 us.toArray E.w fun e w'=>e=.returned v/\Below E.w.heap.size E.w w':=by
 obtain⟨hk,rfl⟩:=qba hy;obtain⟨rfl,rfl⟩:=zho hk;obtain⟨u1,us1,rfl,a1,a2⟩:=hv.inv;obtain⟨u2,us2,rfl,a3,a4⟩:=a2.inv;have e:us2=[]:=by have:=a4.1;simpa using this.symm
 subst e;cases a1;cases a3;refine⟨.string S.blank,fun E'=>.str _ (by rw[zde];omega),?_⟩;refine(zh8 (S.lit [0]) 64 E.w (by omega) (by show 1*64<=_;omega)).mono fun e w' h=>?_;rw[show (⟨(Lib.repeatL (S.lit [0]).data.toList 64).toArray⟩:ByteArray)=S.blank by kernel_rfl] at h;exact h
theorem zjc:Con Tryz.prog 90 q8l :=
 zhd zmh (fun y=>rfl) fun M w x us y hy hv=>zqx x.1 x.2.1 hy hv
end Go.Proofs.YtnhmanoiolfapaaGreat
end

section
namespace Go.Sx
open Go Go.RowKit
section
variable {P : Program} {n : Nat} {σ : Nat -> Value} {w : World} {Q : Exit -> Act -> World -> Prop} {ops : Array Oper} {rest : List Oper} {d : Nat} {ty : TypeId} {pos : String} {aft : Array Edge} {g : Option (Nat × Bool)}
theorem q2o{x y:Operand}{u v:Value}{T T':TypeId}{m:Nat}{w':World}(hg:qao ops σ n g=true)(hx:okO n x=true)(ex:ev σ x=u)(hy:okO n y=true)(ey:ev σ y=v)
  (hr:(Builtin.copy_ #[T,T'] ty #[u,v]).run P w=.ok (goInt m) w') (k:wpList P ops Q rest (Fr n (upd σ d (.int .i64 m))) w'):wpList P ops Q (⟨some d,.call ⟨.builtin .copy,#[x,y],#[T,T']⟩,ty,pos,aft,g⟩::rest) (Fr n σ) w :=
 qa7 hg (by
  have h1:(#[x,y].map (Fr n σ).eval)=#[u,v]:=by simp[qat hx,qat hy,ex,ey]
  simp only[execOp,resolve,h1,invoke,builtin,jaf,jad,jab,hr,goInt]) k
theorem zgz{x y:Operand}{u v r:Value}{T:TypeId}{w':World}(hg:qao ops σ n g=true)(hx:okO n x=true)(ex:ev σ x=u)(hy:okO n y=true)(ey:ev σ y=v)
  (hr:(Instr.makeSlice T u v).run P w=.ok r w') (k:wpList P ops Q rest (Fr n (upd σ d r)) w'):wpList P ops Q (⟨some d,.makeSlice T x y,ty,pos,aft,g⟩::rest) (Fr n σ) w :=
 qa7 hg (by
  simp only[execOp,qat hx,qat hy,ex,ey,jaf,jad,jab,hr]) k
end
end Go.Sx
end

section
namespace Go.Sx
open Go Go.RowKit
section
variable {P : Program} {ops : Array Oper} {md : Region.Mode} {Q : Exit -> Act -> World -> Prop}
def KOne(K:Act->World->Prop):Exit->Act->World->Prop:=fun e a w=>e=.normal/\K a w
theorem zhz{o:Oper}{a:Act}{K K':Act->World->Prop}{r:Result Next}(hK:∀a w,K' a w->K a w)(h:o.upon P a K' (KOne K) r):o.upon P a K Q r:=by
 cases r with
 | ok v w' =>
  cases v with
  | value v=>exact hK _ _ h
  | skip=>exact hK _ _ h
  | defer d=>exact hK _ _ h
  | enter f args =>
   refine Calls.mono h fun e w'' he=>?_;cases e with
   | returned v=>exact hK _ _ he
   | panicked c=>cases he.1
   | outgrown=>obtain⟨_,_,h1,_⟩:=he;cases h1
  | row row args=>exact Rows.mono h fun v w'' he=>hK _ _ he
  | _=>exact h
 | halt x w'=>cases x<;>first|exact h|exact absurd h.1 (by simp)
theorem zs6{i:Nat}{o:Oper}{a:Act}{w:World}{K:Act->World->Prop}(hi:ops[i]?=some o)(h:wpList P ops (KOne K) [o] a w):wpOp P ops Q i K a w:=by
 unfold wpOp;simp only[hi];unfold wpList at h;split at h
 ·rename_i hw;rw[jao hw];rcases h with h|⟨_,_,_,h,_⟩
  ·exact .inl (zhz (fun a w h=>h.2) h)
  ·cases h
 ·rename_i hw;rw[jan hw];exact h.2
end
end Go.Sx
end

section
set_option maxRecDepth 100000
namespace Go.Sx
open Go Go.RowKit
section
variable {P : Program} {n : Nat} {σ : Nat -> Value} {w : World} {ops : Array Oper} {rest : List Oper} {d : Nat} {ty : TypeId} {pos : String} {aft : Array Edge} {g : Option (Nat × Bool)}
theorem q7c{T E:TypeId}{size bytes s2 b2:Nat}{zero z2:Value}{E':TypeDesc}{a:Addr}{len cap k:Nat}{kk:IntKind}(hT:Ty P T (.slice E) size bytes zero)(hE:Ty P E E' s2 b2 z2)(hk:k<cap)(hl:k<=len)(hc:len<=cap) :
  (Instr.sliceAt T (.slice (some a) len cap) (some (.int kk (k:Nat))) none none).run P w=.ok (.slice (some (a.add (k*s2))) (len-k) (cap-k)) w:=by
 have h1:(0:Int)<=(k:Nat)/\((k:Nat):Int)<=len:=⟨by omega,by omega⟩;have h2:¬cap-k=0:=by omega
 have h3:¬cap=k:=by omega
 simp only[Instr.sliceAt,jaf,jam hT.und,jab,Instr.slice,Instr.sliceBounds,Instr.sliceBound,asIntOf,jad,h1,je0,jcs,run_sizeOf hE];simp[h3]
theorem zqg{Q:Exit->Act->World->Prop}{T E:TypeId}{size bytes s2 b2:Nat}{zero z2:Value}{E':TypeDesc}{x y:Operand}{a:Addr}{len cap k:Nat}{kk:IntKind}(hT:Ty P T (.slice E) size bytes zero)(hE:Ty P E E' s2 b2 z2)
  (hg:qao ops σ n g=true) (hx:(okO n x&&okO n y)=true) (ex:ev σ x=.slice (some a) len cap) (ey:ev σ y=.int kk (k:Nat)) (hk:k<cap) (hl:k<=len) (hc:len<=cap)
  (kt:wpList P ops Q rest (Fr n (upd σ d (.slice (some (a.add (k*s2))) (len-k) (cap-k)))) w):wpList P ops Q (⟨some d,.slice T x (some y) none none,ty,pos,aft,g⟩::rest) (Fr n σ) w:=by
 simp only[jae] at hx;exact qa7 hg (by simp only[execOp,qat hx.1,ex,Option.map_none,jc2,qat hx.2,ey,q7c hT hE hk hl hc,jaf,jad,jab]) kt
theorem zcj{Q:Exit->Act->World->Prop}{T E:TypeId}{size bytes s2 b2:Nat}{zero z2:Value}{E':TypeDesc}{x y:Operand}{a:Option Addr}{len cap k:Nat}{kk:IntKind}(hT:Ty P T (.slice E) size bytes zero)(hE:Ty P E E' s2 b2 z2)
  (hg:qao ops σ n g=true) (hx:(okO n x&&okO n y)=true) (ex:ev σ x=.slice a len cap) (ey:ev σ y=.int kk (k:Nat)) (hk:k<=cap)
  (kt:wpList P ops Q rest (Fr n (upd σ d (.slice a k cap))) w):wpList P ops Q (⟨some d,.slice T x none (some y) none,ty,pos,aft,g⟩::rest) (Fr n σ) w:=by
 simp only[jae] at hx;exact qa7 hg (by simp only[execOp,qat hx.1,ex,Option.map_none,jc2,qat hx.2,ey,zhw hT hE hk,jaf,jad,jab]) kt
theorem qgv{md:Region.Mode}{Q:Exit->Act->World->Prop}{op:Op}{v:Value}{i fuel:Nat}{listed:Array Bool}(hi:ops[i]?=some ⟨some d,op,ty,pos,aft,g⟩)(hp:qhd op=true)(hd:Nat.blt d n=true)(hg:qao ops σ n g=true)
  (hb:(Region.noSelect ops&&(Region.free md ops listed i&&(Region.ready md ops listed).contains i))=true) (hQ:∀c a w,¬Q (.panic c) a w)
  (h:∀w1,wpList P ops (QOne n σ d v w1) [⟨some d,op,ty,pos,aft,g⟩] (Fr n σ) w1)
  (k:wpAny P md ops Q fuel (listed.setIfInBounds i true) (Fr n (upd σ d v)) w):wpAny P md ops Q (fuel+1) listed (Fr n σ) w:=by
 simp only[jae] at hb;have hd':d<n:=by simpa using hd
 refine wpAny_take (v:=v) hi hb.1 hb.2.1 hb.2.2 (fun c a w h=>absurd h (hQ c _ w)) (.inl ⟨qfq hg,fun w1=>?_⟩) (by show wpAny P md ops Q fuel _ ((Fr n σ).put (some d) v) w;rw[qd6];exact k);have h1:=h w1;unfold wpList at h1;rw[qfq (o:=⟨some d,op,ty,pos,aft,g⟩) hg,jao rfl] at h1;rcases h1 with h1|⟨_,a,w',h1,_⟩
 ·unfold Oper.wp at h1;cases hr:(execOp (Fr n σ).eval ⟨some d,op,ty,pos,aft,g⟩).run P w1 with
  | ok x w' =>
   rw[hr] at h1;cases x with
   | value u =>
    rw[Oper.upon_value,qd6] at h1;obtain⟨_,h2,h3⟩:=h1;rw[h3,qub hd' h2]
   | skip =>
    obtain⟨u,hu⟩:=quc hp hr;cases hu
   | _=>obtain⟨u,hu⟩:=quc hp hr;cases hu
  | halt x w'=>rw[hr] at h1;cases x<;>first|exact h1.elim|(obtain⟨h2,_⟩:=h1;cases h2)
 ·cases h1
theorem qvf{md:Region.Mode}{Q:Exit->Act->World->Prop}{o:Oper}{i fuel:Nat}{listed:Array Bool}{a:Act}(hi:ops[i]?=some o)(hr:Region.ready md ops listed=[i])
  (h:wpList P ops (KOne fun a' w'=>wpAny P md ops Q fuel (listed.setIfInBounds i true) a' w') [o] a w):wpAny P md ops Q (fuel+1) listed a w :=
 wpAny_all hr (by simp) fun j hj=>by
  have:j=i:=by simpa using hj
  subst this;exact zs6 hi h
theorem qsa{V Z:Value}:∀(k n m:Nat),k<=m->putL (List.replicate n V++List.replicate m Z) n (List.replicate k V)=List.replicate (n+k) V++List.replicate (m-k) Z
 | 0,n,m,h=>by simp[putL]
 | k+1,n,m,h=>by
  obtain⟨m',rfl⟩:∃m',m=m'+1:=⟨m-1,by omega⟩;have e:(List.replicate n V++List.replicate (m'+1) Z).set n V=List.replicate (n+1) V++List.replicate m' Z:=by
   rw[List.set_append_right (h:=by simp)];rw[List.replicate_succ' (n:=n),ja0];simp only[jbb,jed,List.replicate_succ (n:=m'),List.set_cons_zero];rfl
  show putL ((List.replicate n V++List.replicate (m'+1) Z).set n V) (n+1) (List.replicate k V)=_;rw[e,qsa k (n+1) m' (by omega)];rw[show n+1+k=n+(k+1) by omega,show m'+1-(k+1)=m'-k by omega]
theorem q9w{dT sT ty elem:TypeId}{β o dLen dCap sLen sCap:Nat}{a:Addr}{cs xs:List Value}(hu:P.underlying dT=some (.slice elem))(hs:(P.info? elem).map (·.size)=some 1)(hb:Box w β cs)(hn:xs.length=Nat.min sLen dLen)
  (hsrc:∀j v,xs[j]?=some v->w.cell? (a.add j)=some v) (hl:o+xs.length<=cs.length) (h1:xs.all one=true) :
  ∃w',(Builtin.copy_ #[dT,sT] ty #[.slice (some ⟨β,o,none⟩) dLen dCap,.slice (some a) sLen sCap]).run P w=.ok (goInt xs.length) w'/\Box w' β (putL cs o xs)/\Upd [β] w w'/\w'.heap.size=w.heap.size:=by
 have hld:=run_loadCells_list (P:=P) w a xs hsrc;obtain⟨w',q1,q2,q3,q4⟩:=run_store (P:=P) xs o 0 hb (by simpa using hl) h1;refine⟨w',?_,by simpa using q2,q3,q4⟩;cases hq:P.info? elem with
 | none=>simp [hq] at hs
 | some i =>
  have hi:i.size=1:=by simpa [hq] using hs
  simp[Builtin.copy_,jam hu,Builtin.lenOf,Builtin.firstCells,sizeOf,typeInfo,hq,hi,<- hn,hld,q1]
end
end Go.Sx
namespace Go.Proofs.YtnhmanoiolfapaaGreat
open Go Go.Sx Go.RowKit Go.Jx
theorem zpx:qai Tryz.prog 102:=⟨_,Tryz.func102,by kernel_rfl,by kernel_rfl⟩
theorem zrf(x y:Nat)(hx:x<18446744073709551616)(hy:y<18446744073709551616)(w:World) :
  Calls Tryz.prog 102 #[.int .u64 x,.int .u64 y] w (Ret fun v w'=>v=.tuple #[.int .u64 ((x*y / 18446744073709551616:Nat):Int),.int .u64 ((x*y % 18446744073709551616:Nat):Int)]/\w'=w) :=
 (Any.bits_Mul (P:=Tryz.prog) (ρ:=qvm) { qxu with } x y hx hy w).mono fun e w' h=>by
  obtain⟨rfl,rfl⟩:=h;exact⟨rfl,rfl⟩
theorem zfq(c:Nat)(hc:c<=1000)(w:World):(Instr.makeSlice 22 (.int .i64 (c:Int)) (.int .i64 (c:Int))).run Tryz.prog w=.ok (.slice (some ⟨w.heap.size,0,none⟩) c c) (w.alloc (.cells (madeCells #[.string ⟨#[]⟩] (c*1)) 9)):=by
 obtain⟨i,h1,h2,h3,h4⟩:=ty9.inf;have h2:i.size=1:=h2;have h3:i.bytes=16:=h3;have:=run_makeSlice (P:=Tryz.prog) w 22 9 i (.string ⟨#[]⟩) ty22.und h1 h4 .i64 .i64 c c (by omega) (jbr _) (by rw[h2];omega) (by rw[h3];omega) (by omega);rw[h2] at this;exact this
theorem ztd(c:Nat)(w:World):Box (w.alloc (.cells (madeCells #[.string ⟨#[]⟩] (c*1)) 9)) w.heap.size (List.replicate c (.string ⟨#[]⟩)):=by
 refine⟨9,?_⟩;rw[jcp];have:madeCells #[.string ⟨#[]⟩] (c*1)=(List.replicate c (Value.string ⟨#[]⟩)).toArray:=by
  unfold madeCells;apply jd9
  ·simp
  ·intro i h1 h2;simp[Nat.mod_one]
 rw[this]
theorem zhk(c:Nat)(w:World):Upd [] w (w.alloc (.cells (madeCells #[.string ⟨#[]⟩] (c*1)) 9)):=Upd.alloc _ _
theorem nmin(a b:Nat):Nat.min a b<=a/\Nat.min a b<=b/\(Nat.min a b=a\/Nat.min a b=b):=by
 have e:Nat.min a b=min a b:=rfl;rw[e];omega
theorem si9:(Tryz.prog.info? 9).map (·.size)=some 1:=by
 obtain⟨i,h1,h2,_⟩:=ty9.inf;have h2:i.size=1:=h2;rw[h1,jc2,h2]
theorem qx0(s:ByteArray)(k:Nat):(List.replicate k (Value.string s)).all Go.Sx.one=true:=by
 rw[jbg];intro x hx;rw[List.eq_of_mem_replicate hx];rfl
theorem zfj{c cap ty:Nat}{w:World}{a:Addr}{s:ByteArray}{β:Nat}(hs:w.cell? a=some (.string s))(hb:Box w β (List.replicate c (.string ⟨#[]⟩))) :
  ∃w',(Builtin.copy_ #[22,22] ty #[.slice (some ⟨β,0,none⟩) c c,.slice (some a) 1 cap]).run Tryz.prog w=.ok (goInt (Nat.min 1 c)) w'/\Box w' β (List.replicate (Nat.min 1 c) (.string s)++List.replicate (c-Nat.min 1 c) (.string ⟨#[]⟩))/\Upd [β] w w'/\w'.heap.size=w.heap.size:=by
 have hnm:=nmin 1 c;have ha:a.spot=none:=by
  unfold World.cell? at hs;split at hs
  ·cases h:a.spot with
   | none=>rfl
   | some x=>rw[h] at hs;cases hs
  ·cases hs
 obtain⟨w',q1,q2,q3,q4⟩:=q9w (P:=Tryz.prog) (dT:=22) (sT:=22) (ty:=ty) (elem:=9) (β:=β) (o:=0) (dLen:=c) (dCap:=c) (sLen:=1) (sCap:=cap) (a:=a) (xs:=List.replicate (Nat.min 1 c) (.string s)) ty22.und si9 hb (by rw[jbb]) (fun j v hj=>by
  have hj1:j<Nat.min 1 c:=by
   have:=(jba.1 hj).1;simpa using this
  have:j=0:=by omega
  subst this;rw[jac (by simpa using hj1)] at hj;simp at hj;rw[qbf _ ha,<- hj];show w.cell? ⟨a.block,a.off+0,none⟩=_;rw[jb6,<- ha];exact hs) (by rw[jbb,jbb];omega) (qx0 _ _)
 rw[jbb] at q1;refine⟨w',q1,?_,q3,q4⟩;have:=qsa (V:=.string s) (Z:=.string ⟨#[]⟩) (Nat.min 1 c) 0 c (jfu _ _);rw[jbk] at this;rw[<- this];exact q2
theorem zjq{dT sT ty c n:Nat}{w:World}{s:ByteArray}{β:Nat}(hlt:n<c)(hn:1<=n)(hb:Box w β (List.replicate n (.string s)++List.replicate (c-n) (.string ⟨#[]⟩)))(hd:dT=22:=by rfl) :
  ∃w',(Builtin.copy_ #[dT,sT] ty #[.slice (some ((⟨β,0,none⟩:Addr).add (n*1))) (c-n) (c-n),.slice (some ⟨β,0,none⟩) n c]).run Tryz.prog w=.ok (goInt (Nat.min n (c-n))) w'/\Box w' β (List.replicate (n+Nat.min n (c-n)) (.string s)++List.replicate (c-n-Nat.min n (c-n)) (.string ⟨#[]⟩))/\Upd [β] w w'/\w'.heap.size=w.heap.size:=by
 subst hd;have hnm:=nmin n (c-n);have e:(⟨β,0,none⟩:Addr).add (n*1)=⟨β,n,none⟩:=by rw[qbf _ rfl];simp
 rw[e];obtain⟨w',q1,q2,q3,q4⟩:=q9w (P:=Tryz.prog) (dT:=22) (sT:=sT) (ty:=ty) (elem:=9) (β:=β) (o:=n) (dLen:=c-n) (dCap:=c-n) (sLen:=n) (sCap:=c) (a:=⟨β,0,none⟩) (xs:=List.replicate (Nat.min n (c-n)) (.string s)) ty22.und si9 hb (by rw[jbb]) (fun j v hj=>by
  have hj1:j<Nat.min n (c-n):=by
   have:=(jba.1 hj).1;simpa using this
  rw[jac (by simpa using hj1)] at hj;simp at hj;rw[qbf _ rfl,hb.cell,<- hj,jas (by rw[jbb];show 0+j<n;omega)];rw[List.getElem?_replicate,jao (show 0+j<n by omega)]) (by rw[jah,jbb,jbb,jbb];omega) (qx0 _ _)
 rw[jbb] at q1;exact⟨w',q1,by rw[<- qsa _ _ _ (jfu n (c-n))];exact q2,q3,q4⟩
section
attribute [local irreducible] Go.wpList Go.wpQuiet Go.Code.wp
theorem zf9(s:ByteArray)(c:Nat)(hc:c<=1000){a:Addr}{cap:Nat}{w:World}(hcell:w.cell? a=some (.string s)) :
  Calls Tryz.prog 76 #[.slice (some a) 1 cap,.int .i64 c] w (Ret fun v w'=>∃β,w.heap.size<=β/\v=.slice (some ⟨β,0,none⟩) c c/\Box w' β (List.replicate c (.string s))/\Upd [] w w'):=by
 refine(enter (l:=[.slice (some a) 1 cap,.int .i64 c]) Tryz.func76 rfl Tryz.ntmps76 rfl ?_);refine qal fun K1 hK1=>?_;refine qau ?_;refine qa0 (v:=.slice none 0 0) rfl rfl rfl ?_;refine jbc ?_;refine hK1 _ _ ?_;refine qal fun K2 hK2=>?_;refine qal fun K3 hK3=>?_;refine qau ?_;refine qaw (v:=.int .i64 (c:Int)) rfl rfl rfl ?_;refine qsy rfl rfl rfl rfl ?_;refine jbc ?_;refine hK3 _ _ ?_;refine c_if rfl rfl (fun hb=>absurd hb (by omega)) (fun _=>?_);refine je4 ?_;refine hK2 _ _ ?_;refine qal fun K4 hK4=>?_;refine qau ?_;refine qaw (v:=.slice (some a) 1 cap) rfl rfl rfl ?_;refine qv7 ty22 rfl rfl rfl ?_;refine qxr ty3.und qm5.und rfl rfl rfl (by decide) (by decide) ?_;refine qaw (v:=.int .i64 (c:Int)) rfl rfl rfl ?_;refine qxr ty3.und qm5.und rfl rfl rfl (by omega) (by omega) ?_;refine qf9 (l:=[.tmp 15,.tmp 17]) (args:=[.int .u64 ((1:Nat):Int),.int .u64 (c:Int)]) zpx rfl rfl rfl (zrf 1 c (by omega) (by omega) w) ?_;rintro _ w2 ⟨rfl,hw2⟩;subst w2;have e1:1*c / 18446744073709551616=0:=by omega
 have e2:1*c % 18446744073709551616=c:=by omega
 rw[e1,e2];refine qaw (v:=.tuple #[.int .u64 ((0:Nat):Int),.int .u64 (c:Int)]) rfl rfl rfl ?_;refine qhc (v:=.int .u64 ((0:Nat):Int)) rfl rfl rfl rfl ?_;refine qhc (v:=.int .u64 (c:Int)) rfl rfl rfl rfl ?_;refine qa0 (v:=.int .u64 ((0:Nat):Int)) rfl rfl rfl ?_;refine qa0 (v:=.int .u64 (c:Int)) rfl rfl rfl ?_;refine jbc ?_;refine hK4 _ _ ?_;refine qal fun K5 hK5=>?_;refine qal fun K6 hK6=>?_;refine qau ?_;refine qaw (v:=.int .u64 ((0:Nat):Int)) rfl rfl rfl ?_;refine qoa rfl rfl rfl rfl ?_;refine qaw (v:=.bool false) rfl rfl rfl ?_;refine qaw (v:=.int .u64 (c:Int)) rfl rfl rfl ?_;refine qoa rfl rfl rfl rfl ?_;refine qwk (v:=.bool false) rfl rfl rfl (jav Value.bool (jap (by omega))) ?_;refine jbc ?_;refine hK6 _ _ ?_;refine qjs rfl rfl ?_;refine je4 ?_;refine hK5 _ _ ?_;refine qal fun K7 hK7=>?_;refine qau ?_;refine qaw (v:=.int .u64 (c:Int)) rfl rfl rfl ?_;refine zkx qm5.und ty3.und rfl rfl rfl (by omega) ?_;refine zgz (u:=.int .i64 (c:Int)) (v:=.int .i64 (c:Int)) rfl rfl rfl rfl rfl (zfq c hc w) ?_;have hw1:=ztd c w;have hu1:=zhk c w;generalize w.alloc (.cells (madeCells #[.string ⟨#[]⟩] (c*1)) 9)=w1 at hw1 hu1;generalize hβ:w.heap.size=β at hw1;refine qa0 (v:=.slice (some ⟨β,0,none⟩) c c) rfl rfl (by rw[<- hβ];rfl) ?_;refine jbc ?_;refine hK7 _ _ ?_;refine qal fun K8 hK8=>?_;refine qau ?_;refine qaw (v:=.slice (some ⟨β,0,none⟩) c c) rfl rfl rfl ?_;refine qaw (v:=.slice (some a) 1 cap) rfl rfl rfl ?_;have hsrc1:w1.cell? a=some (.string s):=by
  have:a.block<w.heap.size:=by
   unfold World.cell? at hcell;split at hcell
   ·rename_i h;exact qas h
   ·cases hcell
  unfold World.cell? at hcell ⊢;rw[hu1.same _ this (by simp)];exact hcell
 obtain⟨w3,g1,g2,g3,g4⟩:=zfj (cap:=cap) hsrc1 hw1;refine q2o rfl rfl rfl rfl rfl g1 ?_;refine qa0 (v:=.int .i64 ((Nat.min 1 c:Nat):Int)) rfl rfl rfl ?_;refine jbc ?_;refine hK8 _ _ ?_;have hext:∀{w4:World},Upd [β] w1 w4->Upd [] w w4:=fun u4=>⟨u4.os.trans hu1.os,u4.tape.trans hu1.tape,u4.output.trans hu1.output,jbj hu1.size u4.size,fun x hx hn=>(u4.same x (jbf hx hu1.size) (by simp;omega)).trans (hu1.same x hx (by simp))⟩;have hnm:=nmin 1 c;refine qal fun K9 hK9=>?_;refine wp_block ?_;refine qtb (X:=Nat) (8::(List.range 47).drop 34) (fun n=>[(8,.int .i64 (n:Int))]) (fun n w4=>(n<=c/\(c=0\/1<=n))/\Box w4 β (List.replicate n (.string s)++List.replicate (c-n) (.string ⟨#[]⟩))/\Upd [β] w1 w4) (fun n=>c-n) (Nat.min 1 c) ⟨rfl,trivial⟩ ⟨⟨jfu _ _,by omega⟩,g2,g3⟩ ?_;rintro n τ w4 ⟨⟨hn1,hn2⟩,hx4,hu4⟩;refine qal fun K10 hK10=>?_;refine qal fun K11 hK11=>?_;refine qau ?_;refine qaw (v:=.int .i64 (n:Int)) rfl rfl rfl ?_;refine qaw (v:=.slice (some ⟨β,0,none⟩) c c) rfl rfl rfl ?_;refine qv7 ty22 rfl rfl rfl ?_;refine qsy rfl rfl rfl rfl ?_;refine jbc ?_;refine hK11 _ _ ?_;refine c_if rfl rfl (fun hb=>?_) (fun hb=>?_)
 ·refine je4 ?_;refine hK10 _ _ ?_;have hlt:n<c:=by omega
  have hn:1<=n:=by omega
  have hnn:=nmin n (c-n);refine wp_block ?_;refine wp_region_any mixed ?_;refine qgv (i:=0) (v:=.int .i64 (n:Int)) rfl rfl rfl rfl (by kernel_rfl) (fun c a w h=>(show _/\False from h).2) (fun w1=>qaw (v:=.int .i64 (n:Int)) rfl rfl rfl q1) ?_;refine qgv (i:=1) (v:=.slice (some ⟨β,0,none⟩) c c) rfl rfl rfl rfl (by kernel_rfl) (fun c a w h=>(show _/\False from h).2) (fun w1=>qaw (v:=.slice (some ⟨β,0,none⟩) c c) rfl rfl rfl q1) ?_;refine qgv (i:=2) (v:=.int .i64 (n:Int)) rfl rfl rfl rfl (by kernel_rfl) (fun c a w h=>(show _/\False from h).2) (fun w1=>qaw (v:=.int .i64 (n:Int)) rfl rfl rfl q1) ?_;refine qgv (i:=3) (v:=.slice (some ((⟨β,0,none⟩:Addr).add (n*1))) (c-n) (c-n)) rfl rfl rfl rfl (by kernel_rfl) (fun c a w h=>(show _/\False from h).2) (fun w1=>zqg ty22 ty9 rfl rfl rfl rfl hlt hn1 (jar _) q1) ?_;refine qgv (i:=4) (v:=.slice (some ⟨β,0,none⟩) c c) rfl rfl rfl rfl (by kernel_rfl) (fun c a w h=>(show _/\False from h).2) (fun w1=>qaw (v:=.slice (some ⟨β,0,none⟩) c c) rfl rfl rfl q1) ?_;refine qgv (i:=5) (v:=.int .i64 (n:Int)) rfl rfl rfl rfl (by kernel_rfl) (fun c a w h=>(show _/\False from h).2) (fun w1=>qaw (v:=.int .i64 (n:Int)) rfl rfl rfl q1) ?_;refine qgv (i:=6) (v:=.slice (some ⟨β,0,none⟩) n c) rfl rfl rfl rfl (by kernel_rfl) (fun c a w h=>(show _/\False from h).2) (fun w1=>zcj ty22 ty9 rfl rfl rfl rfl hn1 q1) ?_;have hx5:=hx4.mono0 (Upd.drew [] w4);have u5:=Upd.drew [] w4;generalize ({ w4 with drawn:=w4.drawn+1 }:World)=w5 at hx5 u5;obtain⟨w6,r1,r2,r3,r4⟩:=zjq (dT:=22) (sT:=22) (c:=c) hlt hn hx5;refine qvf (i:=7) rfl (by kernel_rfl) ?_;refine q2o rfl rfl rfl rfl rfl r1 ?_;refine jbc ⟨rfl,?_⟩;refine qvf (i:=8) rfl (by kernel_rfl) ?_;refine zfk rfl rfl rfl rfl (by omega) ?_;refine jbc ⟨rfl,?_⟩;refine qvf (i:=9) rfl (by kernel_rfl) ?_;refine qa0 (v:=.int .i64 ((n+Nat.min n (c-n):Nat):Int)) rfl rfl (jav (Value.int .i64) (by omega)) ?_;refine jbc ⟨rfl,?_⟩;refine wpAny_done (by kernel_rfl) ?_ _;refine⟨n+Nat.min n (c-n),by show c-(n+Nat.min n (c-n))<c-n;omega,⟨⟨by omega,by omega⟩,by rw[show c-(n+Nat.min n (c-n))=c-n-Nat.min n (c-n) by omega];exact r2,(hu4.trans (u5.mono (by simp))).trans r3⟩,_,rfl,(by repeat first|exact qbb.refl _ _|refine qbb.upd rfl ?_|refine qbb.upds rfl ?_|refine qbb.mix rfl ?_),rfl,trivial⟩
 ·refine wp_exit ?_;have hnc:n=c:=by omega
  subst hnc;refine hK9 _ _ ?_;refine qal fun K12 hK12=>?_;refine qau ?_;refine qaw (v:=.slice (some ⟨β,0,none⟩) n n) rfl rfl rfl ?_;refine qa0 (v:=.slice (some ⟨β,0,none⟩) n n) rfl rfl rfl ?_;refine jbc ?_;refine hK12 _ _ ?_;refine je7 ?_;refine ret1 Tryz.results76 rfl ⟨β,by omega,rfl,?_,hext hu4⟩;rw[jed,jfc,jbl] at hx4;exact hx4
end
theorem zi1:Con Tryz.prog 76 qip :=
 ⟨ztj,fun M w x us y hy hM hg hv=>by
  obtain⟨l,n,_⟩:=x;obtain⟨hk,rfl⟩:=qba (show cond (decide (l.length=1)&&S.inI n 0 1000) (some (List.replicate n.toNat (l.getD 0 S.none_),())) none=some y from hy);simp only[jae,jb9,S.inI] at hk;obtain⟨h1,h2,h3⟩:=hk;obtain⟨s,rfl⟩:∃s,l=[s]:=by
   cases l with
   | nil=>cases h1
   | cons s r=>cases r with
    | nil=>exact⟨s,rfl⟩
    | cons _ _=>simp at h1
  have hni:∃c:Nat,(show Int from n)=(c:Int):=⟨Int.toNat n,(Int.toNat_of_nonneg h2).symm⟩;obtain⟨c,hc0⟩:=hni;have hc0:n=Int.ofNat c:=hc0;subst hc0;have h3:(c:Int)<=1000:=h3;obtain⟨u1,us1,rfl,a1,a2⟩:=hv.inv;obtain⟨u2,us2,rfl,a3,a4⟩:=a2.inv;obtain rfl:us2=[]:=jaz.1 a4.1.symm;cases a3;cases a1 with
  | lst us q1 q2 q3 hb hh hc hu =>
  have hcell:=hc 0 (by simp) 0 (by decide);have hus:=hu 0 (by simp) 0 Nat.zero_lt_one;rename_i b off cap cells t fz;have hsz:s.size<9223372036854775808/\us 0 0=.string s:=by
   have hus:VR (EM M w) (.str s) (us 0 0):=hus;generalize us 0 0=u at hus;cases hus with
   | str _ h=>exact⟨h,rfl⟩
  rw[hsz.2] at hcell;have hcw:w.cell? ⟨b,off,none⟩=some (.string s):=by
   have hh:w.heap[b]?=some (.cells cells t fz):=hh;unfold World.cell?;rw[hh];simpa using hcell
  refine(jdh.2 (zf9 s c (by omega) (cap:=cap) hcw)).mono fun e w' hR=>?_;cases e with
  | returned v =>
   obtain⟨β,hβ,rfl,hx,hu'⟩:=hR;obtain⟨p1,p2⟩:=Post.idle (preM hM hg) hu';refine⟨_,(EM M w).at_ w',rfl,rfl,?_,p1,p2⟩;show VR _ (.lst .str (List.replicate c s)) _;obtain⟨t',ht'⟩:=hx;cases c with
   | zero=>exact .lst0 (by omega)
   | succ c =>
    have hl:(List.replicate (c+1) s).length=c+1:=jbb;have:=VR.lst (E:=(EM M w).at_ w') (c:=.str) (l:=List.replicate (c+1) s) (cap:=c+1) (off:=0) (fun _ _=>.string s) (by rw[hl];exact jar _) (by omega) (by rw[hl];show (c+1)*16<=_;omega)
     (fun h=>by have:=hM _ h;omega) ht' (fun i hi j hj=>by
      have hj:j<1:=hj;have:j=0:=by omega
      subst this;rw[hl] at hi;show (List.replicate (c+1) (Value.string s)).toArray[0+i*1+0]?=_;simp only[ja6,List.getElem?_replicate];rw[jao (by omega)]) (fun i hi j hj=>by
      have hj:j<1:=hj;have:j=0:=by omega
      subst this;show VR _ (.str (List.replicate (c+1) s)[i]) _;rw[List.getElem_replicate];exact .str _ hsz.1)
    rw[hl] at this;exact this
  | _=>exact hR.elim⟩
end Go.Proofs.YtnhmanoiolfapaaGreat
end

section
set_option maxRecDepth 100000
namespace Go.Proofs.YtnhmanoiolfapaaGreat
open Go Go.RowKit Go.Shelf Go.Sort Go.Lib
def zal:Go.Shelf.Ren:=⟨fun|6=>123|15=>129|14=>128|28=>139|29=>140|20=>131|21=>132|22=>133|23=>134|24=>135|25=>136|26=>137|27=>138|46=>141|47=>142|48=>143|49=>144|50=>145|57=>146|n=>n,fun|22=>35|24=>92|25=>190|3=>3|39=>141|0=>0|53=>178|55=>181|4=>4|46=>198|45=>197|50=>202|5=>5|9=>9|66=>206|70=>210|76=>212|77=>107|n=>n,fun|n=>n⟩
theorem q28:Go.Proofs.SlLaysF0.n6 Tryz.prog zal:={
 mixed:=by kernel_rfl
 f6:=⟨Tryz.f123.name,by decide,Tryz.func123.trans (jav some (by kernel_rfl))⟩
 f14:=⟨Tryz.f128.name,by decide,Tryz.func128.trans (jav some (by kernel_rfl))⟩
 f15:=Tryz.func129.trans (jav some (by kernel_rfl))
 f20:=⟨Tryz.f131.name,by decide,Tryz.func131.trans (jav some (by kernel_rfl))⟩
 f21:=⟨Tryz.f132.name,by decide,Tryz.func132.trans (jav some (by kernel_rfl))⟩
 f22:=⟨Tryz.f133.name,by decide,Tryz.func133.trans (jav some (by kernel_rfl))⟩
 f23:=⟨Tryz.f134.name,by decide,Tryz.func134.trans (jav some (by kernel_rfl))⟩
 f24:=⟨Tryz.f135.name,by decide,Tryz.func135.trans (jav some (by kernel_rfl))⟩
 f25:=⟨Tryz.f136.name,by decide,Tryz.func136.trans (jav some (by kernel_rfl))⟩
 f26:=⟨Tryz.f137.name,by decide,Tryz.func137.trans (jav some (by kernel_rfl))⟩
 f27:=⟨Tryz.f138.name,by decide,Tryz.func138.trans (jav some (by kernel_rfl))⟩
 f28:=Tryz.func139.trans (jav some (by kernel_rfl))
 f29:=Tryz.func140.trans (jav some (by kernel_rfl))
 f46:=⟨Tryz.f141.name,by decide,Tryz.func141.trans (jav some (by kernel_rfl))⟩
 f47:=Tryz.func142.trans (jav some (by kernel_rfl))
 f48:=Tryz.func143.trans (jav some (by kernel_rfl))
 f49:=⟨Tryz.f144.name,by decide,Tryz.func144.trans (jav some (by kernel_rfl))⟩
 f50:=⟨Tryz.f145.name,by decide,Tryz.func145.trans (jav some (by kernel_rfl))⟩
 f57:=⟨Tryz.f146.name,by decide,Tryz.func146.trans (jav some (by kernel_rfl))⟩
 t0:=Tryz.underlying0
 a0:=Tryz.isAgg0
 z0:=Tryz.sizeOf0
 v0:=Tryz.zeroValue0
 t3:=Tryz.underlying3
 a3:=Tryz.isAgg3
 z3:=Tryz.sizeOf3
 v3:=Tryz.zeroValue3
 t4:=Tryz.underlying4
 a4:=Tryz.isAgg4
 z4:=Tryz.sizeOf4
 v4:=Tryz.zeroValue4
 t5:=Tryz.underlying5
 a5:=Tryz.isAgg5
 z5:=Tryz.sizeOf5
 v5:=Tryz.zeroValue5
 t9:=Tryz.underlying9
 a9:=Tryz.isAgg9
 z9:=Tryz.sizeOf9
 v9:=Tryz.zeroValue9
 t22:=Tryz.underlying35
 a22:=Tryz.isAgg35
 z22:=Tryz.sizeOf35
 v22:=Tryz.zeroValue35
 t25:=Tryz.underlying190
 a25:=Tryz.isAgg190
 z25:=Tryz.sizeOf190
 v25:=Tryz.zeroValue190
 t39:=Tryz.underlying141
 a39:=Tryz.isAgg141
 z39:=Tryz.sizeOf141
 v39:=Tryz.zeroValue141
 t45:=Tryz.underlying197
 a45:=Tryz.isAgg197
 z45:=Tryz.sizeOf197
 v45:=Tryz.zeroValue197
 t46:=Tryz.underlying198
 a46:=Tryz.isAgg198
 z46:=Tryz.sizeOf198
 v46:=Tryz.zeroValue198
 t50:=Tryz.underlying202
 a50:=Tryz.isAgg202
 z50:=Tryz.sizeOf202
 v50:=Tryz.zeroValue202
 t53:=Tryz.underlying178
 a53:=Tryz.isAgg178
 z53:=Tryz.sizeOf178
 v53:=Tryz.zeroValue178
 t55:=Tryz.underlying181
 a55:=Tryz.isAgg181
 z55:=Tryz.sizeOf181
 v55:=Tryz.zeroValue181
 t66:=Tryz.underlying206
 a66:=Tryz.isAgg206
 z66:=Tryz.sizeOf206
 v66:=Tryz.zeroValue206
 t70:=Tryz.underlying210
 a70:=Tryz.isAgg210
 z70:=Tryz.sizeOf210
 v70:=Tryz.zeroValue210
 t76:=Tryz.underlying212
 a76:=Tryz.isAgg212
 z76:=Tryz.sizeOf212
 v76:=Tryz.zeroValue212
 t77:=Tryz.underlying107
 a77:=Tryz.isAgg107
 z77:=Tryz.sizeOf107
 v77:=Tryz.zeroValue107 }
def encC(x:Int × ByteArray × Bool):List Value:=[.int .i64 x.1,.string x.2.1,.bool x.2.2]
theorem ziv(cf:(Int × ByteArray × Bool)->(Int × ByteArray × Bool)->Int)(hO:SWO (ltOf cf))(g:Nat)(cb:Array Value)(blk off cap:Nat)(d:Array (Int × ByteArray × Bool))(w:World)
  (eg:∀args w,(callFunc g args).run Tryz.prog w=.ok (.enter g args) w) (hcmp:CmpLays Tryz.prog g cb encC 3 cf blk off d.size w) (hH:HoldsK encC 3 w blk off d) (hblk:blk<w.heap.size) (hsz:d.size<4611686018427387904) :
  Calls Tryz.prog 123 #[.slice (some ⟨blk,off,none⟩) d.size cap,.func (.func g) #[] cb] w fun e w' =>
   e=.returned (.tuple #[])/\∃d' n os,PermIn 0 d.size d d'/\SortedIn (ltOf cf) 0 d.size d'/\w'=sortWorldK encC 3 w blk off n d' os :=
 AnyQ.slices_SortFunc q28 3 Tryz.isAgg92 Tryz.sizeOf92 encC (fun _=>rfl) (fun x v hv=>by simp[encC] at hv;rcases hv with rfl|rfl|rfl<;>rfl) cf hO g cb blk off cap d w eg hcmp hH hblk hsz
theorem zsb(p:Option Addr)(cap:Nat)(fv:Value)(w:World):Calls Tryz.prog 123 #[.slice p 0 cap,fv] w fun e w'=>e=.returned (.tuple #[])/\w'=w :=
 AnyF.slices_SortFunc_none (P:=Tryz.prog) q28 p cap fv w
end Go.Proofs.YtnhmanoiolfapaaGreat
end

section
set_option maxRecDepth 100000
namespace Go.Sx
open Go Go.RowKit
def Gr(w w':World):Prop:=∃q os',w'=Sort.grow (w.drewN q) os'
theorem Gr.refl(w:World):Gr w w:=⟨0,#[],by simp[World.drewN]⟩
theorem Gr.trans{a b c:World}(h:Gr a b)(k:Gr b c):Gr a c:=by
 obtain⟨q,os,rfl⟩:=h;obtain⟨q',os',rfl⟩:=k;exact⟨q+q',os++os',by simp[Sort.grow,World.drewN,Array.append_assoc,jcx]⟩
theorem Gr.push(w:World)(o:Obj):Gr w { w with heap:=w.heap.push o }:=⟨0,#[o],by simp[Sort.grow,World.drewN]⟩
theorem Gr.drew(w:World):Gr w { w with drawn:=w.drawn+1 }:=⟨1,#[],by
 unfold Sort.grow World.drewN;simp only[Array.append_empty]⟩
theorem Gr.upd{w w':World}(h:Gr w w'):Upd [] w w':=by
 obtain⟨q,os,rfl⟩:=h;refine⟨rfl,rfl,rfl,by simp[Sort.grow,World.drewN],fun b hb _=>?_⟩;show (w.heap++os)[b]?=_;rw[jeh hb]
theorem Upd.old_upd{w w2 w3:World}{g:Nat}(h:Upd [] w w2)(k:Upd [g] w2 w3)(hg:w.heap.size<=g):Upd [] w w3 :=
 ⟨k.os.trans h.os,k.tape.trans h.tape,k.output.trans h.output,jbj h.size k.size,fun x hx hn=>(k.same x (jbf hx h.size) (by simp;omega)).trans (h.same x hx hn)⟩
theorem Upd.tr0{w w':World}(h:Upd [] w w'):Tr [] w [] w':=⟨fun b hb _=>⟨by simp,h.same b hb (by simp)⟩⟩
theorem Upd.cell{w w':World}(u:Upd [] w w'){a:Addr}{v:Value}(h:w.cell? a=some v):w'.cell? a=some v:=by
 have:a.block<w.heap.size:=by
  unfold World.cell? at h;split at h
  ·rename_i h';exact qas h'
  ·cases h
 unfold World.cell? at h ⊢;rw[u.same _ this (by simp)];exact h
section
variable {P : Program} {n : Nat} {σ : Nat -> Value} {w : World} {ops : Array Oper} {rest : List Oper} {d : Nat} {op : Op} {ty : TypeId} {pos : String} {aft : Array Edge} {g : Option (Nat × Bool)} {T : TypeId} {x : Operand} {C : World -> Prop} {Qp : Act -> Prop}
theorem qw6{Q:Exit->Act->World->Prop}{v:Value}{zs:List Value}(hg:qao ops σ n g=true)(hx:okO n x=true)(ex:ev σ x=v)(hz:v.cells.toList=zs)
  (k:∀β w',w.heap.size=β->Gr w w'->w'.heap.size=β+1->Box w' β zs->wpList P ops Q rest (Fr n (upd σ d (.pointer (some ⟨β,0,none⟩)))) w'):wpList P ops Q (⟨some d,.box T x,ty,pos,aft,g⟩::rest) (Fr n σ) w:=by
 subst hz;refine qa7 (w':={ w with heap:=w.heap.push (.cells v.cells T) }) hg ?_ (k _ _ rfl (Gr.push _ _) (by simp) (by simpa using Box.push w v.cells.toList T));simp only[execOp,qat hx,ex,Instr.box,jaf,jab,jad,newVar,newRow];rfl
theorem qla{v:Value}(hp:qhd op=true)(hd:Nat.blt d n=true)(hg:qao ops σ n g=true)
  (h:∀w1,C w1->wpList P ops (QOne n σ d v w1) [⟨some d,op,ty,pos,aft,g⟩] (Fr n σ) w1)
  (k:wpQuiet P ops C Qp rest (Fr n (upd σ d v))):wpQuiet P ops C Qp (⟨some d,op,ty,pos,aft,g⟩::rest) (Fr n σ):=by
 have hd':d<n:=by simpa using hd
 refine wpQuiet_step fun K hK=>?_;rw[qfq (o:=⟨some d,op,ty,pos,aft,g⟩) hg,jao rfl];refine⟨v,fun w1 hw1=>?_,by show K ((Fr n σ).put (some d) v);rw[qd6];exact hK _ k⟩;have h1:=h w1 hw1;unfold wpList at h1;rw[qfq (o:=⟨some d,op,ty,pos,aft,g⟩) hg,jao rfl] at h1;rcases h1 with h1|⟨_,a,w',h1,_⟩
 ·unfold Oper.quietAt;unfold Oper.wp at h1;cases hr:(execOp (Fr n σ).eval ⟨some d,op,ty,pos,aft,g⟩).run P w1 with
  | ok x w' =>
   rw[hr] at h1;cases x with
   | value u =>
    rw[Oper.upon_value,qd6] at h1;obtain⟨_,h2,h3⟩:=h1;exact⟨h3,qub hd' h2⟩
   | skip =>
    rw[Oper.upon_skip,qd6] at h1;obtain⟨_,h2,h3⟩:=h1;exact⟨h3,(qub hd' h2).symm⟩
   | _=>obtain⟨u,hu⟩:=quc hp hr;cases hu
  | halt x w'=>rw[hr] at h1;cases x<;>first|exact h1.elim|(obtain⟨h2,_⟩:=h1;cases h2)
 ·cases h1
theorem zil{f:Nat}{l:List Operand}{args:List Value}{ts:Array TypeId}{v:Value}(hF:qai P f)(hg:qao ops σ n g=true)(hx:okOs n l=true)(ea:evs σ l=args)
  (hc:∀w1,C w1->Calls P f args.toArray w1 (Ret fun v' w'=>v'=v/\C w'))
  (k:wpQuiet P ops C Qp rest (Fr n (upd σ d v))):wpQuiet P ops C Qp (⟨some d,.call ⟨.value (.func f),l.toArray,ts⟩,ty,pos,aft,g⟩::rest) (Fr n σ):=by
 refine wpQuiet_step fun K hK=>?_;rw[qfq (o:=⟨some d,_,ty,pos,aft,g⟩) hg,jao rfl];refine⟨v,fun w1 hw1=>?_,by show K ((Fr n σ).put (some d) v);rw[qd6];exact hK _ k⟩;have hr:(execOp (Fr n σ).eval ⟨some d,.call ⟨.value (.func f),l.toArray,ts⟩,ty,pos,aft,g⟩).run P w1=.ok (.enter f args.toArray) w1:=by
  obtain⟨fn,hf,hb,hn⟩:=hF;have hb':fn.body.isNone=false:=by cases h:fn.body<;>simp [h] at hb ⊢
  simp only[execOp,resolve,Act.eval,Deferred.ofValue,invoke,callFunc,qp4 hx,ea,jaf,jad,jab,jep,hf,hb',hn,ja9,jbs];simp
 unfold Oper.quietAt;rw[hr];refine⟨rfl,(hc w1 hw1).mono fun e w' he=>?_⟩;cases e with
 | returned v'=>obtain⟨h1,h2⟩:=he;exact⟨by rw[h1],h2⟩
 | _=>exact he.elim
theorem q35{f:Nat}{xo:Operand}{caps:Array Value}{l:List Operand}{args:List Value}{ts:Array TypeId}{v:Value}(hF:qai P f)(hg:qao ops σ n g=true)(hx:(okO n xo&&okOs n l)=true)(ef:ev σ xo=.func (.func f) #[] caps)(ea:evs σ l++caps.toList=args)
  (hc:∀w1,C w1->Calls P f args.toArray w1 (Ret fun v' w'=>v'=v/\C w'))
  (k:wpQuiet P ops C Qp rest (Fr n (upd σ d v))):wpQuiet P ops C Qp (⟨some d,.call ⟨.value xo,l.toArray,ts⟩,ty,pos,aft,g⟩::rest) (Fr n σ):=by
 simp only[jae] at hx;refine wpQuiet_step fun K hK=>?_;rw[qfq (o:=⟨some d,_,ty,pos,aft,g⟩) hg,jao rfl];refine⟨v,fun w1 hw1=>?_,by show K ((Fr n σ).put (some d) v);rw[qd6];exact hK _ k⟩;have hr:(execOp (Fr n σ).eval ⟨some d,.call ⟨.value xo,l.toArray,ts⟩,ty,pos,aft,g⟩).run P w1=.ok (.enter f args.toArray) w1:=by
  obtain⟨fn,hf,hb,hn⟩:=hF;have hb':fn.body.isNone=false:=by cases h:fn.body<;>simp [h] at hb ⊢
  simp only[execOp,resolve,qat hx.1,ef,Deferred.ofValue,invoke,callFunc,qp4 hx.2,<- ea,jaf,jad,jab,jep,hf,hb',hn,ja9,jbs];simp
 unfold Oper.quietAt;rw[hr];refine⟨rfl,(hc w1 hw1).mono fun e w' he=>?_⟩;cases e with
 | returned v'=>obtain⟨h1,h2⟩:=he;exact⟨by rw[h1],h2⟩
 | _=>exact he.elim
end
end Go.Sx
namespace Go.Proofs.YtnhmanoiolfapaaGreat
open Go Go.Sx Go.RowKit Go.Sort Go.Shelf
theorem q7l:qai Tryz.prog 130:=⟨_,Tryz.func130,by kernel_rfl,by kernel_rfl⟩
theorem zgd:Fld Tryz.prog 92 0 0:=Fld.mk (F := ⟨"Key", 3,0, false, "", "", 0⟩) ty92 rfl ty3
def cmpI(a b:Int):Int:=if a<b then -1 else if b<a then 1 else 0
section
attribute [local irreducible] Go.wpList Go.wpQuiet Go.Code.wp
theorem q1m(a:Int)(w:World):Calls Tryz.prog 130 #[.int .i64 a] w (Ret fun v w'=>v=.bool false/\Gr w w'):=by
 refine(enter (l:=[.int .i64 a]) Tryz.func130 rfl Tryz.ntmps130 rfl ?_);refine qal fun K1 hK1=>?_;refine qau ?_;refine qa0 (v:=.bool false) rfl rfl rfl ?_;refine jbc ?_;refine hK1 _ _ ?_;refine qal fun K2 hK2=>?_;refine qau ?_;refine qaw (v:=.int .i64 a) rfl rfl rfl ?_;refine qaw (v:=.int .i64 a) rfl rfl rfl ?_;refine q64 rfl rfl rfl rfl ?_;refine qa0 (v:=.bool false) rfl rfl (jav Value.bool (jap (fun h=>h rfl))) ?_;refine jbc ?_;refine hK2 _ _ ?_;refine je7 ?_;exact ret1 Tryz.results130 rfl ⟨rfl,Gr.refl w⟩
theorem zlc(a b:Int)(w:World):Calls Tryz.prog 125 #[.int .i64 a,.int .i64 b] w (Ret fun v w'=>v=.int .i64 (cmpI a b)/\Gr w w'):=by
 refine(enter (l:=[.int .i64 a,.int .i64 b]) Tryz.func125 rfl Tryz.ntmps125 rfl ?_);refine qal fun K1 hK1=>?_;refine qau ?_;refine qa0 (v:=.int .i64 0) rfl rfl rfl ?_;refine jbc ?_;refine hK1 _ _ ?_;refine qal fun K2 hK2=>?_;refine qau ?_;refine qaw (v:=.int .i64 a) rfl rfl rfl ?_;refine qf9 (l:=[.tmp 7]) (args:=[.int .i64 a]) q7l rfl rfl rfl (q1m a w) ?_;rintro _ w1 ⟨rfl,g1⟩;refine qa0 (v:=.bool false) rfl rfl rfl ?_;refine jbc ?_;refine hK2 _ _ ?_;refine qal fun K3 hK3=>?_;refine qau ?_;refine qaw (v:=.int .i64 b) rfl rfl rfl ?_;refine qf9 (l:=[.tmp 9]) (args:=[.int .i64 b]) q7l rfl rfl rfl (q1m b w1) ?_;rintro _ w2 ⟨rfl,g2⟩;refine qa0 (v:=.bool false) rfl rfl rfl ?_;refine jbc ?_;refine hK3 _ _ ?_;refine qal fun K4 hK4=>?_;refine qal fun K5 hK5=>?_;refine qau ?_;refine qaw (v:=.bool false) rfl rfl rfl ?_;refine jbc ?_;refine hK5 _ _ ?_;refine qjs rfl rfl ?_;refine je4 ?_;refine hK4 _ _ ?_;refine qal fun K6 hK6=>?_;refine qal fun K7 hK7=>?_;refine qau ?_;refine qaw (v:=.bool false) rfl rfl rfl ?_;refine jbc ?_;refine hK7 _ _ ?_;refine qjs rfl rfl ?_;refine je4 ?_;refine hK6 _ _ ?_;refine qal fun K8 hK8=>?_;refine qal fun K9 hK9=>?_;refine qau ?_;refine qaw (v:=.int .i64 a) rfl rfl rfl ?_;refine qaw (v:=.int .i64 b) rfl rfl rfl ?_;refine qsy rfl rfl rfl rfl ?_;refine jbc ?_;refine hK9 _ _ ?_;refine c_if rfl rfl (fun h=>?_) (fun h=>?_)
 ·refine qal fun KA hKA=>?_;refine qau ?_;refine qa0 (v:=.int .i64 (-1)) rfl rfl rfl ?_;refine jbc ?_;refine hKA _ _ ?_;refine je7 ?_;exact ret1 Tryz.results125 rfl ⟨by unfold cmpI;rw[jao h];rfl,g1.trans g2⟩
 refine je4 ?_;refine hK8 _ _ ?_;refine qal fun KB hKB=>?_;refine qal fun KC hKC=>?_;refine qau ?_;refine qaw (v:=.int .i64 a) rfl rfl rfl ?_;refine qaw (v:=.int .i64 b) rfl rfl rfl ?_;refine qoa rfl rfl rfl rfl ?_;refine jbc ?_;refine hKC _ _ ?_;refine c_if rfl rfl (fun h2=>?_) (fun h2=>?_)
 ·refine qal fun KA hKA=>?_;refine qau ?_;refine qa0 (v:=.int .i64 1) rfl rfl rfl ?_;refine jbc ?_;refine hKA _ _ ?_;refine je7 ?_;exact ret1 Tryz.results125 rfl ⟨by unfold cmpI;rw[jan h,jao h2];rfl,g1.trans g2⟩
 refine je4 ?_;refine hKB _ _ ?_;refine qal fun KD hKD=>?_;refine qau ?_;refine qa0 (v:=.int .i64 0) rfl rfl rfl ?_;refine jbc ?_;refine hKD _ _ ?_;refine je7 ?_;exact ret1 Tryz.results125 rfl ⟨by unfold cmpI;rw[jan h,jan h2];rfl,g1.trans g2⟩
theorem qzv(x:Int × ByteArray × Bool)(w:World):Calls Tryz.prog 115 #[.agg (encC x).toArray] w (Ret fun v w'=>v=.int .i64 x.1/\Gr w w'):=by
 refine(enter (l:=[.agg (encC x).toArray]) Tryz.func115 rfl Tryz.ntmps115 rfl ?_);refine qal fun K1 hK1=>?_;refine qau ?_;refine qw6 (v:=.agg (encC x).toArray) (zs:=encC x) rfl rfl rfl rfl fun β w1 hβ g1 hz1 hx1=>?_;refine qa0 (v:=.int .i64 0) rfl rfl rfl ?_;refine jbc ?_;refine hK1 _ _ ?_;refine qal fun K2 hK2=>?_;refine qau ?_;refine qw9 zgd rfl rfl rfl ?_;refine qg4 (v:=.int .i64 x.1) ty3 rfl rfl rfl rfl hx1 rfl ?_;refine qa0 (v:=.int .i64 x.1) rfl rfl rfl ?_;refine jbc ?_;refine hK2 _ _ ?_;refine je7 ?_;exact ret1 Tryz.results115 rfl ⟨rfl,g1⟩
theorem za3(x y:Int × ByteArray × Bool){b:Nat}{w:World}(hb:w.cell? ⟨b,0,none⟩=some (.func (.func 115) #[] #[])) :
  Calls Tryz.prog 124 #[.agg (encC x).toArray,.agg (encC y).toArray,.pointer (some ⟨b,0,none⟩)] w (Ret fun v w'=>v=.int .i64 (cmpI x.1 y.1)/\Gr w w'):=by
 refine(enter (l:=[.agg (encC x).toArray,.agg (encC y).toArray,.pointer (some ⟨b,0,none⟩)]) Tryz.func124 rfl Tryz.ntmps124 rfl ?_);refine qal fun K1 hK1=>?_;refine qau ?_;refine qw6 (v:=.agg (encC x).toArray) (zs:=encC x) rfl rfl rfl rfl fun β1 w1 hβ1 g1 hz1 hx1=>?_;refine qw6 (v:=.agg (encC y).toArray) (zs:=encC y) rfl rfl rfl rfl fun β2 w2 hβ2 g2 hz2 hx2=>?_;refine qa0 (v:=.int .i64 0) rfl rfl rfl ?_;refine jbc ?_;refine hK1 _ _ ?_;have hx1':=hx1.mono0 g2.upd;have hb2:=(g1.trans g2).upd.cell hb;refine qal fun K2 hK2=>?_;refine wp_region_quiet (C:=Gr w2) mixed (by kernel_rfl) (Gr.drew w2) ?_;refine qla (v:=.func (.func 115) #[] #[]) rfl rfl rfl (fun wq gq=>qpu qs9 rfl rfl rfl rfl (gq.upd.cell hb2) q1) ?_;refine qla (v:=.agg (encC x).toArray) rfl rfl rfl (fun wq gq=>qui (ds:=encC x) ty92 rfl rfl rfl rfl (hx1'.mono0 gq.upd) rfl rfl q1) ?_;refine q35 (f:=115) (l:=[.tmp 7]) (args:=[.agg (encC x).toArray]) (v:=.int .i64 x.1) qzy rfl rfl rfl rfl (fun wq gq=>(qzv x wq).mono fun e w' h=>by
  cases e with
  | returned v=>exact⟨h.1,gq.trans h.2⟩
  | _=>exact h.elim) ?_
 refine qla (v:=.func (.func 115) #[] #[]) rfl rfl rfl (fun wq gq=>qpu qs9 rfl rfl rfl rfl (gq.upd.cell hb2) q1) ?_;refine qla (v:=.agg (encC y).toArray) rfl rfl rfl (fun wq gq=>qui (ds:=encC y) ty92 rfl rfl rfl rfl (hx2.mono0 gq.upd) rfl rfl q1) ?_;refine q35 (f:=115) (l:=[.tmp 10]) (args:=[.agg (encC y).toArray]) (v:=.int .i64 y.1) qzy rfl rfl rfl rfl (fun wq gq=>(qzv y wq).mono fun e w' h=>by
  cases e with
  | returned v=>exact⟨h.1,gq.trans h.2⟩
  | _=>exact h.elim) ?_
 refine zil (f:=125) (l:=[.tmp 8,.tmp 11]) (args:=[.int .i64 x.1,.int .i64 y.1]) (v:=.int .i64 (cmpI x.1 y.1)) zek rfl rfl rfl (fun wq gq=>(zlc x.1 y.1 wq).mono fun e w' h=>by
  cases e with
  | returned v=>exact⟨h.1,gq.trans h.2⟩
  | _=>exact h.elim) ?_
 refine qla (v:=.int .i64 (cmpI x.1 y.1)) rfl rfl rfl (fun wq gq=>qa0 (v:=.int .i64 (cmpI x.1 y.1)) rfl rfl rfl q1) ?_;refine wpQuiet_nil fun w3 g3=>?_;refine hK2 _ _ ?_;refine je7 ?_;exact ret1 Tryz.results124 rfl ⟨rfl,(g1.trans g2).trans g3⟩
end
end Go.Proofs.YtnhmanoiolfapaaGreat
end

section
set_option maxRecDepth 100000
namespace Go.Proofs.YtnhmanoiolfapaaGreat
open Go Go.Sx Go.RowKit Go.Sort Go.Shelf
abbrev DC:Type:=Int × ByteArray × Bool
instance:Dat DC where
 sz:=3
 enc _ _ cs x:=cs=encC x
 len h:=by rw[h];rfl
 mono h _:=h
 ones h:=by rw[h];rfl
theorem zhi{w:World}{a:Option Addr}{cap:Nat}{l:List DC}(hS:SL [] w a cap l)(hl:l.length<=1000):Calls Tryz.prog 122 #[.slice a l.length cap] w (Ret fun v w'=>∃a' c' m',v=.slice a' l.length c'/\Go.Sx.Own m' [] w' a' c' l/\Evo [] w m' w'):=by
 have hM:Lo [] w:=fun b hb=>by cases hb
 refine enter (l:=[.slice a l.length cap]) Tryz.func122 rfl Tryz.ntmps122 rfl ?_;refine qal fun KhK1 hK1=>?_;refine qau ?_;refine qa0 (v:=.slice none 0 0) rfl rfl rfl ?_;refine jbc ?_;refine hK1 _ _ ?_;refine qal fun KhK2 hK2=>?_;refine qal fun KhK3 hK3=>?_;refine qau ?_;refine qaw (v:=.slice a l.length cap) rfl rfl rfl ?_;refine qt5 ty35 rfl rfl rfl rfl ?_;refine jbc ?_;refine hK3 _ _ ?_;refine qow rfl rfl (fun hb4=>?_) (fun hb4=>?_)
 ·obtain rfl:=hS.isNone hb4;refine qal fun KhK5 hK5=>?_;refine qau ?_;refine qa0 (v:=.slice none 0 0) rfl rfl rfl ?_;refine jbc ?_;refine hK5 _ _ ?_;refine je7 ?_;exact ret1 Tryz.results122 rfl ⟨none,0,[],rfl,Go.Sx.Own.nil,Evo.refl [] w⟩
 ·refine je4 ?_;refine hK2 _ _ ?_;refine qal fun KhK7 hK7=>?_;refine qau ?_;refine qsb (α:=DC) (m:=[]) (M:=[]) ty35 ty92 rfl (hM.mono (Evo.refl [] w).size) fun β14 w15 hβ16 u17 hz18 ho19=>?_;have e20:=u17.evoN (m:=[]) hβ16 hz18;refine qaw (v:=.slice a l.length cap) rfl rfl rfl ?_;refine qo6 (l:=([]:List DC)) ty35 ty35 ty92 rfl rfl rfl rfl rfl rfl rfl ho19 (hS.mono (e20.tr [])) (hM.mono e20.size) (by show (0+l.length)*32<=140737488355328;omega) fun a22 c23 w24 m25 ho26 e27 u28 hbk29 hsub30=>?_;refine qa0 (v:=.slice a22 (([]:List DC)++l).length c23) rfl rfl rfl ?_;refine jbc ?_;refine hK7 _ _ ?_;refine je7 ?_;exact ret1 Tryz.results122 rfl ⟨a22,c23,m25,rfl,ho26,e20.trans e27⟩
theorem zpp{w:World}{g off n:Nat}{d:Array DC}{os:Array Obj}:Upd [g] w (sortWorldK encC 3 w g off n d os):=by
 refine⟨rfl,rfl,rfl,?_,fun b hb hn=>?_⟩
 ·show w.heap.size<=((w.heap.modify g _)++os).size;simp
 ·show ((w.heap.modify g _)++os)[b]?=_;rw[jeh (by simpa using hb),jc7,jan (by simp at hn;omega)]
theorem zqi:SWO (ltOf fun x y:DC=>cmpI x.1 y.1):=by
 have e:∀x y:DC,ltOf (fun x y:DC=>cmpI x.1 y.1) x y=decide (x.1<y.1):=fun x y=>by
  unfold ltOf cmpI;by_cases h1:x.1<y.1
  ·simp[h1]
  ·by_cases h2:y.1<x.1<;>simp [h1,h2]
 refine⟨fun x=>?_,fun x y z h1 h2=>?_,fun x y z h1 h2=>?_⟩
 ·rw[e];simp
 ·rw[e] at *;simp only[jb9] at *;omega
 ·rw[e] at *;simp only[jev] at *;omega
def RowC(b0:Nat)(w:World)(a:Option Addr)(cap:Nat)(l:List DC):Prop :=
 (l.length<=cap/\cap<9223372036854775808)/\(l=[]\/∃g,a=some ⟨g,0,none⟩/\b0<=g/\∀i (h:i<l.length) j,j<3->w.cell? ⟨g,i*3+j,none⟩=(encC l[i])[j]?)
def qo9(l:List DC):Prop:=∀(i j:Nat) (hi:i<l.length) (hj:j<l.length),i<j->¬(l[j]).1<(l[i]).1
section
attribute [local irreducible] Go.wpList Go.wpQuiet Go.Code.wp
theorem zg6{w:World}{a:Option Addr}{cap:Nat}{l:List DC}(hS:SL [] w a cap l)(hl:l.length<=1000) :
  Calls Tryz.prog 114 #[.slice a l.length cap,.func (.func 115) #[] #[]] w (Ret fun v w'=>∃a' c' l',v=.slice a' l'.length c'/\(List.Perm l' l/\qo9 l')/\RowC w.heap.size w' a' c' l'/\Upd [] w w'):=by
 refine enter (l:=[.slice a l.length cap,.func (.func 115) #[] #[]]) Tryz.func114 rfl Tryz.ntmps114 rfl ?_;refine qal fun K1 hK1=>?_;refine qau ?_;refine zqj (v:=.func (.func 115) #[] #[]) (zs:=[.func (.func 115) #[] #[]]) rfl rfl rfl rfl fun βt w1 hβ1 u1 hz1 hx1=>?_;refine qa0 (v:=.slice none 0 0) rfl rfl rfl ?_;refine jbc ?_;refine hK1 _ _ ?_;refine qal fun K2 hK2=>?_;refine qau ?_;refine qaw (v:=.slice a l.length cap) rfl rfl rfl ?_;refine qf9 (l:=[.tmp 6]) (args:=[.slice a l.length cap]) zoo rfl rfl rfl (zhi (hS.mono u1.tr0) hl) ?_;rintro _ w2 ⟨a2,c2,m2,rfl,ho2,e2⟩;refine qa0 (v:=.slice a2 l.length c2) rfl rfl rfl ?_;refine jbc ?_;refine hK2 _ _ ?_;have u2:=e2.old;have hx2:=hx1.mono0 u2;have hold:Upd [] w w2:=u1.trans u2;refine qal fun K3 hK3=>?_;refine qau ?_;refine qaw (v:=.slice a2 l.length c2) rfl rfl rfl ?_;refine zax (vs:=[.pointer (some ⟨βt,0,none⟩)]) rfl rfl rfl ?_;have hsort:Calls Tryz.prog 123 #[.slice a2 l.length c2,.func (.func 124) #[] #[.pointer (some ⟨βt,0,none⟩)]] w2 (Ret fun v w'=>∃l',l'.length=l.length/\(List.Perm l' l/\qo9 l')/\RowC w.heap.size w' a2 c2 l'/\Upd [] w w'):=by
  rcases ho2 with ⟨rfl,rfl,rfl⟩|⟨g,cells,rfl,hgm,_,hbx,hcl,hcap,hel⟩
  ·refine(zsb none 0 _ w2).mono fun e w' h=>?_;obtain⟨rfl,rfl⟩:=h;exact⟨[],rfl,⟨jfm _,fun i j hi=>by simp at hi⟩,⟨⟨jar _,by omega⟩,.inl rfl⟩,hold⟩
  ·have hgw:w1.heap.size<=g:=by
    rcases e2.own g hgm with h|h
    ·cases h
    ·exact h
   have hne:βt≠g:=by have:=hx1.lt;omega
   have hcl2:l.length*3<=cells.length:=by rw[hcl];show _<=c2*3;omega
   have hcell:∀i (h:i<l.length) j,j<3->cells[i*3+j]?=(encC l[i])[j]?:=fun i h j hj=>by
    obtain⟨cs,h1,h2⟩:=hel i h;have h1:cs=encC l[i]:=h1;rw[<- h1];exact h2 j hj
   have hfz:∀o,w2.frozen? ⟨g,o,none⟩=false:=fun o=>by
    obtain⟨t,ht⟩:=hbx;simp[World.frozen?,ht]
   have hH:HoldsK encC 3 w2 g 0 l.toArray:=fun t ht=>by
    rw[size_flatK] at ht;refine⟨?_,by rw[hfz]⟩;have ht3:t<l.length*3:=by simpa using ht
    rw[jbk,hbx.cell,get_flatK encC 3 l.toArray t (by simpa using ht3)];have h1:t / 3<l.length:=by omega
    have h2:=hcell (t / 3) h1 (t % 3) (by omega);rw[show t / 3*3+t % 3=t by omega] at h2;rw[h2];have e3:(l.toArray)[t / 3]! = l[t / 3]:=by simp[h1]
    rw[e3];have h4:t % 3<(encC l[t / 3]).length:=by show t % 3<3;omega
    rw[jac h4];show _=some ((encC l[t / 3])[t % 3]!);rw[je2 (encC l[t / 3]) (t % 3) h4]
   have hbt:w2.cell? ⟨βt,0,none⟩=some (.func (.func 115) #[] #[]):=by rw[hx2.cell];rfl
   have eg:∀args w,(callFunc 124 args).run Tryz.prog w=.ok (.enter 124 args) w:=enters_of Tryz.func124 (by kernel_rfl) rfl;have hcmp:CmpLays Tryz.prog 124 #[.pointer (some ⟨βt,0,none⟩)] encC 3 (fun x y:DC=>cmpI x.1 y.1) g 0 l.toArray.size w2:=fun m os dk hs x y=>by
    refine(za3 x y (b:=βt) ?_).mono fun e w' h=>?_
    ·rw[cell?_sortWorldK_other encC 3 w2 g 0 m dk os ⟨βt,0,none⟩ hne hx2.lt];exact hbt
    ·cases e with
     | returned v=>obtain⟨rfl,q,os',h2⟩:=h;exact⟨rfl,q,os',h2⟩
     | _=>exact h.elim
   have hcon:=ziv (fun x y:DC=>cmpI x.1 y.1) zqi 124 #[.pointer (some ⟨βt,0,none⟩)] g 0 c2 l.toArray w2 eg hcmp hH hbx.lt (by simp;omega);have el:l.toArray.size=l.length:=by simp
   rw[el] at hcon;refine hcon.mono fun e w' h=>?_;obtain⟨rfl,d',n,os,hp,hs,rfl⟩:=h;obtain⟨hp1,_,hp3⟩:=hp;have hd:d'.toList.length=l.length:=by rw[jdn,hp1,el]
   have hd2:d'.size=l.length:=by rw[hp1,el]
   have hperm:List.Perm d'.toList l:=by
    have e1:d'.extract 0 l.length=d':=by rw[<- hd2];exact Array.extract_size
    have e2:l.toArray.extract 0 l.length=l.toArray:=by rw[<- el];exact Array.extract_size
    rw[e1,e2] at hp3;exact hp3
   have hH2:=holdsK_sortWorldK_c encC 3 w2 g 0 l.toArray d' n os hH hbx.lt hp1;refine⟨d'.toList,hd,⟨hperm,fun i j hi hj hij=>?_⟩,⟨⟨by rw[hd];exact hcap.1,hcap.2⟩,.inr ⟨g,rfl,jbj u1.size hgw,fun i hi j hj=>?_⟩⟩,hold.old_upd zpp (jbj u1.size hgw)⟩
   ·have:=hs i j (jb4 _) hij (by rw[<- hd];exact hj);have hi':i<d'.size:=by simpa using hi
    have hj':j<d'.size:=by simpa using hj
    rw[je2 d' i hi',je2 d' j hj'] at this;unfold ltOf cmpI at this;simp only[jev] at this;show ¬(d'.toList[j]).1<(d'.toList[i]).1;rw[je8,je8];intro hlt;rw[jao hlt] at this;omega
   ·have hi':i<d'.size:=by simpa using hi
    have ht:i*3+j<(flatK encC 3 d').size:=by rw[size_flatK];omega
    have:=(hH2 (i*3+j) ht).1;rw[jbk] at this;rw[this,get_flatK encC 3 d' (i*3+j) (by omega)];have e1:(i*3+j) / 3=i:=by omega
    have e2:(i*3+j) % 3=j:=by omega
    rw[e1,e2,je2 d' i hi',je8];have h4:j<(encC d'[i]).length:=hj;rw[jac h4];show some ((encC d'[i])[j]!)=_;rw[je2 (encC d'[i]) j h4]
 refine qf9 (l:=[.tmp 8,.tmp 9]) (args:=[.slice a2 l.length c2,.func (.func 124) #[] #[.pointer (some ⟨βt,0,none⟩)]]) zsg rfl rfl rfl hsort ?_;rintro _ w3 ⟨l',hl',hps,hrow,hu⟩;refine jbc ?_;refine hK3 _ _ ?_;refine qal fun K4 hK4=>?_;refine qau ?_;refine qaw (v:=.slice a2 l.length c2) rfl rfl rfl ?_;refine qa0 (v:=.slice a2 l.length c2) rfl rfl rfl ?_;refine jbc ?_;refine hK4 _ _ ?_;refine je7 ?_;exact ret1 Tryz.results114 rfl ⟨a2,c2,l',by rw[hl'];rfl,hps,hrow,hu⟩
end
end Go.Proofs.YtnhmanoiolfapaaGreat
end

section
set_option maxRecDepth 100000
namespace Go.Sx
open Go Go.RowKit
section
variable {P : Program} {w : World}
theorem zlk{ty:TypeId}{β bm since c0:Nat}{seen:Array Nat}{es:Array MapEntry}{clock:Nat}(hi:w.heap[β]?=some (.mapIter (some bm) since seen c0))(hb:w.heap[bm]?=some (.map es clock))(hold:∀x∈es.toList,x.born<since)(hsc:since<=c0) :
  ((leftOf es seen).size=0/\(Instr.next (.pointer (some ⟨β,0,none⟩)) false ty).run P w=.ok (.tuple #[.bool false]) w) \/
  ∃e∈(leftOf es seen).toList,∃w1:World,Upd [β] w w1/\w1.heap[β]?=some (.mapIter (some bm) since (seen.push e.born) clock)/\(Instr.next (.pointer (some ⟨β,0,none⟩)) false ty).run P w=.ok (.tuple #[.bool true,e.key,e.val]) w1:=by
 have hlt:=qas hi;simp only[Instr.next,getObj,jaf,Sem.run,hi,hb,Result.andThen,next_test_false seen es since c0 hold hsc,ja9,jbs];unfold leftOf;have hmem:∀x∈(Array.filter (fun e=>!seen.contains e.born) es).toList,x.born<since:=fun x hx=>hold x (by simp at hx ⊢;exact hx.1);generalize Array.filter (fun e=>!seen.contains e.born) es=L at hmem ⊢;have e1:L.filter (fun x=>decide (x.born<since))=L:=Array.filter_eq_self.2 (fun x hx=>by simpa using hmem x (by simpa using hx));have e2:L.filter (fun x=>decide (x.born ≥ since))=#[]:=by
  rw[Array.filter_eq_empty_iff];intro x hx;have:=hmem x (by simpa using hx);simp;omega
 simp only[e1,e2,Array.append_empty];by_cases h0:L.size=0
 ·left;have:L=#[]:=jc0 h0;subst this;refine⟨rfl,?_⟩;simp[choose,Sem.run,Question.forced]
 ·right;have hne:L.isEmpty=false:=by simp[Array.isEmpty,h0]
  simp only[hne,ja9,jbs,Array.empty_append,Array.size_map];have hch:∃(j:Nat) (w1:World),j<L.size/\w1.Alike w/\w1.tape=w.tape/\(choose (Question.mapNext L.size)).run P w=.ok j w1:=by
   by_cases hf:L.size<=1
   ·exact⟨0,w,by omega,⟨rfl,rfl,rfl⟩,rfl,by simp[choose,Sem.run,Question.forced,hf]⟩
   ·exact⟨_,{ w with drawn:=w.drawn+1 },jc1 _ (by omega),⟨rfl,rfl,rfl⟩,rfl,by
     simp only[choose,Sem.run,Question.forced,jb9,hf,jbs,Question.cut];rfl⟩
  obtain⟨j,w1,hj,hal,htp,hrun⟩:=hch;have hi1:w1.heap[β]?=some (.mapIter (some bm) since seen c0):=by rw[hal.1];exact hi
  refine⟨L[j],by simp,{ w1 with heap:=w1.heap.setIfInBounds β (.mapIter (some bm) since (seen.push L[j].born) clock) },⟨hal.2.1,htp,hal.2.2,?_,fun b hb hn=>?_⟩,?_,?_⟩
  ·show w.heap.size<=(w1.heap.setIfInBounds β _).size;rw[Array.size_setIfInBounds,hal.1];exact jar _
  ·show (w1.heap.setIfInBounds β _)[b]?=_;rw[Array.getElem?_setIfInBounds,jan (by simp at hn;omega),hal.1]
  ·show (w1.heap.setIfInBounds β _)[β]?=_;rw[Array.getElem?_setIfInBounds,jao rfl,jao (by rw[hal.1];exact hlt)]
  ·simp only[hrun,Array.getElem?_map,jcm hj,jc2,jaf,setObj,Sem.run,hi1,Result.andThen];rfl
theorem zsp{β bm since:Nat}{seen:Array Nat}{es:Array MapEntry}{clock:Nat}{e:MapEntry}(hi:w.heap[β]?=some (.mapIter (some bm) since (seen.push e.born) clock))(hb:w.heap[bm]?=some (.map es clock))(he:e∈es.toList)(hn:(es.toList.map (·.born)).Nodup) :
  (Instr.entry (.pointer (some ⟨β,0,none⟩))).run P w=.ok (.tuple #[e.key,e.val]) w:=by
 have hf:es.find? (·.born==e.born)=some e:=by rw[<- Array.find?_toList];exact find_born e es.toList hn he
 simp only[Instr.entry,getObj,jaf,Sem.run,hi,hb,Result.andThen,Array.back?_push,bne_self_eq_false,ja9,jbs,hf];rfl
end
section
variable {P : Program} {n : Nat} {σ : Nat -> Value} {w : World} {Q : Exit -> Act -> World -> Prop} {ops : Array Oper} {rest : List Oper} {d : Nat} {ty : TypeId} {pos : String} {aft : Array Edge} {g : Option (Nat × Bool)} {T : TypeId} {x : Operand}
theorem zpu{K E:TypeId}{bm:Nat}{es:Array MapEntry}{clock:Nat}(hT:P.underlying T=some (.map K E))(hb:w.heap[bm]?=some (.map es clock))(hg:qao ops σ n g=true)(hx:okO n x=true)(ex:ev σ x=.map (some bm))
  (k:∀β w',w.heap.size=β->Upd [] w w'->w'.heap[β]?=some (.mapIter (some bm) clock #[] clock)->wpList P ops Q rest (Fr n (upd σ d (.pointer (some ⟨β,0,none⟩)))) w'):wpList P ops Q (⟨some d,.range T x,ty,pos,aft,g⟩::rest) (Fr n σ) w :=
 qa7 hg (by simp only[execOp,qat hx,ex,run_range_map w T K E bm es clock hT hb,jaf,jad,jab]) (k _ _ rfl (Upd.alloc _ _) (jcp _ _))
theorem zd6{β bm since c0:Nat}{seen:Array Nat}{es:Array MapEntry}{clock:Nat}(hi:w.heap[β]?=some (.mapIter (some bm) since seen c0))(hb:w.heap[bm]?=some (.map es clock))(hold:∀x∈es.toList,x.born<since)(hsc:since<=c0)
  (hg:qao ops σ n g=true) (hx:okO n x=true) (ex:ev σ x=.pointer (some ⟨β,0,none⟩))
  (k0:(leftOf es seen).size=0->wpList P ops Q rest (Fr n (upd σ d (.tuple #[.bool false]))) w)
  (k1:∀e w1,e∈(leftOf es seen).toList->Upd [β] w w1->w1.heap[β]?=some (.mapIter (some bm) since (seen.push e.born) clock)->wpList P ops Q rest (Fr n (upd σ d (.tuple #[.bool true,e.key,e.val]))) w1) :
  wpList P ops Q (⟨some d,.next x false,ty,pos,aft,g⟩::rest) (Fr n σ) w:=by
 rcases zlk (P:=P) (ty:=ty) hi hb hold hsc with ⟨h1,h2⟩|⟨e,he,w1,h1,h2,h3⟩
 ·exact qa7 hg (by simp only[execOp,qat hx,ex,h2,jaf,jad,jab]) (k0 h1)
 ·exact qa7 hg (by simp only[execOp,qat hx,ex,h3,jaf,jad,jab]) (k1 e w1 he h1 h2)
theorem zml{β bm since:Nat}{seen:Array Nat}{es:Array MapEntry}{clock:Nat}{e:MapEntry}(hi:w.heap[β]?=some (.mapIter (some bm) since (seen.push e.born) clock))(hb:w.heap[bm]?=some (.map es clock))(he:e∈es.toList)(hn:(es.toList.map (·.born)).Nodup)
  (hg:qao ops σ n g=true) (hx:okO n x=true) (ex:ev σ x=.pointer (some ⟨β,0,none⟩)) (k:wpList P ops Q rest (Fr n (upd σ d (.tuple #[e.key,e.val]))) w) :
  wpList P ops Q (⟨some d,.entry x,ty,pos,aft,g⟩::rest) (Fr n σ) w :=
 qa7 hg (by simp only[execOp,qat hx,ex,zsp (P:=P) hi hb he hn,jaf,jad,jab]) k
end
theorem zbn{es:Array MapEntry}{seen:Array Nat}{e:MapEntry}(hn:(es.toList.map (·.born)).Nodup)(he:e∈(leftOf es seen).toList):List.Perm (leftOf es seen).toList (e::(leftOf es (seen.push e.born)).toList):=by
 have h1:(leftOf es (seen.push e.born)).toList=(leftOf es seen).toList.filter fun x=>!(x.born==e.born):=by
  unfold leftOf;rw[jd2,jd2,List.filter_filter];congr 1;funext x;rw[Array.contains_push];cases seen.contains x.born<;>cases hx:(e.born==x.born)<;>simp_all [BEq.comm]
 rw[h1];have hn2:((leftOf es seen).toList.map (·.born)).Nodup:=by
  unfold leftOf;rw[jd2];exact hn.sublist (List.filter_sublist.map _)
 generalize (leftOf es seen).toList=L at he hn2;induction L with
 | nil=>cases he
 | cons x L ih =>
  obtain⟨n1,n2⟩:=jck.1 hn2;rcases jau.1 he with rfl|he
  ·have:(e::L).filter (fun x=>!(x.born==e.born))=L:=by
    rw[List.filter_cons_of_neg (by simp)];refine List.filter_eq_self.2 fun y hy=>?_;have:y.born≠e.born:=fun e'=>n1 (jb8.2 ⟨y,hy,e'⟩);simpa using this
   rw[this]
  ·have hne:x.born≠e.born:=fun e'=>n1 (jb8.2 ⟨e,he,e'.symm⟩);rw[List.filter_cons_of_pos (by simpa using hne)];exact((ih he n2).cons x).trans (List.Perm.swap e x _)
end Go.Sx
namespace Go.Proofs.YtnhmanoiolfapaaGreat
open Go Go.Sx Go.RowKit Go.Sort Go.Shelf
def qbl(e:MapEntry):DC:=(match e.key with|.int _ k=>k|_=>0,match e.val with|.string s=>s|_=>⟨#[]⟩,false)
theorem zpr:Szs Tryz.prog 92 [(0,1),(1,1),(2,1)]:=Go.Jx.szs_of ttOK (ty:=92) rfl rfl rfl
section
attribute [local irreducible] Go.wpList Go.wpQuiet Go.Code.wp
theorem zkn{w:World}{bm:Nat}{es:Array MapEntry}{clock:Nat}(hb:w.heap[bm]?=some (.map es clock))(hn:(es.toList.map (·.born)).Nodup)(hold:∀x∈es.toList,x.born<clock)(hkv:∀e∈es.toList,e.key=.int .i64 (qbl e).1/\e.val=.string (qbl e).2.1)(hl:es.size<=1000) :
  Calls Tryz.prog 98 #[.map (some bm)] w (Ret fun v w'=>∃a' c' l',v=.slice a' l'.length c'/\(List.Perm l' (es.toList.map qbl)/\qo9 l')/\RowC w.heap.size w' a' c' l'/\Upd [] w w'):=by
 have hltm:=qas hb;refine enter (l:=[.map (some bm)]) Tryz.func98 rfl Tryz.ntmps98 rfl ?_;refine qal fun K1 hK1=>?_;refine qau ?_;refine qa0 (v:=.slice none 0 0) rfl rfl rfl ?_;refine jbc ?_;refine hK1 _ _ ?_;refine qal fun K2 hK2=>?_;refine qau ?_;refine qa0 (v:=.slice none 0 0) rfl rfl rfl ?_;refine jbc ?_;refine hK2 _ _ ?_;refine qal fun K3 hK3=>?_;refine qal fun K4 hK4=>?_;refine qau ?_;refine qaw (v:=.map (some bm)) rfl rfl rfl ?_;refine zpu q4e.und hb rfl rfl rfl fun β w1 hβ u1 hi1=>?_;refine jbc ?_;refine hK4 _ _ ?_;have hb1:w1.heap[bm]?=some (.map es clock):=(u1.same bm hltm (by simp)).trans hb;have hM0:Lo ([]:List Nat) w1:=fun b hb=>by cases hb
 have hperm0:(leftOf es #[]).toList=es.toList:=by
  unfold leftOf;rw[jd2];exact List.filter_eq_self.2 fun x _=>by simp
 refine wp_block ?_;refine qtb (X:=(Array Nat × List DC) × (Option Addr × Nat × List Nat)) (3::4::5::(List.range 19).drop 8) (fun x=>[(3,.slice x.2.1 x.1.2.length x.2.2.1)])
  (fun x wi=>(wi.heap[β]?=some (.mapIter (some bm) clock x.1.1 clock)/\wi.heap[bm]?=some (.map es clock))/\List.Perm (x.1.2++(leftOf es x.1.1).toList.map qbl) (es.toList.map qbl)/\Go.Sx.Own x.2.2.2 [] wi x.2.1 x.2.2.1 x.1.2/\(β∈x.2.2.2/\(∀b∈blk x.2.1,β<b)/\∀b∈x.2.2.2,b<wi.heap.size)/\Upd [] w wi)
  (fun x=>(leftOf es x.1.1).size) ((#[],[]),(none,0,[β])) ⟨rfl,trivial⟩ ⟨⟨hi1,hb1⟩,by rw[hperm0];exact jfm _,Go.Sx.Own.nil,⟨by simp,fun b hb=>(by cases hb),fun b hb=>by rw[jcc.1 hb];exact qas hi1⟩,u1⟩ ?_
 rintro⟨⟨seen,out⟩,ao,co,mo⟩ τ w2 ⟨⟨hi2,hb2⟩,hp2,ho2,hm2,hu2⟩;have hlo:out.length<=es.size:=by
  have:=hp2.length_eq;simp only[jah,jb3,jdn] at this;omega
 refine qal fun K5 hK5=>?_;refine qau ?_;refine zd6 hi2 hb2 hold (jar _) rfl rfl rfl (fun h0=>?_) (fun e w3 he hu3 hi3=>?_)
 ·refine qhc (v:=.bool false) rfl rfl rfl rfl ?_;refine jbc ?_;refine hK5 _ _ ?_;refine qal fun K6 hK6=>?_;refine qjs rfl rfl ?_;refine wp_exit ?_;refine hK3 _ _ ?_;have hnil:(leftOf es seen).toList=[]:=by
   have:leftOf es seen=#[]:=jc0 h0;rw[this]
  rw[hnil,List.map_nil,jbl] at hp2;have hold2:Upd [] w w2:=hu2;refine qal fun K7 hK7=>?_;refine qau ?_;refine qaw (v:=.slice ao out.length co) rfl rfl rfl ?_;refine qf9 (l:=[.tmp 19,.func 115]) (args:=[.slice ao out.length co,.func (.func 115) #[] #[]]) zs3 rfl rfl rfl (zg6 (ho2.shut (N:=[]) (fun b hb=>by cases hb) (fun b _=>by simp)) (by omega)) ?_;rintro _ w4 ⟨a',c',l',rfl,⟨hps,hso⟩,hrow,hu4⟩;refine qa0 (v:=.slice a' l'.length c') rfl rfl rfl ?_;refine jbc ?_;refine hK7 _ _ ?_;refine je7 ?_;refine ret1 Tryz.results98 rfl ⟨a',c',l',rfl,⟨hps.trans hp2,hso⟩,⟨hrow.1,?_⟩,hold2.trans hu4⟩;rcases hrow.2 with h|⟨g,h1,h2,h3⟩
  ·exact .inl h
  ·exact .inr ⟨g,h1,jbj hold2.size h2,h3⟩
 ·refine qhc (v:=.bool true) rfl rfl rfl rfl ?_;refine jbc ?_;refine hK5 _ _ ?_;refine qal fun K6 hK6=>?_;refine q56 rfl rfl ?_;refine je4 ?_;refine hK6 _ _ ?_;have hein:e∈es.toList:=by
   unfold leftOf at he;rw[jd2] at he;exact(jcl.1 he).1
  obtain⟨hk,hv⟩:=hkv e hein;have hbm3:bm≠β:=by omega
  have hb3:w3.heap[bm]?=some (.map es clock):=(hu3.same bm (qas hb2) (by simpa using hbm3)).trans hb2;refine wp_block ?_;refine qal fun K7 hK7=>?_;refine qau ?_;refine zml hi3 hb3 hein hn rfl rfl rfl ?_;rw[hk,hv];refine qhc (v:=.int .i64 (qbl e).1) rfl rfl rfl rfl ?_;refine qhc (v:=.string (qbl e).2.1) rfl rfl rfl rfl ?_;refine qa0 (v:=.int .i64 (qbl e).1) rfl rfl rfl ?_;refine qa0 (v:=.string (qbl e).2.1) rfl rfl rfl ?_;refine jbc ?_;refine hK7 _ _ ?_;have hlp:=zbn hn he;have hsz:(leftOf es seen).size=(leftOf es (seen.push e.born)).size+1:=by
   have:=hlp.length_eq;simpa using this
  have hu03:Upd [] w w3:=Upd.old_upd hu2 hu3 (by omega);have hM3:Lo ([]:List Nat) w3:=fun b hb=>by cases hb
  have hev3:Evo mo w2 mo w3:=hu3.evo (by intro b hb;simp at hb;rw[hb];exact hm2.1);have ho3:Go.Sx.Own mo [] w3 ao co out:=ho2.mono hu3 (fun b hb=>by have:=hm2.2.1 b hb;simp;omega) hev3 (ho2.mem);refine qau ?_;refine qaw (v:=.slice ao out.length co) rfl rfl rfl ?_;refine qaw (v:=.int .i64 (qbl e).1) rfl rfl rfl ?_;refine qaw (v:=.string (qbl e).2.1) rfl rfl rfl ?_;refine zm7 (r:=encC (qbl e)) ty92 zpr rfl rfl rfl rfl rfl ?_;refine zto (r:=encC (qbl e)) ty35 ty92 rfl rfl rfl rfl rfl rfl fun β4 w4 hβ4 hu4 hz4 hx4=>?_;have hβ4':β4 ∉ mo++[]:=fun h=>by
   rw[jbl] at h;have h1:=hm2.2.2 β4 h;have h2:=hu3.size;omega
  have ev4:Evo mo w3 mo w4:=hu4.evo0;have ho4:Go.Sx.Own mo [] w4 ao co out:=ho3.mono hu4 (fun b hb=>by simp) ev4 ho2.mem;have hs4:SL (mo++[]) w4 (some ⟨β4,0,none⟩) 1 [qbl e]:=SL.of_box1 hx4 hβ4' rfl;have hM4:Lo ([]:List Nat) w4:=fun b hb=>by cases hb
  refine qo6 ty35 ty35 ty92 rfl rfl rfl rfl rfl rfl rfl ho4 hs4 hM4 (by show (out.length+1)*32<=140737488355328;omega) fun a5 c5 w5 m5 ho5 ev5 hu5 hbk5 hsub5=>?_;refine qa0 (v:=.slice a5 (out++[qbl e]).length c5) rfl rfl rfl ?_;refine jbc ?_;have hu04:Upd [] w w4:=hu03.trans hu4;have hi4:w4.heap[β]?=some (.mapIter (some bm) clock (seen.push e.born) clock):=(hu4.same β (qas hi3) (by simp)).trans hi3;have hb4:w4.heap[bm]?=some (.map es clock):=(hu4.same bm (qas hb3) (by simp)).trans hb3;have hnb:∀b∈blk ao,β<b:=hm2.2.1;have hi5:w5.heap[β]?=some (.mapIter (some bm) clock (seen.push e.born) clock):=(hu5.same β (qas hi4) (fun h=>by have:=hnb β h;omega)).trans hi4;have hb5:w5.heap[bm]?=some (.map es clock):=(hu5.same bm (qas hb4) (fun h=>by have:=hnb bm h;omega)).trans hb4;have hlt4:β<w4.heap.size:=qas hi4;refine⟨((seen.push e.born,out++[qbl e]),(a5,c5,m5)),by show (leftOf es (seen.push e.born)).size<(leftOf es seen).size;omega,⟨⟨hi5,hb5⟩,?_,ho5,⟨hsub5 β hm2.1,fun b hb=>?_,?_⟩,⟨hu5.os.trans hu04.os,hu5.tape.trans hu04.tape,hu5.output.trans hu04.output,jbj hu04.size hu5.size,fun x hx hn=>(hu5.same x (jbf hx hu04.size) (fun h=>by have:=hnb x h;omega)).trans (hu04.same x hx hn)⟩⟩,_,rfl,(by repeat first|exact qbb.refl _ _|refine qbb.upd rfl ?_|refine qbb.upds rfl ?_|refine qbb.mix rfl ?_),rfl,trivial⟩
  ·refine List.Perm.trans ?_ hp2;show List.Perm ((out++[qbl e])++(leftOf es (seen.push e.born)).toList.map qbl) (out++(leftOf es seen).toList.map qbl);rw[ja0];exact List.Perm.append_left out (hlp.map qbl).symm
  ·rcases hbk5 b hb with h|h
   ·exact hnb b h
   ·omega
  ·exact ev5.lo fun b hb=>jbf (hm2.2.2 b hb) (jbj hu3.size hu4.size)
end
end Go.Proofs.YtnhmanoiolfapaaGreat
end

noncomputable section
set_option maxRecDepth 100000
namespace Go.Proofs.YtnhmanoiolfapaaGreat
open Go Go.Sx Go.RowKit Go.Jx
theorem qq7{m:List (Int × ByteArray)}(h:S.mapG m=true):(m.map (·.1)).Nodup/\∀p∈m,(0<=p.1/\p.1<=199)/\p.2.size<=4000:=by
 unfold S.mapG at h;simp only[jae,jb9,jbg] at h;refine⟨h.1,fun p hp=>?_⟩;have:=h.2 p hp;unfold S.inI at this;simp only[jae,jb9] at this;exact⟨this.1,jal this.2⟩
theorem qgu:∀{l:List qaa} {last:Int},S.okGo l last=true->(∀c∈l,last<c.1)/\l.Pairwise (fun a b=>a.1<b.1)
 | [],_,_=>⟨fun c hc=>(by cases hc),List.Pairwise.nil⟩
 | c::l,last,h=>by
  obtain⟨_,_,_,h4,h5⟩:=qbm.1 h;obtain⟨i1,i2⟩:=qgu h5;refine⟨fun x hx=>?_,List.Pairwise.cons i1 i2⟩;rcases jau.1 hx with rfl|hx
  ·exact h4
  ·have:=i1 x hx;omega
theorem q7f{c:qaa}(hg:c.2.2=false):∀{l:List qaa},(∀x∈l,x.1≠c.1)->List.Perm (S.ins1 c l) (c::l)
 | [],_=>by
  show List.Perm (cond c.2.2 [] [c]) _;rw[hg];exact jfm _
 | a::r,h=>by
  show List.Perm (if a.1<c.1 then a::S.ins1 c r else if a.1=c.1 then cond c.2.2 r (c::r) else cond c.2.2 (a::r) (c::a::r)) _;by_cases q1:a.1<c.1
  ·rw[jao q1];exact((q7f hg fun x hx=>h x (ja8 _ hx)).cons a).trans (List.Perm.swap c a r)
  ·rw[jan q1,jan (h a (by simp)),hg];exact jfm _
theorem qz1:∀(m:List (Int × ByteArray)) (c:List qaa),(m.map (·.1)).Nodup->(∀p∈m,((0<=p.1/\p.1<=199)/\p.2.size<=4000)/\∀x∈c,x.1≠p.1)->okS c (-1) ->
  okS (m.foldl (fun c p=>S.ins1 (p.1,p.2,false) c) c) (-1)/\List.Perm (m.foldl (fun c p=>S.ins1 (p.1,p.2,false) c) c) (c++m.map fun p=>(p.1,p.2,false))
 | [],c,_,_,h=>⟨h,by simp⟩
 | p::m,c,hn,hr,h=>by
  obtain⟨n1,n2⟩:=jck.1 hn;have hp:=hr p (by simp);have h1:=q7f (c:=(p.1,p.2,false)) rfl hp.2;have h2:okS (S.ins1 (p.1,p.2,false) c) (-1):=qjy (p.1,p.2,false) hp.1 h (show (-1:Int)<p.1 by have:=hp.1.1.1;omega);obtain⟨i1,i2⟩:=qz1 m (S.ins1 (p.1,p.2,false) c) n2 (fun q hq=>⟨(hr q (ja8 _ hq)).1,fun x hx=>by
   rcases jau.1 (h1.mem_iff.1 hx) with rfl|hx
   ·exact fun e=>n1 (jb8.2 ⟨q,hq,e.symm⟩)
   ·exact(hr q (ja8 _ hq)).2 x hx⟩) h2
  refine⟨i1,i2.trans ?_⟩;refine(h1.append_right _).trans ?_;show List.Perm ((p.1,p.2,false)::(c++m.map fun p=>(p.1,p.2,false))) (c++(p.1,p.2,false)::m.map fun p=>(p.1,p.2,false));exact List.perm_middle.symm
theorem qgt{m:List (Int × ByteArray)}(h:S.mapG m=true):okS (S.listed m) (-1)/\List.Perm (S.listed m) (m.map fun p=>(p.1,p.2,false)):=by
 obtain⟨h1,h2⟩:=qq7 h;exact qz1 m [] h1 (fun p hp=>⟨h2 p hp,fun x hx=>by cases hx⟩) ⟨rfl,fun x hx=>by cases hx⟩
theorem q4w{m:List (Int × ByteArray)}(h:S.mapG m=true):(S.listed m).length=m.length:=(qgt h).2.length_eq.trans (jb3 _)
theorem za8{m:List (Int × ByteArray)}(h:S.mapG m=true):m.length<=200:=by
 obtain⟨h1,h2⟩:=qgt h;have h3:=qtr h1.1 (jbr _);have e:=q4w h;omega
theorem zi9{m:List (Int × ByteArray)}(h:S.mapG m=true){l:List qaa}(hp:List.Perm l (m.map fun p=>(p.1,p.2,false)))(hs:qo9 l):l=S.listed m:=by
 obtain⟨h1,h2⟩:=qgt h;obtain⟨n1,n2⟩:=qq7 h;have hn:(l.map (·.1)).Nodup:=by
  refine(hp.map (·.1)).nodup_iff.2 ?_;rw[jff];exact n1
 have hle:l.Pairwise (fun a b=>¬b.1<a.1):=List.pairwise_iff_getElem.2 fun i j hi hj hij=>hs i j hi hj hij;have hne:l.Pairwise (fun a b=>a.1≠b.1):=List.pairwise_map.1 hn;have hlt:l.Pairwise (fun a b=>a.1<b.1):=(hle.and hne).imp fun⟨a,b⟩=>by omega
 exact List.Perm.eq_of_pairwise (le:=fun a b:qaa=>a.1<b.1) (fun a b _ _ q1 q2=>absurd q1 (by omega)) hlt (qgu h1.1).2 (hp.trans h2.symm)
theorem q8k:∀m:List (Int × ByteArray),(tmEs (.int .i64) .str m).map (·.1)=m.map fun p=>IV.int .i64 p.1
 | []=>rfl
 | p::m=>jav (IV.int .i64 p.1::·) (q8k m)
theorem q47:∀m:List (Int × ByteArray),(tmEs (.int .i64) .str m).map (·.2)=m.map fun p=>IV.str p.2
 | []=>rfl
 | p::m=>jav (IV.str p.2::·) (q47 m)
def usC(L:List qaa)(i j:Nat):Value:=(encC (L.getD i (0,S.none_,false))).getD j .nilFunc
theorem q5d{L:List qaa}{i j:Nat}(h:i<L.length):usC L i j=(encC L[i]).getD j .nilFunc:=by
 unfold usC;rw[jai (l:=L),jac h];rfl
theorem znq(E:Env)(m:List (Int × ByteArray))(us:List Value)(hG:S.mapG m=true)(p:Pre T0 E (Sc qcz.ps ((some m,()):ElP qcz.ps)))(hv:VRs E [.map 0] us) :
  CallsIn Fence.wide 0 Tryz.prog 98 us.toArray E.w (RetB 1 T0 E (Sc qcz.ps ((some m,()):ElP qcz.ps)) ⟨.lst qac (S.listed m),Sc qcz.ps ((some m,()):ElP qcz.ps),0,0⟩):=by
 obtain⟨u,us',rfl,a1,a2⟩:=VRs.inv (v:=.map 0) (cs:=[]) hv;obtain rfl:us'=[]:=jaz.1 a2.1.symm;have hA:E.A 0:=by cases a1;assumption
 have hu:u=.map (some (E.ρ 0)):=by cases a1;rfl
 subst hu;obtain⟨ents,clock,h1,h2,h3,h4⟩:=p.st.objs 0 trivial hA (.tmap (.int .i64) .str m) rfl;have h2:VRs E (m.map fun p=>IV.int .i64 p.1) (ents.toList.map (·.key)):=by
  rw[q8k] at h2;exact h2
 have h3:VRs E (m.map fun p=>IV.str p.2) (ents.toList.map (·.val)):=by
  rw[q47] at h3;exact h3
 have hl2:ents.toList.length=m.length:=by
  have:=h2.1;rw[jb3,jb3] at this;exact this.symm
 have hel:∀i (hi:i<m.length) (hi2:i<ents.toList.length),ents.toList[i].key=.int .i64 (m[i]).1/\ents.toList[i].val=.string (m[i]).2:=fun i hi hi2=>by
  have q1:=h2.2 i (by rw[jb3];exact hi) (by rw[jb3];exact hi2);have q2:=h3.2 i (by rw[jb3];exact hi) (by rw[jb3];exact hi2);simp only[jcb] at q1 q2;constructor
  ·generalize ents.toList[i].key=u at q1;cases q1;rfl
  ·generalize ents.toList[i].val=u at q2;cases q2;rfl
 have hkv:∀e∈ents.toList,e.key=.int .i64 (qbl e).1/\e.val=.string (qbl e).2.1:=fun e he=>by
  obtain⟨i,hi,rfl⟩:=jcq.1 he;obtain⟨q1,q2⟩:=hel i (by omega) hi;unfold qbl;rw[q1,q2];exact⟨rfl,rfl⟩
 have hmap:ents.toList.map qbl=m.map fun p=>(p.1,p.2,false):=by
  apply List.ext_getElem
  ·simp[hl2]
  ·intro i hi1 hi2;rw[jcb,jcb];obtain⟨q1,q2⟩:=hel i (by simpa using hi2) (by simpa using hi1);unfold qbl;rw[q1,q2]
 have hlen:=za8 hG;refine(jdh.2 (zkn h1 h4.1 h4.2 hkv (by rw[<- jdn];omega))).mono fun e w' hR=>?_;cases e with
 | returned v =>
  obtain⟨a',c',l',rfl,⟨hp,hs⟩,⟨hc,hrow⟩,hu⟩:=hR;rw[hmap] at hp;obtain rfl:=zi9 hG hp hs;obtain⟨p1,p2⟩:=Post.idle p hu;refine⟨_,E.at_ w',rfl,rfl,?_,PostB.of (jdl (qig qcz.ps ((some m,()):ElP qcz.ps)).symm) (fun _ _=>trivial) p1 p2⟩;show VR _ (.lst qac (S.listed m)) _;obtain⟨o1,o2⟩:=qgt hG;have hll:(S.listed m).length<=200:=by have:=q4w hG;omega
  generalize hL:S.listed m=L at hc hrow hll o1 o2;cases L with
  | nil=>exact .lst0 hc.2
  | cons c0 L =>
   rcases hrow with h|⟨g,rfl,hg,hcell⟩
   ·cases h
   have h00:=hcell 0 (by simp) 0 (by omega);obtain⟨cells,t,fz,hh⟩:∃cells t fz,w'.heap[g]?=some (.cells cells t fz):=by
    unfold World.cell? at h00;split at h00
    ·rename_i c t fz h;exact⟨c,t,fz,h⟩
    ·cases h00
   have hcell2:∀i (h:i<(c0::L).length) j,j<3->cells[i*3+j]?=(encC (c0::L)[i])[j]?:=fun i h j hj=>by
    rw[<- hcell i h j hj];simp[World.cell?,hh]
   refine VR.lst (E:=E.at_ w') (c:=qac) (l:=c0::L) (off:=0) (cells:=cells) (t:=t) (fz:=fz) (usC (c0::L)) hc.1 hc.2 (by show (c0::L).length*25<=140737488355328;omega) (fun h=>?_) hh (fun i hi j hj=>?_) (fun i hi j hj=>?_)
   ·have:=p.st.lo g h;omega
   ·show cells[0+i*3+j]?=_;have hj:j<3:=hj;have hi:i<(c0::L:List qaa).length:=hi;rw[jbk,hcell2 i hi j hj,q5d hi,jai,jac (show j<(encC ((c0::L:List qaa)[i]'hi)).length from hj)];rfl
   ·have hj:j<3:=hj;have hi:i<(c0::L:List qaa).length:=hi;have hin:(c0::L)[i]∈(c0::L):=jbh hi;have hpm:(c0::L)[i]∈(m.map fun p=>((p.1,p.2,false):qaa)):=by
     exact o2.mem_iff.1 hin
    obtain⟨q,hq,hqe⟩:=jb8.1 hpm;obtain⟨⟨k1,k2⟩,k3⟩:=(qq7 hG).2 q hq;show VR _ (cel qac ((c0::L:List qaa)[i]'hi))[j] (usC (c0::L) i j);rw[q5d hi];have hx:∀(x:qaa) (hx:x=(q.1,q.2,false)) (hj':j<(cel qac x).length),VR (E.at_ w') (cel qac x)[j] ((encC x).getD j .nilFunc):=fun x hx hj'=>by
     subst hx;match j,hj with
     | 0,_=>exact .int .i64 q.1 (qe6 ⟨by omega,by omega⟩)
     | 1,_=>exact .str q.2 (by omega)
     | 2,_=>exact .bool false
    exact hx _ hqe.symm _
 | _=>exact hR.elim
theorem zl5:ConR Tryz.prog 98 qcz:=by
 refine⟨zg4,fun E x us y z hf p hv=>?_⟩;obtain⟨m,u0⟩:=x;cases u0;cases m with
 | none=>cases hf
 | some m =>
 have hf:cond (S.mapG m) (some (((S.listed m,()):ElR qcz.rts),((some m,()):ElP (refs qcz.ps)))) none=some (y,z):=hf;obtain⟨hG,e⟩:=qba hf;obtain⟨rfl,rfl⟩:=Prod.mk.inj e;exact znq E m us hG p hv
abbrev KV:Type:=Int × ByteArray
def ms(k:Int)(v:ByteArray):List KV->List KV
 | []=>[(k,v)]
 | e::es=>if k=e.1 then (k,v)::es else e::ms k v es
def md(k:Int):List KV->List KV
 | []=>[]
 | e::es=>if k=e.1 then es else e::md k es
theorem q2r(k:Int)(v:ByteArray):∀m:List KV,(mset (vc:=.str) (.int .i64) k v m:List KV)=ms k v m
 | []=>rfl
 | e::m=>by
  show cond (decide (k=e.1)) ((k,v)::m) (e::(mset (vc:=.str) (.int .i64) k v m:List KV))=if k=e.1 then (k,v)::m else e::ms k v m
  rw[q2r k v m];by_cases h:k=e.1
  ·rw[jak h,jao h];rfl
  ·rw[jap h,jan h];rfl
theorem q21(k:Int):∀m:List KV,(mdel (vc:=.str) (.int .i64) k m:List KV)=md k m
 | []=>rfl
 | e::m=>by
  show cond (decide (k=e.1)) m (e::(mdel (vc:=.str) (.int .i64) k m:List KV))=if k=e.1 then m else e::md k m
  rw[q21 k m];by_cases h:k=e.1
  ·rw[jak h,jao h];rfl
  ·rw[jap h,jan h];rfl
theorem qp6{k:Int}{v:ByteArray}{p:KV}:∀{m:List KV},(m.map (·.1)).Nodup->(p∈ms k v m↔(p∈m/\p.1≠k)\/p=(k,v))
 | [],_=>by simp[ms]
 | e::m,h=>by
  obtain⟨n1,n2⟩:=jck.1 h;unfold ms;by_cases hk:k=e.1
  ·rw[jao hk];constructor
   ·intro hp;rcases jau.1 hp with rfl|hp
    ·exact .inr rfl
    ·exact .inl ⟨ja8 _ hp,fun e'=>n1 (jb8.2 ⟨p,hp,e'.trans hk⟩)⟩
   ·rintro(⟨hp,hn⟩|rfl)
    ·rcases jau.1 hp with rfl|hp
     ·exact absurd hk.symm hn
     ·exact ja8 _ hp
    ·exact jbz
  ·rw[jan hk];have ih:=qp6 (k:=k) (v:=v) (p:=p) n2;constructor
   ·intro hp;rcases jau.1 hp with rfl|hp
    ·exact .inl ⟨jbz,fun e'=>hk e'.symm⟩
    ·rcases ih.1 hp with ⟨a,b⟩|a
     ·exact .inl ⟨ja8 _ a,b⟩
     ·exact .inr a
   ·rintro(⟨hp,hn⟩|hp)
    ·rcases jau.1 hp with rfl|hp
     ·exact jbz
     ·exact ja8 _ (ih.2 (.inl ⟨hp,hn⟩))
    ·exact ja8 _ (ih.2 (.inr hp))
theorem qq1{k:Int}{p:KV}:∀{m:List KV},(m.map (·.1)).Nodup->(p∈md k m↔p∈m/\p.1≠k)
 | [],_=>by simp[md]
 | e::m,h=>by
  obtain⟨n1,n2⟩:=jck.1 h;unfold md;by_cases hk:k=e.1
  ·rw[jao hk];constructor
   ·intro hp;exact⟨ja8 _ hp,fun e'=>n1 (jb8.2 ⟨p,hp,e'.trans hk⟩)⟩
   ·rintro⟨hp,hn⟩;rcases jau.1 hp with rfl|hp
    ·exact absurd hk.symm hn
    ·exact hp
  ·rw[jan hk];have ih:=qq1 (k:=k) (p:=p) n2;constructor
   ·intro hp;rcases jau.1 hp with rfl|hp
    ·exact⟨jbz,fun e'=>hk e'.symm⟩
    ·exact⟨ja8 _ (ih.1 hp).1,(ih.1 hp).2⟩
   ·rintro⟨hp,hn⟩;rcases jau.1 hp with rfl|hp
    ·exact jbz
    ·exact ja8 _ (ih.2 ⟨hp,hn⟩)
theorem q9t{k:Int}{v:ByteArray}:∀{m:List KV},(m.map (·.1)).Nodup->((ms k v m).map (·.1)).Nodup
 | [],_=>by simp[ms]
 | e::m,h=>by
  obtain⟨n1,n2⟩:=jck.1 h;unfold ms;by_cases hk:k=e.1
  ·rw[jao hk];exact jck.2 ⟨by rw[hk];exact n1,n2⟩
  ·rw[jan hk];refine jck.2 ⟨fun hm=>?_,q9t n2⟩;obtain⟨p,hp,he⟩:=jb8.1 hm;rcases(qp6 n2).1 hp with ⟨a,_⟩|a
   ·exact n1 (jb8.2 ⟨p,a,he⟩)
   ·rw[a] at he;exact hk he
theorem q1q{k:Int}:∀{m:List KV},(m.map (·.1)).Nodup->((md k m).map (·.1)).Nodup
 | [],_=>by simp[md]
 | e::m,h=>by
  obtain⟨n1,n2⟩:=jck.1 h;unfold md;by_cases hk:k=e.1
  ·rw[jao hk];exact n2
  ·rw[jan hk];refine jck.2 ⟨fun hm=>?_,q1q n2⟩;obtain⟨p,hp,he⟩:=jb8.1 hm;exact n1 (jb8.2 ⟨p,((qq1 n2).1 hp).1,he⟩)
theorem qsj{c x:qaa}:∀{l:List qaa} {last:Int},S.okGo l last=true->(x∈S.ins1 c l↔(x∈l/\x.1≠c.1)\/(x=c/\c.2.2=false))
 | [],last,_=>by
  show x∈cond c.2.2 [] [c]↔_;cases c.2.2<;>simp
 | a::r,last,h=>by
  obtain⟨_,_,_,_,h5⟩:=qbm.1 h;have hlt:=(qgu h5).1;have ih:=qsj (c:=c) (x:=x) h5;show x∈(if a.1<c.1 then a::S.ins1 c r else if a.1=c.1 then cond c.2.2 r (c::r) else cond c.2.2 (a::r) (c::a::r))↔_;by_cases q1:a.1<c.1
  ·rw[jao q1,jau,ih,jau];constructor
   ·rintro(rfl|⟨a1,a2⟩|a1)
    ·exact .inl ⟨.inl rfl,by omega⟩
    ·exact .inl ⟨.inr a1,a2⟩
    ·exact .inr a1
   ·rintro(⟨rfl|a1,a2⟩|a1)
    ·exact .inl rfl
    ·exact .inr (.inl ⟨a1,a2⟩)
    ·exact .inr (.inr a1)
  ·rw[jan q1];by_cases q2:a.1=c.1
   ·rw[jao q2];have hr:∀y∈r,y.1≠c.1:=fun y hy=>by have:=hlt y hy;omega
    cases hg:c.2.2 with
    | true =>
     simp only[jaa,jau,jfi,and_false,or_false];constructor
     ·intro hx;exact⟨.inr hx,hr x hx⟩
     ·rintro⟨rfl|a1,a2⟩
      ·exact absurd q2 a2
      ·exact a1
    | false =>
     simp only[jag,jau,and_true];constructor
     ·rintro(rfl|hx)
      ·exact .inr rfl
      ·exact .inl ⟨.inr hx,hr x hx⟩
     ·rintro(⟨rfl|a1,a2⟩|a1)
      ·exact absurd q2 a2
      ·exact .inr a1
      ·exact .inl a1
   ·rw[jan q2];have hr:∀y∈a::r,y.1≠c.1:=fun y hy=>by
     rcases jau.1 hy with rfl|hy
     ·exact q2
     ·have:=hlt y hy;omega
    cases hg:c.2.2 with
    | true =>
     simp only[jaa,jfi,and_false,or_false];exact⟨fun hx=>⟨hx,hr x hx⟩,fun hx=>hx.1⟩
    | false =>
     simp only[jag,and_true];rw[jau];constructor
     ·rintro(rfl|hx)
      ·exact .inr rfl
      ·exact .inl ⟨hx,hr x hx⟩
     ·rintro(⟨a1,_⟩|a1)
      ·exact .inr a1
      ·exact .inl a1
theorem qsr{a b:List qaa}(ha:okS a (-1))(hb:okS b (-1))(h:∀x,x∈a↔x∈b):a=b:=by
 have h1:=(qgu ha.1).2;have h2:=(qgu hb.1).2;have n1:a.Nodup:=h1.imp fun {x y} hxy e=>by subst e;omega
 have n2:b.Nodup:=h2.imp fun {x y} hxy e=>by subst e;omega
 exact List.Perm.eq_of_pairwise (le:=fun a b:qaa=>a.1<b.1) (fun a b _ _ q1 q2=>absurd q1 (by omega)) h1 h2 ((List.perm_ext_iff_of_nodup n1 n2).2 h)
theorem qzq{m:List KV}(h:S.mapG m=true){x:qaa}:x∈S.listed m↔(x.1,x.2.1)∈m/\x.2.2=false:=by
 rw[(qgt h).2.mem_iff,jb8];constructor
 ·rintro⟨p,hp,rfl⟩;exact⟨hp,rfl⟩
 ·rintro⟨hp,hx⟩;exact⟨_,hp,by obtain⟨a,b,c⟩:=x;cases hx;rfl⟩
theorem qzj{m:List KV}(h1:(m.map (·.1)).Nodup)(h2:∀p∈m,(0<=p.1/\p.1<=199)/\p.2.size<=4000):S.mapG m=true:=by
 unfold S.mapG;simp only[jae,jb9,jbg];refine⟨h1,fun p hp=>?_⟩;obtain⟨⟨a,b⟩,c⟩:=h2 p hp;unfold S.inI;simp only[jae,jb9];exact⟨⟨a,b⟩,ja2 c⟩
def qfg(m:List KV)(c:qaa):List KV:=cond c.2.2 (md c.1 m) (ms c.1 c.2.1 m)
theorem zc1{m:List KV}(h:S.mapG m=true){c:qaa}(hc:(0<=c.1/\c.1<=199)/\c.2.1.size<=4000):S.mapG (qfg m c)=true/\S.listed (qfg m c)=S.ins1 c (S.listed m):=by
 obtain⟨n1,n2⟩:=qq7 h;obtain⟨o1,o2⟩:=qgt h;have hG:S.mapG (qfg m c)=true:=by
  unfold qfg;cases c.2.2 with
  | true=>exact qzj (q1q n1) fun p hp=>n2 p ((qq1 n1).1 hp).1
  | false =>
   exact qzj (q9t n1) fun p hp=>by
    rcases(qp6 n1).1 hp with ⟨a,_⟩|rfl
    ·exact n2 p a
    ·exact hc
 refine⟨hG,qsr (qgt hG).1 (qjy c hc o1 (by omega)) fun x=>?_⟩;rw[qzq hG,qsj o1.1,qzq h];unfold qfg;cases hg:c.2.2 with
 | true =>
  rw[jaa,qq1 n1];simp only[jfi,and_false,or_false];exact⟨fun ⟨⟨a,b⟩,c⟩=>⟨⟨a,c⟩,b⟩,fun ⟨⟨a,c⟩,b⟩=>⟨⟨a,b⟩,c⟩⟩
 | false =>
  rw[jag,qp6 n1];simp only[and_true];constructor
  ·rintro⟨⟨a,b⟩|a,d⟩
   ·exact .inl ⟨⟨a,d⟩,b⟩
   ·refine .inr ?_;obtain⟨x1,x2,x3⟩:=x;obtain⟨c1,c2,c3⟩:=c;simp only[jdr] at a d hg ⊢;exact⟨a.1,a.2,d.trans hg.symm⟩
  ·rintro(⟨⟨a,b⟩,d⟩|rfl)
   ·exact⟨.inl ⟨a,d⟩,b⟩
   ·exact⟨.inr rfl,hg⟩
theorem zsu(m:List KV)(l:List qaa):S.applied m l=l.foldl qfg m:=by
 unfold S.applied;have:∀(l:List qaa) (m:List KV),List.foldl (fun(m:List KV) (c:qaa)=>cond c.2.2 (mdel (vc:=.str) (.int .i64) c.1 m:List KV) (mset (vc:=.str) (.int .i64) c.1 c.2.1 m)) m l=l.foldl qfg m:=by
  intro l;induction l with
  | nil=>intro m;rfl
  | cons c l ih =>
   intro m;rw[jdy,jdy,ih];congr 1;unfold qfg;rw[<- q2r,<- q21]
 exact this l m
theorem q3a:∀{l:List qaa} {m:List KV} {last:Int},S.mapG m=true->S.okGo l last=true->S.mapG (S.applied m l)=true/\S.listed (S.applied m l)=S.changed (S.listed m) l
 | [],m,_,h,_=>⟨h,rfl⟩
 | c::l,m,last,h,hl=>by
  obtain⟨h1,h2,h3,h4,h5⟩:=qbm.1 hl;obtain⟨s1,s2⟩:=zc1 h ⟨h1,h2⟩;have ih:=q3a (l:=l) s1 h5;rw[zsu] at ih ⊢;rw[jdy];refine⟨ih.1,ih.2.trans ?_⟩;rw[s2];rfl
theorem qp9{g:Nat->List qaa}(hg:∀k,k<200->g k=[]\/∃c,g k=[c]/\c.1=(k:Int)/\c.2.1.size<=4000/\(c.2.2=true->c.2.1=S.none_)):∀(n s:Nat),s+n<=200->S.okGo ((List.range' s n).flatMap g) ((s:Int)-1)=true
 | 0,s,_=>rfl
 | n+1,s,h=>by
  have ih:=qp9 hg n (s+1) (by omega);rw[show ((s+1:Nat):Int)-1=(s:Int) by omega] at ih;rw[List.range'_succ,jee];rcases hg s (by omega) with e|⟨c,e,h1,h2,h3⟩
  ·rw[e,jcj];exact q15 ih (by omega)
  ·rw[e,List.singleton_append];exact qbm.2 ⟨by omega,h2,h3,by omega,by rw[h1];exact ih⟩
theorem qwm{k:Int}{p:qaa->Bool}:∀{l:List qaa} {last:Int},S.okGo l last=true->(l.filter fun c=>decide (c.1=k)&&p c)=[]\/∃c∈l,c.1=k/\p c=true/\(l.filter fun c=>decide (c.1=k)&&p c)=[c]
 | [],_,_=>.inl rfl
 | c::l,last,h=>by
  have h5:=(qbm.1 h).2.2.2.2;rcases qwm (k:=k) (p:=p) h5 with e|⟨d,d1,d2,d3,e⟩
  ·rw[je5,e];by_cases hc:(decide (c.1=k)&&p c)=true
   ·rw[jao hc];rw[jae] at hc;exact .inr ⟨c,by simp,ja1 hc.1,hc.2,rfl⟩
   ·rw[jan hc];exact .inl rfl
  ·have:=(qgu h5).1 d d1;rw[je5,e,jan]
   ·exact .inr ⟨d,by simp[d1],d2,d3,rfl⟩
   ·rw[jap (by omega),jcw];exact jew
theorem qkb{l:List qaa}{k:Int}:S.namesC l k=true↔∃c∈l,c.1=k:=by
 unfold S.namesC;rw[jdq];exact⟨fun ⟨c,h,e⟩=>⟨c,h,ja1 e⟩,fun ⟨c,h,e⟩=>⟨c,h,jak e⟩⟩
theorem qld{x:qaa}:∀{l m:List qaa} {last:Int},okS m (-1)->S.okGo l last=true->-1<=last->(x∈S.changed m l↔(x∈l/\x.2.2=false)\/(x∈m/\∀c∈l,c.1≠x.1))
 | [],m,_,_,_,_=>by
  show x∈m↔_;simp
 | c::l,m,last,hm,h,hg=>by
  obtain⟨h1,h2,h3,h4,h5⟩:=qbm.1 h;have hlt:=(qgu h5).1;have hi:=qjy c ⟨by omega,by omega⟩ hm (by omega);show x∈S.changed (S.ins1 c m) l↔_;rw[qld hi h5 (by omega),qsj hm.1];constructor
  ·rintro(⟨a,b⟩|⟨⟨a,b⟩|⟨rfl,b⟩,d⟩)
   ·exact .inl ⟨by simp[a],b⟩
   ·refine .inr ⟨a,fun y hy=>?_⟩;rcases jau.1 hy with rfl|hy
    ·exact fun e=>b e.symm
    ·exact d y hy
   ·exact .inl ⟨by simp,b⟩
  ·rintro(⟨a,b⟩|⟨a,d⟩)
   ·rcases jau.1 a with rfl|a
    ·exact .inr ⟨.inr ⟨rfl,b⟩,fun y hy e=>by have:=hlt y hy;omega⟩
    ·exact .inl ⟨a,b⟩
   ·exact .inr ⟨.inl ⟨a,fun e=>d c (by simp) e.symm⟩,fun y hy=>d y (by simp[hy])⟩
theorem qrg{l:List qaa}{last:Int}(h:S.okGo l last=true){x:qaa}(hx:x∈l):(0<=x.1/\x.1<=199)/\x.2.1.size<=4000/\(x.2.2=true->x.2.1=S.none_):=by
 induction l generalizing last with
 | nil=>cases hx
 | cons c l ih =>
  obtain⟨h1,h2,h3,h4,h5⟩:=qbm.1 h;rcases jau.1 hx with rfl|hx
  ·exact⟨h1,h2,h3⟩
  ·exact ih h5 hx
theorem qx3{was l:List qaa}(hw:okS was (-1))(hl:S.okC l=true)(k:Nat):S.afterK was l k=[]\/∃c,S.afterK was l k=[c]/\c.1=(k:Int)/\c.2.1.size<=4000/\(c.2.2=true->c.2.1=S.none_):=by
 unfold S.afterK;by_cases hn:S.namesC l (k:Int)=true
 ·rw[hn,show (was.filter fun c=>decide (c.1=(k:Int))&&!true)=[] from List.filter_eq_nil_iff.2 fun a _=>by simp,jcj];rcases qwm (k:=(k:Int)) (p:=fun c=>!c.2.2) hl with e|⟨c,c1,c2,c3,e⟩
  ·exact .inl e
  ·exact .inr ⟨c,e,c2,(qrg hl c1).2⟩
 ·rw[show (l.filter fun c=>decide (c.1=(k:Int))&&!c.2.2)=[] from List.filter_eq_nil_iff.2 fun a ha=>by
   rw[jap fun e=>hn (qkb.2 ⟨a,ha,e⟩),jcw];exact jew,jbl]
  rcases qwm (k:=(k:Int)) (p:=fun c=>!S.namesC l (k:Int)) hw.1 with e|⟨c,c1,c2,c3,e⟩
  ·exact .inl e
  ·exact .inr ⟨c,e,c2,(qrg hw.1 c1).2⟩
theorem zmw{was l:List qaa}(hw:okS was (-1))(hl:S.okC l=true):S.after was l=S.changed was l:=by
 have hm:∀x,x∈S.after was l↔(x∈l/\x.2.2=false)\/(x∈was/\∀c∈l,c.1≠x.1):=fun x=>by
  unfold S.after;rw[jft];constructor
  ·rintro⟨k,hk,hx⟩;rcases jbn.1 hx with hx|hx
   ·obtain⟨h1,h2⟩:=jcl.1 hx;rw[jae] at h2;refine .inr ⟨h1,fun c hc e=>?_⟩;have:S.namesC l (k:Int)=true:=qkb.2 ⟨c,hc,e.trans (ja1 h2.1)⟩;rw[this] at h2;exact absurd h2.2 (by decide)
   ·obtain⟨h1,h2⟩:=jcl.1 hx;rw[jae] at h2;exact .inl ⟨h1,by have:=h2.2;cases hq:x.2.2 with|false=>rfl|true=>rw[hq] at this;cases this⟩
  ·rintro(⟨h1,h2⟩|⟨h1,h2⟩)
   ·have hr:=(qrg hl h1).1;refine⟨x.1.toNat,jdu.2 (by omega),jb5 _ (jcl.2 ⟨h1,?_⟩)⟩;rw[h2,jak (by omega)];rfl
   ·have hr:=(qrg hw.1 h1).1;refine⟨x.1.toNat,jdu.2 (by omega),jbv _ (jcl.2 ⟨h1,?_⟩)⟩;have:S.namesC l ((x.1.toNat:Nat):Int)=false:=by
     rw[jci];intro e;obtain⟨c,hc,e⟩:=qkb.1 e;exact h2 c hc (by omega)
    rw[this,jak (by omega)];rfl
 have ha:okS (S.after was l) (-1):=by
  refine⟨?_,fun x hx=>?_⟩
  ·have:=qp9 (g:=S.afterK was l) (fun k hk=>?_) 200 0 (by omega)
   ·unfold S.after;rw[jei];exact this
   ·exact qx3 hw hl k
  ·rcases(hm x).1 hx with h|h
   ·exact h.2
   ·exact hw.2 x h.1
 refine qsr ha (qiu hw hl) fun x=>?_;rw[hm,qld hw hl (by omega)]
def qet(l:List DChg):Prop:=∀c∈l,0<=c.2.1/\c.2.1<=255
theorem q3i{α β:Type}(f:α->Option β):∀l:List α,l.filterMap f=l.flatMap fun a=>(f a).toList
 | []=>rfl
 | a::l=>by
  rw[List.filterMap_cons,jee,q3i f l];cases f a<;>rfl
theorem qg5{l:List DChg}(h:qet l):S.okC (S.cells l)=true/\(S.cells l).length<=25:=by
 constructor
 ·have:=qp9 (g:=fun k=>((l.reverse.find? fun c=>decide (c.1 % 25=(k:Int))).map (S.cellOf k)).toList) (fun k hk=>?_) 25 0 (by omega)
  ·unfold S.cells S.okC;rw[jei,q3i];exact this
  ·show Option.toList _=[]\/_;cases hf:l.reverse.find? fun c=>decide (c.1 % 25=(k:Int)) with
   | none=>exact .inl rfl
   | some c =>
    refine .inr ⟨S.cellOf k c,rfl,rfl,?_⟩;have hc:=h c (List.mem_reverse.1 (List.mem_of_find?_eq_some hf));unfold S.cellOf;cases c.2.2.2 with
    | true=>exact⟨jb4 _,fun _=>rfl⟩
    | false =>
     refine⟨?_,fun e=>by cases e⟩;show (qag _).size<=4000;rw[qbh,jbb];omega
 ·unfold S.cells;exact jbj (List.length_filterMap_le _ _) (by rw[jfo];omega)
def S.madeOk(n:Int):Bool:=decide ((S.newDisk n).2=0)&&(decide ((S.format (S.newDisk n).1).2=0)&&(decide ((S.doD (S.newDisk n).1 (S.format (S.newDisk n).1).1).2=0)&&decide ((S.open_ (S.madeD_ n)).2=0)))
theorem zrh:(List.range 17).all (fun k=>S.madeOk (8+2*((k:Nat):Int)))=true:=by kernel_rfl
theorem q79{n:Int}(h:S.evn n=true):(S.newDisk n).2=0/\(S.format (S.newDisk n).1).2=0/\(S.doD (S.newDisk n).1 (S.format (S.newDisk n).1).1).2=0/\(S.open_ (S.madeD_ n)).2=0:=by
 unfold S.evn at h;rw[jae,qbk] at h;have h2:=ja1 h.2;have:=jbg.1 zrh ((n.toNat-8) / 2) (jdu.2 (by omega));rw[show 8+2*((((n.toNat-8) / 2:Nat)):Int)=n by omega] at this;unfold S.madeOk at this;rw[jae,jae,jae] at this;exact⟨ja1 this.1,ja1 this.2.1,ja1 this.2.2.1,ja1 this.2.2.2⟩
def JnR(j:qad):Prop:=∃L h a u c,j=((L,[]),h,((u:Nat):Int),c)/\Jn L h a u c
theorem qxq{n:Int}(h:S.evn n=true):JnR (S.madeN n):=by
 obtain⟨hf,a,u,c,j,_,e⟩:=qxa (q79 h).2.2.2;exact⟨_,hf,a,u,c,jav Prod.fst e,j⟩
theorem q1s{j:qad}(hj:JnR j){l:List DChg}(h:qet l):JnR (S.playStep j l)/\((S.cells l).length=0\/(S.save j (S.cells l)).2=0\/(S.save j (S.cells l)).2=14):=by
 have hk:=qg5 h;unfold S.playStep;by_cases h0:(S.cells l).length=0
 ·rw[jao h0];exact⟨hj,.inl h0⟩
 ·obtain⟨L,hf,a,u,c,rfl,j⟩:=hj;rw[jan h0];rcases qpz j hk.1 h0 (by omega) with ⟨L',h',a',u',e,j',_⟩|⟨e,_⟩
  ·rw[e,jao rfl];exact⟨⟨_,_,_,_,_,rfl,j'⟩,.inr (.inl rfl)⟩
  ·rw[e,jan (by show ¬(14:Int)=0;decide)];exact⟨⟨_,_,_,_,_,rfl,j⟩,.inr (.inr rfl)⟩
theorem qxt:∀{l:List (List DChg)} {j:qad},JnR j->(∀x∈l,qet x)->JnR (l.foldl S.playStep j)
 | [],_,h,_=>h
 | x::l,j,h,hl=>qxt (j:=S.playStep j x) (q1s h (hl x (by simp))).1 fun y hy=>hl y (by simp[hy])
theorem qty{s:Int}(h:0<=s/\s<=255):S.evn (8+2*(s % 17))=true:=by
 unfold S.evn;rw[jae,qbk];exact⟨by omega,jak (by omega)⟩
theorem zd0{s:Int}{l:List (List DChg)}(h:0<=s/\s<=255)(hl:∀x∈l,qet x):JnR (S.played s l):=qxt (qxq (qty h)) hl
def S.ten:ByteArray:=S.lit [48,49,50,51,52,53,54,55,56,57]
def S.hC:List qaa:=[(5,S.ten,false)]
def S.hL:List DAct:=(S.plan S.madeJ S.hC).1
def S.hD:qaf:=(S.doD S.madeJ.1 (S.hL.take 4)).1
def S.hLost:qaf:=(S.crash S.hD [0]).1
def S.hKept:qaf:=(S.crash S.hD [1]).1
def S.hX:qad:=(S.open_ S.hLost).1
def S.hY:qad:=(S.open_ S.hKept).1
def S.hG:List qaa:=[(5,S.none_,true)]
def S.hZ:qad:=(S.commitJ S.hY S.hG).1
def S.hT:qad:=(S.turnJ S.hZ).1
def S.gPlan(j:qad)(l:List qaa):Bool:=S.sameJ j S.madeJ&&S.sameC l S.hC
def S.gDo(d:qaf)(l:List DAct):Bool:=S.sameD d S.madeJ.1&&S.sameA l (S.hL.take 4)
def S.isZ(k:List Int):Bool:=decide (k=[0])
def S.gCrash(d:qaf)(k:List Int):Bool:=S.sameD d S.hD&&(decide (k=[0])||decide (k=[1]))
def S.hCr(k:List Int):qaf:=cond (S.isZ k) S.hLost S.hKept
def S.gOpen(d:qaf):Bool:=S.sameD d S.hLost||S.sameD d S.hKept
def S.hOp(d:qaf):qad:=cond (S.sameD d S.hLost) S.hX S.hY
def S.gCom(j:qad)(l:List qaa):Bool:=S.sameJ j S.hY&&S.sameC l S.hG
def S.gZ(j:qad):Bool:=S.sameJ j S.hZ
def qz6:Sm:=⟨[qae,.list qac],[(true,cAct),(false,.int .i64)],fun x=>cond (S.gPlan x.1 x.2.1) (some (S.hL,(0:Int),())) none⟩
def q1n:Sm:=⟨[qam,.list cAct],[(false,qam),(false,.int .i64)],fun x=>cond (S.gDo x.1 x.2.1) (some (S.hD,(0:Int),())) none⟩
def q1z:Sm:=⟨[qam,.list (.int .i64)],[(false,qam),(false,.int .i64)],fun x=>cond (S.gCrash x.1 x.2.1) (some (S.hCr x.2.1,(0:Int),())) none⟩
def qyy:Sm:=⟨[qam],[(false,qae),(false,.int .i64)],fun x=>cond (S.gOpen x.1) (some (S.hOp x.1,(0:Int),())) none⟩
def q0w:Sm:=⟨[qae,.list qac],[(false,qae),(false,.int .i64)],fun x=>cond (S.gCom x.1 x.2.1) (some (S.hZ,(0:Int),())) none⟩
def qya:Sm:=⟨[qae],[(false,.int .i64),(false,.int .i64)],fun x=>cond (S.gZ x.1) (some ((0:Int),(0:Int),())) none⟩
def qyk:Sm:=⟨[qae],[(false,qae),(false,.int .i64)],fun x=>cond (S.gZ x.1) (some (S.hT,(0:Int),())) none⟩
abbrev qrn:Type:=Bool × Unit
abbrev zft:Nat:=9
def zj8(lf:Nat):Option qrn:=(match (cond (S.inI (Int.ofNat 8) (Int.ofNat 8) (Int.ofNat 8)) (some (S.madeJ,(true,()))) none) with|none=>none|some v0=>(cond (Bool.not v0.2.1) (some (false,())) (match (cond (S.gPlan ((v0.1.1.1,v0.1.1.2),(v0.1.2.1,(v0.1.2.2.1,v0.1.2.2.2))) (List.cons ((Int.ofNat 5),((S.lit [48,49,50,51,52,53,54,55,56,57]),false)) [])) (some (S.hL,((Int.ofNat 0),()))) none) with|none=>none|some v1=>(cond (Bool.not (ieqI v1.2.1 (Int.ofNat 0))) (some (false,())) (cond (Bool.not (ieqI (Int.ofNat v1.1.length) (Int.ofNat 5))) (some (false,())) (match (jget v1.1 (Int.ofNat 0)) with|none=>none|some v2=>(match (GetElem?.getElem? v1.1 0) with|none=>none|some v3=>(cond (Bool.not (ieqI v3.2.1 (Int.ofNat 2))) (some (false,())) (match (jget v1.1 (Int.ofNat 1)) with|none=>none|some v4=>(match (GetElem?.getElem? v1.1 1) with|none=>none|some v5=>(cond (Bool.not (ieqI v5.2.1 (Int.ofNat 3))) (some (false,())) (match (jget v1.1 (Int.ofNat 2)) with|none=>none|some v6=>(match (GetElem?.getElem? v1.1 2) with|none=>none|some v7=>(cond (Bool.not v7.1) (some (false,())) (match (jget v1.1 (Int.ofNat 3)) with|none=>none|some v8=>(match (GetElem?.getElem? v1.1 3) with|none=>none|some v9=>(cond (Bool.not (ieqI v9.2.1 (Int.ofNat 2))) (some (false,())) (cond (Bool.not (ieqI v0.1.2.1 (Int.ofNat 0))) (some (false,())) (cond (Bool.not (ieqI v0.1.2.2.1 (Int.ofNat 1))) (some (false,())) (cond (Bool.not (ieqI (Int.ofNat v0.1.2.2.2.length) (Int.ofNat 0))) (some (false,())) (cond (lchk (Int.ofNat 0) (Int.ofNat 4) (Int.ofNat v1.1.length) (Int.ofNat v1.1.length)) (match (cond (S.gDo (v0.1.1.1,v0.1.1.2) (lsub v1.1 (Int.ofNat 0) (Int.ofNat 4))) (some (S.hD,((Int.ofNat 0),()))) none) with|none=>none|some v10=>(match (cond (S.gCrash (v10.1.1,v10.1.2) [(Int.ofNat 0)]) (some ((S.hCr [(Int.ofNat 0)]),((Int.ofNat 0),()))) none) with|none=>none|some v11=>(match (cond (S.gCrash (v10.1.1,v10.1.2) [(Int.ofNat 1)]) (some ((S.hCr [(Int.ofNat 1)]),((Int.ofNat 0),()))) none) with|none=>none|some v12=>(match (cond (S.gOpen (v11.1.1,v11.1.2)) (some ((S.hOp (v11.1.1,v11.1.2)),((Int.ofNat 0),()))) none) with|none=>none|some v13=>(match (cond (S.gOpen (v12.1.1,v12.1.2)) (some ((S.hOp (v12.1.1,v12.1.2)),((Int.ofNat 0),()))) none) with|none=>none|some v14=>(cond (Bool.not (ieqI v10.2.1 (Int.ofNat 0))) (some (false,())) (cond (Bool.not (ieqI v11.2.1 (Int.ofNat 0))) (some (false,())) (cond (Bool.not (ieqI v12.2.1 (Int.ofNat 0))) (some (false,())) (cond (Bool.not (ieqI v13.2.1 (Int.ofNat 0))) (some (false,())) (cond (Bool.not (ieqI v14.2.1 (Int.ofNat 0))) (some (false,())) (cond (Bool.not (ieqI (Int.ofNat v13.1.2.2.2.length) (Int.ofNat 0))) (some (false,())) (cond (Bool.not (ieqI (Int.ofNat v14.1.2.2.2.length) (Int.ofNat 1))) (some (false,())) (match (jget v14.1.2.2.2 (Int.ofNat 0)) with|none=>none|some v15=>(cond (Bool.not (keqS v15.2.1 (S.lit [48,49,50,51,52,53,54,55,56,57]))) (some (false,())) (match (cond (S.gCom ((v14.1.1.1,v14.1.1.2),(v14.1.2.1,(v14.1.2.2.1,v14.1.2.2.2))) (List.cons ((Int.ofNat 5),((S.lit []),true)) [])) (some (S.hZ,((Int.ofNat 0),()))) none) with|none=>none|some v16=>(match (cond (S.gZ ((v16.1.1.1,v16.1.1.2),(v16.1.2.1,(v16.1.2.2.1,v16.1.2.2.2)))) (some ((Int.ofNat 0),((Int.ofNat 0),()))) none) with|none=>none|some v17=>(match (cond (S.gZ ((v16.1.1.1,v16.1.1.2),(v16.1.2.1,(v16.1.2.2.1,v16.1.2.2.2)))) (some (S.hT,((Int.ofNat 0),()))) none) with|none=>none|some v18=>(cond (ieqI v16.2.1 (Int.ofNat 0)) (cond (ieqI v17.2.1 (Int.ofNat 0)) (cond (ieqI v18.2.1 (Int.ofNat 0)) (cond (ieqI v17.1 (Int.ofNat 0)) (cond (ieqI v18.1.2.1 (Int.ofNat 1)) (cond (ieqI v18.1.2.2.1 (Int.ofNat 1)) (some ((ieqI (Int.ofNat v18.1.2.2.2.length) (Int.ofNat 0)),())) (some (false,()))) (some (false,()))) (some (false,()))) (some (false,()))) (some (false,()))) (some (false,())))))))))))))))))))) none)))))))))))))))))))))
def qtm(lf:Nat):Option qrn:=zj8 lf
theorem zr2{g:ElA []->Option qrn}(hsm:SmOK Tryz.prog [(52,q4r),(22,spz6),(24,qz6),(32,q1n),(34,q1z),(13,qyy),(26,q0w),(20,qya),(41,qyk)])(hg:∀(x:ElA []) (y:qrn),WfA [] x->g x=some y->∃lf,qtm lf=some y):Con Tryz.prog 9 ⟨[],[(false,.bool)],g⟩ :=
 conU (fi:=fi9) (hxl:=[]) (fun lf x=>qtm lf) cm3 cal9 trivial hsm hg
abbrev qrc:Type:=qad × Bool × Unit
abbrev q8s:Nat:=52
def qwr(lf:Nat)(x1:Int):Option qrc:=(cond (ieqI (S.newDisk x1).2 (Int.ofNat 0)) (cond (ieqI (S.format ((S.newDisk x1).1.1,(S.newDisk x1).1.2)).2 (Int.ofNat 0)) (cond (ieqI (S.doD ((S.newDisk x1).1.1,(S.newDisk x1).1.2) (S.format ((S.newDisk x1).1.1,(S.newDisk x1).1.2)).1).2 (Int.ofNat 0)) (some ((((S.open_ ((S.doD ((S.newDisk x1).1.1,(S.newDisk x1).1.2) (S.format ((S.newDisk x1).1.1,(S.newDisk x1).1.2)).1).1.1,(S.doD ((S.newDisk x1).1.1,(S.newDisk x1).1.2) (S.format ((S.newDisk x1).1.1,(S.newDisk x1).1.2)).1).1.2)).1.1.1,(S.open_ ((S.doD ((S.newDisk x1).1.1,(S.newDisk x1).1.2) (S.format ((S.newDisk x1).1.1,(S.newDisk x1).1.2)).1).1.1,(S.doD ((S.newDisk x1).1.1,(S.newDisk x1).1.2) (S.format ((S.newDisk x1).1.1,(S.newDisk x1).1.2)).1).1.2)).1.1.2),((S.open_ ((S.doD ((S.newDisk x1).1.1,(S.newDisk x1).1.2) (S.format ((S.newDisk x1).1.1,(S.newDisk x1).1.2)).1).1.1,(S.doD ((S.newDisk x1).1.1,(S.newDisk x1).1.2) (S.format ((S.newDisk x1).1.1,(S.newDisk x1).1.2)).1).1.2)).1.2.1,((S.open_ ((S.doD ((S.newDisk x1).1.1,(S.newDisk x1).1.2) (S.format ((S.newDisk x1).1.1,(S.newDisk x1).1.2)).1).1.1,(S.doD ((S.newDisk x1).1.1,(S.newDisk x1).1.2) (S.format ((S.newDisk x1).1.1,(S.newDisk x1).1.2)).1).1.2)).1.2.2.1,(S.open_ ((S.doD ((S.newDisk x1).1.1,(S.newDisk x1).1.2) (S.format ((S.newDisk x1).1.1,(S.newDisk x1).1.2)).1).1.1,(S.doD ((S.newDisk x1).1.1,(S.newDisk x1).1.2) (S.format ((S.newDisk x1).1.1,(S.newDisk x1).1.2)).1).1.2)).1.2.2.2))),((ieqI (S.open_ ((S.doD ((S.newDisk x1).1.1,(S.newDisk x1).1.2) (S.format ((S.newDisk x1).1.1,(S.newDisk x1).1.2)).1).1.1,(S.doD ((S.newDisk x1).1.1,(S.newDisk x1).1.2) (S.format ((S.newDisk x1).1.1,(S.newDisk x1).1.2)).1).1.2)).2 (Int.ofNat 0)),()))) (some ((((S.open_ ((S.doD ((S.newDisk x1).1.1,(S.newDisk x1).1.2) (S.format ((S.newDisk x1).1.1,(S.newDisk x1).1.2)).1).1.1,(S.doD ((S.newDisk x1).1.1,(S.newDisk x1).1.2) (S.format ((S.newDisk x1).1.1,(S.newDisk x1).1.2)).1).1.2)).1.1.1,(S.open_ ((S.doD ((S.newDisk x1).1.1,(S.newDisk x1).1.2) (S.format ((S.newDisk x1).1.1,(S.newDisk x1).1.2)).1).1.1,(S.doD ((S.newDisk x1).1.1,(S.newDisk x1).1.2) (S.format ((S.newDisk x1).1.1,(S.newDisk x1).1.2)).1).1.2)).1.1.2),((S.open_ ((S.doD ((S.newDisk x1).1.1,(S.newDisk x1).1.2) (S.format ((S.newDisk x1).1.1,(S.newDisk x1).1.2)).1).1.1,(S.doD ((S.newDisk x1).1.1,(S.newDisk x1).1.2) (S.format ((S.newDisk x1).1.1,(S.newDisk x1).1.2)).1).1.2)).1.2.1,((S.open_ ((S.doD ((S.newDisk x1).1.1,(S.newDisk x1).1.2) (S.format ((S.newDisk x1).1.1,(S.newDisk x1).1.2)).1).1.1,(S.doD ((S.newDisk x1).1.1,(S.newDisk x1).1.2) (S.format ((S.newDisk x1).1.1,(S.newDisk x1).1.2)).1).1.2)).1.2.2.1,(S.open_ ((S.doD ((S.newDisk x1).1.1,(S.newDisk x1).1.2) (S.format ((S.newDisk x1).1.1,(S.newDisk x1).1.2)).1).1.1,(S.doD ((S.newDisk x1).1.1,(S.newDisk x1).1.2) (S.format ((S.newDisk x1).1.1,(S.newDisk x1).1.2)).1).1.2)).1.2.2.2))),(false,())))) (some ((((S.open_ ((S.doD ((S.newDisk x1).1.1,(S.newDisk x1).1.2) (S.format ((S.newDisk x1).1.1,(S.newDisk x1).1.2)).1).1.1,(S.doD ((S.newDisk x1).1.1,(S.newDisk x1).1.2) (S.format ((S.newDisk x1).1.1,(S.newDisk x1).1.2)).1).1.2)).1.1.1,(S.open_ ((S.doD ((S.newDisk x1).1.1,(S.newDisk x1).1.2) (S.format ((S.newDisk x1).1.1,(S.newDisk x1).1.2)).1).1.1,(S.doD ((S.newDisk x1).1.1,(S.newDisk x1).1.2) (S.format ((S.newDisk x1).1.1,(S.newDisk x1).1.2)).1).1.2)).1.1.2),((S.open_ ((S.doD ((S.newDisk x1).1.1,(S.newDisk x1).1.2) (S.format ((S.newDisk x1).1.1,(S.newDisk x1).1.2)).1).1.1,(S.doD ((S.newDisk x1).1.1,(S.newDisk x1).1.2) (S.format ((S.newDisk x1).1.1,(S.newDisk x1).1.2)).1).1.2)).1.2.1,((S.open_ ((S.doD ((S.newDisk x1).1.1,(S.newDisk x1).1.2) (S.format ((S.newDisk x1).1.1,(S.newDisk x1).1.2)).1).1.1,(S.doD ((S.newDisk x1).1.1,(S.newDisk x1).1.2) (S.format ((S.newDisk x1).1.1,(S.newDisk x1).1.2)).1).1.2)).1.2.2.1,(S.open_ ((S.doD ((S.newDisk x1).1.1,(S.newDisk x1).1.2) (S.format ((S.newDisk x1).1.1,(S.newDisk x1).1.2)).1).1.1,(S.doD ((S.newDisk x1).1.1,(S.newDisk x1).1.2) (S.format ((S.newDisk x1).1.1,(S.newDisk x1).1.2)).1).1.2)).1.2.2.2))),(false,())))) (some ((((S.open_ ((S.doD ((S.newDisk x1).1.1,(S.newDisk x1).1.2) (S.format ((S.newDisk x1).1.1,(S.newDisk x1).1.2)).1).1.1,(S.doD ((S.newDisk x1).1.1,(S.newDisk x1).1.2) (S.format ((S.newDisk x1).1.1,(S.newDisk x1).1.2)).1).1.2)).1.1.1,(S.open_ ((S.doD ((S.newDisk x1).1.1,(S.newDisk x1).1.2) (S.format ((S.newDisk x1).1.1,(S.newDisk x1).1.2)).1).1.1,(S.doD ((S.newDisk x1).1.1,(S.newDisk x1).1.2) (S.format ((S.newDisk x1).1.1,(S.newDisk x1).1.2)).1).1.2)).1.1.2),((S.open_ ((S.doD ((S.newDisk x1).1.1,(S.newDisk x1).1.2) (S.format ((S.newDisk x1).1.1,(S.newDisk x1).1.2)).1).1.1,(S.doD ((S.newDisk x1).1.1,(S.newDisk x1).1.2) (S.format ((S.newDisk x1).1.1,(S.newDisk x1).1.2)).1).1.2)).1.2.1,((S.open_ ((S.doD ((S.newDisk x1).1.1,(S.newDisk x1).1.2) (S.format ((S.newDisk x1).1.1,(S.newDisk x1).1.2)).1).1.1,(S.doD ((S.newDisk x1).1.1,(S.newDisk x1).1.2) (S.format ((S.newDisk x1).1.1,(S.newDisk x1).1.2)).1).1.2)).1.2.2.1,(S.open_ ((S.doD ((S.newDisk x1).1.1,(S.newDisk x1).1.2) (S.format ((S.newDisk x1).1.1,(S.newDisk x1).1.2)).1).1.1,(S.doD ((S.newDisk x1).1.1,(S.newDisk x1).1.2) (S.format ((S.newDisk x1).1.1,(S.newDisk x1).1.2)).1).1.2)).1.2.2.2))),(false,()))))
def qio(lf:Nat)(x1:Int):Option qrc:=qwr lf x1
theorem q44{g:ElA [(.int .i64)]->Option qrc}(hsm:SmOK Tryz.prog [(28,q6g),(11,qz5),(32,qvx),(13,q3r)])(hg:∀(x:ElA [(.int .i64)]) (y:qrc),WfA [(.int .i64)] x->g x=some y->∃lf,qio lf x.1=some y):Con Tryz.prog 52 ⟨[(.int .i64)],[(false,qae),(false,.bool)],g⟩ :=
 conU (fi:=fi52) (hxl:=[]) (fun lf x=>qio lf x.1) cm3 zqq trivial hsm hg
theorem qyb(a b:Nat):(!iltI (Int.ofNat a) (Int.ofNat b))=Nat.ble b a:=by
 rw[qce,jcu,jca,jev,Nat.ble_eq];omega
theorem zng:(S.newDisk 8).2=0/\(S.format (S.newDisk 8).1).2=0/\(S.doD (S.newDisk 8).1 (S.format (S.newDisk 8).1).1).2=0/\(S.open_ S.madeD).2=0:=by
 refine⟨?_,?_,?_,?_⟩<;>kernel_rfl
theorem ztm(lf:Nat):qio lf 8=some (S.madeJ,true,()):=by
 obtain⟨h1,h2,h3,h4⟩:=zng;simp only[qio,qwr];show cond (ieqI (S.newDisk 8).2 _) (cond (ieqI (S.format (S.newDisk 8).1).2 _) (cond (ieqI (S.doD (S.newDisk 8).1 (S.format (S.newDisk 8).1).1).2 _) (some ((S.open_ S.madeD).1,ieqI (S.open_ S.madeD).2 _,())) _) _) _=_;rw[h1,h2,h3,h4];rfl
abbrev qrl:Type:=ByteArray × Unit
abbrev zei:Nat:=54
def zjo(lf:Nat):Option qrl:=(match (cond (S.oneN (S.lit [0]) (Int.ofNat 64)) (some (S.blank,())) none) with|none=>none|some v0=>(some (v0.1,())))
def q4i(lf:Nat):Option qrl:=zjo lf
theorem zm8{g:ElA []->Option qrl}(hsm:SmOK Tryz.prog [(90,q8l)])(hg:∀(x:ElA []) (y:qrl),WfA [] x->g x=some y->∃lf,q4i lf=some y):Con Tryz.prog 54 ⟨[],[(false,.str)],g⟩ :=
 conU (fi:=fi54) (hxl:=[]) (fun lf x=>q4i lf) cm3 zof trivial hsm hg
def qkp:Nat->Option Nm:=fun k=>cond (Nat.beq k 4) (some ⟨[0,1,12,13],[],[],[],[],0,0,false⟩) (none)
def qkl:Nat->Bool:=fun k=>cond (Nat.beq k 4) true (false)
def q4l:=qkl
abbrev qc2:Type:=Bool × Unit
def qzi:List (Nat × Sm):=[]
def q2a:List (Nat × Hx):=[]
def quz(R:Type)(lf:Nat):ClK R:=qa2 Tryz.prog ttT.get ftT.get (nm1 100 qkp) (smL qzi) (hxL q2a) lf 20 R
abbrev zg9:Nat:=100
def qhl(x1:(List qaa))(x2:(List qaa))(p:Int):NRes:=(NRes.mk (.node (some (IV.lst qac x1)) (.node (some (IV.lst qac x2)) .leaf (.node none .leaf (.node (some (IV.int .i64 p)) .leaf .leaf))) (.node none (.node none .leaf (.node (some (IV.int .i64 (Int.ofNat x1.length))) .leaf .leaf)) .leaf)) (IS.mk .leaf 0) [] 0)
def qv5(lf:Nat)(x1:(List qaa))(x2:(List qaa))(L4:Int->Option qc2):Option qc2:=(cond (Bool.not (ieqI (Int.ofNat x1.length) (Int.ofNat x2.length))) (some (false,())) (L4 (Int.ofNat 0)))
def qpf(lf:Nat)(x1:(List qaa))(x2:(List qaa))(L4:Int->Option qc2)(p:Int):Option qc2:=(cond (iltI p (Int.ofNat x1.length)) (match (jget x1 p) with|none=>none|some v0=>(match (jget x2 p) with|none=>none|some v1=>(cond (Bool.not (Bool.and (keqI v0.1 v1.1) (Bool.and (keqS v0.2.1 v1.2.1) (Bool.and (keqB v0.2.2 v1.2.2) true)))) (some (false,())) (L4 (IntKind.i64.wrap (Int.add p (Int.ofNat 1))))))) (some (true,())))
abbrev gz19:Type:=ElA [(.list qac),(.list qac)]->Option qc2
abbrev sz19(g:gz19):Sm:=⟨[(.list qac),(.list qac)],[(false,.bool)],g⟩
abbrev Ez19(g:gz19)(J:JT qc2)(lf:Nat)(x1:(List qaa))(x2:(List qaa)):=qbq Tryz.prog ttT.get qkp qd5.nt (quz _ lf) lf qkl J qd5.body [] (qaz (argV [(.list qac),(.list qac)] (x1,x2,())) 0 .leaf) S0 [] (qay ttT.get qd5 (sz19 g))
abbrev Bz19(g:gz19)(J:JT qc2)(lf k:Nat)(ms:List Nat)(q:NRes):=qb1 Tryz.prog ttT.get qkp qd5.nt (quz _ lf) lf qkl J k qd5.body [] ms q (qay ttT.get qd5 (sz19 g))
theorem zph(g:gz19)(J:JT qc2)(lf:Nat)(x1:(List qaa))(x2:(List qaa)):Ez19 g J lf x1 x2=qv5 lf x1 x2 (fun q=>J 4 [lf] (qhl x1 x2 q)):=by kernel_rfl
theorem zta(g:gz19)(J:JT qc2)(lf:Nat)(x1:(List qaa))(x2:(List qaa))(m1:Nat)(p:Int):Bz19 g J lf 4 [m1] (qhl x1 x2 p)=qpf lf x1 x2 (fun q=>J 4 [m1] (qhl x1 x2 q)) p:=by kernel_rfl
theorem q55:(regs qd5.body).Nodup:=by decide +kernel
theorem qy4:okC qkp qkl q4l qd5.body none=true:=by kernel_rfl
def Az19(g:gz19)(lf:Nat):JT qc2:=atN Tryz.prog ttT.get qkp qd5 (sz19 g) (quz _ lf) lf q4l
def qpm(lf:Nat)(x1:(List qaa))(x2:(List qaa)):Nat->(Int)->Option qc2:=qa1 fun K p=>qpf lf x1 x2 K p
theorem q32(g:gz19)(lf:Nat)(x1:(List qaa))(x2:(List qaa)):∀(n:Nat) (p:Int),Az19 g lf 4 [n] (qhl x1 x2 p)=qpm lf x1 x2 n p
 | 0,p=>qbn 4 [0] rfl _
 | n+1,p=>by
  have ih:=q32 g lf x1 x2 n;refine(qbp (qa5 20 _) q55 qy4 4 [n+1] [n] rfl _).trans ((zta g (Az19 g lf) lf x1 x2 n p).trans ?_);rw[(show (fun q=>Az19 g lf 4 [n] (qhl x1 x2 q))=(fun q=>qpm lf x1 x2 n q) from funext ih)];rfl
def Fz19(lf:Nat)(x1:(List qaa))(x2:(List qaa)):Option qc2:=qv5 lf x1 x2 (fun q=>qpm lf x1 x2 lf q)
theorem zar(g:gz19)(lf:Nat)(x1:(List qaa))(x2:(List qaa)):Ez19 g (Az19 g lf) lf x1 x2=Fz19 lf x1 x2:=by
  refine(zph g (Az19 g lf) lf x1 x2).trans ?_;rw[(show (fun q=>Az19 g lf 4 [lf] (qhl x1 x2 q))=(fun q=>qpm lf x1 x2 lf q) from funext fun q=>q32 g lf x1 x2 lf q)];rfl
theorem zjk:qa9 Tryz.prog q2a:=trivial
theorem zs0{g:gz19}(hsm:SmOK Tryz.prog qzi)(hg:∀(x:ElA [(.list qac),(.list qac)]) (y:qc2),WfA [(.list qac),(.list qac)] x->g x=some y->∃lf,Fz19 lf x.1 x.2.1=some y):Con Tryz.prog 100 ⟨[(.list qac),(.list qac)],[(false,.bool)],g⟩ :=
 conV (st:=qkl) (fun lf x=>Fz19 lf x.1 x.2.1) cm3 zr4 zjk q55 qy4 (fun lf x=>zar g lf x.1 x.2.1) hsm hg
theorem znd{j:qad}(h:S.turG j=true):S.smallJ j=true/\S.pk j.2.2.2=true/\(j.2.1=0\/j.2.1=1)/\8<=j.1.1.length:=by
 unfold S.turG at h;rw[jae,jae,jae,qbk] at h;exact⟨h.1,h.2.1,by omega,jal h.2.2.2⟩
theorem zkp(lf:Nat)(j:qad)(h:S.turG j=true):qnf lf j=some ((S.actsB (S.turn j)).1,(S.actsB (S.turn j)).2,()):=by
 obtain⟨hs,hp,hh,hge⟩:=znd h;obtain⟨h1,h2,_,_⟩:=qtq hs;have hpl:=q25 hp 1;have hpos:=qfe j.2.2.2 1;have hp0:(S.packed j.2.2.2 0).length=(S.packed j.2.2.2 1).length:=by rw[qcx,qcx]
 obtain⟨b,e1,e2,e3,_,_⟩:=qit h2 hge (h:=1-j.2.1) (by omega);have hw:IntKind.i64.wrap (Int.sub (Int.ofNat 1) j.2.1)=1-j.2.1:=wrap_in (by show -_<=(1:Int)-j.2.1/\(1:Int)-j.2.1<_;omega);have hw2:IntKind.i64.wrap (Int.sub ((b+(j.1.1.length / 2-1):Nat):Int) (b:Int))=Int.ofNat (j.1.1.length / 2-1):=by
  have:Int.sub ((b+(j.1.1.length / 2-1):Nat):Int) (b:Int)=Int.ofNat (j.1.1.length / 2-1):=by
   show ((b+(j.1.1.length / 2-1):Nat):Int)-(b:Int)=((j.1.1.length / 2-1:Nat):Int);omega
  rw[this];exact qbz (by omega)
 simp only[qnf,q9l,hw];rw[hp,jaa];simp only;rw[show S.inI (Int.ofNat j.1.1.length) (Int.ofNat 0) (Int.ofNat 1000)=true from qbk.2 ⟨jb0 _,by show (j.1.1.length:Int)<=1000;omega⟩,jaa];simp only;rw[show Int.toNat (Int.ofNat j.1.1.length)=j.1.1.length from rfl,e1];simp only[hw2];by_cases c0:j.1.1.length / 2-1<(S.packed j.2.2.2 1).length
 ·have hn:S.turn j=none:=q5w (by rw[e1];show ((b+(j.1.1.length / 2-1):Nat):Int)-(b:Int)<((S.packed j.2.2.2 1).length:Int);omega);rw[qev (show Int.ofNat (j.1.1.length / 2-1)<Int.ofNat (S.packed j.2.2.2 (Int.ofNat 1)).length from jfw.2 c0),jaa,hn];rfl
 have hsome:S.turn j=some (turA j.1.1 (1-j.2.1) b j.2.2.2):=by
  rw[q8e (by rw[e1];show ¬((b+(j.1.1.length / 2-1):Nat):Int)-(b:Int)<((S.packed j.2.2.2 1).length:Int);omega),e1];have:(((b+(j.1.1.length / 2-1):Nat):Int)-(b:Int)).toNat=j.1.1.length / 2-1:=by omega
  simp only[this];rfl
 rw[qfp (show ¬Int.ofNat (j.1.1.length / 2-1)<Int.ofNat (S.packed j.2.2.2 (Int.ofNat 1)).length from fun h=>c0 (jfw.1 h)),jag,hsome];unfold turA;have hR:(S.puts (b:Int) (List.replicate (j.1.1.length / 2-1) S.blank)).length<=1000:=by rw[qlm,jbb];omega
 have w2:IntKind.i64.wrap (Int.add (b:Int) (Int.ofNat 1))=((b+1:Nat):Int):=qbz (n:=b+1) (by omega);have hsz:=qir j.2.2.2 1 _ (qi6 (i:=0) (show 0<(S.packed j.2.2.2 1).length by omega));have l1:lchk (Int.ofNat 1) (Int.ofNat (S.packed j.2.2.2 1).length) (Int.ofNat (S.packed j.2.2.2 1).length) (Int.ofNat (S.packed j.2.2.2 1).length)=true:=qb3.2 ⟨by decide,by show (1:Int)<=((S.packed j.2.2.2 1).length:Int);omega,jbr _,jbr _⟩;have hdl:Nat.ble ((S.packed j.2.2.2 1).drop 1).length 1000000=true:=ja2 (by rw[ja7];omega);have hpl0:(S.puts (b:Int) (S.packed j.2.2.2 0)).length<=20000:=by rw[qlm];omega
 have hj0:jget (S.packed j.2.2.2 (Int.ofNat 1)) (Int.ofNat 0)=some ((S.packed j.2.2.2 1).getD 0 S.none_):=qnz hpos;have hg0:(S.packed j.2.2.2 (Int.ofNat 1))[0]?=some ((S.packed j.2.2.2 1).getD 0 S.none_):=get0 hpos;have htop:ByteArray.append (qag [IntKind.u8.wrap (1-j.2.1)]) (qag (List.replicate 63 0))=topS (1-j.2.1):=by
  rw[qek,qkh,show (1-j.2.1) % 256=1-j.2.1 by omega];rfl
 rw[show S.inI (Int.ofNat (j.1.1.length / 2-1)) (Int.ofNat 0) (Int.ofNat 1000)=true from qbk.2 ⟨jb0 _,by show ((j.1.1.length / 2-1:Nat):Int)<=1000;omega⟩,jaa];simp only[show Int.toNat (Int.ofNat (j.1.1.length / 2-1))=j.1.1.length / 2-1 from rfl,in0 (show b<=1000000 by omega),w2,in0 (show b+1<=1000000 by omega),jb1,Bool.and_true,q2q,jcj,hj0,hg0,hsz,decide_true,jaa,unm2,zp8];rw[ja2 (show (List.replicate (j.1.1.length / 2-1) S.blank).length<=1000000 by rw[jbb];omega),jaa];simp only;generalize S.puts (b:Int) (List.replicate (j.1.1.length / 2-1) S.blank)=X at hR;rw[qch (show X.length<=4000000 by omega),jaa];simp only;rw[qch (show (X++[S.sync]).length<=1000000 by rw[jah];show _+1<=_;omega),jaa];simp only
 rw[show lchk (Int.ofNat 1) (Int.ofNat (S.packed j.2.2.2 (Int.ofNat 1)).length) (Int.ofNat (S.packed j.2.2.2 (Int.ofNat 1)).length) (Int.ofNat (S.packed j.2.2.2 (Int.ofNat 1)).length)=true from l1,jaa,
  show lsub (S.packed j.2.2.2 (Int.ofNat 1)) (Int.ofNat 1) (Int.ofNat (S.packed j.2.2.2 (Int.ofNat 1)).length)=(S.packed j.2.2.2 1).drop 1 from q18 _,hdl,jb1,qch (show (X++[S.sync]++S.puts (b:Int) [(S.packed j.2.2.2 0).getD 0 S.none_]).length<=1000000 by rw[jah,jah];show _+1+1<=_;omega),jaa]
 simp only;rw[ja0 (X++[S.sync]),q24 j.2.2.2 b];generalize S.puts (b:Int) (S.packed j.2.2.2 0)=Y at hpl0;rw[qch (show (X++[S.sync]++Y).length<=4000000 by rw[jah,jah];show _+1+_<=_;omega),jaa];simp only;rw[qch (show (X++[S.sync]++Y++[S.sync]).length<=1000000 by rw[jah,jah,jah];show _+1+_+1<=_;omega),jaa];simp only;rw[qch (show (X++[S.sync]++Y++[S.sync]++S.puts (b:Int) [(S.packed j.2.2.2 1).getD 0 S.none_]).length<=4000000 by rw[jah,jah,jah,jah];show _+1+_+1+1<=_;omega),jaa];simp only;rw[show S.inI (Int.ofNat 0) (Int.ofNat 0) (Int.ofNat 1000000)=true from rfl,jb1,qch (show (X++[S.sync]++Y++[S.sync]++S.puts (b:Int) [(S.packed j.2.2.2 1).getD 0 S.none_]++[S.sync]).length<=1000000 by rw[jah,jah,jah,jah,jah];show _+1+_+1+1+1<=_;omega),jaa];simp only[qv1,zdy,htop];rw[qch (show (X++[S.sync]++Y++[S.sync]++S.puts (b:Int) [(S.packed j.2.2.2 1).getD 0 S.none_]++[S.sync]++S.puts (Int.ofNat 0) [topS (1-j.2.1)]).length<=4000000 by rw[jah,jah,jah,jah,jah,jah];show _+1+_+1+1+1+1<=_;omega),jaa];simp only[qwd,ja0];rfl
theorem qru{j:qad}{a u:Nat}(r:RJ j a u){l:List qaa}(hok:S.okC l=true):S.comG j l=true:=by
 have:=r.jn.le.1;have:=r.jn.dk.le;unfold S.comG;rw[jae,jae,qbk,r.used];exact⟨r.small,qmf hok,by omega⟩
theorem q2f{j:qad}{a u:Nat}(r:RJ j a u):S.turG j=true:=by
 have h:=r.jn.hh;unfold S.turG;rw[jae,jae,jae,qbk];exact⟨r.small,qmf r.jn.le.2.1.1,by omega,ja2 r.jn.dk.ge⟩
theorem ql4{j:qad}{A:List DAct}{x:qad}{y:qaf}(h:S.behind j A=(x,0))(k:S.doD j.1 A=(y,0)):S.behG j A=true:=by
 unfold S.behG;rw[h,k];rfl
theorem zcu{j:qad}{l:List qaa}(h1:S.right j=true)(h2:(S.size l).2=0):S.asked j l=0:=by
 unfold S.asked;rw[jao h1,h2]
theorem q23{j:qad}{l:List qaa}:S.plan j l=if S.asked j l=0 then (match S.commit j l with
  | some a=>(a,0)
  | none=>([],14)) else ([],S.asked j l):=by
 unfold S.plan S.asked;by_cases h1:S.right j=true
 ·rw[jao h1,jao h1];by_cases h2:(S.size l).2=0
  ·rw[jao h2,jao h2];cases S.commit j l<;>rfl
  ·rw[jan h2,jan h2]
 ·rw[jan h1,jan h1,jan (by decide)]
theorem qs1{j:qad}{l:List qaa}(h:S.asked j l=0):S.right j=true/\(S.size l).2=0:=by
 unfold S.asked at h;by_cases h1:S.right j=true
 ·rw[jao h1] at h;exact⟨h1,h⟩
 ·rw[jan h1] at h;cases h
theorem ze1(lf:Nat)(j:qad)(l:List qaa):qpv lf j l=some ((S.plan j l).1,(S.plan j l).2,()):=by
 simp only[qpv,q78];show cond (!ieqI (S.asked j l) _) (some (_,S.asked j l,())) (match (cond (S.comG j l) (some ((S.actsB (S.commit j l)).1,((S.actsB (S.commit j l)).2,()))) none) with|none=>none|some v=>_)=_;rw[q23];by_cases h0:S.asked j l=0
 ·obtain⟨h1,h2⟩:=qs1 h0;obtain⟨a,u,r⟩:=qfb h1;rw[qbj (show S.asked j l=Int.ofNat 0 from h0),jay,jag,qru r (qsd h2).1,jaa,jao h0];simp only;cases S.commit j l<;>rfl
 ·rw[qbg (show ¬S.asked j l=Int.ofNat 0 from h0),jax,jaa,jan h0]
theorem zrn{j:qad}{l:List qaa}(h:(S.plan j l).2=0):S.right j=true/\(S.size l).2=0/\∃A,S.commit j l=some A/\S.plan j l=(A,0):=by
 rw[q23] at h ⊢;by_cases h0:S.asked j l=0
 ·obtain⟨h1,h2⟩:=qs1 h0;rw[jao h0] at h ⊢;cases hc:S.commit j l with
  | none=>rw[hc] at h;cases h
  | some A=>exact⟨h1,h2,A,rfl,rfl⟩
 ·rw[jan h0] at h;exact absurd h h0
theorem zkr(lf:Nat)(j:qad)(l:List qaa):qnd lf j l=some ((S.commitJ j l).1,(S.commitJ j l).2,()):=by
 simp only[qnd,q8g];show cond (!ieqI (S.plan j l).2 _) (some (S.noJ,(S.plan j l).2,())) (match (cond (S.behG j (S.plan j l).1) (some ((S.behind j (S.plan j l).1).1,())) none) with|none=>none|some v=>_)=_;unfold S.commitJ;by_cases h0:(S.plan j l).2=0
 ·obtain⟨h1,h2,A,h3,h4⟩:=zrn h0;obtain⟨a,u,r⟩:=qfb h1;rcases qul r (qsd h2).1 with ⟨c1,_⟩|⟨A',c1,_,_,c4,c5,_⟩
  ·rw[h3] at c1;cases c1
  ·have:A'=A:=by rw[h3] at c1;cases c1;rfl
   subst this;rw[jao h0,h4,show ieqI (A',(0:Int)).2 (Int.ofNat 0)=true from rfl,jay,jag,ql4 c5 c4,jaa,c5];rfl
 ·rw[qbg (show ¬(S.plan j l).2=Int.ofNat 0 from h0),jax,jaa,jan h0]
theorem zdh{j:qad}:S.planTurn j=if S.errR j=0 then (match S.turn j with
  | some a=>(a,0)
  | none=>([],14)) else ([],S.errR j):=by
 unfold S.planTurn S.errR;by_cases h1:S.right j=true
 ·rw[jao h1,jao h1,jao rfl];cases S.turn j<;>rfl
 ·rw[jan h1,jan h1,jan (by decide)]
theorem zbo{j:qad}(h:S.errR j=0):S.right j=true:=jcg fun e=>by rw[qeb e] at h;cases h
theorem zh4(lf:Nat)(j:qad):qnu lf j=some ((S.planTurn j).1,(S.planTurn j).2,()):=by
 simp only[qnu,q7r];show cond (!ieqI (S.errR j) _) (some (_,S.errR j,())) (match (cond (S.turG j) (some ((S.actsB (S.turn j)).1,((S.actsB (S.turn j)).2,()))) none) with|none=>none|some v=>_)=_;rw[zdh];by_cases h0:S.errR j=0
 ·obtain⟨a,u,r⟩:=qfb (zbo h0);rw[qbj (show S.errR j=Int.ofNat 0 from h0),jay,jag,q2f r,jaa,jao h0];simp only;cases S.turn j<;>rfl
 ·rw[qbg (show ¬S.errR j=Int.ofNat 0 from h0),jax,jaa,jan h0]
theorem zl3(lf:Nat)(j:qad):qqv lf j=some ((S.turnJ j).1,(S.turnJ j).2,()):=by
 simp only[qqv,q8b];show cond (!ieqI (S.planTurn j).2 _) (some (S.noJ,(S.planTurn j).2,())) (match (cond (S.behG j (S.planTurn j).1) (some ((S.behind j (S.planTurn j).1).1,())) none) with|none=>none|some v=>_)=_;by_cases h0:(S.planTurn j).2=0
 ·have h1:S.right j=true:=by
   unfold S.planTurn at h0;by_cases h1:S.right j=true
   ·exact h1
   ·rw[jan h1] at h0;cases h0
  obtain⟨a,u,r⟩:=qfb h1;rcases q1a r h1 with ⟨_,_,t3,_⟩|⟨b,t1,t2,t3,t4,t5,_⟩
  ·rw[t3] at h0;cases h0
  ·have hb:S.behind j (turA j.1.1 (1-j.2.1) b j.2.2.2)=S.turnJ j:=by
    unfold S.turnJ;rw[t3];rfl
   rw[t3,show ieqI (turA j.1.1 (1-j.2.1) b j.2.2.2,(0:Int)).2 (Int.ofNat 0)=true from rfl,jay,jag,ql4 (hb.trans t5) t4,jaa,hb,t5];rfl
 ·rw[qbg (show ¬(S.planTurn j).2=Int.ofNat 0 from h0),jax,jaa];unfold S.turnJ;rw[jan h0]
theorem zsf(lf:Nat)(j:qad)(l:List qaa):qq8 lf j l=some ((S.save j l).1,(S.save j l).2,()):=by
 simp only[qq8,q43];show cond (!ieqI (S.asked j l) _) (some (S.noJ,S.asked j l,())) (match (cond (S.comG j l) (some ((S.actsB (S.commit j l)).1,((S.actsB (S.commit j l)).2,()))) none) with|none=>none|some v=>_)=_;unfold S.save;by_cases h0:S.asked j l=0
 ·obtain⟨h1,h2⟩:=qs1 h0;obtain⟨a,u,r⟩:=qfb h1;have hok:=(qsd h2).1;rw[qbj (show S.asked j l=Int.ofNat 0 from h0),jay,jag,qru r hok,jaa,jao h1,jao h2];simp only;rcases qul r hok with ⟨c1,_⟩|⟨A,c1,_,_,c4,c5,_⟩
  ·rw[c1];show (match (cond (S.turG j) (some ((S.actsB (S.turn j)).1,((S.actsB (S.turn j)).2,()))) none) with|none=>none|some t=>_)=_;rw[q2f r,jaa];simp only;rcases q1a r h1 with ⟨t1,t2,t3,_⟩|⟨b,t1,t2,t3,t4,t5,t6⟩
   ·rw[t1,t2];rfl
   ·have hb:S.behind j (turA j.1.1 (1-j.2.1) b j.2.2.2)=S.turnJ j:=by
     unfold S.turnJ;rw[t3];rfl
    have h5:(S.turnJ j).2=0:=by rw[t5]
    have hr:S.right (S.turnJ j).1=true:=by rw[t5];exact t6.right
    obtain⟨a',u',r'⟩:=qfb hr;rw[t2,jao h5];show cond (!true) _ (match (cond (S.behG j (turA j.1.1 (1-j.2.1) b j.2.2.2)) (some ((S.behind j (turA j.1.1 (1-j.2.1) b j.2.2.2)).1,())) none) with|none=>none|some q=>_)=_;rw[jay,jag,ql4 (hb.trans t5) t4,jaa,hb];simp only;show (match (cond (S.comG (S.turnJ j).1 l) (some ((S.actsB (S.commit (S.turnJ j).1 l)).1,((S.actsB (S.commit (S.turnJ j).1 l)).2,()))) none) with|none=>none|some q=>_)=_;rw[qru r' hok,jaa];simp only;rcases qul r' hok with ⟨d1,_⟩|⟨A,d1,_,_,d4,d5,_⟩
    ·rw[d1];rfl
    ·rw[d1];show cond (!true) _ (match (cond (S.behG (S.turnJ j).1 A) (some ((S.behind (S.turnJ j).1 A).1,())) none) with|none=>none|some q=>_)=_;rw[jay,jag,ql4 d5 d4,jaa];show some ((S.behind (S.turnJ j).1 A).1,(0:Int),())=some ((S.behind (S.turnJ j).1 A).1,(S.behind (S.turnJ j).1 A).2,());rw[d5]
  ·rw[c1];show (match (cond (S.behG j A) (some ((S.behind j A).1,())) none) with|none=>none|some q=>_)=_;rw[ql4 c5 c4,jaa];show some ((S.behind j A).1,(0:Int),())=some ((S.behind j A).1,(S.behind j A).2,());rw[c5]
 ·rw[qbg (show ¬S.asked j l=Int.ofNat 0 from h0),jax,jaa];unfold S.asked;by_cases h1:S.right j=true
  ·have h2:¬(S.size l).2=0:=fun e=>h0 (zcu h1 e);rw[jao h1,jao h1,jan h2]
  ·rw[jan h1,jan h1]
theorem qkw:Con Tryz.prog zei qm4:=zm8 ⟨zjc,trivial⟩ fun x y hx h=>⟨0,h⟩
theorem zad(a b:List qaa)(ha:a.length<LF):Fz19 LF a b=some (S.sameC a b,()):=by
 simp only[Fz19,qv5];unfold S.sameC;by_cases e:a.length=b.length
 ·rw[qbj (show Int.ofNat a.length=Int.ofNat b.length from jav Int.ofNat e),jay,jag];refine(qpa a b e ha (some (true,())) (some (false,())) (fun K=>?_) (fun K i v w h1 h2 h3 h4=>?_)).trans ?_
  ·simp only[qpf,qca,jag]
  ·simp only[qpf,h1,h2,h3,h4,jaa,qx6];cases decide (v=w)<;>rfl
  ·cases decide (a=b)<;>rfl
 ·rw[qbg (show ¬Int.ofNat a.length=Int.ofNat b.length from fun h=>e (jdj h)),jax,jaa,jap (fun h=>e (jav List.length h))]
theorem zs2:Con Tryz.prog zg9 q0j:=zs0 trivial fun x y hx h=>⟨LF,(zad x.1 x.2.1 (qcj (c:=qac) hx.1)).trans h⟩
theorem q7g:Con Tryz.prog zqb qz5:=zoh ⟨qk3,qkw,qp8,trivial⟩ qtk qv4 fun x y hx h=>⟨0,(zjp 0 x.1).trans h⟩
theorem q81:Con Tryz.prog zhl qt8:=zpk ⟨qp8,q7h,qn6,q0o,qkw,trivial⟩ qtk qv4 fun x y hx h=>⟨0,by
 obtain⟨h1,h2⟩:=qba (show cond (S.comG x.1 x.2.1) (some ((S.actsB (S.commit x.1 x.2.1)).1,(S.actsB (S.commit x.1 x.2.1)).2,())) none=some y from h);exact(zr8 0 x.1 x.2.1 h1).trans (jav some h2)⟩
theorem qdm{P:Program}{f:Nat}{p:List TC}{r:List (Bool × TC)}{g g':ElA p->Option (ElR r)}(h:Con P f ⟨p,r,g⟩)(hg:∀x y,g' x=some y->g x=some y):Con P f ⟨p,r,g'⟩ :=
 ⟨h.callable,fun M w x us y hy hM hgl hv=>h.calls M w x us y (hg x y hy) hM hgl hv⟩
section
variable (hR : Con Tryz.prog 76 qip) (hO : Con Tryz.prog 61 qgw)
include hR in
theorem qzp:Con Tryz.prog zbk q6g:=zs9 ⟨qg9,qkw,hR,trivial⟩ fun x y hx h=>⟨0,(zay 0 x.1).trans h⟩
include hO in
theorem qno:Con Tryz.prog zgw ql9:=zsx ⟨qk3,hO,zs2,trivial⟩ fun x y hx h=>⟨0,(ziu 0 x.1).trans h⟩
include hO in
theorem qnc:Con Tryz.prog zed q3r:=zn2 ⟨qk3,hO,trivial⟩ fun x y hx h=>⟨0,(zdp 0 x.1).trans h⟩
include hO in
theorem zfn:Con Tryz.prog idz7 spz7:=mkz7 ⟨qno hO,qg9,trivial⟩ fun x y hx h=>⟨LF,(zq5 x.1 x.2.1 (qcj (c:=qac) hx.1.2.2.2)).trans h⟩
include hO in
theorem qyw:Con Tryz.prog zo0 zqn:=zo7 ⟨qno hO,q7h,trivial⟩ fun x y hx h=>⟨0,(zmp 0 x.1).trans h⟩
include hO in
theorem q7n:Con Tryz.prog zhu qwh:=zdu ⟨qno hO,q2n,trivial⟩ fun x y hx h=>⟨0,(zd2 0 x.1 x.2.1).trans h⟩
include hR in
theorem q4f:Con Tryz.prog zeu qt0:=znx ⟨qp8,qn6,q0o,qkw,hR,trivial⟩ qv4 fun x y hx h=>⟨0,by
 obtain⟨h1,h2⟩:=qba (show cond (S.turG x.1) (some ((S.actsB (S.turn x.1)).1,(S.actsB (S.turn x.1)).2,())) none=some y from h);exact(zkp 0 x.1 h1).trans (jav some h2)⟩
include hO in
theorem qtz:Con Tryz.prog zo5 qpw:=zh7 ⟨qp0,hO,trivial⟩ fun x y hx h=>⟨0,by
 obtain⟨h1,h2⟩:=qba (show cond (S.behG x.1 x.2.1) (some ((S.behind x.1 x.2.1).1,())) none=some y from h);exact(zrd 0 x.1 x.2.1 h1).trans (jav some h2)⟩
include hO in
theorem q0r:Con Tryz.prog zo4 q05:=zkg ⟨q7n hO,q81,trivial⟩ fun x y hx h=>⟨0,(ze1 0 x.1 x.2.1).trans h⟩
include hO in
theorem znv:Con Tryz.prog ztb zma:=zb5 ⟨q0r hO,qtz hO,trivial⟩ fun x y hx h=>⟨0,(zkr 0 x.1 x.2.1).trans h⟩
include hR hO in
theorem zlq:Con Tryz.prog zah q40:=ze2 ⟨qno hO,q4f hR,trivial⟩ fun x y hx h=>⟨0,(zh4 0 x.1).trans h⟩
include hR hO in
theorem q5q:Con Tryz.prog zge zmy:=zj7 ⟨zlq hR hO,qtz hO,trivial⟩ fun x y hx h=>⟨0,(zl3 0 x.1).trans h⟩
include hR hO in
theorem zen:Con Tryz.prog zq3 q94:=zii ⟨q7n hO,q81,q4f hR,qtz hO,trivial⟩ fun x y hx h=>⟨0,(zsf 0 x.1 x.2.1).trans h⟩
end
theorem zdl(lf:Nat):qtm lf=some (true,()):=by kernel_rfl
theorem q1x{a b:List qaa}(h:S.sameC a b=true):a=b:=ja1 h
theorem qqa{a b:qaf}(h:S.sameD a b=true):a=b:=ja1 h
theorem qqy{a b:qad}(h:S.sameJ a b=true):a=b:=ja1 h
theorem zif{a b:List DAct}(h:S.sameA a b=true):a=b:=ja1 h
theorem ze9:(S.plan S.madeJ S.hC).2=0:=by kernel_rfl
theorem hDo:(S.doD S.madeJ.1 (S.hL.take 4)).2=0:=by kernel_rfl
theorem hCr0:(S.crash S.hD [0]).2=0:=by kernel_rfl
theorem hCr1:(S.crash S.hD [1]).2=0:=by kernel_rfl
theorem hOp0:(S.open_ S.hLost).2=0:=by kernel_rfl
theorem hOp1:(S.open_ S.hKept).2=0:=by kernel_rfl
theorem hOpE:S.sameD S.hKept S.hLost=false:=by kernel_rfl
theorem hOpF:S.sameD S.hLost S.hLost=true:=by kernel_rfl
theorem hCom:(S.commitJ S.hY S.hG).2=0:=by kernel_rfl
theorem zkw:S.room S.hZ=(0,0):=by kernel_rfl
theorem zhv:(S.turnJ S.hZ).2=0:=by kernel_rfl
theorem zhj{d:qaf}{k:List Int}(h:S.gCrash d k=true):some ((S.crash d k).1,(S.crash d k).2,())=some (S.hCr k,(0:Int),()):=by
 unfold S.gCrash at h;rw[jae,jec] at h;have e1:=qqa h.1;subst e1;rcases h.2 with e2|e2
 ·have e2:=ja1 e2;subst e2;rw[hCr0];rfl
 ·have e2:=ja1 e2;subst e2;rw[hCr1];rfl
section
variable (hR : Con Tryz.prog 76 qip) (hO : Con Tryz.prog 61 qgw)
include hO in
theorem zrl:Con Tryz.prog 24 qz6:=qdm (q0r hO) fun x y h=>by
 obtain⟨h1,rfl⟩:=qba (show cond (S.gPlan x.1 x.2.1) (some (S.hL,(0:Int),())) none=some y from h);obtain⟨a,b,_⟩:=x;unfold S.gPlan at h1;rw[jae] at h1;have e1:=qqy h1.1;have e2:=q1x h1.2;show some ((S.plan a b).1,(S.plan a b).2,())=_;rw[show a=S.madeJ from e1,show b=S.hC from e2,ze9];rfl
theorem zm9:Con Tryz.prog 32 q1n:=qdm qp0 fun x y h=>by
 obtain⟨h1,rfl⟩:=qba (show cond (S.gDo x.1 x.2.1) (some (S.hD,(0:Int),())) none=some y from h);obtain⟨a,b,_⟩:=x;unfold S.gDo at h1;rw[jae] at h1;have e1:=qqa h1.1;have e2:=zif h1.2;show some ((S.doD a b).1,(S.doD a b).2,())=_;rw[show a=S.madeJ.1 from e1,show b=S.hL.take 4 from e2,hDo];rfl
theorem zds:Con Tryz.prog 34 q1z:=qdm zra fun x y h=>by
 obtain⟨h1,rfl⟩:=qba (show cond (S.gCrash x.1 x.2.1) (some (S.hCr x.2.1,(0:Int),())) none=some y from h);exact zhj h1
include hO in
theorem zht:Con Tryz.prog 13 qyy:=qdm (qnc hO) fun x y h=>by
 obtain⟨h1,rfl⟩:=qba (show cond (S.gOpen x.1) (some (S.hOp x.1,(0:Int),())) none=some y from h);obtain⟨a,_⟩:=x;unfold S.gOpen at h1;rw[jec] at h1;show some ((S.open_ a).1,(S.open_ a).2,())=some (cond (S.sameD a S.hLost) S.hX S.hY,0,());rcases h1 with e|e
 ·rw[show a=S.hLost from qqa e,hOp0,hOpF];rfl
 ·rw[show a=S.hKept from qqa e,hOp1,hOpE];rfl
include hO in
theorem zje:Con Tryz.prog 26 q0w:=qdm (znv hO) fun x y h=>by
 obtain⟨h1,rfl⟩:=qba (show cond (S.gCom x.1 x.2.1) (some (S.hZ,(0:Int),())) none=some y from h);obtain⟨a,b,_⟩:=x;unfold S.gCom at h1;rw[jae] at h1;have e1:=qqy h1.1;have e2:=q1x h1.2;show some ((S.commitJ a b).1,(S.commitJ a b).2,())=_;rw[show a=S.hY from e1,show b=S.hG from e2,hCom];rfl
include hO in
theorem zll:Con Tryz.prog 20 qya:=qdm (qyw hO) fun x y h=>by
 obtain⟨h1,rfl⟩:=qba (show cond (S.gZ x.1) (some ((0:Int),(0:Int),())) none=some y from h);obtain⟨a,_⟩:=x;show some ((S.room a).1,(S.room a).2,())=_;rw[show a=S.hZ from qqy h1,zkw];rfl
include hR hO in
theorem zga:Con Tryz.prog 41 qyk:=qdm (q5q hR hO) fun x y h=>by
 obtain⟨h1,rfl⟩:=qba (show cond (S.gZ x.1) (some (S.hT,(0:Int),())) none=some y from h);obtain⟨a,_⟩:=x;show some ((S.turnJ a).1,(S.turnJ a).2,())=_;rw[show a=S.hZ from qqy h1,zhv];rfl
include hR hO in
theorem zdj:Con Tryz.prog q8s q4r:=q44 ⟨qzp hR,q7g,qp0,qnc hO,trivial⟩ fun x y hx h=>⟨0,by
 obtain⟨h1,rfl⟩:=qba (show cond (S.inI x.1 8 8) (some (S.madeJ,true,())) none=some y from h);obtain⟨h2,h3⟩:=qbk.1 h1;rw[show x.1=(8:Int) from Int.le_antisymm h3 h2];exact ztm 0⟩
include hR hO in
theorem zhr:Con Tryz.prog zft qyr:=zr2 ⟨zdj hR hO,q2n,zrl hO,zm9,zds,zht hO,zje hO,zll hO,zga hR hO,trivial⟩ fun x y hx h=>⟨0,(zdl 0).trans h⟩
end
theorem zmr(l:List qaa)(k:Int)(hl:l.length<LF):Fz1 LF l k=some (S.namesC l k,()):=by
 simp only[Fz1,quw];refine(qrm (T:=fun K p=>qle LF l k K p) l (fun rest _=>some (S.namesC rest k,())) hl (fun K=>?_) (fun K i v rest r h=>?_)).trans rfl
 ·simp only[qle,qca,jag];rfl
 ·simp only[qle,r.ilt,r.get,r.next,jaa];show _=some (decide (v.1=k)||S.namesC rest k,());by_cases e:v.1=k
  ·rw[qbj e,jaa,jak e];rfl
  ·rw[qbg e,jag,h,jap e];rfl
theorem q2t:Con Tryz.prog idz1 spz1:=mkz1 trivial fun x y hx h=>⟨LF,(zmr x.1 x.2.1 (qcj (c:=qac) hx.1)).trans h⟩
theorem zr5(l:List (List DChg))(hl:l.length<LF):Fz2 LF l=some (S.brief l,()):=by
 simp only[Fz2,qvn];refine(qrm (T:=fun K p=>qme LF l K p) l (fun rest _=>some (rest.all (fun x=>Nat.ble x.length 10)&&Nat.ble l.length 12,())) hl (fun K=>?_) (fun K i v rest r h=>?_)).trans rfl
 ·simp only[qme,qca,jag,qyb];rfl
 ·simp only[qme,r.ilt,r.get,r.next,jaa];rw[jds];have:iltI (Int.ofNat 10) (Int.ofNat v.length)=!Nat.ble v.length 10:=by rw[<- qyb,Bool.not_not]
  rw[this,h];cases Nat.ble v.length 10<;>rfl
theorem zpl:Con Tryz.prog idz2 spz2:=mkz2 trivial fun x y hx h=>⟨LF,(zr5 x.1 (qcj (c:=.list cChg) hx.1)).trans h⟩
theorem zp7(lf:Nat){n:Int}(h:S.evn n=true):qio lf n=some (S.madeN n,true,()):=by
 obtain⟨h1,h2,h3,h4⟩:=q79 h;simp only[qio,qwr];show cond (ieqI (S.newDisk n).2 _) (cond (ieqI (S.format (S.newDisk n).1).2 _) (cond (ieqI (S.doD (S.newDisk n).1 (S.format (S.newDisk n).1).1).2 _) (some ((S.open_ (S.madeD_ n)).1,ieqI (S.open_ (S.madeD_ n)).2 _,())) _) _) _=_;rw[h1,h2,h3,h4];rfl
theorem qij{k:IntKind}{n:Int}(h:WfE (.int k) n):k.min<=n/\n<=k.max:=by
 exact(qpi k n).1 h
def chgB(l:List DChg):Prop:=∀c∈l,(0<=c.1/\c.1<=255)/\(0<=c.2.1/\c.2.1<=255)/\0<=c.2.2.1/\c.2.2.1<=255
theorem qfy{l:List DChg}(h:chgB l):qet l:=fun c hc=>(h c hc).2.1
theorem qjr{l:List DChg}(h:WfE (.list cChg) l):chgB l:=fun c hc=>by
 have:=h.2 c hc;exact⟨qij (k:=.u8) this.1,qij (k:=.u8) this.2.1,qij (k:=.u8) this.2.2.1⟩
theorem outC{n:Nat}(h:n<=100000):Nat.ble (Nat.mul (Nat.add n 1) 32) 140737488355328=true:=ja2 (by show (n+1)*32<=_;omega)
theorem q8d(l:List DChg)(K3:(Int × List qaa)->Option Rtz3)(K6:(Int × Int × List qaa)->Option Rtz3){i:Int}{c:DChg}(hi:jget l i=some c)(hc:(0<=c.1/\c.1<=255)/\(0<=c.2.1/\c.2.1<=255)/\0<=c.2.2.1/\c.2.2.1<=255){k:Nat}(hk:k<25){out:List qaa}(ho:out.length<=1000) :
  ∀(m F n:Nat),n+m=c.2.1.toNat->m<F->(c.2.2.2=true->n=0)->qf5 LF l K3 K6 F (c.2.2.2,i,(n:Int),qag (List.replicate n c.2.2.1),(k:Int),out,(k:Int))=K3 (Int.ofNat (k+1),out++[S.cellOf k c])
 | m,0,n,_,h,_=>by omega
 | m,F+1,n,hn,hF,hg=>by
  show qpj LF l (qf5 LF l K3 K6 F) K3 _=_;have hnext:IntKind.i64.wrap (Int.add (k:Int) (Int.ofNat 1))=Int.ofNat (k+1):=qj5 (by unfold LF;omega);have hw:IntKind.i64.wrap c.2.1=c.2.1:=wrap_in (by omega);simp only[qpj,hi,hw,hnext,outC (show out.length<=100000 by omega),jaa];cases m with
  | zero =>
   rw[show iltI (n:Int) c.2.1=false by rw[qbc];exact jap (by omega),jag];have:S.cellOf k c=((k:Int),qag (List.replicate n c.2.2.1),c.2.2.2):=by
    unfold S.cellOf;cases hb:c.2.2.2 with
    | true=>rw[hg hb];rfl
    | false=>rw[show c.2.1.toNat=n by omega];rfl
   rw[this];rfl
  | succ m =>
   rw[show iltI (n:Int) c.2.1=true by rw[qbc];exact jak (by omega),jaa];cases hb:c.2.2.2 with
   | true =>
    have:S.cellOf k c=((k:Int),qag (List.replicate n c.2.2.1),true):=by
     unfold S.cellOf;rw[hb,hg hb];rfl
    rw[this];rfl
   | false =>
    have ih:=q8d l K3 K6 hi hc hk ho m F (n+1) (by omega) (by omega) (fun e=>by rw[hb] at e;cases e);rw[hb] at ih;rw[jax,jaa,qbh,jbb,show Nat.ble (Nat.succ (Nat.add n 1)) 9223372036854775808=true from ja2 (by show n+1+1<=_;omega),jaa,qv1,qek];have e1:IntKind.i64.wrap (Int.add (n:Int) (Int.ofNat 1))=((n+1:Nat):Int):=qj5 (by unfold LF;omega);have e2:List.replicate n c.2.2.1++[c.2.2.1]=List.replicate (n+1) c.2.2.1:=by rw[List.replicate_succ']
    rw[e1,e2];exact ih
def S.cellAt(l:List DChg)(k:Nat):Option qaa:=(l.reverse.find? fun c=>decide (c.1 % 25=(k:Int))).map (S.cellOf k)
theorem qxo(l:List DChg)(hl:chgB l)(hlen:l.length<LF)(K3:(Int × List qaa)->Option Rtz3){k:Nat}(hk:k<25){out:List qaa}(ho:out.length<=1000) :
  ∀(n F:Nat),n<=l.length->n<F->qfm LF l K3 F ((n:Int)-1,(k:Int),out)=K3 (Int.ofNat (k+1),out++(S.cellAt (l.take n) k).toList)
 | n,0,_,h=>by omega
 | n,F+1,hn,hF=>by
  show qm8 LF l (qfm LF l K3 F) (fun q=>qf5 LF l K3 (qfm LF l K3 F) LF q) K3 _=_;have hnext:IntKind.i64.wrap (Int.add (k:Int) (Int.ofNat 1))=Int.ofNat (k+1):=qj5 (by unfold LF;omega);simp only[qm8,hnext];cases n with
  | zero =>
   rw[show iltI (((0:Nat):Int)-1) (Int.ofNat 0)=true from rfl,jay,jag];show _=K3 (_,out++[]);rw[jbl]
  | succ n =>
   have hb:n<l.length:=by omega
   have hi:jget l (((n+1:Nat):Int)-1)=some l[n]:=by
    rw[show ((n+1:Nat):Int)-1=Int.ofNat n by simp,qdt,jac hb]
   have hc:=hl _ (jbh hb);rw[show iltI (((n+1:Nat):Int)-1) (Int.ofNat 0)=false by rw[qbc];exact jap (by simp),jax,jaa,hi];simp only;have ht:Int.tmod (IntKind.i64.wrap (l[n]).1) (Int.ofNat 25)=(l[n]).1 % 25:=by
    rw[wrap_in (by omega)];exact jdp hc.1.1
   have hca:S.cellAt (l.take (n+1)) k=if (l[n]).1 % 25=(k:Int) then some (S.cellOf k l[n]) else S.cellAt (l.take n) k:=by
    unfold S.cellAt;rw[jdw hb,List.reverse_append,List.reverse_singleton,List.singleton_append,List.find?_cons];by_cases e:(l[n]).1 % 25=(k:Int)
    ·rw[jak e,jao e];rfl
    ·rw[jap e,jan e]
   rw[ht,hca];by_cases e:(l[n]).1 % 25=(k:Int)
   ·rw[qbj e,jay,jag,jao e];exact q8d l K3 _ hi hc hk ho (l[n]).2.1.toNat LF 0 (by omega) (by unfold LF;omega) fun _=>rfl
   ·rw[qbg e,jax,jaa,jan e];have e1:IntKind.i64.wrap (Int.sub (((n+1:Nat):Int)-1) (Int.ofNat 1))=(n:Int)-1:=by
     rw[show Int.sub (((n+1:Nat):Int)-1) (Int.ofNat 1)=(n:Int)-1 from (show ((n+1:Nat):Int)-1-1=(n:Int)-1 by omega)];exact wrap_in (by unfold LF at hlen;omega)
    rw[e1];exact qxo l hl hlen K3 hk ho n F (by omega) (by omega)
theorem q9n(l:List DChg)(hl:chgB l)(hlen:l.length<LF):∀(m F k:Nat) (out:List qaa),k+m=25->out.length<=k->m<F->qhx LF l F (Int.ofNat k,out)=some (out++(List.range' k m).filterMap (S.cellAt l),())
 | m,0,k,out,_,_,h=>by omega
 | m,F+1,k,out,hm,ho,hF=>by
  show qoj LF l (fun q=>qfm LF l (qhx LF l F) LF q) _=_;simp only[qoj];cases m with
  | zero =>
   rw[show iltI (Int.ofNat 24) (Int.ofNat k)=true by rw[qbc];exact jak (by simp;omega),jay,jag];show _=some (out++[],());rw[jbl]
  | succ m =>
   rw[show iltI (Int.ofNat 24) (Int.ofNat k)=false by rw[qbc];exact jap (by simp;omega),jax,jaa];have e1:IntKind.i64.wrap (Int.sub (Int.ofNat l.length) (Int.ofNat 1))=(l.length:Int)-1:=by
    rw[show Int.sub (Int.ofNat l.length) (Int.ofNat 1)=(l.length:Int)-1 from rfl];exact wrap_in (by unfold LF at hlen;omega)
   rw[e1];refine(qxo l hl hlen _ (k:=k) (by omega) (by omega) l.length LF (jar _) hlen).trans ?_;rw[jbw (jar _),q9n l hl hlen m F (k+1) _ (by omega) (by
    rw[jah];cases S.cellAt l k with
    | none=>show _+0<=_;omega
    | some c=>show _+1<=_;omega) (by omega),ja0,List.range'_succ,List.filterMap_cons]
   cases S.cellAt l k<;>rfl
theorem zcv(l:List DChg)(hl:chgB l)(hlen:l.length<LF):Fz3 LF l=some (S.cells l,()):=by
 simp only[Fz3,qwe];refine(q9n l hl hlen 25 LF 0 [] rfl (jar _) (by unfold LF;omega)).trans ?_;rw[jcj,<- jei];rfl
theorem q85:Con Tryz.prog idz3 spz3:=mkz3 trivial fun x y hx h=>⟨LF,(zcv x.1 (qjr hx.1) (qcj (c:=cChg) hx.1)).trans h⟩
theorem zqy(was l:List qaa)(hlen:l.length<=200)(K3:(Int × List qaa)->Option Rtz4){k:Nat}(hk:k<200){out:List qaa}(ho:out.length<=500) :
  qg8 LF was l K3 LF (out,Int.ofNat 0,(k:Int))=K3 (Int.ofNat (k+1),out++l.filter fun c=>decide (c.1=(k:Int))&&!c.2.2):=by
 have hnext:IntKind.i64.wrap (Int.add (k:Int) (Int.ofNat 1))=Int.ofNat (k+1):=qj5 (by unfold LF;omega);refine range0 (T:=fun K p=>qka LF was l K K3 p) l (fun i s=>(s,i,(k:Int))) (fun i s=>s.length<=500+i) (fun rest i s=>K3 (Int.ofNat (k+1),s++rest.filter fun c=>decide (c.1=(k:Int))&&!c.2.2)) (by unfold LF;omega) (fun K s hI=>?_) (fun K i v rest s hI r h=>?_) out ho
 ·simp only[qka,qca,jag,hnext];rw[List.filter_nil,jbl]
 ·have hi:=r.lt;simp only[qka,r.ilt,r.get,r.next,jaa,outC (show s.length<=100000 by omega)];rw[je5];by_cases e:v.1=(k:Int)
  ·rw[qbj e,jaa,jak e,jb1];cases hb:v.2.2 with
   | true =>
    rw[jay,jag,jan (by decide)];exact h s (by omega)
   | false =>
    rw[jax,jaa,jao rfl];have hv:((v.1,v.2.1,false):qaa)=v:=by rw[<- hb]
    show K (s++[(v.1,v.2.1,false)],Int.ofNat (i+1),(k:Int))=_;rw[hv];have:=h (s++[v]) (by rw[jah];show s.length+1<=_;omega);rw[ja0] at this;exact this
  ·rw[qbg e,jag,jap e,jcw,jan jew];exact h s (by omega)
theorem zrr(was l:List qaa)(hw:was.length<=200)(hlen:l.length<=200)(K3:(Int × List qaa)->Option Rtz4){k:Nat}(hk:k<200){out:List qaa}(ho:out.length<=250) :
  qh9 LF was l K3 LF (Int.ofNat 0,out,(k:Int))=K3 (Int.ofNat (k+1),out++S.afterK was l k):=by
 refine(range0 (T:=fun K p=>qlt LF was l K (fun q=>qg8 LF was l K3 LF q) p) was (fun i s=>(i,s,(k:Int))) (fun i s=>s.length<=250+i)
  (fun rest i s=>K3 (Int.ofNat (k+1),(s++rest.filter fun c=>decide (c.1=(k:Int))&&!S.namesC l (k:Int))++l.filter fun c=>decide (c.1=(k:Int))&&!c.2.2)) (by unfold LF;omega) (fun K s hI=>?_) (fun K i v rest s hI r h=>?_) out ho).trans ?_
 ·simp only[qlt,qca,jag];rw[List.filter_nil,jbl];exact zqy was l hlen K3 hk (by omega)
 ·have hi:=r.lt;simp only[qlt,r.ilt,r.get,r.next,jaa,outC (show s.length<=100000 by omega)];rw[je5];by_cases e:v.1=(k:Int)
  ·rw[qbj e,jaa,jak e,jb1];cases hb:S.namesC l (k:Int) with
   | true =>
    rw[jay,jag,jan (by decide)];have:=h s (by omega);rw[hb] at this;exact this
   | false =>
    rw[jax,jaa,jao rfl];have:=h (s++[v]) (by rw[jah];show s.length+1<=_;omega);rw[hb,ja0 s [v]] at this;exact this
  ·rw[qbg e,jag,jap e,jcw,jan jew];exact h s (by omega)
 ·rw[ja0];rfl
theorem q0g{was l:List qaa}(hw:okS was (-1))(hl:S.okC l=true):∀(m F k:Nat),k+m=200->m<F->qg7 LF was l F (Int.ofNat k,(List.range' 0 k).flatMap (S.afterK was l))=some (S.after was l,())
 | m,0,k,_,h=>by omega
 | m,F+1,k,hm,hF=>by
  show qmn LF was l (fun q=>qh9 LF was l (qg7 LF was l F) LF q) _=_;simp only[qmn];cases m with
  | zero =>
   rw[show iltI (Int.ofNat 199) (Int.ofNat k)=true by rw[qbc];exact jak (by simp;omega),jay,jag];unfold S.after;rw[jei,show k=200 by omega]
  | succ m =>
   rw[show iltI (Int.ofNat 199) (Int.ofNat k)=false by rw[qbc];exact jap (by simp;omega),jax,jaa];have ho:((List.range' 0 k).flatMap (S.afterK was l)).length<=200:=qrh (qp9 (fun i _=>qx3 hw hl i) k 0 (by omega));refine(zrr was l (qrh hw.1) (qrh hl) _ (k:=k) (by omega) (by omega)).trans ?_;rw[show (List.range' 0 k).flatMap (S.afterK was l)++S.afterK was l k=(List.range' 0 (k+1)).flatMap (S.afterK was l) by
    rw[List.range'_concat,List.flatMap_append,List.flatMap_singleton,jea,jbk]]
   exact q0g hw hl m F (k+1) (by omega) (by omega)
theorem zp1:Con Tryz.prog idz4 spz4:=mkz4 ⟨q2t,trivial⟩ fun x y hx h=>⟨LF,by
 obtain⟨h1,h2⟩:=qba (show cond (S.mrg x.1 x.2.1) (some (S.after x.1 x.2.1,())) none=some y from h);obtain⟨hw,hl⟩:=zgv h1;rw[<- h2];simp only[Fz4,qvw];exact q0g hw hl 200 LF 0 rfl (by unfold LF;omega)⟩
theorem mul2(a:Int):Int.mul (Int.ofNat 2) a=2*a:=rfl
theorem add8(a:Int):Int.add (Int.ofNat 8) a=8+a:=rfl
theorem zao(s:Int)(l:List (List DChg))(hs:0<=s/\s<=255)(hl:∀x∈l,chgB x)(hlen:l.length<LF):Fz5 LF s l=some (S.played s l,true,()):=by
 have ht:Int.tmod s (Int.ofNat 17)=s % 17:=jdp hs.1;have hn:IntKind.i64.wrap (Int.add (Int.ofNat 8) (IntKind.i64.wrap (Int.mul (Int.ofNat 2) (IntKind.i64.wrap (Int.tmod s (Int.ofNat 17))))))=8+2*(s % 17):=by
  rw[ht,wrap_in (n:=s % 17) (by omega),mul2,wrap_in (n:=2*(s % 17)) (by omega),add8];exact wrap_in (by omega)
 unfold Fz5 qt3;rw[hn,qty hs,jaa];have hj:=qxq (qty hs);show _=some (l.foldl S.playStep (S.madeN (8+2*(s % 17))),true,())
 revert hj
 generalize S.madeN (8+2*(s % 17))=j0;intro hj;refine range0 (T:=fun K p=>qlo LF s l K p) (σ:=qad) l (fun i j=>(true,j.1.2,j.1.1,j.2.1,j.2.2.2,j.2.2.1,i)) (fun i j=>JnR j) (fun rest i j=>some (rest.foldl S.playStep j,true,())) hlen (fun K j hI=>?_) (fun K i v rest j hI r h=>?_) j0 hj
 ·simp only[qlo,qca,jag];rfl
 ·simp only[qlo,r.ilt,r.get,r.next,jaa];obtain⟨h1,h2⟩:=q1s hI (qfy (hl v r.mem));have hi:=h _ h1;rw[jdy];have hso:S.saveO j (S.cells v)=some ((S.save j (S.cells v)).1,(S.save j (S.cells v)).2,()):=by
   unfold S.saveO S.sameJ;rw[jak rfl,jaa]
  show cond (ieqI (Int.ofNat (S.cells v).length) (Int.ofNat 0)) _ (match S.saveO j (S.cells v) with|none=>none|some w=>_)=_;rw[hso];unfold S.playStep at hi ⊢;by_cases h0:(S.cells v).length=0
  ·rw[jao h0] at hi ⊢;rw[qbj (by rw[h0]),jaa];exact hi
  ·rw[jan h0] at hi ⊢;rw[qbg (by intro e;exact h0 (jdj e)),jag];simp only;by_cases h3:(S.save j (S.cells v)).2=0
   ·rw[jao h3] at hi ⊢;rw[qbj (show (S.save j (S.cells v)).2=Int.ofNat 0 from h3),jaa,jaa];exact hi
   ·have h4:(S.save j (S.cells v)).2=14:=by rcases h2 with h2|h2|h2<;>first|exact absurd h2 h0|exact absurd h2 h3|exact h2
    rw[jan h3] at hi ⊢;rw[qbg (show ¬(S.save j (S.cells v)).2=Int.ofNat 0 from h3),jag,jag,qbj (show (S.save j (S.cells v)).2=Int.ofNat 14 from h4)];exact hi
theorem qe4(j:qad):S.sameJ j j=true:=jak rfl
theorem q0p(d:qaf):S.sameD d d=true:=jak rfl
theorem ifO{α:Type}{b:Bool}{x:Option α}{y:α}(hb:b=true)(h:cond b x none=some y):x=some y:=by rw[hb] at h;exact h
section
variable (hR : Con Tryz.prog 76 qip) (hO : Con Tryz.prog 61 qgw)
include hR hO in
theorem zob:Con Tryz.prog q8s q1d:=q44 ⟨qzp hR,q7g,qp0,qnc hO,trivial⟩ fun x y hx h=>⟨0,by
 obtain⟨h1,h2⟩:=qba (show cond (S.evn x.1) (some (S.madeN x.1,true,())) none=some y from h);rw[<- h2];exact zp7 0 h1⟩
include hO in
include hO in
theorem zig:Con Tryz.prog 13 q8y:=qdm (qnc hO) fun x y h=>ifO (q0p _) h
include hO in
theorem zep:Con Tryz.prog 20 q8v:=qdm (qyw hO) fun x y h=>ifO (qe4 _) h
include hO in
theorem zse:Con Tryz.prog 18 q6a:=qdm (zfn hO) fun x y h=>ifO (qe4 _) h
include hR hO in
theorem q5n:Con Tryz.prog 43 qrv:=qdm (zen hR hO) fun x y h=>ifO (qe4 _) h
include hR hO in
theorem zis:Con Tryz.prog 41 qxm:=qdm (q5q hR hO) fun x y h=>ifO (qe4 _) h
include hR hO in
theorem zr6:Con Tryz.prog idz5 spz5:=mkz5 ⟨zob hR hO,q85,q5n hR hO,trivial⟩ fun x y hx h=>⟨LF,by
 obtain⟨h1,h2⟩:=qba (show cond (S.brief x.2.1) (some (S.played x.1 x.2.1,true,())) none=some y from h);rw[<- h2];exact zao x.1 x.2.1 (qij (k:=.u8) hx.1) (fun z hz=>qjr (hx.2.1.2 z hz)) (qcj (c:=.list cChg) hx.2.1)⟩
end
theorem qfk(c:qaa)(l:List qaa):(S.body (c::l)).length=(S.cellB c).length+(S.body l).length:=by
 unfold S.body;rw[jee,jah]
theorem q2x(c:qaa):∀m:List qaa,(S.body (S.ins1 c m)).length<=(S.body m).length+(S.cellB c).length
 | []=>by
  show (S.body (cond c.2.2 [] [c])).length<=_;cases c.2.2 with
  | true=>exact jb4 _
  | false=>rw[jag,qfk];exact jdl (Nat.add_comm _ _)
 | a::r=>by
  have ih:=q2x c r;show (S.body (if a.1<c.1 then a::S.ins1 c r else if a.1=c.1 then cond c.2.2 r (c::r) else cond c.2.2 (a::r) (c::a::r))).length<=_;split
  ·rw[qfk,qfk];omega
  ·split
   ·cases c.2.2 with
    | true=>rw[jaa,qfk];omega
    | false=>rw[jag,qfk,qfk];omega
   ·cases c.2.2 with
    | true=>rw[jaa];omega
    | false=>rw[jag,qfk c];omega
theorem q06:∀(l m:List qaa),(S.body (S.changed m l)).length<=(S.body m).length+(S.body l).length
 | [],m=>jd3 _ _
 | c::l,m=>by
  have h1:=q06 l (S.ins1 c m);have h2:=q2x c m;show (S.body (S.changed (S.ins1 c m) l)).length<=_;rw[qfk];omega
theorem q0s:∀(f:Nat) {l:List ByteArray} {c c':List qaa} {u u':Nat},szS l->S.recs f l c u=some (c',u')->((u=0/\c=[])\/(S.body c).length+4<=64*u)->u'=0\/(S.body c').length+4<=64*u'
 | 0,l,c,c',u,u',_,h,_=>by cases h
 | f+1,[],c,c',u,u',_,h,k=>by
  cases h;exact k.imp (fun k=>k.1) id
 | f+1,s::r,c,c',u,u',hs,h,k=>by
  rw[qe2] at h;by_cases h0:(qab s).getD 0 0=0
  ·rw[jao h0] at h;cases h;exact k.imp (fun k=>k.1) id
  ·rw[jan h0] at h;cases hr:S.readR (s::r) with
   | none=>rw[hr] at h;cases h
   | some x =>
    rw[hr] at h;simp only at h;obtain⟨k1,k2,k3,k4,k5,k6⟩:=qq5 hs hr;cases hb:(decide (u=0)&&x.1.any (·.2.2)) with
    | true=>rw[hb] at h;cases h
    | false =>
     rw[hb,jag] at h;refine q0s f (hs.drop x.2) h (.inr ?_);have h1:=q06 x.1 c;rw[qcx] at k4;rcases k with ⟨rfl,rfl⟩|k
     ·rw[show (S.body []).length=0 from rfl] at h1;omega
     ·omega
theorem Jn.pk{L:List ByteArray}{h:Int}{a u:Nat}{c:List qaa}(j:Jn L h a u c):(S.packed c 1).length<=u:=by
 obtain⟨f,hf⟩:=j.rc;have hu:=j.u1;have:=q0s f ((j.dk.sz.drop a).take _) hf (.inl ⟨rfl,rfl⟩);rw[qcx];omega
theorem qd0{l:List DChg}{x:qaa}:x∈S.cells l↔∃k:Nat,k<25/\x.1=(k:Int)/\S.cellAt l k=some x:=by
 have hk:∀{k:Nat} {x:qaa},S.cellAt l k=some x->x.1=(k:Int):=fun {k x} h=>by
  unfold S.cellAt at h;cases hf:l.reverse.find? fun c=>decide (c.1 % 25=(k:Int)) with
  | none=>rw[hf] at h;cases h
  | some c=>rw[hf] at h;cases h;rfl
 show x∈(List.range 25).filterMap (S.cellAt l)↔_;rw[List.mem_filterMap];exact⟨fun ⟨k,h1,h2⟩=>⟨k,jdu.1 h1,hk h2,h2⟩,fun ⟨k,h1,_,h2⟩=>⟨k,jdu.2 h1,h2⟩⟩
theorem qhp(a b:List DChg)(k:Nat):S.cellAt (a++b) k=(S.cellAt b k).or (S.cellAt a k):=by
 unfold S.cellAt;rw[List.reverse_append,List.find?_append];cases b.reverse.find? fun c=>decide (c.1 % 25=(k:Int))<;>rfl
theorem qwi{l:List DChg}{z:Int}:(∀d∈S.cells l,d.1≠z)↔∀k:Nat,k<25->z=(k:Int)->S.cellAt l k=none:=by
 constructor
 ·intro h k hk e;cases hc:S.cellAt l k with
  | none=>rfl
  | some d =>
   have:d.1=(k:Int):=by
    unfold S.cellAt at hc;cases hf:l.reverse.find? fun c=>decide (c.1 % 25=(k:Int)) with
    | none=>rw[hf] at hc;cases hc
    | some c=>rw[hf] at hc;cases hc;rfl
   exact absurd (this.trans e.symm) (h d (qd0.2 ⟨k,hk,this,hc⟩))
 ·intro h d hd e;obtain⟨k,h1,h2,h3⟩:=qd0.1 hd;rw[h k h1 (e.symm.trans h2)] at h3;cases h3
theorem zbi{a b:List DChg}{c:List qaa}(ha:qet a)(hb:qet b)(hc:okS c (-1)):S.changed c (S.cells (a++b))=S.changed (S.changed c (S.cells a)) (S.cells b):=by
 have hab:qet (a++b):=fun x hx=>(jbn.1 hx).elim (ha x) (hb x);have k1:=(qg5 ha).1;have k2:=(qg5 hb).1;have k3:=(qg5 hab).1;have h1:=qiu hc k1;refine qsr (qiu hc k3) (qiu h1 k2) fun x=>?_;rw[qld hc k3 (by omega),qld h1 k2 (by omega),qld hc k1 (by omega),qwi,qwi,qwi];constructor
 ·rintro(⟨h,g⟩|⟨h,g⟩)
  ·obtain⟨k,e1,e2,e3⟩:=qd0.1 h;rw[qhp] at e3;cases hq:S.cellAt b k with
   | some y=>rw[hq] at e3;cases e3;exact .inl ⟨qd0.2 ⟨k,e1,e2,hq⟩,g⟩
   | none =>
    rw[hq,Option.none_or] at e3;exact .inr ⟨.inl ⟨qd0.2 ⟨k,e1,e2,e3⟩,g⟩,fun i _ e=>by
     have:i=k:=by omega
     rw[this];exact hq⟩
  ·have hg:∀k:Nat,k<25->x.1=(k:Int)->S.cellAt b k=none/\S.cellAt a k=none:=fun k hk e=>by
    have:=g k hk e;rw[qhp] at this;cases hq:S.cellAt b k with
    | some y=>rw[hq] at this;cases this
    | none=>rw[hq,Option.none_or] at this;exact⟨rfl,this⟩
   exact .inr ⟨.inr ⟨h,fun k hk e=>(hg k hk e).2⟩,fun k hk e=>(hg k hk e).1⟩
 ·rintro(⟨h,g⟩|⟨⟨h,g⟩|⟨h,g1⟩,g2⟩)
  ·obtain⟨k,e1,e2,e3⟩:=qd0.1 h;exact .inl ⟨qd0.2 ⟨k,e1,e2,by rw[qhp,e3];rfl⟩,g⟩
  ·obtain⟨k,e1,e2,e3⟩:=qd0.1 h;exact .inl ⟨qd0.2 ⟨k,e1,e2,by rw[qhp,g2 k e1 e2,e3];rfl⟩,g⟩
  ·exact .inr ⟨h,fun k hk e=>by rw[qhp,g2 k hk e,g1 k hk e];rfl⟩
theorem zfi{a b:List DChg}(h:(S.cells a).length≠0):(S.cells (a++b)).length≠0:=by
 intro e;have e:=jaz.1 e;cases hc:S.cells a with
 | nil=>rw[hc] at h;exact h rfl
 | cons x r =>
  obtain⟨k,e1,e2,e3⟩:=qd0.1 (show x∈S.cells a by rw[hc];simp);cases hq:S.cellAt (a++b) k with
  | none=>rw[qhp,e3] at hq;cases hb:S.cellAt b k<;>rw[hb] at hq<;>cases hq
  | some y =>
   have:=qd0.2 ⟨k,e1,(show y.1=(k:Int) by
    unfold S.cellAt at hq;cases hf:(a++b).reverse.find? fun c=>decide (c.1 % 25=(k:Int)) with
    | none=>rw[hf] at hq;cases hq
    | some c=>rw[hf] at hq;cases hq;rfl),hq⟩
   rw[e] at this;cases this
abbrev qqz:Type:=Bool × Unit
abbrev zcw:Nat:=8
def q8w(lf:Nat)(x1:Int)(x2:(List (List qav)))(x3:(List qav))(x4:(List qav))(x5:Int):Option qqz:=(cond (Bool.not (S.brief x2)) (some (true,())) (cond (iltI (Int.ofNat 10) (Int.ofNat x3.length)) (some (true,())) (cond (iltI (Int.ofNat 10) (Int.ofNat x4.length)) (some (true,())) (match (S.playedO x1 x2) with|none=>none|some v0=>(cond (Bool.not v0.2.1) (some (false,())) (cond (ieqI (Int.ofNat (List.length (S.cells x3))) (Int.ofNat 0)) (some (true,())) (cond (ieqI (Int.ofNat (List.length (S.cells x4))) (Int.ofNat 0)) (some (true,())) (match (S.saveO ((v0.1.1.1,v0.1.1.2),(v0.1.2.1,(v0.1.2.2.1,v0.1.2.2.2))) (S.cells x3)) with|none=>none|some v1=>(cond (Bool.not (ieqI v1.2.1 (Int.ofNat 0))) (some ((ieqI v1.2.1 (Int.ofNat 14)),())) (match (S.openO (v1.1.1.1,v1.1.1.2)) with|none=>none|some v2=>(cond (S.sameJ ((v2.1.1.1,v2.1.1.2),(v2.1.2.1,(v2.1.2.2.1,v2.1.2.2.2))) ((v1.1.1.1,v1.1.1.2),(v1.1.2.1,(v1.1.2.2.1,v1.1.2.2.2)))) (match (S.afterO v0.1.2.2.2 (S.cells x3)) with|none=>none|some v3=>(cond (Bool.not (ieqI v2.2.1 (Int.ofNat 0))) (some (false,())) (cond (Bool.not (S.sameC v1.1.2.2.2 v3.1)) (some (false,())) (match (S.valueO ((v1.1.1.1,v1.1.1.2),(v1.1.2.1,(v1.1.2.2.1,v1.1.2.2.2))) (Int.tmod (IntKind.i64.wrap x5) (Int.ofNat 200))) with|none=>none|some v4=>(cond (Bool.not (ieqI v4.2.2.1 (Int.ofNat 0))) (some (false,())) (cond (Bool.not (Decidable.decide (Eq v4.2.1 (S.namesC v1.1.2.2.2 (Int.tmod (IntKind.i64.wrap x5) (Int.ofNat 200)))))) (some (false,())) (cond (Bool.not v4.2.1) (cond (Bool.not (keqS v4.1 (S.lit []))) (some (false,())) (match (S.turnO ((v1.1.1.1,v1.1.1.2),(v1.1.2.1,(v1.1.2.2.1,v1.1.2.2.2)))) with|none=>none|some v5=>(cond (ieqI v5.2.1 (Int.ofNat 0)) (match (S.roomO ((v1.1.1.1,v1.1.1.2),(v1.1.2.1,(v1.1.2.2.1,v1.1.2.2.2)))) with|none=>none|some v6=>(match (S.roomO ((v5.1.1.1,v5.1.1.2),(v5.1.2.1,(v5.1.2.2.1,v5.1.2.2.2)))) with|none=>none|some v7=>(cond (Bool.not (ieqI v6.2.1 (Int.ofNat 0))) (some (false,())) (cond (Bool.not (ieqI v7.2.1 (Int.ofNat 0))) (some (false,())) (cond (iltI v7.1 v6.1) (some (false,())) (cond (Bool.not (S.sameC v5.1.2.2.2 v1.1.2.2.2)) (some (false,())) (match (S.saveO ((v1.1.1.1,v1.1.1.2),(v1.1.2.1,(v1.1.2.2.1,v1.1.2.2.2))) (S.cells x4)) with|none=>none|some v8=>(cond (Bool.not (ieqI v8.2.1 (Int.ofNat 0))) (some ((ieqI v8.2.1 (Int.ofNat 14)),())) (cond (Nat.ble (Nat.mul (Nat.add 0 x3.length) 4) 140737488355328) (cond (Nat.ble (Nat.mul (Nat.add x3.length x4.length) 4) 140737488355328) (match (S.saveO ((v0.1.1.1,v0.1.1.2),(v0.1.2.1,(v0.1.2.2.1,v0.1.2.2.2))) (S.cells (List.append x3 x4))) with|none=>none|some v9=>(cond (ieqI v9.2.1 (Int.ofNat 14)) (some (true,())) (cond (ieqI v9.2.1 (Int.ofNat 0)) (some ((S.sameC v9.1.2.2.2 v8.1.2.2.2),())) (some (false,()))))) none) none))))))))) (match (S.saveO ((v1.1.1.1,v1.1.1.2),(v1.1.2.1,(v1.1.2.2.1,v1.1.2.2.2))) (S.cells x4)) with|none=>none|some v10=>(cond (Bool.not (ieqI v10.2.1 (Int.ofNat 0))) (some ((ieqI v10.2.1 (Int.ofNat 14)),())) (cond (Nat.ble (Nat.mul (Nat.add 0 x3.length) 4) 140737488355328) (cond (Nat.ble (Nat.mul (Nat.add x3.length x4.length) 4) 140737488355328) (match (S.saveO ((v0.1.1.1,v0.1.1.2),(v0.1.2.1,(v0.1.2.2.1,v0.1.2.2.2))) (S.cells (List.append x3 x4))) with|none=>none|some v11=>(cond (ieqI v11.2.1 (Int.ofNat 14)) (some (true,())) (cond (ieqI v11.2.1 (Int.ofNat 0)) (some ((S.sameC v11.1.2.2.2 v10.1.2.2.2),())) (some (false,()))))) none) none)))))) (match (S.turnO ((v1.1.1.1,v1.1.1.2),(v1.1.2.1,(v1.1.2.2.1,v1.1.2.2.2)))) with|none=>none|some v12=>(cond (ieqI v12.2.1 (Int.ofNat 0)) (match (S.roomO ((v1.1.1.1,v1.1.1.2),(v1.1.2.1,(v1.1.2.2.1,v1.1.2.2.2)))) with|none=>none|some v13=>(match (S.roomO ((v12.1.1.1,v12.1.1.2),(v12.1.2.1,(v12.1.2.2.1,v12.1.2.2.2)))) with|none=>none|some v14=>(cond (Bool.not (ieqI v13.2.1 (Int.ofNat 0))) (some (false,())) (cond (Bool.not (ieqI v14.2.1 (Int.ofNat 0))) (some (false,())) (cond (iltI v14.1 v13.1) (some (false,())) (cond (Bool.not (S.sameC v12.1.2.2.2 v1.1.2.2.2)) (some (false,())) (match (S.saveO ((v1.1.1.1,v1.1.1.2),(v1.1.2.1,(v1.1.2.2.1,v1.1.2.2.2))) (S.cells x4)) with|none=>none|some v15=>(cond (Bool.not (ieqI v15.2.1 (Int.ofNat 0))) (some ((ieqI v15.2.1 (Int.ofNat 14)),())) (cond (Nat.ble (Nat.mul (Nat.add 0 x3.length) 4) 140737488355328) (cond (Nat.ble (Nat.mul (Nat.add x3.length x4.length) 4) 140737488355328) (match (S.saveO ((v0.1.1.1,v0.1.1.2),(v0.1.2.1,(v0.1.2.2.1,v0.1.2.2.2))) (S.cells (List.append x3 x4))) with|none=>none|some v16=>(cond (ieqI v16.2.1 (Int.ofNat 14)) (some (true,())) (cond (ieqI v16.2.1 (Int.ofNat 0)) (some ((S.sameC v16.1.2.2.2 v15.1.2.2.2),())) (some (false,()))))) none) none))))))))) (match (S.saveO ((v1.1.1.1,v1.1.1.2),(v1.1.2.1,(v1.1.2.2.1,v1.1.2.2.2))) (S.cells x4)) with|none=>none|some v17=>(cond (Bool.not (ieqI v17.2.1 (Int.ofNat 0))) (some ((ieqI v17.2.1 (Int.ofNat 14)),())) (cond (Nat.ble (Nat.mul (Nat.add 0 x3.length) 4) 140737488355328) (cond (Nat.ble (Nat.mul (Nat.add x3.length x4.length) 4) 140737488355328) (match (S.saveO ((v0.1.1.1,v0.1.1.2),(v0.1.2.1,(v0.1.2.2.1,v0.1.2.2.2))) (S.cells (List.append x3 x4))) with|none=>none|some v18=>(cond (ieqI v18.2.1 (Int.ofNat 14)) (some (true,())) (cond (ieqI v18.2.1 (Int.ofNat 0)) (some ((S.sameC v18.1.2.2.2 v17.1.2.2.2),())) (some (false,()))))) none) none)))))))))))) (cond (Bool.not (ieqI v2.2.1 (Int.ofNat 0))) (some (false,())) (some (false,()))))))))))))))
def qof(lf:Nat)(x1:Int)(x2:(List (List qav)))(x3:(List qav))(x4:(List qav))(x5:Int):Option qqz:=q8w lf x1 x2 x3 x4 x5
theorem zct{g:ElA [(.int .u8),(.list (.list cCosignerlaw23Change)),(.list cCosignerlaw23Change),(.list cCosignerlaw23Change),(.int .u8)]->Option qqz}(hsm:SmOK Tryz.prog [(9,qyr),(45,spz2),(46,spz5),(47,spz3),(43,qrv),(13,q8y),(16,qz7),(50,quh),(48,spz4),(18,q6a),(51,spz1),(41,qxm),(20,q8v)])(hg:∀(x:ElA [(.int .u8),(.list (.list cCosignerlaw23Change)),(.list cCosignerlaw23Change),(.list cCosignerlaw23Change),(.int .u8)]) (y:qqz),WfA [(.int .u8),(.list (.list cCosignerlaw23Change)),(.list cCosignerlaw23Change),(.list cCosignerlaw23Change),(.int .u8)] x->g x=some y->∃lf,qof lf x.1 x.2.1 x.2.2.1 x.2.2.2.1 x.2.2.2.2.1=some y):Con Tryz.prog 8 ⟨[(.int .u8),(.list (.list cCosignerlaw23Change)),(.list cCosignerlaw23Change),(.list cCosignerlaw23Change),(.int .u8)],[(false,.bool)],g⟩ :=
 conU (fi:=fi8) (hxl:=[]) (fun lf x=>qof lf x.1 x.2.1 x.2.2.1 x.2.2.2.1 x.2.2.2.2.1) cm3 cal8 trivial hsm hg
end Go.Proofs.YtnhmanoiolfapaaGreat
end

section
namespace Go.Jx
open Go Go.Sx Go.RowKit
universe u

theorem jup{m bi:Nat}{E0 Ei:Env}{S S':IS}{Wb B:World}(p0:Pre T0 E0 S)(hbi:qcw E0 S bi)(hW:Beside bi E0.w Wb)(k:PostB m T0 (E0.at_ Wb) S Ei S')(hT0:∀id,m<=id->T0.w id)(u:Upd [bi] Ei.w B) :
  ∃Wb',Beside bi E0.w Wb'/\PostB m T0 (E0.at_ Wb') S (Ei.at_ B) S':=by
 obtain⟨hle,pW,hbW⟩:=p0.beside hbi hW;have pi:=k.pre hT0 pW;have hlt:bi<Wb.heap.size:=by rw[hW.size];exact p0.st.lo bi hbi.1
 have h1:Ei.w.heap[bi]?=some Wb.heap[bi]:=(k.at_same pW hbW).trans (jcm hlt);obtain⟨B',u1,hB⟩:=zm3 u h1;obtain⟨i1,i2⟩:=Post.idle pi u1;have k2:=k.trans (PostB.of k.le hT0 i1 i2);have hltB:bi<B.heap.size:=jbf (qas h1) u.size;have h3:=Beside.put Wb bi B.heap[bi];refine⟨Wb.putObj bi B.heap[bi],⟨h3.os.trans hW.os,h3.tape.trans hW.tape,h3.output.trans hW.output,h3.size.trans hW.size,fun x hx=>(h3.same x hx).trans (hW.same x hx)⟩,?_⟩;have:=PostB.beside (E:=E0.at_ Wb) (E':=Ei.at_ B') (w:=Wb.putObj bi B.heap[bi]) (w':=B) k2 pW hbW h3 hB (by rw[jbp hlt];exact jcm hltB);exact this
section
variable {P : Program} {tt : Nat -> Option TI}
theorem zlv(hm:P.follows .mixedOrders=true)(htt:TT P tt){k f:Nat}{s:SmI}{cfg:LpC}{lf:Nat}(hc:ConW P f s){cl:Cl}(hcl:ClOK P cl)(hfr:ClFr cl){vs:List IV}{S:IS}{r:Res}(h:itW P tt k s cfg lf cl vs S=some r)
   {T:TW} {E:Env} {us:List Value} (p:Pre T E S) (hrd:tin T.r r.rd) (hwr:tin T.w r.wr) (hv:VRs E vs us):qai P f/\CallsIn Fence.wide 0 P f us.toArray E.w (RetE T E S r):=by
 refine⟨hc.callable,?_⟩;obtain⟨id,caps,xi,i,isubs,S1,w1,nt,fr,pr,assign,body,D,d0,rows,subs,S2,w2,d,l,q,rfl,h1,ho,h2,hb,h3,h4,h5,rfl⟩:=qvg h;obtain⟨t1,t2⟩:=qap hwr;obtain⟨t3,t4⟩:=qap t2;obtain⟨t5,t6⟩:=qap t3;have hTid:=qah t1;have hbits:=qsw t4;have hTi:T.w i:=hbits i (by simp);unfold itB at hb;simp only[jae] at hb;obtain⟨b1,b2,b3,b4,b5,b6,b7,b8,b9⟩:=hb;have hnd:=qk7 b1;obtain⟨u0,us,rfl,a1,a2⟩:=hv.inv;have hA:E.A id:=by cases a1;assumption
 obtain⟨E1,e1,q1,f1,il1,il2,iA,ib2,ib3⟩:=qe1 s.ips h1 p t5 a2;have p1:=q1.pre p;have hle1:=q1.env p;obtain⟨z1,z2,z3,z4,z5⟩:=hle1.alw id hA;obtain⟨fn,tmps,g1,g2,g3⟩:=p1.st.objs id (T.sub _ hTid) z1 _ ho;have hls:VRs E1 (cfg.ls.map (slot fr)) (cfg.ls.map fun t=>tmps.getD t undef):=⟨by simp,fun i hi hi2=>by
   simp only[jcb];refine g2.get _ ?_;have:=(jbg.1 b8) (cfg.ls[i]'(by simpa using hi)) (jbh _);simpa using this⟩
 obtain⟨E2,e2,q2,f2,l1,l2,A2,c2,c3⟩:=qe1 cfg.lp h2 p1 t6 hls;have p2:=q2.pre p1;have hle2:=q2.env p1;obtain⟨_,y2,y3⟩:=qej cfg.lp h3 l2;have hq12:=Post.trans p q1 f1 q2;have hf12:=f1.trans f2 q1.le;have hS2:S2.H id=some (.loop .ready none nt fr [pr] assign body D):=by
   rw[(qex _ h2).2 id (p1.bnd id z1) (by simpa using b9)];exact ho
 obtain⟨hA2,x2,x3,x4,x5⟩:=hle2.alw id z1;obtain⟨fn',tmps',g1',g2',g3'⟩:=p2.st.objs id (T.sub _ hTid) hA2 _ hS2;obtain⟨nq1,nq2⟩:=jck.1 hnd;have nq3:=(jcz.1 nq2);have hheld:Held T E2 S2 cfg.lp d rows subs:=⟨l1,l2,nq3.2.1,fun i hi=>hbits i (jb5 _ hi),A2,fun ι hι j o hj=>by
     obtain⟨id',g1,g2,g3,g4,_⟩:=qwg h3 l2 p2 (fun i hi=>T.sub _ (hbits i (jb5 _ (jbv _ hi)))) (c3 _ _ hι) j o hj;exact⟨id',g1,g2,g3,g4⟩,
   fun i hi=>qt1 ((jbg.1 b3) i hi),y3⟩
 have hidq:id ∉ rows++subs:=fun hi=>nq1 (jb5 _ hi);have hiq:i ∉ rows++subs:=fun h2=>nq3.2.2 i (by simp) i h2 rfl;have hidi:id≠i:=fun e=>nq1 (jbv _ (by simp[e]));have p0:=hheld.pre p2;have hlive:Live E2 S2.H id:=⟨p2.st.blk id (T.sub _ hTid) hA2 _ hS2 rfl,_,hS2,rfl⟩;have hns:Nums idN 0 isubs:=by
   have:isubs=[]:=jaz.1 (by rw[il2,hc.ns]);rw[this];intro j id hj;simp at hj
 have hrow:∀(j:Nat) (o:IObj),(qar s.ips idN 0 xi)[j]?=some o->∃i',[i][j]?=some i'/\E2.A i'/\(o.blk=true->E2.hb i'=true)/\OR E2 i' o:=fun j o hj=>by
   obtain⟨i,i1,i2,i3,i4⟩:=ib3 idN 0 hns j o hj;obtain⟨j1,j2,j3,j4,j5⟩:=hle2.alw i i2;exact⟨i,i1,j1,fun hb=>j5.trans (i3 hb),i4.mono hle2 i2 i3 (fun _ _=>by rw[e2])⟩
 have hread:qxh E2 s xi us [i]:=⟨fun ρ k hk=>(ib2 ρ k hk).mono hle2,hrow⟩;have hAi:E2.A i:=by
   have hj2:0<(qar s.ips idN 0 xi).length:=by rw[qa4,<- il1];simp
   obtain⟨i',i1,i2,_⟩:=hrow 0 _ (jac hj2);cases i1;exact i2
 have hLi:Live E2 S2.H i:=by
   obtain⟨cs,hcs⟩:=qt1 ((jbg.1 b2) i (by simp));exact⟨p2.st.blk i (T.sub _ hTi) hAi _ hcs rfl,_,hcs,rfl⟩
 have hfar:∀i,i ∉ rows++subs->T.r i->E2.A i->Live E2 S2.H i->∀k,(renE 0 (rows++subs) E2).A k->Live (renE 0 (rows++subs) E2) (Sc cfg.lp d).H k->(renE 0 (rows++subs) E2).ρ k≠E2.ρ i:=fun i hi ht ha hl k hk hkl e=>by
   have hk1:k<(rows++subs).length:=by have:=hk.1;omega
   have hm1:=(qb6 hk1).1;obtain⟨h0,o,ho1,ho2⟩:=hkl;have hl2:Live E2 S2.H (ol 0 (rows++subs) k):=⟨h0,(hheld.obj p2 hk1 hk.2 ho1).live ho2⟩;have:=p2.st.inj _ _ (T.sub _ (hheld.w _ hm1)) ht hk.2 ha hl2 hl e;exact hi (this▸hm1)
 have hap:qcw (renE 0 (rows++subs) E2) (Sc cfg.lp d) (E2.ρ id):=⟨p2.st.own id (T.sub _ hTid) hA2 hlive,hfar id hidq (T.sub _ hTid) hA2 hlive⟩;have hai:qcw (renE 0 (rows++subs) E2) (Sc cfg.lp d) (E2.ρ i):=⟨p2.st.own i (T.sub _ hTi) hAi hLi,hfar i hiq (T.sub _ hTi) hAi hLi⟩;have hbne:E2.ρ id≠E2.ρ i:=fun e=>hidi (p2.st.inj _ _ (T.sub _ hTid) (T.sub _ hTi) hA2 hAi hlive hLi e);have hbim:E2.ρ i∈E2.m:=p2.st.own i (T.sub _ hTi) hAi hLi;generalize hE0:renE 0 (rows++subs) E2=E0 at p0 hap hai hfar;have hE0w:E0.w=E2.w:=by rw[<- hE0];rfl
 have hE0m:E0.m=E2.m:=by rw[<- hE0];rfl
 generalize hbk:E2.ρ id=b at hap g1' hbne;generalize hbik:E2.ρ i=bi at hai hbne;obtain⟨rec,hrec⟩:∃rec:Loop,rec={ state:=.ready,pending:=none,fn:=fn',tmps:=tmps',params:=[pr].toArray,assign:=assign,body:=body,defers:=E2.ρ D }:=⟨_,rfl⟩;have hl0:E0.w.heap[b]?=some (.loop rec):=by rw[hE0w,g1',hrec]
 have htm:tmps'=tmps:=by
   have h1:=g1';rw[e2,<- hbk,x2,g1] at h1;have h1:=jb2 h1;injection h1 with h1
   injection h1 with _ _ _ h1
   exact h1.symm
 have hargs:VRs E0 (qaq cfg.lp idN 0 d) (cfg.ls.map fun t=>rec.tmps.getD t undef):=by
   have e:rec.tmps=tmps:=by rw[hrec];exact htm
   rw[e,<- hE0];exact argsP_env (E:=E2) (E':=renE 0 (rows++subs) E2) (ρ:=ol 0 (rows++subs)) (fun _ h=>h) rfl cfg.lp (fun j a b=>Held.numTo E2 _ (by rw[hheld.len];omega)) (by rw[y2];exact c2 _ _ hheld.num.1)
 generalize hg:qeq P tt cfg s.c nt lf cl pr assign body d=g at h5;have hd0:updP cfg.lp d (qc7 cfg.lp d)=d:=qn8 _ _;have hT0:∀id,mP cfg.lp<=id->T0.w id:=fun _ _=>trivial
 -- the two states of affairs
 let J:List (El s.c)->World->Prop:=fun pre W=>∃z Wb Ei,foldB g pre (qc7 cfg.lp d)=some (z,none)/\Beside bi E0.w Wb/\PostB (mP cfg.lp) T0 (E0.at_ Wb) (Sc cfg.lp d) Ei (Sc cfg.lp (updP cfg.lp d z))/\Ei.w=W
 let K:World->Prop:=fun W=>∃z cd Wb Ei,foldB g l (qc7 cfg.lp d)=some (z,some cd)/\Beside bi E0.w Wb/\PostB (mP cfg.lp) T0 (E0.at_ Wb) (Sc cfg.lp d) Ei (Sc cfg.lp (updP cfg.lp d z))/\Upd [b,bi] Ei.w W/\W.heap[b]?=some (.loop { rec with state:=.done,pending:=some cd })
 have hbes0:Beside bi E0.w E0.w:=⟨rfl,rfl,rfl,rfl,fun _ _=>rfl⟩;have hJ0:J [] E0.w:=⟨qc7 cfg.lp d,E0.w,E0,rfl,hbes0,by rw[hd0];exact PostB.refl (by rw[qig];omega) hT0 p0,rfl⟩;have hJu:∀s A B,J s A->Upd [bi] A B->J s B:=fun pre A B ⟨z,Wb,Ei,k1,hW,k2,k3⟩ u=>by
   subst k3;obtain⟨Wb',w1,w2⟩:=jup p0 hai hW k2 hT0 u;exact⟨z,Wb',Ei.at_ B,k1,w1,w2,rfl⟩
 have hKu:∀A B,K A->Upd [bi] A B->K B:=fun A B ⟨z,cd,Wb,Ei,k1,hW,k2,k3,k4⟩ u=>⟨z,cd,Wb,Ei,k1,hW,k2,k3.trans (u.mono (by simp)),(u.same _ (qas k4) (by simpa using hbne)).trans k4⟩;have hRd:∀pre A,J pre A->E2.Le (E2.at_ A):=fun pre A ⟨z,Wb,Ei,k1,hW,k2,k3⟩=>by
   subst k3;refine⟨fun _ h=>⟨h,rfl,rfl,rfl,rfl⟩,⟨fun x hx hxm=>⟨hxm,?_⟩⟩⟩;have hsz:x<Wb.heap.size:=by rw[hW.size,hE0w];exact hx
   have h1:Ei.w.heap[x]?=Wb.heap[x]?:=k2.same x hsz fun k _ ha hl e=>hxm (by rw[<- e,<- hE0m];exact p0.st.own k trivial ha hl);have h2:Wb.heap[x]?=E0.w.heap[x]?:=hW.same x fun e=>hxm (by rw[e,<- hbik];exact hbim);show Ei.w.heap[x]?=E2.w.heap[x]?;rw[h1,h2,hE0w]
 have hround:∀pre x post A0 A u,l=pre++x::post->J pre A0->Upd [bi] A0 A->(∀E:Env,E.w=A->(∀b∈E.m,b<A0.heap.size/\(b<E2.w.heap.size->b∈E2.m))->VR E (asIV s.c x) u)->YieldAt Fence.wide 0 P b #[u] A fun e B=>(∀c,(c=bi\/A0.heap.size<=c)->c<A.heap.size->B.heap[c]?=A.heap[c]?)/\((e=.returned (.bool true)/\J (pre++[x]) B)\/(e=.returned (.bool false)/\K B)):=fun pre x post A0 A u hl ⟨z,Wb0,Ei0,k1,hW0,k20,k30⟩ hup0 hu=>by
   subst k30;obtain⟨_,pW0,hiW0⟩:=p0.beside hai hW0;have hpi0:=k20.pre hT0 pW0;obtain⟨Wb,hW,k2⟩:=jup p0 hai hW0 k20 hT0 hup0;obtain⟨hleW,pW,hiW⟩:=p0.beside hai hW;have hapW:qcw (E0.at_ Wb) (Sc cfg.lp d) b:=hap;have hapW0:qcw (E0.at_ Wb0) (Sc cfg.lp d) b:=hap;have hlow0:∀k,(Ei0.at_ A).A k->Live (Ei0.at_ A) (Sc cfg.lp (updP cfg.lp d z)).H k->(Ei0.at_ A).ρ k<Ei0.w.heap.size:=fun k ha hl=>hpi0.st.lo _ (hpi0.st.own k trivial ha hl);have hmem0:∀b∈(Ei0.at_ A).m,b<Ei0.w.heap.size/\(b<E2.w.heap.size->b∈E2.m):=fun b hb=>⟨hpi0.st.lo b hb,fun hlt=>by
     rcases k20.memo b hb with h|h
     · rw[<- hE0m];exact h
     · have:Wb0.heap.size<=b:=h;rw[hW0.size,hE0w] at this;omega⟩
   obtain⟨Ei,hEi⟩:∃Ei,Ei=Ei0.at_ A:=⟨_,rfl⟩;have hEw:Ei.w=A:=by rw[hEi];rfl
   rw[<- hEi] at k2 hlow0 hmem0;rw[<- hEw];have hWb:Wb.heap[b]?=some (.loop rec):=(hW.same b hbne).trans hl0;have hWb0:Wb0.heap[b]?=some (.loop rec):=(hW0.same b hbne).trans hl0;have hb0:b<Ei0.w.heap.size:=qas ((k20.at_same pW0 hapW0).trans hWb0);have hwhole:foldB g (x::post) z=some q:=by
     rw[<- qo5 g pre (x::post) _ _ k1,<- hl];exact h5
   have hsnoc:foldB g (pre++[x]) (qc7 cfg.lp d)=foldB g [x] z:=qo5 g pre [x] _ _ k1;cases hgx:g z x with
   | none=>simp only[foldB,hgx] at hwhole;cases hwhole
   | some q1 =>
   obtain⟨z1,e⟩:=q1;rw[<- hg] at hgx;have hlow:((E0.at_ Wb).bel (mP cfg.lp)).Le Ei:=k2.env pW;have hargsB:VRs ((E0.at_ Wb).bel (mP cfg.lp)) (qaq cfg.lp idN 0 d) (cfg.ls.map fun t=>rec.tmps.getD t undef) :=
     argsP_env (E:=E0.at_ Wb) (E':=(E0.at_ Wb).bel (mP cfg.lp)) (ρ:=idN) (fun _ h=>h) rfl cfg.lp (fun j _ hj hA=>⟨⟨hA,by show j<mP cfg.lp;omega⟩,rfl,rfl,rfl,rfl⟩) (hargs.mono hleW)
   have hst:=zj9 (E:=Ei) (b:=b) (rec:=rec) hm hcl hfr htt hgx ⟨b4,b5⟩ ⟨by simpa using b6,by simpa using b7⟩ (k2.pre hT0 pW) (k2.apart pW hapW) ((k2.at_same pW hapW).trans hWb)
     (by rw[hrec];exact⟨rfl,rfl,rfl,rfl,rfl,g2'.size⟩) (hargsB.mono hlow) (hu Ei hEw hmem0)
   obtain⟨fnr,tmpr,asr,bdr,hyr,hRr⟩:=hst;refine⟨fnr,tmpr,asr,bdr,hyr,hRr.mono fun en B hB=>?_⟩;obtain⟨E',m1,m2⟩:=hB;have hall:=k2.trans m1;rw[hg] at hgx;have hiA:=k2.apart pW hiW;have hkeep:∀c,(c=bi\/Ei0.w.heap.size<=c)->c<Ei.w.heap.size->E'.w.heap[c]?=Ei.w.heap[c]?:=fun c h1 h2=>m1.same c h2 fun k _ ha hl e=>by
     rcases h1 with h1|h1
     · exact hiA.2 k ha hl (e.trans h1)
     · have:=hlow0 k ha hl;omega
   rcases m2 with ⟨rfl,rfl,rfl⟩|⟨cd,rfl,rfl,m3,m4⟩
   · refine⟨hkeep,.inl ?_⟩;refine⟨rfl,z1,Wb,E',?_,hW,hall,rfl⟩;rw[hsnoc];simp only[foldB,hgx]
   · refine⟨fun c h1 h2=>(m3.same c (qas ((hkeep c h1 h2).trans (jcm h2))) (fun hc=>by
       have hcb:c=b:=by simpa using hc
       rcases h1 with h1|h1
       · exact hbne (hcb.symm.trans h1)
       · omega)).trans (hkeep c h1 h2),.inr ?_⟩
     refine⟨rfl,z1,cd,Wb,E',?_,hW,hall,m3.mono (by simp),m4⟩;rw[hl,qo5 g pre (x::post) _ _ k1];simp only[foldB,hgx]
 have hit:=hc.it E2 xi us i l h4 p2.gl hread hbim p2.st.lo b J K;rw[hbik] at hit;have hit:=hit hJu hKu hRd hround (by rw[<- hE0w];exact hJ0);have hu0:u0=.func (.yield b) #[] #[]:=by
   cases a1;rw[<- hbk,x2,z2]
 have hw:E2.w=E.w:=by rw[e2,e1]
 rw[hw] at hit;rw[hu0,show (Value.func (.yield b) #[] #[]::us).toArray=#[.func (.yield b) #[] #[]]++us.toArray by simp];refine hit.mono fun en B ⟨hen,hB⟩=>?_
 -- what comes back
 have hfin:∀(z:ElP (refs cfg.lp)) (pe:Option Code) (Wb:World) (Ei:Env),q=(z,pe)->Beside bi E0.w Wb->PostB (mP cfg.lp) T0 (E0.at_ Wb) (Sc cfg.lp d) Ei (Sc cfg.lp (updP cfg.lp d z))->Upd [b] Ei.w B ->
     B.heap[b]?=some (.loop { rec with state:=cond pe.isNone .ready .done,pending:=pe })->RetE T E S (qlw S2 cfg id nt fr pr D assign body i rows subs (w1 ||| w2) q) en B:=fun z pe Wb Ei hqz hW k2 hup hbl=>by
   subst hqz;rw[hE0w,<- hbik] at hW;obtain⟨wr1,wr2⟩:=Post.write (o':=.dead) p2 hTi hAi hLi hW.upd trivial;have hheldW:=hheld.dead p2 hTi hAi hLi hiq hW;have p2W:=wr1.pre p2;have hle2W:=wr1.env p2;have hE0W:E0.at_ Wb=renE 0 (rows++subs) (E2.at_ Wb):=by rw[<- hE0];rfl
   rw[<- qyp cfg.lp d z,hE0W] at k2;obtain⟨m1,m2⟩:=hheldW.back (s:=sQ cfg.lp) (x:=d) p2W k2;have p3:=m1.pre p2W;have hle3:=m1.env p2W;obtain⟨n1,n2,n3,n4,n5⟩:=hle3.alw id hA2;have hlt:id<S2.next:=p2.bnd id hA2
   have hSd:(S2.set i .dead).H id=some (.loop .ready none nt fr [pr] assign body D):=by rw[IS.H_set,up_ne _ _ hidi];exact hS2
   have hobj:(qbw (sQ cfg.lp) S2.next rows subs () z (S2.set i .dead)).H id=some (.loop .ready none nt fr [pr] assign body D):=by
     unfold qbw;rw[qb7,qn5,qmm,jao (show id<(S2.set i .dead).next from hlt),qgb (fun h=>hidq (jbv _ h)),qj4 (fun h=>hidq (jb5 _ h))];exact hSd
   have hL3:Live (mrgR (E2.at_ Wb) Ei S2.next (mP (sQ cfg.lp).ps)) (qbw (sQ cfg.lp) S2.next rows subs () z (S2.set i .dead)).H id:=⟨n5.trans hlive.1,_,hobj,rfl⟩;have n2':(mrgR (E2.at_ Wb) Ei S2.next (mP (sQ cfg.lp).ps)).ρ id=b:=n2.trans hbk;have hub:Upd [(mrgR (E2.at_ Wb) Ei S2.next (mP (sQ cfg.lp).ps)).ρ id] (mrgR (E2.at_ Wb) Ei S2.next (mP (sQ cfg.lp).ps)).w B:=by rw[n2'];exact hup
   have hle4:=Env.at_le p3.st hTid n1 hL3 hub;obtain⟨w1',w2'⟩:=Post.write p3 (o':=.loop (cond pe.isNone .ready .done) pe nt fr [pr] assign body D) hTid n1 hL3 hub ⟨fn',tmps',by
     show B.heap[(mrgR (E2.at_ Wb) Ei S2.next (mP (sQ cfg.lp).ps)).ρ id]?=_;rw[n2',hbl,hrec];have:E2.ρ D=(mrgR (E2.at_ Wb) Ei S2.next (mP (sQ cfg.lp).ps)).ρ D:=((hle3.alw D g3').2.1).symm;show some (Obj.loop { state:=cond pe.isNone .ready .done,pending:=pe,fn:=fn',tmps:=tmps',params:=[pr].toArray,assign:=assign,body:=body,defers:=E2.ρ D })=_;rw[this];rfl,((g2'.mono hle2W).mono hle3).mono hle4,(hle4.alw D (hle3.alw D g3').1).1⟩
   have r0:=Post.trans p hq12 hf12 wr1;have rf0:=hf12.trans wr2 hq12.le;have r1:=Post.trans p r0 rf0 m1;have rf1:=rf0.trans m2 r0.le;exact⟨_,_,hen,rfl,.tup (us:=[]) rfl (fun i h=>by simp at h),Post.trans p r1 rf1 w1',rf1.trans w2' r1.le⟩
 rcases hB with ⟨z,Wb,Ei,k1,hW,k2,k3⟩|⟨z,cd,Wb,Ei,k1,hW,k2,k3,k4⟩
 · obtain⟨_,pW,_⟩:=p0.beside hai hW;have hapW:qcw (E0.at_ Wb) (Sc cfg.lp d) b:=hap;refine hfin z none Wb Ei (jb2 (h5.symm.trans k1)) hW k2 (by rw[k3];exact Upd.refl _ _) ?_;rw[<- k3,(k2.at_same pW hapW),show (E0.at_ Wb).w.heap[b]?=some (.loop rec) from (hW.same b hbne).trans hl0,hrec];rfl
 · obtain⟨_,pW,_⟩:=p0.beside hai hW;have hapW:qcw (E0.at_ Wb) (Sc cfg.lp d) b:=hap;have hEb:Ei.w.heap[b]?=some (.loop rec):=(k2.at_same pW hapW).trans ((hW.same b hbne).trans hl0);have hltb:b<B.heap.size:=qas k4;have hsp:Upd [bi] Ei.w (B.putObj b (.loop rec)):=⟨k3.os,k3.tape,k3.output,by rw[(Beside.put B b (.loop rec)).size];exact k3.size,fun x hx hn=>by
     by_cases e:x=b
     · subst e;rw[jbp hltb,hEb]
     · rw[jb7 e];exact k3.same x hx (by simp at hn ⊢;exact⟨e,hn⟩)⟩
   obtain⟨Wb',v1,v2⟩:=jup p0 hai hW k2 hT0 hsp;exact hfin z (some cd) Wb' (Ei.at_ (B.putObj b (.loop rec))) (jb2 (h5.symm.trans k1)) v1 v2 (Beside.put B b (.loop rec)).symm.upd k4
theorem zrm(hm:P.follows .mixedOrders=true)(htt:TT P tt){f:Nat}{s:SmI}(k:Nat)(cfg:LpC)(lf:Nat)(hc:ConW P f s):HxOK P f (itWx P tt k s cfg lf).f :=
 ⟨fun cl h1 h2 _ vs S r h T E us p hr hw hv=>zlv hm htt hc h1 h2 h p hr hw hv,fun cl _ vs S=>zsn,fun cl _ vs S r h hw _=>(zqp h hw).elim⟩
end
end Go.Jx
end

section
namespace Go.Jx
open Go Go.Sx Go.RowKit
theorem zin{E:Env}{k:IntKind}{n:Int}{v:Value}(h:VR E (.int k n) v):v=.int k n:=by cases h;rfl
theorem zeh{E:Env}{s:ByteArray}{v:Value}(h:VR E (.str s) v):v=.string s:=by cases h;rfl
theorem zor{E:Env}{b:Bool}{v:Value}(h:VR E (.bool b) v):v=.bool b:=by cases h;rfl
end Go.Jx
end

section
set_option maxRecDepth 100000
namespace Go.Jx
open Go Go.Sx Go.RowKit
theorem VR.asE{E E':Env}(hm:∀b,b∈E'.m->b∈E.m)(hw:E'.w=E.w){c:TC}{x:El c}{u:Value}(h:VR E (asIV c x) u):VR E' (asIV c x) u:=by
 cases c with
 | two a b =>
  cases h with
  | agg hl hh=>exact .agg hl fun i a b=>(VR.noid hm hw (hh i a b)).2.2 _ _ (jbh a)
 | int k=>exact(VR.noid hm hw h).2.2 (.int k) x (by simp[cel,asIV])
 | bool=>exact(VR.noid hm hw h).2.2 .bool x (by simp[cel,asIV])
 | str=>exact(VR.noid hm hw h).2.2 .str x (by simp[cel,asIV])
 | list c=>exact(VR.noid hm hw h).2.2 (.list c) x (by simp[cel,asIV])
end Go.Jx
namespace Go.Sx
open Go Go.RowKit
section
variable {P : Program} {n : Nat} {σ : Nat -> Value} {w : World} {ops : Array Oper} {rest : List Oper} {d : Nat} {ty : TypeId} {pos : String} {aft : Array Edge} {g : Option (Nat × Bool)}
def cutA(a:Addr)(cap k s:Nat):Addr:=if cap=k then a else a.add (k*s)
theorem ziy{T E:TypeId}{size bytes s2 b2:Nat}{zero z2:Value}{E':TypeDesc}{a:Addr}{len cap k:Nat}{kk:IntKind}(hT:Ty P T (.slice E) size bytes zero)(hE:Ty P E E' s2 b2 z2)(hl:k<=len)(hc:len<=cap) :
  (Instr.sliceAt T (.slice (some a) len cap) (some (.int kk (k:Nat))) none none).run P w=.ok (.slice (some (cutA a cap k s2)) (len-k) (cap-k)) w:=by
 have h1:(0:Int)<=(k:Nat)/\((k:Nat):Int)<=len:=⟨by omega,by omega⟩;by_cases h3:cap=k
 ·subst h3;simp only[Instr.sliceAt,jaf,jam hT.und,jab,Instr.slice,Instr.sliceBounds,Instr.sliceBound,asIntOf,jad,h1,je0,jcs,run_sizeOf hE,cutA];simp
 ·rw[q7c hT hE (by omega) hl hc];unfold cutA;rw[jan h3]
theorem zb4{Q:Exit->Act->World->Prop}{T E:TypeId}{size bytes s2 b2:Nat}{zero z2:Value}{E':TypeDesc}{x y:Operand}{a:Addr}{len cap k:Nat}{kk:IntKind}(hT:Ty P T (.slice E) size bytes zero)(hE:Ty P E E' s2 b2 z2)
  (hg:qao ops σ n g=true) (hx:(okO n x&&okO n y)=true) (ex:ev σ x=.slice (some a) len cap) (ey:ev σ y=.int kk (k:Nat)) (hl:k<=len) (hc:len<=cap)
  (kt:wpList P ops Q rest (Fr n (upd σ d (.slice (some (cutA a cap k s2)) (len-k) (cap-k)))) w):wpList P ops Q (⟨some d,.slice T x (some y) none none,ty,pos,aft,g⟩::rest) (Fr n σ) w:=by
 simp only[jae] at hx;exact qa7 hg (by simp only[execOp,qat hx.1,ex,Option.map_none,jc2,qat hx.2,ey,ziy hT hE hl hc,jaf,jad,jab]) kt
theorem SL.cut{M:List Nat}{a:Addr}{cap k:Nat}{l:List ByteArray}(h:SL M w (some a) cap l)(hk:k<=l.length):SL M w (some (cutA a cap k 1)) (cap-k) (l.drop k):=by
 obtain⟨⟨h1,h2⟩,h3⟩:=h;refine⟨⟨by rw[ja7];omega,by omega⟩,?_⟩;rcases h3 with rfl|⟨b,off,cells,t,fz,ha,hb,hh,hall⟩
 ·exact .inl (by simp)
 ·cases ha;by_cases hc:cap=k
  ·exact .inl (jcr (by omega))
  ·refine .inr ⟨b,off+k,cells,t,fz,?_,hb,hh,fun i hi=>?_⟩
   ·unfold cutA;rw[jan hc,qbf _ rfl,jfq]
   ·rw[ja7] at hi;obtain⟨cs,c1,c2⟩:=hall (k+i) (by omega);refine⟨cs,by rw[List.getElem_drop];exact c1,fun j hj=>?_⟩;have:=c2 j hj;have e:(Dat.sz ByteArray)=1:=rfl;rw[e] at this ⊢;rw[show off+k+i*1+j=off+(k+i)*1+j by omega];exact this
end
end Go.Sx
namespace Go.Proofs.YtnhmanoiolfapaaGreat
open Go Go.Sx Go.RowKit Go.Jx
theorem zoy:Fld Tryz.prog 151 1 1:=Fld.mk (F := ⟨"sectors", 3,1, false, "", "cosigner/keep", 24⟩) qhm rfl ty3
theorem zk5:Fld Tryz.prog 151 2 2:=Fld.mk (F := ⟨"torn", 4,2, false, "", "cosigner/keep", 32⟩) qhm rfl ty4
theorem zsy(M:List Nat)(w:World):Gl M w:=⟨fun b hb=>by cases hb⟩
theorem za5{w:World}{m0:List Nat}{a:Option Addr}{cap:Nat}{l:List ByteArray}(hS:SL m0 w a cap l)(h1:S.secs1 l=true) :
  Calls Tryz.prog 112 #[.slice a l.length cap] w (Ret fun v w'=>Upd [] w w'/\(∃a1 n1 c1,v=.agg #[.slice a1 n1 c1,.int .i64 (S.readK l).2.1,.bool (S.readK l).2.2]) /\
   ∀E:Env,E.w=w'->(∀x∈E.m,x<w.heap.size/\∀ad,a=some ad->x≠ad.block)->VR E (asIV cKeepRecord (S.readK l)) v):=by
 obtain⟨hn,hlen,hsz⟩:=qyf h1;obtain⟨⟨hc1,hc2⟩,h|⟨b,off,cells,t,fz,rfl,hb,hh,hall⟩⟩:=hS
 ·rw[h] at hn;simp at hn
 have hlt:=qas hh
 let M0:=(List.range w.heap.size).filter fun x=>!(x==b)
 have hM0:∀x∈M0,x<w.heap.size:=fun x hx=>by
  have:=(jcl.1 hx).1;simpa using this
 have hbM:b ∉ M0:=fun hx=>by
  have:=(jcl.1 hx).2;simp at this
 have hv:VR (EM M0 w) (.lst .str l) (.slice (some ⟨b,off,none⟩) l.length cap):=by
  refine VR.lst (fun i _=>.string (l.getD i S.none_)) hc1 hc2 (by show l.length*16<=_;omega) hbM hh (fun i hi j hj=>?_) (fun i hi j hj=>?_)
  ·have hj:j<1:=hj;have:j=0:=by omega
   subst this;obtain⟨cs,c1,c2⟩:=hall i hi;have c1:cs=[.string l[i]]:=c1;have:=c2 0 (by show 0<1;omega);rw[c1] at this;have hi:i<List.length (α:=ByteArray) l:=hi;rw[jai,jac hi];exact this
  ·have hj:j<1:=hj;have:j=0:=by omega
   subst this;have hi:i<List.length (α:=ByteArray) l:=hi;rw[jai,jac hi];show VR _ (.str l[i]) (.string l[i]);exact .str _ (by have:=hsz l[i] (jbh hi);omega)
 have hcall:=zqw.calls M0 w (l,()) [.slice (some ⟨b,off,none⟩) l.length cap] (S.readK l,()) (by
  show cond (S.secs1 l) (some (S.readK l,())) none=_;rw[h1];rfl) hM0 (zsy _ _) (.cons hv .nil)
 refine(jdh.1 hcall).mono fun e w' hR=>?_;obtain⟨v,E',rfl,rfl,k1,k2,k3⟩:=hR;have k1:VR E' (asIV cKeepRecord (S.readK l)) v:=k1;refine⟨⟨k2.stp.os,k2.stp.tape,k2.stp.output,k2.stp.size,fun x hx _=>k2.stp.same x hx fun id _ hA _=>hA.elim⟩,?_,fun E hE hm=>VR.asE (fun x hx=>?_) hE k1⟩
 ·generalize S.readK l=r at k1;obtain⟨cl,nn,tt⟩:=r;have k1:VR E' (.agg [.lst qac cl,.int .i64 nn,.bool tt]) v:=k1;cases k1 with
  | @agg _ us hl hh2 =>
   match us,hl,hh2 with
   | [x1,x2,x3],hl,hh2 =>
    have q1:VR E' (.lst qac cl) x1:=hh2 0 (by simp) (by simp);have q2:VR E' (.int .i64 nn) x2:=hh2 1 (by simp) (by simp);have q3:VR E' (.bool tt) x3:=hh2 2 (by simp) (by simp);rw[zin q2,zor q3];cases q1 with
    | lst0 _=>exact⟨_,_,_,rfl⟩
    | lst us h1 h2 h3 hb hh hc hu=>exact⟨_,_,_,rfl⟩
 ·obtain⟨h2,h3⟩:=hm x hx;have hxb:x≠b:=h3 _ rfl;have hx0:x∈M0:=jcl.2 ⟨by simpa using h2,by simpa using hxb⟩;rcases k2.stp.mem x hx0 h2 with h|⟨id,_,hA,_⟩
  ·exact h
  ·exact hA.elim
theorem qws(l:List ByteArray)(h:(S.readK l).2.2=false):1<=(S.readK l).2.1.toNat/\(S.readK l).2.1.toNat<=l.length/\(S.readK l).2.1=((S.readK l).2.1.toNat:Int):=by
 revert h
 unfold S.readK;split
 ·intro h;cases h
 ·rename_i hc;have h1:1<=S.recM (qab (l.getD 0 S.none_)):=by unfold S.recM;omega
  have h2:S.recM (qab (l.getD 0 S.none_))<=l.length:=by omega
  split
  ·intro _;exact⟨by simpa using h1,by simpa using h2,by simp⟩
  ·intro _;exact⟨by simpa using h1,by simpa using h2,by simp⟩
theorem zeb:∀(f:Nat) (l:List ByteArray),l.length<f->S.recsGo f l=S.recsGo (l.length+1) l:=by
 intro f;induction f using Nat.strongRecOn with
 | ind f ih =>
  intro l hl;cases l with
  | nil=>cases f with
   | zero=>omega
   | succ f=>rfl
  | cons s r=>cases f with
   | zero=>omega
   | succ f =>
    show (if (qab s).getD 0 0=0 then [] else S.readK (s::r)::cond (S.readK (s::r)).2.2 [] (S.recsGo f ((s::r).drop (S.readK (s::r)).2.1.toNat)))=(if (qab s).getD 0 0=0 then [] else S.readK (s::r)::cond (S.readK (s::r)).2.2 [] (S.recsGo (s::r).length ((s::r).drop (S.readK (s::r)).2.1.toNat)));by_cases h0:(qab s).getD 0 0=0
    ·rw[jao h0,jao h0]
    ·rw[jan h0,jan h0];cases ht:(S.readK (s::r)).2.2 with
     | true=>rfl
     | false =>
      obtain⟨h1,h2,_⟩:=qws (s::r) ht;have hd:((s::r).drop (S.readK (s::r)).2.1.toNat).length<(s::r).length:=by rw[ja7];simp only[jat] at *;omega
      show _::S.recsGo f _=_::S.recsGo _ _;rw[ih f (by omega) _ (by simp only[jat] at *;omega)];by_cases hf:(s::r).length=f
      ·rw[hf,ih f (by omega) _ (by simp only[jat] at *;omega)]
      ·rw[ih (s::r).length (by simp only[jat] at *;omega) _ hd]
theorem qrx(s:ByteArray)(r:List ByteArray):S.recsK (s::r)=if (qab s).getD 0 0=0 then [] else S.readK (s::r)::cond (S.readK (s::r)).2.2 [] (S.recsK ((s::r).drop (S.readK (s::r)).2.1.toNat)):=by
 show (if (qab s).getD 0 0=0 then [] else S.readK (s::r)::cond (S.readK (s::r)).2.2 [] (S.recsGo (s::r).length ((s::r).drop (S.readK (s::r)).2.1.toNat)))=_;by_cases h0:(qab s).getD 0 0=0
 ·rw[jao h0,jao h0]
 ·rw[jan h0,jan h0];cases ht:(S.readK (s::r)).2.2 with
  | true=>rfl
  | false =>
   obtain⟨h1,h2,_⟩:=qws (s::r) ht;have hd:((s::r).drop (S.readK (s::r)).2.1.toNat).length<(s::r).length:=by rw[ja7];simp only[jat] at *;omega
   show _::S.recsGo _ _=_::S.recsK _;unfold S.recsK;rw[zeb _ _ hd]
theorem zlr{s:ByteArray}(h:0<s.size):((qfn s 0).toNat:Int)=(qab s).getD 0 0:=by
 rw[jai,ze6 h];unfold qfn;rw[jai,jac (by simpa using h)];rfl
theorem q07{l:List ByteArray}(h:S.secs l=true)(k:Nat):S.secs (l.drop k)=true:=by
 obtain⟨h1,h2⟩:=qjd h;unfold S.secs S.anyShort;rw[jae];refine⟨ja2 (by rw[ja7];omega),?_⟩;rw[jca,jdb];intro s hs;have:=h2 s (jdx hs);unfold S.short;simp[this]
section
attribute [local irreducible] Go.wpList Go.wpQuiet Go.Code.wp
theorem zmd{W0:World}{b:Nat}{m0:List Nat}{r0:List Value}{a0:Option Addr}{cap0:Nat}{l0:List ByteArray}(hbm:b∈m0)(hlo:∀x∈m0,x<W0.heap.size)(hS0:SL m0 W0 a0 cap0 l0)(hl0:S.secs l0=true)(hbox0:Box W0 b (.slice a0 l0.length cap0::r0)) :
   q6r Tryz.prog 111 [.pointer (some ⟨b,0,none⟩)] b m0 W0 (fun W=>Tr m0 W0 m0 W) (fun(x:qfv) u E=>VR E (asIV cKeepRecord x) u) (S.recsK l0):=by
 intro l J K hJ hK hR hy h0;refine jdh.2 (Calls.mono (R:=Ret fun v B=>v=.tuple #[]/\(J (S.recsK l0) B\/K B)) ?_ (fun e B h=>by cases e<;>first|exact⟨by rw[h.1],h.2⟩|exact h.elim));refine(enter (l:=[.func (.yield l) #[] #[],.pointer (some ⟨b,0,none⟩)]) Tryz.func111 rfl Tryz.ntmps111 rfl ?_);refine wp_block ?_;refine qtb (X:=(List qfv × List ByteArray) × (Option Addr × Nat)) ((List.range 28).drop 3) (fun _=>[]) (fun x w1=>J x.1.1 w1/\SL m0 W0 x.2.1 x.2.2 x.1.2/\Box w1 b (.slice x.2.1 x.1.2.length x.2.2::r0)/\S.secs x.1.2=true/\S.recsK l0=x.1.1++S.recsK x.1.2) (fun x=>x.1.2.length) (([],l0),(a0,cap0)) trivial ⟨h0,hS0,hbox0,hl0,rfl⟩ ?_;rintro⟨⟨pre,lr⟩,a,cap⟩ τ w1 ⟨hj,hs0,hbox,hsec,hrec⟩;have hs1:SL m0 w1 a cap lr:=hs0.mono (hR _ _ hj);refine qal fun K1 hK1=>?_;refine qal fun K2 hK2=>?_;refine qau ?_;refine qg4 (v:=.slice a lr.length cap) ty22 rfl rfl rfl rfl hbox rfl ?_;refine qv7 ty22 rfl rfl rfl ?_;refine qoa rfl rfl rfl rfl ?_;cases lr with
 | nil =>
   refine qaw (v:=.bool false) rfl rfl rfl ?_;refine qf3 rfl ?_;refine qf3 rfl ?_;refine qf3 rfl ?_;refine qf3 rfl ?_;refine qf3 rfl ?_;refine qwk (v:=.bool false) rfl rfl rfl rfl ?_;refine jbc ?_;refine hK2 _ _ ?_;refine qjs rfl rfl ?_;refine wp_exit ?_;have e:S.recsK l0=pre:=by rw[hrec];exact jbl _
   exact q8m Tryz.results111 ⟨rfl,.inl (by rw[e];exact hj)⟩
 | cons s r =>
   obtain⟨hlen,hsz⟩:=qjd hsec;have hs64:s.size=64:=hsz s (by simp);refine qaw (v:=.bool true) rfl rfl (jav Value.bool (jak (by show (0:Int)<((r.length+1:Nat):Int);omega))) ?_;refine qg4 (v:=.slice a (s::r).length cap) ty22 rfl rfl rfl rfl hbox rfl ?_;refine zgi (j:=0) ty22 ty9 rfl rfl rfl rfl rfl hs1 (by simp) fun ad cs u hget henc hca=>?_;have hus:u=s:=by simpa using hget.symm
   subst hus;have henc:cs=[.string u]:=henc;subst henc;refine zhp (v:=.string u) ty9 rfl rfl rfl rfl hca rfl ?_;refine zci (j:=0) ty9.und rfl rfl rfl rfl (by omega) ?_;refine q64 rfl rfl rfl rfl ?_;refine q1i (v:=.bool (decide (((qfn u 0).toNat:Int)≠0))) rfl rfl rfl rfl ?_;refine jbc ?_;refine hK2 _ _ ?_;have hb0:=zlr (s:=u) (by omega);refine c_if rfl rfl (fun hne=>?_) (fun hne=>?_)
   · refine je4 ?_;refine hK1 _ _ ?_;have hne:¬(qab u).getD 0 0=0:=by rw[<- hb0];exact hne
     have hrk:=qrx u r;rw[jan hne] at hrk;have hsec1:S.secs1 (u::r)=true:=by unfold S.secs1;rw[hsec];rfl
     generalize hL:u::r=L at *;refine wp_block ?_;refine qal fun K3 hK3=>?_;refine qau ?_;refine qg4 (v:=.slice a L.length cap) ty22 rfl rfl rfl rfl hbox rfl ?_;refine qf9 (l:=[.tmp 14]) (args:=[.slice a L.length cap]) qz9 rfl rfl rfl (za5 hs1 hsec1) ?_;rintro _ w2 ⟨u2,⟨a1,n1,c1,rfl⟩,hvr⟩;refine zlo (zs:=[.slice none 0 0,.int .i64 0,.bool false]) qhm rfl rfl fun β w3 hβ u3 hz3 hx3=>?_;refine q8r (v:=.agg #[.slice a1 n1 c1,.int .i64 (S.readK L).2.1,.bool (S.readK L).2.2]) (cs':=[.slice a1 n1 c1,.int .i64 (S.readK L).2.1,.bool (S.readK L).2.2]) qhm rfl rfl rfl rfl hx3 rfl rfl rfl fun w4 u4 hz4 hx4=>?_;refine jbc ?_;refine hK3 _ _ ?_;have hβ1:w1.heap.size<=β:=by rw[<- hβ];exact u2.size
     have u24:Upd [] w2 w4:=Upd.old_upd u3 u4 (by omega);have u14:Upd [] w1 w4:=u2.trans u24;have hbox4:=hbox.mono0 u14;have hbltw1:b<w1.heap.size:=hbox.lt;have hneb:b≠β:=by omega
     -- what is handed over
     have hgive:∀E:Env,E.w=w4->(∀x∈E.m,x<w1.heap.size/\(x<W0.heap.size->x∈m0))->VR E (asIV cKeepRecord (S.readK L)) (.agg #[.slice a1 n1 c1,.int .i64 (S.readK L).2.1,.bool (S.readK L).2.2]):=fun E hE hm=>by
       have h1:=hvr (E.at_ w2) rfl (fun x hx=>⟨(hm x hx).1,fun ad had=>?_⟩)
       · refine VR.mono (E:=E.at_ w2) (E':=E) ⟨fun _ h=>⟨h,rfl,rfl,rfl,rfl⟩,⟨fun x hx hxm=>⟨hxm,?_⟩⟩⟩ h1;show E.w.heap[x]?=w2.heap[x]?;rw[hE];exact u24.same x hx (by simp)
       · subst had;obtain⟨_,h|⟨bl,off,cells,t,fz,ha,hbl,hh,_⟩⟩:=hs0
         · rw[<- hL] at h;cases h
         · cases ha;intro e;have e:x=bl:=e;exact hbl (e▸(hm x hx).2 (by rw[e];exact qas hh))
     have hsp:S.recsK l0=pre++S.readK L::cond (S.readK L).2.2 [] (S.recsK (L.drop (S.readK L).2.1.toNat)):=by rw[hrec,hrk]
     refine qal fun K4 hK4=>?_;refine qal fun K5 hK5=>?_;refine(wpIn_wide (n:=0)).1 (wpIn_region_lit (zdw 2 rfl ?lo rfl ?_))
     case lo=>rintro⟨_,_,h⟩;exact(show False from h)
     dsimp only [List.take_succ_cons,jfj,List.drop_succ_cons,jej];refine qaw (v:=.func (.yield l) #[] #[]) rfl rfl rfl ?_;refine qui (ds:=[.slice a1 n1 c1,.int .i64 (S.readK L).2.1,.bool (S.readK L).2.2]) qhm rfl rfl rfl rfl hx4 rfl rfl ?_;refine jbc ?_;refine zo3 ?_;refine zn0 rfl rfl rfl rfl rfl (hy pre (S.readK L) _ w1 w4 _ hsp hj (u14.mono (by simp)) hgive) ?_;rintro e w5 ⟨hfr,⟨rfl,hj5⟩|⟨rfl,hk5⟩⟩
     · have hx5:Box w5 β [.slice a1 n1 c1,.int .i64 (S.readK L).2.1,.bool (S.readK L).2.2]:=by
         obtain⟨t6,ht6⟩:=hx4;exact⟨t6,(hfr β (.inr hβ1) (qas ht6)).trans ht6⟩
       have hbox5:Box w5 b (.slice a L.length cap::r0):=by
         obtain⟨t6,ht6⟩:=hbox4;exact⟨t6,(hfr b (.inl rfl) (qas ht6)).trans ht6⟩
       refine⟨_,rfl,q0z rfl ?lo rfl ?_⟩
       case lo=>rintro⟨_,_,h⟩;exact(show False from h)
       refine q4u rfl rfl rfl ?_;refine qaw (v:=.bool false) rfl rfl rfl ?_;refine qw9 zk5 rfl rfl rfl ?_;refine qg4 (v:=.bool (S.readK L).2.2) ty4 rfl rfl rfl rfl hx5 rfl ?_;refine qwk (v:=.bool (S.readK L).2.2) rfl rfl rfl rfl ?_;refine jbc ?_;refine hK5 _ _ ?_;refine qow rfl rfl (fun ht=>?_) (fun ht=>?_)
       · rw[ht,jaa] at hsp;rw[<- hsp] at hj5;refine je7 ?_;exact ret0 Tryz.results111 ⟨rfl,.inl hj5⟩
       · rw[ht,jag] at hsp;obtain⟨k1,k2,k3⟩:=qws L ht;refine je4 ?_;refine hK4 _ _ ?_;obtain⟨ad,had⟩:∃ad,a=some ad:=by
           obtain⟨_,h|⟨bl,off,cells,t,fz,ha,_⟩⟩:=hs0
           · rw[<- hL] at h;cases h
           · exact⟨_,ha⟩
         subst had;have hcap:L.length<=cap:=hs0.1.1;refine qau ?_;refine qg4 (v:=.slice (some ad) L.length cap) ty22 rfl rfl rfl rfl hbox5 rfl ?_;refine qw9 zoy rfl rfl rfl ?_;refine qg4 (v:=.int .i64 ((S.readK L).2.1.toNat:Int)) ty3 rfl rfl rfl rfl hx5 (by rw[<- k3];rfl) ?_;refine zb4 ty22 ty9 rfl rfl rfl rfl k2 hcap ?_;refine q8r (v:=.slice (some (cutA ad cap (S.readK L).2.1.toNat 1)) (L.length-(S.readK L).2.1.toNat) (cap-(S.readK L).2.1.toNat)) (cs':=.slice (some (cutA ad cap (S.readK L).2.1.toNat 1)) (L.drop (S.readK L).2.1.toNat).length (cap-(S.readK L).2.1.toNat)::r0) ty22 rfl rfl rfl rfl hbox5 rfl (by
           simp only[jat,jbi,jae];exact⟨⟨rfl,ja2 (by show 0+1<=r0.length+1;omega)⟩,rfl⟩) (by rw[ja7];rfl) fun w6 u6 hz6 hx6=>?_
         refine jbc ?_;exact⟨((pre++[S.readK L],L.drop (S.readK L).2.1.toNat),(some (cutA ad cap (S.readK L).2.1.toNat 1),cap-(S.readK L).2.1.toNat)),by show (L.drop _).length<L.length;rw[ja7];omega,⟨hJ _ _ _ hj5 u6,hs0.cut k2,hx6,q07 hsec _,by rw[hsp,ja0];rfl⟩,_,rfl,(by repeat first|exact qbb.refl _ _|refine qbb.upd rfl ?_|refine qbb.upds rfl ?_|refine qbb.mix rfl ?_),trivial⟩
     · refine⟨_,rfl,q0z rfl ?lo rfl ?_⟩
       case lo=>rintro⟨_,_,h⟩;exact(show False from h)
       refine q4u rfl rfl rfl ?_;refine qaw (v:=.bool true) rfl rfl rfl ?_;refine qf3 rfl ?_;refine qf3 rfl ?_;refine q1i (v:=.bool true) rfl rfl rfl rfl ?_;refine jbc ?_;refine hK5 _ _ ?_;refine q56 rfl rfl ?_;refine je7 ?_;exact ret0 Tryz.results111 ⟨rfl,.inr hk5⟩
   · refine wp_exit ?_;have hz:(qab u).getD 0 0=0:=by rw[<- hb0];exact Decidable.not_not.1 hne
     have e:S.recsK l0=pre:=by rw[hrec,qrx,jao hz];exact jbl _
     exact q8m Tryz.results111 ⟨rfl,.inl (by rw[e];exact hj)⟩
end
end Go.Proofs.YtnhmanoiolfapaaGreat
namespace Go.Proofs.YtnhmanoiolfapaaGreat
open Go Go.Sx Go.RowKit Go.Jx
theorem zjb:ConW Tryz.prog 111 q0k:=by
 refine⟨zln,rfl,fun E x us i l hl hgl hrd hbm hlo=>?_⟩;obtain⟨⟨L0,_⟩,_⟩:=x;obtain⟨L,hL⟩:∃L:List ByteArray,L=L0:=⟨L0,rfl⟩;subst hL;obtain⟨hsec,rfl⟩:=qba (show cond (S.secs L) (some (S.recsK L)) none=some l from hl);obtain⟨hlen,hsz⟩:=qjd hsec;obtain⟨h1,h2⟩:=hrd;obtain⟨i',i1,i2,i3,i4⟩:=h2 0 _ rfl;have e0:i=i':=by simpa using i1
 subst e0;have i4:OR E i (.row [.lst .str L]):=i4;obtain⟨cells,t,k1,k2,k3,k4⟩:=i4;have ha:=h1 (fun _=>i) 0 (fun j id hj=>by
  cases j with
  | zero=>simpa using hj
  | succ j=>simp at hj)
 obtain⟨u,us',rfl,a1,a2⟩:=VRs.inv (v:=.ptr i 0) (cs:=[]) ha;obtain rfl:us'=[]:=jaz.1 a2.1.symm;have hu:u=.pointer (some ⟨E.ρ i,0,none⟩):=by cases a1;rfl
 subst hu;obtain⟨h0,r0,hc0⟩:∃h0 r0,cells.toList=h0::r0:=by
  cases hc:cells.toList with
  | nil=>have:=jav List.length hc;simp at this;simp [this] at k3
  | cons h r=>exact⟨h,r,rfl⟩
 have hv:VR E (.lst .str L) h0:=by
  have:=k4.2 0 (by simp) (by simp[hc0]);simpa [hc0] using this
 have hS:∃a cap,h0=.slice a L.length cap/\SL (α:=ByteArray) E.m E.w a cap L:=by
  cases hv with
  | @lst0 _ a cap hc=>exact⟨a,cap,rfl,⟨jb4 _,hc⟩,.inl rfl⟩
  | @lst _ _ bl off cap cells t fz us q1 q2 q3 hb hh hc hu =>
   refine⟨_,cap,rfl,⟨q1,q2⟩,.inr ⟨bl,off,cells,t,fz,rfl,hb,hh,fun j hj=>?_⟩⟩;refine⟨[.string L[j]],rfl,fun k hk=>?_⟩;have hk:k<1:=hk;have hk0:k=0:=by omega
   subst hk0;have q5:=hc j hj 0 (by show 0<1;omega);have q6:VR E (.str L[j]) (us j 0):=hu j hj 0 Nat.zero_lt_one;rw[zeh q6] at q5;exact q5
 obtain⟨a,cap,rfl,hS⟩:=hS;have hbox:Box E.w (E.ρ i) (.slice a L.length cap::r0):=⟨t,by rw[k1,<- hc0]⟩;have hit:=zmd hbm hlo hS hsec hbox;exact fun lb J K q1 q2 q3 q4 q5=>hit lb J K q1 q2 (fun s A h=>(q3 s A h).tr) q4 q5
end Go.Proofs.YtnhmanoiolfapaaGreat
end

noncomputable section
set_option maxRecDepth 100000
namespace Go.Proofs.YtnhmanoiolfapaaGreat
open Go Go.Sx Go.RowKit Go.Jx
def q6x:List (Nat × Hx):=[(113,qoh qac),(97,hxR qn0),(98,hxR qcz),(111,itWx Tryz.prog ttT.get 0 q0k ⟨[6,7,8,9],[.ref (.box [.map (.int .i64) .str]),.ref (.box [.dat (.int .i64)]),.ref (.box [.dat .bool]),.ref (.box [.dat .bool])],zco⟩ 0)]
abbrev qoi:Type:=qad × Bool × Unit
def q4q(lf:Nat)(x1:qaf):Option qoi:=(match (jget x1.1 (Int.ofNat 0)) with|none=>none|some v0=>(match (jget (qab v0) (Int.ofNat 0)) with|none=>none|some v1=>(cond (iltI (Int.ofNat 1) v1) (some ((([],[]),((Int.ofNat 0),((Int.ofNat 0),[]))),(false,()))) (cond (lchk (Int.ofNat 1) (Int.ofNat v0.size) (Int.ofNat v0.size) (Int.ofNat v0.size)) (cond (Bool.not (keqS (ByteArray.extract v0 1 (Int.toNat (Int.ofNat v0.size))) (S.lit [0,0,0,0,0,0,0,0,0,0,0,0,0,0,0,0,0,0,0,0,0,0,0,0,0,0,0,0,0,0,0,0,0,0,0,0,0,0,0,0,0,0,0,0,0,0,0,0,0,0,0,0,0,0,0,0,0,0,0,0,0,0,0]))) (some ((([],[]),((Int.ofNat 0),((Int.ofNat 0),[]))),(false,()))) (match (jget (qab v0) (Int.ofNat 0)) with|none=>none|some v2=>(match (cond (S.inI (Int.ofNat x1.1.length) (Int.ofNat 0) (Int.ofNat 1000)) (some ((S.half (Int.toNat (Int.ofNat x1.1.length)) (IntKind.i64.wrap v2)),())) none) with|none=>none|some v3=>(cond (lchk v3.1.1 v3.1.2 v3.1.2 (Int.ofNat x1.1.length)) (match (cond (S.secs (lsub x1.1 v3.1.1 v3.1.2)) (some (S.recsK (lsub x1.1 v3.1.1 v3.1.2))) (none:Option (List (El Go.Proofs.YtnhmanoiolfapaaGreat.cKeepRecord)))) with|none=>none|some v4=>(match (qdf (fun v5 v6=>(cond v6.2.2 (some (((v5.1.1,()),((v5.2.1.1,()),((v5.2.2.1.1,()),((true,()),())))),true)) (cond v5.2.2.1.1 (match (idxO (fun v7=>(some v7.2.2)) v6.1 0) with|none=>none|some v8=>(cond (Bool.not (iltI v8 (Int.ofNat 0))) (some (((v5.1.1,()),((v5.2.1.1,()),((v5.2.2.1.1,()),((true,()),())))),true)) (some ((((S.applied v5.1.1 v6.1),()),(((IntKind.i64.wrap (Int.add v5.2.1.1 v6.2.1)),()),((false,()),((v5.2.2.2.1.1,()),())))),false)))) (some ((((S.applied v5.1.1 v6.1),()),(((IntKind.i64.wrap (Int.add v5.2.1.1 v6.2.1)),()),((false,()),((v5.2.2.2.1.1,()),())))),false))))) v4 (([],()),(((Int.ofNat 0),()),((true,()),((false,()),()))))) with|none=>none|some v9=>(cond v9.2 (cond v9.1.2.2.2.1.1 (some ((([],[]),((Int.ofNat 0),((Int.ofNat 0),[]))),(false,()))) (cond v9.1.2.2.1.1 (some ((([],[]),((Int.ofNat 0),((Int.ofNat 0),[]))),(false,()))) (match (jget (qab v0) (Int.ofNat 0)) with|none=>none|some v10=>(match (cond (S.mapG v9.1.1.1) (some (((S.listed v9.1.1.1),()),((some v9.1.1.1),()))) none) with|none=>none|some v11=>(some (((x1.1,[]),((IntKind.i64.wrap v10),(v9.1.2.1.1,v11.1.1))),(true,()))))))) (cond v9.1.2.2.2.1.1 (some ((([],[]),((Int.ofNat 0),((Int.ofNat 0),[]))),(false,()))) (cond v9.1.2.2.1.1 (some ((([],[]),((Int.ofNat 0),((Int.ofNat 0),[]))),(false,()))) (match (jget (qab v0) (Int.ofNat 0)) with|none=>none|some v12=>(match (cond (S.mapG v9.1.1.1) (some (((S.listed v9.1.1.1),()),((some v9.1.1.1),()))) none) with|none=>none|some v13=>(some (((x1.1,[]),((IntKind.i64.wrap v12),(v9.1.2.1.1,v13.1.1))),(true,())))))))))) none)))) none))))
def qm7(lf:Nat)(x1:qaf):Option qoi:=q4q lf x1
theorem zr1(hrz20:ConR Tryz.prog 97 qn0)(hr_k_cells_list:ConR Tryz.prog 98 qcz):qa9 Tryz.prog q6x:=⟨zn1,⟨qfx hrz20,⟨qfx hr_k_cells_list,⟨zrm mixed ttOK 0 _ 0 zjb,trivial⟩⟩⟩⟩
theorem zc9{g:ElA [qam]->Option qoi}(hsm:SmOK Tryz.prog [(93,qja),(54,qxx),(77,qlv)])(hrz20:ConR Tryz.prog 97 qn0)(hr_k_cells_list:ConR Tryz.prog 98 qcz)(hg:∀(x:ElA [qam]) (y:qoi),WfA [qam] x->g x=some y->∃lf,qm7 lf x.1=some y):Con Tryz.prog 61 ⟨[qam],[(false,qae),(false,.bool)],g⟩ :=
 conU (fi:=fi61) (hxl:=q6x) (fun lf x=>qm7 lf x.1) cm3 zrp (zr1 hrz20 hr_k_cells_list) hsm hg
def qje:Nat->Option Nm:=fun k=>cond (Nat.beq k 1) (some ⟨[0,6,7,8],[],[],[(0,(.int .i64),.str)],[],0,0,false⟩) (cond (Nat.beq k 999999) (some ⟨[],[],[],[],[],0,0,false⟩) none)
def qkd:Nat->Bool:=fun k=>cond (Nat.beq k 1) true (false)
def qu5:=qkd
abbrev qcm:Type:=(Unit) × (Option (List (Int × ByteArray))) × Unit
def qvc:List (Nat × Sm):=[]
def qwj:List (Nat × Hx):=[]
def qr8(R:Type)(lf:Nat):ClK R:=qa2 Tryz.prog ttT.get ftT.get (fun _ _=>none) (smL qvc) (hxL qwj) lf 20 R
abbrev zet:Nat:=97
def qht(x1:(List (Int × ByteArray)))(x2:(List qaa))(p:Int × (List (Int × ByteArray))):NRes:=(NRes.mk (.node (some (IV.map 0)) (.node none (.node none (.node (some (IV.int .i64 (Int.ofNat x2.length))) .leaf .leaf) .leaf) .leaf) (.node none (.node none (.node (some (IV.int .i64 p.1)) .leaf .leaf) .leaf) (.node (some (IV.lst qac x2)) .leaf .leaf))) (IS.mk (.node (some (IObj.tmap (TC.int .i64) TC.str p.2)) .leaf .leaf) 1) [] 0)
def quv(lf:Nat)(x1:(List (Int × ByteArray)))(x2:(List qaa))(L1:(Int × (List (Int × ByteArray)))->Option qcm):Option qcm:=(L1 ((Int.ofNat 0),x1))
def qo7(lf:Nat)(x1:(List (Int × ByteArray)))(x2:(List qaa))(L1:(Int × (List (Int × ByteArray)))->Option qcm)(p:Int × (List (Int × ByteArray))):Option qcm:=(cond (iltI p.1 (Int.ofNat x2.length)) (match (jget x2 p.1) with|none=>none|some v0=>(cond v0.2.2 (L1 ((IntKind.i64.wrap (Int.add p.1 (Int.ofNat 1))),(@mdel (TC.int .i64) TC.str v0.1 p.2))) (L1 ((IntKind.i64.wrap (Int.add p.1 (Int.ofNat 1))),(@mset (TC.int .i64) TC.str v0.1 v0.2.1 p.2))))) (some ((),((some p.2),()))))
abbrev gz20:Type:=ElP [.ref (.mp (.int .i64) .str),.dat (.list qac)]->Option qcm
abbrev sz20(g:gz20):SmR:=⟨[.ref (.mp (.int .i64) .str),.dat (.list qac)],[],g⟩
abbrev Ez20(g:gz20)(J:JT qcm)(lf:Nat)(x1:(List (Int × ByteArray)))(x2:(List qaa)):=qbx Tryz.prog ttT.get qje (mP [.ref (.mp (.int .i64) .str),.dat (.list qac)]) fi97.nt (qr8 _ lf) lf qkd J fi97.body [] (qaz (qaq [.ref (.mp (.int .i64) .str),.dat (.list qac)] idN 0 (some x1,x2,())) 0 .leaf) (Sc [.ref (.mp (.int .i64) .str),.dat (.list qac)] (some x1,x2,())) [] (qdz ttT.get fi97 (sz20 g))
abbrev Bz20(g:gz20)(J:JT qcm)(lf k:Nat)(ms:List Nat)(q:NRes):=qb9 Tryz.prog ttT.get qje (mP [.ref (.mp (.int .i64) .str),.dat (.list qac)]) fi97.nt (qr8 _ lf) lf qkd J k fi97.body [] ms q (qdz ttT.get fi97 (sz20 g))
theorem zlh(g:gz20)(J:JT qcm)(lf:Nat)(x1:(List (Int × ByteArray)))(x2:(List qaa)):Ez20 g J lf x1 x2=quv lf x1 x2 (fun q=>J 1 [lf] (qht x1 x2 q)):=by kernel_rfl
theorem zhq(g:gz20)(J:JT qcm)(lf:Nat)(x1:(List (Int × ByteArray)))(x2:(List qaa))(m1:Nat)(p:Int × (List (Int × ByteArray))):Bz20 g J lf 1 [m1] (qht x1 x2 p)=qo7 lf x1 x2 (fun q=>J 1 [m1] (qht x1 x2 q)) p:=by kernel_rfl
theorem q7m:(regs fi97.body).Nodup:=by decide +kernel
theorem q30:okC qje qkd qu5 fi97.body none=true:=by kernel_rfl
def Az20(g:gz20)(lf:Nat):JT qcm:=atQ Tryz.prog ttT.get qje fi97 (sz20 g) (qr8 _ lf) lf qu5
def qmu(lf:Nat)(x1:(List (Int × ByteArray)))(x2:(List qaa)):Nat->(Int × (List (Int × ByteArray)))->Option qcm:=qa1 fun K p=>qo7 lf x1 x2 K p
theorem q2i(g:gz20)(lf:Nat)(x1:(List (Int × ByteArray)))(x2:(List qaa)):∀(n:Nat) (p:Int × (List (Int × ByteArray))),Az20 g lf 1 [n] (qht x1 x2 p)=qmu lf x1 x2 n p
 | 0,p=>q88 1 [0] rfl _
 | n+1,p=>by
  have ih:=q2i g lf x1 x2 n;refine(qz3 rfl (qa5 20 _) q7m q30 1 [n+1] [n] rfl _).trans ((zhq g (Az20 g lf) lf x1 x2 n p).trans ?_);rw[(show (fun q=>Az20 g lf 1 [n] (qht x1 x2 q))=(fun q=>qmu lf x1 x2 n q) from funext ih)];rfl
def Fz20(lf:Nat)(x1:(List (Int × ByteArray)))(x2:(List qaa)):Option qcm:=quv lf x1 x2 (fun q=>qmu lf x1 x2 lf q)
theorem zjl(g:gz20)(lf:Nat)(x1:(List (Int × ByteArray)))(x2:(List qaa)):Ez20 g (Az20 g lf) lf x1 x2=Fz20 lf x1 x2:=by
  refine(zlh g (Az20 g lf) lf x1 x2).trans ?_;rw[(show (fun q=>Az20 g lf 1 [lf] (qht x1 x2 q))=(fun q=>qmu lf x1 x2 lf q) from funext fun q=>q2i g lf x1 x2 lf q)];rfl
theorem zqa:qa9 Tryz.prog qwj:=trivial
theorem zql{g:gz20}(hsm:SmOK Tryz.prog qvc)(h0:∀(x:ElP [.ref (.mp (.int .i64) .str),.dat (.list qac)]) (y:qcm),g x=some y->∃(x1:(List (Int × ByteArray))) (x2:(List qaa)),x=(some x1,x2,()))(hg:∀(x1:(List (Int × ByteArray))) (x2:(List qaa)) (y:qcm),WfP [.ref (.mp (.int .i64) .str),.dat (.list qac)] (some x1,x2,())->g (some x1,x2,())=some y->∃lf,Fz20 lf x1 x2=some y):ConR Tryz.prog 97 ⟨[.ref (.mp (.int .i64) .str),.dat (.list qac)],[],g⟩ :=
 conTR (nmf:=qje) (sml:=qvc) (hxl:=qwj) (st:=qkd) (hd:=qu5) 20 mixed ttOK ftOK hsm zqa zij (by kernel_rfl) (fun x=>by kernel_rfl) q7m q30 fun x y z hx hy=>by
  obtain⟨x1,x2,rfl⟩:=h0 x (y,z) hy;obtain⟨lf,h⟩:=hg x1 x2 (y,z) hx hy;exact⟨lf,(zjl g lf x1 x2).trans h⟩
theorem zby(m:List (Int × ByteArray))(l:List qaa)(hl:l.length<LF):Fz20 LF m l=some ((),(some (S.applied m l),())):=by
 simp only[Fz20,quv];refine range0 (σ:=List (Int × ByteArray)) (R:=qcm) l (fun i m=>(i,m)) (fun _ _=>True) (fun rest _ m=>some ((),(some (S.applied m rest),()))) hl (fun K m _=>?_) (fun K i v rest m _ r hk=>?_) m trivial
 ·simp only[qo7,qca,jag];rfl
 ·simp only[qo7,r.ilt,r.get,r.next,jaa];show _=some ((),(some (S.applied (cond v.2.2 (mdel (vc:=.str) (.int .i64) v.1 m) (mset (vc:=.str) (.int .i64) v.1 v.2.1 m)) rest),()));cases v.2.2 with
  | true=>exact hk _ trivial
  | false=>exact hk _ trivial
theorem zit:ConR Tryz.prog zet qn0:=zql trivial (fun x y h=>by
 obtain⟨m,l,_⟩:=x;cases m with
 | none=>cases h
 | some m=>exact⟨m,l,rfl⟩) fun m l y hx h=>⟨LF,(zby m l (qcj (c:=qac) hx.2.1)).trans h⟩
theorem zoc(l:List ByteArray):match S.readR l with
  | some x=>S.readK l=(x.1,(x.2:Int),false)
  | none=>(S.readK l).2.2=true:=by
 unfold S.readR S.readK;by_cases hc:¬(qab (l.getD 0 S.none_)).getD 0 0=1\/l.length<S.recM (qab (l.getD 0 S.none_))
 ·rw[jao hc,jao hc]
 ·rw[jan hc,jan hc];cases S.changes (S.recN (qab (l.getD 0 S.none_))+1) ((((l.take (S.recM (qab (l.getD 0 S.none_)))).flatMap qab).drop 4).take (S.recN (qab (l.getD 0 S.none_)))) (-1) with
  | none=>rfl
  | some c =>
   simp only;cases hz:(((l.take (S.recM (qab (l.getD 0 S.none_)))).flatMap qab).drop (4+S.recN (qab (l.getD 0 S.none_)))).all fun b=>decide (b=0) with
   | true=>rfl
   | false=>rfl
abbrev StO:Type:=(List KV × Unit) × (Int × Unit) × (Bool × Unit) × (Bool × Unit) × Unit
def stO(m:List KV)(u:Int)(first torn:Bool):StO:=((m,()),((u,()),((first,()),((torn,()),()))))
def qgs(v5:StO)(v6:qfv):Option (StO × Bool):=(cond v6.2.2 (some (((v5.1.1,()),((v5.2.1.1,()),((v5.2.2.1.1,()),((true,()),())))),true)) (cond v5.2.2.1.1 (match (idxO (fun v7:qaa=>(some v7.2.2)) v6.1 0) with|none=>none|some v8=>(cond (Bool.not (iltI v8 (Int.ofNat 0))) (some (((v5.1.1,()),((v5.2.1.1,()),((v5.2.2.1.1,()),((true,()),())))),true)) (some ((((S.applied v5.1.1 v6.1),()),(((IntKind.i64.wrap (Int.add v5.2.1.1 v6.2.1)),()),((false,()),((v5.2.2.2.1.1,()),())))),false)))) (some ((((S.applied v5.1.1 v6.1),()),(((IntKind.i64.wrap (Int.add v5.2.1.1 v6.2.1)),()),((false,()),((v5.2.2.2.1.1,()),())))),false))))
theorem zpv(m:List KV)(u:Int)(first torn:Bool){r:qfv}(h:r.2.2=true):qgs (stO m u first torn) r=some (stO m u first true,true):=by
 unfold qgs;rw[h];rfl
theorem zgp(m:List KV)(u v:Nat)(first torn:Bool)(c:List qaa)(h:u+v<=100000):qgs (stO m u first torn) (c,(v:Int),false)=if first=true/\(c.any (·.2.2))=true then some (stO m u first true,true) else some (stO (S.applied m c) ((u+v:Nat):Int) false torn,false):=by
 unfold qgs stO;simp only[jag];have e1:IntKind.i64.wrap (Int.add (u:Int) (v:Int))=((u+v:Nat):Int):=qbz (n:=u+v) (by omega);have e2:idxO (fun v7:qaa=>(some v7.2.2)) c 0=some (Go.Jx.S.idx (·.2.2) c):=qn4 (fun v:qaa=>v.2.2) fun x _=>rfl;cases first with
 | false =>
  rw[jag,jan (by simp),e1]
 | true =>
  rw[jaa,e2];simp only;rw[qnw];cases c.any (·.2.2) with
  | true=>rw[jaa,jao (by simp)]
  | false=>rw[jag,jan (by simp),e1]
theorem qvy{D α:Type}{g:D->α->Option (D × Bool)}{x:α}{xs:List α}{d d':D}{b:Bool}(h:g d x=some (d',b)):qdf g (x::xs) d=cond b (some (d',true)) (qdf g xs d'):=by
 simp only[qdf,h]
theorem zbd:∀(k:Nat) (l:List ByteArray) (f:Nat) (m:List KV) (u:Nat),l.length=k->l.length<f->szS l->S.mapG m=true->u+l.length<=1000 ->
  match S.recs f l (S.listed m) u with
  | none=>∃m' u' first,qdf qgs (S.recsK l) (stO m u (decide (u=0)) false)=some (stO m' u' first true,true)
  | some (c',u')=>∃m',qdf qgs (S.recsK l) (stO m u (decide (u=0)) false)=some (stO m' u' (decide (u'=0)) false,false)/\S.mapG m'=true/\c'=S.listed m':=by
 intro k;induction k using Nat.strongRecOn with
 | ind k ih =>
  intro l f m u hk hf hs hG hu;cases f with
  | zero=>omega
  | succ f =>
   cases l with
   | nil=>exact⟨m,rfl,hG,rfl⟩
   | cons s r =>
    rw[qe2,qrx];by_cases h0:(qab s).getD 0 0=0
    ·rw[jao h0,jao h0];exact⟨m,rfl,hG,rfl⟩
    ·rw[jan h0,jan h0];have hRK:=zoc (s::r);cases hx:S.readR (s::r) with
     | none =>
      rw[hx] at hRK;refine⟨m,u,decide (u=0),?_⟩;exact qvy (zpv m u (decide (u=0)) false hRK)
     | some x =>
      rw[hx] at hRK;obtain⟨i1,i2,i3,_,_,_⟩:=qq5 hs hx;have hRK:S.readK (s::r)=(x.1,(x.2:Int),false):=hRK;rw[hRK];simp only[jag,jcf];have hst:=zgp m u x.2 (decide (u=0)) false x.1 (by omega);cases hq:(decide (u=0)&&x.1.any (·.2.2)) with
      | true =>
       rw[jaa];have hq2:=(jae _ _).mp hq;rw[jao ⟨hq2.1,hq2.2⟩] at hst;exact⟨m,u,decide (u=0),qvy hst⟩
      | false =>
       rw[jan (fun hh=>by rw[hh.1,hh.2] at hq;cases hq)] at hst;rw[jag];obtain⟨a1,a2⟩:=q3a (l:=x.1) hG i3;have hd:((s::r).drop x.2).length=(s::r).length-x.2:=ja7;have:=ih (((s::r).drop x.2).length) (by rw[hd];omega) ((s::r).drop x.2) f (S.applied m x.1) (u+x.2) rfl (by rw[hd];omega) (hs.drop x.2) a1 (by rw[hd];omega);rw[a2] at this;have hu0:decide (u+x.2=0)=false:=jap (by omega);rw[hu0] at this;rw[qvy hst,jag];exact this
theorem zl6(d:qaf)(h:S.okL d=true):qm7 LF d=some ((S.openedJ d).1,(S.openedJ d).2,()):=by
 unfold S.okL at h;simp only[jae,jb9] at h;obtain⟨h1,h2,h3⟩:=h;have h2:=jal h2;obtain⟨hle,hsz⟩:=qjd h1;simp only[qm7,q4q];have hs64:=hsz _ (qi6 (i:=0) (show 0<d.1.length by omega));obtain⟨b0,b1,b2,b3,r,hb⟩:=q36 hs64;have hrb:rng (b0::b1::b2::b3::r):=hb▸qd4 _;have hb0:=hrb b0 (by simp);have hszl:(d.1.getD 0 S.none_).size=(b0::b1::b2::b3::r).length:=by rw[<- qc4,hb]
 have l1:lchk (Int.ofNat 1) (Int.ofNat (d.1.getD 0 S.none_).size) (Int.ofNat (d.1.getD 0 S.none_).size) (Int.ofNat (d.1.getD 0 S.none_).size)=true:=by rw[hs64];rfl
 have hext:ByteArray.extract (d.1.getD 0 S.none_) 1 (Int.toNat (Int.ofNat (d.1.getD 0 S.none_).size))=qag (b1::b2::b3::r):=by
  show ByteArray.extract (d.1.getD 0 S.none_) 1 (d.1.getD 0 S.none_).size=_;rw[hszl,<- qhn (d.1.getD 0 S.none_),hb];exact qjl hrb 1
 have hr1:rng (b1::b2::b3::r):=fun x hx=>hrb x (ja8 _ hx);simp only[qnz (d:=S.none_) (show 1<=d.1.length by omega),hb,qdt,jaq,l1,hext,jaa];simp only[q9k,zo8,qb4 hr1,qb4 (qg2 63)];unfold S.openedJ S.opened;rw[hb];simp only[jfd];by_cases q1:1<b0
 ·rw[qev (show Int.ofNat 1<b0 from q1),jaa,jao (.inl q1)];rfl
 rw[qfp (show ¬Int.ofNat 1<b0 from q1),jag];by_cases q2:(b1::b2::b3::r)=List.replicate 63 0
 ·rw[jak q2,jay,jag,jan (fun hh=>hh.elim q1 (fun hh=>hh q2))];rw[show S.inI (Int.ofNat d.1.length) (Int.ofNat 0) (Int.ofNat 1000)=true from by
   unfold S.inI;rw[jak (show Int.ofNat 0<=Int.ofNat d.1.length from jb0 _),jak (show Int.ofNat d.1.length<=Int.ofNat 1000 by show ((d.1.length:Nat):Int)<=1000;omega)];rfl,jaa,wrap_in (n:=b0) (by omega)]
  simp only;obtain⟨a,e1,e2,e3,_,_⟩:=qit h3 h2 (h:=b0) (by omega);unfold S.halfS;have ehalf:S.half (Int.toNat (Int.ofNat d.1.length)) b0=S.half d.1.length b0:=rfl;rw[ehalf,e1];simp only[jcf];have hlc:lchk (a:Int) ((a+(d.1.length / 2-1):Nat):Int) ((a+(d.1.length / 2-1):Nat):Int) (Int.ofNat d.1.length)=true:=qb3.2 ⟨by omega,by omega,jbr _,by show ((a+(d.1.length / 2-1):Nat):Int)<=((d.1.length:Nat):Int);omega⟩;rw[hlc,jaa];have hsub:lsub d.1 (a:Int) ((a+(d.1.length / 2-1):Nat):Int)=(d.1.take (a+(d.1.length / 2-1))).drop a:=by
   unfold lsub;rw[jcf,jcf]
  rw[hsub];have hsz2:szS ((d.1.take (a+(d.1.length / 2-1))).drop a):=fun s hs=>hsz s (jch (jdx hs));have hlen2:((d.1.take (a+(d.1.length / 2-1))).drop a).length<=d.1.length:=by rw[ja7,jbm];omega
  have hsec2:S.secs ((d.1.take (a+(d.1.length / 2-1))).drop a)=true:=by
   refine q07 ?_ _;unfold S.secs S.anyShort;rw[jae];refine⟨ja2 (by rw[jbm];omega),?_⟩;rw[jca,jdb];intro s hs;have:=hsz s (jch hs);unfold S.short;simp[this]
  rw[hsec2];generalize (d.1.take (a+(d.1.length / 2-1))).drop a=H at hsz2 hlen2 hsec2;have hfold:=zbd H.length H (d.1.length+1) [] 0 rfl (by omega) hsz2 rfl (by omega);have hst:((([]:List KV),()),(((Int.ofNat 0:Int),()),((true,()),((false,()),()))))=stO [] (0:Nat) (decide ((0:Nat)=0)) false:=rfl
  show (match qdf qgs (S.recsK H) (stO [] (0:Nat) (decide ((0:Nat)=0)) false) with
   | none=>none
   | some v9=>_)=_
  have hl0:S.listed []=[]:=rfl;rw[hl0] at hfold;cases hrec:S.recs (d.1.length+1) H [] 0 with
  | none =>
   rw[hrec] at hfold;obtain⟨m',u',first,hfo⟩:=hfold;rw[hfo];rfl
  | some x =>
   obtain⟨c,u⟩:=x;rw[hrec] at hfold;obtain⟨m',hfo,hG,rfl⟩:=hfold;rw[hfo];simp only[stO];by_cases hu:u=0
   ·rw[jao hu,jak hu];rfl
   ·rw[jan hu,jap hu];simp only[jag];rw[hG];simp only[jaa]
 ·rw[jap q2,jax,jaa,jao (.inr q2)];rfl
theorem zo9:Con Tryz.prog 61 qgw:=zc9 ⟨qn6,qkw,qqr,trivial⟩ zit zl5 fun x y hx h=>⟨LF,by
 obtain⟨h1,h2⟩:=qba (show cond (S.okL x.1) (some ((S.openedJ x.1).1,(S.openedJ x.1).2,())) none=some y from h);exact(zl6 x.1 h1).trans (jav some h2)⟩
theorem zsm(d:qaf):S.openO d=some ((S.open_ d).1,(S.open_ d).2,()):=by unfold S.openO;rw[q0p,jaa]
theorem qum(j:qad)(l:List qaa):S.saveO j l=some ((S.save j l).1,(S.save j l).2,()):=by unfold S.saveO;rw[qe4,jaa]
theorem zj5(j:qad):S.turnO j=some ((S.turnJ j).1,(S.turnJ j).2,()):=by unfold S.turnO;rw[qe4,jaa]
theorem q2k{L:List ByteArray}{h:Int}{a u:Nat}{c:List qaa}(j:Jn L h a u c):S.roomO ((L,[]),h,(u:Int),c)=some (((L.length / 2-1-u:Nat):Int),0,()):=by
 unfold S.roomO S.room;rw[qe4,jaa,jao j.right,qnk j]
theorem zae{j:qad}(hr:S.right j=true){k:Int}(hk:0<=k/\k<=199):∃v,S.valueO j k=some (v,S.namesC j.2.2.2 k,0,())/\(S.namesC j.2.2.2 k=false->v=S.none_):=by
 unfold S.valueO S.value;rw[qe4,jaa,jao ⟨hr,qbk.2 hk⟩];cases hf:j.2.2.2.find? fun c=>decide (c.1=k) with
 | none =>
  have:S.namesC j.2.2.2 k=false:=by
   rw[jci];intro e;obtain⟨c,h1,h2⟩:=qkb.1 e;exact List.find?_eq_none.1 hf c h1 (jak h2)
  exact⟨S.none_,by rw[this],fun _=>rfl⟩
 | some c =>
  have hp:decide (c.1=k)=true:=List.find?_some (p:=fun c:qaa=>decide (c.1=k)) hf;have:S.namesC j.2.2.2 k=true:=qkb.2 ⟨c,List.mem_of_find?_eq_some hf,ja1 hp⟩;exact⟨c.2.1,by rw[this],fun e=>by rw[this] at e;cases e⟩
theorem zh6{was l:List qaa}(hw:okS was (-1))(hl:S.okC l=true):S.afterO was l=some (S.changed was l,()):=by
 unfold S.afterO;rw[znf hw hl,jaa,zmw hw hl]
theorem zkm{s:Int}{l:List (List DChg)}(hb:S.brief l=true):S.playedO s l=some (S.played s l,true,()):=by
 unfold S.playedO;rw[hb,jaa]
theorem q0u{n:Nat}{l:Nat}(h:iltI (Int.ofNat n) (Int.ofNat l)=false):l<=n:=by
 rw[qbc] at h;have:=jdt h;simp at this;omega
theorem qzk{n:Nat}(h:n<=100):Nat.ble (Nat.mul n 4) 140737488355328=true:=ja2 (by show n*4<=_;omega)
theorem zbb{L L':List ByteArray}{h h':Int}{a a' u u':Nat}{c l1 l2 l3:List qaa}(j:Jn L h a u c)(x:Jn L' h' a' u' (S.changed c l1))(k2:S.okC l2=true)(k3:S.okC l3=true)(n2:l2.length≠0)(n3:l3.length≠0)(m2:l2.length<=60)(m3:l3.length<=60)(he:S.changed c l3=S.changed (S.changed c l1) l2){p q:Nat}(hp:p<=100)(hq:q<=100) :
  (match S.saveO ((L',[]),h',(u':Int),S.changed c l1) l2 with
   | none=>none
   | some v8=>cond (!ieqI v8.2.1 (Int.ofNat 0)) (some (ieqI v8.2.1 (Int.ofNat 14),())) (cond (Nat.ble (Nat.mul p 4) 140737488355328) (cond (Nat.ble (Nat.mul q 4) 140737488355328)
    (match S.saveO ((L,[]),h,(u:Int),c) l3 with
     | none=>none
     | some v9=>cond (ieqI v9.2.1 (Int.ofNat 14)) (some (true,())) (cond (ieqI v9.2.1 (Int.ofNat 0)) (some (S.sameC v9.1.2.2.2 v8.1.2.2.2,())) (some (false,())))) none) none))=(some (true,()):Option (Bool × Unit)):=by
 have sc:∀z:List qaa,S.sameC z z=true:=fun z=>jak rfl;rw[qum];rcases qpz x k2 n2 m2 with ⟨_,_,_,_,e,_⟩|⟨e,_⟩
 ·rw[e,qum,qzk hp,qzk hq];rcases qpz j k3 n3 m3 with ⟨_,_,_,_,f,_⟩|⟨f,_⟩
  ·rw[f];show cond false _ (some (S.sameC (S.changed c l3) (S.changed (S.changed c l1) l2),()))=_;rw[he,sc];rfl
  ·rw[f];rfl
 ·rw[e];rfl
theorem zex{L:List ByteArray}{h:Int}{a u:Nat}{c:List qaa}(j:Jn L h a u c){R2:Option (Bool × Unit)}(hR:R2=some (true,())) :
  (match S.turnO ((L,[]),h,(u:Int),c) with
   | none=>none
   | some v5=>cond (ieqI v5.2.1 (Int.ofNat 0)) (match S.roomO ((L,[]),h,(u:Int),c) with
    | none=>none
    | some v6=>match S.roomO v5.1 with
     | none=>none
     | some v7=>cond (!ieqI v6.2.1 (Int.ofNat 0)) (some (false,())) (cond (!ieqI v7.2.1 (Int.ofNat 0)) (some (false,())) (cond (iltI v7.1 v6.1) (some (false,())) (cond (!S.sameC v5.1.2.2.2 c) (some (false,())) R2)))) R2)=(some (true,()):Option (Bool × Unit)):=by
 have sc:S.sameC c c=true:=jak rfl;rw[zj5];by_cases ht:(S.packed c 1).length<=L.length / 2-1
 ·obtain⟨b,e,_,x,hl,_⟩:=q8u j ht;rw[e]
  show (match S.roomO ((L,[]),h,(u:Int),c) with
    | none=>none
    | some v6=>match S.roomO ((turL L (1-h) b c,[]),1-h,(((S.packed c 1).length:Nat):Int),c) with
     | none=>none
     | some v7=>cond (!ieqI v6.2.1 (Int.ofNat 0)) (some (false,())) (cond (!ieqI v7.2.1 (Int.ofNat 0)) (some (false,())) (cond (iltI v7.1 v6.1) (some (false,())) (cond (!S.sameC c c) (some (false,())) R2))))=_
  rw[q2k j,q2k x,sc,hR];have:=j.pk;show cond (iltI (((turL L (1-h) b c).length / 2-1-(S.packed c 1).length:Nat):Int) ((L.length / 2-1-u:Nat):Int)) _ _=_;rw[hl,show iltI ((L.length / 2-1-(S.packed c 1).length:Nat):Int) ((L.length / 2-1-u:Nat):Int)=false by rw[qbc];exact jap (by omega)];rfl
 ·rw[(q7b j ht).2];exact hR
theorem zbz(lf:Nat)(s:Int)(l:List (List DChg))(ca cb:List DChg)(key:Int)(hs:0<=s/\s<=255)(hl:∀x∈l,chgB x)(ha:chgB ca)(hb:chgB cb)(hk:0<=key/\key<=255):qof lf s l ca cb key=some (true,()):=by
 have sc:∀z:List qaa,S.sameC z z=true:=fun z=>jak rfl;have i0:ieqI (0:Int) (Int.ofNat 0)=true:=rfl;unfold qof q8w;cases hbr:S.brief l with
 | false=>rfl
 | true =>
  rw[jay,jag];cases h1:iltI (Int.ofNat 10) (Int.ofNat ca.length) with
  | true=>rfl
  | false =>
   rw[jag];cases h2:iltI (Int.ofNat 10) (Int.ofNat cb.length) with
   | true=>rfl
   | false =>
    have q1:=q0u h1;have q2:=q0u h2;obtain⟨L,h,a,u,c,hj,j⟩:=zd0 hs fun x hx=>qfy (hl x hx);have hab:qet (ca++cb):=fun x hx=>(jbn.1 hx).elim (qfy ha x) (qfy hb x);obtain⟨k1,m1⟩:=qg5 (qfy ha);obtain⟨k2,m2⟩:=qg5 (qfy hb);obtain⟨k3,m3⟩:=qg5 hab;have he:=zbi (c:=c) (qfy ha) (qfy hb) j.le.2.1;have hne:=zfi (a:=ca) (b:=cb);rw[jag,zkm hbr,hj];dsimp only;rw[jay,jag];rw[show List.append ca cb=ca++cb from rfl];generalize S.cells (ca++cb)=l3 at k3 m3 he hne;generalize S.cells ca=l1 at k1 m1 he hne;generalize S.cells cb=l2 at k2 m2 he;cases g1:ieqI (Int.ofNat l1.length) (Int.ofNat 0) with
    | true=>rfl
    | false =>
     rw[jag];cases g2:ieqI (Int.ofNat l2.length) (Int.ofNat 0) with
     | true=>rfl
     | false =>
      have n1:l1.length≠0:=fun e=>by rw[e] at g1;cases g1
      have n2:l2.length≠0:=fun e=>by rw[e] at g2;cases g2
      rw[jag,qum];dsimp only;rcases qpz j k1 n1 (by omega) with ⟨L',h',a',u',e,x,_⟩|⟨e,_⟩
      ·rw[e];dsimp only;have hB:=zbb j x k2 k3 n2 (hne n1) (by omega) (by omega) he (p:=Nat.add 0 ca.length) (q:=Nat.add ca.length cb.length) (by show 0+ca.length<=_;omega) (by show ca.length+cb.length<=_;omega);have hT:=zex x hB;have hkey:Int.tmod (IntKind.i64.wrap key) (Int.ofNat 200)=key % 200:=by
        rw[wrap_in (by omega)];exact jdp hk.1
       obtain⟨v,hv,hv2⟩:=zae x.right (k:=key % 200) (by omega);rw[i0,jay,jag,zsm];dsimp only;rw[x.opened_,qe4,jaa,zh6 j.le.2.1 k1];dsimp only;rw[i0,jay,jag,sc,jay,jag,hkey,hv];dsimp only;rw[i0,jay,jag,jak rfl,jay,jag];cases hn:S.namesC (S.changed c l1) (key % 200) with
       | true=>exact hT
       | false =>
        rw[hv2 hn,show keqS S.none_ (S.lit [])=true from rfl];exact hT
      ·rw[e];rfl
theorem cont_l_KeepKept:Con Tryz.prog zcw zc2:=by
 have hR:=zi1;have hO:=zo9;exact zct ⟨zhr hR hO,zpl,zr6 hR hO,q85,q5n hR hO,zig hO,zru,qxw,zp1,zse hO,q2t,zis hR hO,zep hO,trivial⟩ fun x y hx h=>⟨0,(zbz 0 x.1 x.2.1 x.2.2.1 x.2.2.2.1 x.2.2.2.2.1 (qij (k:=.u8) hx.1) (fun z hz=>qjr (hx.2.1.2 z hz)) (qjr hx.2.2.1) (qjr hx.2.2.2.1) (qij (k:=.u8) hx.2.2.2.2.1)).trans h⟩
end Go.Proofs.YtnhmanoiolfapaaGreat
end
