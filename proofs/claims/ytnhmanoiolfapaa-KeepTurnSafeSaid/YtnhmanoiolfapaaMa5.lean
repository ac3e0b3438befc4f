/- Texts: Kw9, Kgc, Jcr, Jit, Ksx, Ksh, Ksr, Krp, Rg, Krq, Kso, Kca, Kcb, Kcc, Kcd, Kma, Kw7, Ksm, Kl3, Kl1, Kl2, Kg9, Kpf, Kpg, Kph, Kpj, Kl4, Kpl, Jiu, Jcs, Kri, Kgb, Kga, Kpi, Kpk, Kpm, Kgd, Kl9. -/
import Derived.Test.YtnhmanoiolfapaaMa4
import Derived.Shelf.Strings.Repeat
import Derived.Test.YtnhmanoiolfapaaProg
import Derived.Laws.IdiomCopy
import Derived.Laws.MakeOwn
import Derived.Test.YtnhmanoiolfapaaMa1
import Derived.Shelf.SlSortCmp.WholeK
import Derived.Shelf.SlSortCmp.NoneTotal
import Derived.Laws.IdiomRangeMap
import Derived.Test.YtnhmanoiolfapaaMa3
set_option linter.unusedVariables false
noncomputable section
set_option maxRecDepth 100000
namespace Go.Proofs.Ytnhmanoiolfapaa
open Go Go.Sx Go.RowKit Go.Jx
theorem Jn.other{L L1:List ByteArray}{h:Int}{a u:Nat}{c:List qaa}(j:Jn L h a u c){b K:Nat}(hK:K=L.length / 2-1)(hb:S.half L.length (1-h)=((b:Int),((b+K:Nat):Int)))(d:Dk L1)(hl:L1.length=L.length)(h1:L1.take b=L.take b)(h2:L1.drop (b+K)=L.drop (b+K)):Jn L1 h a u c:=by
 subst hK;have hh:=j.hh;have hge:=j.dk.ge;have hev:=j.dk.ev;obtain⟨a',e1,e2,e3,e4,e5⟩:=qep j.dk.ev j.dk.ge (h:=h) hh;obtain⟨b',f1,f2,f3,f4,f5⟩:=qep j.dk.ev j.dk.ge (h:=1-h) (by omega);have ha:a=a':=by
  have:=j.fr.symm.trans e1;have:=jas Prod.fst this;exact jc5 this
 have hb':b=b':=by
  have:=hb.symm.trans f1;have:=jas Prod.fst this;exact jc5 this
 subst ha hb';have hg:L1.getD 0 S.none_=L.getD 0 S.none_:=by
  rw[<- qs0 L1 S.none_ (n:=b) (by omega),h1,qs0 L S.none_ (by omega)]
 have hr:(L1.drop a).take (L.length / 2-1)=(L.drop a).take (L.length / 2-1):=by
  by_cases hab:a+(L.length / 2-1)<=b
  ·have:∀M:List ByteArray,(M.drop a).take (L.length / 2-1)=((M.take b).drop a).take (L.length / 2-1):=fun M=>by
    rw[jd9,jdi,jcl (by omega)]
   rw[this L1,this L,h1]
  ·have hab:b+(L.length / 2-1)<=a:=by
    rcases hh with rfl|rfl
    ·have:=e4 rfl;have:=f5 (by omega);omega
    ·have:=e5 rfl;have:=f4 (by omega);omega
   have:∀M:List ByteArray,M.drop a=(M.drop (b+(L.length / 2-1))).drop (a-(b+(L.length / 2-1))):=fun M=>by
    rw[jb5];exact jas (fun n=>M.drop n) (by omega)
   rw[this L1,this L,h2]
 exact⟨d,hh,by rw[hg];exact j.top,by rw[hl];exact j.fr,j.a1,by rw[hl];exact j.to_,by rw[hl,hr];exact j.rc,j.u1⟩
theorem zjd{α:Type}{X Y:List α}{n:Nat}(h:X.length<=n):(X++Y).take n=X++Y.take (n-X.length):=by
 rw[je7,jbp h]
theorem zmc{h h':Int}(hh:h=0\/h=1)(hh':h'=0\/h'=1){s:ByteArray}(hs:s.size=64)(ht:qab s=topB h)(n:Nat):S.tear s (topS h') n=if n=0 then s else topS h' :=
 tear_mark hs qhd (by rw[ht,q1a hh'];rfl)
theorem zm2{L:List ByteArray}{h:Int}{a u:Nat}{c:List qaa}(j:Jn L h a u c)(hr:(S.packed c 1).length<=L.length / 2-1){b:Nat}(hb:S.half L.length (1-h)=((b:Int),((b+(L.length / 2-1):Nat):Int))){n:Nat}(hn:n<=(turA L (1-h) b c).length)(kept:List Int) :
   ∃L1,S.cut (L,[]) (turA L (1-h) b c) (n:Int) kept=((L1,[]),0)/\S.cutG (L,[]) (turA L (1-h) b c) (n:Int)=true/\L1.length=L.length/\∃h1 a1 u1,Jn L1 h1 a1 u1 c:=by
 have hh:=j.hh;have hle:=j.dk.le;have hge:=j.dk.ge;have hh':1-h=0\/1-h=1:=by omega
 obtain⟨b',f1,f2,f3,_,_⟩:=qep j.dk.ev j.dk.ge (h:=1-h) hh';have hb':b=b':=by
   have:=jas Prod.fst (hb.symm.trans f1);exact jc5 this
 subst hb';have e1:(S.packed c 0).length=(S.packed c 1).length:=by rw[qbq,qbq]
 have hK:(List.replicate (L.length / 2-1) S.blank).length=L.length / 2-1:=ja5;have hf1:b+(List.replicate (L.length / 2-1) S.blank).length<=L.length:=by rw[hK];omega
 have hs1:szS (List.replicate (L.length / 2-1) S.blank):=fun s hs=>by rw[(jev.1 hs).2];exact qvh
 have d2:=j.dk.over hf1 hs1;have l2:(over L b (List.replicate (L.length / 2-1) S.blank)).length=L.length:=qcl hf1;have hA:turA L (1-h) b c=S.puts (b:Int) (List.replicate (L.length / 2-1) S.blank)++(S.sync::(S.puts (b:Int) (S.packed c 0++[])++(S.sync::S.put (b:Int) ((S.packed c 1).getD 0 S.none_)::S.sync::[S.put ((0:Nat):Int) (topS (1-h)),S.sync]))):=by
   unfold turA;rw[ja9,ja0,ja0];rfl
 have hdo:∀r,S.doD (L,[]) (S.puts (b:Int) (List.replicate (L.length / 2-1) S.blank)++r)=S.doGo r L (qay b (List.replicate (L.length / 2-1) S.blank)):=fun r=>by
   unfold S.doD;rw[jam j.dk.check];exact qgv _ b r L [] hs1 hf1 (by rw[jaw,hK];omega)
 have hpl:=qdj b (List.replicate (L.length / 2-1) S.blank);have hAl:(turA L (1-h) b c).length=L.length / 2-1+(1+((S.packed c 0).length+5)):=by
   rw[hA,jag,hpl,hK,jar,jag,qdj,ja9];simp only[jar,jaw];omega
 generalize hAg:turA L (1-h) b c=A at *;by_cases c1:n<=L.length / 2-1
 · -- blanks, not all of them synced
   have hs:szS ((List.replicate (L.length / 2-1) S.blank).take n):=fun s hs=>hs1 s (jb4 hs);have hl:((List.replicate (L.length / 2-1) S.blank).take n).length=n:=by rw[jbc,hK];omega
   have hfit:b+((List.replicate (L.length / 2-1) S.blank).take n).length<=L.length:=by omega
   have ho:S.doD (L,[]) (A.take n)=((L,qay b ((List.replicate (L.length / 2-1) S.blank).take n)),0):=by
     rw[hA,jc7 (by omega),qun];unfold S.doD;rw[jam j.dk.check];have:=qgv ((List.replicate (L.length / 2-1) S.blank).take n) b [] L [] hs hfit (by rw[jaw];omega);rw[ja9] at this;exact this.trans (qey _ _)
   have hx:=qgs (kept:=kept) ho j.dk hs hfit;obtain⟨c1,c2,c3,c4,_⟩:=qvg ((List.replicate (L.length / 2-1) S.blank).take n) b (S.kept kept ((List.replicate (L.length / 2-1) S.blank).take n).length) L j.dk.sz hs qu1 hfit;have hd:(S.crashGo (qay b ((List.replicate (L.length / 2-1) S.blank).take n)) (S.kept kept ((List.replicate (L.length / 2-1) S.blank).take n).length) L).drop (b+(L.length / 2-1))=L.drop (b+(L.length / 2-1)):=by
     have:=jas (List.drop (L.length / 2-1-n)) c4;rw[jb5,jb5,show b+((List.replicate (L.length / 2-1) S.blank).take n).length+(L.length / 2-1-n)=b+(L.length / 2-1) by omega] at this;exact this
   exact⟨_,hx,qf1 hn ho,c1,h,a,u,j.other rfl hb ⟨c2,by rw[c1];exact hge,by rw[c1];exact hle,by rw[c1];exact j.dk.ev⟩ c1 c3 hd⟩
 · -- behind them
   have j2:Jn (over L b (List.replicate (L.length / 2-1) S.blank)) h a u c:=j.other rfl hb d2 l2 (qg8 hf1) (by have:=qog hf1;rw[hK] at this;exact this);generalize hL2:over L b (List.replicate (L.length / 2-1) S.blank)=L2 at *;obtain⟨m,hm⟩:∃m,n=L.length / 2-1+1+m:=⟨n-(L.length / 2-1)-1,by omega⟩;have hto:∀q,S.doD (L,[]) (S.puts (b:Int) (List.replicate (L.length / 2-1) S.blank)++(S.sync::q))=S.doD (L2,[]) q:=fun q=>by
     rw[hdo];show S.doGo (S.sync::q) _ _=_;rw[qef,qdn _ _ _ hf1,hL2];unfold S.doD;rw[jam d2.check]
   have htk:A.take n=S.puts (b:Int) (List.replicate (L.length / 2-1) S.blank)++(S.sync::(S.puts (b:Int) (S.packed c 0++[])++(S.sync::S.put (b:Int) ((S.packed c 1).getD 0 S.none_)::S.sync::[S.put ((0:Nat):Int) (topS (1-h)),S.sync])).take m):=by
     rw[hA,zjd (by rw[hpl,hK];omega),hpl,hK,show n-(L.length / 2-1)=m+1 by omega,jd3]
   have hcut:∀k,S.cut (L,[]) A (n:Int) k=S.cut (L2,[]) (S.puts (b:Int) (S.packed c 0++[])++(S.sync::S.put (b:Int) ((S.packed c 1).getD 0 S.none_)::S.sync::[S.put ((0:Nat):Int) (topS (1-h)),S.sync])) (m:Int) k:=fun k=>by
     unfold S.cut;rw[jbs,jbs,htk,hto]
   have hg2:∀x,S.doD (L2,[]) ((S.puts (b:Int) (S.packed c 0++[])++(S.sync::S.put (b:Int) ((S.packed c 1).getD 0 S.none_)::S.sync::[S.put ((0:Nat):Int) (topS (1-h)),S.sync])).take m)=(x,0)->S.cutG (L,[]) A (n:Int)=true:=fun x hx=>qf1 hn (by rw[htk,hto,hx]);have hfit:b+(S.packed c 0++[]).length<=L2.length:=by rw[ja9,l2];omega
   have hblank:(qab (L2.getD b S.none_)).getD 0 0=0:=by
     rw[<- hL2];cases hk:L.length / 2-1 with
     | zero=>omega
     | succ k =>
       rw[jfg,qt9 (by rw[ja5];omega)];exact qrl
   rw[hcut];by_cases c2:m<=(S.packed c 0++[]).length+3
   · obtain⟨L1,x1,x2,x3,x4,x5⟩:=zk7 d2 (t:=[]) (fun s hs=>by cases hs) hfit hblank (r:=[S.put ((0:Nat):Int) (topS (1-h)),S.sync]) rfl c2 kept;have hG:S.cutG (L,[]) A (n:Int)=true:=by
       unfold S.cutG at x2;rw[jae,jbs] at x2;have x2:=ja2 x2.2;exact hg2 (S.doD (L2,[]) _).1 (Prod.ext rfl x2)
     refine⟨L1,x1,hG,x3.trans l2,h,a,u,j2.other (b:=b) (K:=L.length / 2-1) (by rw[l2]) (by rw[l2];exact hb) x4 x3 ?_ ?_⟩
     · rcases x5 with e|⟨_,e,_⟩
       · rw[e];exact qg8 (by rw[ja9] at hfit ⊢;rw[<- e1];exact hfit)
       · exact e
     · have hd:L1.drop (b+(S.packed c 0++[]).length)=L2.drop (b+(S.packed c 0++[]).length):=by
         rcases x5 with e|⟨_,_,e,_⟩
         · have:=qog (L:=L2) (a:=b) (ss:=S.packed c 1++[]) (by rw[ja9] at hfit ⊢;rw[<- e1];exact hfit);have hl01:(S.packed c 0++([]:List ByteArray)).length=(S.packed c 1++([]:List ByteArray)).length:=by rw[ja9,ja9,e1]
           rw[e,hl01];exact this
         · exact e
       have:=jas (List.drop (L.length / 2-1-(S.packed c 0).length)) hd;rw[ja9,jb5,jb5,show b+(S.packed c 0).length+(L.length / 2-1-(S.packed c 0).length)=b+(L.length / 2-1) by omega] at this;exact this
   · -- the first sector, written in part or wholly
     have hfc:b+(S.packed c 1).length<=L2.length:=by rw[l2];omega
     have d3:=d2.over hfc (qds c 1);have l3:(over L2 b (S.packed c 1)).length=L2.length:=qcl hfc;have hT:=(qsg j hr);obtain⟨b2,t1,_,_,t4,t5⟩:=hT;have hb2:b=b2:=by
       have:=jas Prod.fst (hb.symm.trans t1);exact jc5 this
     subst hb2;have j3:Jn (over L2 b (S.packed c 1)) h a u c:=j2.other (b:=b) (K:=L.length / 2-1) (by rw[l2]) (by rw[l2];exact hb) d3 l3 (qg8 hfc) (by
       have:=jas (List.drop (L.length / 2-1-(S.packed c 1).length)) (qog hfc);rw[jb5,jb5,show b+(S.packed c 1).length+(L.length / 2-1-(S.packed c 1).length)=b+(L.length / 2-1) by omega] at this;exact this)
     have htl:turL L (1-h) b c=over (over L2 b (S.packed c 1)) 0 [topS (1-h)]:=by unfold turL;rw[hL2]
     have hdl:∀q,S.doD (L2,[]) (S.puts (b:Int) (S.packed c 0++[])++(S.sync::S.put (b:Int) ((S.packed c 1).getD 0 S.none_)::S.sync::q))=S.doGo q (over L2 b (S.packed c 1)) []:=fun q=>by
       unfold S.doD;rw[jam d2.check];have:=qsp (L:=L2) (a:=b) (l:=c) (tail:=[]) (r:=q) (fun s hs=>by cases hs) (by rw[jaw];exact hfc) (by rw[l2];exact hle);rw[ja9 (S.packed c 1)] at this;exact this
     have hlen0:0+[topS (1-h)].length<=(over L2 b (S.packed c 1)).length:=by rw[l3,l2];show 0+1<=_;omega
     have hsT:szS [topS (1-h)]:=fun s hs=>by rw[jb0.1 hs];exact qhd
     have hpl2:=qdj b (S.packed c 0++[]);by_cases c3:m=(S.packed c 0++[]).length+4
     · have ho:S.doD (L2,[]) ((S.puts (b:Int) (S.packed c 0++[])++(S.sync::S.put (b:Int) ((S.packed c 1).getD 0 S.none_)::S.sync::[S.put ((0:Nat):Int) (topS (1-h)),S.sync])).take m)=((over L2 b (S.packed c 1),qay 0 [topS (1-h)]),0):=by
         rw[qku (i:=4) (by omega)];show S.doD (L2,[]) (S.puts (b:Int) (S.packed c 0++[])++(S.sync::S.put (b:Int) ((S.packed c 1).getD 0 S.none_)::S.sync::[S.put ((0:Nat):Int) (topS (1-h))]))=_;rw[hdl,qgx qhd (by rw[l3,l2];omega) (by rw[jaw];omega),qey];rfl
       have hx:=qgs (kept:=kept) ho d3 hsT hlen0;have hcr:S.crashGo (qay 0 [topS (1-h)]) (S.kept kept 1) (over L2 b (S.packed c 1))=over L2 b (S.packed c 1)\/S.crashGo (qay 0 [topS (1-h)]) (S.kept kept 1) (over L2 b (S.packed c 1))=turL L (1-h) b c:=by
         cases hk:S.kept kept 1 with
         | nil=>exact .inl rfl
         | cons x r =>
           have h0:0<(over L2 b (S.packed c 1)).length:=by rw[l3,l2];omega
           have e:S.crashGo (qay 0 [topS (1-h)]) (x::r) (over L2 b (S.packed c 1))=(over L2 b (S.packed c 1)).set 0 (S.tear ((over L2 b (S.packed c 1)).getD 0 S.none_) (topS (1-h)) x.toNat):=by
             show S.crashGo [] r (List.set _ 0 (S.tear (List.getD _ 0 S.none_) _ x.toNat))=_;cases r<;>rfl
           rw[e,zmc hh hh' (j3.dk.sz _ (qeh h0)) j3.top];by_cases hx0:x.toNat=0
           · left;rw[jam hx0,jai,jac h0];exact List.set_getElem_self h0
           · right;rw[jao hx0,htl];have:=qdn [topS (1-h)] 0 (over L2 b (S.packed c 1)) hlen0;rw[<- this];rfl
       rcases hcr with e|e
       · exact⟨_,hx.trans (by rw[show [topS (1-h)].length=1 from rfl,e]),hg2 _ ho,l3.trans l2,h,a,u,j3⟩
       · exact⟨_,hx.trans (by rw[show [topS (1-h)].length=1 from rfl,e]),hg2 _ ho,t5,_,_,_,t4⟩
     · have c4:m=(S.packed c 0++[]).length+5:=by rw[ja9] at c2 c3 ⊢;omega
       have ho:S.doD (L2,[]) ((S.puts (b:Int) (S.packed c 0++[])++(S.sync::S.put (b:Int) ((S.packed c 1).getD 0 S.none_)::S.sync::[S.put ((0:Nat):Int) (topS (1-h)),S.sync])).take m)=((turL L (1-h) b c,qay 0 []),0):=by
         rw[qku (i:=5) (by omega)];show S.doD (L2,[]) (S.puts (b:Int) (S.packed c 0++[])++(S.sync::S.put (b:Int) ((S.packed c 1).getD 0 S.none_)::S.sync::[S.put ((0:Nat):Int) (topS (1-h)),S.sync]))=_;rw[hdl,qgx qhd (by rw[l3,l2];omega) (by rw[jaw];omega),qef,qey,htl];exact jas (fun z=>((z,[]),0)) (qdn [topS (1-h)] 0 _ hlen0)
       have hx:=qgs (kept:=kept) ho t4.dk (fun s hs=>by cases hs) (by rw[t5,jaw];omega);exact⟨_,hx,hg2 _ ho,t5,_,_,_,t4⟩
def qld:Nat->Option Nm:=fun k=>cond (Nat.beq k 2) (some ⟨[0,3],[],[],[],[],0,0,false⟩) (none)
def qkh:Nat->Bool:=fun k=>cond (Nat.beq k 2) true (false)
def q3i:=qkh
abbrev qdb:Type:=Bool × Unit
def q16:List (Nat × Sm):=[]
def q2z:List (Nat × Hx):=[]
def qt3(R:Type)(lf:Nat):ClK R:=qa4 Try.prog ttT.get ftT.get (nm1 6 qld) (smL q16) (hxL q2z) lf 20 R
abbrev zk6:Nat:=6
def qhn(x1:(List (List qax)))(p:Int):NRes:=(NRes.mk (.node (some (IV.lst (TC.list cCosignerlaw23Change) x1)) (.node none (.node (some (IV.int .i64 p)) .leaf .leaf) .leaf) .leaf) (IS.mk .leaf 0) [] 0)
def qs5(lf:Nat)(x1:(List (List qax)))(L2:Int->Option qdb):Option qdb:=(L2 (Int.ofNat 0))
def qi6(lf:Nat)(x1:(List (List qax)))(L2:Int->Option qdb)(p:Int):Option qdb:=(cond (iltI p (Int.ofNat x1.length)) (match (jget x1 p) with|none=>none|some v0=>(cond (iltI (Int.ofNat 10) (Int.ofNat v0.length)) (some (false,())) (L2 (IntKind.i64.wrap (Int.add p (Int.ofNat 1)))))) (some ((Bool.not (iltI (Int.ofNat 12) (Int.ofNat x1.length))),())))
abbrev gz12:Type:=ElA [(.list (.list cCosignerlaw23Change))]->Option qdb
abbrev sz12(g:gz12):Sm:=⟨[(.list (.list cCosignerlaw23Change))],[(false,.bool)],g⟩
abbrev Ez12(g:gz12)(J:JT qdb)(lf:Nat)(x1:(List (List qax))):=qb5 Try.prog ttT.get qld fi6.nt (qt3 _ lf) lf qkh J fi6.body [] (qa0 (argV [(.list (.list cCosignerlaw23Change))] (x1,())) 0 .leaf) S0 [] (qa1 ttT.get fi6 (sz12 g))
abbrev Bz12(g:gz12)(J:JT qdb)(lf k:Nat)(ms:List Nat)(q:NRes):=qcm Try.prog ttT.get qld fi6.nt (qt3 _ lf) lf qkh J k fi6.body [] ms q (qa1 ttT.get fi6 (sz12 g))
theorem zmu(g:gz12)(J:JT qdb)(lf:Nat)(x1:(List (List qax))):Ez12 g J lf x1=qs5 lf x1 (fun q=>J 2 [lf] (qhn x1 q)):=by kernel_rfl
theorem zns(g:gz12)(J:JT qdb)(lf:Nat)(x1:(List (List qax)))(m1:Nat)(p:Int):Bz12 g J lf 2 [m1] (qhn x1 p)=qi6 lf x1 (fun q=>J 2 [m1] (qhn x1 q)) p:=by kernel_rfl
theorem qx4:(regs fi6.body).Nodup:=by decide +kernel
theorem qzo:okC qld qkh q3i fi6.body none=true:=by kernel_rfl
def Az12(g:gz12)(lf:Nat):JT qdb:=atN Try.prog ttT.get qld fi6 (sz12 g) (qt3 _ lf) lf q3i
def qme(lf:Nat)(x1:(List (List qax))):Nat->(Int)->Option qdb:=qa9 fun K p=>qi6 lf x1 K p
theorem qz8(g:gz12)(lf:Nat)(x1:(List (List qax))):∀(n:Nat) (p:Int),Az12 g lf 2 [n] (qhn x1 p)=qme lf x1 n p
 | 0,p=>qb4 2 [0] rfl _
 | n+1,p=>by
  have ih:=qz8 g lf x1 n;refine(qb6 (qbh 20 _) qx4 qzo 2 [n+1] [n] rfl _).trans ((zns g (Az12 g lf) lf x1 n p).trans ?_);rw[(show (fun q=>Az12 g lf 2 [n] (qhn x1 q))=(fun q=>qme lf x1 n q) from funext ih)];rfl
def Fz12(lf:Nat)(x1:(List (List qax))):Option qdb:=qs5 lf x1 (fun q=>qme lf x1 lf q)
theorem zit(g:gz12)(lf:Nat)(x1:(List (List qax))):Ez12 g (Az12 g lf) lf x1=Fz12 lf x1:=by
  refine(zmu g (Az12 g lf) lf x1).trans ?_;rw[(show (fun q=>Az12 g lf 2 [lf] (qhn x1 q))=(fun q=>qme lf x1 lf q) from funext fun q=>qz8 g lf x1 lf q)];rfl
theorem q82:qbi Try.prog q2z:=trivial
theorem ze2{g:gz12}(hsm:SmOK Try.prog q16)(hg:∀(x:ElA [(.list (.list cCosignerlaw23Change))]) (y:qdb),WfA [(.list (.list cCosignerlaw23Change))] x->g x=some y->∃lf,Fz12 lf x.1=some y):Con Try.prog 6 ⟨[(.list (.list cCosignerlaw23Change))],[(false,.bool)],g⟩ :=
 conV (st:=qkh) (fun lf x=>Fz12 lf x.1) cm3 cal6 q82 qx4 qzo (fun lf x=>zit g lf x.1) hsm hg
def qla:Nat->Option Nm:=fun k=>cond (Nat.beq k 3) (some ⟨[0,3,4],[(3,qac)],[],[],[],0,0,false⟩) (cond (Nat.beq k 6) (some ⟨[0,3,4,5],[(3,qac)],[],[],[],0,0,false⟩) (cond (Nat.beq k 11) (some ⟨[0,3,4,5,6,7],[(3,qac)],[],[],[],0,0,false⟩) (none)))
def qje:Nat->Bool:=fun k=>cond (Nat.beq k 3) true (cond (Nat.beq k 6) true (cond (Nat.beq k 11) true (false)))
def qy2:=qje
abbrev qa8:Type:=(List qaa) × Unit
def q2v:List (Nat × Sm):=[]
def q6j:List (Nat × Hx):=[]
def qsh(R:Type)(lf:Nat):ClK R:=qa4 Try.prog ttT.get ftT.get (nm1 13 qla) (smL q2v) (hxL q6j) lf 20 R
abbrev zfo:Nat:=13
def qc7(x1:(List qax))(p:Int × (List qaa)):NRes:=(NRes.mk (.node (some (IV.lst cCosignerlaw23Change x1)) (.node none (.node (some (IV.arr 0)) .leaf .leaf) .leaf) (.node none (.node (some (IV.int .i64 p.1)) .leaf .leaf) .leaf)) (IS.mk (.node (some (IObj.arr qac p.2)) .leaf .leaf) 1) [] 0)
def qei(x1:(List qax))(p:Int × Int × (List qaa)):NRes:=(NRes.mk (.node (some (IV.lst cCosignerlaw23Change x1)) (.node none (.node (some (IV.arr 0)) .leaf .leaf) (.node (some (IV.int .i64 p.1)) .leaf .leaf)) (.node none (.node (some (IV.int .i64 p.2.1)) .leaf .leaf) .leaf)) (IS.mk (.node (some (IObj.arr qac p.2.2)) .leaf .leaf) 1) [] 0)
def qhc(x1:(List qax))(p:Bool × Int × Int × ByteArray × Int × (List qaa) × Int):NRes:=(NRes.mk (.node (some (IV.lst cCosignerlaw23Change x1)) (.node none (.node (some (IV.arr 0)) (.node (some (IV.int .i64 p.2.2.1)) .leaf .leaf) .leaf) (.node (some (IV.int .i64 p.2.1)) .leaf .leaf)) (.node none (.node (some (IV.int .i64 p.2.2.2.2.1)) .leaf .leaf) (.node (some (IV.ptr 1 0)) .leaf .leaf))) (IS.mk (.node (some (IObj.arr qac p.2.2.2.2.2.1)) (.node (some (IObj.row (List.cons (IV.int .i64 p.2.2.2.2.2.2) (List.cons (IV.str p.2.2.2.1) [(IV.bool p.1)])))) .leaf .leaf) .leaf) 2) [] 0)
def qqs(lf:Nat)(x1:(List qax))(L3:(Int × (List qaa))->Option qa8):Option qa8:=(L3 ((Int.ofNat 0),[]))
def qoe(lf:Nat)(x1:(List qax))(L6:(Int × Int × (List qaa))->Option qa8)(p:Int × (List qaa)):Option qa8:=(cond (Bool.not (iltI (Int.ofNat 24) p.1)) (L6 ((IntKind.i64.wrap (Int.sub (Int.ofNat x1.length) (Int.ofNat 1))),p.1,p.2)) (some (p.2,())))
def qmx(lf:Nat)(x1:(List qax))(L6:(Int × Int × (List qaa))->Option qa8)(L11:(Bool × Int × Int × ByteArray × Int × (List qaa) × Int)->Option qa8)(L3:(Int × (List qaa))->Option qa8)(p:Int × Int × (List qaa)):Option qa8:=(cond (Bool.not (iltI p.1 (Int.ofNat 0))) (match (jget x1 p.1) with|none=>none|some v0=>(cond (Bool.not (ieqI (Int.tmod (IntKind.i64.wrap v0.1) (Int.ofNat 25)) p.2.1)) (L6 ((IntKind.i64.wrap (Int.sub p.1 (Int.ofNat 1))),p.2.1,p.2.2)) (match (jget x1 p.1) with|none=>none|some v26=>(L11 (v26.2.2.2,p.1,(Int.ofNat 0),(S.lit []),p.2.1,p.2.2,p.2.1))))) (L3 ((IntKind.i64.wrap (Int.add p.2.1 (Int.ofNat 1))),p.2.2)))
def qn7(lf:Nat)(x1:(List qax))(L11:(Bool × Int × Int × ByteArray × Int × (List qaa) × Int)->Option qa8)(L3:(Int × (List qaa))->Option qa8)(p:Bool × Int × Int × ByteArray × Int × (List qaa) × Int):Option qa8:=(match (jget x1 p.2.1) with|none=>none|some v0=>(cond (iltI p.2.2.1 (IntKind.i64.wrap v0.2.1)) (cond (Bool.not p.1) (match (jget x1 p.2.1) with|none=>none|some v1=>(cond (Nat.ble (Nat.succ (Nat.add p.2.2.2.1.size 1)) 9223372036854775808) (L11 (p.1,p.2.1,(IntKind.i64.wrap (Int.add p.2.2.1 (Int.ofNat 1))),(ByteArray.append p.2.2.2.1 (ByteArray.mk (Array.mk (List.cons (UInt8.ofBitVec (BitVec.ofFin (Fin.mk (Nat.mod (Int.toNat v1.2.2.1) 256) (jcy (Int.toNat v1.2.2.1) (BitVec.ofNat._proof_1 (OfNat.ofNat 8)))))) [])))),p.2.2.2.2.1,p.2.2.2.2.2.1,p.2.2.2.2.2.2)) none)) (cond (Nat.ble (Nat.mul (Nat.add p.2.2.2.2.2.1.length 1) 32) 140737488355328) (L3 ((IntKind.i64.wrap (Int.add p.2.2.2.2.1 (Int.ofNat 1))),(List.append p.2.2.2.2.2.1 [(p.2.2.2.2.2.2,(p.2.2.2.1,p.1))]))) none)) (cond (Nat.ble (Nat.mul (Nat.add p.2.2.2.2.2.1.length 1) 32) 140737488355328) (L3 ((IntKind.i64.wrap (Int.add p.2.2.2.2.1 (Int.ofNat 1))),(List.append p.2.2.2.2.2.1 [(p.2.2.2.2.2.2,(p.2.2.2.1,p.1))]))) none)))
abbrev gz13:Type:=ElA [(.list cCosignerlaw23Change)]->Option qa8
abbrev sz13(g:gz13):Sm:=⟨[(.list cCosignerlaw23Change)],[(true,qac)],g⟩
abbrev Ez13(g:gz13)(J:JT qa8)(lf:Nat)(x1:(List qax)):=qb5 Try.prog ttT.get qla fi13.nt (qsh _ lf) lf qje J fi13.body [] (qa0 (argV [(.list cCosignerlaw23Change)] (x1,())) 0 .leaf) S0 [] (qa1 ttT.get fi13 (sz13 g))
abbrev Bz13(g:gz13)(J:JT qa8)(lf k:Nat)(ms:List Nat)(q:NRes):=qcm Try.prog ttT.get qla fi13.nt (qsh _ lf) lf qje J k fi13.body [] ms q (qa1 ttT.get fi13 (sz13 g))
theorem zll(g:gz13)(J:JT qa8)(lf:Nat)(x1:(List qax)):Ez13 g J lf x1=qqs lf x1 (fun q=>J 3 [lf] (qc7 x1 q)):=by kernel_rfl
theorem zm5(g:gz13)(J:JT qa8)(lf:Nat)(x1:(List qax))(m1:Nat)(p:Int × (List qaa)):Bz13 g J lf 3 [m1] (qc7 x1 p)=qoe lf x1 (fun q=>J 6 [m1,lf] (qei x1 q)) p:=by kernel_rfl
theorem zot(g:gz13)(J:JT qa8)(lf:Nat)(x1:(List qax))(m1:Nat)(m2:Nat)(p:Int × Int × (List qaa)):Bz13 g J lf 6 [m1,m2] (qei x1 p)=qmx lf x1 (fun q=>J 6 [m1,m2] (qei x1 q)) (fun q=>J 11 [m1,m2,lf] (qhc x1 q)) (fun q=>J 3 [m1] (qc7 x1 q)) p:=by kernel_rfl
theorem zc2(g:gz13)(J:JT qa8)(lf:Nat)(x1:(List qax))(m1:Nat)(m2:Nat)(m3:Nat)(p:Bool × Int × Int × ByteArray × Int × (List qaa) × Int):Bz13 g J lf 11 [m1,m2,m3] (qhc x1 p)=qn7 lf x1 (fun q=>J 11 [m1,m2,m3] (qhc x1 q)) (fun q=>J 3 [m1] (qc7 x1 q)) p:=by kernel_rfl
theorem qou:(regs fi13.body).Nodup:=by decide +kernel
theorem qlo:okC qla qje qy2 fi13.body none=true:=by kernel_rfl
def Az13(g:gz13)(lf:Nat):JT qa8:=atN Try.prog ttT.get qla fi13 (sz13 g) (qsh _ lf) lf qy2
def qgi(lf:Nat)(x1:(List qax))(K3:(Int × (List qaa))->Option qa8)(K6:(Int × Int × (List qaa))->Option qa8):Nat->(Bool × Int × Int × ByteArray × Int × (List qaa) × Int)->Option qa8:=qa9 fun K p=>qn7 lf x1 K K3 p
theorem qx3(g:gz13)(lf:Nat)(x1:(List qax))(m1:Nat)(m2:Nat):∀(n:Nat) (p:Bool × Int × Int × ByteArray × Int × (List qaa) × Int),Az13 g lf 11 [m1,m2,n] (qhc x1 p)=qgi lf x1 (fun q=>Az13 g lf 3 [m1] (qc7 x1 q)) (fun q=>Az13 g lf 6 [m1,m2] (qei x1 q)) n p
 | 0,p=>qb4 11 [m1,m2,0] rfl _
 | n+1,p=>by
  have ih:=qx3 g lf x1 m1 m2 n;refine(qb6 (qbh 20 _) qou qlo 11 [m1,m2,n+1] [m1,m2,n] rfl _).trans ((zc2 g (Az13 g lf) lf x1 m1 m2 n p).trans ?_);rw[(show (fun q=>Az13 g lf 11 [m1,m2,n] (qhc x1 q))=(fun q=>qgi lf x1 (fun q=>Az13 g lf 3 [m1] (qc7 x1 q)) (fun q=>Az13 g lf 6 [m1,m2] (qei x1 q)) n q) from funext ih)];rfl
def qfs(lf:Nat)(x1:(List qax))(K3:(Int × (List qaa))->Option qa8):Nat->(Int × Int × (List qaa))->Option qa8:=qa9 fun K p=>qmx lf x1 K (fun q=>qgi lf x1 K3 K lf q) K3 p
theorem q2c(g:gz13)(lf:Nat)(x1:(List qax))(m1:Nat):∀(n:Nat) (p:Int × Int × (List qaa)),Az13 g lf 6 [m1,n] (qei x1 p)=qfs lf x1 (fun q=>Az13 g lf 3 [m1] (qc7 x1 q)) n p
 | 0,p=>qb4 6 [m1,0] rfl _
 | n+1,p=>by
  have ih:=q2c g lf x1 m1 n;refine(qb6 (qbh 20 _) qou qlo 6 [m1,n+1] [m1,n] rfl _).trans ((zot g (Az13 g lf) lf x1 m1 n p).trans ?_);rw[(show (fun q=>Az13 g lf 11 [m1,n,lf] (qhc x1 q))=(fun q=>qgi lf x1 (fun q=>Az13 g lf 3 [m1] (qc7 x1 q)) (fun q=>Az13 g lf 6 [m1,n] (qei x1 q)) lf q) from funext fun q=>qx3 g lf x1 m1 n lf q),(show (fun q=>Az13 g lf 6 [m1,n] (qei x1 q))=(fun q=>qfs lf x1 (fun q=>Az13 g lf 3 [m1] (qc7 x1 q)) n q) from funext ih)];rfl
def qie(lf:Nat)(x1:(List qax)):Nat->(Int × (List qaa))->Option qa8:=qa9 fun K p=>qoe lf x1 (fun q=>qfs lf x1 K lf q) p
theorem q5x(g:gz13)(lf:Nat)(x1:(List qax)):∀(n:Nat) (p:Int × (List qaa)),Az13 g lf 3 [n] (qc7 x1 p)=qie lf x1 n p
 | 0,p=>qb4 3 [0] rfl _
 | n+1,p=>by
  have ih:=q5x g lf x1 n;refine(qb6 (qbh 20 _) qou qlo 3 [n+1] [n] rfl _).trans ((zm5 g (Az13 g lf) lf x1 n p).trans ?_);rw[(show (fun q=>Az13 g lf 6 [n,lf] (qei x1 q))=(fun q=>qfs lf x1 (fun q=>Az13 g lf 3 [n] (qc7 x1 q)) lf q) from funext fun q=>q2c g lf x1 n lf q),(show (fun q=>Az13 g lf 3 [n] (qc7 x1 q))=(fun q=>qie lf x1 n q) from funext ih)];rfl
def Fz13(lf:Nat)(x1:(List qax)):Option qa8:=qqs lf x1 (fun q=>qie lf x1 lf q)
theorem zg7(g:gz13)(lf:Nat)(x1:(List qax)):Ez13 g (Az13 g lf) lf x1=Fz13 lf x1:=by
  refine(zll g (Az13 g lf) lf x1).trans ?_;rw[(show (fun q=>Az13 g lf 3 [lf] (qc7 x1 q))=(fun q=>qie lf x1 lf q) from funext fun q=>q5x g lf x1 lf q)];rfl
theorem zhg:qbi Try.prog q6j:=trivial
theorem zky{g:gz13}(hsm:SmOK Try.prog q2v)(hg:∀(x:ElA [(.list cCosignerlaw23Change)]) (y:qa8),WfA [(.list cCosignerlaw23Change)] x->g x=some y->∃lf,Fz13 lf x.1=some y):Con Try.prog 13 ⟨[(.list cCosignerlaw23Change)],[(true,qac)],g⟩ :=
 conV (st:=qje) (fun lf x=>Fz13 lf x.1) cm3 zhq zhg qou qlo (fun lf x=>zg7 g lf x.1) hsm hg
def qj5:Nat->Option Nm:=fun k=>cond (Nat.beq k 6) (some ⟨[3,8,10,12,13],[(12,(.int .i64))],[],[],[],0,0,false⟩) (none)
def qi1:Nat->Bool:=fun k=>cond (Nat.beq k 6) true (false)
def q35:=qi1
abbrev qde:Type:=qah × Bool × Unit
def q45:List (Nat × Sm):=[(20,spz4),(21,spz5)]
def q56:List (Nat × Hx):=[]
def qs2(R:Type)(lf:Nat):ClK R:=qa4 Try.prog ttT.get ftT.get (nm1 9 qj5) (smL q45) (hxL q56) lf 20 R
abbrev zla:Nat:=9
def qg7(x1:qah)(x2:q2b)(x3:Int)(x4:(List Int))(p:Int × (List Int)):NRes:=(NRes.mk (.node none (.node none (.node (some (IV.lst (TC.int .u8) x4)) .leaf .leaf) (.node none .leaf (.node (some (IV.int .i64 p.1)) .leaf .leaf))) (.node none (.node none (.node (some (IV.ptr 0 0)) .leaf .leaf) (.node (some (IV.arr 2)) .leaf .leaf)) (.node none (.node (some (IV.ptr 1 0)) .leaf .leaf) .leaf))) (IS.mk (.node (some (IObj.row (List.cons IV.nilsl [IV.nilsl]))) (.node (some (IObj.row (List.cons (IV.lst TC.str (S.doD (x1.1,x1.2) (lsub x2 (Int.ofNat 0) x3)).1.1) (List.cons (IV.lst cPut (S.doD (x1.1,x1.2) (lsub x2 (Int.ofNat 0) x3)).1.2) [])))) .leaf .leaf) (.node (some (IObj.arr (TC.int .i64) p.2)) .leaf .leaf)) 3) [] 0)
def qse(lf:Nat)(x1:qah)(x2:(List DAct))(x3:Int)(x4:(List Int))(L6:(Int × (List Int))->Option qde):Option qde:=(cond (lchk (Int.ofNat 0) x3 (Int.ofNat x2.length) (Int.ofNat x2.length)) (cond (Bool.not (ieqI (S.doD (x1.1,x1.2) (lsub x2 (Int.ofNat 0) x3)).2 (Int.ofNat 0))) (some (((S.doD (x1.1,x1.2) (lsub x2 (Int.ofNat 0) x3)).1.1,(S.doD (x1.1,x1.2) (lsub x2 (Int.ofNat 0) x3)).1.2),(false,()))) (L6 ((Int.ofNat 0),[]))) none)
def qkd(lf:Nat)(x1:qah)(x2:(List DAct))(x3:Int)(x4:(List Int))(L6:(Int × (List Int))->Option qde)(p:Int × (List Int)):Option qde:=(cond (iltI p.1 (Int.ofNat (List.length (S.doD (x1.1,x1.2) (lsub x2 (Int.ofNat 0) x3)).1.2))) (cond (iltI p.1 (Int.ofNat x4.length)) (match (jget x4 p.1) with|none=>none|some v0=>(cond (Nat.ble (Nat.mul (Nat.add p.2.length 1) 8) 140737488355328) (L6 ((IntKind.i64.wrap (Int.add p.1 (Int.ofNat 1))),(List.append p.2 [(Int.tmod (IntKind.i64.wrap v0) (Int.ofNat 65))]))) none)) (some (((S.crash ((S.doD (x1.1,x1.2) (lsub x2 (Int.ofNat 0) x3)).1.1,(S.doD (x1.1,x1.2) (lsub x2 (Int.ofNat 0) x3)).1.2) p.2).1.1,(S.crash ((S.doD (x1.1,x1.2) (lsub x2 (Int.ofNat 0) x3)).1.1,(S.doD (x1.1,x1.2) (lsub x2 (Int.ofNat 0) x3)).1.2) p.2).1.2),((ieqI (S.crash ((S.doD (x1.1,x1.2) (lsub x2 (Int.ofNat 0) x3)).1.1,(S.doD (x1.1,x1.2) (lsub x2 (Int.ofNat 0) x3)).1.2) p.2).2 (Int.ofNat 0)),())))) (some (((S.crash ((S.doD (x1.1,x1.2) (lsub x2 (Int.ofNat 0) x3)).1.1,(S.doD (x1.1,x1.2) (lsub x2 (Int.ofNat 0) x3)).1.2) p.2).1.1,(S.crash ((S.doD (x1.1,x1.2) (lsub x2 (Int.ofNat 0) x3)).1.1,(S.doD (x1.1,x1.2) (lsub x2 (Int.ofNat 0) x3)).1.2) p.2).1.2),((ieqI (S.crash ((S.doD (x1.1,x1.2) (lsub x2 (Int.ofNat 0) x3)).1.1,(S.doD (x1.1,x1.2) (lsub x2 (Int.ofNat 0) x3)).1.2) p.2).2 (Int.ofNat 0)),()))))
abbrev gz14:Type:=ElA [qan,(.list cAct),(.int .i64),(.list (.int .u8))]->Option qde
abbrev sz14(g:gz14):Sm:=⟨[qan,(.list cAct),(.int .i64),(.list (.int .u8))],[(false,qan),(false,.bool)],g⟩
abbrev Ez14(g:gz14)(J:JT qde)(lf:Nat)(x1:qah)(x2:(List DAct))(x3:Int)(x4:(List Int)):=qb5 Try.prog ttT.get qj5 fi9.nt (qs2 _ lf) lf qi1 J fi9.body [] (qa0 (argV [qan,(.list cAct),(.int .i64),(.list (.int .u8))] (x1,x2,x3,x4,())) 0 .leaf) S0 [] (qa1 ttT.get fi9 (sz14 g))
abbrev Bz14(g:gz14)(J:JT qde)(lf k:Nat)(ms:List Nat)(q:NRes):=qcm Try.prog ttT.get qj5 fi9.nt (qs2 _ lf) lf qi1 J k fi9.body [] ms q (qa1 ttT.get fi9 (sz14 g))
theorem znu(g:gz14)(J:JT qde)(lf:Nat)(x1:qah)(x2:(List DAct))(x3:Int)(x4:(List Int)):Ez14 g J lf x1 x2 x3 x4=qse lf x1 x2 x3 x4 (fun q=>J 6 [lf] (qg7 x1 x2 x3 x4 q)):=by kernel_rfl
theorem zol(g:gz14)(J:JT qde)(lf:Nat)(x1:qah)(x2:(List DAct))(x3:Int)(x4:(List Int))(m1:Nat)(p:Int × (List Int)):Bz14 g J lf 6 [m1] (qg7 x1 x2 x3 x4 p)=qkd lf x1 x2 x3 x4 (fun q=>J 6 [m1] (qg7 x1 x2 x3 x4 q)) p:=by kernel_rfl
theorem qy6:(regs fi9.body).Nodup:=by decide +kernel
theorem q3p:okC qj5 qi1 q35 fi9.body none=true:=by kernel_rfl
def Az14(g:gz14)(lf:Nat):JT qde:=atN Try.prog ttT.get qj5 fi9 (sz14 g) (qs2 _ lf) lf q35
def qp2(lf:Nat)(x1:qah)(x2:(List DAct))(x3:Int)(x4:(List Int)):Nat->(Int × (List Int))->Option qde:=qa9 fun K p=>qkd lf x1 x2 x3 x4 K p
theorem qz5(g:gz14)(lf:Nat)(x1:qah)(x2:(List DAct))(x3:Int)(x4:(List Int)):∀(n:Nat) (p:Int × (List Int)),Az14 g lf 6 [n] (qg7 x1 x2 x3 x4 p)=qp2 lf x1 x2 x3 x4 n p
 | 0,p=>qb4 6 [0] rfl _
 | n+1,p=>by
  have ih:=qz5 g lf x1 x2 x3 x4 n;refine(qb6 (qbh 20 _) qy6 q3p 6 [n+1] [n] rfl _).trans ((zol g (Az14 g lf) lf x1 x2 x3 x4 n p).trans ?_);rw[(show (fun q=>Az14 g lf 6 [n] (qg7 x1 x2 x3 x4 q))=(fun q=>qp2 lf x1 x2 x3 x4 n q) from funext ih)];rfl
def Fz14(lf:Nat)(x1:qah)(x2:(List DAct))(x3:Int)(x4:(List Int)):Option qde:=qse lf x1 x2 x3 x4 (fun q=>qp2 lf x1 x2 x3 x4 lf q)
theorem zdm(g:gz14)(lf:Nat)(x1:qah)(x2:(List DAct))(x3:Int)(x4:(List Int)):Ez14 g (Az14 g lf) lf x1 x2 x3 x4=Fz14 lf x1 x2 x3 x4:=by
  refine(znu g (Az14 g lf) lf x1 x2 x3 x4).trans ?_;rw[(show (fun q=>Az14 g lf 6 [lf] (qg7 x1 x2 x3 x4 q))=(fun q=>qp2 lf x1 x2 x3 x4 lf q) from funext fun q=>qz5 g lf x1 x2 x3 x4 lf q)];rfl
theorem zb1:qbi Try.prog q56:=trivial
theorem zei{g:gz14}(hsm:SmOK Try.prog q45)(hg:∀(x:ElA [qan,(.list cAct),(.int .i64),(.list (.int .u8))]) (y:qde),WfA [qan,(.list cAct),(.int .i64),(.list (.int .u8))] x->g x=some y->∃lf,Fz14 lf x.1 x.2.1 x.2.2.1 x.2.2.2.1=some y):Con Try.prog 9 ⟨[qan,(.list cAct),(.int .i64),(.list (.int .u8))],[(false,qan),(false,.bool)],g⟩ :=
 conV (st:=qi1) (fun lf x=>Fz14 lf x.1 x.2.1 x.2.2.1 x.2.2.2.1) cm3 cal9 zb1 qy6 q3p (fun lf x=>zdm g lf x.1 x.2.1 x.2.2.1 x.2.2.2.1) hsm hg
def qky:Nat->Option Nm:=fun k=>cond (Nat.beq k 3) (some ⟨[1,4,6,7,8],[],[],[],[],0,0,false⟩) (none)
def qkg:Nat->Bool:=fun k=>cond (Nat.beq k 3) true (false)
def qxh:=qkg
abbrev qdc:Type:=qad × Bool × Unit
def qw6:List (Nat × Sm):=[(19,q2u),(13,qwb),(17,qy3)]
def qzr:List (Nat × Hx):=[]
def qrn(R:Type)(lf:Nat):ClK R:=qa4 Try.prog ttT.get ftT.get (nm1 7 qky) (smL qw6) (hxL qzr) lf 20 R
abbrev zk0:Nat:=7
def qib(x1:Int)(x2:(List (List qax)))(p:Bool × (List DPut) × (List ByteArray) × Int × (List qaa) × Int × Int):NRes:=(NRes.mk (.node none (.node (some (IV.lst (TC.list cCosignerlaw23Change) x2)) (.node none (.node (some (IV.bool p.1)) .leaf .leaf) .leaf) .leaf) (.node none (.node (some (IV.ptr 0 0)) (.node (some (IV.int .i64 p.2.2.2.2.2.2)) .leaf .leaf) .leaf) (.node (some (IV.ptr 1 0)) .leaf .leaf))) (IS.mk (.node (some (IObj.row (List.cons IV.nilsl (List.cons IV.nilsl (List.cons (IV.int .i64 (Int.ofNat 0)) (List.cons (IV.int .i64 (Int.ofNat 0)) [IV.nilsl])))))) (.node (some (IObj.row (List.cons (IV.lst TC.str p.2.2.1) (List.cons (IV.lst cPut p.2.1) (List.cons (IV.int .i64 p.2.2.2.1) (List.cons (IV.int .i64 p.2.2.2.2.2.1) [(IV.lst qac p.2.2.2.2.1)])))))) .leaf .leaf) .leaf) 2) [] 0)
def qts(lf:Nat)(x1:Int)(x2:(List (List qax)))(L3:(Bool × (List DPut) × (List ByteArray) × Int × (List qaa) × Int × Int)->Option qdc):Option qdc:=(match (cond (S.evn (IntKind.i64.wrap (Int.add (Int.ofNat 8) (IntKind.i64.wrap (Int.mul (Int.ofNat 2) (IntKind.i64.wrap (Int.tmod x1 (Int.ofNat 17)))))))) (some ((S.madeN (IntKind.i64.wrap (Int.add (Int.ofNat 8) (IntKind.i64.wrap (Int.mul (Int.ofNat 2) (IntKind.i64.wrap (Int.tmod x1 (Int.ofNat 17)))))))),(true,()))) none) with|none=>none|some v0=>(L3 (v0.2.1,v0.1.1.2,v0.1.1.1,v0.1.2.1,v0.1.2.2.2,v0.1.2.2.1,(Int.ofNat 0))))
def qkk(lf:Nat)(x1:Int)(x2:(List (List qax)))(L3:(Bool × (List DPut) × (List ByteArray) × Int × (List qaa) × Int × Int)->Option qdc)(p:Bool × (List DPut) × (List ByteArray) × Int × (List qaa) × Int × Int):Option qdc:=(cond (iltI p.2.2.2.2.2.2 (Int.ofNat x2.length)) (cond p.1 (match (jget x2 p.2.2.2.2.2.2) with|none=>none|some v0=>(cond (ieqI (Int.ofNat (List.length (S.cells v0))) (Int.ofNat 0)) (L3 (p.1,p.2.1,p.2.2.1,p.2.2.2.1,p.2.2.2.2.1,p.2.2.2.2.2.1,(IntKind.i64.wrap (Int.add p.2.2.2.2.2.2 (Int.ofNat 1))))) (match (S.saveO ((p.2.2.1,p.2.1),(p.2.2.2.1,(p.2.2.2.2.2.1,p.2.2.2.2.1))) (S.cells v0)) with|none=>none|some v24=>(cond (ieqI v24.2.1 (Int.ofNat 0)) (cond (ieqI v24.2.1 (Int.ofNat 0)) (L3 (true,v24.1.1.2,v24.1.1.1,v24.1.2.1,v24.1.2.2.2,v24.1.2.2.1,(IntKind.i64.wrap (Int.add p.2.2.2.2.2.2 (Int.ofNat 1))))) (L3 ((ieqI v24.2.1 (Int.ofNat 14)),v24.1.1.2,v24.1.1.1,v24.1.2.1,v24.1.2.2.2,v24.1.2.2.1,(IntKind.i64.wrap (Int.add p.2.2.2.2.2.2 (Int.ofNat 1)))))) (cond (ieqI v24.2.1 (Int.ofNat 0)) (L3 (true,p.2.1,p.2.2.1,p.2.2.2.1,p.2.2.2.2.1,p.2.2.2.2.2.1,(IntKind.i64.wrap (Int.add p.2.2.2.2.2.2 (Int.ofNat 1))))) (L3 ((ieqI v24.2.1 (Int.ofNat 14)),p.2.1,p.2.2.1,p.2.2.2.1,p.2.2.2.2.1,p.2.2.2.2.2.1,(IntKind.i64.wrap (Int.add p.2.2.2.2.2.2 (Int.ofNat 1)))))))))) (some (((p.2.2.1,p.2.1),(p.2.2.2.1,(p.2.2.2.2.2.1,p.2.2.2.2.1))),(p.1,())))) (some (((p.2.2.1,p.2.1),(p.2.2.2.1,(p.2.2.2.2.2.1,p.2.2.2.2.1))),(p.1,()))))
abbrev gz15:Type:=ElA [(.int .u8),(.list (.list cCosignerlaw23Change))]->Option qdc
abbrev sz15(g:gz15):Sm:=⟨[(.int .u8),(.list (.list cCosignerlaw23Change))],[(false,qag),(false,.bool)],g⟩
abbrev Ez15(g:gz15)(J:JT qdc)(lf:Nat)(x1:Int)(x2:(List (List qax))):=qb5 Try.prog ttT.get qky fi7.nt (qrn _ lf) lf qkg J fi7.body [] (qa0 (argV [(.int .u8),(.list (.list cCosignerlaw23Change))] (x1,x2,())) 0 .leaf) S0 [] (qa1 ttT.get fi7 (sz15 g))
abbrev Bz15(g:gz15)(J:JT qdc)(lf k:Nat)(ms:List Nat)(q:NRes):=qcm Try.prog ttT.get qky fi7.nt (qrn _ lf) lf qkg J k fi7.body [] ms q (qa1 ttT.get fi7 (sz15 g))
theorem q90(g:gz15)(J:JT qdc)(lf:Nat)(x1:Int)(x2:(List (List qax))):Ez15 g J lf x1 x2=qts lf x1 x2 (fun q=>J 3 [lf] (qib x1 x2 q)):=by kernel_rfl
theorem zm9(g:gz15)(J:JT qdc)(lf:Nat)(x1:Int)(x2:(List (List qax)))(m1:Nat)(p:Bool × (List DPut) × (List ByteArray) × Int × (List qaa) × Int × Int):Bz15 g J lf 3 [m1] (qib x1 x2 p)=qkk lf x1 x2 (fun q=>J 3 [m1] (qib x1 x2 q)) p:=by kernel_rfl
theorem qyb:(regs fi7.body).Nodup:=by decide +kernel
theorem qwe:okC qky qkg qxh fi7.body none=true:=by kernel_rfl
def Az15(g:gz15)(lf:Nat):JT qdc:=atN Try.prog ttT.get qky fi7 (sz15 g) (qrn _ lf) lf qxh
def qpa(lf:Nat)(x1:Int)(x2:(List (List qax))):Nat->(Bool × (List DPut) × (List ByteArray) × Int × (List qaa) × Int × Int)->Option qdc:=qa9 fun K p=>qkk lf x1 x2 K p
theorem q1j(g:gz15)(lf:Nat)(x1:Int)(x2:(List (List qax))):∀(n:Nat) (p:Bool × (List DPut) × (List ByteArray) × Int × (List qaa) × Int × Int),Az15 g lf 3 [n] (qib x1 x2 p)=qpa lf x1 x2 n p
 | 0,p=>qb4 3 [0] rfl _
 | n+1,p=>by
  have ih:=q1j g lf x1 x2 n;refine(qb6 (qbh 20 _) qyb qwe 3 [n+1] [n] rfl _).trans ((zm9 g (Az15 g lf) lf x1 x2 n p).trans ?_);rw[(show (fun q=>Az15 g lf 3 [n] (qib x1 x2 q))=(fun q=>qpa lf x1 x2 n q) from funext ih)];rfl
def Fz15(lf:Nat)(x1:Int)(x2:(List (List qax))):Option qdc:=qts lf x1 x2 (fun q=>qpa lf x1 x2 lf q)
theorem q8x(g:gz15)(lf:Nat)(x1:Int)(x2:(List (List qax))):Ez15 g (Az15 g lf) lf x1 x2=Fz15 lf x1 x2:=by
  refine(q90 g (Az15 g lf) lf x1 x2).trans ?_;rw[(show (fun q=>Az15 g lf 3 [lf] (qib x1 x2 q))=(fun q=>qpa lf x1 x2 lf q) from funext fun q=>q1j g lf x1 x2 lf q)];rfl
theorem zir:qbi Try.prog qzr:=trivial
theorem zh1{g:gz15}(hsm:SmOK Try.prog qw6)(hg:∀(x:ElA [(.int .u8),(.list (.list cCosignerlaw23Change))]) (y:qdc),WfA [(.int .u8),(.list (.list cCosignerlaw23Change))] x->g x=some y->∃lf,Fz15 lf x.1 x.2.1=some y):Con Try.prog 7 ⟨[(.int .u8),(.list (.list cCosignerlaw23Change))],[(false,qag),(false,.bool)],g⟩ :=
 conV (st:=qkg) (fun lf x=>Fz15 lf x.1 x.2.1) cm3 cal7 zir qyb qwe (fun lf x=>q8x g lf x.1 x.2.1) hsm hg
end Go.Proofs.Ytnhmanoiolfapaa
end

section
namespace Go.Jx
open Go Go.Sx Go.RowKit
universe u

def qcy{D α:Type}(g:D->α->Option (D × Bool)):List α->D->Option (D × Bool)
 | [],d=>some (d,false)
 | x::xs,d=>match g d x with
  | none=>none
  | some (d',b)=>cond b (some (d',true)) (qcy g xs d')
section
variable (P : Program) (tt : Nat -> Option TI)
end
section
variable {P : Program} {tt : Nat -> Option TI}
end
end Go.Jx
end

section
namespace Go.Jx
open Go Go.Sx Go.RowKit
universe u

theorem zcl{b:Nat}{A B:World}{o:Obj}(u:Upd [b] A B)(hA:A.heap[b]?=some o):∃B',Upd [] A B'/\Beside b B' B:=by
 have hlt:b<A.heap.size:=qas hA;refine⟨B.putObj b o,⟨u.os,u.tape,u.output,by rw[(Beside.put B b o).size];exact u.size,fun x hx _=>?_⟩,(Beside.put B b o).symm⟩;by_cases e:x=b
 ·subst e;rw[jbq (jbi hx u.size),hA]
 ·rw[jca e];exact u.same x hx (by simpa using e)
def qzl(P:Program)(gf:Nat)(us:List Value)(bx:Nat)(m0:List Nat)(W0:World)(Rd:World->Prop){α:Type}(V:α->Value->Env->Prop)(xs:List α):Prop :=
 ∀(l:Nat) (J:List α->World->Prop) (K:World->Prop),(∀s A B,J s A->Upd [bx] A B->J s B)->(∀A B,K A->Upd [bx] A B->K B)->(∀s A,J s A->Rd A) ->
  (∀pre x post A0 A u,xs=pre++x::post->J pre A0->Upd [bx] A0 A->(∀E:Env,E.w=A->(∀b∈E.m,b<A0.heap.size/\(b<W0.heap.size->b∈m0))->V x u E) ->
   YieldAt Fence.wide 0 P l #[u] A fun e B=>(∀b,(b=bx\/A0.heap.size<=b)->b<A.heap.size->B.heap[b]?=A.heap[b]?)/\((e=.returned (.bool true)/\J (pre++[x]) B)\/(e=.returned (.bool false)/\K B))) ->
  J [] W0->CallsIn Fence.wide 0 P gf (#[.func (.yield l) #[] #[]]++us.toArray) W0 fun e B=>e=.returned (.tuple #[])/\(J xs B\/K B)
structure ConW (P:Program) (f:Nat) (s:SmI):Prop where
 callable:qai P f
 ns:nP s.ips=0
 it:∀(E:Env) (x:ElP s.ips) (us:List Value) (i:Nat) (l:List (El s.c)),s.xs x=some l->Gl E.m E.w->qtr E s x us [i]->E.ρ i∈E.m->(∀b∈E.m,b<E.w.heap.size) ->
  qzl P f us (E.ρ i) E.m E.w (fun W=>E.Le (E.at_ W)) (fun x u E=>VR E (asIV s.c x) u) l
def endX(k:Nat):IEx->Option Bool
 | .normal=>some false
 | .exit i=>cond (Nat.beq i k) (some true) none
 | _=>none
def retX{D:Type}(k:Nat):Option (D × Option Code)->Option (D × Bool)
 | some (d,none)=>some (d,false)
 | some (d,some (.exit i))=>cond (Nat.beq i k) (some (d,true)) none
 | _=>none
def qur(k:Nat)(b:Bool):Option Code:=cond b (some (.exit k)) none
theorem zbl{D:Type}{k:Nat}{o:Option (D × Option Code)}{d:D}{b:Bool}(h:retX k o=some (d,b)):o=some (d,qur k b):=by
 unfold retX at h;split at h
 ·cases h;rfl
 ·rename_i i;cases hb:Nat.beq i k with
  | false=>rw[hb] at h;cases h
  | true =>
   rw[hb] at h;have:=jaj hb;subst this;cases h;rfl
 ·cases h
theorem q5e{D α:Type}{k:Nat}(g:D->α->Option (D × Option Code)):∀(xs:List α) (d d':D) (b:Bool),qcy (fun d x=>retX k (g d x)) xs d=some (d',b)->foldB g xs d=some (d',qur k b)
 | [],d,d',b,h=>by cases h;rfl
 | x::xs,d,d',b,h=>by
  simp only[qcy,foldB] at h ⊢;cases hg:retX k (g d x) with
  | none=>rw[hg] at h;cases h
  | some q =>
   obtain⟨z,e⟩:=q;rw[hg] at h;rw[zbl hg];cases e with
   | false=>exact q5e g xs z d' b h
   | true=>cases h;rfl
section
variable (P : Program) (tt : Nat -> Option TI)
def qmv(k:Nat)(cfg:LpC)(c:TC)(nt lf:Nat)(clP:ClP)(pr:Nat)(assign body:Code)(d:ElP cfg.lp)(z:ElP (refs cfg.lp))(x:El c):Option (ElP (refs cfg.lp) × Bool) :=
 qaw P tt cfg.nm (mP cfg.lp) nt (clP (ElP (refs cfg.lp) × Bool)) lf none assign (qdm [pr] [asIV c x] (putL cfg.ls (qaq cfg.lp idN 0 d) .leaf)) (Sc cfg.lp (updP cfg.lp d z)) [] fun r1=>match r1.e with
  | .normal=>match r1.ds with
   | []=>qaw P tt cfg.nm (mP cfg.lp) nt (clP (ElP (refs cfg.lp) × Bool)) lf none body r1.fr r1.S [] fun r2=>match r2.ds with
     | []=>match endX k r2.e with
      | none=>none
      | some b=>match runQ (sQ cfg.lp) ⟨.tup [],r2.S,0,0⟩ with
       | none=>none
       | some y=>some (y.2,b)
     | _=>none
   | _=>none
  | _=>none
theorem ze4{k:Nat}{cfg:LpC}{c:TC}{nt lf:Nat}{cl:Cl}{clP:ClP}(hcl:∀R,ClEq cl (clP R))(pr:Nat)(assign body:Code)(d:ElP cfg.lp)(z:ElP (refs cfg.lp))(x:El c) :
  qmv P tt k cfg c nt lf clP pr assign body d z x=retX k (qe1 P tt cfg c nt lf cl pr assign body d z x):=by
 unfold qmv qe1;rw[qeu (hcl _)];cases qak P tt cfg.nm (mP cfg.lp) nt cl lf none assign (qdm [pr] [asIV c x] (putL cfg.ls (qaq cfg.lp idN 0 d) .leaf)) (Sc cfg.lp (updP cfg.lp d z)) [] with
 | none=>rfl
 | some r1 =>
  simp only[bd];cases r1.e<;>try rfl
  simp only;cases r1.ds with
  | cons _ _=>rfl
  | nil =>
   simp only;rw[qeu (hcl _)];cases qak P tt cfg.nm (mP cfg.lp) nt cl lf none body r1.fr r1.S [] with
   | none=>rfl
   | some r2 =>
    simp only[bd];cases r2.ds with
    | cons _ _=>rfl
    | nil =>
     simp only;cases r2.e with
     | exit i =>
      simp only[endX,qdr];cases hk:Nat.beq i k<;>cases runQ (sQ cfg.lp) ⟨.tup [],r2.S,0,0⟩<;>simp [retX,hk]
     | _=>cases runQ (sQ cfg.lp) ⟨.tup [],r2.S,0,0⟩<;>rfl
def qko(S2:IS)(cfg:LpC)(id nt:Nat)(fr:PT IV)(pr D:Nat)(assign body:Code)(i:Nat)(rows subs:List Nat)(w:Nat)(q:ElP (refs cfg.lp) × Option Code):Res :=
 ⟨.tup [],(qbu (sQ cfg.lp) S2.next rows subs () q.1 (S2.set i .dead)).set id (.loop (cond q.2.isNone .ready .done) q.2 nt fr [pr] assign body D),2 ^ id,2 ^ id ||| (w ||| qbw ([i]++(rows++subs)))⟩
def itW(k:Nat)(s:SmI)(cfg:LpC)(lf:Nat)(cl:Cl)(vs:List IV)(S:IS):Option Res:=match vs with
 | .yield id::caps=>match rdP s.ips S caps with
  | some (xi,[i],_,S1,w1)=>match S1.heap.get id with
   | some (.loop .ready none nt fr [pr] assign body D)=>match rdP cfg.lp S1 (cfg.ls.map (slot fr)) with
    | none=>none
    | some (d0,rows,subs,S2,w2)=>cond (itB S2 cfg id nt [i] rows subs w2 assign body) (match fiP cfg.lp rows subs S2 d0 with
     | none=>none
     | some d=>match s.xs xi with
      | none=>none
      | some l=>match qcy (fun z x=>retX k (qe1 P tt cfg s.c nt lf cl pr assign body d z x)) l (qda cfg.lp d) with
       | none=>none
       | some z=>some (qko S2 cfg id nt fr pr D assign body i rows subs (w1 ||| w2) (z.1,qur k z.2))) none
   | _=>none
  | _=>none
 | _=>none
def itWK(k:Nat)(s:SmI)(cfg:LpC)(lf:Nat)(clP:ClP)(R:Type)(vs:List IV)(S:IS)(kk:Res->Option R):Option R:=match vs with
 | .yield id::caps=>match rdP s.ips S caps with
  | some (xi,[i],_,S1,w1)=>match S1.heap.get id with
   | some (.loop .ready none nt fr [pr] assign body D)=>match rdP cfg.lp S1 (cfg.ls.map (slot fr)) with
    | none=>none
    | some (d0,rows,subs,S2,w2)=>cond (itB S2 cfg id nt [i] rows subs w2 assign body) (match fiP cfg.lp rows subs S2 d0 with
     | none=>none
     | some d=>match s.xs xi with
      | none=>none
      | some l=>match qcy (qmv P tt k cfg s.c nt lf clP pr assign body d) l (qda cfg.lp d) with
       | none=>none
       | some z=>cond z.2 (kk (qko S2 cfg id nt fr pr D assign body i rows subs (w1 ||| w2) (z.1,some (.exit k)))) (kk (qko S2 cfg id nt fr pr D assign body i rows subs (w1 ||| w2) (z.1,none)))) none
   | _=>none
  | _=>none
 | _=>none
end
section
variable {P : Program} {tt : Nat -> Option TI}
theorem zii(k:Nat)(s:SmI)(cfg:LpC)(lf:Nat)(cl:Cl)(clP:ClP)(hcl:∀R,ClEq cl (clP R))(R:Type)(vs:List IV)(S:IS)(kk:Res->Option R):itWK P tt k s cfg lf clP R vs S kk=ob (itW P tt k s cfg lf cl vs S) kk:=by
 unfold itWK itW;cases vs with
 | nil=>rfl
 | cons v caps =>
 cases v<;>try rfl
 rename_i id;simp only;cases rdP s.ips S caps with
 | none=>rfl
 | some a =>
 obtain⟨xi,irows,_,S1,w1⟩:=a;cases irows with
 | nil=>rfl
 | cons i irows =>
 cases irows with
 | cons _ _=>rfl
 | nil =>
 simp only;cases S1.heap.get id with
 | none=>rfl
 | some o =>
 cases o<;>try rfl
 rename_i st pe nt fr ps assign body D;cases st<;>try rfl
 cases pe<;>try rfl
 cases ps with
 | nil=>rfl
 | cons pr ps =>
 cases ps with
 | cons _ _=>rfl
 | nil =>
 simp only;cases rdP cfg.lp S1 (cfg.ls.map (slot fr)) with
 | none=>rfl
 | some b =>
 obtain⟨d0,rows,subs,S2,w2⟩:=b;simp only[qbf];cases fiP cfg.lp rows subs S2 d0 with
 | none=>rfl
 | some d =>
 simp only;cases s.xs xi with
 | none=>rfl
 | some l =>
 have e:qmv P tt k cfg s.c nt lf clP pr assign body d=fun z x=>retX k (qe1 P tt cfg s.c nt lf cl pr assign body d z x):=by
  funext z x;exact ze4 P tt hcl pr assign body d z x
 simp only[e];cases qcy (fun z x=>retX k (qe1 P tt cfg s.c nt lf cl pr assign body d z x)) l (qda cfg.lp d) with
 | none=>rfl
 | some q=>obtain⟨z,b⟩:=q;cases b<;>rfl
theorem qrg{k:Nat}{s:SmI}{cfg:LpC}{lf:Nat}{cl:Cl}{vs:List IV}{S:IS}{r:Res}(h:itW P tt k s cfg lf cl vs S=some r) :
  ∃id caps xi i isubs S1 w1 nt fr pr assign body D d0 rows subs S2 w2 d l q,vs=.yield id::caps/\rdP s.ips S caps=some (xi,[i],isubs,S1,w1)/\S1.heap.get id=some (.loop .ready none nt fr [pr] assign body D) /\
   rdP cfg.lp S1 (cfg.ls.map (slot fr))=some (d0,rows,subs,S2,w2)/\itB S2 cfg id nt [i] rows subs w2 assign body=true/\fiP cfg.lp rows subs S2 d0=some d/\s.xs xi=some l /\
   foldB (qe1 P tt cfg s.c nt lf cl pr assign body d) l (qda cfg.lp d)=some q/\r=qko S2 cfg id nt fr pr D assign body i rows subs (w1 ||| w2) q:=by
 unfold itW at h;split at h<;>try cases h
 rename_i id caps;split at h<;>try cases h
 rename_i xi i isubs S1 w1 h1;split at h<;>try cases h
 rename_i nt fr pr assign body D ho;split at h
 ·cases h
 rename_i d0 rows subs S2 w2 h2;cases hb:itB S2 cfg id nt [i] rows subs w2 assign body with
 | false=>rw[hb] at h;cases h
 | true =>
 rw[hb,jab] at h;split at h
 ·cases h
 rename_i d h3;split at h
 ·cases h
 rename_i l h4;split at h<;>cases h;rename_i q h5;exact⟨id,caps,xi,i,isubs,S1,w1,nt,fr,pr,assign,body,D,d0,rows,subs,S2,w2,d,l,_,rfl,h1,ho,h2,hb,h3,h4,q5e _ _ _ _ _ h5,rfl⟩
theorem zkf{k:Nat}{s:SmI}{cfg:LpC}{lf:Nat}{cl:Cl}{vs:List IV}{S:IS}:FrO S (itW P tt k s cfg lf cl vs S):=fun r h=>by
 obtain⟨id,caps,xi,i,isubs,S1,w1,nt,fr,pr,assign,body,D,d0,rows,subs,S2,w2,d,l,q,rfl,h1,ho,h2,hb,h3,h4,h5,rfl⟩:=qrg h;have k1:=qej _ h1;have k2:=qej _ h2;have k0:=FrX.set S2 i .dead;have k3:=k0.trans ((qqf subs (S2.set i .dead)).trans ((qqj rows (qar (refs cfg.lp) (fun k=>S2.next+(k-mP cfg.lp)) (mP cfg.lp) q.1) _).trans (qp7 (newO (sQ cfg.lp) () q.1) _ 0)));have k4:=(k1.trans k2).trans (k3.trans (FrX.set _ id (.loop (cond q.2.isNone .ready .done) q.2 nt fr [pr] assign body D)));refine⟨k4.1,fun j hj hbit=>k4.2 j hj ?_⟩;have hbit:(2 ^ id ||| ((w1 ||| w2) ||| qbw ([i]++(rows++subs)))).testBit j=false:=hbit;have e0:qbw [i]=2 ^ i:=by simp[qbw]
 simp only[qrj,e0,jcf,jcg,Nat.zero_testBit] at hbit ⊢;obtain⟨a,⟨b,c⟩,g,e,f⟩:=hbit;exact⟨⟨b,c⟩,⟨g,f,e,trivial⟩,a⟩
theorem q9c{k:Nat}{s:SmI}{cfg:LpC}{lf:Nat}{cl:Cl}{vs:List IV}{S:IS}{r:Res}(h:itW P tt k s cfg lf cl vs S=some r)(hw:r.wr=0):False:=by
 obtain⟨id,caps,xi,i,isubs,S1,w1,nt,fr,pr,assign,body,D,d0,rows,subs,S2,w2,d,l,q,rfl,h1,ho,h2,hb,h3,h4,h5,rfl⟩:=qrg h;have:2 ^ id=0:=(or_zero hw).1;have:=jfj (n:=id);omega
def itWx(P:Program)(tt:Nat->Option TI)(k:Nat)(s:SmI)(cfg:LpC)(lf:Nat):Hx:=⟨itW P tt k s cfg lf,fun clP R vs S kk=>itWK P tt k s cfg lf clP R vs S kk,fun cl clP hcl R vs S kk=>zii k s cfg lf cl clP hcl R vs S kk⟩
theorem Held.dead{T:TW}{E:Env}{S:IS}{l:List PK}{x:ElP l}{rows subs:List Nat}(h:Held T E S l x rows subs)(p:Pre T E S){i:Nat}{w:World}(hT:T.w i)(hA:E.A i)(hL:Live E S.H i)(hi:i ∉ rows++subs)(hb:Beside (E.ρ i) E.w w) :
  Held T (E.at_ w) (S.set i .dead) l x rows subs:=by
 have hle:=Env.at_le p.st hT hA hL hb.upd;refine⟨h.l1,h.l2,h.nd,h.w,h.A,fun ι hι j o hj=>?_,fun id hid=>?_,fun j=>?_⟩
 ·obtain⟨id,g1,g2,g3,g4⟩:=h.at_ ι hι j o hj;have hm:id∈rows:=jbw g1;refine⟨id,g1,g2,g3,g4.mono hle g2 g3 fun hl hh=>hb.same _ fun e=>?_⟩;obtain⟨cs,hcs⟩:=h.row id hm;have:=p.st.inj _ _ (T.sub _ (h.w id (jb3 _ hm))) (T.sub _ hT) g2 hA ⟨hh,_,hcs,rfl⟩ hL e;exact hi (this▸jb3 _ hm)
 ·obtain⟨cs,hcs⟩:=h.row id hid;exact⟨cs,by rw[IS.H_set,up_ne _ _ (fun e:id=i=>hi (e▸jb3 _ hid))];exact hcs⟩
 ·rw[h.sub];cases hs:subs[j]? with
  | none=>rfl
  | some id =>
   have hm:id∈subs:=jbw hs;show S.H id=(S.set i .dead).H id;rw[IS.H_set,up_ne _ _ (fun e:id=i=>hi (e▸jcc _ hm))]
end
end Go.Jx
end

noncomputable section
set_option maxRecDepth 100000
namespace Go.Proofs.Ytnhmanoiolfapaa
open Go Go.Sx Go.RowKit Go.Jx
def S.listed(m:List (Int × ByteArray)):List qaa:=m.foldl (fun c p=>S.ins1 (p.1,p.2,false) c) []
def S.mapG(m:List (Int × ByteArray)):Bool:=decide (m.map (·.1)).Nodup&&m.all fun p=>S.inI p.1 0 199&&Nat.ble p.2.size 4000
def qcr:SmR:=⟨[.ref (.mp (.int .i64) .str)],[(false,.list qac)],fun x=>match x.1 with
 | some m=>cond (S.mapG m) (some ((S.listed m,()),(some m,()))) none
 | none=>none⟩
def S.recsGo:Nat->List ByteArray->List qfo
 | 0,_=>[]
 | f+1,l=>match l with
  | []=>[]
  | s::r=>if (qab s).getD 0 0=0 then [] else S.readK (s::r)::cond (S.readK (s::r)).2.2 [] (S.recsGo f ((s::r).drop (S.readK (s::r)).2.1.toNat))
def S.recsK(l:List ByteArray):List qfo:=S.recsGo (l.length+1) l
def qyx:SmI:=⟨[.ref (.box [.dat (.list .str)])],cKeepRecord,fun x=>cond (S.secs x.1.1) (some (S.recsK x.1.1)) none⟩
end Go.Proofs.Ytnhmanoiolfapaa
end

section
namespace Go.Proofs.Ytnhmanoiolfapaa
open Go Go.RowKit Go.Shelf
def qti:Go.Shelf.Ren:=⟨fun|105=>59|212=>58|99=>69|165=>70|166=>71|170=>72|169=>73|263=>67|264=>68|206=>79|240=>80|241=>81|276=>85|277=>86|n=>n,fun|9=>9|3=>3|4=>4|20=>20|0=>0|46=>112|109=>116|5=>5|72=>135|76=>139|51=>126|146=>127|53=>129|148=>130|70=>133|37=>24|75=>138|127=>148|164=>151|80=>95|n=>n,fun|n=>n⟩
theorem qy9:Go.Proofs.Lays.n105 Try.prog qti:={
 mixed:=by kernel_rfl
 f99:=Try.func69.trans (jas some (by kernel_rfl))
 f105:=Try.func59.trans (jas some (by kernel_rfl))
 f165:=Try.func70.trans (jas some (by kernel_rfl))
 f166:=Try.func71.trans (jas some (by kernel_rfl))
 f169:=Try.func73.trans (jas some (by kernel_rfl))
 f170:=Try.func72.trans (jas some (by kernel_rfl))
 f206:=Try.func79.trans (jas some (by kernel_rfl))
 f212:=Try.func58.trans (jas some (by kernel_rfl))
 f240:=Try.func80.trans (jas some (by kernel_rfl))
 f241:=Try.func81.trans (jas some (by kernel_rfl))
 f263:=Try.func67.trans (jas some (by kernel_rfl))
 f264:=Try.func68.trans (jas some (by kernel_rfl))
 f276:=Try.func85.trans (jas some (by kernel_rfl))
 f277:=Try.func86.trans (jas some (by kernel_rfl))
 t0:=Try.underlying0
 a0:=Try.isAgg0
 z0:=Try.sizeOf0
 v0:=Try.zeroValue0
 t3:=Try.underlying3
 a3:=Try.isAgg3
 z3:=Try.sizeOf3
 v3:=Try.zeroValue3
 t4:=Try.underlying4
 a4:=Try.isAgg4
 z4:=Try.sizeOf4
 v4:=Try.zeroValue4
 t5:=Try.underlying5
 a5:=Try.isAgg5
 z5:=Try.sizeOf5
 v5:=Try.zeroValue5
 t9:=Try.underlying9
 a9:=Try.isAgg9
 z9:=Try.sizeOf9
 v9:=Try.zeroValue9
 t20:=Try.underlying20
 a20:=Try.isAgg20
 z20:=Try.sizeOf20
 v20:=Try.zeroValue20
 t37:=Try.underlying24
 a37:=Try.isAgg24
 z37:=Try.sizeOf24
 v37:=Try.zeroValue24
 t46:=Try.underlying112
 a46:=Try.isAgg112
 z46:=Try.sizeOf112
 v46:=Try.zeroValue112
 t51:=Try.underlying126
 a51:=Try.isAgg126
 z51:=Try.sizeOf126
 v51:=Try.zeroValue126
 t53:=Try.underlying129
 a53:=Try.isAgg129
 z53:=Try.sizeOf129
 v53:=Try.zeroValue129
 t70:=Try.underlying133
 a70:=Try.isAgg133
 z70:=Try.sizeOf133
 v70:=Try.zeroValue133
 t72:=Try.underlying135
 a72:=Try.isAgg135
 z72:=Try.sizeOf135
 v72:=Try.zeroValue135
 t75:=Try.underlying138
 a75:=Try.isAgg138
 z75:=Try.sizeOf138
 v75:=Try.zeroValue138
 t76:=Try.underlying139
 a76:=Try.isAgg139
 z76:=Try.sizeOf139
 v76:=Try.zeroValue139
 t109:=Try.underlying116
 a109:=Try.isAgg116
 z109:=Try.sizeOf116
 v109:=Try.zeroValue116
 t127:=Try.underlying148
 a127:=Try.isAgg148
 z127:=Try.sizeOf148
 v127:=Try.zeroValue148
 t146:=Try.underlying127
 a146:=Try.isAgg127
 z146:=Try.sizeOf127
 v146:=Try.zeroValue127
 t148:=Try.underlying130
 a148:=Try.isAgg130
 z148:=Try.sizeOf130
 v148:=Try.zeroValue130
 t164:=Try.underlying151
 a164:=Try.isAgg151
 z164:=Try.sizeOf151
 v164:=Try.zeroValue151 }
theorem zo0:Builder.Extra Try.prog qti:={
 sizeBuilder:=by kernel_rfl
 liesBuilder:=by kernel_rfl
 t5:=Try.underlying5
 a5:=Try.isAgg5
 z5:=Try.sizeOf5
 v5:=Try.zeroValue5
 infoByte:=by kernel_rfl
 cellsByte:=by kernel_rfl
 sizeByte:=by kernel_rfl
 neB5:=by decide }
theorem zlh(s:ByteArray)(c:Nat)(w:World)(hc:c<=9223372036854775807)(hlen:s.size*c<=140737488355328) :
  Calls Try.prog 59 #[.string s,.int .i64 c] w fun e w'=>e=.returned (.string ⟨(Lib.repeatL s.data.toList c).toArray⟩)/\Below w.heap.size w w':=Any.strings_Repeat qy9 zo0 s c w hc hlen
end Go.Proofs.Ytnhmanoiolfapaa
end

noncomputable section
set_option maxRecDepth 100000
namespace Go.Proofs.Ytnhmanoiolfapaa
open Go Go.Sx Go.RowKit Go.Jx
theorem zcd:qai Try.prog 59:=⟨_,Try.func59,by kernel_rfl,by kernel_rfl⟩
theorem zdo{f:Nat}{s:Sm}(hC:qai Try.prog f)(hr:∀y,resO s.rts y=[])
  (h:∀(M:List Nat) (w:World) (x:ElA s.pts) (us:List Value) (y:ElR s.rts),s.f x=some y->VRs (EM M w) (argV s.pts x) us->∃v,(∀E':Env,VR E' (tupI (resV s.rts 0 y)) v)/\Calls Try.prog f us.toArray w fun e w'=>e=.returned v/\Below w.heap.size w w'):Con Try.prog f s :=
 ⟨hC,fun M w x us y hy hM hg hv=>by
  obtain⟨v,h1,h2⟩:=h M w x us y hy hv;refine(jdl.2 h2).mono fun e w' hR=>?_;obtain⟨rfl,hb⟩:=hR;rw[hr y];obtain⟨q1,q2⟩:=Post.idle (preM hM hg) (Upd.of_below hb);exact⟨v,(EM M w).at_ w',rfl,rfl,h1 _,q1,q2⟩⟩
theorem zcr{s:ByteArray}{n:Int}(h:S.oneN s n=true):s=S.lit [0]/\n=64:=by
 unfold S.oneN at h;rw[jae] at h;exact⟨ja2 h.1,ja2 h.2⟩
theorem zhd:S.blank.size=64:=by kernel_rfl
theorem zbi{E:Env}(s:ByteArray)(n:Int){us:List Value}{y:ByteArray × Unit}(hy:cond (S.oneN s n) (some (S.blank,())) none=some y)(hv:VRs E [.str s,.int .i64 n] us) :
  ∃v,(∀E':Env,VR E' (.str y.1) v)/\Calls Try.prog 59 us.toArray E.w fun e w'=>e=.returned v/\Below E.w.heap.size E.w w':=by
 obtain⟨hk,rfl⟩:=qbb hy;obtain⟨rfl,rfl⟩:=zcr hk;obtain⟨u1,us1,rfl,a1,a2⟩:=hv.inv;obtain⟨u2,us2,rfl,a3,a4⟩:=a2.inv;have e:us2=[]:=by have:=a4.1;simpa using this.symm
 subst e;cases a1;cases a3;refine⟨.string S.blank,fun E'=>.str _ (by rw[zhd];omega),?_⟩;refine(zlh (S.lit [0]) 64 E.w (by omega) (by show 1*64<=_;omega)).mono fun e w' h=>?_;rw[show (⟨(Lib.repeatL (S.lit [0]).data.toList 64).toArray⟩:ByteArray)=S.blank by kernel_rfl] at h;exact h
theorem zkd:Con Try.prog 59 qwz :=
 zdo zcd (fun y=>rfl) fun M w x us y hy hv=>zbi x.1 x.2.1 hy hv
end Go.Proofs.Ytnhmanoiolfapaa
end

section
namespace Go.Sx
open Go Go.RowKit
section
variable {P : Program} {n : Nat} {σ : Nat -> Value} {w : World} {Q : Exit -> Act -> World -> Prop} {ops : Array Oper} {rest : List Oper} {d : Nat} {ty : TypeId} {pos : String} {aft : Array Edge} {g : Option (Nat × Bool)}
theorem qyc{x y:Operand}{u v:Value}{T T':TypeId}{m:Nat}{w':World}(hg:qao ops σ n g=true)(hx:okO n x=true)(ex:ev σ x=u)(hy:okO n y=true)(ey:ev σ y=v)
  (hr:(Builtin.copy_ #[T,T'] ty #[u,v]).run P w=.ok (goInt m) w') (k:wpList P ops Q rest (Fr n (upd σ d (.int .i64 m))) w'):wpList P ops Q (⟨some d,.call ⟨.builtin .copy,#[x,y],#[T,T']⟩,ty,pos,aft,g⟩::rest) (Fr n σ) w :=
 qa5 hg (by
  have h1:(#[x,y].map (Fr n σ).eval)=#[u,v]:=by simp[qat hx,qat hy,ex,ey]
  simp only[execOp,resolve,h1,invoke,builtin,jaf,jad,jaa,hr,goInt]) k
theorem zgx{x y:Operand}{u v r:Value}{T:TypeId}{w':World}(hg:qao ops σ n g=true)(hx:okO n x=true)(ex:ev σ x=u)(hy:okO n y=true)(ey:ev σ y=v)
  (hr:(Instr.makeSlice T u v).run P w=.ok r w') (k:wpList P ops Q rest (Fr n (upd σ d r)) w'):wpList P ops Q (⟨some d,.makeSlice T x y,ty,pos,aft,g⟩::rest) (Fr n σ) w :=
 qa5 hg (by
  simp only[execOp,qat hx,qat hy,ex,ey,jaf,jad,jaa,hr]) k
end
end Go.Sx
end

section
namespace Go.Sx
open Go Go.RowKit
section
variable {P : Program} {ops : Array Oper} {md : Region.Mode} {Q : Exit -> Act -> World -> Prop}
def KOne(K:Act->World->Prop):Exit->Act->World->Prop:=fun e a w=>e=.normal/\K a w
theorem zix{o:Oper}{a:Act}{K K':Act->World->Prop}{r:Result Next}(hK:∀a w,K' a w->K a w)(h:o.upon P a K' (KOne K) r):o.upon P a K Q r:=by
 cases r with
 | ok v w' =>
  cases v with
  | value v=>exact hK _ _ h
  | skip=>exact hK _ _ h
  | defer d=>exact hK _ _ h
  | enter f args =>
   refine Calls.mono h fun e w'' he=>?_;cases e with
   | returned v=>exact hK _ _ he
   | panicked c=>cases he.1
   | outgrown=>obtain⟨_,_,h1,_⟩:=he;cases h1
  | row row args=>exact Rows.mono h fun v w'' he=>hK _ _ he
  | _=>exact h
 | halt x w'=>cases x<;>first|exact h|exact absurd h.1 (by simp)
theorem zhs{i:Nat}{o:Oper}{a:Act}{w:World}{K:Act->World->Prop}(hi:ops[i]?=some o)(h:wpList P ops (KOne K) [o] a w):wpOp P ops Q i K a w:=by
 unfold wpOp;simp only[hi];unfold wpList at h;split at h
 ·rename_i hw;rw[jam hw];rcases h with h|⟨_,_,_,h,_⟩
  ·exact .inl (zix (fun a w h=>h.2) h)
  ·cases h
 ·rename_i hw;rw[jao hw];exact h.2
end
end Go.Sx
end

section
set_option maxRecDepth 100000
namespace Go.Sx
open Go Go.RowKit
section
variable {P : Program} {n : Nat} {σ : Nat -> Value} {w : World} {ops : Array Oper} {rest : List Oper} {d : Nat} {ty : TypeId} {pos : String} {aft : Array Edge} {g : Option (Nat × Bool)}
theorem q6g{T E:TypeId}{size bytes s2 b2:Nat}{zero z2:Value}{E':TypeDesc}{a:Addr}{len cap k:Nat}{kk:IntKind}(hT:Ty P T (.slice E) size bytes zero)(hE:Ty P E E' s2 b2 z2)(hk:k<cap)(hl:k<=len)(hc:len<=cap) :
  (Instr.sliceAt T (.slice (some a) len cap) (some (.int kk (k:Nat))) none none).run P w=.ok (.slice (some (a.add (k*s2))) (len-k) (cap-k)) w:=by
 have h1:(0:Int)<=(k:Nat)/\((k:Nat):Int)<=len:=⟨by omega,by omega⟩;have h2:¬cap-k=0:=by omega
 have h3:¬cap=k:=by omega
 simp only[Instr.sliceAt,jaf,jal hT.und,jaa,Instr.slice,Instr.sliceBounds,Instr.sliceBound,asIntOf,jad,h1,je1,jcu,run_sizeOf hE];simp[h3]
theorem zod{Q:Exit->Act->World->Prop}{T E:TypeId}{size bytes s2 b2:Nat}{zero z2:Value}{E':TypeDesc}{x y:Operand}{a:Addr}{len cap k:Nat}{kk:IntKind}(hT:Ty P T (.slice E) size bytes zero)(hE:Ty P E E' s2 b2 z2)
  (hg:qao ops σ n g=true) (hx:(okO n x&&okO n y)=true) (ex:ev σ x=.slice (some a) len cap) (ey:ev σ y=.int kk (k:Nat)) (hk:k<cap) (hl:k<=len) (hc:len<=cap)
  (kt:wpList P ops Q rest (Fr n (upd σ d (.slice (some (a.add (k*s2))) (len-k) (cap-k)))) w):wpList P ops Q (⟨some d,.slice T x (some y) none none,ty,pos,aft,g⟩::rest) (Fr n σ) w:=by
 simp only[jae] at hx;exact qa5 hg (by simp only[execOp,qat hx.1,ex,Option.map_none,jc2,qat hx.2,ey,q6g hT hE hk hl hc,jaf,jad,jaa]) kt
theorem q8a{Q:Exit->Act->World->Prop}{T E:TypeId}{size bytes s2 b2:Nat}{zero z2:Value}{E':TypeDesc}{x y:Operand}{a:Option Addr}{len cap k:Nat}{kk:IntKind}(hT:Ty P T (.slice E) size bytes zero)(hE:Ty P E E' s2 b2 z2)
  (hg:qao ops σ n g=true) (hx:(okO n x&&okO n y)=true) (ex:ev σ x=.slice a len cap) (ey:ev σ y=.int kk (k:Nat)) (hk:k<=cap)
  (kt:wpList P ops Q rest (Fr n (upd σ d (.slice a k cap))) w):wpList P ops Q (⟨some d,.slice T x none (some y) none,ty,pos,aft,g⟩::rest) (Fr n σ) w:=by
 simp only[jae] at hx;exact qa5 hg (by simp only[execOp,qat hx.1,ex,Option.map_none,jc2,qat hx.2,ey,zob hT hE hk,jaf,jad,jaa]) kt
theorem qf8{md:Region.Mode}{Q:Exit->Act->World->Prop}{op:Op}{v:Value}{i fuel:Nat}{listed:Array Bool}(hi:ops[i]?=some ⟨some d,op,ty,pos,aft,g⟩)(hp:qhv op=true)(hd:Nat.blt d n=true)(hg:qao ops σ n g=true)
  (hb:(Region.noSelect ops&&(Region.free md ops listed i&&(Region.ready md ops listed).contains i))=true) (hQ:∀c a w,¬Q (.panic c) a w)
  (h:∀w1,wpList P ops (QOne n σ d v w1) [⟨some d,op,ty,pos,aft,g⟩] (Fr n σ) w1)
  (k:wpAny P md ops Q fuel (listed.setIfInBounds i true) (Fr n (upd σ d v)) w):wpAny P md ops Q (fuel+1) listed (Fr n σ) w:=by
 simp only[jae] at hb;have hd':d<n:=by simpa using hd
 refine wpAny_take (v:=v) hi hb.1 hb.2.1 hb.2.2 (fun c a w h=>absurd h (hQ c _ w)) (.inl ⟨qfq hg,fun w1=>?_⟩) (by show wpAny P md ops Q fuel _ ((Fr n σ).put (some d) v) w;rw[qd0];exact k);have h1:=h w1;unfold wpList at h1;rw[qfq (o:=⟨some d,op,ty,pos,aft,g⟩) hg,jam rfl] at h1;rcases h1 with h1|⟨_,a,w',h1,_⟩
 ·unfold Oper.wp at h1;cases hr:(execOp (Fr n σ).eval ⟨some d,op,ty,pos,aft,g⟩).run P w1 with
  | ok x w' =>
   rw[hr] at h1;cases x with
   | value u =>
    rw[Oper.upon_value,qd0] at h1;obtain⟨_,h2,h3⟩:=h1;rw[h3,qqy hd' h2]
   | skip =>
    obtain⟨u,hu⟩:=qru hp hr;cases hu
   | _=>obtain⟨u,hu⟩:=qru hp hr;cases hu
  | halt x w'=>rw[hr] at h1;cases x<;>first|exact h1.elim|(obtain⟨h2,_⟩:=h1;cases h2)
 ·cases h1
theorem qtq{md:Region.Mode}{Q:Exit->Act->World->Prop}{o:Oper}{i fuel:Nat}{listed:Array Bool}{a:Act}(hi:ops[i]?=some o)(hr:Region.ready md ops listed=[i])
  (h:wpList P ops (KOne fun a' w'=>wpAny P md ops Q fuel (listed.setIfInBounds i true) a' w') [o] a w):wpAny P md ops Q (fuel+1) listed a w :=
 wpAny_all hr (by simp) fun j hj=>by
  have:j=i:=by simpa using hj
  subst this;exact zhs hi h
theorem qu5{V Z:Value}:∀(k n m:Nat),k<=m->putL (List.replicate n V++List.replicate m Z) n (List.replicate k V)=List.replicate (n+k) V++List.replicate (m-k) Z
 | 0,n,m,h=>by simp[putL]
 | k+1,n,m,h=>by
  obtain⟨m',rfl⟩:∃m',m=m'+1:=⟨m-1,by omega⟩;have e:(List.replicate n V++List.replicate (m'+1) Z).set n V=List.replicate (n+1) V++List.replicate m' Z:=by
   rw[List.set_append_right (h:=by simp)];rw[List.replicate_succ' (n:=n),ja0];simp only[ja5,jee,jfg (n:=m'),List.set_cons_zero];rfl
  show putL ((List.replicate n V++List.replicate (m'+1) Z).set n V) (n+1) (List.replicate k V)=_;rw[e,qu5 k (n+1) m' (by omega)];rw[show n+1+k=n+(k+1) by omega,show m'+1-(k+1)=m'-k by omega]
theorem q5v{dT sT ty elem:TypeId}{β o dLen dCap sLen sCap:Nat}{a:Addr}{cs xs:List Value}(hu:P.underlying dT=some (.slice elem))(hs:(P.info? elem).map (·.size)=some 1)(hb:Box w β cs)(hn:xs.length=Nat.min sLen dLen)
  (hsrc:∀j v,xs[j]?=some v->w.cell? (a.add j)=some v) (hl:o+xs.length<=cs.length) (h1:xs.all one=true) :
  ∃w',(Builtin.copy_ #[dT,sT] ty #[.slice (some ⟨β,o,none⟩) dLen dCap,.slice (some a) sLen sCap]).run P w=.ok (goInt xs.length) w'/\Box w' β (putL cs o xs)/\Upd [β] w w'/\w'.heap.size=w.heap.size:=by
 have hld:=run_loadCells_list (P:=P) w a xs hsrc;obtain⟨w',q1,q2,q3,q4⟩:=run_store (P:=P) xs o 0 hb (by simpa using hl) h1;refine⟨w',?_,by simpa using q2,q3,q4⟩;cases hq:P.info? elem with
 | none=>simp [hq] at hs
 | some i =>
  have hi:i.size=1:=by simpa [hq] using hs
  simp[Builtin.copy_,jal hu,Builtin.lenOf,Builtin.firstCells,sizeOf,typeInfo,hq,hi,<- hn,hld,q1]
end
end Go.Sx
namespace Go.Proofs.Ytnhmanoiolfapaa
open Go Go.Sx Go.RowKit Go.Jx
theorem zgc:qai Try.prog 58:=⟨_,Try.func58,by kernel_rfl,by kernel_rfl⟩
theorem zid(x y:Nat)(hx:x<18446744073709551616)(hy:y<18446744073709551616)(w:World) :
  Calls Try.prog 58 #[.int .u64 x,.int .u64 y] w (Ret fun v w'=>v=.tuple #[.int .u64 ((x*y / 18446744073709551616:Nat):Int),.int .u64 ((x*y % 18446744073709551616:Nat):Int)]/\w'=w) :=
 (Any.bits_Mul (P:=Try.prog) (ρ:=qti) { qy9 with } x y hx hy w).mono fun e w' h=>by
  obtain⟨rfl,rfl⟩:=h;exact⟨rfl,rfl⟩
theorem znb(c:Nat)(hc:c<=1000)(w:World):(Instr.makeSlice 27 (.int .i64 (c:Int)) (.int .i64 (c:Int))).run Try.prog w=.ok (.slice (some ⟨w.heap.size,0,none⟩) c c) (w.alloc (.cells (madeCells #[.string ⟨#[]⟩] (c*1)) 9)):=by
 obtain⟨i,h1,h2,h3,h4⟩:=ty9.inf;have h2:i.size=1:=h2;have h3:i.bytes=16:=h3;have:=run_makeSlice (P:=Try.prog) w 27 9 i (.string ⟨#[]⟩) ty27.und h1 h4 .i64 .i64 c c (by omega) (jbt _) (by rw[h2];omega) (by rw[h3];omega) (by omega);rw[h2] at this;exact this
theorem zc9(c:Nat)(w:World):Box (w.alloc (.cells (madeCells #[.string ⟨#[]⟩] (c*1)) 9)) w.heap.size (List.replicate c (.string ⟨#[]⟩)):=by
 refine⟨9,?_⟩;rw[jcr];have:madeCells #[.string ⟨#[]⟩] (c*1)=(List.replicate c (Value.string ⟨#[]⟩)).toArray:=by
  unfold madeCells;apply jeb
  ·simp
  ·intro i h1 h2;simp[Nat.mod_one]
 rw[this]
theorem zgh(c:Nat)(w:World):Upd [] w (w.alloc (.cells (madeCells #[.string ⟨#[]⟩] (c*1)) 9)):=Upd.alloc _ _
theorem nmin(a b:Nat):Nat.min a b<=a/\Nat.min a b<=b/\(Nat.min a b=a\/Nat.min a b=b):=by
 have e:Nat.min a b=min a b:=rfl;rw[e];omega
theorem si9:(Try.prog.info? 9).map (·.size)=some 1:=by
 obtain⟨i,h1,h2,_⟩:=ty9.inf;have h2:i.size=1:=h2;rw[h1,jc2,h2]
theorem q43(s:ByteArray)(k:Nat):(List.replicate k (Value.string s)).all Go.Sx.one=true:=by
 rw[jbj];intro x hx;rw[List.eq_of_mem_replicate hx];rfl
theorem zb6{c cap ty:Nat}{w:World}{a:Addr}{s:ByteArray}{β:Nat}(hs:w.cell? a=some (.string s))(hb:Box w β (List.replicate c (.string ⟨#[]⟩))) :
  ∃w',(Builtin.copy_ #[27,27] ty #[.slice (some ⟨β,0,none⟩) c c,.slice (some a) 1 cap]).run Try.prog w=.ok (goInt (Nat.min 1 c)) w'/\Box w' β (List.replicate (Nat.min 1 c) (.string s)++List.replicate (c-Nat.min 1 c) (.string ⟨#[]⟩))/\Upd [β] w w'/\w'.heap.size=w.heap.size:=by
 have hnm:=nmin 1 c;have ha:a.spot=none:=by
  unfold World.cell? at hs;split at hs
  ·cases h:a.spot with
   | none=>rfl
   | some x=>rw[h] at hs;cases hs
  ·cases hs
 obtain⟨w',q1,q2,q3,q4⟩:=q5v (P:=Try.prog) (dT:=27) (sT:=27) (ty:=ty) (elem:=9) (β:=β) (o:=0) (dLen:=c) (dCap:=c) (sLen:=1) (sCap:=cap) (a:=a) (xs:=List.replicate (Nat.min 1 c) (.string s)) ty27.und si9 hb (by rw[ja5]) (fun j v hj=>by
  have hj1:j<Nat.min 1 c:=by
   have:=(jbe.1 hj).1;simpa using this
  have:j=0:=by omega
  subst this;rw[jac (by simpa using hj1)] at hj;simp at hj;rw[qbd _ ha,<- hj];show w.cell? ⟨a.block,a.off+0,none⟩=_;rw[jb6,<- ha];exact hs) (by rw[ja5,ja5];omega) (q43 _ _)
 rw[ja5] at q1;refine⟨w',q1,?_,q3,q4⟩;have:=qu5 (V:=.string s) (Z:=.string ⟨#[]⟩) (Nat.min 1 c) 0 c (jfu _ _);rw[jbm] at this;rw[<- this];exact q2
theorem zfa{dT sT ty c n:Nat}{w:World}{s:ByteArray}{β:Nat}(hlt:n<c)(hn:1<=n)(hb:Box w β (List.replicate n (.string s)++List.replicate (c-n) (.string ⟨#[]⟩)))(hd:dT=27:=by rfl) :
  ∃w',(Builtin.copy_ #[dT,sT] ty #[.slice (some ((⟨β,0,none⟩:Addr).add (n*1))) (c-n) (c-n),.slice (some ⟨β,0,none⟩) n c]).run Try.prog w=.ok (goInt (Nat.min n (c-n))) w'/\Box w' β (List.replicate (n+Nat.min n (c-n)) (.string s)++List.replicate (c-n-Nat.min n (c-n)) (.string ⟨#[]⟩))/\Upd [β] w w'/\w'.heap.size=w.heap.size:=by
 subst hd;have hnm:=nmin n (c-n);have e:(⟨β,0,none⟩:Addr).add (n*1)=⟨β,n,none⟩:=by rw[qbd _ rfl];simp
 rw[e];obtain⟨w',q1,q2,q3,q4⟩:=q5v (P:=Try.prog) (dT:=27) (sT:=sT) (ty:=ty) (elem:=9) (β:=β) (o:=n) (dLen:=c-n) (dCap:=c-n) (sLen:=n) (sCap:=c) (a:=⟨β,0,none⟩) (xs:=List.replicate (Nat.min n (c-n)) (.string s)) ty27.und si9 hb (by rw[ja5]) (fun j v hj=>by
  have hj1:j<Nat.min n (c-n):=by
   have:=(jbe.1 hj).1;simpa using this
  rw[jac (by simpa using hj1)] at hj;simp at hj;rw[qbd _ rfl,hb.cell,<- hj,jau (by rw[ja5];show 0+j<n;omega)];rw[List.getElem?_replicate,jam (show 0+j<n by omega)]) (by rw[jag,ja5,ja5,ja5];omega) (q43 _ _)
 rw[ja5] at q1;exact⟨w',q1,by rw[<- qu5 _ _ _ (jfu n (c-n))];exact q2,q3,q4⟩
section
attribute [local irreducible] Go.wpList Go.wpQuiet Go.Code.wp
theorem q89(s:ByteArray)(c:Nat)(hc:c<=1000){a:Addr}{cap:Nat}{w:World}(hcell:w.cell? a=some (.string s)) :
  Calls Try.prog 43 #[.slice (some a) 1 cap,.int .i64 c] w (Ret fun v w'=>∃β,w.heap.size<=β/\v=.slice (some ⟨β,0,none⟩) c c/\Box w' β (List.replicate c (.string s))/\Upd [] w w'):=by
 refine(enter (l:=[.slice (some a) 1 cap,.int .i64 c]) Try.func43 rfl Try.ntmps43 rfl ?_);refine qal fun K1 hK1=>?_;refine qau ?_;refine qaz (v:=.slice none 0 0) rfl rfl rfl ?_;refine jbf ?_;refine hK1 _ _ ?_;refine qal fun K2 hK2=>?_;refine qal fun K3 hK3=>?_;refine qau ?_;refine qav (v:=.int .i64 (c:Int)) rfl rfl rfl ?_;refine qrk rfl rfl rfl rfl ?_;refine jbf ?_;refine hK3 _ _ ?_;refine c_if rfl rfl (fun hb=>absurd hb (by omega)) (fun _=>?_);refine je6 ?_;refine hK2 _ _ ?_;refine qal fun K4 hK4=>?_;refine qau ?_;refine qav (v:=.slice (some a) 1 cap) rfl rfl rfl ?_;refine qtz ty27 rfl rfl rfl ?_;refine qz6 ty3.und ql2.und rfl rfl rfl (by decide) (by decide) ?_;refine qav (v:=.int .i64 (c:Int)) rfl rfl rfl ?_;refine qz6 ty3.und ql2.und rfl rfl rfl (by omega) (by omega) ?_;refine qgl (l:=[.tmp 15,.tmp 17]) (args:=[.int .u64 ((1:Nat):Int),.int .u64 (c:Int)]) zgc rfl rfl rfl (zid 1 c (by omega) (by omega) w) ?_;rintro _ w2 ⟨rfl,hw2⟩;subst w2;have e1:1*c / 18446744073709551616=0:=by omega
 have e2:1*c % 18446744073709551616=c:=by omega
 rw[e1,e2];refine qav (v:=.tuple #[.int .u64 ((0:Nat):Int),.int .u64 (c:Int)]) rfl rfl rfl ?_;refine qih (v:=.int .u64 ((0:Nat):Int)) rfl rfl rfl rfl ?_;refine qih (v:=.int .u64 (c:Int)) rfl rfl rfl rfl ?_;refine qaz (v:=.int .u64 ((0:Nat):Int)) rfl rfl rfl ?_;refine qaz (v:=.int .u64 (c:Int)) rfl rfl rfl ?_;refine jbf ?_;refine hK4 _ _ ?_;refine qal fun K5 hK5=>?_;refine qal fun K6 hK6=>?_;refine qau ?_;refine qav (v:=.int .u64 ((0:Nat):Int)) rfl rfl rfl ?_;refine qpf rfl rfl rfl rfl ?_;refine qav (v:=.bool false) rfl rfl rfl ?_;refine qav (v:=.int .u64 (c:Int)) rfl rfl rfl ?_;refine qpf rfl rfl rfl rfl ?_;refine qs8 (v:=.bool false) rfl rfl rfl (jas Value.bool (jat (by omega))) ?_;refine jbf ?_;refine hK6 _ _ ?_;refine qjz rfl rfl ?_;refine je6 ?_;refine hK5 _ _ ?_;refine qal fun K7 hK7=>?_;refine qau ?_;refine qav (v:=.int .u64 (c:Int)) rfl rfl rfl ?_;refine q7s ql2.und ty3.und rfl rfl rfl (by omega) ?_;refine zgx (u:=.int .i64 (c:Int)) (v:=.int .i64 (c:Int)) rfl rfl rfl rfl rfl (znb c hc w) ?_;have hw1:=zc9 c w;have hu1:=zgh c w;generalize w.alloc (.cells (madeCells #[.string ⟨#[]⟩] (c*1)) 9)=w1 at hw1 hu1;generalize hβ:w.heap.size=β at hw1;refine qaz (v:=.slice (some ⟨β,0,none⟩) c c) rfl rfl (by rw[<- hβ];rfl) ?_;refine jbf ?_;refine hK7 _ _ ?_;refine qal fun K8 hK8=>?_;refine qau ?_;refine qav (v:=.slice (some ⟨β,0,none⟩) c c) rfl rfl rfl ?_;refine qav (v:=.slice (some a) 1 cap) rfl rfl rfl ?_;have hsrc1:w1.cell? a=some (.string s):=by
  have:a.block<w.heap.size:=by
   unfold World.cell? at hcell;split at hcell
   ·rename_i h;exact qas h
   ·cases hcell
  unfold World.cell? at hcell ⊢;rw[hu1.same _ this (by simp)];exact hcell
 obtain⟨w3,g1,g2,g3,g4⟩:=zb6 (cap:=cap) hsrc1 hw1;refine qyc rfl rfl rfl rfl rfl g1 ?_;refine qaz (v:=.int .i64 ((Nat.min 1 c:Nat):Int)) rfl rfl rfl ?_;refine jbf ?_;refine hK8 _ _ ?_;have hext:∀{w4:World},Upd [β] w1 w4->Upd [] w w4:=fun u4=>⟨u4.os.trans hu1.os,u4.tape.trans hu1.tape,u4.output.trans hu1.output,jbl hu1.size u4.size,fun x hx hn=>(u4.same x (jbi hx hu1.size) (by simp;omega)).trans (hu1.same x hx (by simp))⟩;have hnm:=nmin 1 c;refine qal fun K9 hK9=>?_;refine wp_block ?_;refine qvo (X:=Nat) (8::(List.range 47).drop 34) (fun n=>[(8,.int .i64 (n:Int))]) (fun n w4=>(n<=c/\(c=0\/1<=n))/\Box w4 β (List.replicate n (.string s)++List.replicate (c-n) (.string ⟨#[]⟩))/\Upd [β] w1 w4) (fun n=>c-n) (Nat.min 1 c) ⟨rfl,trivial⟩ ⟨⟨jfu _ _,by omega⟩,g2,g3⟩ ?_;rintro n τ w4 ⟨⟨hn1,hn2⟩,hx4,hu4⟩;refine qal fun K10 hK10=>?_;refine qal fun K11 hK11=>?_;refine qau ?_;refine qav (v:=.int .i64 (n:Int)) rfl rfl rfl ?_;refine qav (v:=.slice (some ⟨β,0,none⟩) c c) rfl rfl rfl ?_;refine qtz ty27 rfl rfl rfl ?_;refine qrk rfl rfl rfl rfl ?_;refine jbf ?_;refine hK11 _ _ ?_;refine c_if rfl rfl (fun hb=>?_) (fun hb=>?_)
 ·refine je6 ?_;refine hK10 _ _ ?_;have hlt:n<c:=by omega
  have hn:1<=n:=by omega
  have hnn:=nmin n (c-n);refine wp_block ?_;refine wp_region_any mixed ?_;refine qf8 (i:=0) (v:=.int .i64 (n:Int)) rfl rfl rfl rfl (by kernel_rfl) (fun c a w h=>(show _/\False from h).2) (fun w1=>qav (v:=.int .i64 (n:Int)) rfl rfl rfl q1) ?_;refine qf8 (i:=1) (v:=.slice (some ⟨β,0,none⟩) c c) rfl rfl rfl rfl (by kernel_rfl) (fun c a w h=>(show _/\False from h).2) (fun w1=>qav (v:=.slice (some ⟨β,0,none⟩) c c) rfl rfl rfl q1) ?_;refine qf8 (i:=2) (v:=.int .i64 (n:Int)) rfl rfl rfl rfl (by kernel_rfl) (fun c a w h=>(show _/\False from h).2) (fun w1=>qav (v:=.int .i64 (n:Int)) rfl rfl rfl q1) ?_;refine qf8 (i:=3) (v:=.slice (some ((⟨β,0,none⟩:Addr).add (n*1))) (c-n) (c-n)) rfl rfl rfl rfl (by kernel_rfl) (fun c a w h=>(show _/\False from h).2) (fun w1=>zod ty27 ty9 rfl rfl rfl rfl hlt hn1 (jaq _) q1) ?_;refine qf8 (i:=4) (v:=.slice (some ⟨β,0,none⟩) c c) rfl rfl rfl rfl (by kernel_rfl) (fun c a w h=>(show _/\False from h).2) (fun w1=>qav (v:=.slice (some ⟨β,0,none⟩) c c) rfl rfl rfl q1) ?_;refine qf8 (i:=5) (v:=.int .i64 (n:Int)) rfl rfl rfl rfl (by kernel_rfl) (fun c a w h=>(show _/\False from h).2) (fun w1=>qav (v:=.int .i64 (n:Int)) rfl rfl rfl q1) ?_;refine qf8 (i:=6) (v:=.slice (some ⟨β,0,none⟩) n c) rfl rfl rfl rfl (by kernel_rfl) (fun c a w h=>(show _/\False from h).2) (fun w1=>q8a ty27 ty9 rfl rfl rfl rfl hn1 q1) ?_;have hx5:=hx4.mono0 (Upd.drew [] w4);have u5:=Upd.drew [] w4;generalize ({ w4 with drawn:=w4.drawn+1 }:World)=w5 at hx5 u5;obtain⟨w6,r1,r2,r3,r4⟩:=zfa (dT:=27) (sT:=27) (c:=c) hlt hn hx5;refine qtq (i:=7) rfl (by kernel_rfl) ?_;refine qyc rfl rfl rfl rfl rfl r1 ?_;refine jbf ⟨rfl,?_⟩;refine qtq (i:=8) rfl (by kernel_rfl) ?_;refine zic rfl rfl rfl rfl (by omega) ?_;refine jbf ⟨rfl,?_⟩;refine qtq (i:=9) rfl (by kernel_rfl) ?_;refine qaz (v:=.int .i64 ((n+Nat.min n (c-n):Nat):Int)) rfl rfl (jas (Value.int .i64) (by omega)) ?_;refine jbf ⟨rfl,?_⟩;refine wpAny_done (by kernel_rfl) ?_ _;refine⟨n+Nat.min n (c-n),by show c-(n+Nat.min n (c-n))<c-n;omega,⟨⟨by omega,by omega⟩,by rw[show c-(n+Nat.min n (c-n))=c-n-Nat.min n (c-n) by omega];exact r2,(hu4.trans (u5.mono (by simp))).trans r3⟩,_,rfl,(by repeat first|exact qa7.refl _ _|refine qa7.upd rfl ?_|refine qa7.upds rfl ?_|refine qa7.mix rfl ?_),rfl,trivial⟩
 ·refine wp_exit ?_;have hnc:n=c:=by omega
  subst hnc;refine hK9 _ _ ?_;refine qal fun K12 hK12=>?_;refine qau ?_;refine qav (v:=.slice (some ⟨β,0,none⟩) n n) rfl rfl rfl ?_;refine qaz (v:=.slice (some ⟨β,0,none⟩) n n) rfl rfl rfl ?_;refine jbf ?_;refine hK12 _ _ ?_;refine je9 ?_;refine ret1 Try.results43 rfl ⟨β,by omega,rfl,?_,hext hu4⟩;rw[jee,jfe,ja9] at hx4;exact hx4
end
theorem qzc:Con Try.prog 43 qio :=
 ⟨zm6,fun M w x us y hy hM hg hv=>by
  obtain⟨l,n,_⟩:=x;obtain⟨hk,rfl⟩:=qbb (show cond (decide (l.length=1)&&S.inI n 0 1000) (some (List.replicate n.toNat (l.getD 0 S.none_),())) none=some y from hy);simp only[jae,jcd,S.inI] at hk;obtain⟨h1,h2,h3⟩:=hk;obtain⟨s,rfl⟩:∃s,l=[s]:=by
   cases l with
   | nil=>cases h1
   | cons s r=>cases r with
    | nil=>exact⟨s,rfl⟩
    | cons _ _=>simp at h1
  have hni:∃c:Nat,(show Int from n)=(c:Int):=⟨Int.toNat n,(Int.toNat_of_nonneg h2).symm⟩;obtain⟨c,hc0⟩:=hni;have hc0:n=Int.ofNat c:=hc0;subst hc0;have h3:(c:Int)<=1000:=h3;obtain⟨u1,us1,rfl,a1,a2⟩:=hv.inv;obtain⟨u2,us2,rfl,a3,a4⟩:=a2.inv;obtain rfl:us2=[]:=ja1.1 a4.1.symm;cases a3;cases a1 with
  | lst us q1 q2 q3 hb hh hc hu =>
  have hcell:=hc 0 (by simp) 0 (by decide);have hus:=hu 0 (by simp) 0 Nat.zero_lt_one;rename_i b off cap cells t fz;have hsz:s.size<9223372036854775808/\us 0 0=.string s:=by
   have hus:VR (EM M w) (.str s) (us 0 0):=hus;generalize us 0 0=u at hus;cases hus with
   | str _ h=>exact⟨h,rfl⟩
  rw[hsz.2] at hcell;have hcw:w.cell? ⟨b,off,none⟩=some (.string s):=by
   have hh:w.heap[b]?=some (.cells cells t fz):=hh;unfold World.cell?;rw[hh];simpa using hcell
  refine(jdl.2 (q89 s c (by omega) (cap:=cap) hcw)).mono fun e w' hR=>?_;cases e with
  | returned v =>
   obtain⟨β,hβ,rfl,hx,hu'⟩:=hR;obtain⟨p1,p2⟩:=Post.idle (preM hM hg) hu';refine⟨_,(EM M w).at_ w',rfl,rfl,?_,p1,p2⟩;show VR _ (.lst .str (List.replicate c s)) _;obtain⟨t',ht'⟩:=hx;cases c with
   | zero=>exact .lst0 (by omega)
   | succ c =>
    have hl:(List.replicate (c+1) s).length=c+1:=ja5;have:=VR.lst (E:=(EM M w).at_ w') (c:=.str) (l:=List.replicate (c+1) s) (cap:=c+1) (off:=0) (fun _ _=>.string s) (by rw[hl];exact jaq _) (by omega) (by rw[hl];show (c+1)*16<=_;omega)
     (fun h=>by have:=hM _ h;omega) ht' (fun i hi j hj=>by
      have hj:j<1:=hj;have:j=0:=by omega
      subst this;rw[hl] at hi;show (List.replicate (c+1) (Value.string s)).toArray[0+i*1+0]?=_;simp only[ja8,List.getElem?_replicate];rw[jam (by omega)]) (fun i hi j hj=>by
      have hj:j<1:=hj;have:j=0:=by omega
      subst this;show VR _ (.str (List.replicate (c+1) s)[i]) _;rw[List.getElem_replicate];exact .str _ hsz.1)
    rw[hl] at this;exact this
  | _=>exact hR.elim⟩
end Go.Proofs.Ytnhmanoiolfapaa
end

section
set_option maxRecDepth 100000
namespace Go.Proofs.Ytnhmanoiolfapaa
open Go Go.RowKit Go.Shelf Go.Sort Go.Lib
def q99:Go.Shelf.Ren:=⟨fun|6=>76|15=>83|14=>82|28=>95|29=>96|20=>87|21=>88|22=>89|23=>90|24=>91|25=>92|26=>93|27=>94|46=>97|47=>98|48=>99|49=>100|50=>101|57=>102|n=>n,fun|22=>31|24=>62|25=>147|3=>3|39=>112|0=>0|53=>126|55=>129|4=>4|46=>156|45=>155|50=>160|5=>5|9=>9|66=>164|70=>168|76=>170|77=>171|n=>n,fun|n=>n⟩
theorem q1q:Go.Proofs.SlLaysF0.n6 Try.prog q99:={
 mixed:=by kernel_rfl
 f6:=⟨Try.f76.name,by decide,Try.func76.trans (jas some (by kernel_rfl))⟩
 f14:=⟨Try.f82.name,by decide,Try.func82.trans (jas some (by kernel_rfl))⟩
 f15:=Try.func83.trans (jas some (by kernel_rfl))
 f20:=⟨Try.f87.name,by decide,Try.func87.trans (jas some (by kernel_rfl))⟩
 f21:=⟨Try.f88.name,by decide,Try.func88.trans (jas some (by kernel_rfl))⟩
 f22:=⟨Try.f89.name,by decide,Try.func89.trans (jas some (by kernel_rfl))⟩
 f23:=⟨Try.f90.name,by decide,Try.func90.trans (jas some (by kernel_rfl))⟩
 f24:=⟨Try.f91.name,by decide,Try.func91.trans (jas some (by kernel_rfl))⟩
 f25:=⟨Try.f92.name,by decide,Try.func92.trans (jas some (by kernel_rfl))⟩
 f26:=⟨Try.f93.name,by decide,Try.func93.trans (jas some (by kernel_rfl))⟩
 f27:=⟨Try.f94.name,by decide,Try.func94.trans (jas some (by kernel_rfl))⟩
 f28:=Try.func95.trans (jas some (by kernel_rfl))
 f29:=Try.func96.trans (jas some (by kernel_rfl))
 f46:=⟨Try.f97.name,by decide,Try.func97.trans (jas some (by kernel_rfl))⟩
 f47:=Try.func98.trans (jas some (by kernel_rfl))
 f48:=Try.func99.trans (jas some (by kernel_rfl))
 f49:=⟨Try.f100.name,by decide,Try.func100.trans (jas some (by kernel_rfl))⟩
 f50:=⟨Try.f101.name,by decide,Try.func101.trans (jas some (by kernel_rfl))⟩
 f57:=⟨Try.f102.name,by decide,Try.func102.trans (jas some (by kernel_rfl))⟩
 t0:=Try.underlying0
 a0:=Try.isAgg0
 z0:=Try.sizeOf0
 v0:=Try.zeroValue0
 t3:=Try.underlying3
 a3:=Try.isAgg3
 z3:=Try.sizeOf3
 v3:=Try.zeroValue3
 t4:=Try.underlying4
 a4:=Try.isAgg4
 z4:=Try.sizeOf4
 v4:=Try.zeroValue4
 t5:=Try.underlying5
 a5:=Try.isAgg5
 z5:=Try.sizeOf5
 v5:=Try.zeroValue5
 t9:=Try.underlying9
 a9:=Try.isAgg9
 z9:=Try.sizeOf9
 v9:=Try.zeroValue9
 t22:=Try.underlying31
 a22:=Try.isAgg31
 z22:=Try.sizeOf31
 v22:=Try.zeroValue31
 t25:=Try.underlying147
 a25:=Try.isAgg147
 z25:=Try.sizeOf147
 v25:=Try.zeroValue147
 t39:=Try.underlying112
 a39:=Try.isAgg112
 z39:=Try.sizeOf112
 v39:=Try.zeroValue112
 t45:=Try.underlying155
 a45:=Try.isAgg155
 z45:=Try.sizeOf155
 v45:=Try.zeroValue155
 t46:=Try.underlying156
 a46:=Try.isAgg156
 z46:=Try.sizeOf156
 v46:=Try.zeroValue156
 t50:=Try.underlying160
 a50:=Try.isAgg160
 z50:=Try.sizeOf160
 v50:=Try.zeroValue160
 t53:=Try.underlying126
 a53:=Try.isAgg126
 z53:=Try.sizeOf126
 v53:=Try.zeroValue126
 t55:=Try.underlying129
 a55:=Try.isAgg129
 z55:=Try.sizeOf129
 v55:=Try.zeroValue129
 t66:=Try.underlying164
 a66:=Try.isAgg164
 z66:=Try.sizeOf164
 v66:=Try.zeroValue164
 t70:=Try.underlying168
 a70:=Try.isAgg168
 z70:=Try.sizeOf168
 v70:=Try.zeroValue168
 t76:=Try.underlying170
 a76:=Try.isAgg170
 z76:=Try.sizeOf170
 v76:=Try.zeroValue170
 t77:=Try.underlying171
 a77:=Try.isAgg171
 z77:=Try.sizeOf171
 v77:=Try.zeroValue171 }
def encC(x:Int × ByteArray × Bool):List Value:=[.int .i64 x.1,.string x.2.1,.bool x.2.2]
theorem zm1(cf:(Int × ByteArray × Bool)->(Int × ByteArray × Bool)->Int)(hO:SWO (ltOf cf))(g:Nat)(cb:Array Value)(blk off cap:Nat)(d:Array (Int × ByteArray × Bool))(w:World)
  (eg:∀args w,(callFunc g args).run Try.prog w=.ok (.enter g args) w) (hcmp:CmpLays Try.prog g cb encC 3 cf blk off d.size w) (hH:HoldsK encC 3 w blk off d) (hblk:blk<w.heap.size) (hsz:d.size<4611686018427387904) :
  Calls Try.prog 76 #[.slice (some ⟨blk,off,none⟩) d.size cap,.func (.func g) #[] cb] w fun e w' =>
   e=.returned (.tuple #[])/\∃d' n os,PermIn 0 d.size d d'/\SortedIn (ltOf cf) 0 d.size d'/\w'=sortWorldK encC 3 w blk off n d' os :=
 AnyQ.slices_SortFunc q1q 3 Try.isAgg62 Try.sizeOf62 encC (fun _=>rfl) (fun x v hv=>by simp[encC] at hv;rcases hv with rfl|rfl|rfl<;>rfl) cf hO g cb blk off cap d w eg hcmp hH hblk hsz
theorem q7w(p:Option Addr)(cap:Nat)(fv:Value)(w:World):Calls Try.prog 76 #[.slice p 0 cap,fv] w fun e w'=>e=.returned (.tuple #[])/\w'=w :=
 AnyF.slices_SortFunc_none (P:=Try.prog) q1q p cap fv w
end Go.Proofs.Ytnhmanoiolfapaa
end

section
set_option maxRecDepth 100000
namespace Go.Sx
open Go Go.RowKit
def Gr(w w':World):Prop:=∃q os',w'=Sort.grow (w.drewN q) os'
theorem Gr.refl(w:World):Gr w w:=⟨0,#[],by simp[World.drewN]⟩
theorem Gr.trans{a b c:World}(h:Gr a b)(k:Gr b c):Gr a c:=by
 obtain⟨q,os,rfl⟩:=h;obtain⟨q',os',rfl⟩:=k;exact⟨q+q',os++os',by simp[Sort.grow,World.drewN,Array.append_assoc,jcx]⟩
theorem Gr.push(w:World)(o:Obj):Gr w { w with heap:=w.heap.push o }:=⟨0,#[o],by simp[Sort.grow,World.drewN]⟩
theorem Gr.drew(w:World):Gr w { w with drawn:=w.drawn+1 }:=⟨1,#[],by
 unfold Sort.grow World.drewN;simp only[Array.append_empty]⟩
theorem Gr.upd{w w':World}(h:Gr w w'):Upd [] w w':=by
 obtain⟨q,os,rfl⟩:=h;refine⟨rfl,rfl,rfl,by simp[Sort.grow,World.drewN],fun b hb _=>?_⟩;show (w.heap++os)[b]?=_;rw[jeh hb]
theorem Upd.old_upd{w w2 w3:World}{g:Nat}(h:Upd [] w w2)(k:Upd [g] w2 w3)(hg:w.heap.size<=g):Upd [] w w3 :=
 ⟨k.os.trans h.os,k.tape.trans h.tape,k.output.trans h.output,jbl h.size k.size,fun x hx hn=>(k.same x (jbi hx h.size) (by simp;omega)).trans (h.same x hx hn)⟩
theorem Upd.tr0{w w':World}(h:Upd [] w w'):Tr [] w [] w':=⟨fun b hb _=>⟨by simp,h.same b hb (by simp)⟩⟩
theorem Upd.cell{w w':World}(u:Upd [] w w'){a:Addr}{v:Value}(h:w.cell? a=some v):w'.cell? a=some v:=by
 have:a.block<w.heap.size:=by
  unfold World.cell? at h;split at h
  ·rename_i h';exact qas h'
  ·cases h
 unfold World.cell? at h ⊢;rw[u.same _ this (by simp)];exact h
section
variable {P : Program} {n : Nat} {σ : Nat -> Value} {w : World} {ops : Array Oper} {rest : List Oper} {d : Nat} {op : Op} {ty : TypeId} {pos : String} {aft : Array Edge} {g : Option (Nat × Bool)} {T : TypeId} {x : Operand} {C : World -> Prop} {Qp : Act -> Prop}
theorem qta{Q:Exit->Act->World->Prop}{v:Value}{zs:List Value}(hg:qao ops σ n g=true)(hx:okO n x=true)(ex:ev σ x=v)(hz:v.cells.toList=zs)
  (k:∀β w',w.heap.size=β->Gr w w'->w'.heap.size=β+1->Box w' β zs->wpList P ops Q rest (Fr n (upd σ d (.pointer (some ⟨β,0,none⟩)))) w'):wpList P ops Q (⟨some d,.box T x,ty,pos,aft,g⟩::rest) (Fr n σ) w:=by
 subst hz;refine qa5 (w':={ w with heap:=w.heap.push (.cells v.cells T) }) hg ?_ (k _ _ rfl (Gr.push _ _) (by simp) (by simpa using Box.push w v.cells.toList T));simp only[execOp,qat hx,ex,Instr.box,jaf,jaa,jad,newVar,newRow];rfl
theorem qka{v:Value}(hp:qhv op=true)(hd:Nat.blt d n=true)(hg:qao ops σ n g=true)
  (h:∀w1,C w1->wpList P ops (QOne n σ d v w1) [⟨some d,op,ty,pos,aft,g⟩] (Fr n σ) w1)
  (k:wpQuiet P ops C Qp rest (Fr n (upd σ d v))):wpQuiet P ops C Qp (⟨some d,op,ty,pos,aft,g⟩::rest) (Fr n σ):=by
 have hd':d<n:=by simpa using hd
 refine wpQuiet_step fun K hK=>?_;rw[qfq (o:=⟨some d,op,ty,pos,aft,g⟩) hg,jam rfl];refine⟨v,fun w1 hw1=>?_,by show K ((Fr n σ).put (some d) v);rw[qd0];exact hK _ k⟩;have h1:=h w1 hw1;unfold wpList at h1;rw[qfq (o:=⟨some d,op,ty,pos,aft,g⟩) hg,jam rfl] at h1;rcases h1 with h1|⟨_,a,w',h1,_⟩
 ·unfold Oper.quietAt;unfold Oper.wp at h1;cases hr:(execOp (Fr n σ).eval ⟨some d,op,ty,pos,aft,g⟩).run P w1 with
  | ok x w' =>
   rw[hr] at h1;cases x with
   | value u =>
    rw[Oper.upon_value,qd0] at h1;obtain⟨_,h2,h3⟩:=h1;exact⟨h3,qqy hd' h2⟩
   | skip =>
    rw[Oper.upon_skip,qd0] at h1;obtain⟨_,h2,h3⟩:=h1;exact⟨h3,(qqy hd' h2).symm⟩
   | _=>obtain⟨u,hu⟩:=qru hp hr;cases hu
  | halt x w'=>rw[hr] at h1;cases x<;>first|exact h1.elim|(obtain⟨h2,_⟩:=h1;cases h2)
 ·cases h1
theorem zh6{f:Nat}{l:List Operand}{args:List Value}{ts:Array TypeId}{v:Value}(hF:qai P f)(hg:qao ops σ n g=true)(hx:okOs n l=true)(ea:evs σ l=args)
  (hc:∀w1,C w1->Calls P f args.toArray w1 (Ret fun v' w'=>v'=v/\C w'))
  (k:wpQuiet P ops C Qp rest (Fr n (upd σ d v))):wpQuiet P ops C Qp (⟨some d,.call ⟨.value (.func f),l.toArray,ts⟩,ty,pos,aft,g⟩::rest) (Fr n σ):=by
 refine wpQuiet_step fun K hK=>?_;rw[qfq (o:=⟨some d,_,ty,pos,aft,g⟩) hg,jam rfl];refine⟨v,fun w1 hw1=>?_,by show K ((Fr n σ).put (some d) v);rw[qd0];exact hK _ k⟩;have hr:(execOp (Fr n σ).eval ⟨some d,.call ⟨.value (.func f),l.toArray,ts⟩,ty,pos,aft,g⟩).run P w1=.ok (.enter f args.toArray) w1:=by
  obtain⟨fn,hf,hb,hn⟩:=hF;have hb':fn.body.isNone=false:=by cases h:fn.body<;>simp [h] at hb ⊢
  simp only[execOp,resolve,Act.eval,Deferred.ofValue,invoke,callFunc,qqb hx,ea,jaf,jad,jaa,jeo,hf,hb',hn,jbd,jbu];simp
 unfold Oper.quietAt;rw[hr];refine⟨rfl,(hc w1 hw1).mono fun e w' he=>?_⟩;cases e with
 | returned v'=>obtain⟨h1,h2⟩:=he;exact⟨by rw[h1],h2⟩
 | _=>exact he.elim
theorem q3r{f:Nat}{xo:Operand}{caps:Array Value}{l:List Operand}{args:List Value}{ts:Array TypeId}{v:Value}(hF:qai P f)(hg:qao ops σ n g=true)(hx:(okO n xo&&okOs n l)=true)(ef:ev σ xo=.func (.func f) #[] caps)(ea:evs σ l++caps.toList=args)
  (hc:∀w1,C w1->Calls P f args.toArray w1 (Ret fun v' w'=>v'=v/\C w'))
  (k:wpQuiet P ops C Qp rest (Fr n (upd σ d v))):wpQuiet P ops C Qp (⟨some d,.call ⟨.value xo,l.toArray,ts⟩,ty,pos,aft,g⟩::rest) (Fr n σ):=by
 simp only[jae] at hx;refine wpQuiet_step fun K hK=>?_;rw[qfq (o:=⟨some d,_,ty,pos,aft,g⟩) hg,jam rfl];refine⟨v,fun w1 hw1=>?_,by show K ((Fr n σ).put (some d) v);rw[qd0];exact hK _ k⟩;have hr:(execOp (Fr n σ).eval ⟨some d,.call ⟨.value xo,l.toArray,ts⟩,ty,pos,aft,g⟩).run P w1=.ok (.enter f args.toArray) w1:=by
  obtain⟨fn,hf,hb,hn⟩:=hF;have hb':fn.body.isNone=false:=by cases h:fn.body<;>simp [h] at hb ⊢
  simp only[execOp,resolve,qat hx.1,ef,Deferred.ofValue,invoke,callFunc,qqb hx.2,<- ea,jaf,jad,jaa,jeo,hf,hb',hn,jbd,jbu];simp
 unfold Oper.quietAt;rw[hr];refine⟨rfl,(hc w1 hw1).mono fun e w' he=>?_⟩;cases e with
 | returned v'=>obtain⟨h1,h2⟩:=he;exact⟨by rw[h1],h2⟩
 | _=>exact he.elim
end
end Go.Sx
namespace Go.Proofs.Ytnhmanoiolfapaa
open Go Go.Sx Go.RowKit Go.Sort Go.Shelf
theorem qxe:qai Try.prog 84:=⟨_,Try.func84,by kernel_rfl,by kernel_rfl⟩
theorem zny:Fld Try.prog 62 0 0:=Fld.mk (F := ⟨"Key", 3,0, false, "", "", 0⟩) ty62 rfl ty3
def cmpI(a b:Int):Int:=if a<b then -1 else if b<a then 1 else 0
section
attribute [local irreducible] Go.wpList Go.wpQuiet Go.Code.wp
theorem q3e(a:Int)(w:World):Calls Try.prog 84 #[.int .i64 a] w (Ret fun v w'=>v=.bool false/\Gr w w'):=by
 refine(enter (l:=[.int .i64 a]) Try.func84 rfl Try.ntmps84 rfl ?_);refine qal fun K1 hK1=>?_;refine qau ?_;refine qaz (v:=.bool false) rfl rfl rfl ?_;refine jbf ?_;refine hK1 _ _ ?_;refine qal fun K2 hK2=>?_;refine qau ?_;refine qav (v:=.int .i64 a) rfl rfl rfl ?_;refine qav (v:=.int .i64 a) rfl rfl rfl ?_;refine qyn rfl rfl rfl rfl ?_;refine qaz (v:=.bool false) rfl rfl (jas Value.bool (jat (fun h=>h rfl))) ?_;refine jbf ?_;refine hK2 _ _ ?_;refine je9 ?_;exact ret1 Try.results84 rfl ⟨rfl,Gr.refl w⟩
theorem ze6(a b:Int)(w:World):Calls Try.prog 78 #[.int .i64 a,.int .i64 b] w (Ret fun v w'=>v=.int .i64 (cmpI a b)/\Gr w w'):=by
 refine(enter (l:=[.int .i64 a,.int .i64 b]) Try.func78 rfl Try.ntmps78 rfl ?_);refine qal fun K1 hK1=>?_;refine qau ?_;refine qaz (v:=.int .i64 0) rfl rfl rfl ?_;refine jbf ?_;refine hK1 _ _ ?_;refine qal fun K2 hK2=>?_;refine qau ?_;refine qav (v:=.int .i64 a) rfl rfl rfl ?_;refine qgl (l:=[.tmp 7]) (args:=[.int .i64 a]) qxe rfl rfl rfl (q3e a w) ?_;rintro _ w1 ⟨rfl,g1⟩;refine qaz (v:=.bool false) rfl rfl rfl ?_;refine jbf ?_;refine hK2 _ _ ?_;refine qal fun K3 hK3=>?_;refine qau ?_;refine qav (v:=.int .i64 b) rfl rfl rfl ?_;refine qgl (l:=[.tmp 9]) (args:=[.int .i64 b]) qxe rfl rfl rfl (q3e b w1) ?_;rintro _ w2 ⟨rfl,g2⟩;refine qaz (v:=.bool false) rfl rfl rfl ?_;refine jbf ?_;refine hK3 _ _ ?_;refine qal fun K4 hK4=>?_;refine qal fun K5 hK5=>?_;refine qau ?_;refine qav (v:=.bool false) rfl rfl rfl ?_;refine jbf ?_;refine hK5 _ _ ?_;refine qjz rfl rfl ?_;refine je6 ?_;refine hK4 _ _ ?_;refine qal fun K6 hK6=>?_;refine qal fun K7 hK7=>?_;refine qau ?_;refine qav (v:=.bool false) rfl rfl rfl ?_;refine jbf ?_;refine hK7 _ _ ?_;refine qjz rfl rfl ?_;refine je6 ?_;refine hK6 _ _ ?_;refine qal fun K8 hK8=>?_;refine qal fun K9 hK9=>?_;refine qau ?_;refine qav (v:=.int .i64 a) rfl rfl rfl ?_;refine qav (v:=.int .i64 b) rfl rfl rfl ?_;refine qrk rfl rfl rfl rfl ?_;refine jbf ?_;refine hK9 _ _ ?_;refine c_if rfl rfl (fun h=>?_) (fun h=>?_)
 ·refine qal fun KA hKA=>?_;refine qau ?_;refine qaz (v:=.int .i64 (-1)) rfl rfl rfl ?_;refine jbf ?_;refine hKA _ _ ?_;refine je9 ?_;exact ret1 Try.results78 rfl ⟨by unfold cmpI;rw[jam h];rfl,g1.trans g2⟩
 refine je6 ?_;refine hK8 _ _ ?_;refine qal fun KB hKB=>?_;refine qal fun KC hKC=>?_;refine qau ?_;refine qav (v:=.int .i64 a) rfl rfl rfl ?_;refine qav (v:=.int .i64 b) rfl rfl rfl ?_;refine qpf rfl rfl rfl rfl ?_;refine jbf ?_;refine hKC _ _ ?_;refine c_if rfl rfl (fun h2=>?_) (fun h2=>?_)
 ·refine qal fun KA hKA=>?_;refine qau ?_;refine qaz (v:=.int .i64 1) rfl rfl rfl ?_;refine jbf ?_;refine hKA _ _ ?_;refine je9 ?_;exact ret1 Try.results78 rfl ⟨by unfold cmpI;rw[jao h,jam h2];rfl,g1.trans g2⟩
 refine je6 ?_;refine hKB _ _ ?_;refine qal fun KD hKD=>?_;refine qau ?_;refine qaz (v:=.int .i64 0) rfl rfl rfl ?_;refine jbf ?_;refine hKD _ _ ?_;refine je9 ?_;exact ret1 Try.results78 rfl ⟨by unfold cmpI;rw[jao h,jao h2];rfl,g1.trans g2⟩
theorem q5t(x:Int × ByteArray × Bool)(w:World):Calls Try.prog 66 #[.agg (encC x).toArray] w (Ret fun v w'=>v=.int .i64 x.1/\Gr w w'):=by
 refine(enter (l:=[.agg (encC x).toArray]) Try.func66 rfl Try.ntmps66 rfl ?_);refine qal fun K1 hK1=>?_;refine qau ?_;refine qta (v:=.agg (encC x).toArray) (zs:=encC x) rfl rfl rfl rfl fun β w1 hβ g1 hz1 hx1=>?_;refine qaz (v:=.int .i64 0) rfl rfl rfl ?_;refine jbf ?_;refine hK1 _ _ ?_;refine qal fun K2 hK2=>?_;refine qau ?_;refine qq7 zny rfl rfl rfl ?_;refine qf0 (v:=.int .i64 x.1) ty3 rfl rfl rfl rfl hx1 rfl ?_;refine qaz (v:=.int .i64 x.1) rfl rfl rfl ?_;refine jbf ?_;refine hK2 _ _ ?_;refine je9 ?_;exact ret1 Try.results66 rfl ⟨rfl,g1⟩
theorem zn3(x y:Int × ByteArray × Bool){b:Nat}{w:World}(hb:w.cell? ⟨b,0,none⟩=some (.func (.func 66) #[] #[])) :
  Calls Try.prog 77 #[.agg (encC x).toArray,.agg (encC y).toArray,.pointer (some ⟨b,0,none⟩)] w (Ret fun v w'=>v=.int .i64 (cmpI x.1 y.1)/\Gr w w'):=by
 refine(enter (l:=[.agg (encC x).toArray,.agg (encC y).toArray,.pointer (some ⟨b,0,none⟩)]) Try.func77 rfl Try.ntmps77 rfl ?_);refine qal fun K1 hK1=>?_;refine qau ?_;refine qta (v:=.agg (encC x).toArray) (zs:=encC x) rfl rfl rfl rfl fun β1 w1 hβ1 g1 hz1 hx1=>?_;refine qta (v:=.agg (encC y).toArray) (zs:=encC y) rfl rfl rfl rfl fun β2 w2 hβ2 g2 hz2 hx2=>?_;refine qaz (v:=.int .i64 0) rfl rfl rfl ?_;refine jbf ?_;refine hK1 _ _ ?_;have hx1':=hx1.mono0 g2.upd;have hb2:=(g1.trans g2).upd.cell hb;refine qal fun K2 hK2=>?_;refine wp_region_quiet (C:=Gr w2) mixed (by kernel_rfl) (Gr.drew w2) ?_;refine qka (v:=.func (.func 66) #[] #[]) rfl rfl rfl (fun wq gq=>qmh qr6 rfl rfl rfl rfl (gq.upd.cell hb2) q1) ?_;refine qka (v:=.agg (encC x).toArray) rfl rfl rfl (fun wq gq=>qsx (ds:=encC x) ty62 rfl rfl rfl rfl (hx1'.mono0 gq.upd) rfl rfl q1) ?_;refine q3r (f:=66) (l:=[.tmp 7]) (args:=[.agg (encC x).toArray]) (v:=.int .i64 x.1) qw5 rfl rfl rfl rfl (fun wq gq=>(q5t x wq).mono fun e w' h=>by
  cases e with
  | returned v=>exact⟨h.1,gq.trans h.2⟩
  | _=>exact h.elim) ?_
 refine qka (v:=.func (.func 66) #[] #[]) rfl rfl rfl (fun wq gq=>qmh qr6 rfl rfl rfl rfl (gq.upd.cell hb2) q1) ?_;refine qka (v:=.agg (encC y).toArray) rfl rfl rfl (fun wq gq=>qsx (ds:=encC y) ty62 rfl rfl rfl rfl (hx2.mono0 gq.upd) rfl rfl q1) ?_;refine q3r (f:=66) (l:=[.tmp 10]) (args:=[.agg (encC y).toArray]) (v:=.int .i64 y.1) qw5 rfl rfl rfl rfl (fun wq gq=>(q5t y wq).mono fun e w' h=>by
  cases e with
  | returned v=>exact⟨h.1,gq.trans h.2⟩
  | _=>exact h.elim) ?_
 refine zh6 (f:=78) (l:=[.tmp 8,.tmp 11]) (args:=[.int .i64 x.1,.int .i64 y.1]) (v:=.int .i64 (cmpI x.1 y.1)) zlo rfl rfl rfl (fun wq gq=>(ze6 x.1 y.1 wq).mono fun e w' h=>by
  cases e with
  | returned v=>exact⟨h.1,gq.trans h.2⟩
  | _=>exact h.elim) ?_
 refine qka (v:=.int .i64 (cmpI x.1 y.1)) rfl rfl rfl (fun wq gq=>qaz (v:=.int .i64 (cmpI x.1 y.1)) rfl rfl rfl q1) ?_;refine wpQuiet_nil fun w3 g3=>?_;refine hK2 _ _ ?_;refine je9 ?_;exact ret1 Try.results77 rfl ⟨rfl,(g1.trans g2).trans g3⟩
end
end Go.Proofs.Ytnhmanoiolfapaa
end

section
set_option maxRecDepth 100000
namespace Go.Proofs.Ytnhmanoiolfapaa
open Go Go.Sx Go.RowKit Go.Sort Go.Shelf
abbrev DC:Type:=Int × ByteArray × Bool
instance:Dat DC where
 sz:=3
 enc _ _ cs x:=cs=encC x
 len h:=by rw[h];rfl
 mono h _:=h
 ones h:=by rw[h];rfl
theorem znm{w:World}{a:Option Addr}{cap:Nat}{l:List DC}(hS:SL [] w a cap l)(hl:l.length<=1000):Calls Try.prog 75 #[.slice a l.length cap] w (Ret fun v w'=>∃a' c' m',v=.slice a' l.length c'/\Go.Sx.Own m' [] w' a' c' l/\Evo [] w m' w'):=by
 have hM:Lo [] w:=fun b hb=>by cases hb
 refine enter (l:=[.slice a l.length cap]) Try.func75 rfl Try.ntmps75 rfl ?_;refine qal fun KhK1 hK1=>?_;refine qau ?_;refine qaz (v:=.slice none 0 0) rfl rfl rfl ?_;refine jbf ?_;refine hK1 _ _ ?_;refine qal fun KhK2 hK2=>?_;refine qal fun KhK3 hK3=>?_;refine qau ?_;refine qav (v:=.slice a l.length cap) rfl rfl rfl ?_;refine qu6 ty31 rfl rfl rfl rfl ?_;refine jbf ?_;refine hK3 _ _ ?_;refine qnn rfl rfl (fun hb4=>?_) (fun hb4=>?_)
 ·obtain rfl:=hS.isNone hb4;refine qal fun KhK5 hK5=>?_;refine qau ?_;refine qaz (v:=.slice none 0 0) rfl rfl rfl ?_;refine jbf ?_;refine hK5 _ _ ?_;refine je9 ?_;exact ret1 Try.results75 rfl ⟨none,0,[],rfl,Go.Sx.Own.nil,Evo.refl [] w⟩
 ·refine je6 ?_;refine hK2 _ _ ?_;refine qal fun KhK7 hK7=>?_;refine qau ?_;refine qqe (α:=DC) (m:=[]) (M:=[]) ty31 ty62 rfl (hM.mono (Evo.refl [] w).size) fun β14 w15 hβ16 u17 hz18 ho19=>?_;have e20:=u17.evoN (m:=[]) hβ16 hz18;refine qav (v:=.slice a l.length cap) rfl rfl rfl ?_;refine qlu (l:=([]:List DC)) ty31 ty31 ty62 rfl rfl rfl rfl rfl rfl rfl ho19 (hS.mono (e20.tr [])) (hM.mono e20.size) (by show (0+l.length)*32<=140737488355328;omega) fun a22 c23 w24 m25 ho26 e27 u28 hbk29 hsub30=>?_;refine qaz (v:=.slice a22 (([]:List DC)++l).length c23) rfl rfl rfl ?_;refine jbf ?_;refine hK7 _ _ ?_;refine je9 ?_;exact ret1 Try.results75 rfl ⟨a22,c23,m25,rfl,ho26,e20.trans e27⟩
theorem zli{w:World}{g off n:Nat}{d:Array DC}{os:Array Obj}:Upd [g] w (sortWorldK encC 3 w g off n d os):=by
 refine⟨rfl,rfl,rfl,?_,fun b hb hn=>?_⟩
 ·show w.heap.size<=((w.heap.modify g _)++os).size;simp
 ·show ((w.heap.modify g _)++os)[b]?=_;rw[jeh (by simpa using hb),jc9,jao (by simp at hn;omega)]
theorem znj:SWO (ltOf fun x y:DC=>cmpI x.1 y.1):=by
 have e:∀x y:DC,ltOf (fun x y:DC=>cmpI x.1 y.1) x y=decide (x.1<y.1):=fun x y=>by
  unfold ltOf cmpI;by_cases h1:x.1<y.1
  ·simp[h1]
  ·by_cases h2:y.1<x.1<;>simp [h1,h2]
 refine⟨fun x=>?_,fun x y z h1 h2=>?_,fun x y z h1 h2=>?_⟩
 ·rw[e];simp
 ·rw[e] at *;simp only[jcd] at *;omega
 ·rw[e] at *;simp only[jew] at *;omega
def RowC(b0:Nat)(w:World)(a:Option Addr)(cap:Nat)(l:List DC):Prop :=
 (l.length<=cap/\cap<9223372036854775808)/\(l=[]\/∃g,a=some ⟨g,0,none⟩/\b0<=g/\∀i (h:i<l.length) j,j<3->w.cell? ⟨g,i*3+j,none⟩=(encC l[i])[j]?)
def qpz(l:List DC):Prop:=∀(i j:Nat) (hi:i<l.length) (hj:j<l.length),i<j->¬(l[j]).1<(l[i]).1
section
attribute [local irreducible] Go.wpList Go.wpQuiet Go.Code.wp
theorem zhi{w:World}{a:Option Addr}{cap:Nat}{l:List DC}(hS:SL [] w a cap l)(hl:l.length<=1000) :
  Calls Try.prog 65 #[.slice a l.length cap,.func (.func 66) #[] #[]] w (Ret fun v w'=>∃a' c' l',v=.slice a' l'.length c'/\(List.Perm l' l/\qpz l')/\RowC w.heap.size w' a' c' l'/\Upd [] w w'):=by
 refine enter (l:=[.slice a l.length cap,.func (.func 66) #[] #[]]) Try.func65 rfl Try.ntmps65 rfl ?_;refine qal fun K1 hK1=>?_;refine qau ?_;refine zb8 (v:=.func (.func 66) #[] #[]) (zs:=[.func (.func 66) #[] #[]]) rfl rfl rfl rfl fun βt w1 hβ1 u1 hz1 hx1=>?_;refine qaz (v:=.slice none 0 0) rfl rfl rfl ?_;refine jbf ?_;refine hK1 _ _ ?_;refine qal fun K2 hK2=>?_;refine qau ?_;refine qav (v:=.slice a l.length cap) rfl rfl rfl ?_;refine qgl (l:=[.tmp 6]) (args:=[.slice a l.length cap]) zad rfl rfl rfl (znm (hS.mono u1.tr0) hl) ?_;rintro _ w2 ⟨a2,c2,m2,rfl,ho2,e2⟩;refine qaz (v:=.slice a2 l.length c2) rfl rfl rfl ?_;refine jbf ?_;refine hK2 _ _ ?_;have u2:=e2.old;have hx2:=hx1.mono0 u2;have hold:Upd [] w w2:=u1.trans u2;refine qal fun K3 hK3=>?_;refine qau ?_;refine qav (v:=.slice a2 l.length c2) rfl rfl rfl ?_;refine zln (vs:=[.pointer (some ⟨βt,0,none⟩)]) rfl rfl rfl ?_;have hsort:Calls Try.prog 76 #[.slice a2 l.length c2,.func (.func 77) #[] #[.pointer (some ⟨βt,0,none⟩)]] w2 (Ret fun v w'=>∃l',l'.length=l.length/\(List.Perm l' l/\qpz l')/\RowC w.heap.size w' a2 c2 l'/\Upd [] w w'):=by
  rcases ho2 with ⟨rfl,rfl,rfl⟩|⟨g,cells,rfl,hgm,_,hbx,hcl,hcap,hel⟩
  ·refine(q7w none 0 _ w2).mono fun e w' h=>?_;obtain⟨rfl,rfl⟩:=h;exact⟨[],rfl,⟨jfn _,fun i j hi=>by simp at hi⟩,⟨⟨jaq _,by omega⟩,.inl rfl⟩,hold⟩
  ·have hgw:w1.heap.size<=g:=by
    rcases e2.own g hgm with h|h
    ·cases h
    ·exact h
   have hne:βt≠g:=by have:=hx1.lt;omega
   have hcl2:l.length*3<=cells.length:=by rw[hcl];show _<=c2*3;omega
   have hcell:∀i (h:i<l.length) j,j<3->cells[i*3+j]?=(encC l[i])[j]?:=fun i h j hj=>by
    obtain⟨cs,h1,h2⟩:=hel i h;have h1:cs=encC l[i]:=h1;rw[<- h1];exact h2 j hj
   have hfz:∀o,w2.frozen? ⟨g,o,none⟩=false:=fun o=>by
    obtain⟨t,ht⟩:=hbx;simp[World.frozen?,ht]
   have hH:HoldsK encC 3 w2 g 0 l.toArray:=fun t ht=>by
    rw[size_flatK] at ht;refine⟨?_,by rw[hfz]⟩;have ht3:t<l.length*3:=by simpa using ht
    rw[jbm,hbx.cell,get_flatK encC 3 l.toArray t (by simpa using ht3)];have h1:t / 3<l.length:=by omega
    have h2:=hcell (t / 3) h1 (t % 3) (by omega);rw[show t / 3*3+t % 3=t by omega] at h2;rw[h2];have e3:(l.toArray)[t / 3]! = l[t / 3]:=by simp[h1]
    rw[e3];have h4:t % 3<(encC l[t / 3]).length:=by show t % 3<3;omega
    rw[jac h4];show _=some ((encC l[t / 3])[t % 3]!);rw[je4 (encC l[t / 3]) (t % 3) h4]
   have hbt:w2.cell? ⟨βt,0,none⟩=some (.func (.func 66) #[] #[]):=by rw[hx2.cell];rfl
   have eg:∀args w,(callFunc 77 args).run Try.prog w=.ok (.enter 77 args) w:=enters_of Try.func77 (by kernel_rfl) rfl;have hcmp:CmpLays Try.prog 77 #[.pointer (some ⟨βt,0,none⟩)] encC 3 (fun x y:DC=>cmpI x.1 y.1) g 0 l.toArray.size w2:=fun m os dk hs x y=>by
    refine(zn3 x y (b:=βt) ?_).mono fun e w' h=>?_
    ·rw[cell?_sortWorldK_other encC 3 w2 g 0 m dk os ⟨βt,0,none⟩ hne hx2.lt];exact hbt
    ·cases e with
     | returned v=>obtain⟨rfl,q,os',h2⟩:=h;exact⟨rfl,q,os',h2⟩
     | _=>exact h.elim
   have hcon:=zm1 (fun x y:DC=>cmpI x.1 y.1) znj 77 #[.pointer (some ⟨βt,0,none⟩)] g 0 c2 l.toArray w2 eg hcmp hH hbx.lt (by simp;omega);have el:l.toArray.size=l.length:=by simp
   rw[el] at hcon;refine hcon.mono fun e w' h=>?_;obtain⟨rfl,d',n,os,hp,hs,rfl⟩:=h;obtain⟨hp1,_,hp3⟩:=hp;have hd:d'.toList.length=l.length:=by rw[jdp,hp1,el]
   have hd2:d'.size=l.length:=by rw[hp1,el]
   have hperm:List.Perm d'.toList l:=by
    have e1:d'.extract 0 l.length=d':=by rw[<- hd2];exact Array.extract_size
    have e2:l.toArray.extract 0 l.length=l.toArray:=by rw[<- el];exact Array.extract_size
    rw[e1,e2] at hp3;exact hp3
   have hH2:=holdsK_sortWorldK_c encC 3 w2 g 0 l.toArray d' n os hH hbx.lt hp1;refine⟨d'.toList,hd,⟨hperm,fun i j hi hj hij=>?_⟩,⟨⟨by rw[hd];exact hcap.1,hcap.2⟩,.inr ⟨g,rfl,jbl u1.size hgw,fun i hi j hj=>?_⟩⟩,hold.old_upd zli (jbl u1.size hgw)⟩
   ·have:=hs i j (jb8 _) hij (by rw[<- hd];exact hj);have hi':i<d'.size:=by simpa using hi
    have hj':j<d'.size:=by simpa using hj
    rw[je4 d' i hi',je4 d' j hj'] at this;unfold ltOf cmpI at this;simp only[jew] at this;show ¬(d'.toList[j]).1<(d'.toList[i]).1;rw[jfa,jfa];intro hlt;rw[jam hlt] at this;omega
   ·have hi':i<d'.size:=by simpa using hi
    have ht:i*3+j<(flatK encC 3 d').size:=by rw[size_flatK];omega
    have:=(hH2 (i*3+j) ht).1;rw[jbm] at this;rw[this,get_flatK encC 3 d' (i*3+j) (by omega)];have e1:(i*3+j) / 3=i:=by omega
    have e2:(i*3+j) % 3=j:=by omega
    rw[e1,e2,je4 d' i hi',jfa];have h4:j<(encC d'[i]).length:=hj;rw[jac h4];show some ((encC d'[i])[j]!)=_;rw[je4 (encC d'[i]) j h4]
 refine qgl (l:=[.tmp 8,.tmp 9]) (args:=[.slice a2 l.length c2,.func (.func 77) #[] #[.pointer (some ⟨βt,0,none⟩)]]) zdy rfl rfl rfl hsort ?_;rintro _ w3 ⟨l',hl',hps,hrow,hu⟩;refine jbf ?_;refine hK3 _ _ ?_;refine qal fun K4 hK4=>?_;refine qau ?_;refine qav (v:=.slice a2 l.length c2) rfl rfl rfl ?_;refine qaz (v:=.slice a2 l.length c2) rfl rfl rfl ?_;refine jbf ?_;refine hK4 _ _ ?_;refine je9 ?_;exact ret1 Try.results65 rfl ⟨a2,c2,l',by rw[hl'];rfl,hps,hrow,hu⟩
end
end Go.Proofs.Ytnhmanoiolfapaa
end

section
set_option maxRecDepth 100000
namespace Go.Sx
open Go Go.RowKit
section
variable {P : Program} {w : World}
theorem zg2{ty:TypeId}{β bm since c0:Nat}{seen:Array Nat}{es:Array MapEntry}{clock:Nat}(hi:w.heap[β]?=some (.mapIter (some bm) since seen c0))(hb:w.heap[bm]?=some (.map es clock))(hold:∀x∈es.toList,x.born<since)(hsc:since<=c0) :
  ((leftOf es seen).size=0/\(Instr.next (.pointer (some ⟨β,0,none⟩)) false ty).run P w=.ok (.tuple #[.bool false]) w) \/
  ∃e∈(leftOf es seen).toList,∃w1:World,Upd [β] w w1/\w1.heap[β]?=some (.mapIter (some bm) since (seen.push e.born) clock)/\(Instr.next (.pointer (some ⟨β,0,none⟩)) false ty).run P w=.ok (.tuple #[.bool true,e.key,e.val]) w1:=by
 have hlt:=qas hi;simp only[Instr.next,getObj,jaf,Sem.run,hi,hb,Result.andThen,next_test_false seen es since c0 hold hsc,jbd,jbu];unfold leftOf;have hmem:∀x∈(Array.filter (fun e=>!seen.contains e.born) es).toList,x.born<since:=fun x hx=>hold x (by simp at hx ⊢;exact hx.1);generalize Array.filter (fun e=>!seen.contains e.born) es=L at hmem ⊢;have e1:L.filter (fun x=>decide (x.born<since))=L:=Array.filter_eq_self.2 (fun x hx=>by simpa using hmem x (by simpa using hx));have e2:L.filter (fun x=>decide (x.born ≥ since))=#[]:=by
  rw[Array.filter_eq_empty_iff];intro x hx;have:=hmem x (by simpa using hx);simp;omega
 simp only[e1,e2,Array.append_empty];by_cases h0:L.size=0
 ·left;have:L=#[]:=jc1 h0;subst this;refine⟨rfl,?_⟩;simp[choose,Sem.run,Question.forced]
 ·right;have hne:L.isEmpty=false:=by simp[Array.isEmpty,h0]
  simp only[hne,jbd,jbu,Array.empty_append,Array.size_map];have hch:∃(j:Nat) (w1:World),j<L.size/\w1.Alike w/\w1.tape=w.tape/\(choose (Question.mapNext L.size)).run P w=.ok j w1:=by
   by_cases hf:L.size<=1
   ·exact⟨0,w,by omega,⟨rfl,rfl,rfl⟩,rfl,by simp[choose,Sem.run,Question.forced,hf]⟩
   ·exact⟨_,{ w with drawn:=w.drawn+1 },jcy _ (by omega),⟨rfl,rfl,rfl⟩,rfl,by
     simp only[choose,Sem.run,Question.forced,jcd,hf,jbu,Question.cut];rfl⟩
  obtain⟨j,w1,hj,hal,htp,hrun⟩:=hch;have hi1:w1.heap[β]?=some (.mapIter (some bm) since seen c0):=by rw[hal.1];exact hi
  refine⟨L[j],by simp,{ w1 with heap:=w1.heap.setIfInBounds β (.mapIter (some bm) since (seen.push L[j].born) clock) },⟨hal.2.1,htp,hal.2.2,?_,fun b hb hn=>?_⟩,?_,?_⟩
  ·show w.heap.size<=(w1.heap.setIfInBounds β _).size;rw[Array.size_setIfInBounds,hal.1];exact jaq _
  ·show (w1.heap.setIfInBounds β _)[b]?=_;rw[Array.getElem?_setIfInBounds,jao (by simp at hn;omega),hal.1]
  ·show (w1.heap.setIfInBounds β _)[β]?=_;rw[Array.getElem?_setIfInBounds,jam rfl,jam (by rw[hal.1];exact hlt)]
  ·simp only[hrun,Array.getElem?_map,jco hj,jc2,jaf,setObj,Sem.run,hi1,Result.andThen];rfl
theorem zbe{β bm since:Nat}{seen:Array Nat}{es:Array MapEntry}{clock:Nat}{e:MapEntry}(hi:w.heap[β]?=some (.mapIter (some bm) since (seen.push e.born) clock))(hb:w.heap[bm]?=some (.map es clock))(he:e∈es.toList)(hn:(es.toList.map (·.born)).Nodup) :
  (Instr.entry (.pointer (some ⟨β,0,none⟩))).run P w=.ok (.tuple #[e.key,e.val]) w:=by
 have hf:es.find? (·.born==e.born)=some e:=by rw[<- Array.find?_toList];exact find_born e es.toList hn he
 simp only[Instr.entry,getObj,jaf,Sem.run,hi,hb,Result.andThen,Array.back?_push,bne_self_eq_false,jbd,jbu,hf];rfl
end
section
variable {P : Program} {n : Nat} {σ : Nat -> Value} {w : World} {Q : Exit -> Act -> World -> Prop} {ops : Array Oper} {rest : List Oper} {d : Nat} {ty : TypeId} {pos : String} {aft : Array Edge} {g : Option (Nat × Bool)} {T : TypeId} {x : Operand}
theorem zfr{K E:TypeId}{bm:Nat}{es:Array MapEntry}{clock:Nat}(hT:P.underlying T=some (.map K E))(hb:w.heap[bm]?=some (.map es clock))(hg:qao ops σ n g=true)(hx:okO n x=true)(ex:ev σ x=.map (some bm))
  (k:∀β w',w.heap.size=β->Upd [] w w'->w'.heap[β]?=some (.mapIter (some bm) clock #[] clock)->wpList P ops Q rest (Fr n (upd σ d (.pointer (some ⟨β,0,none⟩)))) w'):wpList P ops Q (⟨some d,.range T x,ty,pos,aft,g⟩::rest) (Fr n σ) w :=
 qa5 hg (by simp only[execOp,qat hx,ex,run_range_map w T K E bm es clock hT hb,jaf,jad,jaa]) (k _ _ rfl (Upd.alloc _ _) (jcr _ _))
theorem zde{β bm since c0:Nat}{seen:Array Nat}{es:Array MapEntry}{clock:Nat}(hi:w.heap[β]?=some (.mapIter (some bm) since seen c0))(hb:w.heap[bm]?=some (.map es clock))(hold:∀x∈es.toList,x.born<since)(hsc:since<=c0)
  (hg:qao ops σ n g=true) (hx:okO n x=true) (ex:ev σ x=.pointer (some ⟨β,0,none⟩))
  (k0:(leftOf es seen).size=0->wpList P ops Q rest (Fr n (upd σ d (.tuple #[.bool false]))) w)
  (k1:∀e w1,e∈(leftOf es seen).toList->Upd [β] w w1->w1.heap[β]?=some (.mapIter (some bm) since (seen.push e.born) clock)->wpList P ops Q rest (Fr n (upd σ d (.tuple #[.bool true,e.key,e.val]))) w1) :
  wpList P ops Q (⟨some d,.next x false,ty,pos,aft,g⟩::rest) (Fr n σ) w:=by
 rcases zg2 (P:=P) (ty:=ty) hi hb hold hsc with ⟨h1,h2⟩|⟨e,he,w1,h1,h2,h3⟩
 ·exact qa5 hg (by simp only[execOp,qat hx,ex,h2,jaf,jad,jaa]) (k0 h1)
 ·exact qa5 hg (by simp only[execOp,qat hx,ex,h3,jaf,jad,jaa]) (k1 e w1 he h1 h2)
theorem zho{β bm since:Nat}{seen:Array Nat}{es:Array MapEntry}{clock:Nat}{e:MapEntry}(hi:w.heap[β]?=some (.mapIter (some bm) since (seen.push e.born) clock))(hb:w.heap[bm]?=some (.map es clock))(he:e∈es.toList)(hn:(es.toList.map (·.born)).Nodup)
  (hg:qao ops σ n g=true) (hx:okO n x=true) (ex:ev σ x=.pointer (some ⟨β,0,none⟩)) (k:wpList P ops Q rest (Fr n (upd σ d (.tuple #[e.key,e.val]))) w) :
  wpList P ops Q (⟨some d,.entry x,ty,pos,aft,g⟩::rest) (Fr n σ) w :=
 qa5 hg (by simp only[execOp,qat hx,ex,zbe (P:=P) hi hb he hn,jaf,jad,jaa]) k
end
theorem zlc{es:Array MapEntry}{seen:Array Nat}{e:MapEntry}(hn:(es.toList.map (·.born)).Nodup)(he:e∈(leftOf es seen).toList):List.Perm (leftOf es seen).toList (e::(leftOf es (seen.push e.born)).toList):=by
 have h1:(leftOf es (seen.push e.born)).toList=(leftOf es seen).toList.filter fun x=>!(x.born==e.born):=by
  unfold leftOf;rw[jd4,jd4,List.filter_filter];congr 1;funext x;rw[Array.contains_push];cases seen.contains x.born<;>cases hx:(e.born==x.born)<;>simp_all [BEq.comm]
 rw[h1];have hn2:((leftOf es seen).toList.map (·.born)).Nodup:=by
  unfold leftOf;rw[jd4];exact hn.sublist (List.filter_sublist.map _)
 generalize (leftOf es seen).toList=L at he hn2;induction L with
 | nil=>cases he
 | cons x L ih =>
  obtain⟨n1,n2⟩:=jcn.1 hn2;rcases jax.1 he with rfl|he
  ·have:(e::L).filter (fun x=>!(x.born==e.born))=L:=by
    rw[List.filter_cons_of_neg (by simp)];refine List.filter_eq_self.2 fun y hy=>?_;have:y.born≠e.born:=fun e'=>n1 (jb9.2 ⟨y,hy,e'⟩);simpa using this
   rw[this]
  ·have hne:x.born≠e.born:=fun e'=>n1 (jb9.2 ⟨e,he,e'.symm⟩);rw[List.filter_cons_of_pos (by simpa using hne)];exact((ih he n2).cons x).trans (List.Perm.swap e x _)
end Go.Sx
namespace Go.Proofs.Ytnhmanoiolfapaa
open Go Go.Sx Go.RowKit Go.Sort Go.Shelf
def qbk(e:MapEntry):DC:=(match e.key with|.int _ k=>k|_=>0,match e.val with|.string s=>s|_=>⟨#[]⟩,false)
theorem q93:Szs Try.prog 62 [(0,1),(1,1),(2,1)]:=Go.Jx.szs_of ttOK (ty:=62) rfl rfl rfl
section
attribute [local irreducible] Go.wpList Go.wpQuiet Go.Code.wp
theorem zf7{w:World}{bm:Nat}{es:Array MapEntry}{clock:Nat}(hb:w.heap[bm]?=some (.map es clock))(hn:(es.toList.map (·.born)).Nodup)(hold:∀x∈es.toList,x.born<clock)(hkv:∀e∈es.toList,e.key=.int .i64 (qbk e).1/\e.val=.string (qbk e).2.1)(hl:es.size<=1000) :
  Calls Try.prog 54 #[.map (some bm)] w (Ret fun v w'=>∃a' c' l',v=.slice a' l'.length c'/\(List.Perm l' (es.toList.map qbk)/\qpz l')/\RowC w.heap.size w' a' c' l'/\Upd [] w w'):=by
 have hltm:=qas hb;refine enter (l:=[.map (some bm)]) Try.func54 rfl Try.ntmps54 rfl ?_;refine qal fun K1 hK1=>?_;refine qau ?_;refine qaz (v:=.slice none 0 0) rfl rfl rfl ?_;refine jbf ?_;refine hK1 _ _ ?_;refine qal fun K2 hK2=>?_;refine qau ?_;refine qaz (v:=.slice none 0 0) rfl rfl rfl ?_;refine jbf ?_;refine hK2 _ _ ?_;refine qal fun K3 hK3=>?_;refine qal fun K4 hK4=>?_;refine qau ?_;refine qav (v:=.map (some bm)) rfl rfl rfl ?_;refine zfr q24.und hb rfl rfl rfl fun β w1 hβ u1 hi1=>?_;refine jbf ?_;refine hK4 _ _ ?_;have hb1:w1.heap[bm]?=some (.map es clock):=(u1.same bm hltm (by simp)).trans hb;have hM0:Lo ([]:List Nat) w1:=fun b hb=>by cases hb
 have hperm0:(leftOf es #[]).toList=es.toList:=by
  unfold leftOf;rw[jd4];exact List.filter_eq_self.2 fun x _=>by simp
 refine wp_block ?_;refine qvo (X:=(Array Nat × List DC) × (Option Addr × Nat × List Nat)) (3::4::5::(List.range 19).drop 8) (fun x=>[(3,.slice x.2.1 x.1.2.length x.2.2.1)])
  (fun x wi=>(wi.heap[β]?=some (.mapIter (some bm) clock x.1.1 clock)/\wi.heap[bm]?=some (.map es clock))/\List.Perm (x.1.2++(leftOf es x.1.1).toList.map qbk) (es.toList.map qbk)/\Go.Sx.Own x.2.2.2 [] wi x.2.1 x.2.2.1 x.1.2/\(β∈x.2.2.2/\(∀b∈blk x.2.1,β<b)/\∀b∈x.2.2.2,b<wi.heap.size)/\Upd [] w wi)
  (fun x=>(leftOf es x.1.1).size) ((#[],[]),(none,0,[β])) ⟨rfl,trivial⟩ ⟨⟨hi1,hb1⟩,by rw[hperm0];exact jfn _,Go.Sx.Own.nil,⟨by simp,fun b hb=>(by cases hb),fun b hb=>by rw[jb0.1 hb];exact qas hi1⟩,u1⟩ ?_
 rintro⟨⟨seen,out⟩,ao,co,mo⟩ τ w2 ⟨⟨hi2,hb2⟩,hp2,ho2,hm2,hu2⟩;have hlo:out.length<=es.size:=by
  have:=hp2.length_eq;simp only[jag,jby,jdp] at this;omega
 refine qal fun K5 hK5=>?_;refine qau ?_;refine zde hi2 hb2 hold (jaq _) rfl rfl rfl (fun h0=>?_) (fun e w3 he hu3 hi3=>?_)
 ·refine qih (v:=.bool false) rfl rfl rfl rfl ?_;refine jbf ?_;refine hK5 _ _ ?_;refine qal fun K6 hK6=>?_;refine qjz rfl rfl ?_;refine wp_exit ?_;refine hK3 _ _ ?_;have hnil:(leftOf es seen).toList=[]:=by
   have:leftOf es seen=#[]:=jc1 h0;rw[this]
  rw[hnil,List.map_nil,ja9] at hp2;have hold2:Upd [] w w2:=hu2;refine qal fun K7 hK7=>?_;refine qau ?_;refine qav (v:=.slice ao out.length co) rfl rfl rfl ?_;refine qgl (l:=[.tmp 19,.func 66]) (args:=[.slice ao out.length co,.func (.func 66) #[] #[]]) zjq rfl rfl rfl (zhi (ho2.shut (N:=[]) (fun b hb=>by cases hb) (fun b _=>by simp)) (by omega)) ?_;rintro _ w4 ⟨a',c',l',rfl,⟨hps,hso⟩,hrow,hu4⟩;refine qaz (v:=.slice a' l'.length c') rfl rfl rfl ?_;refine jbf ?_;refine hK7 _ _ ?_;refine je9 ?_;refine ret1 Try.results54 rfl ⟨a',c',l',rfl,⟨hps.trans hp2,hso⟩,⟨hrow.1,?_⟩,hold2.trans hu4⟩;rcases hrow.2 with h|⟨g,h1,h2,h3⟩
  ·exact .inl h
  ·exact .inr ⟨g,h1,jbl hold2.size h2,h3⟩
 ·refine qih (v:=.bool true) rfl rfl rfl rfl ?_;refine jbf ?_;refine hK5 _ _ ?_;refine qal fun K6 hK6=>?_;refine q27 rfl rfl ?_;refine je6 ?_;refine hK6 _ _ ?_;have hein:e∈es.toList:=by
   unfold leftOf at he;rw[jd4] at he;exact(jc3.1 he).1
  obtain⟨hk,hv⟩:=hkv e hein;have hbm3:bm≠β:=by omega
  have hb3:w3.heap[bm]?=some (.map es clock):=(hu3.same bm (qas hb2) (by simpa using hbm3)).trans hb2;refine wp_block ?_;refine qal fun K7 hK7=>?_;refine qau ?_;refine zho hi3 hb3 hein hn rfl rfl rfl ?_;rw[hk,hv];refine qih (v:=.int .i64 (qbk e).1) rfl rfl rfl rfl ?_;refine qih (v:=.string (qbk e).2.1) rfl rfl rfl rfl ?_;refine qaz (v:=.int .i64 (qbk e).1) rfl rfl rfl ?_;refine qaz (v:=.string (qbk e).2.1) rfl rfl rfl ?_;refine jbf ?_;refine hK7 _ _ ?_;have hlp:=zlc hn he;have hsz:(leftOf es seen).size=(leftOf es (seen.push e.born)).size+1:=by
   have:=hlp.length_eq;simpa using this
  have hu03:Upd [] w w3:=Upd.old_upd hu2 hu3 (by omega);have hM3:Lo ([]:List Nat) w3:=fun b hb=>by cases hb
  have hev3:Evo mo w2 mo w3:=hu3.evo (by intro b hb;simp at hb;rw[hb];exact hm2.1);have ho3:Go.Sx.Own mo [] w3 ao co out:=ho2.mono hu3 (fun b hb=>by have:=hm2.2.1 b hb;simp;omega) hev3 (ho2.mem);refine qau ?_;refine qav (v:=.slice ao out.length co) rfl rfl rfl ?_;refine qav (v:=.int .i64 (qbk e).1) rfl rfl rfl ?_;refine qav (v:=.string (qbk e).2.1) rfl rfl rfl ?_;refine zmi (r:=encC (qbk e)) ty62 q93 rfl rfl rfl rfl rfl ?_;refine zju (r:=encC (qbk e)) ty31 ty62 rfl rfl rfl rfl rfl rfl fun β4 w4 hβ4 hu4 hz4 hx4=>?_;have hβ4':β4 ∉ mo++[]:=fun h=>by
   rw[ja9] at h;have h1:=hm2.2.2 β4 h;have h2:=hu3.size;omega
  have ev4:Evo mo w3 mo w4:=hu4.evo0;have ho4:Go.Sx.Own mo [] w4 ao co out:=ho3.mono hu4 (fun b hb=>by simp) ev4 ho2.mem;have hs4:SL (mo++[]) w4 (some ⟨β4,0,none⟩) 1 [qbk e]:=SL.of_box1 hx4 hβ4' rfl;have hM4:Lo ([]:List Nat) w4:=fun b hb=>by cases hb
  refine qlu ty31 ty31 ty62 rfl rfl rfl rfl rfl rfl rfl ho4 hs4 hM4 (by show (out.length+1)*32<=140737488355328;omega) fun a5 c5 w5 m5 ho5 ev5 hu5 hbk5 hsub5=>?_;refine qaz (v:=.slice a5 (out++[qbk e]).length c5) rfl rfl rfl ?_;refine jbf ?_;have hu04:Upd [] w w4:=hu03.trans hu4;have hi4:w4.heap[β]?=some (.mapIter (some bm) clock (seen.push e.born) clock):=(hu4.same β (qas hi3) (by simp)).trans hi3;have hb4:w4.heap[bm]?=some (.map es clock):=(hu4.same bm (qas hb3) (by simp)).trans hb3;have hnb:∀b∈blk ao,β<b:=hm2.2.1;have hi5:w5.heap[β]?=some (.mapIter (some bm) clock (seen.push e.born) clock):=(hu5.same β (qas hi4) (fun h=>by have:=hnb β h;omega)).trans hi4;have hb5:w5.heap[bm]?=some (.map es clock):=(hu5.same bm (qas hb4) (fun h=>by have:=hnb bm h;omega)).trans hb4;have hlt4:β<w4.heap.size:=qas hi4;refine⟨((seen.push e.born,out++[qbk e]),(a5,c5,m5)),by show (leftOf es (seen.push e.born)).size<(leftOf es seen).size;omega,⟨⟨hi5,hb5⟩,?_,ho5,⟨hsub5 β hm2.1,fun b hb=>?_,?_⟩,⟨hu5.os.trans hu04.os,hu5.tape.trans hu04.tape,hu5.output.trans hu04.output,jbl hu04.size hu5.size,fun x hx hn=>(hu5.same x (jbi hx hu04.size) (fun h=>by have:=hnb x h;omega)).trans (hu04.same x hx hn)⟩⟩,_,rfl,(by repeat first|exact qa7.refl _ _|refine qa7.upd rfl ?_|refine qa7.upds rfl ?_|refine qa7.mix rfl ?_),rfl,trivial⟩
  ·refine List.Perm.trans ?_ hp2;show List.Perm ((out++[qbk e])++(leftOf es (seen.push e.born)).toList.map qbk) (out++(leftOf es seen).toList.map qbk);rw[ja0];exact List.Perm.append_left out (hlp.map qbk).symm
  ·rcases hbk5 b hb with h|h
   ·exact hnb b h
   ·omega
  ·exact ev5.lo fun b hb=>jbi (hm2.2.2 b hb) (jbl hu3.size hu4.size)
end
end Go.Proofs.Ytnhmanoiolfapaa
end

noncomputable section
set_option maxRecDepth 100000
namespace Go.Proofs.Ytnhmanoiolfapaa
open Go Go.Sx Go.RowKit Go.Jx
theorem qmi{m:List (Int × ByteArray)}(h:S.mapG m=true):(m.map (·.1)).Nodup/\∀p∈m,(0<=p.1/\p.1<=199)/\p.2.size<=4000:=by
 unfold S.mapG at h;simp only[jae,jcd,jbj] at h;refine⟨h.1,fun p hp=>?_⟩;have:=h.2 p hp;unfold S.inI at this;simp only[jae,jcd] at this;exact⟨this.1,jak this.2⟩
theorem qj7:∀{l:List qaa} {last:Int},S.okGo l last=true->(∀c∈l,last<c.1)/\l.Pairwise (fun a b=>a.1<b.1)
 | [],_,_=>⟨fun c hc=>(by cases hc),List.Pairwise.nil⟩
 | c::l,last,h=>by
  obtain⟨_,_,_,h4,h5⟩:=qbp.1 h;obtain⟨i1,i2⟩:=qj7 h5;refine⟨fun x hx=>?_,List.Pairwise.cons i1 i2⟩;rcases jax.1 hx with rfl|hx
  ·exact h4
  ·have:=i1 x hx;omega
theorem q0w{c:qaa}(hg:c.2.2=false):∀{l:List qaa},(∀x∈l,x.1≠c.1)->List.Perm (S.ins1 c l) (c::l)
 | [],_=>by
  show List.Perm (cond c.2.2 [] [c]) _;rw[hg];exact jfn _
 | a::r,h=>by
  show List.Perm (if a.1<c.1 then a::S.ins1 c r else if a.1=c.1 then cond c.2.2 r (c::r) else cond c.2.2 (a::r) (c::a::r)) _;by_cases q1:a.1<c.1
  ·rw[jam q1];exact((q0w hg fun x hx=>h x (jba _ hx)).cons a).trans (List.Perm.swap c a r)
  ·rw[jao q1,jao (h a (by simp)),hg];exact jfn _
theorem q2d:∀(m:List (Int × ByteArray)) (c:List qaa),(m.map (·.1)).Nodup->(∀p∈m,((0<=p.1/\p.1<=199)/\p.2.size<=4000)/\∀x∈c,x.1≠p.1)->okS c (-1) ->
  okS (m.foldl (fun c p=>S.ins1 (p.1,p.2,false) c) c) (-1)/\List.Perm (m.foldl (fun c p=>S.ins1 (p.1,p.2,false) c) c) (c++m.map fun p=>(p.1,p.2,false))
 | [],c,_,_,h=>⟨h,by simp⟩
 | p::m,c,hn,hr,h=>by
  obtain⟨n1,n2⟩:=jcn.1 hn;have hp:=hr p (by simp);have h1:=q0w (c:=(p.1,p.2,false)) rfl hp.2;have h2:okS (S.ins1 (p.1,p.2,false) c) (-1):=qmw (p.1,p.2,false) hp.1 h (show (-1:Int)<p.1 by have:=hp.1.1.1;omega);obtain⟨i1,i2⟩:=q2d m (S.ins1 (p.1,p.2,false) c) n2 (fun q hq=>⟨(hr q (jba _ hq)).1,fun x hx=>by
   rcases jax.1 (h1.mem_iff.1 hx) with rfl|hx
   ·exact fun e=>n1 (jb9.2 ⟨q,hq,e.symm⟩)
   ·exact(hr q (jba _ hq)).2 x hx⟩) h2
  refine⟨i1,i2.trans ?_⟩;refine(h1.append_right _).trans ?_;show List.Perm ((p.1,p.2,false)::(c++m.map fun p=>(p.1,p.2,false))) (c++(p.1,p.2,false)::m.map fun p=>(p.1,p.2,false));exact List.perm_middle.symm
theorem qf5{m:List (Int × ByteArray)}(h:S.mapG m=true):okS (S.listed m) (-1)/\List.Perm (S.listed m) (m.map fun p=>(p.1,p.2,false)):=by
 obtain⟨h1,h2⟩:=qmi h;exact q2d m [] h1 (fun p hp=>⟨h2 p hp,fun x hx=>by cases hx⟩) ⟨rfl,fun x hx=>by cases hx⟩
theorem qzz{m:List (Int × ByteArray)}(h:S.mapG m=true):(S.listed m).length=m.length:=(qf5 h).2.length_eq.trans (jby _)
theorem q8p{m:List (Int × ByteArray)}(h:S.mapG m=true):m.length<=200:=by
 obtain⟨h1,h2⟩:=qf5 h;have h3:=quq h1.1 (jbt _);have e:=qzz h;omega
theorem zdv{m:List (Int × ByteArray)}(h:S.mapG m=true){l:List qaa}(hp:List.Perm l (m.map fun p=>(p.1,p.2,false)))(hs:qpz l):l=S.listed m:=by
 obtain⟨h1,h2⟩:=qf5 h;obtain⟨n1,n2⟩:=qmi h;have hn:(l.map (·.1)).Nodup:=by
  refine(hp.map (·.1)).nodup_iff.2 ?_;rw[jfi];exact n1
 have hle:l.Pairwise (fun a b=>¬b.1<a.1):=List.pairwise_iff_getElem.2 fun i j hi hj hij=>hs i j hi hj hij;have hne:l.Pairwise (fun a b=>a.1≠b.1):=List.pairwise_map.1 hn;have hlt:l.Pairwise (fun a b=>a.1<b.1):=(hle.and hne).imp fun⟨a,b⟩=>by omega
 exact List.Perm.eq_of_pairwise (le:=fun a b:qaa=>a.1<b.1) (fun a b _ _ q1 q2=>absurd q1 (by omega)) hlt (qj7 h1.1).2 (hp.trans h2.symm)
theorem q69:∀m:List (Int × ByteArray),(tmEs (.int .i64) .str m).map (·.1)=m.map fun p=>IV.int .i64 p.1
 | []=>rfl
 | p::m=>jas (IV.int .i64 p.1::·) (q69 m)
theorem q3o:∀m:List (Int × ByteArray),(tmEs (.int .i64) .str m).map (·.2)=m.map fun p=>IV.str p.2
 | []=>rfl
 | p::m=>jas (IV.str p.2::·) (q3o m)
def usC(L:List qaa)(i j:Nat):Value:=(encC (L.getD i (0,S.none_,false))).getD j .nilFunc
theorem qwi{L:List qaa}{i j:Nat}(h:i<L.length):usC L i j=(encC L[i]).getD j .nilFunc:=by
 unfold usC;rw[jai (l:=L),jac h];rfl
theorem zb5(E:Env)(m:List (Int × ByteArray))(us:List Value)(hG:S.mapG m=true)(p:Pre T0 E (Sc qcr.ps ((some m,()):ElP qcr.ps)))(hv:VRs E [.map 0] us) :
  CallsIn Fence.wide 0 Try.prog 54 us.toArray E.w (RetB 1 T0 E (Sc qcr.ps ((some m,()):ElP qcr.ps)) ⟨.lst qac (S.listed m),Sc qcr.ps ((some m,()):ElP qcr.ps),0,0⟩):=by
 obtain⟨u,us',rfl,a1,a2⟩:=VRs.inv (v:=.map 0) (cs:=[]) hv;obtain rfl:us'=[]:=ja1.1 a2.1.symm;have hA:E.A 0:=by cases a1;assumption
 have hu:u=.map (some (E.ρ 0)):=by cases a1;rfl
 subst hu;obtain⟨ents,clock,h1,h2,h3,h4⟩:=p.st.objs 0 trivial hA (.tmap (.int .i64) .str m) rfl;have h2:VRs E (m.map fun p=>IV.int .i64 p.1) (ents.toList.map (·.key)):=by
  rw[q69] at h2;exact h2
 have h3:VRs E (m.map fun p=>IV.str p.2) (ents.toList.map (·.val)):=by
  rw[q3o] at h3;exact h3
 have hl2:ents.toList.length=m.length:=by
  have:=h2.1;rw[jby,jby] at this;exact this.symm
 have hel:∀i (hi:i<m.length) (hi2:i<ents.toList.length),ents.toList[i].key=.int .i64 (m[i]).1/\ents.toList[i].val=.string (m[i]).2:=fun i hi hi2=>by
  have q1:=h2.2 i (by rw[jby];exact hi) (by rw[jby];exact hi2);have q2:=h3.2 i (by rw[jby];exact hi) (by rw[jby];exact hi2);simp only[jce] at q1 q2;constructor
  ·generalize ents.toList[i].key=u at q1;cases q1;rfl
  ·generalize ents.toList[i].val=u at q2;cases q2;rfl
 have hkv:∀e∈ents.toList,e.key=.int .i64 (qbk e).1/\e.val=.string (qbk e).2.1:=fun e he=>by
  obtain⟨i,hi,rfl⟩:=jcs.1 he;obtain⟨q1,q2⟩:=hel i (by omega) hi;unfold qbk;rw[q1,q2];exact⟨rfl,rfl⟩
 have hmap:ents.toList.map qbk=m.map fun p=>(p.1,p.2,false):=by
  apply List.ext_getElem
  ·simp[hl2]
  ·intro i hi1 hi2;rw[jce,jce];obtain⟨q1,q2⟩:=hel i (by simpa using hi2) (by simpa using hi1);unfold qbk;rw[q1,q2]
 have hlen:=q8p hG;refine(jdl.2 (zf7 h1 h4.1 h4.2 hkv (by rw[<- jdp];omega))).mono fun e w' hR=>?_;cases e with
 | returned v =>
  obtain⟨a',c',l',rfl,⟨hp,hs⟩,⟨hc,hrow⟩,hu⟩:=hR;rw[hmap] at hp;obtain rfl:=zdv hG hp hs;obtain⟨p1,p2⟩:=Post.idle p hu;refine⟨_,E.at_ w',rfl,rfl,?_,PostB.of (jdw (qic qcr.ps ((some m,()):ElP qcr.ps)).symm) (fun _ _=>trivial) p1 p2⟩;show VR _ (.lst qac (S.listed m)) _;obtain⟨o1,o2⟩:=qf5 hG;have hll:(S.listed m).length<=200:=by have:=qzz hG;omega
  generalize hL:S.listed m=L at hc hrow hll o1 o2;cases L with
  | nil=>exact .lst0 hc.2
  | cons c0 L =>
   rcases hrow with h|⟨g,rfl,hg,hcell⟩
   ·cases h
   have h00:=hcell 0 (by simp) 0 (by omega);obtain⟨cells,t,fz,hh⟩:∃cells t fz,w'.heap[g]?=some (.cells cells t fz):=by
    unfold World.cell? at h00;split at h00
    ·rename_i c t fz h;exact⟨c,t,fz,h⟩
    ·cases h00
   have hcell2:∀i (h:i<(c0::L).length) j,j<3->cells[i*3+j]?=(encC (c0::L)[i])[j]?:=fun i h j hj=>by
    rw[<- hcell i h j hj];simp[World.cell?,hh]
   refine VR.lst (E:=E.at_ w') (c:=qac) (l:=c0::L) (off:=0) (cells:=cells) (t:=t) (fz:=fz) (usC (c0::L)) hc.1 hc.2 (by show (c0::L).length*25<=140737488355328;omega) (fun h=>?_) hh (fun i hi j hj=>?_) (fun i hi j hj=>?_)
   ·have:=p.st.lo g h;omega
   ·show cells[0+i*3+j]?=_;have hj:j<3:=hj;have hi:i<(c0::L:List qaa).length:=hi;rw[jbm,hcell2 i hi j hj,qwi hi,jai,jac (show j<(encC ((c0::L:List qaa)[i]'hi)).length from hj)];rfl
   ·have hj:j<3:=hj;have hi:i<(c0::L:List qaa).length:=hi;have hin:(c0::L)[i]∈(c0::L):=jbk hi;have hpm:(c0::L)[i]∈(m.map fun p=>((p.1,p.2,false):qaa)):=by
     exact o2.mem_iff.1 hin
    obtain⟨q,hq,hqe⟩:=jb9.1 hpm;obtain⟨⟨k1,k2⟩,k3⟩:=(qmi hG).2 q hq;show VR _ (cel qac ((c0::L:List qaa)[i]'hi))[j] (usC (c0::L) i j);rw[qwi hi];have hx:∀(x:qaa) (hx:x=(q.1,q.2,false)) (hj':j<(cel qac x).length),VR (E.at_ w') (cel qac x)[j] ((encC x).getD j .nilFunc):=fun x hx hj'=>by
     subst hx;match j,hj with
     | 0,_=>exact .int .i64 q.1 (qfr ⟨by omega,by omega⟩)
     | 1,_=>exact .str q.2 (by omega)
     | 2,_=>exact .bool false
    exact hx _ hqe.symm _
 | _=>exact hR.elim
theorem zat:ConR Try.prog 54 qcr:=by
 refine⟨zhx,fun E x us y z hf p hv=>?_⟩;obtain⟨m,u0⟩:=x;cases u0;cases m with
 | none=>cases hf
 | some m =>
 have hf:cond (S.mapG m) (some (((S.listed m,()):ElR qcr.rts),((some m,()):ElP (refs qcr.ps)))) none=some (y,z):=hf;obtain⟨hG,e⟩:=qbb hf;obtain⟨rfl,rfl⟩:=Prod.mk.inj e;exact zb5 E m us hG p hv
abbrev KV:Type:=Int × ByteArray
def ms(k:Int)(v:ByteArray):List KV->List KV
 | []=>[(k,v)]
 | e::es=>if k=e.1 then (k,v)::es else e::ms k v es
def md(k:Int):List KV->List KV
 | []=>[]
 | e::es=>if k=e.1 then es else e::md k es
theorem q4n(k:Int)(v:ByteArray):∀m:List KV,(mset (vc:=.str) (.int .i64) k v m:List KV)=ms k v m
 | []=>rfl
 | e::m=>by
  show cond (decide (k=e.1)) ((k,v)::m) (e::(mset (vc:=.str) (.int .i64) k v m:List KV))=if k=e.1 then (k,v)::m else e::ms k v m
  rw[q4n k v m];by_cases h:k=e.1
  ·rw[jan h,jam h];rfl
  ·rw[jat h,jao h];rfl
theorem qyk(k:Int):∀m:List KV,(mdel (vc:=.str) (.int .i64) k m:List KV)=md k m
 | []=>rfl
 | e::m=>by
  show cond (decide (k=e.1)) m (e::(mdel (vc:=.str) (.int .i64) k m:List KV))=if k=e.1 then m else e::md k m
  rw[qyk k m];by_cases h:k=e.1
  ·rw[jan h,jam h];rfl
  ·rw[jat h,jao h];rfl
theorem qm2{k:Int}{v:ByteArray}{p:KV}:∀{m:List KV},(m.map (·.1)).Nodup->(p∈ms k v m↔(p∈m/\p.1≠k)\/p=(k,v))
 | [],_=>by simp[ms]
 | e::m,h=>by
  obtain⟨n1,n2⟩:=jcn.1 h;unfold ms;by_cases hk:k=e.1
  ·rw[jam hk];constructor
   ·intro hp;rcases jax.1 hp with rfl|hp
    ·exact .inr rfl
    ·exact .inl ⟨jba _ hp,fun e'=>n1 (jb9.2 ⟨p,hp,e'.trans hk⟩)⟩
   ·rintro(⟨hp,hn⟩|rfl)
    ·rcases jax.1 hp with rfl|hp
     ·exact absurd hk.symm hn
     ·exact jba _ hp
    ·exact jb1
  ·rw[jao hk];have ih:=qm2 (k:=k) (v:=v) (p:=p) n2;constructor
   ·intro hp;rcases jax.1 hp with rfl|hp
    ·exact .inl ⟨jb1,fun e'=>hk e'.symm⟩
    ·rcases ih.1 hp with ⟨a,b⟩|a
     ·exact .inl ⟨jba _ a,b⟩
     ·exact .inr a
   ·rintro(⟨hp,hn⟩|hp)
    ·rcases jax.1 hp with rfl|hp
     ·exact jb1
     ·exact jba _ (ih.2 (.inl ⟨hp,hn⟩))
    ·exact jba _ (ih.2 (.inr hp))
theorem qm8{k:Int}{p:KV}:∀{m:List KV},(m.map (·.1)).Nodup->(p∈md k m↔p∈m/\p.1≠k)
 | [],_=>by simp[md]
 | e::m,h=>by
  obtain⟨n1,n2⟩:=jcn.1 h;unfold md;by_cases hk:k=e.1
  ·rw[jam hk];constructor
   ·intro hp;exact⟨jba _ hp,fun e'=>n1 (jb9.2 ⟨p,hp,e'.trans hk⟩)⟩
   ·rintro⟨hp,hn⟩;rcases jax.1 hp with rfl|hp
    ·exact absurd hk.symm hn
    ·exact hp
  ·rw[jao hk];have ih:=qm8 (k:=k) (p:=p) n2;constructor
   ·intro hp;rcases jax.1 hp with rfl|hp
    ·exact⟨jb1,fun e'=>hk e'.symm⟩
    ·exact⟨jba _ (ih.1 hp).1,(ih.1 hp).2⟩
   ·rintro⟨hp,hn⟩;rcases jax.1 hp with rfl|hp
    ·exact jb1
    ·exact jba _ (ih.2 ⟨hp,hn⟩)
theorem q4e{k:Int}{v:ByteArray}:∀{m:List KV},(m.map (·.1)).Nodup->((ms k v m).map (·.1)).Nodup
 | [],_=>by simp[ms]
 | e::m,h=>by
  obtain⟨n1,n2⟩:=jcn.1 h;unfold ms;by_cases hk:k=e.1
  ·rw[jam hk];exact jcn.2 ⟨by rw[hk];exact n1,n2⟩
  ·rw[jao hk];refine jcn.2 ⟨fun hm=>?_,q4e n2⟩;obtain⟨p,hp,he⟩:=jb9.1 hm;rcases(qm2 n2).1 hp with ⟨a,_⟩|a
   ·exact n1 (jb9.2 ⟨p,a,he⟩)
   ·rw[a] at he;exact hk he
theorem qyz{k:Int}:∀{m:List KV},(m.map (·.1)).Nodup->((md k m).map (·.1)).Nodup
 | [],_=>by simp[md]
 | e::m,h=>by
  obtain⟨n1,n2⟩:=jcn.1 h;unfold md;by_cases hk:k=e.1
  ·rw[jam hk];exact n2
  ·rw[jao hk];refine jcn.2 ⟨fun hm=>?_,qyz n2⟩;obtain⟨p,hp,he⟩:=jb9.1 hm;exact n1 (jb9.2 ⟨p,((qm8 n2).1 hp).1,he⟩)
theorem qzm{c x:qaa}:∀{l:List qaa} {last:Int},S.okGo l last=true->(x∈S.ins1 c l↔(x∈l/\x.1≠c.1)\/(x=c/\c.2.2=false))
 | [],last,_=>by
  show x∈cond c.2.2 [] [c]↔_;cases c.2.2<;>simp
 | a::r,last,h=>by
  obtain⟨_,_,_,_,h5⟩:=qbp.1 h;have hlt:=(qj7 h5).1;have ih:=qzm (c:=c) (x:=x) h5;show x∈(if a.1<c.1 then a::S.ins1 c r else if a.1=c.1 then cond c.2.2 r (c::r) else cond c.2.2 (a::r) (c::a::r))↔_;by_cases q1:a.1<c.1
  ·rw[jam q1,jax,ih,jax];constructor
   ·rintro(rfl|⟨a1,a2⟩|a1)
    ·exact .inl ⟨.inl rfl,by omega⟩
    ·exact .inl ⟨.inr a1,a2⟩
    ·exact .inr a1
   ·rintro(⟨rfl|a1,a2⟩|a1)
    ·exact .inl rfl
    ·exact .inr (.inl ⟨a1,a2⟩)
    ·exact .inr (.inr a1)
  ·rw[jao q1];by_cases q2:a.1=c.1
   ·rw[jam q2];have hr:∀y∈r,y.1≠c.1:=fun y hy=>by have:=hlt y hy;omega
    cases hg:c.2.2 with
    | true =>
     simp only[jab,jax,jfk,and_false,or_false];constructor
     ·intro hx;exact⟨.inr hx,hr x hx⟩
     ·rintro⟨rfl|a1,a2⟩
      ·exact absurd q2 a2
      ·exact a1
    | false =>
     simp only[jah,jax,and_true];constructor
     ·rintro(rfl|hx)
      ·exact .inr rfl
      ·exact .inl ⟨.inr hx,hr x hx⟩
     ·rintro(⟨rfl|a1,a2⟩|a1)
      ·exact absurd q2 a2
      ·exact .inr a1
      ·exact .inl a1
   ·rw[jao q2];have hr:∀y∈a::r,y.1≠c.1:=fun y hy=>by
     rcases jax.1 hy with rfl|hy
     ·exact q2
     ·have:=hlt y hy;omega
    cases hg:c.2.2 with
    | true =>
     simp only[jab,jfk,and_false,or_false];exact⟨fun hx=>⟨hx,hr x hx⟩,fun hx=>hx.1⟩
    | false =>
     simp only[jah,and_true];rw[jax];constructor
     ·rintro(rfl|hx)
      ·exact .inr rfl
      ·exact .inl ⟨hx,hr x hx⟩
     ·rintro(⟨a1,_⟩|a1)
      ·exact .inr a1
      ·exact .inl a1
theorem zkw{a b:List qaa}(ha:okS a (-1))(hb:okS b (-1))(h:∀x,x∈a↔x∈b):a=b:=by
 have h1:=(qj7 ha.1).2;have h2:=(qj7 hb.1).2;have n1:a.Nodup:=h1.imp fun {x y} hxy e=>by subst e;omega
 have n2:b.Nodup:=h2.imp fun {x y} hxy e=>by subst e;omega
 exact List.Perm.eq_of_pairwise (le:=fun a b:qaa=>a.1<b.1) (fun a b _ _ q1 q2=>absurd q1 (by omega)) h1 h2 ((List.perm_ext_iff_of_nodup n1 n2).2 h)
theorem qv3{m:List KV}(h:S.mapG m=true){x:qaa}:x∈S.listed m↔(x.1,x.2.1)∈m/\x.2.2=false:=by
 rw[(qf5 h).2.mem_iff,jb9];constructor
 ·rintro⟨p,hp,rfl⟩;exact⟨hp,rfl⟩
 ·rintro⟨hp,hx⟩;exact⟨_,hp,by obtain⟨a,b,c⟩:=x;cases hx;rfl⟩
theorem q68{m:List KV}(h1:(m.map (·.1)).Nodup)(h2:∀p∈m,(0<=p.1/\p.1<=199)/\p.2.size<=4000):S.mapG m=true:=by
 unfold S.mapG;simp only[jae,jcd,jbj];refine⟨h1,fun p hp=>?_⟩;obtain⟨⟨a,b⟩,c⟩:=h2 p hp;unfold S.inI;simp only[jae,jcd];exact⟨⟨a,b⟩,jay c⟩
def qfj(m:List KV)(c:qaa):List KV:=cond c.2.2 (md c.1 m) (ms c.1 c.2.1 m)
theorem zis{m:List KV}(h:S.mapG m=true){c:qaa}(hc:(0<=c.1/\c.1<=199)/\c.2.1.size<=4000):S.mapG (qfj m c)=true/\S.listed (qfj m c)=S.ins1 c (S.listed m):=by
 obtain⟨n1,n2⟩:=qmi h;obtain⟨o1,o2⟩:=qf5 h;have hG:S.mapG (qfj m c)=true:=by
  unfold qfj;cases c.2.2 with
  | true=>exact q68 (qyz n1) fun p hp=>n2 p ((qm8 n1).1 hp).1
  | false =>
   exact q68 (q4e n1) fun p hp=>by
    rcases(qm2 n1).1 hp with ⟨a,_⟩|rfl
    ·exact n2 p a
    ·exact hc
 refine⟨hG,zkw (qf5 hG).1 (qmw c hc o1 (by omega)) fun x=>?_⟩;rw[qv3 hG,qzm o1.1,qv3 h];unfold qfj;cases hg:c.2.2 with
 | true =>
  rw[jab,qm8 n1];simp only[jfk,and_false,or_false];exact⟨fun ⟨⟨a,b⟩,c⟩=>⟨⟨a,c⟩,b⟩,fun ⟨⟨a,c⟩,b⟩=>⟨⟨a,b⟩,c⟩⟩
 | false =>
  rw[jah,qm2 n1];simp only[and_true];constructor
  ·rintro⟨⟨a,b⟩|a,d⟩
   ·exact .inl ⟨⟨a,d⟩,b⟩
   ·refine .inr ?_;obtain⟨x1,x2,x3⟩:=x;obtain⟨c1,c2,c3⟩:=c;simp only[jdt] at a d hg ⊢;exact⟨a.1,a.2,d.trans hg.symm⟩
  ·rintro(⟨⟨a,b⟩,d⟩|rfl)
   ·exact⟨.inl ⟨a,d⟩,b⟩
   ·exact⟨.inr rfl,hg⟩
theorem znp(m:List KV)(l:List qaa):S.applied m l=l.foldl qfj m:=by
 unfold S.applied;have:∀(l:List qaa) (m:List KV),List.foldl (fun(m:List KV) (c:qaa)=>cond c.2.2 (mdel (vc:=.str) (.int .i64) c.1 m:List KV) (mset (vc:=.str) (.int .i64) c.1 c.2.1 m)) m l=l.foldl qfj m:=by
  intro l;induction l with
  | nil=>intro m;rfl
  | cons c l ih =>
   intro m;rw[jdz,jdz,ih];congr 1;unfold qfj;rw[<- q4n,<- qyk]
 exact this l m
theorem q0s:∀{l:List qaa} {m:List KV} {last:Int},S.mapG m=true->S.okGo l last=true->S.mapG (S.applied m l)=true/\S.listed (S.applied m l)=S.changed (S.listed m) l
 | [],m,_,h,_=>⟨h,rfl⟩
 | c::l,m,last,h,hl=>by
  obtain⟨h1,h2,h3,h4,h5⟩:=qbp.1 hl;obtain⟨s1,s2⟩:=zis h ⟨h1,h2⟩;have ih:=q0s (l:=l) s1 h5;rw[znp] at ih ⊢;rw[jdz];refine⟨ih.1,ih.2.trans ?_⟩;rw[s2];rfl
theorem q6m{g:Nat->List qaa}(hg:∀k,k<200->g k=[]\/∃c,g k=[c]/\c.1=(k:Int)/\c.2.1.size<=4000/\(c.2.2=true->c.2.1=S.none_)):∀(n s:Nat),s+n<=200->S.okGo ((List.range' s n).flatMap g) ((s:Int)-1)=true
 | 0,s,_=>rfl
 | n+1,s,h=>by
  have ih:=q6m hg n (s+1) (by omega);rw[show ((s+1:Nat):Int)-1=(s:Int) by omega] at ih;rw[List.range'_succ,je0];rcases hg s (by omega) with e|⟨c,e,h1,h2,h3⟩
  ·rw[e,jck];exact q3c ih (by omega)
  ·rw[e,List.singleton_append];exact qbp.2 ⟨by omega,h2,h3,by omega,by rw[h1];exact ih⟩
def qkf(l:List DChg):Prop:=∀c∈l,0<=c.2.1/\c.2.1<=255
theorem qy7{α β:Type}(f:α->Option β):∀l:List α,l.filterMap f=l.flatMap fun a=>(f a).toList
 | []=>rfl
 | a::l=>by
  rw[List.filterMap_cons,je0,qy7 f l];cases f a<;>rfl
theorem zjn{l:List DChg}(h:qkf l):S.okC (S.cells l)=true/\(S.cells l).length<=25:=by
 constructor
 ·have:=q6m (g:=fun k=>((l.reverse.find? fun c=>decide (c.1 % 25=(k:Int))).map (S.cellOf k)).toList) (fun k hk=>?_) 25 0 (by omega)
  ·unfold S.cells S.okC;rw[List.range_eq_range',qy7];exact this
  ·show Option.toList _=[]\/_;cases hf:l.reverse.find? fun c=>decide (c.1 % 25=(k:Int)) with
   | none=>exact .inl rfl
   | some c =>
    refine .inr ⟨S.cellOf k c,rfl,rfl,?_⟩;have hc:=h c (List.mem_reverse.1 (List.mem_of_find?_eq_some hf));unfold S.cellOf;cases c.2.2.2 with
    | true=>exact⟨jb8 _,fun _=>rfl⟩
    | false =>
     refine⟨?_,fun e=>by cases e⟩;show (qae _).size<=4000;rw[qbg,ja5];omega
 ·unfold S.cells;exact jbl (List.length_filterMap_le _ _) (by rw[jfp];omega)
def S.madeOk(n:Int):Bool:=decide ((S.newDisk n).2=0)&&(decide ((S.format (S.newDisk n).1).2=0)&&(decide ((S.doD (S.newDisk n).1 (S.format (S.newDisk n).1).1).2=0)&&decide ((S.open_ (S.madeD_ n)).2=0)))
theorem zbp:(List.range 17).all (fun k=>S.madeOk (8+2*((k:Nat):Int)))=true:=by kernel_rfl
theorem q44{n:Int}(h:S.evn n=true):(S.newDisk n).2=0/\(S.format (S.newDisk n).1).2=0/\(S.doD (S.newDisk n).1 (S.format (S.newDisk n).1).1).2=0/\(S.open_ (S.madeD_ n)).2=0:=by
 unfold S.evn at h;rw[jae,qbl] at h;have h2:=ja2 h.2;have:=jbj.1 zbp ((n.toNat-8) / 2) (jfl.2 (by omega));rw[show 8+2*((((n.toNat-8) / 2:Nat)):Int)=n by omega] at this;unfold S.madeOk at this;rw[jae,jae,jae] at this;exact⟨ja2 this.1,ja2 this.2.1,ja2 this.2.2.1,ja2 this.2.2.2⟩
def JnR(j:qad):Prop:=∃L h a u c,j=((L,[]),h,((u:Nat):Int),c)/\Jn L h a u c
theorem q2n{n:Int}(h:S.evn n=true):JnR (S.madeN n):=by
 obtain⟨hf,a,u,c,j,_,e⟩:=qt0 (q44 h).2.2.2;exact⟨_,hf,a,u,c,jas Prod.fst e,j⟩
theorem q6q{j:qad}(hj:JnR j){l:List DChg}(h:qkf l):JnR (S.playStep j l)/\((S.cells l).length=0\/(S.save j (S.cells l)).2=0\/(S.save j (S.cells l)).2=14):=by
 have hk:=zjn h;unfold S.playStep;by_cases h0:(S.cells l).length=0
 ·rw[jam h0];exact⟨hj,.inl h0⟩
 ·obtain⟨L,hf,a,u,c,rfl,j⟩:=hj;rw[jao h0];rcases zcf j hk.1 h0 (by omega) with ⟨L',h',a',u',e,j',_⟩|⟨e,_⟩
  ·rw[e,jam rfl];exact⟨⟨_,_,_,_,_,rfl,j'⟩,.inr (.inl rfl)⟩
  ·rw[e,jao (by show ¬(14:Int)=0;decide)];exact⟨⟨_,_,_,_,_,rfl,j⟩,.inr (.inr rfl)⟩
theorem q5m:∀{l:List (List DChg)} {j:qad},JnR j->(∀x∈l,qkf x)->JnR (l.foldl S.playStep j)
 | [],_,h,_=>h
 | x::l,j,h,hl=>q5m (j:=S.playStep j x) (q6q h (hl x (by simp))).1 fun y hy=>hl y (by simp[hy])
theorem qqw{s:Int}(h:0<=s/\s<=255):S.evn (8+2*(s % 17))=true:=by
 unfold S.evn;rw[jae,qbl];exact⟨by omega,jan (by omega)⟩
theorem zlt{s:Int}{l:List (List DChg)}(h:0<=s/\s<=255)(hl:∀x∈l,qkf x):JnR (S.played s l):=q5m (q2n (qqw h)) hl
def S.ten:ByteArray:=S.lit [48,49,50,51,52,53,54,55,56,57]
def S.hC:List qaa:=[(5,S.ten,false)]
def S.hL:List DAct:=(S.plan S.madeJ S.hC).1
def S.hD:qah:=(S.doD S.madeJ.1 (S.hL.take 4)).1
def S.hLost:qah:=(S.crash S.hD [0]).1
def S.hKept:qah:=(S.crash S.hD [1]).1
def S.hX:qad:=(S.open_ S.hLost).1
def S.hY:qad:=(S.open_ S.hKept).1
def S.hG:List qaa:=[(5,S.none_,true)]
def S.hZ:qad:=(S.commitJ S.hY S.hG).1
def S.hT:qad:=(S.turnJ S.hZ).1
def S.gPlan(j:qad)(l:List qaa):Bool:=S.sameJ j S.madeJ&&S.sameC l S.hC
def S.gDo(d:qah)(l:List DAct):Bool:=S.sameD d S.madeJ.1&&S.sameA l (S.hL.take 4)
def S.isZ(k:List Int):Bool:=decide (k=[0])
def S.gCrash(d:qah)(k:List Int):Bool:=S.sameD d S.hD&&(decide (k=[0])||decide (k=[1]))
def S.hCr(k:List Int):qah:=cond (S.isZ k) S.hLost S.hKept
def S.gOpen(d:qah):Bool:=S.sameD d S.hLost||S.sameD d S.hKept
def S.hOp(d:qah):qad:=cond (S.sameD d S.hLost) S.hX S.hY
def S.gCom(j:qad)(l:List qaa):Bool:=S.sameJ j S.hY&&S.sameC l S.hG
def S.gZ(j:qad):Bool:=S.sameJ j S.hZ
def qz4:Sm:=⟨[qag,.list qac],[(true,cAct),(false,.int .i64)],fun x=>cond (S.gPlan x.1 x.2.1) (some (S.hL,(0:Int),())) none⟩
def q37:Sm:=⟨[qan,.list cAct],[(false,qan),(false,.int .i64)],fun x=>cond (S.gDo x.1 x.2.1) (some (S.hD,(0:Int),())) none⟩
def q33:Sm:=⟨[qan,.list (.int .i64)],[(false,qan),(false,.int .i64)],fun x=>cond (S.gCrash x.1 x.2.1) (some (S.hCr x.2.1,(0:Int),())) none⟩
def qxq:Sm:=⟨[qan],[(false,qag),(false,.int .i64)],fun x=>cond (S.gOpen x.1) (some (S.hOp x.1,(0:Int),())) none⟩
def q09:Sm:=⟨[qag,.list qac],[(false,qag),(false,.int .i64)],fun x=>cond (S.gCom x.1 x.2.1) (some (S.hZ,(0:Int),())) none⟩
def qw8:Sm:=⟨[qag],[(false,.int .i64),(false,.int .i64)],fun x=>cond (S.gZ x.1) (some ((0:Int),(0:Int),())) none⟩
def q6v:Sm:=⟨[qag],[(false,qag),(false,.int .i64)],fun x=>cond (S.gZ x.1) (some (S.hT,(0:Int),())) none⟩
abbrev qnb:Type:=Bool × Unit
abbrev zok:Nat:=5
def q8i(lf:Nat):Option qnb:=(match (cond (S.inI (Int.ofNat 8) (Int.ofNat 8) (Int.ofNat 8)) (some (S.madeJ,(true,()))) none) with|none=>none|some v0=>(cond (Bool.not v0.2.1) (some (false,())) (match (cond (S.gPlan ((v0.1.1.1,v0.1.1.2),(v0.1.2.1,(v0.1.2.2.1,v0.1.2.2.2))) (List.cons ((Int.ofNat 5),((S.lit [48,49,50,51,52,53,54,55,56,57]),false)) [])) (some (S.hL,((Int.ofNat 0),()))) none) with|none=>none|some v1=>(cond (Bool.not (ieqI v1.2.1 (Int.ofNat 0))) (some (false,())) (cond (Bool.not (ieqI (Int.ofNat v1.1.length) (Int.ofNat 5))) (some (false,())) (match (jget v1.1 (Int.ofNat 0)) with|none=>none|some v2=>(match (GetElem?.getElem? v1.1 0) with|none=>none|some v3=>(cond (Bool.not (ieqI v3.2.1 (Int.ofNat 2))) (some (false,())) (match (jget v1.1 (Int.ofNat 1)) with|none=>none|some v4=>(match (GetElem?.getElem? v1.1 1) with|none=>none|some v5=>(cond (Bool.not (ieqI v5.2.1 (Int.ofNat 3))) (some (false,())) (match (jget v1.1 (Int.ofNat 2)) with|none=>none|some v6=>(match (GetElem?.getElem? v1.1 2) with|none=>none|some v7=>(cond (Bool.not v7.1) (some (false,())) (match (jget v1.1 (Int.ofNat 3)) with|none=>none|some v8=>(match (GetElem?.getElem? v1.1 3) with|none=>none|some v9=>(cond (Bool.not (ieqI v9.2.1 (Int.ofNat 2))) (some (false,())) (cond (Bool.not (ieqI v0.1.2.1 (Int.ofNat 0))) (some (false,())) (cond (Bool.not (ieqI v0.1.2.2.1 (Int.ofNat 1))) (some (false,())) (cond (Bool.not (ieqI (Int.ofNat v0.1.2.2.2.length) (Int.ofNat 0))) (some (false,())) (cond (lchk (Int.ofNat 0) (Int.ofNat 4) (Int.ofNat v1.1.length) (Int.ofNat v1.1.length)) (match (cond (S.gDo (v0.1.1.1,v0.1.1.2) (lsub v1.1 (Int.ofNat 0) (Int.ofNat 4))) (some (S.hD,((Int.ofNat 0),()))) none) with|none=>none|some v10=>(match (cond (S.gCrash (v10.1.1,v10.1.2) [(Int.ofNat 0)]) (some ((S.hCr [(Int.ofNat 0)]),((Int.ofNat 0),()))) none) with|none=>none|some v11=>(match (cond (S.gCrash (v10.1.1,v10.1.2) [(Int.ofNat 1)]) (some ((S.hCr [(Int.ofNat 1)]),((Int.ofNat 0),()))) none) with|none=>none|some v12=>(match (cond (S.gOpen (v11.1.1,v11.1.2)) (some ((S.hOp (v11.1.1,v11.1.2)),((Int.ofNat 0),()))) none) with|none=>none|some v13=>(match (cond (S.gOpen (v12.1.1,v12.1.2)) (some ((S.hOp (v12.1.1,v12.1.2)),((Int.ofNat 0),()))) none) with|none=>none|some v14=>(cond (Bool.not (ieqI v10.2.1 (Int.ofNat 0))) (some (false,())) (cond (Bool.not (ieqI v11.2.1 (Int.ofNat 0))) (some (false,())) (cond (Bool.not (ieqI v12.2.1 (Int.ofNat 0))) (some (false,())) (cond (Bool.not (ieqI v13.2.1 (Int.ofNat 0))) (some (false,())) (cond (Bool.not (ieqI v14.2.1 (Int.ofNat 0))) (some (false,())) (cond (Bool.not (ieqI (Int.ofNat v13.1.2.2.2.length) (Int.ofNat 0))) (some (false,())) (cond (Bool.not (ieqI (Int.ofNat v14.1.2.2.2.length) (Int.ofNat 1))) (some (false,())) (match (jget v14.1.2.2.2 (Int.ofNat 0)) with|none=>none|some v15=>(cond (Bool.not (keqS v15.2.1 (S.lit [48,49,50,51,52,53,54,55,56,57]))) (some (false,())) (match (cond (S.gCom ((v14.1.1.1,v14.1.1.2),(v14.1.2.1,(v14.1.2.2.1,v14.1.2.2.2))) (List.cons ((Int.ofNat 5),((S.lit []),true)) [])) (some (S.hZ,((Int.ofNat 0),()))) none) with|none=>none|some v16=>(match (cond (S.gZ ((v16.1.1.1,v16.1.1.2),(v16.1.2.1,(v16.1.2.2.1,v16.1.2.2.2)))) (some ((Int.ofNat 0),((Int.ofNat 0),()))) none) with|none=>none|some v17=>(match (cond (S.gZ ((v16.1.1.1,v16.1.1.2),(v16.1.2.1,(v16.1.2.2.1,v16.1.2.2.2)))) (some (S.hT,((Int.ofNat 0),()))) none) with|none=>none|some v18=>(cond (ieqI v16.2.1 (Int.ofNat 0)) (cond (ieqI v17.2.1 (Int.ofNat 0)) (cond (ieqI v18.2.1 (Int.ofNat 0)) (cond (ieqI v17.1 (Int.ofNat 0)) (cond (ieqI v18.1.2.1 (Int.ofNat 1)) (cond (ieqI v18.1.2.2.1 (Int.ofNat 1)) (some ((ieqI (Int.ofNat v18.1.2.2.2.length) (Int.ofNat 0)),())) (some (false,()))) (some (false,()))) (some (false,()))) (some (false,()))) (some (false,()))) (some (false,())))))))))))))))))))) none)))))))))))))))))))))
def qrp(lf:Nat):Option qnb:=q8i lf
theorem zce{g:ElA []->Option qnb}(hsm:SmOK Try.prog [(19,qyp),(14,spz1),(16,qz4),(20,q37),(21,q33),(10,qxq),(18,q09),(15,qw8),(11,q6v)])(hg:∀(x:ElA []) (y:qnb),WfA [] x->g x=some y->∃lf,qrp lf=some y):Con Try.prog 5 ⟨[],[(false,.bool)],g⟩ :=
 conU (fi:=fi5) (hxl:=[]) (fun lf x=>qrp lf) cm3 cal5 trivial hsm hg
abbrev qn9:Type:=qad × Bool × Unit
abbrev q1n:Nat:=19
def qvf(lf:Nat)(x1:Int):Option qn9:=(cond (ieqI (S.newDisk x1).2 (Int.ofNat 0)) (cond (ieqI (S.format ((S.newDisk x1).1.1,(S.newDisk x1).1.2)).2 (Int.ofNat 0)) (cond (ieqI (S.doD ((S.newDisk x1).1.1,(S.newDisk x1).1.2) (S.format ((S.newDisk x1).1.1,(S.newDisk x1).1.2)).1).2 (Int.ofNat 0)) (some ((((S.open_ ((S.doD ((S.newDisk x1).1.1,(S.newDisk x1).1.2) (S.format ((S.newDisk x1).1.1,(S.newDisk x1).1.2)).1).1.1,(S.doD ((S.newDisk x1).1.1,(S.newDisk x1).1.2) (S.format ((S.newDisk x1).1.1,(S.newDisk x1).1.2)).1).1.2)).1.1.1,(S.open_ ((S.doD ((S.newDisk x1).1.1,(S.newDisk x1).1.2) (S.format ((S.newDisk x1).1.1,(S.newDisk x1).1.2)).1).1.1,(S.doD ((S.newDisk x1).1.1,(S.newDisk x1).1.2) (S.format ((S.newDisk x1).1.1,(S.newDisk x1).1.2)).1).1.2)).1.1.2),((S.open_ ((S.doD ((S.newDisk x1).1.1,(S.newDisk x1).1.2) (S.format ((S.newDisk x1).1.1,(S.newDisk x1).1.2)).1).1.1,(S.doD ((S.newDisk x1).1.1,(S.newDisk x1).1.2) (S.format ((S.newDisk x1).1.1,(S.newDisk x1).1.2)).1).1.2)).1.2.1,((S.open_ ((S.doD ((S.newDisk x1).1.1,(S.newDisk x1).1.2) (S.format ((S.newDisk x1).1.1,(S.newDisk x1).1.2)).1).1.1,(S.doD ((S.newDisk x1).1.1,(S.newDisk x1).1.2) (S.format ((S.newDisk x1).1.1,(S.newDisk x1).1.2)).1).1.2)).1.2.2.1,(S.open_ ((S.doD ((S.newDisk x1).1.1,(S.newDisk x1).1.2) (S.format ((S.newDisk x1).1.1,(S.newDisk x1).1.2)).1).1.1,(S.doD ((S.newDisk x1).1.1,(S.newDisk x1).1.2) (S.format ((S.newDisk x1).1.1,(S.newDisk x1).1.2)).1).1.2)).1.2.2.2))),((ieqI (S.open_ ((S.doD ((S.newDisk x1).1.1,(S.newDisk x1).1.2) (S.format ((S.newDisk x1).1.1,(S.newDisk x1).1.2)).1).1.1,(S.doD ((S.newDisk x1).1.1,(S.newDisk x1).1.2) (S.format ((S.newDisk x1).1.1,(S.newDisk x1).1.2)).1).1.2)).2 (Int.ofNat 0)),()))) (some ((((S.open_ ((S.doD ((S.newDisk x1).1.1,(S.newDisk x1).1.2) (S.format ((S.newDisk x1).1.1,(S.newDisk x1).1.2)).1).1.1,(S.doD ((S.newDisk x1).1.1,(S.newDisk x1).1.2) (S.format ((S.newDisk x1).1.1,(S.newDisk x1).1.2)).1).1.2)).1.1.1,(S.open_ ((S.doD ((S.newDisk x1).1.1,(S.newDisk x1).1.2) (S.format ((S.newDisk x1).1.1,(S.newDisk x1).1.2)).1).1.1,(S.doD ((S.newDisk x1).1.1,(S.newDisk x1).1.2) (S.format ((S.newDisk x1).1.1,(S.newDisk x1).1.2)).1).1.2)).1.1.2),((S.open_ ((S.doD ((S.newDisk x1).1.1,(S.newDisk x1).1.2) (S.format ((S.newDisk x1).1.1,(S.newDisk x1).1.2)).1).1.1,(S.doD ((S.newDisk x1).1.1,(S.newDisk x1).1.2) (S.format ((S.newDisk x1).1.1,(S.newDisk x1).1.2)).1).1.2)).1.2.1,((S.open_ ((S.doD ((S.newDisk x1).1.1,(S.newDisk x1).1.2) (S.format ((S.newDisk x1).1.1,(S.newDisk x1).1.2)).1).1.1,(S.doD ((S.newDisk x1).1.1,(S.newDisk x1).1.2) (S.format ((S.newDisk x1).1.1,(S.newDisk x1).1.2)).1).1.2)).1.2.2.1,(S.open_ ((S.doD ((S.newDisk x1).1.1,(S.newDisk x1).1.2) (S.format ((S.newDisk x1).1.1,(S.newDisk x1).1.2)).1).1.1,(S.doD ((S.newDisk x1).1.1,(S.newDisk x1).1.2) (S.format ((S.newDisk x1).1.1,(S.newDisk x1).1.2)).1).1.2)).1.2.2.2))),(false,())))) (some ((((S.open_ ((S.doD ((S.newDisk x1).1.1,(S.newDisk x1).1.2) (S.format ((S.newDisk x1).1.1,(S.newDisk x1).1.2)).1).1.1,(S.doD ((S.newDisk x1).1.1,(S.newDisk x1).1.2) (S.format ((S.newDisk x1).1.1,(S.newDisk x1).1.2)).1).1.2)).1.1.1,(S.open_ ((S.doD ((S.newDisk x1).1.1,(S.newDisk x1).1.2) (S.format ((S.newDisk x1).1.1,(S.newDisk x1).1.2)).1).1.1,(S.doD ((S.newDisk x1).1.1,(S.newDisk x1).1.2) (S.format ((S.newDisk x1).1.1,(S.newDisk x1).1.2)).1).1.2)).1.1.2),((S.open_ ((S.doD ((S.newDisk x1).1.1,(S.newDisk x1).1.2) (S.format ((S.newDisk x1).1.1,(S.newDisk x1).1.2)).1).1.1,(S.doD ((S.newDisk x1).1.1,(S.newDisk x1).1.2) (S.format ((S.newDisk x1).1.1,(S.newDisk x1).1.2)).1).1.2)).1.2.1,((S.open_ ((S.doD ((S.newDisk x1).1.1,(S.newDisk x1).1.2) (S.format ((S.newDisk x1).1.1,(S.newDisk x1).1.2)).1).1.1,(S.doD ((S.newDisk x1).1.1,(S.newDisk x1).1.2) (S.format ((S.newDisk x1).1.1,(S.newDisk x1).1.2)).1).1.2)).1.2.2.1,(S.open_ ((S.doD ((S.newDisk x1).1.1,(S.newDisk x1).1.2) (S.format ((S.newDisk x1).1.1,(S.newDisk x1).1.2)).1).1.1,(S.doD ((S.newDisk x1).1.1,(S.newDisk x1).1.2) (S.format ((S.newDisk x1).1.1,(S.newDisk x1).1.2)).1).1.2)).1.2.2.2))),(false,())))) (some ((((S.open_ ((S.doD ((S.newDisk x1).1.1,(S.newDisk x1).1.2) (S.format ((S.newDisk x1).1.1,(S.newDisk x1).1.2)).1).1.1,(S.doD ((S.newDisk x1).1.1,(S.newDisk x1).1.2) (S.format ((S.newDisk x1).1.1,(S.newDisk x1).1.2)).1).1.2)).1.1.1,(S.open_ ((S.doD ((S.newDisk x1).1.1,(S.newDisk x1).1.2) (S.format ((S.newDisk x1).1.1,(S.newDisk x1).1.2)).1).1.1,(S.doD ((S.newDisk x1).1.1,(S.newDisk x1).1.2) (S.format ((S.newDisk x1).1.1,(S.newDisk x1).1.2)).1).1.2)).1.1.2),((S.open_ ((S.doD ((S.newDisk x1).1.1,(S.newDisk x1).1.2) (S.format ((S.newDisk x1).1.1,(S.newDisk x1).1.2)).1).1.1,(S.doD ((S.newDisk x1).1.1,(S.newDisk x1).1.2) (S.format ((S.newDisk x1).1.1,(S.newDisk x1).1.2)).1).1.2)).1.2.1,((S.open_ ((S.doD ((S.newDisk x1).1.1,(S.newDisk x1).1.2) (S.format ((S.newDisk x1).1.1,(S.newDisk x1).1.2)).1).1.1,(S.doD ((S.newDisk x1).1.1,(S.newDisk x1).1.2) (S.format ((S.newDisk x1).1.1,(S.newDisk x1).1.2)).1).1.2)).1.2.2.1,(S.open_ ((S.doD ((S.newDisk x1).1.1,(S.newDisk x1).1.2) (S.format ((S.newDisk x1).1.1,(S.newDisk x1).1.2)).1).1.1,(S.doD ((S.newDisk x1).1.1,(S.newDisk x1).1.2) (S.format ((S.newDisk x1).1.1,(S.newDisk x1).1.2)).1).1.2)).1.2.2.2))),(false,()))))
def qha(lf:Nat)(x1:Int):Option qn9:=qvf lf x1
theorem qyh{g:ElA [(.int .i64)]->Option qn9}(hsm:SmOK Try.prog [(32,q03),(33,q4w),(20,spz4),(10,qzd)])(hg:∀(x:ElA [(.int .i64)]) (y:qn9),WfA [(.int .i64)] x->g x=some y->∃lf,qha lf x.1=some y):Con Try.prog 19 ⟨[(.int .i64)],[(false,qag),(false,.bool)],g⟩ :=
 conU (fi:=fi19) (hxl:=[]) (fun lf x=>qha lf x.1) cm3 zki trivial hsm hg
theorem qw2(a b:Nat):(!iltI (Int.ofNat a) (Int.ofNat b))=Nat.ble b a:=by
 rw[qcf,jdc,jcm,jew,Nat.ble_eq];omega
theorem zj8:(S.newDisk 8).2=0/\(S.format (S.newDisk 8).1).2=0/\(S.doD (S.newDisk 8).1 (S.format (S.newDisk 8).1).1).2=0/\(S.open_ S.madeD).2=0:=by
 refine⟨?_,?_,?_,?_⟩<;>kernel_rfl
theorem zf9(lf:Nat):qha lf 8=some (S.madeJ,true,()):=by
 obtain⟨h1,h2,h3,h4⟩:=zj8;simp only[qha,qvf];show cond (ieqI (S.newDisk 8).2 _) (cond (ieqI (S.format (S.newDisk 8).1).2 _) (cond (ieqI (S.doD (S.newDisk 8).1 (S.format (S.newDisk 8).1).1).2 _) (some ((S.open_ S.madeD).1,ieqI (S.open_ S.madeD).2 _,())) _) _) _=_;rw[h1,h2,h3,h4];rfl
abbrev qol:Type:=ByteArray × Unit
abbrev zdg:Nat:=44
def zoz(lf:Nat):Option qol:=(match (cond (S.oneN (S.lit [0]) (Int.ofNat 64)) (some (S.blank,())) none) with|none=>none|some v0=>(some (v0.1,())))
def qwh(lf:Nat):Option qol:=zoz lf
theorem q9a{g:ElA []->Option qol}(hsm:SmOK Try.prog [(59,qwz)])(hg:∀(x:ElA []) (y:qol),WfA [] x->g x=some y->∃lf,qwh lf=some y):Con Try.prog 44 ⟨[],[(false,.str)],g⟩ :=
 conU (fi:=fi44) (hxl:=[]) (fun lf x=>qwh lf) cm3 zj5 trivial hsm hg
def qkp:Nat->Option Nm:=fun k=>cond (Nat.beq k 4) (some ⟨[0,1,12,13],[],[],[],[],0,0,false⟩) (none)
def qkj:Nat->Bool:=fun k=>cond (Nat.beq k 4) true (false)
def qzk:=qkj
abbrev qc4:Type:=Bool × Unit
def qzw:List (Nat × Sm):=[]
def q2a:List (Nat × Hx):=[]
def quw(R:Type)(lf:Nat):ClK R:=qa4 Try.prog ttT.get ftT.get (nm1 40 qkp) (smL qzw) (hxL q2a) lf 20 R
abbrev zgv:Nat:=40
def qid(x1:(List qaa))(x2:(List qaa))(p:Int):NRes:=(NRes.mk (.node (some (IV.lst qac x1)) (.node (some (IV.lst qac x2)) .leaf (.node none .leaf (.node (some (IV.int .i64 p)) .leaf .leaf))) (.node none (.node none .leaf (.node (some (IV.int .i64 (Int.ofNat x1.length))) .leaf .leaf)) .leaf)) (IS.mk .leaf 0) [] 0)
def qqn(lf:Nat)(x1:(List qaa))(x2:(List qaa))(L4:Int->Option qc4):Option qc4:=(cond (Bool.not (ieqI (Int.ofNat x1.length) (Int.ofNat x2.length))) (some (false,())) (L4 (Int.ofNat 0)))
def qmo(lf:Nat)(x1:(List qaa))(x2:(List qaa))(L4:Int->Option qc4)(p:Int):Option qc4:=(cond (iltI p (Int.ofNat x1.length)) (match (jget x1 p) with|none=>none|some v0=>(match (jget x2 p) with|none=>none|some v1=>(cond (Bool.not (Bool.and (keqI v0.1 v1.1) (Bool.and (keqS v0.2.1 v1.2.1) (Bool.and (keqB v0.2.2 v1.2.2) true)))) (some (false,())) (L4 (IntKind.i64.wrap (Int.add p (Int.ofNat 1))))))) (some (true,())))
abbrev gz16:Type:=ElA [(.list qac),(.list qac)]->Option qc4
abbrev sz16(g:gz16):Sm:=⟨[(.list qac),(.list qac)],[(false,.bool)],g⟩
abbrev Ez16(g:gz16)(J:JT qc4)(lf:Nat)(x1:(List qaa))(x2:(List qaa)):=qb5 Try.prog ttT.get qkp fi40.nt (quw _ lf) lf qkj J fi40.body [] (qa0 (argV [(.list qac),(.list qac)] (x1,x2,())) 0 .leaf) S0 [] (qa1 ttT.get fi40 (sz16 g))
abbrev Bz16(g:gz16)(J:JT qc4)(lf k:Nat)(ms:List Nat)(q:NRes):=qcm Try.prog ttT.get qkp fi40.nt (quw _ lf) lf qkj J k fi40.body [] ms q (qa1 ttT.get fi40 (sz16 g))
theorem zgo(g:gz16)(J:JT qc4)(lf:Nat)(x1:(List qaa))(x2:(List qaa)):Ez16 g J lf x1 x2=qqn lf x1 x2 (fun q=>J 4 [lf] (qid x1 x2 q)):=by kernel_rfl
theorem zlz(g:gz16)(J:JT qc4)(lf:Nat)(x1:(List qaa))(x2:(List qaa))(m1:Nat)(p:Int):Bz16 g J lf 4 [m1] (qid x1 x2 p)=qmo lf x1 x2 (fun q=>J 4 [m1] (qid x1 x2 q)) p:=by kernel_rfl
theorem q2r:(regs fi40.body).Nodup:=by decide +kernel
theorem qw1:okC qkp qkj qzk fi40.body none=true:=by kernel_rfl
def Az16(g:gz16)(lf:Nat):JT qc4:=atN Try.prog ttT.get qkp fi40 (sz16 g) (quw _ lf) lf qzk
def qnz(lf:Nat)(x1:(List qaa))(x2:(List qaa)):Nat->(Int)->Option qc4:=qa9 fun K p=>qmo lf x1 x2 K p
theorem q1i(g:gz16)(lf:Nat)(x1:(List qaa))(x2:(List qaa)):∀(n:Nat) (p:Int),Az16 g lf 4 [n] (qid x1 x2 p)=qnz lf x1 x2 n p
 | 0,p=>qb4 4 [0] rfl _
 | n+1,p=>by
  have ih:=q1i g lf x1 x2 n;refine(qb6 (qbh 20 _) q2r qw1 4 [n+1] [n] rfl _).trans ((zlz g (Az16 g lf) lf x1 x2 n p).trans ?_);rw[(show (fun q=>Az16 g lf 4 [n] (qid x1 x2 q))=(fun q=>qnz lf x1 x2 n q) from funext ih)];rfl
def Fz16(lf:Nat)(x1:(List qaa))(x2:(List qaa)):Option qc4:=qqn lf x1 x2 (fun q=>qnz lf x1 x2 lf q)
theorem zgz(g:gz16)(lf:Nat)(x1:(List qaa))(x2:(List qaa)):Ez16 g (Az16 g lf) lf x1 x2=Fz16 lf x1 x2:=by
  refine(zgo g (Az16 g lf) lf x1 x2).trans ?_;rw[(show (fun q=>Az16 g lf 4 [lf] (qid x1 x2 q))=(fun q=>qnz lf x1 x2 lf q) from funext fun q=>q1i g lf x1 x2 lf q)];rfl
theorem zij:qbi Try.prog q2a:=trivial
theorem q7z{g:gz16}(hsm:SmOK Try.prog qzw)(hg:∀(x:ElA [(.list qac),(.list qac)]) (y:qc4),WfA [(.list qac),(.list qac)] x->g x=some y->∃lf,Fz16 lf x.1 x.2.1=some y):Con Try.prog 40 ⟨[(.list qac),(.list qac)],[(false,.bool)],g⟩ :=
 conV (st:=qkj) (fun lf x=>Fz16 lf x.1 x.2.1) cm3 zcq zij q2r qw1 (fun lf x=>zgz g lf x.1 x.2.1) hsm hg
theorem q9i{j:qad}(h:S.turG j=true):S.smallJ j=true/\S.pk j.2.2.2=true/\(j.2.1=0\/j.2.1=1)/\8<=j.1.1.length:=by
 unfold S.turG at h;rw[jae,jae,jae,qbl] at h;exact⟨h.1,h.2.1,by omega,jak h.2.2.2⟩
theorem q7p(lf:Nat)(j:qad)(h:S.turG j=true):qmf lf j=some ((S.actsB (S.turn j)).1,(S.actsB (S.turn j)).2,()):=by
 obtain⟨hs,hp,hh,hge⟩:=q9i h;obtain⟨h1,h2,_,_⟩:=quy hs;have hpl:=q0l hp 1;have hpos:=qcv j.2.2.2 1;have hp0:(S.packed j.2.2.2 0).length=(S.packed j.2.2.2 1).length:=by rw[qbq,qbq]
 obtain⟨b,e1,e2,e3,_,_⟩:=qep h2 hge (h:=1-j.2.1) (by omega);have hw:IntKind.i64.wrap (Int.sub (Int.ofNat 1) j.2.1)=1-j.2.1:=wrap_in (by show -_<=(1:Int)-j.2.1/\(1:Int)-j.2.1<_;omega);have hw2:IntKind.i64.wrap (Int.sub ((b+(j.1.1.length / 2-1):Nat):Int) (b:Int))=Int.ofNat (j.1.1.length / 2-1):=by
  have:Int.sub ((b+(j.1.1.length / 2-1):Nat):Int) (b:Int)=Int.ofNat (j.1.1.length / 2-1):=by
   show ((b+(j.1.1.length / 2-1):Nat):Int)-(b:Int)=((j.1.1.length / 2-1:Nat):Int);omega
  rw[this];exact qbv (by omega)
 simp only[qmf,q32,hw];rw[hp,jab];simp only;rw[show S.inI (Int.ofNat j.1.1.length) (Int.ofNat 0) (Int.ofNat 1000)=true from qbl.2 ⟨jb2 _,by show (j.1.1.length:Int)<=1000;omega⟩,jab];simp only;rw[show Int.toNat (Int.ofNat j.1.1.length)=j.1.1.length from rfl,e1];simp only[hw2];by_cases c0:j.1.1.length / 2-1<(S.packed j.2.2.2 1).length
 ·have hn:S.turn j=none:=qv1 (by rw[e1];show ((b+(j.1.1.length / 2-1):Nat):Int)-(b:Int)<((S.packed j.2.2.2 1).length:Int);omega);rw[qex (show Int.ofNat (j.1.1.length / 2-1)<Int.ofNat (S.packed j.2.2.2 (Int.ofNat 1)).length from jfw.2 c0),jab,hn];rfl
 have hsome:S.turn j=some (turA j.1.1 (1-j.2.1) b j.2.2.2):=by
  rw[q20 (by rw[e1];show ¬((b+(j.1.1.length / 2-1):Nat):Int)-(b:Int)<((S.packed j.2.2.2 1).length:Int);omega),e1];have:(((b+(j.1.1.length / 2-1):Nat):Int)-(b:Int)).toNat=j.1.1.length / 2-1:=by omega
  simp only[this];rfl
 rw[qfb (show ¬Int.ofNat (j.1.1.length / 2-1)<Int.ofNat (S.packed j.2.2.2 (Int.ofNat 1)).length from fun h=>c0 (jfw.1 h)),jah,hsome];unfold turA;have hR:(S.puts (b:Int) (List.replicate (j.1.1.length / 2-1) S.blank)).length<=1000:=by rw[qdj,ja5];omega
 have w2:IntKind.i64.wrap (Int.add (b:Int) (Int.ofNat 1))=((b+1:Nat):Int):=qbv (n:=b+1) (by omega);have hsz:=qds j.2.2.2 1 _ (qeh (i:=0) (show 0<(S.packed j.2.2.2 1).length by omega));have l1:lchk (Int.ofNat 1) (Int.ofNat (S.packed j.2.2.2 1).length) (Int.ofNat (S.packed j.2.2.2 1).length) (Int.ofNat (S.packed j.2.2.2 1).length)=true:=qb1.2 ⟨by decide,by show (1:Int)<=((S.packed j.2.2.2 1).length:Int);omega,jbt _,jbt _⟩;have hdl:Nat.ble ((S.packed j.2.2.2 1).drop 1).length 1000000=true:=jay (by rw[ja7];omega);have hpl0:(S.puts (b:Int) (S.packed j.2.2.2 0)).length<=20000:=by rw[qdj];omega
 have hj0:jget (S.packed j.2.2.2 (Int.ofNat 1)) (Int.ofNat 0)=some ((S.packed j.2.2.2 1).getD 0 S.none_):=qpv hpos;have hg0:(S.packed j.2.2.2 (Int.ofNat 1))[0]?=some ((S.packed j.2.2.2 1).getD 0 S.none_):=get0 hpos;have htop:ByteArray.append (qae [IntKind.u8.wrap (1-j.2.1)]) (qae (List.replicate 63 0))=topS (1-j.2.1):=by
  rw[qeo,qi5,show (1-j.2.1) % 256=1-j.2.1 by omega];rfl
 rw[show S.inI (Int.ofNat (j.1.1.length / 2-1)) (Int.ofNat 0) (Int.ofNat 1000)=true from qbl.2 ⟨jb2 _,by show ((j.1.1.length / 2-1:Nat):Int)<=1000;omega⟩,jab];simp only[show Int.toNat (Int.ofNat (j.1.1.length / 2-1))=j.1.1.length / 2-1 from rfl,in0 (show b<=1000000 by omega),w2,in0 (show b+1<=1000000 by omega),jcb,Bool.and_true,q1e,jck,hj0,hg0,hsz,decide_true,jab,unm2,zd1];rw[jay (show (List.replicate (j.1.1.length / 2-1) S.blank).length<=1000000 by rw[ja5];omega),jab];simp only;generalize S.puts (b:Int) (List.replicate (j.1.1.length / 2-1) S.blank)=X at hR;rw[qcg (show X.length<=4000000 by omega),jab];simp only;rw[qcg (show (X++[S.sync]).length<=1000000 by rw[jag];show _+1<=_;omega),jab];simp only
 rw[show lchk (Int.ofNat 1) (Int.ofNat (S.packed j.2.2.2 (Int.ofNat 1)).length) (Int.ofNat (S.packed j.2.2.2 (Int.ofNat 1)).length) (Int.ofNat (S.packed j.2.2.2 (Int.ofNat 1)).length)=true from l1,jab,
  show lsub (S.packed j.2.2.2 (Int.ofNat 1)) (Int.ofNat 1) (Int.ofNat (S.packed j.2.2.2 (Int.ofNat 1)).length)=(S.packed j.2.2.2 1).drop 1 from q6p _,hdl,jcb,qcg (show (X++[S.sync]++S.puts (b:Int) [(S.packed j.2.2.2 0).getD 0 S.none_]).length<=1000000 by rw[jag,jag];show _+1+1<=_;omega),jab]
 simp only;rw[ja0 (X++[S.sync]),qz3 j.2.2.2 b];generalize S.puts (b:Int) (S.packed j.2.2.2 0)=Y at hpl0;rw[qcg (show (X++[S.sync]++Y).length<=4000000 by rw[jag,jag];show _+1+_<=_;omega),jab];simp only;rw[qcg (show (X++[S.sync]++Y++[S.sync]).length<=1000000 by rw[jag,jag,jag];show _+1+_+1<=_;omega),jab];simp only;rw[qcg (show (X++[S.sync]++Y++[S.sync]++S.puts (b:Int) [(S.packed j.2.2.2 1).getD 0 S.none_]).length<=4000000 by rw[jag,jag,jag,jag];show _+1+_+1+1<=_;omega),jab];simp only;rw[show S.inI (Int.ofNat 0) (Int.ofNat 0) (Int.ofNat 1000000)=true from rfl,jcb,qcg (show (X++[S.sync]++Y++[S.sync]++S.puts (b:Int) [(S.packed j.2.2.2 1).getD 0 S.none_]++[S.sync]).length<=1000000 by rw[jag,jag,jag,jag,jag];show _+1+_+1+1+1<=_;omega),jab];simp only[qth,zm8,htop];rw[qcg (show (X++[S.sync]++Y++[S.sync]++S.puts (b:Int) [(S.packed j.2.2.2 1).getD 0 S.none_]++[S.sync]++S.puts (Int.ofNat 0) [topS (1-j.2.1)]).length<=4000000 by rw[jag,jag,jag,jag,jag,jag];show _+1+_+1+1+1+1<=_;omega),jab];simp only[qul,ja0];rfl
theorem qu2{j:qad}{a u:Nat}(r:RJ j a u){l:List qaa}(hok:S.okC l=true):S.comG j l=true:=by
 have:=r.jn.le.1;have:=r.jn.dk.le;unfold S.comG;rw[jae,jae,qbl,r.used];exact⟨r.small,qli hok,by omega⟩
theorem q5c{j:qad}{a u:Nat}(r:RJ j a u):S.turG j=true:=by
 have h:=r.jn.hh;unfold S.turG;rw[jae,jae,jae,qbl];exact⟨r.small,qli r.jn.le.2.1.1,by omega,jay r.jn.dk.ge⟩
theorem qjb{j:qad}{A:List DAct}{x:qad}{y:qah}(h:S.behind j A=(x,0))(k:S.doD j.1 A=(y,0)):S.behG j A=true:=by
 unfold S.behG;rw[h,k];rfl
theorem q9n{j:qad}{l:List qaa}(h1:S.right j=true)(h2:(S.size l).2=0):S.asked j l=0:=by
 unfold S.asked;rw[jam h1,h2]
theorem q5j{j:qad}{l:List qaa}:S.plan j l=if S.asked j l=0 then (match S.commit j l with
  | some a=>(a,0)
  | none=>([],14)) else ([],S.asked j l):=by
 unfold S.plan S.asked;by_cases h1:S.right j=true
 ·rw[jam h1,jam h1];by_cases h2:(S.size l).2=0
  ·rw[jam h2,jam h2];cases S.commit j l<;>rfl
  ·rw[jao h2,jao h2]
 ·rw[jao h1,jao h1,jao (by decide)]
theorem qt1{j:qad}{l:List qaa}(h:S.asked j l=0):S.right j=true/\(S.size l).2=0:=by
 unfold S.asked at h;by_cases h1:S.right j=true
 ·rw[jam h1] at h;exact⟨h1,h⟩
 ·rw[jao h1] at h;cases h
theorem zhz(lf:Nat)(j:qad)(l:List qaa):qpi lf j l=some ((S.plan j l).1,(S.plan j l).2,()):=by
 simp only[qpi,qxk];show cond (!ieqI (S.asked j l) _) (some (_,S.asked j l,())) (match (cond (S.comG j l) (some ((S.actsB (S.commit j l)).1,((S.actsB (S.commit j l)).2,()))) none) with|none=>none|some v=>_)=_;rw[q5j];by_cases h0:S.asked j l=0
 ·obtain⟨h1,h2⟩:=qt1 h0;obtain⟨a,u,r⟩:=qfw h1;rw[qbo (show S.asked j l=Int.ofNat 0 from h0),jbb,jah,qu2 r (qud h2).1,jab,jam h0];simp only;cases S.commit j l<;>rfl
 ·rw[qbn (show ¬S.asked j l=Int.ofNat 0 from h0),ja6,jab,jao h0]
theorem zb0{j:qad}{l:List qaa}(h:(S.plan j l).2=0):S.right j=true/\(S.size l).2=0/\∃A,S.commit j l=some A/\S.plan j l=(A,0):=by
 rw[q5j] at h ⊢;by_cases h0:S.asked j l=0
 ·obtain⟨h1,h2⟩:=qt1 h0;rw[jam h0] at h ⊢;cases hc:S.commit j l with
  | none=>rw[hc] at h;cases h
  | some A=>exact⟨h1,h2,A,rfl,rfl⟩
 ·rw[jao h0] at h;exact absurd h h0
theorem q9r(lf:Nat)(j:qad)(l:List qaa):qo7 lf j l=some ((S.commitJ j l).1,(S.commitJ j l).2,()):=by
 simp only[qo7,qz1];show cond (!ieqI (S.plan j l).2 _) (some (S.noJ,(S.plan j l).2,())) (match (cond (S.behG j (S.plan j l).1) (some ((S.behind j (S.plan j l).1).1,())) none) with|none=>none|some v=>_)=_;unfold S.commitJ;by_cases h0:(S.plan j l).2=0
 ·obtain⟨h1,h2,A,h3,h4⟩:=zb0 h0;obtain⟨a,u,r⟩:=qfw h1;rcases qri r (qud h2).1 with ⟨c1,_⟩|⟨A',c1,_,_,c4,c5,_⟩
  ·rw[h3] at c1;cases c1
  ·have:A'=A:=by rw[h3] at c1;cases c1;rfl
   subst this;rw[jam h0,h4,show ieqI (A',(0:Int)).2 (Int.ofNat 0)=true from rfl,jbb,jah,qjb c5 c4,jab,c5];rfl
 ·rw[qbn (show ¬(S.plan j l).2=Int.ofNat 0 from h0),ja6,jab,jao h0]
theorem zmk{j:qad}:S.planTurn j=if S.errR j=0 then (match S.turn j with
  | some a=>(a,0)
  | none=>([],14)) else ([],S.errR j):=by
 unfold S.planTurn S.errR;by_cases h1:S.right j=true
 ·rw[jam h1,jam h1,jam rfl];cases S.turn j<;>rfl
 ·rw[jao h1,jao h1,jao (by decide)]
theorem zfb{j:qad}(h:S.errR j=0):S.right j=true:=jci fun e=>by rw[qe4 e] at h;cases h
theorem zj0(lf:Nat)(j:qad):qmp lf j=some ((S.planTurn j).1,(S.planTurn j).2,()):=by
 simp only[qmp,qzj];show cond (!ieqI (S.errR j) _) (some (_,S.errR j,())) (match (cond (S.turG j) (some ((S.actsB (S.turn j)).1,((S.actsB (S.turn j)).2,()))) none) with|none=>none|some v=>_)=_;rw[zmk];by_cases h0:S.errR j=0
 ·obtain⟨a,u,r⟩:=qfw (zfb h0);rw[qbo (show S.errR j=Int.ofNat 0 from h0),jbb,jah,q5c r,jab,jam h0];simp only;cases S.turn j<;>rfl
 ·rw[qbn (show ¬S.errR j=Int.ofNat 0 from h0),ja6,jab,jao h0]
theorem zgm(lf:Nat)(j:qad):qmc lf j=some ((S.turnJ j).1,(S.turnJ j).2,()):=by
 simp only[qmc,q1r];show cond (!ieqI (S.planTurn j).2 _) (some (S.noJ,(S.planTurn j).2,())) (match (cond (S.behG j (S.planTurn j).1) (some ((S.behind j (S.planTurn j).1).1,())) none) with|none=>none|some v=>_)=_;by_cases h0:(S.planTurn j).2=0
 ·have h1:S.right j=true:=by
   unfold S.planTurn at h0;by_cases h1:S.right j=true
   ·exact h1
   ·rw[jao h1] at h0;cases h0
  obtain⟨a,u,r⟩:=qfw h1;rcases qwy r h1 with ⟨_,_,t3,_⟩|⟨b,t1,t2,t3,t4,t5,_⟩
  ·rw[t3] at h0;cases h0
  ·have hb:S.behind j (turA j.1.1 (1-j.2.1) b j.2.2.2)=S.turnJ j:=by
    unfold S.turnJ;rw[t3];rfl
   rw[t3,show ieqI (turA j.1.1 (1-j.2.1) b j.2.2.2,(0:Int)).2 (Int.ofNat 0)=true from rfl,jbb,jah,qjb (hb.trans t5) t4,jab,hb,t5];rfl
 ·rw[qbn (show ¬(S.planTurn j).2=Int.ofNat 0 from h0),ja6,jab];unfold S.turnJ;rw[jao h0]
theorem zkj(lf:Nat)(j:qad)(l:List qaa):qnj lf j l=some ((S.save j l).1,(S.save j l).2,()):=by
 simp only[qnj,q4x];show cond (!ieqI (S.asked j l) _) (some (S.noJ,S.asked j l,())) (match (cond (S.comG j l) (some ((S.actsB (S.commit j l)).1,((S.actsB (S.commit j l)).2,()))) none) with|none=>none|some v=>_)=_;unfold S.save;by_cases h0:S.asked j l=0
 ·obtain⟨h1,h2⟩:=qt1 h0;obtain⟨a,u,r⟩:=qfw h1;have hok:=(qud h2).1;rw[qbo (show S.asked j l=Int.ofNat 0 from h0),jbb,jah,qu2 r hok,jab,jam h1,jam h2];simp only;rcases qri r hok with ⟨c1,_⟩|⟨A,c1,_,_,c4,c5,_⟩
  ·rw[c1];show (match (cond (S.turG j) (some ((S.actsB (S.turn j)).1,((S.actsB (S.turn j)).2,()))) none) with|none=>none|some t=>_)=_;rw[q5c r,jab];simp only;rcases qwy r h1 with ⟨t1,t2,t3,_⟩|⟨b,t1,t2,t3,t4,t5,t6⟩
   ·rw[t1,t2];rfl
   ·have hb:S.behind j (turA j.1.1 (1-j.2.1) b j.2.2.2)=S.turnJ j:=by
     unfold S.turnJ;rw[t3];rfl
    have h5:(S.turnJ j).2=0:=by rw[t5]
    have hr:S.right (S.turnJ j).1=true:=by rw[t5];exact t6.right
    obtain⟨a',u',r'⟩:=qfw hr;rw[t2,jam h5];show cond (!true) _ (match (cond (S.behG j (turA j.1.1 (1-j.2.1) b j.2.2.2)) (some ((S.behind j (turA j.1.1 (1-j.2.1) b j.2.2.2)).1,())) none) with|none=>none|some q=>_)=_;rw[jbb,jah,qjb (hb.trans t5) t4,jab,hb];simp only;show (match (cond (S.comG (S.turnJ j).1 l) (some ((S.actsB (S.commit (S.turnJ j).1 l)).1,((S.actsB (S.commit (S.turnJ j).1 l)).2,()))) none) with|none=>none|some q=>_)=_;rw[qu2 r' hok,jab];simp only;rcases qri r' hok with ⟨d1,_⟩|⟨A,d1,_,_,d4,d5,_⟩
    ·rw[d1];rfl
    ·rw[d1];show cond (!true) _ (match (cond (S.behG (S.turnJ j).1 A) (some ((S.behind (S.turnJ j).1 A).1,())) none) with|none=>none|some q=>_)=_;rw[jbb,jah,qjb d5 d4,jab];show some ((S.behind (S.turnJ j).1 A).1,(0:Int),())=some ((S.behind (S.turnJ j).1 A).1,(S.behind (S.turnJ j).1 A).2,());rw[d5]
  ·rw[c1];show (match (cond (S.behG j A) (some ((S.behind j A).1,())) none) with|none=>none|some q=>_)=_;rw[qjb c5 c4,jab];show some ((S.behind j A).1,(0:Int),())=some ((S.behind j A).1,(S.behind j A).2,());rw[c5]
 ·rw[qbn (show ¬S.asked j l=Int.ofNat 0 from h0),ja6,jab];unfold S.asked;by_cases h1:S.right j=true
  ·have h2:¬(S.size l).2=0:=fun e=>h0 (q9n h1 e);rw[jam h1,jam h1,jao h2]
  ·rw[jao h1,jao h1]
theorem qlj:Con Try.prog zdg qm1:=q9a ⟨zkd,trivial⟩ fun x y hx h=>⟨0,h⟩
theorem zam(a b:List qaa)(ha:a.length<LF):Fz16 LF a b=some (S.sameC a b,()):=by
 simp only[Fz16,qqn];unfold S.sameC;by_cases e:a.length=b.length
 ·rw[qbo (show Int.ofNat a.length=Int.ofNat b.length from jas Int.ofNat e),jbb,jah];refine(q26 a b e ha (some (true,())) (some (false,())) (fun K=>?_) (fun K i v w h1 h2 h3 h4=>?_)).trans ?_
  ·simp only[qmo,qc5,jah]
  ·simp only[qmo,h1,h2,h3,h4,jab,q2q];cases decide (v=w)<;>rfl
  ·cases decide (a=b)<;>rfl
 ·rw[qbn (show ¬Int.ofNat a.length=Int.ofNat b.length from fun h=>e (jc5 h)),ja6,jab,jat (fun h=>e (jas List.length h))]
theorem zdx:Con Try.prog zgv q38:=q7z trivial fun x y hx h=>⟨LF,(zam x.1 x.2.1 (qdv (c:=qac) hx.1)).trans h⟩
theorem q7a:Con Try.prog ze7 q4w:=zeg ⟨qjo,qlj,qnq,trivial⟩ qqg qvc fun x y hx h=>⟨0,(zjv 0 x.1).trans h⟩
theorem qv4:Con Try.prog zgg qsd:=zb2 ⟨qnq,q5h,qn1,q5u,qlj,trivial⟩ qqg qvc fun x y hx h=>⟨0,by
 obtain⟨h1,h2⟩:=qbb (show cond (S.comG x.1 x.2.1) (some ((S.actsB (S.commit x.1 x.2.1)).1,(S.actsB (S.commit x.1 x.2.1)).2,())) none=some y from h);exact(zld 0 x.1 x.2.1 h1).trans (jas some h2)⟩
theorem qdw{P:Program}{f:Nat}{p:List TC}{r:List (Bool × TC)}{g g':ElA p->Option (ElR r)}(h:Con P f ⟨p,r,g⟩)(hg:∀x y,g' x=some y->g x=some y):Con P f ⟨p,r,g'⟩ :=
 ⟨h.callable,fun M w x us y hy hM hgl hv=>h.calls M w x us y (hg x y hy) hM hgl hv⟩
section
variable (hR : Con Try.prog 43 qio) (hO : Con Try.prog 25 qgd)
include hR in
theorem qxz:Con Try.prog zj1 q03:=zgp ⟨qjk,qlj,hR,trivial⟩ fun x y hx h=>⟨0,(q7k 0 x.1).trans h⟩
include hO in
theorem qss:Con Try.prog zkt qor:=zjy ⟨qjo,hO,zdx,trivial⟩ fun x y hx h=>⟨0,(q9b 0 x.1).trans h⟩
include hO in
theorem qma:Con Try.prog zau qzd:=zf5 ⟨qjo,hO,trivial⟩ fun x y hx h=>⟨0,(zb4 0 x.1).trans h⟩
include hO in
include hO in
theorem zhb:Con Try.prog zor zmr:=zni ⟨qss hO,q5h,trivial⟩ fun x y hx h=>⟨0,(zes 0 x.1).trans h⟩
include hO in
theorem qze:Con Try.prog zi3 qqv:=zn8 ⟨qss hO,q4q,trivial⟩ fun x y hx h=>⟨0,(zdr 0 x.1 x.2.1).trans h⟩
include hR in
theorem qyj:Con Try.prog zg6 qqu:=zoh ⟨qnq,qn1,q5u,qlj,hR,trivial⟩ qvc fun x y hx h=>⟨0,by
 obtain⟨h1,h2⟩:=qbb (show cond (S.turG x.1) (some ((S.actsB (S.turn x.1)).1,(S.actsB (S.turn x.1)).2,())) none=some y from h);exact(q7p 0 x.1 h1).trans (jas some h2)⟩
include hO in
theorem qtp:Con Try.prog zbg qop:=znv ⟨qk4,hO,trivial⟩ fun x y hx h=>⟨0,by
 obtain⟨h1,h2⟩:=qbb (show cond (S.behG x.1 x.2.1) (some ((S.behind x.1 x.2.1).1,())) none=some y from h);exact(zdj 0 x.1 x.2.1 h1).trans (jas some h2)⟩
include hO in
theorem qye:Con Try.prog zj9 q1s:=zbt ⟨qze hO,qv4,trivial⟩ fun x y hx h=>⟨0,(zhz 0 x.1 x.2.1).trans h⟩
include hO in
theorem znc:Con Try.prog q9z znk:=zd0 ⟨qye hO,qtp hO,trivial⟩ fun x y hx h=>⟨0,(q9r 0 x.1 x.2.1).trans h⟩
include hR hO in
theorem q1g:Con Try.prog zlq q13:=zfx ⟨qss hO,qyj hR,trivial⟩ fun x y hx h=>⟨0,(zj0 0 x.1).trans h⟩
include hR hO in
theorem qxr:Con Try.prog zdp zl9:=zkk ⟨q1g hR hO,qtp hO,trivial⟩ fun x y hx h=>⟨0,(zgm 0 x.1).trans h⟩
include hR hO in
theorem zhj:Con Try.prog zkv zm3:=ze3 ⟨qze hO,qv4,qyj hR,qtp hO,trivial⟩ fun x y hx h=>⟨0,(zkj 0 x.1 x.2.1).trans h⟩
end
theorem q8e(lf:Nat):qrp lf=some (true,()):=by kernel_rfl
theorem q4o{a b:List qaa}(h:S.sameC a b=true):a=b:=ja2 h
theorem qmr{a b:qah}(h:S.sameD a b=true):a=b:=ja2 h
theorem qnv{a b:qad}(h:S.sameJ a b=true):a=b:=ja2 h
theorem q9x{a b:List DAct}(h:S.sameA a b=true):a=b:=ja2 h
theorem ziy:(S.plan S.madeJ S.hC).2=0:=by kernel_rfl
theorem hDo:(S.doD S.madeJ.1 (S.hL.take 4)).2=0:=by kernel_rfl
theorem hCr0:(S.crash S.hD [0]).2=0:=by kernel_rfl
theorem hCr1:(S.crash S.hD [1]).2=0:=by kernel_rfl
theorem hOp0:(S.open_ S.hLost).2=0:=by kernel_rfl
theorem hOp1:(S.open_ S.hKept).2=0:=by kernel_rfl
theorem hOpE:S.sameD S.hKept S.hLost=false:=by kernel_rfl
theorem hOpF:S.sameD S.hLost S.hLost=true:=by kernel_rfl
theorem hCom:(S.commitJ S.hY S.hG).2=0:=by kernel_rfl
theorem zj7:S.room S.hZ=(0,0):=by kernel_rfl
theorem zcw:(S.turnJ S.hZ).2=0:=by kernel_rfl
theorem zc5{d:qah}{k:List Int}(h:S.gCrash d k=true):some ((S.crash d k).1,(S.crash d k).2,())=some (S.hCr k,(0:Int),()):=by
 unfold S.gCrash at h;rw[jae,jed] at h;have e1:=qmr h.1;subst e1;rcases h.2 with e2|e2
 ·have e2:=ja2 e2;subst e2;rw[hCr0];rfl
 ·have e2:=ja2 e2;subst e2;rw[hCr1];rfl
section
variable (hR : Con Try.prog 43 qio) (hO : Con Try.prog 25 qgd)
include hO in
theorem zdn:Con Try.prog 16 qz4:=qdw (qye hO) fun x y h=>by
 obtain⟨h1,rfl⟩:=qbb (show cond (S.gPlan x.1 x.2.1) (some (S.hL,(0:Int),())) none=some y from h);obtain⟨a,b,_⟩:=x;unfold S.gPlan at h1;rw[jae] at h1;have e1:=qnv h1.1;have e2:=q4o h1.2;show some ((S.plan a b).1,(S.plan a b).2,())=_;rw[show a=S.madeJ from e1,show b=S.hC from e2,ziy];rfl
theorem zbv:Con Try.prog 20 q37:=qdw qk4 fun x y h=>by
 obtain⟨h1,rfl⟩:=qbb (show cond (S.gDo x.1 x.2.1) (some (S.hD,(0:Int),())) none=some y from h);obtain⟨a,b,_⟩:=x;unfold S.gDo at h1;rw[jae] at h1;have e1:=qmr h1.1;have e2:=q9x h1.2;show some ((S.doD a b).1,(S.doD a b).2,())=_;rw[show a=S.madeJ.1 from e1,show b=S.hL.take 4 from e2,hDo];rfl
theorem za6:Con Try.prog 21 q33:=qdw qwg fun x y h=>by
 obtain⟨h1,rfl⟩:=qbb (show cond (S.gCrash x.1 x.2.1) (some (S.hCr x.2.1,(0:Int),())) none=some y from h);exact zc5 h1
include hO in
theorem zfv:Con Try.prog 10 qxq:=qdw (qma hO) fun x y h=>by
 obtain⟨h1,rfl⟩:=qbb (show cond (S.gOpen x.1) (some (S.hOp x.1,(0:Int),())) none=some y from h);obtain⟨a,_⟩:=x;unfold S.gOpen at h1;rw[jed] at h1;show some ((S.open_ a).1,(S.open_ a).2,())=some (cond (S.sameD a S.hLost) S.hX S.hY,0,());rcases h1 with e|e
 ·rw[show a=S.hLost from qmr e,hOp0,hOpF];rfl
 ·rw[show a=S.hKept from qmr e,hOp1,hOpE];rfl
include hO in
theorem zka:Con Try.prog 18 q09:=qdw (znc hO) fun x y h=>by
 obtain⟨h1,rfl⟩:=qbb (show cond (S.gCom x.1 x.2.1) (some (S.hZ,(0:Int),())) none=some y from h);obtain⟨a,b,_⟩:=x;unfold S.gCom at h1;rw[jae] at h1;have e1:=qnv h1.1;have e2:=q4o h1.2;show some ((S.commitJ a b).1,(S.commitJ a b).2,())=_;rw[show a=S.hY from e1,show b=S.hG from e2,hCom];rfl
include hO in
theorem ze5:Con Try.prog 15 qw8:=qdw (zhb hO) fun x y h=>by
 obtain⟨h1,rfl⟩:=qbb (show cond (S.gZ x.1) (some ((0:Int),(0:Int),())) none=some y from h);obtain⟨a,_⟩:=x;show some ((S.room a).1,(S.room a).2,())=_;rw[show a=S.hZ from qnv h1,zj7];rfl
include hR hO in
theorem zn6:Con Try.prog 11 q6v:=qdw (qxr hR hO) fun x y h=>by
 obtain⟨h1,rfl⟩:=qbb (show cond (S.gZ x.1) (some (S.hT,(0:Int),())) none=some y from h);obtain⟨a,_⟩:=x;show some ((S.turnJ a).1,(S.turnJ a).2,())=_;rw[show a=S.hZ from qnv h1,zcw];rfl
include hR hO in
theorem zkc:Con Try.prog q1n qyp:=qyh ⟨qxz hR,q7a,qk4,qma hO,trivial⟩ fun x y hx h=>⟨0,by
 obtain⟨h1,rfl⟩:=qbb (show cond (S.inI x.1 8 8) (some (S.madeJ,true,())) none=some y from h);obtain⟨h2,h3⟩:=qbl.1 h1;rw[show x.1=(8:Int) from Int.le_antisymm h3 h2];exact zf9 0⟩
include hR hO in
theorem zil:Con Try.prog zok q2k:=zce ⟨zkc hR hO,q4q,zdn hO,zbv,za6,zfv hO,zka hO,ze5 hO,zn6 hR hO,trivial⟩ fun x y hx h=>⟨0,(q8e 0).trans h⟩
end
theorem zos(l:List (List DChg))(hl:l.length<LF):Fz12 LF l=some (S.brief l,()):=by
 simp only[Fz12,qs5];refine(q5s (T:=fun K p=>qi6 LF l K p) l (fun rest _=>some (rest.all (fun x=>Nat.ble x.length 10)&&Nat.ble l.length 12,())) hl (fun K=>?_) (fun K i v rest r h=>?_)).trans rfl
 ·simp only[qi6,qc5,jah,qw2];rfl
 ·simp only[qi6,r.ilt,r.get,r.next,jab];rw[jdu];have:iltI (Int.ofNat 10) (Int.ofNat v.length)=!Nat.ble v.length 10:=by rw[<- qw2,Bool.not_not]
  rw[this,h];cases Nat.ble v.length 10<;>rfl
theorem zjp:Con Try.prog zk6 qxm:=ze2 trivial fun x y hx h=>⟨LF,(zos x.1 (qdv (c:=.list cChg) hx.1)).trans h⟩
theorem zeb(lf:Nat){n:Int}(h:S.evn n=true):qha lf n=some (S.madeN n,true,()):=by
 obtain⟨h1,h2,h3,h4⟩:=q44 h;simp only[qha,qvf];show cond (ieqI (S.newDisk n).2 _) (cond (ieqI (S.format (S.newDisk n).1).2 _) (cond (ieqI (S.doD (S.newDisk n).1 (S.format (S.newDisk n).1).1).2 _) (some ((S.open_ (S.madeD_ n)).1,ieqI (S.open_ (S.madeD_ n)).2 _,())) _) _) _=_;rw[h1,h2,h3,h4];rfl
theorem ze0(d:qah)(l:List DAct)(m:Int)(k:List Int)(h:S.cutG d l m=true)(hk:∀x∈k,0<=x/\x<=255)(hl:k.length<=200):Fz14 LF d l m k=some ((S.cut d l m k).1,decide ((S.cut d l m k).2=0),()):=by
 unfold S.cutG at h;rw[jae,qbl] at h;have h2:=ja2 h.2;have hs:lsub l (Int.ofNat 0) m=l.take m.toNat:=rfl;simp only[Fz14,qse,hs];have hc:lchk (Int.ofNat 0) m (Int.ofNat l.length) (Int.ofNat l.length)=true:=by
  have h0:=h.1;unfold lchk;simp only[Int.ofNat_eq_natCast];simp;omega
 rw[hc,jab,qbo (show (S.doD d (l.take m.toNat)).2=Int.ofNat 0 from h2),jbb,jah];have e:∀i,(k.take i).map (fun x=>Int.tmod (IntKind.i64.wrap x) (Int.ofNat 65))=(k.take i).map (· % 65):=fun i=>jdh fun x hx=>by
  have:=hk x (jb4 hx);rw[wrap_in (by omega)];exact jdf this.1
 have hlen:(k.take (S.doD d (l.take m.toNat)).1.2.length).length<LF:=by rw[jbc];unfold LF;omega
 have key:=range0 (T:=fun K p=>qkd LF d l m k K p) (σ:=List Int) (k.take (S.doD d (l.take m.toNat)).1.2.length) (fun i s=>(i,s)) (fun i s=>s=(k.take i).map fun x=>Int.tmod (IntKind.i64.wrap x) (Int.ofNat 65)) (fun rest i s=>some ((S.cut d l m k).1,decide ((S.cut d l m k).2=0),())) hlen (fun K s hI=>?_) (fun K i v rest s hI r h=>?_) [] rfl
 ·exact key
 ·have hx:s=(k.take (S.doD d (l.take m.toNat)).1.2.length).map (· % 65):=by
   rw[hI,e,jbc];rcases Nat.le_total (S.doD d (l.take m.toNat)).1.2.length k.length with hq|hq
   ·rw[jcl hq]
   ·rw[Nat.min_eq_right hq,jbp (jaq _),jbp hq]
  have hf:some (((S.crash (S.doD d (l.take m.toNat)).1 s).1.1,(S.crash (S.doD d (l.take m.toNat)).1 s).1.2),ieqI (S.crash (S.doD d (l.take m.toNat)).1 s).2 (Int.ofNat 0),())=some ((S.cut d l m k).1,decide ((S.cut d l m k).2=0),()):=by
   rw[hx,qdh];rfl
  simp only[qkd,hs];rw[jbc];rcases jbz k.length (S.doD d (l.take m.toNat)).1.2.length with hq|hq
  ·rw[Nat.min_eq_right (by omega),show iltI (Int.ofNat k.length) (Int.ofNat (S.doD d (l.take m.toNat)).1.2.length)=true by rw[qbc];exact jan (by simp;omega),jab,qc5,jah];exact hf
  ·rw[jcl hq,show iltI (Int.ofNat (S.doD d (l.take m.toNat)).1.2.length) (Int.ofNat (S.doD d (l.take m.toNat)).1.2.length)=false from qc5 _,jah];exact hf
 ·have h1:=r.lt;rw[jbc] at h1;have hg:k[i]?=some v:=by
   have:=r.get?;rw[List.getElem?_take_of_lt (by omega)] at this;exact this
  simp only[qkd,hs];rw[show iltI (Int.ofNat i) (Int.ofNat (S.doD d (l.take m.toNat)).1.2.length)=true by rw[qbc];exact jan (by simp;omega),jab,show iltI (Int.ofNat i) (Int.ofNat k.length)=true by rw[qbc];exact jan (by simp;omega),jab,qc1,hg];simp only;rw[r.next,show Nat.ble (Nat.mul (Nat.add s.length 1) 8) 140737488355328=true from ?_,jab]
  ·refine h _ ?_;rw[hI,List.take_add_one,hg,List.map_append];rfl
  ·rw[hI,jby,jbc];exact jay (by show (_+1)*8<=_;omega)
theorem qf2{k:IntKind}{n:Int}(h:WfE (.int k) n):k.min<=n/\n<=k.max:=by
 exact(qoo k n).1 h
theorem zba:Con Try.prog zla qx5:=zei ⟨qk4,qwg,trivial⟩ fun x y hx h=>⟨LF,by
 obtain⟨h1,h2⟩:=qbb (show cond (S.cutG x.1 x.2.1 x.2.2.1&&Nat.ble x.2.2.2.1.length 200) (some _) none=some y from h);rw[jae] at h1;rw[<- h2];exact ze0 x.1 x.2.1 x.2.2.1 x.2.2.2.1 h1.1 (fun z hz=>qf2 (k:=.u8) (hx.2.2.2.1.2 z hz)) (jak h1.2)⟩
def chgB(l:List DChg):Prop:=∀c∈l,(0<=c.1/\c.1<=255)/\(0<=c.2.1/\c.2.1<=255)/\0<=c.2.2.1/\c.2.2.1<=255
theorem qzf{l:List DChg}(h:chgB l):qkf l:=fun c hc=>(h c hc).2.1
theorem qsq{l:List DChg}(h:WfE (.list cChg) l):chgB l:=fun c hc=>by
 have:=h.2 c hc;exact⟨qf2 (k:=.u8) this.1,qf2 (k:=.u8) this.2.1,qf2 (k:=.u8) this.2.2.1⟩
theorem outC{n:Nat}(h:n<=100000):Nat.ble (Nat.mul (Nat.add n 1) 32) 140737488355328=true:=jay (by show (n+1)*32<=_;omega)
theorem q6u(l:List DChg)(K3:(Int × List qaa)->Option qa8)(K6:(Int × Int × List qaa)->Option qa8){i:Int}{c:DChg}(hi:jget l i=some c)(hc:(0<=c.1/\c.1<=255)/\(0<=c.2.1/\c.2.1<=255)/\0<=c.2.2.1/\c.2.2.1<=255){k:Nat}(hk:k<25){out:List qaa}(ho:out.length<=1000) :
  ∀(m F n:Nat),n+m=c.2.1.toNat->m<F->(c.2.2.2=true->n=0)->qgi LF l K3 K6 F (c.2.2.2,i,(n:Int),qae (List.replicate n c.2.2.1),(k:Int),out,(k:Int))=K3 (Int.ofNat (k+1),out++[S.cellOf k c])
 | m,0,n,_,h,_=>by omega
 | m,F+1,n,hn,hF,hg=>by
  show qn7 LF l (qgi LF l K3 K6 F) K3 _=_;have hnext:IntKind.i64.wrap (Int.add (k:Int) (Int.ofNat 1))=Int.ofNat (k+1):=qom (by unfold LF;omega);have hw:IntKind.i64.wrap c.2.1=c.2.1:=wrap_in (by omega);simp only[qn7,hi,hw,hnext,outC (show out.length<=100000 by omega),jab];cases m with
  | zero =>
   rw[show iltI (n:Int) c.2.1=false by rw[qbc];exact jat (by omega),jah];have:S.cellOf k c=((k:Int),qae (List.replicate n c.2.2.1),c.2.2.2):=by
    unfold S.cellOf;cases hb:c.2.2.2 with
    | true=>rw[hg hb];rfl
    | false=>rw[show c.2.1.toNat=n by omega];rfl
   rw[this];rfl
  | succ m =>
   rw[show iltI (n:Int) c.2.1=true by rw[qbc];exact jan (by omega),jab];cases hb:c.2.2.2 with
   | true =>
    have:S.cellOf k c=((k:Int),qae (List.replicate n c.2.2.1),true):=by
     unfold S.cellOf;rw[hb,hg hb];rfl
    rw[this];rfl
   | false =>
    have ih:=q6u l K3 K6 hi hc hk ho m F (n+1) (by omega) (by omega) (fun e=>by rw[hb] at e;cases e);rw[hb] at ih;rw[ja6,jab,qbg,ja5,show Nat.ble (Nat.succ (Nat.add n 1)) 9223372036854775808=true from jay (by show n+1+1<=_;omega),jab,qth,qeo];have e1:IntKind.i64.wrap (Int.add (n:Int) (Int.ofNat 1))=((n+1:Nat):Int):=qom (by unfold LF;omega);have e2:List.replicate n c.2.2.1++[c.2.2.1]=List.replicate (n+1) c.2.2.1:=by rw[List.replicate_succ']
    rw[e1,e2];exact ih
def S.cellAt(l:List DChg)(k:Nat):Option qaa:=(l.reverse.find? fun c=>decide (c.1 % 25=(k:Int))).map (S.cellOf k)
theorem qy4(l:List DChg)(hl:chgB l)(hlen:l.length<LF)(K3:(Int × List qaa)->Option qa8){k:Nat}(hk:k<25){out:List qaa}(ho:out.length<=1000) :
  ∀(n F:Nat),n<=l.length->n<F->qfs LF l K3 F ((n:Int)-1,(k:Int),out)=K3 (Int.ofNat (k+1),out++(S.cellAt (l.take n) k).toList)
 | n,0,_,h=>by omega
 | n,F+1,hn,hF=>by
  show qmx LF l (qfs LF l K3 F) (fun q=>qgi LF l K3 (qfs LF l K3 F) LF q) K3 _=_;have hnext:IntKind.i64.wrap (Int.add (k:Int) (Int.ofNat 1))=Int.ofNat (k+1):=qom (by unfold LF;omega);simp only[qmx,hnext];cases n with
  | zero =>
   rw[show iltI (((0:Nat):Int)-1) (Int.ofNat 0)=true from rfl,jbb,jah];show _=K3 (_,out++[]);rw[ja9]
  | succ n =>
   have hb:n<l.length:=by omega
   have hi:jget l (((n+1:Nat):Int)-1)=some l[n]:=by
    rw[show ((n+1:Nat):Int)-1=Int.ofNat n by simp,qc1,jac hb]
   have hc:=hl _ (jbk hb);rw[show iltI (((n+1:Nat):Int)-1) (Int.ofNat 0)=false by rw[qbc];exact jat (by simp),ja6,jab,hi];simp only;have ht:Int.tmod (IntKind.i64.wrap (l[n]).1) (Int.ofNat 25)=(l[n]).1 % 25:=by
    rw[wrap_in (by omega)];exact jdf hc.1.1
   have hca:S.cellAt (l.take (n+1)) k=if (l[n]).1 % 25=(k:Int) then some (S.cellOf k l[n]) else S.cellAt (l.take n) k:=by
    unfold S.cellAt;rw[jdx hb,List.reverse_append,List.reverse_singleton,List.singleton_append,List.find?_cons];by_cases e:(l[n]).1 % 25=(k:Int)
    ·rw[jan e,jam e];rfl
    ·rw[jat e,jao e]
   rw[ht,hca];by_cases e:(l[n]).1 % 25=(k:Int)
   ·rw[qbo e,jbb,jah,jam e];exact q6u l K3 _ hi hc hk ho (l[n]).2.1.toNat LF 0 (by omega) (by unfold LF;omega) fun _=>rfl
   ·rw[qbn e,ja6,jab,jao e];have e1:IntKind.i64.wrap (Int.sub (((n+1:Nat):Int)-1) (Int.ofNat 1))=(n:Int)-1:=by
     rw[show Int.sub (((n+1:Nat):Int)-1) (Int.ofNat 1)=(n:Int)-1 from (show ((n+1:Nat):Int)-1-1=(n:Int)-1 by omega)];exact wrap_in (by unfold LF at hlen;omega)
    rw[e1];exact qy4 l hl hlen K3 hk ho n F (by omega) (by omega)
theorem qya(l:List DChg)(hl:chgB l)(hlen:l.length<LF):∀(m F k:Nat) (out:List qaa),k+m=25->out.length<=k->m<F->qie LF l F (Int.ofNat k,out)=some (out++(List.range' k m).filterMap (S.cellAt l),())
 | m,0,k,out,_,_,h=>by omega
 | m,F+1,k,out,hm,ho,hF=>by
  show qoe LF l (fun q=>qfs LF l (qie LF l F) LF q) _=_;simp only[qoe];cases m with
  | zero =>
   rw[show iltI (Int.ofNat 24) (Int.ofNat k)=true by rw[qbc];exact jan (by simp;omega),jbb,jah];show _=some (out++[],());rw[ja9]
  | succ m =>
   rw[show iltI (Int.ofNat 24) (Int.ofNat k)=false by rw[qbc];exact jat (by simp;omega),ja6,jab];have e1:IntKind.i64.wrap (Int.sub (Int.ofNat l.length) (Int.ofNat 1))=(l.length:Int)-1:=by
    rw[show Int.sub (Int.ofNat l.length) (Int.ofNat 1)=(l.length:Int)-1 from rfl];exact wrap_in (by unfold LF at hlen;omega)
   rw[e1];refine(qy4 l hl hlen _ (k:=k) (by omega) (by omega) l.length LF (jaq _) hlen).trans ?_;rw[jbp (jaq _),qya l hl hlen m F (k+1) _ (by omega) (by
    rw[jag];cases S.cellAt l k with
    | none=>show _+0<=_;omega
    | some c=>show _+1<=_;omega) (by omega),ja0,List.range'_succ,List.filterMap_cons]
   cases S.cellAt l k<;>rfl
theorem zi2(l:List DChg)(hl:chgB l)(hlen:l.length<LF):Fz13 LF l=some (S.cells l,()):=by
 simp only[Fz13,qqs];refine(qya l hl hlen 25 LF 0 [] rfl (jaq _) (by unfold LF;omega)).trans ?_;rw[jck,<- List.range_eq_range'];rfl
theorem zk2:Con Try.prog zfo qwb:=zky trivial fun x y hx h=>⟨LF,(zi2 x.1 (qsq hx.1) (qdv (c:=cChg) hx.1)).trans h⟩
theorem mul2(a:Int):Int.mul (Int.ofNat 2) a=2*a:=rfl
theorem add8(a:Int):Int.add (Int.ofNat 8) a=8+a:=rfl
theorem zc1(s:Int)(l:List (List DChg))(hs:0<=s/\s<=255)(hl:∀x∈l,chgB x)(hlen:l.length<LF):Fz15 LF s l=some (S.played s l,true,()):=by
 have ht:Int.tmod s (Int.ofNat 17)=s % 17:=jdf hs.1;have hn:IntKind.i64.wrap (Int.add (Int.ofNat 8) (IntKind.i64.wrap (Int.mul (Int.ofNat 2) (IntKind.i64.wrap (Int.tmod s (Int.ofNat 17))))))=8+2*(s % 17):=by
  rw[ht,wrap_in (n:=s % 17) (by omega),mul2,wrap_in (n:=2*(s % 17)) (by omega),add8];exact wrap_in (by omega)
 unfold Fz15 qts;rw[hn,qqw hs,jab];have hj:=q2n (qqw hs);show _=some (l.foldl S.playStep (S.madeN (8+2*(s % 17))),true,())
 revert hj
 generalize S.madeN (8+2*(s % 17))=j0;intro hj;refine range0 (T:=fun K p=>qkk LF s l K p) (σ:=qad) l (fun i j=>(true,j.1.2,j.1.1,j.2.1,j.2.2.2,j.2.2.1,i)) (fun i j=>JnR j) (fun rest i j=>some (rest.foldl S.playStep j,true,())) hlen (fun K j hI=>?_) (fun K i v rest j hI r h=>?_) j0 hj
 ·simp only[qkk,qc5,jah];rfl
 ·simp only[qkk,r.ilt,r.get,r.next,jab];obtain⟨h1,h2⟩:=q6q hI (qzf (hl v r.mem));have hi:=h _ h1;rw[jdz];have hso:S.saveO j (S.cells v)=some ((S.save j (S.cells v)).1,(S.save j (S.cells v)).2,()):=by
   unfold S.saveO S.sameJ;rw[jan rfl,jab]
  show cond (ieqI (Int.ofNat (S.cells v).length) (Int.ofNat 0)) _ (match S.saveO j (S.cells v) with|none=>none|some w=>_)=_;rw[hso];unfold S.playStep at hi ⊢;by_cases h0:(S.cells v).length=0
  ·rw[jam h0] at hi ⊢;rw[qbo (by rw[h0]),jab];exact hi
  ·rw[jao h0] at hi ⊢;rw[qbn (by intro e;exact h0 (jc5 e)),jah];simp only;by_cases h3:(S.save j (S.cells v)).2=0
   ·rw[jam h3] at hi ⊢;rw[qbo (show (S.save j (S.cells v)).2=Int.ofNat 0 from h3),jab,jab];exact hi
   ·have h4:(S.save j (S.cells v)).2=14:=by rcases h2 with h2|h2|h2<;>first|exact absurd h2 h0|exact absurd h2 h3|exact h2
    rw[jao h3] at hi ⊢;rw[qbn (show ¬(S.save j (S.cells v)).2=Int.ofNat 0 from h3),jah,jah,qbo (show (S.save j (S.cells v)).2=Int.ofNat 14 from h4)];exact hi
theorem qk6(j:qad):S.sameJ j j=true:=jan rfl
theorem q0e(d:qah):S.sameD d d=true:=jan rfl
theorem ifO{α:Type}{b:Bool}{x:Option α}{y:α}(hb:b=true)(h:cond b x none=some y):x=some y:=by rw[hb] at h;exact h
section
variable (hR : Con Try.prog 43 qio) (hO : Con Try.prog 25 qgd)
include hR hO in
theorem zbd:Con Try.prog q1n q2u:=qyh ⟨qxz hR,q7a,qk4,qma hO,trivial⟩ fun x y hx h=>⟨0,by
 obtain⟨h1,h2⟩:=qbb (show cond (S.evn x.1) (some (S.madeN x.1,true,())) none=some y from h);rw[<- h2];exact zeb 0 h1⟩
include hO in
include hO in
theorem zma:Con Try.prog 10 q7c:=qdw (qma hO) fun x y h=>ifO (q0e _) h
include hO in
include hO in
include hR hO in
theorem zjm:Con Try.prog 17 qy3:=qdw (zhj hR hO) fun x y h=>ifO (qk6 _) h
include hR hO in
theorem q9v:Con Try.prog 11 q0u:=qdw (qxr hR hO) fun x y h=>ifO (qk6 _) h
include hR hO in
theorem zcj:Con Try.prog zk0 q06:=zh1 ⟨zbd hR hO,zk2,zjm hR hO,trivial⟩ fun x y hx h=>⟨LF,by
 obtain⟨h1,h2⟩:=qbb (show cond (S.brief x.2.1) (some (S.played x.1 x.2.1,true,())) none=some y from h);rw[<- h2];exact zc1 x.1 x.2.1 (qf2 (k:=.u8) hx.1) (fun z hz=>qsq (hx.2.1.2 z hz)) (qdv (c:=.list cChg) hx.2.1)⟩
end
end Go.Proofs.Ytnhmanoiolfapaa
end

section
namespace Go.Jx
open Go Go.Sx Go.RowKit
universe u

theorem jup{m bi:Nat}{E0 Ei:Env}{S S':IS}{Wb B:World}(p0:Pre T0 E0 S)(hbi:qcs E0 S bi)(hW:Beside bi E0.w Wb)(k:PostB m T0 (E0.at_ Wb) S Ei S')(hT0:∀id,m<=id->T0.w id)(u:Upd [bi] Ei.w B) :
  ∃Wb',Beside bi E0.w Wb'/\PostB m T0 (E0.at_ Wb') S (Ei.at_ B) S':=by
 obtain⟨hle,pW,hbW⟩:=p0.beside hbi hW;have pi:=k.pre hT0 pW;have hlt:bi<Wb.heap.size:=by rw[hW.size];exact p0.st.lo bi hbi.1
 have h1:Ei.w.heap[bi]?=some Wb.heap[bi]:=(k.at_same pW hbW).trans (jco hlt);obtain⟨B',u1,hB⟩:=zcl u h1;obtain⟨i1,i2⟩:=Post.idle pi u1;have k2:=k.trans (PostB.of k.le hT0 i1 i2);have hltB:bi<B.heap.size:=jbi (qas h1) u.size;have h3:=Beside.put Wb bi B.heap[bi];refine⟨Wb.putObj bi B.heap[bi],⟨h3.os.trans hW.os,h3.tape.trans hW.tape,h3.output.trans hW.output,h3.size.trans hW.size,fun x hx=>(h3.same x hx).trans (hW.same x hx)⟩,?_⟩;have:=PostB.beside (E:=E0.at_ Wb) (E':=Ei.at_ B') (w:=Wb.putObj bi B.heap[bi]) (w':=B) k2 pW hbW h3 hB (by rw[jbq hlt];exact jco hltB);exact this
section
variable {P : Program} {tt : Nat -> Option TI}
theorem zao(hm:P.follows .mixedOrders=true)(htt:TT P tt){k f:Nat}{s:SmI}{cfg:LpC}{lf:Nat}(hc:ConW P f s){cl:Cl}(hcl:ClOK P cl)(hfr:ClFr cl){vs:List IV}{S:IS}{r:Res}(h:itW P tt k s cfg lf cl vs S=some r)
   {T:TW} {E:Env} {us:List Value} (p:Pre T E S) (hrd:tin T.r r.rd) (hwr:tin T.w r.wr) (hv:VRs E vs us):qai P f/\CallsIn Fence.wide 0 P f us.toArray E.w (RetE T E S r):=by
 refine⟨hc.callable,?_⟩;obtain⟨id,caps,xi,i,isubs,S1,w1,nt,fr,pr,assign,body,D,d0,rows,subs,S2,w2,d,l,q,rfl,h1,ho,h2,hb,h3,h4,h5,rfl⟩:=qrg h;obtain⟨t1,t2⟩:=qap hwr;obtain⟨t3,t4⟩:=qap t2;obtain⟨t5,t6⟩:=qap t3;have hTid:=qaf t1;have hbits:=qrx t4;have hTi:T.w i:=hbits i (by simp);unfold itB at hb;simp only[jae] at hb;obtain⟨b1,b2,b3,b4,b5,b6,b7,b8,b9⟩:=hb;have hnd:=qjf b1;obtain⟨u0,us,rfl,a1,a2⟩:=hv.inv;have hA:E.A id:=by cases a1;assumption
 obtain⟨E1,e1,q1,f1,il1,il2,iA,ib2,ib3⟩:=qek s.ips h1 p t5 a2;have p1:=q1.pre p;have hle1:=q1.env p;obtain⟨z1,z2,z3,z4,z5⟩:=hle1.alw id hA;obtain⟨fn,tmps,g1,g2,g3⟩:=p1.st.objs id (T.sub _ hTid) z1 _ ho;have hls:VRs E1 (cfg.ls.map (slot fr)) (cfg.ls.map fun t=>tmps.getD t undef):=⟨by simp,fun i hi hi2=>by
   simp only[jce];refine g2.get _ ?_;have:=(jbj.1 b8) (cfg.ls[i]'(by simpa using hi)) (jbk _);simpa using this⟩
 obtain⟨E2,e2,q2,f2,l1,l2,A2,c2,c3⟩:=qek cfg.lp h2 p1 t6 hls;have p2:=q2.pre p1;have hle2:=q2.env p1;obtain⟨_,y2,y3⟩:=qe0 cfg.lp h3 l2;have hq12:=Post.trans p q1 f1 q2;have hf12:=f1.trans f2 q1.le;have hS2:S2.H id=some (.loop .ready none nt fr [pr] assign body D):=by
   rw[(qej _ h2).2 id (p1.bnd id z1) (by simpa using b9)];exact ho
 obtain⟨hA2,x2,x3,x4,x5⟩:=hle2.alw id z1;obtain⟨fn',tmps',g1',g2',g3'⟩:=p2.st.objs id (T.sub _ hTid) hA2 _ hS2;obtain⟨nq1,nq2⟩:=jcn.1 hnd;have nq3:=(jc0.1 nq2);have hheld:Held T E2 S2 cfg.lp d rows subs:=⟨l1,l2,nq3.2.1,fun i hi=>hbits i (jcc _ hi),A2,fun ι hι j o hj=>by
     obtain⟨id',g1,g2,g3,g4,_⟩:=quh h3 l2 p2 (fun i hi=>T.sub _ (hbits i (jcc _ (jb3 _ hi)))) (c3 _ _ hι) j o hj;exact⟨id',g1,g2,g3,g4⟩,
   fun i hi=>qvy ((jbj.1 b3) i hi),y3⟩
 have hidq:id ∉ rows++subs:=fun hi=>nq1 (jcc _ hi);have hiq:i ∉ rows++subs:=fun h2=>nq3.2.2 i (by simp) i h2 rfl;have hidi:id≠i:=fun e=>nq1 (jb3 _ (by simp[e]));have p0:=hheld.pre p2;have hlive:Live E2 S2.H id:=⟨p2.st.blk id (T.sub _ hTid) hA2 _ hS2 rfl,_,hS2,rfl⟩;have hns:Nums idN 0 isubs:=by
   have:isubs=[]:=ja1.1 (by rw[il2,hc.ns]);rw[this];intro j id hj;simp at hj
 have hrow:∀(j:Nat) (o:IObj),(qar s.ips idN 0 xi)[j]?=some o->∃i',[i][j]?=some i'/\E2.A i'/\(o.blk=true->E2.hb i'=true)/\OR E2 i' o:=fun j o hj=>by
   obtain⟨i,i1,i2,i3,i4⟩:=ib3 idN 0 hns j o hj;obtain⟨j1,j2,j3,j4,j5⟩:=hle2.alw i i2;exact⟨i,i1,j1,fun hb=>j5.trans (i3 hb),i4.mono hle2 i2 i3 (fun _ _=>by rw[e2])⟩
 have hread:qtr E2 s xi us [i]:=⟨fun ρ k hk=>(ib2 ρ k hk).mono hle2,hrow⟩;have hAi:E2.A i:=by
   have hj2:0<(qar s.ips idN 0 xi).length:=by rw[qa3,<- il1];simp
   obtain⟨i',i1,i2,_⟩:=hrow 0 _ (jac hj2);cases i1;exact i2
 have hLi:Live E2 S2.H i:=by
   obtain⟨cs,hcs⟩:=qvy ((jbj.1 b2) i (by simp));exact⟨p2.st.blk i (T.sub _ hTi) hAi _ hcs rfl,_,hcs,rfl⟩
 have hfar:∀i,i ∉ rows++subs->T.r i->E2.A i->Live E2 S2.H i->∀k,(renE 0 (rows++subs) E2).A k->Live (renE 0 (rows++subs) E2) (Sc cfg.lp d).H k->(renE 0 (rows++subs) E2).ρ k≠E2.ρ i:=fun i hi ht ha hl k hk hkl e=>by
   have hk1:k<(rows++subs).length:=by have:=hk.1;omega
   have hm1:=(qbz hk1).1;obtain⟨h0,o,ho1,ho2⟩:=hkl;have hl2:Live E2 S2.H (ol 0 (rows++subs) k):=⟨h0,(hheld.obj p2 hk1 hk.2 ho1).live ho2⟩;have:=p2.st.inj _ _ (T.sub _ (hheld.w _ hm1)) ht hk.2 ha hl2 hl e;exact hi (this▸hm1)
 have hap:qcs (renE 0 (rows++subs) E2) (Sc cfg.lp d) (E2.ρ id):=⟨p2.st.own id (T.sub _ hTid) hA2 hlive,hfar id hidq (T.sub _ hTid) hA2 hlive⟩;have hai:qcs (renE 0 (rows++subs) E2) (Sc cfg.lp d) (E2.ρ i):=⟨p2.st.own i (T.sub _ hTi) hAi hLi,hfar i hiq (T.sub _ hTi) hAi hLi⟩;have hbne:E2.ρ id≠E2.ρ i:=fun e=>hidi (p2.st.inj _ _ (T.sub _ hTid) (T.sub _ hTi) hA2 hAi hlive hLi e);have hbim:E2.ρ i∈E2.m:=p2.st.own i (T.sub _ hTi) hAi hLi;generalize hE0:renE 0 (rows++subs) E2=E0 at p0 hap hai hfar;have hE0w:E0.w=E2.w:=by rw[<- hE0];rfl
 have hE0m:E0.m=E2.m:=by rw[<- hE0];rfl
 generalize hbk:E2.ρ id=b at hap g1' hbne;generalize hbik:E2.ρ i=bi at hai hbne;obtain⟨rec,hrec⟩:∃rec:Loop,rec={ state:=.ready,pending:=none,fn:=fn',tmps:=tmps',params:=[pr].toArray,assign:=assign,body:=body,defers:=E2.ρ D }:=⟨_,rfl⟩;have hl0:E0.w.heap[b]?=some (.loop rec):=by rw[hE0w,g1',hrec]
 have htm:tmps'=tmps:=by
   have h1:=g1';rw[e2,<- hbk,x2,g1] at h1;have h1:=jb7 h1;injection h1 with h1
   injection h1 with _ _ _ h1
   exact h1.symm
 have hargs:VRs E0 (qaq cfg.lp idN 0 d) (cfg.ls.map fun t=>rec.tmps.getD t undef):=by
   have e:rec.tmps=tmps:=by rw[hrec];exact htm
   rw[e,<- hE0];exact argsP_env (E:=E2) (E':=renE 0 (rows++subs) E2) (ρ:=ol 0 (rows++subs)) (fun _ h=>h) rfl cfg.lp (fun j a b=>Held.numTo E2 _ (by rw[hheld.len];omega)) (by rw[y2];exact c2 _ _ hheld.num.1)
 generalize hg:qe1 P tt cfg s.c nt lf cl pr assign body d=g at h5;have hd0:updP cfg.lp d (qda cfg.lp d)=d:=qoj _ _;have hT0:∀id,mP cfg.lp<=id->T0.w id:=fun _ _=>trivial
 -- the two states of affairs
 let J:List (El s.c)->World->Prop:=fun pre W=>∃z Wb Ei,foldB g pre (qda cfg.lp d)=some (z,none)/\Beside bi E0.w Wb/\PostB (mP cfg.lp) T0 (E0.at_ Wb) (Sc cfg.lp d) Ei (Sc cfg.lp (updP cfg.lp d z))/\Ei.w=W
 let K:World->Prop:=fun W=>∃z cd Wb Ei,foldB g l (qda cfg.lp d)=some (z,some cd)/\Beside bi E0.w Wb/\PostB (mP cfg.lp) T0 (E0.at_ Wb) (Sc cfg.lp d) Ei (Sc cfg.lp (updP cfg.lp d z))/\Upd [b,bi] Ei.w W/\W.heap[b]?=some (.loop { rec with state:=.done,pending:=some cd })
 have hbes0:Beside bi E0.w E0.w:=⟨rfl,rfl,rfl,rfl,fun _ _=>rfl⟩;have hJ0:J [] E0.w:=⟨qda cfg.lp d,E0.w,E0,rfl,hbes0,by rw[hd0];exact PostB.refl (by rw[qic];omega) hT0 p0,rfl⟩;have hJu:∀s A B,J s A->Upd [bi] A B->J s B:=fun pre A B ⟨z,Wb,Ei,k1,hW,k2,k3⟩ u=>by
   subst k3;obtain⟨Wb',w1,w2⟩:=jup p0 hai hW k2 hT0 u;exact⟨z,Wb',Ei.at_ B,k1,w1,w2,rfl⟩
 have hKu:∀A B,K A->Upd [bi] A B->K B:=fun A B ⟨z,cd,Wb,Ei,k1,hW,k2,k3,k4⟩ u=>⟨z,cd,Wb,Ei,k1,hW,k2,k3.trans (u.mono (by simp)),(u.same _ (qas k4) (by simpa using hbne)).trans k4⟩;have hRd:∀pre A,J pre A->E2.Le (E2.at_ A):=fun pre A ⟨z,Wb,Ei,k1,hW,k2,k3⟩=>by
   subst k3;refine⟨fun _ h=>⟨h,rfl,rfl,rfl,rfl⟩,⟨fun x hx hxm=>⟨hxm,?_⟩⟩⟩;have hsz:x<Wb.heap.size:=by rw[hW.size,hE0w];exact hx
   have h1:Ei.w.heap[x]?=Wb.heap[x]?:=k2.same x hsz fun k _ ha hl e=>hxm (by rw[<- e,<- hE0m];exact p0.st.own k trivial ha hl);have h2:Wb.heap[x]?=E0.w.heap[x]?:=hW.same x fun e=>hxm (by rw[e,<- hbik];exact hbim);show Ei.w.heap[x]?=E2.w.heap[x]?;rw[h1,h2,hE0w]
 have hround:∀pre x post A0 A u,l=pre++x::post->J pre A0->Upd [bi] A0 A->(∀E:Env,E.w=A->(∀b∈E.m,b<A0.heap.size/\(b<E2.w.heap.size->b∈E2.m))->VR E (asIV s.c x) u)->YieldAt Fence.wide 0 P b #[u] A fun e B=>(∀c,(c=bi\/A0.heap.size<=c)->c<A.heap.size->B.heap[c]?=A.heap[c]?)/\((e=.returned (.bool true)/\J (pre++[x]) B)\/(e=.returned (.bool false)/\K B)):=fun pre x post A0 A u hl ⟨z,Wb0,Ei0,k1,hW0,k20,k30⟩ hup0 hu=>by
   subst k30;obtain⟨_,pW0,hiW0⟩:=p0.beside hai hW0;have hpi0:=k20.pre hT0 pW0;obtain⟨Wb,hW,k2⟩:=jup p0 hai hW0 k20 hT0 hup0;obtain⟨hleW,pW,hiW⟩:=p0.beside hai hW;have hapW:qcs (E0.at_ Wb) (Sc cfg.lp d) b:=hap;have hapW0:qcs (E0.at_ Wb0) (Sc cfg.lp d) b:=hap;have hlow0:∀k,(Ei0.at_ A).A k->Live (Ei0.at_ A) (Sc cfg.lp (updP cfg.lp d z)).H k->(Ei0.at_ A).ρ k<Ei0.w.heap.size:=fun k ha hl=>hpi0.st.lo _ (hpi0.st.own k trivial ha hl);have hmem0:∀b∈(Ei0.at_ A).m,b<Ei0.w.heap.size/\(b<E2.w.heap.size->b∈E2.m):=fun b hb=>⟨hpi0.st.lo b hb,fun hlt=>by
     rcases k20.memo b hb with h|h
     · rw[<- hE0m];exact h
     · have:Wb0.heap.size<=b:=h;rw[hW0.size,hE0w] at this;omega⟩
   obtain⟨Ei,hEi⟩:∃Ei,Ei=Ei0.at_ A:=⟨_,rfl⟩;have hEw:Ei.w=A:=by rw[hEi];rfl
   rw[<- hEi] at k2 hlow0 hmem0;rw[<- hEw];have hWb:Wb.heap[b]?=some (.loop rec):=(hW.same b hbne).trans hl0;have hWb0:Wb0.heap[b]?=some (.loop rec):=(hW0.same b hbne).trans hl0;have hb0:b<Ei0.w.heap.size:=qas ((k20.at_same pW0 hapW0).trans hWb0);have hwhole:foldB g (x::post) z=some q:=by
     rw[<- ql8 g pre (x::post) _ _ k1,<- hl];exact h5
   have hsnoc:foldB g (pre++[x]) (qda cfg.lp d)=foldB g [x] z:=ql8 g pre [x] _ _ k1;cases hgx:g z x with
   | none=>simp only[foldB,hgx] at hwhole;cases hwhole
   | some q1 =>
   obtain⟨z1,e⟩:=q1;rw[<- hg] at hgx;have hlow:((E0.at_ Wb).bel (mP cfg.lp)).Le Ei:=k2.env pW;have hargsB:VRs ((E0.at_ Wb).bel (mP cfg.lp)) (qaq cfg.lp idN 0 d) (cfg.ls.map fun t=>rec.tmps.getD t undef) :=
     argsP_env (E:=E0.at_ Wb) (E':=(E0.at_ Wb).bel (mP cfg.lp)) (ρ:=idN) (fun _ h=>h) rfl cfg.lp (fun j _ hj hA=>⟨⟨hA,by show j<mP cfg.lp;omega⟩,rfl,rfl,rfl,rfl⟩) (hargs.mono hleW)
   have hst:=zmf (E:=Ei) (b:=b) (rec:=rec) hm hcl hfr htt hgx ⟨b4,b5⟩ ⟨by simpa using b6,by simpa using b7⟩ (k2.pre hT0 pW) (k2.apart pW hapW) ((k2.at_same pW hapW).trans hWb)
     (by rw[hrec];exact⟨rfl,rfl,rfl,rfl,rfl,g2'.size⟩) (hargsB.mono hlow) (hu Ei hEw hmem0)
   obtain⟨fnr,tmpr,asr,bdr,hyr,hRr⟩:=hst;refine⟨fnr,tmpr,asr,bdr,hyr,hRr.mono fun en B hB=>?_⟩;obtain⟨E',m1,m2⟩:=hB;have hall:=k2.trans m1;rw[hg] at hgx;have hiA:=k2.apart pW hiW;have hkeep:∀c,(c=bi\/Ei0.w.heap.size<=c)->c<Ei.w.heap.size->E'.w.heap[c]?=Ei.w.heap[c]?:=fun c h1 h2=>m1.same c h2 fun k _ ha hl e=>by
     rcases h1 with h1|h1
     · exact hiA.2 k ha hl (e.trans h1)
     · have:=hlow0 k ha hl;omega
   rcases m2 with ⟨rfl,rfl,rfl⟩|⟨cd,rfl,rfl,m3,m4⟩
   · refine⟨hkeep,.inl ?_⟩;refine⟨rfl,z1,Wb,E',?_,hW,hall,rfl⟩;rw[hsnoc];simp only[foldB,hgx]
   · refine⟨fun c h1 h2=>(m3.same c (qas ((hkeep c h1 h2).trans (jco h2))) (fun hc=>by
       have hcb:c=b:=by simpa using hc
       rcases h1 with h1|h1
       · exact hbne (hcb.symm.trans h1)
       · omega)).trans (hkeep c h1 h2),.inr ?_⟩
     refine⟨rfl,z1,cd,Wb,E',?_,hW,hall,m3.mono (by simp),m4⟩;rw[hl,ql8 g pre (x::post) _ _ k1];simp only[foldB,hgx]
 have hit:=hc.it E2 xi us i l h4 p2.gl hread hbim p2.st.lo b J K;rw[hbik] at hit;have hit:=hit hJu hKu hRd hround (by rw[<- hE0w];exact hJ0);have hu0:u0=.func (.yield b) #[] #[]:=by
   cases a1;rw[<- hbk,x2,z2]
 have hw:E2.w=E.w:=by rw[e2,e1]
 rw[hw] at hit;rw[hu0,show (Value.func (.yield b) #[] #[]::us).toArray=#[.func (.yield b) #[] #[]]++us.toArray by simp];refine hit.mono fun en B ⟨hen,hB⟩=>?_
 -- what comes back
 have hfin:∀(z:ElP (refs cfg.lp)) (pe:Option Code) (Wb:World) (Ei:Env),q=(z,pe)->Beside bi E0.w Wb->PostB (mP cfg.lp) T0 (E0.at_ Wb) (Sc cfg.lp d) Ei (Sc cfg.lp (updP cfg.lp d z))->Upd [b] Ei.w B ->
     B.heap[b]?=some (.loop { rec with state:=cond pe.isNone .ready .done,pending:=pe })->RetE T E S (qko S2 cfg id nt fr pr D assign body i rows subs (w1 ||| w2) q) en B:=fun z pe Wb Ei hqz hW k2 hup hbl=>by
   subst hqz;rw[hE0w,<- hbik] at hW;obtain⟨wr1,wr2⟩:=Post.write (o':=.dead) p2 hTi hAi hLi hW.upd trivial;have hheldW:=hheld.dead p2 hTi hAi hLi hiq hW;have p2W:=wr1.pre p2;have hle2W:=wr1.env p2;have hE0W:E0.at_ Wb=renE 0 (rows++subs) (E2.at_ Wb):=by rw[<- hE0];rfl
   rw[<- q4h cfg.lp d z,hE0W] at k2;obtain⟨m1,m2⟩:=hheldW.back (s:=sQ cfg.lp) (x:=d) p2W k2;have p3:=m1.pre p2W;have hle3:=m1.env p2W;obtain⟨n1,n2,n3,n4,n5⟩:=hle3.alw id hA2;have hlt:id<S2.next:=p2.bnd id hA2
   have hSd:(S2.set i .dead).H id=some (.loop .ready none nt fr [pr] assign body D):=by rw[IS.H_set,up_ne _ _ hidi];exact hS2
   have hobj:(qbu (sQ cfg.lp) S2.next rows subs () z (S2.set i .dead)).H id=some (.loop .ready none nt fr [pr] assign body D):=by
     unfold qbu;rw[qb8,ql4,qox,jam (show id<(S2.set i .dead).next from hlt),qg5 (fun h=>hidq (jb3 _ h)),qlg (fun h=>hidq (jcc _ h))];exact hSd
   have hL3:Live (mrgR (E2.at_ Wb) Ei S2.next (mP (sQ cfg.lp).ps)) (qbu (sQ cfg.lp) S2.next rows subs () z (S2.set i .dead)).H id:=⟨n5.trans hlive.1,_,hobj,rfl⟩;have n2':(mrgR (E2.at_ Wb) Ei S2.next (mP (sQ cfg.lp).ps)).ρ id=b:=n2.trans hbk;have hub:Upd [(mrgR (E2.at_ Wb) Ei S2.next (mP (sQ cfg.lp).ps)).ρ id] (mrgR (E2.at_ Wb) Ei S2.next (mP (sQ cfg.lp).ps)).w B:=by rw[n2'];exact hup
   have hle4:=Env.at_le p3.st hTid n1 hL3 hub;obtain⟨w1',w2'⟩:=Post.write p3 (o':=.loop (cond pe.isNone .ready .done) pe nt fr [pr] assign body D) hTid n1 hL3 hub ⟨fn',tmps',by
     show B.heap[(mrgR (E2.at_ Wb) Ei S2.next (mP (sQ cfg.lp).ps)).ρ id]?=_;rw[n2',hbl,hrec];have:E2.ρ D=(mrgR (E2.at_ Wb) Ei S2.next (mP (sQ cfg.lp).ps)).ρ D:=((hle3.alw D g3').2.1).symm;show some (Obj.loop { state:=cond pe.isNone .ready .done,pending:=pe,fn:=fn',tmps:=tmps',params:=[pr].toArray,assign:=assign,body:=body,defers:=E2.ρ D })=_;rw[this];rfl,((g2'.mono hle2W).mono hle3).mono hle4,(hle4.alw D (hle3.alw D g3').1).1⟩
   have r0:=Post.trans p hq12 hf12 wr1;have rf0:=hf12.trans wr2 hq12.le;have r1:=Post.trans p r0 rf0 m1;have rf1:=rf0.trans m2 r0.le;exact⟨_,_,hen,rfl,.tup (us:=[]) rfl (fun i h=>by simp at h),Post.trans p r1 rf1 w1',rf1.trans w2' r1.le⟩
 rcases hB with ⟨z,Wb,Ei,k1,hW,k2,k3⟩|⟨z,cd,Wb,Ei,k1,hW,k2,k3,k4⟩
 · obtain⟨_,pW,_⟩:=p0.beside hai hW;have hapW:qcs (E0.at_ Wb) (Sc cfg.lp d) b:=hap;refine hfin z none Wb Ei (jb7 (h5.symm.trans k1)) hW k2 (by rw[k3];exact Upd.refl _ _) ?_;rw[<- k3,(k2.at_same pW hapW),show (E0.at_ Wb).w.heap[b]?=some (.loop rec) from (hW.same b hbne).trans hl0,hrec];rfl
 · obtain⟨_,pW,_⟩:=p0.beside hai hW;have hapW:qcs (E0.at_ Wb) (Sc cfg.lp d) b:=hap;have hEb:Ei.w.heap[b]?=some (.loop rec):=(k2.at_same pW hapW).trans ((hW.same b hbne).trans hl0);have hltb:b<B.heap.size:=qas k4;have hsp:Upd [bi] Ei.w (B.putObj b (.loop rec)):=⟨k3.os,k3.tape,k3.output,by rw[(Beside.put B b (.loop rec)).size];exact k3.size,fun x hx hn=>by
     by_cases e:x=b
     · subst e;rw[jbq hltb,hEb]
     · rw[jca e];exact k3.same x hx (by simp at hn ⊢;exact⟨e,hn⟩)⟩
   obtain⟨Wb',v1,v2⟩:=jup p0 hai hW k2 hT0 hsp;exact hfin z (some cd) Wb' (Ei.at_ (B.putObj b (.loop rec))) (jb7 (h5.symm.trans k1)) v1 v2 (Beside.put B b (.loop rec)).symm.upd k4
theorem zfz(hm:P.follows .mixedOrders=true)(htt:TT P tt){f:Nat}{s:SmI}(k:Nat)(cfg:LpC)(lf:Nat)(hc:ConW P f s):HxOK P f (itWx P tt k s cfg lf).f :=
 ⟨fun cl h1 h2 _ vs S r h T E us p hr hw hv=>zao hm htt hc h1 h2 h p hr hw hv,fun cl _ vs S=>zkf,fun cl _ vs S r h hw _=>(q9c h hw).elim⟩
end
end Go.Jx
end

section
namespace Go.Jx
open Go Go.Sx Go.RowKit
theorem zmo{E:Env}{k:IntKind}{n:Int}{v:Value}(h:VR E (.int k n) v):v=.int k n:=by cases h;rfl
theorem zf3{E:Env}{s:ByteArray}{v:Value}(h:VR E (.str s) v):v=.string s:=by cases h;rfl
theorem zd4{E:Env}{b:Bool}{v:Value}(h:VR E (.bool b) v):v=.bool b:=by cases h;rfl
end Go.Jx
end

section
set_option maxRecDepth 100000
namespace Go.Jx
open Go Go.Sx Go.RowKit
theorem VR.asE{E E':Env}(hm:∀b,b∈E'.m->b∈E.m)(hw:E'.w=E.w){c:TC}{x:El c}{u:Value}(h:VR E (asIV c x) u):VR E' (asIV c x) u:=by
 cases c with
 | two a b =>
  cases h with
  | agg hl hh=>exact .agg hl fun i a b=>(VR.noid hm hw (hh i a b)).2.2 _ _ (jbk a)
 | int k=>exact(VR.noid hm hw h).2.2 (.int k) x (by simp[cel,asIV])
 | bool=>exact(VR.noid hm hw h).2.2 .bool x (by simp[cel,asIV])
 | str=>exact(VR.noid hm hw h).2.2 .str x (by simp[cel,asIV])
 | list c=>exact(VR.noid hm hw h).2.2 (.list c) x (by simp[cel,asIV])
end Go.Jx
namespace Go.Sx
open Go Go.RowKit
section
variable {P : Program} {n : Nat} {σ : Nat -> Value} {w : World} {ops : Array Oper} {rest : List Oper} {d : Nat} {ty : TypeId} {pos : String} {aft : Array Edge} {g : Option (Nat × Bool)}
def cutA(a:Addr)(cap k s:Nat):Addr:=if cap=k then a else a.add (k*s)
theorem zib{T E:TypeId}{size bytes s2 b2:Nat}{zero z2:Value}{E':TypeDesc}{a:Addr}{len cap k:Nat}{kk:IntKind}(hT:Ty P T (.slice E) size bytes zero)(hE:Ty P E E' s2 b2 z2)(hl:k<=len)(hc:len<=cap) :
  (Instr.sliceAt T (.slice (some a) len cap) (some (.int kk (k:Nat))) none none).run P w=.ok (.slice (some (cutA a cap k s2)) (len-k) (cap-k)) w:=by
 have h1:(0:Int)<=(k:Nat)/\((k:Nat):Int)<=len:=⟨by omega,by omega⟩;by_cases h3:cap=k
 ·subst h3;simp only[Instr.sliceAt,jaf,jal hT.und,jaa,Instr.slice,Instr.sliceBounds,Instr.sliceBound,asIntOf,jad,h1,je1,jcu,run_sizeOf hE,cutA];simp
 ·rw[q6g hT hE (by omega) hl hc];unfold cutA;rw[jao h3]
theorem zi6{Q:Exit->Act->World->Prop}{T E:TypeId}{size bytes s2 b2:Nat}{zero z2:Value}{E':TypeDesc}{x y:Operand}{a:Addr}{len cap k:Nat}{kk:IntKind}(hT:Ty P T (.slice E) size bytes zero)(hE:Ty P E E' s2 b2 z2)
  (hg:qao ops σ n g=true) (hx:(okO n x&&okO n y)=true) (ex:ev σ x=.slice (some a) len cap) (ey:ev σ y=.int kk (k:Nat)) (hl:k<=len) (hc:len<=cap)
  (kt:wpList P ops Q rest (Fr n (upd σ d (.slice (some (cutA a cap k s2)) (len-k) (cap-k)))) w):wpList P ops Q (⟨some d,.slice T x (some y) none none,ty,pos,aft,g⟩::rest) (Fr n σ) w:=by
 simp only[jae] at hx;exact qa5 hg (by simp only[execOp,qat hx.1,ex,Option.map_none,jc2,qat hx.2,ey,zib hT hE hl hc,jaf,jad,jaa]) kt
theorem SL.cut{M:List Nat}{a:Addr}{cap k:Nat}{l:List ByteArray}(h:SL M w (some a) cap l)(hk:k<=l.length):SL M w (some (cutA a cap k 1)) (cap-k) (l.drop k):=by
 obtain⟨⟨h1,h2⟩,h3⟩:=h;refine⟨⟨by rw[ja7];omega,by omega⟩,?_⟩;rcases h3 with rfl|⟨b,off,cells,t,fz,ha,hb,hh,hall⟩
 ·exact .inl (by simp)
 ·cases ha;by_cases hc:cap=k
  ·exact .inl (jct (by omega))
  ·refine .inr ⟨b,off+k,cells,t,fz,?_,hb,hh,fun i hi=>?_⟩
   ·unfold cutA;rw[jao hc,qbd _ rfl,jfr]
   ·rw[ja7] at hi;obtain⟨cs,c1,c2⟩:=hall (k+i) (by omega);refine⟨cs,by rw[List.getElem_drop];exact c1,fun j hj=>?_⟩;have:=c2 j hj;have e:(Dat.sz ByteArray)=1:=rfl;rw[e] at this ⊢;rw[show off+k+i*1+j=off+(k+i)*1+j by omega];exact this
end
end Go.Sx
namespace Go.Proofs.Ytnhmanoiolfapaa
open Go Go.Sx Go.RowKit Go.Jx
theorem zbh:Fld Try.prog 106 1 1:=Fld.mk (F := ⟨"sectors", 3,1, false, "", "cosigner/keep", 24⟩) qig rfl ty3
theorem zmv:Fld Try.prog 106 2 2:=Fld.mk (F := ⟨"torn", 4,2, false, "", "cosigner/keep", 32⟩) qig rfl ty4
theorem zn7(M:List Nat)(w:World):Gl M w:=⟨fun b hb=>by cases hb⟩
theorem zoc{w:World}{m0:List Nat}{a:Option Addr}{cap:Nat}{l:List ByteArray}(hS:SL m0 w a cap l)(h1:S.secs1 l=true) :
  Calls Try.prog 63 #[.slice a l.length cap] w (Ret fun v w'=>Upd [] w w'/\(∃a1 n1 c1,v=.agg #[.slice a1 n1 c1,.int .i64 (S.readK l).2.1,.bool (S.readK l).2.2]) /\
   ∀E:Env,E.w=w'->(∀x∈E.m,x<w.heap.size/\∀ad,a=some ad->x≠ad.block)->VR E (asIV cKeepRecord (S.readK l)) v):=by
 obtain⟨hn,hlen,hsz⟩:=q5l h1;obtain⟨⟨hc1,hc2⟩,h|⟨b,off,cells,t,fz,rfl,hb,hh,hall⟩⟩:=hS
 ·rw[h] at hn;simp at hn
 have hlt:=qas hh
 let M0:=(List.range w.heap.size).filter fun x=>!(x==b)
 have hM0:∀x∈M0,x<w.heap.size:=fun x hx=>by
  have:=(jc3.1 hx).1;simpa using this
 have hbM:b ∉ M0:=fun hx=>by
  have:=(jc3.1 hx).2;simp at this
 have hv:VR (EM M0 w) (.lst .str l) (.slice (some ⟨b,off,none⟩) l.length cap):=by
  refine VR.lst (fun i _=>.string (l.getD i S.none_)) hc1 hc2 (by show l.length*16<=_;omega) hbM hh (fun i hi j hj=>?_) (fun i hi j hj=>?_)
  ·have hj:j<1:=hj;have:j=0:=by omega
   subst this;obtain⟨cs,c1,c2⟩:=hall i hi;have c1:cs=[.string l[i]]:=c1;have:=c2 0 (by show 0<1;omega);rw[c1] at this;have hi:i<List.length (α:=ByteArray) l:=hi;rw[jai,jac hi];exact this
  ·have hj:j<1:=hj;have:j=0:=by omega
   subst this;have hi:i<List.length (α:=ByteArray) l:=hi;rw[jai,jac hi];show VR _ (.str l[i]) (.string l[i]);exact .str _ (by have:=hsz l[i] (jbk hi);omega)
 have hcall:=zbn.calls M0 w (l,()) [.slice (some ⟨b,off,none⟩) l.length cap] (S.readK l,()) (by
  show cond (S.secs1 l) (some (S.readK l,())) none=_;rw[h1];rfl) hM0 (zn7 _ _) (.cons hv .nil)
 refine(jdl.1 hcall).mono fun e w' hR=>?_;obtain⟨v,E',rfl,rfl,k1,k2,k3⟩:=hR;have k1:VR E' (asIV cKeepRecord (S.readK l)) v:=k1;refine⟨⟨k2.stp.os,k2.stp.tape,k2.stp.output,k2.stp.size,fun x hx _=>k2.stp.same x hx fun id _ hA _=>hA.elim⟩,?_,fun E hE hm=>VR.asE (fun x hx=>?_) hE k1⟩
 ·generalize S.readK l=r at k1;obtain⟨cl,nn,tt⟩:=r;have k1:VR E' (.agg [.lst qac cl,.int .i64 nn,.bool tt]) v:=k1;cases k1 with
  | @agg _ us hl hh2 =>
   match us,hl,hh2 with
   | [x1,x2,x3],hl,hh2 =>
    have q1:VR E' (.lst qac cl) x1:=hh2 0 (by simp) (by simp);have q2:VR E' (.int .i64 nn) x2:=hh2 1 (by simp) (by simp);have q3:VR E' (.bool tt) x3:=hh2 2 (by simp) (by simp);rw[zmo q2,zd4 q3];cases q1 with
    | lst0 _=>exact⟨_,_,_,rfl⟩
    | lst us h1 h2 h3 hb hh hc hu=>exact⟨_,_,_,rfl⟩
 ·obtain⟨h2,h3⟩:=hm x hx;have hxb:x≠b:=h3 _ rfl;have hx0:x∈M0:=jc3.2 ⟨by simpa using h2,by simpa using hxb⟩;rcases k2.stp.mem x hx0 h2 with h|⟨id,_,hA,_⟩
  ·exact h
  ·exact hA.elim
theorem qre(l:List ByteArray)(h:(S.readK l).2.2=false):1<=(S.readK l).2.1.toNat/\(S.readK l).2.1.toNat<=l.length/\(S.readK l).2.1=((S.readK l).2.1.toNat:Int):=by
 revert h
 unfold S.readK;split
 ·intro h;cases h
 ·rename_i hc;have h1:1<=S.recM (qab (l.getD 0 S.none_)):=by unfold S.recM;omega
  have h2:S.recM (qab (l.getD 0 S.none_))<=l.length:=by omega
  split
  ·intro _;exact⟨by simpa using h1,by simpa using h2,by simp⟩
  ·intro _;exact⟨by simpa using h1,by simpa using h2,by simp⟩
theorem q94:∀(f:Nat) (l:List ByteArray),l.length<f->S.recsGo f l=S.recsGo (l.length+1) l:=by
 intro f;induction f using Nat.strongRecOn with
 | ind f ih =>
  intro l hl;cases l with
  | nil=>cases f with
   | zero=>omega
   | succ f=>rfl
  | cons s r=>cases f with
   | zero=>omega
   | succ f =>
    show (if (qab s).getD 0 0=0 then [] else S.readK (s::r)::cond (S.readK (s::r)).2.2 [] (S.recsGo f ((s::r).drop (S.readK (s::r)).2.1.toNat)))=(if (qab s).getD 0 0=0 then [] else S.readK (s::r)::cond (S.readK (s::r)).2.2 [] (S.recsGo (s::r).length ((s::r).drop (S.readK (s::r)).2.1.toNat)));by_cases h0:(qab s).getD 0 0=0
    ·rw[jam h0,jam h0]
    ·rw[jao h0,jao h0];cases ht:(S.readK (s::r)).2.2 with
     | true=>rfl
     | false =>
      obtain⟨h1,h2,_⟩:=qre (s::r) ht;have hd:((s::r).drop (S.readK (s::r)).2.1.toNat).length<(s::r).length:=by rw[ja7];simp only[jar] at *;omega
      show _::S.recsGo f _=_::S.recsGo _ _;rw[ih f (by omega) _ (by simp only[jar] at *;omega)];by_cases hf:(s::r).length=f
      ·rw[hf,ih f (by omega) _ (by simp only[jar] at *;omega)]
      ·rw[ih (s::r).length (by simp only[jar] at *;omega) _ hd]
theorem qsj(s:ByteArray)(r:List ByteArray):S.recsK (s::r)=if (qab s).getD 0 0=0 then [] else S.readK (s::r)::cond (S.readK (s::r)).2.2 [] (S.recsK ((s::r).drop (S.readK (s::r)).2.1.toNat)):=by
 show (if (qab s).getD 0 0=0 then [] else S.readK (s::r)::cond (S.readK (s::r)).2.2 [] (S.recsGo (s::r).length ((s::r).drop (S.readK (s::r)).2.1.toNat)))=_;by_cases h0:(qab s).getD 0 0=0
 ·rw[jam h0,jam h0]
 ·rw[jao h0,jao h0];cases ht:(S.readK (s::r)).2.2 with
  | true=>rfl
  | false =>
   obtain⟨h1,h2,_⟩:=qre (s::r) ht;have hd:((s::r).drop (S.readK (s::r)).2.1.toNat).length<(s::r).length:=by rw[ja7];simp only[jar] at *;omega
   show _::S.recsGo _ _=_::S.recsK _;unfold S.recsK;rw[q94 _ _ hd]
theorem q9e{s:ByteArray}(h:0<s.size):((qe9 s 0).toNat:Int)=(qab s).getD 0 0:=by
 rw[jai,zh2 h];unfold qe9;rw[jai,jac (by simpa using h)];rfl
theorem qvz{l:List ByteArray}(h:S.secs l=true)(k:Nat):S.secs (l.drop k)=true:=by
 obtain⟨h1,h2⟩:=qk8 h;unfold S.secs S.anyShort;rw[jae];refine⟨jay (by rw[ja7];omega),?_⟩;rw[jcm,jdo];intro s hs;have:=h2 s (jdy hs);unfold S.short;simp[this]
section
attribute [local irreducible] Go.wpList Go.wpQuiet Go.Code.wp
theorem zje{W0:World}{b:Nat}{m0:List Nat}{r0:List Value}{a0:Option Addr}{cap0:Nat}{l0:List ByteArray}(hbm:b∈m0)(hlo:∀x∈m0,x<W0.heap.size)(hS0:SL m0 W0 a0 cap0 l0)(hl0:S.secs l0=true)(hbox0:Box W0 b (.slice a0 l0.length cap0::r0)) :
   qzl Try.prog 62 [.pointer (some ⟨b,0,none⟩)] b m0 W0 (fun W=>Tr m0 W0 m0 W) (fun(x:qfo) u E=>VR E (asIV cKeepRecord x) u) (S.recsK l0):=by
 intro l J K hJ hK hR hy h0;refine jdl.2 (Calls.mono (R:=Ret fun v B=>v=.tuple #[]/\(J (S.recsK l0) B\/K B)) ?_ (fun e B h=>by cases e<;>first|exact⟨by rw[h.1],h.2⟩|exact h.elim));refine(enter (l:=[.func (.yield l) #[] #[],.pointer (some ⟨b,0,none⟩)]) Try.func62 rfl Try.ntmps62 rfl ?_);refine wp_block ?_;refine qvo (X:=(List qfo × List ByteArray) × (Option Addr × Nat)) ((List.range 28).drop 3) (fun _=>[]) (fun x w1=>J x.1.1 w1/\SL m0 W0 x.2.1 x.2.2 x.1.2/\Box w1 b (.slice x.2.1 x.1.2.length x.2.2::r0)/\S.secs x.1.2=true/\S.recsK l0=x.1.1++S.recsK x.1.2) (fun x=>x.1.2.length) (([],l0),(a0,cap0)) trivial ⟨h0,hS0,hbox0,hl0,rfl⟩ ?_;rintro⟨⟨pre,lr⟩,a,cap⟩ τ w1 ⟨hj,hs0,hbox,hsec,hrec⟩;have hs1:SL m0 w1 a cap lr:=hs0.mono (hR _ _ hj);refine qal fun K1 hK1=>?_;refine qal fun K2 hK2=>?_;refine qau ?_;refine qf0 (v:=.slice a lr.length cap) ty27 rfl rfl rfl rfl hbox rfl ?_;refine qtz ty27 rfl rfl rfl ?_;refine qpf rfl rfl rfl rfl ?_;cases lr with
 | nil =>
   refine qav (v:=.bool false) rfl rfl rfl ?_;refine qga rfl ?_;refine qga rfl ?_;refine qga rfl ?_;refine qga rfl ?_;refine qga rfl ?_;refine qs8 (v:=.bool false) rfl rfl rfl rfl ?_;refine jbf ?_;refine hK2 _ _ ?_;refine qjz rfl rfl ?_;refine wp_exit ?_;have e:S.recsK l0=pre:=by rw[hrec];exact ja9 _
   exact qwt Try.results62 ⟨rfl,.inl (by rw[e];exact hj)⟩
 | cons s r =>
   obtain⟨hlen,hsz⟩:=qk8 hsec;have hs64:s.size=64:=hsz s (by simp);refine qav (v:=.bool true) rfl rfl (jas Value.bool (jan (by show (0:Int)<((r.length+1:Nat):Int);omega))) ?_;refine qf0 (v:=.slice a (s::r).length cap) ty27 rfl rfl rfl rfl hbox rfl ?_;refine zaj (j:=0) ty27 ty9 rfl rfl rfl rfl rfl hs1 (by simp) fun ad cs u hget henc hca=>?_;have hus:u=s:=by simpa using hget.symm
   subst hus;have henc:cs=[.string u]:=henc;subst henc;refine q9l (v:=.string u) ty9 rfl rfl rfl rfl hca rfl ?_;refine zev (j:=0) ty9.und rfl rfl rfl rfl (by omega) ?_;refine qyn rfl rfl rfl rfl ?_;refine q6f (v:=.bool (decide (((qe9 u 0).toNat:Int)≠0))) rfl rfl rfl rfl ?_;refine jbf ?_;refine hK2 _ _ ?_;have hb0:=q9e (s:=u) (by omega);refine c_if rfl rfl (fun hne=>?_) (fun hne=>?_)
   · refine je6 ?_;refine hK1 _ _ ?_;have hne:¬(qab u).getD 0 0=0:=by rw[<- hb0];exact hne
     have hrk:=qsj u r;rw[jao hne] at hrk;have hsec1:S.secs1 (u::r)=true:=by unfold S.secs1;rw[hsec];rfl
     generalize hL:u::r=L at *;refine wp_block ?_;refine qal fun K3 hK3=>?_;refine qau ?_;refine qf0 (v:=.slice a L.length cap) ty27 rfl rfl rfl rfl hbox rfl ?_;refine qgl (l:=[.tmp 14]) (args:=[.slice a L.length cap]) q4u rfl rfl rfl (zoc hs1 hsec1) ?_;rintro _ w2 ⟨u2,⟨a1,n1,c1,rfl⟩,hvr⟩;refine q9w (zs:=[.slice none 0 0,.int .i64 0,.bool false]) qig rfl rfl fun β w3 hβ u3 hz3 hx3=>?_;refine q2g (v:=.agg #[.slice a1 n1 c1,.int .i64 (S.readK L).2.1,.bool (S.readK L).2.2]) (cs':=[.slice a1 n1 c1,.int .i64 (S.readK L).2.1,.bool (S.readK L).2.2]) qig rfl rfl rfl rfl hx3 rfl rfl rfl fun w4 u4 hz4 hx4=>?_;refine jbf ?_;refine hK3 _ _ ?_;have hβ1:w1.heap.size<=β:=by rw[<- hβ];exact u2.size
     have u24:Upd [] w2 w4:=Upd.old_upd u3 u4 (by omega);have u14:Upd [] w1 w4:=u2.trans u24;have hbox4:=hbox.mono0 u14;have hbltw1:b<w1.heap.size:=hbox.lt;have hneb:b≠β:=by omega
     -- what is handed over
     have hgive:∀E:Env,E.w=w4->(∀x∈E.m,x<w1.heap.size/\(x<W0.heap.size->x∈m0))->VR E (asIV cKeepRecord (S.readK L)) (.agg #[.slice a1 n1 c1,.int .i64 (S.readK L).2.1,.bool (S.readK L).2.2]):=fun E hE hm=>by
       have h1:=hvr (E.at_ w2) rfl (fun x hx=>⟨(hm x hx).1,fun ad had=>?_⟩)
       · refine VR.mono (E:=E.at_ w2) (E':=E) ⟨fun _ h=>⟨h,rfl,rfl,rfl,rfl⟩,⟨fun x hx hxm=>⟨hxm,?_⟩⟩⟩ h1;show E.w.heap[x]?=w2.heap[x]?;rw[hE];exact u24.same x hx (by simp)
       · subst had;obtain⟨_,h|⟨bl,off,cells,t,fz,ha,hbl,hh,_⟩⟩:=hs0
         · rw[<- hL] at h;cases h
         · cases ha;intro e;have e:x=bl:=e;exact hbl (e▸(hm x hx).2 (by rw[e];exact qas hh))
     have hsp:S.recsK l0=pre++S.readK L::cond (S.readK L).2.2 [] (S.recsK (L.drop (S.readK L).2.1.toNat)):=by rw[hrec,hrk]
     refine qal fun K4 hK4=>?_;refine qal fun K5 hK5=>?_;refine(wpIn_wide (n:=0)).1 (wpIn_region_lit (q8v 2 rfl ?lo rfl ?_))
     case lo=>rintro⟨_,_,h⟩;exact(show False from h)
     dsimp only [jd3,jd7,List.drop_succ_cons,jd8];refine qav (v:=.func (.yield l) #[] #[]) rfl rfl rfl ?_;refine qsx (ds:=[.slice a1 n1 c1,.int .i64 (S.readK L).2.1,.bool (S.readK L).2.2]) qig rfl rfl rfl rfl hx4 rfl rfl ?_;refine jbf ?_;refine zo1 ?_;refine zag rfl rfl rfl rfl rfl (hy pre (S.readK L) _ w1 w4 _ hsp hj (u14.mono (by simp)) hgive) ?_;rintro e w5 ⟨hfr,⟨rfl,hj5⟩|⟨rfl,hk5⟩⟩
     · have hx5:Box w5 β [.slice a1 n1 c1,.int .i64 (S.readK L).2.1,.bool (S.readK L).2.2]:=by
         obtain⟨t6,ht6⟩:=hx4;exact⟨t6,(hfr β (.inr hβ1) (qas ht6)).trans ht6⟩
       have hbox5:Box w5 b (.slice a L.length cap::r0):=by
         obtain⟨t6,ht6⟩:=hbox4;exact⟨t6,(hfr b (.inl rfl) (qas ht6)).trans ht6⟩
       refine⟨_,rfl,q4c rfl ?lo rfl ?_⟩
       case lo=>rintro⟨_,_,h⟩;exact(show False from h)
       refine qzi rfl rfl rfl ?_;refine qav (v:=.bool false) rfl rfl rfl ?_;refine qq7 zmv rfl rfl rfl ?_;refine qf0 (v:=.bool (S.readK L).2.2) ty4 rfl rfl rfl rfl hx5 rfl ?_;refine qs8 (v:=.bool (S.readK L).2.2) rfl rfl rfl rfl ?_;refine jbf ?_;refine hK5 _ _ ?_;refine qnn rfl rfl (fun ht=>?_) (fun ht=>?_)
       · rw[ht,jab] at hsp;rw[<- hsp] at hj5;refine je9 ?_;exact ret0 Try.results62 ⟨rfl,.inl hj5⟩
       · rw[ht,jah] at hsp;obtain⟨k1,k2,k3⟩:=qre L ht;refine je6 ?_;refine hK4 _ _ ?_;obtain⟨ad,had⟩:∃ad,a=some ad:=by
           obtain⟨_,h|⟨bl,off,cells,t,fz,ha,_⟩⟩:=hs0
           · rw[<- hL] at h;cases h
           · exact⟨_,ha⟩
         subst had;have hcap:L.length<=cap:=hs0.1.1;refine qau ?_;refine qf0 (v:=.slice (some ad) L.length cap) ty27 rfl rfl rfl rfl hbox5 rfl ?_;refine qq7 zbh rfl rfl rfl ?_;refine qf0 (v:=.int .i64 ((S.readK L).2.1.toNat:Int)) ty3 rfl rfl rfl rfl hx5 (by rw[<- k3];rfl) ?_;refine zi6 ty27 ty9 rfl rfl rfl rfl k2 hcap ?_;refine q2g (v:=.slice (some (cutA ad cap (S.readK L).2.1.toNat 1)) (L.length-(S.readK L).2.1.toNat) (cap-(S.readK L).2.1.toNat)) (cs':=.slice (some (cutA ad cap (S.readK L).2.1.toNat 1)) (L.drop (S.readK L).2.1.toNat).length (cap-(S.readK L).2.1.toNat)::r0) ty27 rfl rfl rfl rfl hbox5 rfl (by
           simp only[jar,jaw,jae];exact⟨⟨rfl,jay (by show 0+1<=r0.length+1;omega)⟩,rfl⟩) (by rw[ja7];rfl) fun w6 u6 hz6 hx6=>?_
         refine jbf ?_;exact⟨((pre++[S.readK L],L.drop (S.readK L).2.1.toNat),(some (cutA ad cap (S.readK L).2.1.toNat 1),cap-(S.readK L).2.1.toNat)),by show (L.drop _).length<L.length;rw[ja7];omega,⟨hJ _ _ _ hj5 u6,hs0.cut k2,hx6,qvz hsec _,by rw[hsp,ja0];rfl⟩,_,rfl,(by repeat first|exact qa7.refl _ _|refine qa7.upd rfl ?_|refine qa7.upds rfl ?_|refine qa7.mix rfl ?_),trivial⟩
     · refine⟨_,rfl,q4c rfl ?lo rfl ?_⟩
       case lo=>rintro⟨_,_,h⟩;exact(show False from h)
       refine qzi rfl rfl rfl ?_;refine qav (v:=.bool true) rfl rfl rfl ?_;refine qga rfl ?_;refine qga rfl ?_;refine q6f (v:=.bool true) rfl rfl rfl rfl ?_;refine jbf ?_;refine hK5 _ _ ?_;refine q27 rfl rfl ?_;refine je9 ?_;exact ret0 Try.results62 ⟨rfl,.inr hk5⟩
   · refine wp_exit ?_;have hz:(qab u).getD 0 0=0:=by rw[<- hb0];exact Decidable.not_not.1 hne
     have e:S.recsK l0=pre:=by rw[hrec,qsj,jam hz];exact ja9 _
     exact qwt Try.results62 ⟨rfl,.inl (by rw[e];exact hj)⟩
end
end Go.Proofs.Ytnhmanoiolfapaa
namespace Go.Proofs.Ytnhmanoiolfapaa
open Go Go.Sx Go.RowKit Go.Jx
theorem zaz:ConW Try.prog 62 qyx:=by
 refine⟨q8u,rfl,fun E x us i l hl hgl hrd hbm hlo=>?_⟩;obtain⟨⟨L0,_⟩,_⟩:=x;obtain⟨L,hL⟩:∃L:List ByteArray,L=L0:=⟨L0,rfl⟩;subst hL;obtain⟨hsec,rfl⟩:=qbb (show cond (S.secs L) (some (S.recsK L)) none=some l from hl);obtain⟨hlen,hsz⟩:=qk8 hsec;obtain⟨h1,h2⟩:=hrd;obtain⟨i',i1,i2,i3,i4⟩:=h2 0 _ rfl;have e0:i=i':=by simpa using i1
 subst e0;have i4:OR E i (.row [.lst .str L]):=i4;obtain⟨cells,t,k1,k2,k3,k4⟩:=i4;have ha:=h1 (fun _=>i) 0 (fun j id hj=>by
  cases j with
  | zero=>simpa using hj
  | succ j=>simp at hj)
 obtain⟨u,us',rfl,a1,a2⟩:=VRs.inv (v:=.ptr i 0) (cs:=[]) ha;obtain rfl:us'=[]:=ja1.1 a2.1.symm;have hu:u=.pointer (some ⟨E.ρ i,0,none⟩):=by cases a1;rfl
 subst hu;obtain⟨h0,r0,hc0⟩:∃h0 r0,cells.toList=h0::r0:=by
  cases hc:cells.toList with
  | nil=>have:=jas List.length hc;simp at this;simp [this] at k3
  | cons h r=>exact⟨h,r,rfl⟩
 have hv:VR E (.lst .str L) h0:=by
  have:=k4.2 0 (by simp) (by simp[hc0]);simpa [hc0] using this
 have hS:∃a cap,h0=.slice a L.length cap/\SL (α:=ByteArray) E.m E.w a cap L:=by
  cases hv with
  | @lst0 _ a cap hc=>exact⟨a,cap,rfl,⟨jb8 _,hc⟩,.inl rfl⟩
  | @lst _ _ bl off cap cells t fz us q1 q2 q3 hb hh hc hu =>
   refine⟨_,cap,rfl,⟨q1,q2⟩,.inr ⟨bl,off,cells,t,fz,rfl,hb,hh,fun j hj=>?_⟩⟩;refine⟨[.string L[j]],rfl,fun k hk=>?_⟩;have hk:k<1:=hk;have hk0:k=0:=by omega
   subst hk0;have q5:=hc j hj 0 (by show 0<1;omega);have q6:VR E (.str L[j]) (us j 0):=hu j hj 0 Nat.zero_lt_one;rw[zf3 q6] at q5;exact q5
 obtain⟨a,cap,rfl,hS⟩:=hS;have hbox:Box E.w (E.ρ i) (.slice a L.length cap::r0):=⟨t,by rw[k1,<- hc0]⟩;have hit:=zje hbm hlo hS hsec hbox;exact fun lb J K q1 q2 q3 q4 q5=>hit lb J K q1 q2 (fun s A h=>(q3 s A h).tr) q4 q5
end Go.Proofs.Ytnhmanoiolfapaa
end

noncomputable section
set_option maxRecDepth 100000
namespace Go.Proofs.Ytnhmanoiolfapaa
open Go Go.Sx Go.RowKit Go.Jx
def q1f:List (Nat × Hx):=[(64,qp3 qac),(53,hxR qpk),(54,hxR qcr),(62,itWx Try.prog ttT.get 0 qyx ⟨[6,7,8,9],[.ref (.box [.map (.int .i64) .str]),.ref (.box [.dat (.int .i64)]),.ref (.box [.dat .bool]),.ref (.box [.dat .bool])],zd2⟩ 0)]
abbrev qns:Type:=qad × Bool × Unit
def q63(lf:Nat)(x1:qah):Option qns:=(match (jget x1.1 (Int.ofNat 0)) with|none=>none|some v0=>(match (jget (qab v0) (Int.ofNat 0)) with|none=>none|some v1=>(cond (iltI (Int.ofNat 1) v1) (some ((([],[]),((Int.ofNat 0),((Int.ofNat 0),[]))),(false,()))) (cond (lchk (Int.ofNat 1) (Int.ofNat v0.size) (Int.ofNat v0.size) (Int.ofNat v0.size)) (cond (Bool.not (keqS (ByteArray.extract v0 1 (Int.toNat (Int.ofNat v0.size))) (S.lit [0,0,0,0,0,0,0,0,0,0,0,0,0,0,0,0,0,0,0,0,0,0,0,0,0,0,0,0,0,0,0,0,0,0,0,0,0,0,0,0,0,0,0,0,0,0,0,0,0,0,0,0,0,0,0,0,0,0,0,0,0,0,0]))) (some ((([],[]),((Int.ofNat 0),((Int.ofNat 0),[]))),(false,()))) (match (jget (qab v0) (Int.ofNat 0)) with|none=>none|some v2=>(match (cond (S.inI (Int.ofNat x1.1.length) (Int.ofNat 0) (Int.ofNat 1000)) (some ((S.half (Int.toNat (Int.ofNat x1.1.length)) (IntKind.i64.wrap v2)),())) none) with|none=>none|some v3=>(cond (lchk v3.1.1 v3.1.2 v3.1.2 (Int.ofNat x1.1.length)) (match (cond (S.secs (lsub x1.1 v3.1.1 v3.1.2)) (some (S.recsK (lsub x1.1 v3.1.1 v3.1.2))) (none:Option (List (El Go.Proofs.Ytnhmanoiolfapaa.cKeepRecord)))) with|none=>none|some v4=>(match (qcy (fun v5 v6=>(cond v6.2.2 (some (((v5.1.1,()),((v5.2.1.1,()),((v5.2.2.1.1,()),((true,()),())))),true)) (cond v5.2.2.1.1 (match (idxO (fun v7=>(some v7.2.2)) v6.1 0) with|none=>none|some v8=>(cond (Bool.not (iltI v8 (Int.ofNat 0))) (some (((v5.1.1,()),((v5.2.1.1,()),((v5.2.2.1.1,()),((true,()),())))),true)) (some ((((S.applied v5.1.1 v6.1),()),(((IntKind.i64.wrap (Int.add v5.2.1.1 v6.2.1)),()),((false,()),((v5.2.2.2.1.1,()),())))),false)))) (some ((((S.applied v5.1.1 v6.1),()),(((IntKind.i64.wrap (Int.add v5.2.1.1 v6.2.1)),()),((false,()),((v5.2.2.2.1.1,()),())))),false))))) v4 (([],()),(((Int.ofNat 0),()),((true,()),((false,()),()))))) with|none=>none|some v9=>(cond v9.2 (cond v9.1.2.2.2.1.1 (some ((([],[]),((Int.ofNat 0),((Int.ofNat 0),[]))),(false,()))) (cond v9.1.2.2.1.1 (some ((([],[]),((Int.ofNat 0),((Int.ofNat 0),[]))),(false,()))) (match (jget (qab v0) (Int.ofNat 0)) with|none=>none|some v10=>(match (cond (S.mapG v9.1.1.1) (some (((S.listed v9.1.1.1),()),((some v9.1.1.1),()))) none) with|none=>none|some v11=>(some (((x1.1,[]),((IntKind.i64.wrap v10),(v9.1.2.1.1,v11.1.1))),(true,()))))))) (cond v9.1.2.2.2.1.1 (some ((([],[]),((Int.ofNat 0),((Int.ofNat 0),[]))),(false,()))) (cond v9.1.2.2.1.1 (some ((([],[]),((Int.ofNat 0),((Int.ofNat 0),[]))),(false,()))) (match (jget (qab v0) (Int.ofNat 0)) with|none=>none|some v12=>(match (cond (S.mapG v9.1.1.1) (some (((S.listed v9.1.1.1),()),((some v9.1.1.1),()))) none) with|none=>none|some v13=>(some (((x1.1,[]),((IntKind.i64.wrap v12),(v9.1.2.1.1,v13.1.1))),(true,())))))))))) none)))) none))))
def qpg(lf:Nat)(x1:qah):Option qns:=q63 lf x1
theorem q9q(hrz17:ConR Try.prog 53 qpk)(hr_k_cells_list:ConR Try.prog 54 qcr):qbi Try.prog q1f:=⟨zi8,⟨qfl hrz17,⟨qfl hr_k_cells_list,⟨zfz mixed ttOK 0 _ 0 zaz,trivial⟩⟩⟩⟩
theorem zlu{g:ElA [qan]->Option qns}(hsm:SmOK Try.prog [(41,qi8),(44,q5n),(34,qkt)])(hrz17:ConR Try.prog 53 qpk)(hr_k_cells_list:ConR Try.prog 54 qcr)(hg:∀(x:ElA [qan]) (y:qns),WfA [qan] x->g x=some y->∃lf,qpg lf x.1=some y):Con Try.prog 25 ⟨[qan],[(false,qag),(false,.bool)],g⟩ :=
 conU (fi:=fi25) (hxl:=q1f) (fun lf x=>qpg lf x.1) cm3 zng (q9q hrz17 hr_k_cells_list) hsm hg
def qjd:Nat->Option Nm:=fun k=>cond (Nat.beq k 1) (some ⟨[0,6,7,8],[],[],[(0,(.int .i64),.str)],[],0,0,false⟩) (cond (Nat.beq k 999999) (some ⟨[],[],[],[],[],0,0,false⟩) none)
def qi9:Nat->Bool:=fun k=>cond (Nat.beq k 1) true (false)
def qvx:=qi9
abbrev qcn:Type:=(Unit) × (Option (List (Int × ByteArray))) × Unit
def quz:List (Nat × Sm):=[]
def qsy:List (Nat × Hx):=[]
def qu9(R:Type)(lf:Nat):ClK R:=qa4 Try.prog ttT.get ftT.get (fun _ _=>none) (smL quz) (hxL qsy) lf 20 R
abbrev zbz:Nat:=53
def qia(x1:(List (Int × ByteArray)))(x2:(List qaa))(p:Int × (List (Int × ByteArray))):NRes:=(NRes.mk (.node (some (IV.map 0)) (.node none (.node none (.node (some (IV.int .i64 (Int.ofNat x2.length))) .leaf .leaf) .leaf) .leaf) (.node none (.node none (.node (some (IV.int .i64 p.1)) .leaf .leaf) .leaf) (.node (some (IV.lst qac x2)) .leaf .leaf))) (IS.mk (.node (some (IObj.tmap (TC.int .i64) TC.str p.2)) .leaf .leaf) 1) [] 0)
def qtw(lf:Nat)(x1:(List (Int × ByteArray)))(x2:(List qaa))(L1:(Int × (List (Int × ByteArray)))->Option qcn):Option qcn:=(L1 ((Int.ofNat 0),x1))
def qpd(lf:Nat)(x1:(List (Int × ByteArray)))(x2:(List qaa))(L1:(Int × (List (Int × ByteArray)))->Option qcn)(p:Int × (List (Int × ByteArray))):Option qcn:=(cond (iltI p.1 (Int.ofNat x2.length)) (match (jget x2 p.1) with|none=>none|some v0=>(cond v0.2.2 (L1 ((IntKind.i64.wrap (Int.add p.1 (Int.ofNat 1))),(@mdel (TC.int .i64) TC.str v0.1 p.2))) (L1 ((IntKind.i64.wrap (Int.add p.1 (Int.ofNat 1))),(@mset (TC.int .i64) TC.str v0.1 v0.2.1 p.2))))) (some ((),((some p.2),()))))
abbrev gz17:Type:=ElP [.ref (.mp (.int .i64) .str),.dat (.list qac)]->Option qcn
abbrev sz17(g:gz17):SmR:=⟨[.ref (.mp (.int .i64) .str),.dat (.list qac)],[],g⟩
abbrev Ez17(g:gz17)(J:JT qcn)(lf:Nat)(x1:(List (Int × ByteArray)))(x2:(List qaa)):=qb2 Try.prog ttT.get qjd (mP [.ref (.mp (.int .i64) .str),.dat (.list qac)]) fi53.nt (qu9 _ lf) lf qi9 J fi53.body [] (qa0 (qaq [.ref (.mp (.int .i64) .str),.dat (.list qac)] idN 0 (some x1,x2,())) 0 .leaf) (Sc [.ref (.mp (.int .i64) .str),.dat (.list qac)] (some x1,x2,())) [] (qdx ttT.get fi53 (sz17 g))
abbrev Bz17(g:gz17)(J:JT qcn)(lf k:Nat)(ms:List Nat)(q:NRes):=qb9 Try.prog ttT.get qjd (mP [.ref (.mp (.int .i64) .str),.dat (.list qac)]) fi53.nt (qu9 _ lf) lf qi9 J k fi53.body [] ms q (qdx ttT.get fi53 (sz17 g))
theorem q8f(g:gz17)(J:JT qcn)(lf:Nat)(x1:(List (Int × ByteArray)))(x2:(List qaa)):Ez17 g J lf x1 x2=qtw lf x1 x2 (fun q=>J 1 [lf] (qia x1 x2 q)):=by kernel_rfl
theorem zdi(g:gz17)(J:JT qcn)(lf:Nat)(x1:(List (Int × ByteArray)))(x2:(List qaa))(m1:Nat)(p:Int × (List (Int × ByteArray))):Bz17 g J lf 1 [m1] (qia x1 x2 p)=qpd lf x1 x2 (fun q=>J 1 [m1] (qia x1 x2 q)) p:=by kernel_rfl
theorem qxl:(regs fi53.body).Nodup:=by decide +kernel
theorem q5o:okC qjd qi9 qvx fi53.body none=true:=by kernel_rfl
def Az17(g:gz17)(lf:Nat):JT qcn:=atQ Try.prog ttT.get qjd fi53 (sz17 g) (qu9 _ lf) lf qvx
def qms(lf:Nat)(x1:(List (Int × ByteArray)))(x2:(List qaa)):Nat->(Int × (List (Int × ByteArray)))->Option qcn:=qa9 fun K p=>qpd lf x1 x2 K p
theorem q30(g:gz17)(lf:Nat)(x1:(List (Int × ByteArray)))(x2:(List qaa)):∀(n:Nat) (p:Int × (List (Int × ByteArray))),Az17 g lf 1 [n] (qia x1 x2 p)=qms lf x1 x2 n p
 | 0,p=>qxt 1 [0] rfl _
 | n+1,p=>by
  have ih:=q30 g lf x1 x2 n;refine(qyi rfl (qbh 20 _) qxl q5o 1 [n+1] [n] rfl _).trans ((zdi g (Az17 g lf) lf x1 x2 n p).trans ?_);rw[(show (fun q=>Az17 g lf 1 [n] (qia x1 x2 q))=(fun q=>qms lf x1 x2 n q) from funext ih)];rfl
def Fz17(lf:Nat)(x1:(List (Int × ByteArray)))(x2:(List qaa)):Option qcn:=qtw lf x1 x2 (fun q=>qms lf x1 x2 lf q)
theorem zmj(g:gz17)(lf:Nat)(x1:(List (Int × ByteArray)))(x2:(List qaa)):Ez17 g (Az17 g lf) lf x1 x2=Fz17 lf x1 x2:=by
  refine(q8f g (Az17 g lf) lf x1 x2).trans ?_;rw[(show (fun q=>Az17 g lf 1 [lf] (qia x1 x2 q))=(fun q=>qms lf x1 x2 lf q) from funext fun q=>q30 g lf x1 x2 lf q)];rfl
theorem zbb:qbi Try.prog qsy:=trivial
theorem q7r{g:gz17}(hsm:SmOK Try.prog quz)(h0:∀(x:ElP [.ref (.mp (.int .i64) .str),.dat (.list qac)]) (y:qcn),g x=some y->∃(x1:(List (Int × ByteArray))) (x2:(List qaa)),x=(some x1,x2,()))(hg:∀(x1:(List (Int × ByteArray))) (x2:(List qaa)) (y:qcn),WfP [.ref (.mp (.int .i64) .str),.dat (.list qac)] (some x1,x2,())->g (some x1,x2,())=some y->∃lf,Fz17 lf x1 x2=some y):ConR Try.prog 53 ⟨[.ref (.mp (.int .i64) .str),.dat (.list qac)],[],g⟩ :=
 conTR (nmf:=qjd) (sml:=quz) (hxl:=qsy) (st:=qi9) (hd:=qvx) 20 mixed ttOK ftOK hsm zbb zah (by kernel_rfl) (fun x=>by kernel_rfl) qxl q5o fun x y z hx hy=>by
  obtain⟨x1,x2,rfl⟩:=h0 x (y,z) hy;obtain⟨lf,h⟩:=hg x1 x2 (y,z) hx hy;exact⟨lf,(zmj g lf x1 x2).trans h⟩
theorem zhu(m:List (Int × ByteArray))(l:List qaa)(hl:l.length<LF):Fz17 LF m l=some ((),(some (S.applied m l),())):=by
 simp only[Fz17,qtw];refine range0 (σ:=List (Int × ByteArray)) (R:=qcn) l (fun i m=>(i,m)) (fun _ _=>True) (fun rest _ m=>some ((),(some (S.applied m rest),()))) hl (fun K m _=>?_) (fun K i v rest m _ r hk=>?_) m trivial
 ·simp only[qpd,qc5,jah];rfl
 ·simp only[qpd,r.ilt,r.get,r.next,jab];show _=some ((),(some (S.applied (cond v.2.2 (mdel (vc:=.str) (.int .i64) v.1 m) (mset (vc:=.str) (.int .i64) v.1 v.2.1 m)) rest),()));cases v.2.2 with
  | true=>exact hk _ trivial
  | false=>exact hk _ trivial
theorem q8l:ConR Try.prog zbz qpk:=q7r trivial (fun x y h=>by
 obtain⟨m,l,_⟩:=x;cases m with
 | none=>cases h
 | some m=>exact⟨m,l,rfl⟩) fun m l y hx h=>⟨LF,(zhu m l (qdv (c:=qac) hx.2.1)).trans h⟩
theorem zlp(l:List ByteArray):match S.readR l with
  | some x=>S.readK l=(x.1,(x.2:Int),false)
  | none=>(S.readK l).2.2=true:=by
 unfold S.readR S.readK;by_cases hc:¬(qab (l.getD 0 S.none_)).getD 0 0=1\/l.length<S.recM (qab (l.getD 0 S.none_))
 ·rw[jam hc,jam hc]
 ·rw[jao hc,jao hc];cases S.changes (S.recN (qab (l.getD 0 S.none_))+1) ((((l.take (S.recM (qab (l.getD 0 S.none_)))).flatMap qab).drop 4).take (S.recN (qab (l.getD 0 S.none_)))) (-1) with
  | none=>rfl
  | some c =>
   simp only;cases hz:(((l.take (S.recM (qab (l.getD 0 S.none_)))).flatMap qab).drop (4+S.recN (qab (l.getD 0 S.none_)))).all fun b=>decide (b=0) with
   | true=>rfl
   | false=>rfl
abbrev StO:Type:=(List KV × Unit) × (Int × Unit) × (Bool × Unit) × (Bool × Unit) × Unit
def stO(m:List KV)(u:Int)(first torn:Bool):StO:=((m,()),((u,()),((first,()),((torn,()),()))))
def qgk(v5:StO)(v6:qfo):Option (StO × Bool):=(cond v6.2.2 (some (((v5.1.1,()),((v5.2.1.1,()),((v5.2.2.1.1,()),((true,()),())))),true)) (cond v5.2.2.1.1 (match (idxO (fun v7:qaa=>(some v7.2.2)) v6.1 0) with|none=>none|some v8=>(cond (Bool.not (iltI v8 (Int.ofNat 0))) (some (((v5.1.1,()),((v5.2.1.1,()),((v5.2.2.1.1,()),((true,()),())))),true)) (some ((((S.applied v5.1.1 v6.1),()),(((IntKind.i64.wrap (Int.add v5.2.1.1 v6.2.1)),()),((false,()),((v5.2.2.2.1.1,()),())))),false)))) (some ((((S.applied v5.1.1 v6.1),()),(((IntKind.i64.wrap (Int.add v5.2.1.1 v6.2.1)),()),((false,()),((v5.2.2.2.1.1,()),())))),false))))
theorem q70(m:List KV)(u:Int)(first torn:Bool){r:qfo}(h:r.2.2=true):qgk (stO m u first torn) r=some (stO m u first true,true):=by
 unfold qgk;rw[h];rfl
theorem zge(m:List KV)(u v:Nat)(first torn:Bool)(c:List qaa)(h:u+v<=100000):qgk (stO m u first torn) (c,(v:Int),false)=if first=true/\(c.any (·.2.2))=true then some (stO m u first true,true) else some (stO (S.applied m c) ((u+v:Nat):Int) false torn,false):=by
 unfold qgk stO;simp only[jah];have e1:IntKind.i64.wrap (Int.add (u:Int) (v:Int))=((u+v:Nat):Int):=qbv (n:=u+v) (by omega);have e2:idxO (fun v7:qaa=>(some v7.2.2)) c 0=some (Go.Jx.S.idx (·.2.2) c):=qov (fun v:qaa=>v.2.2) fun x _=>rfl;cases first with
 | false =>
  rw[jah,jao (by simp),e1]
 | true =>
  rw[jab,e2];simp only;rw[qnk];cases c.any (·.2.2) with
  | true=>rw[jab,jam (by simp)]
  | false=>rw[jah,jao (by simp),e1]
theorem qt2{D α:Type}{g:D->α->Option (D × Bool)}{x:α}{xs:List α}{d d':D}{b:Bool}(h:g d x=some (d',b)):qcy g (x::xs) d=cond b (some (d',true)) (qcy g xs d'):=by
 simp only[qcy,h]
theorem zkp:∀(k:Nat) (l:List ByteArray) (f:Nat) (m:List KV) (u:Nat),l.length=k->l.length<f->szS l->S.mapG m=true->u+l.length<=1000 ->
  match S.recs f l (S.listed m) u with
  | none=>∃m' u' first,qcy qgk (S.recsK l) (stO m u (decide (u=0)) false)=some (stO m' u' first true,true)
  | some (c',u')=>∃m',qcy qgk (S.recsK l) (stO m u (decide (u=0)) false)=some (stO m' u' (decide (u'=0)) false,false)/\S.mapG m'=true/\c'=S.listed m':=by
 intro k;induction k using Nat.strongRecOn with
 | ind k ih =>
  intro l f m u hk hf hs hG hu;cases f with
  | zero=>omega
  | succ f =>
   cases l with
   | nil=>exact⟨m,rfl,hG,rfl⟩
   | cons s r =>
    rw[qfa,qsj];by_cases h0:(qab s).getD 0 0=0
    ·rw[jam h0,jam h0];exact⟨m,rfl,hG,rfl⟩
    ·rw[jao h0,jao h0];have hRK:=zlp (s::r);cases hx:S.readR (s::r) with
     | none =>
      rw[hx] at hRK;refine⟨m,u,decide (u=0),?_⟩;exact qt2 (q70 m u (decide (u=0)) false hRK)
     | some x =>
      rw[hx] at hRK;obtain⟨i1,i2,i3,_,_,_⟩:=qqm hs hx;have hRK:S.readK (s::r)=(x.1,(x.2:Int),false):=hRK;rw[hRK];simp only[jah,jbs];have hst:=zge m u x.2 (decide (u=0)) false x.1 (by omega);cases hq:(decide (u=0)&&x.1.any (·.2.2)) with
      | true =>
       rw[jab];have hq2:=(jae _ _).mp hq;rw[jam ⟨hq2.1,hq2.2⟩] at hst;exact⟨m,u,decide (u=0),qt2 hst⟩
      | false =>
       rw[jao (fun hh=>by rw[hh.1,hh.2] at hq;cases hq)] at hst;rw[jah];obtain⟨a1,a2⟩:=q0s (l:=x.1) hG i3;have hd:((s::r).drop x.2).length=(s::r).length-x.2:=ja7;have:=ih (((s::r).drop x.2).length) (by rw[hd];omega) ((s::r).drop x.2) f (S.applied m x.1) (u+x.2) rfl (by rw[hd];omega) (hs.drop x.2) a1 (by rw[hd];omega);rw[a2] at this;have hu0:decide (u+x.2=0)=false:=jat (by omega);rw[hu0] at this;rw[qt2 hst,jah];exact this
theorem zi5(d:qah)(h:S.okL d=true):qpg LF d=some ((S.openedJ d).1,(S.openedJ d).2,()):=by
 unfold S.okL at h;simp only[jae,jcd] at h;obtain⟨h1,h2,h3⟩:=h;have h2:=jak h2;obtain⟨hle,hsz⟩:=qk8 h1;simp only[qpg,q63];have hs64:=hsz _ (qeh (i:=0) (show 0<d.1.length by omega));obtain⟨b0,b1,b2,b3,r,hb⟩:=q6h hs64;have hrb:rng (b0::b1::b2::b3::r):=hb▸qdq _;have hb0:=hrb b0 (by simp);have hszl:(d.1.getD 0 S.none_).size=(b0::b1::b2::b3::r).length:=by rw[<- qct,hb]
 have l1:lchk (Int.ofNat 1) (Int.ofNat (d.1.getD 0 S.none_).size) (Int.ofNat (d.1.getD 0 S.none_).size) (Int.ofNat (d.1.getD 0 S.none_).size)=true:=by rw[hs64];rfl
 have hext:ByteArray.extract (d.1.getD 0 S.none_) 1 (Int.toNat (Int.ofNat (d.1.getD 0 S.none_).size))=qae (b1::b2::b3::r):=by
  show ByteArray.extract (d.1.getD 0 S.none_) 1 (d.1.getD 0 S.none_).size=_;rw[hszl,<- qfm (d.1.getD 0 S.none_),hb];exact qlf hrb 1
 have hr1:rng (b1::b2::b3::r):=fun x hx=>hrb x (jba _ hx);simp only[qpv (d:=S.none_) (show 1<=d.1.length by omega),hb,qc1,jap,l1,hext,jab];simp only[q3y,za0,qbr hr1,qbr (qgn 63)];unfold S.openedJ S.opened;rw[hb];simp only[jff];by_cases q1:1<b0
 ·rw[qex (show Int.ofNat 1<b0 from q1),jab,jam (.inl q1)];rfl
 rw[qfb (show ¬Int.ofNat 1<b0 from q1),jah];by_cases q2:(b1::b2::b3::r)=List.replicate 63 0
 ·rw[jan q2,jbb,jah,jao (fun hh=>hh.elim q1 (fun hh=>hh q2))];rw[show S.inI (Int.ofNat d.1.length) (Int.ofNat 0) (Int.ofNat 1000)=true from by
   unfold S.inI;rw[jan (show Int.ofNat 0<=Int.ofNat d.1.length from jb2 _),jan (show Int.ofNat d.1.length<=Int.ofNat 1000 by show ((d.1.length:Nat):Int)<=1000;omega)];rfl,jab,wrap_in (n:=b0) (by omega)]
  simp only;obtain⟨a,e1,e2,e3,_,_⟩:=qep h3 h2 (h:=b0) (by omega);unfold S.halfS;have ehalf:S.half (Int.toNat (Int.ofNat d.1.length)) b0=S.half d.1.length b0:=rfl;rw[ehalf,e1];simp only[jbs];have hlc:lchk (a:Int) ((a+(d.1.length / 2-1):Nat):Int) ((a+(d.1.length / 2-1):Nat):Int) (Int.ofNat d.1.length)=true:=qb1.2 ⟨by omega,by omega,jbt _,by show ((a+(d.1.length / 2-1):Nat):Int)<=((d.1.length:Nat):Int);omega⟩;rw[hlc,jab];have hsub:lsub d.1 (a:Int) ((a+(d.1.length / 2-1):Nat):Int)=(d.1.take (a+(d.1.length / 2-1))).drop a:=by
   unfold lsub;rw[jbs,jbs]
  rw[hsub];have hsz2:szS ((d.1.take (a+(d.1.length / 2-1))).drop a):=fun s hs=>hsz s (jb4 (jdy hs));have hlen2:((d.1.take (a+(d.1.length / 2-1))).drop a).length<=d.1.length:=by rw[ja7,jbc];omega
  have hsec2:S.secs ((d.1.take (a+(d.1.length / 2-1))).drop a)=true:=by
   refine qvz ?_ _;unfold S.secs S.anyShort;rw[jae];refine⟨jay (by rw[jbc];omega),?_⟩;rw[jcm,jdo];intro s hs;have:=hsz s (jb4 hs);unfold S.short;simp[this]
  rw[hsec2];generalize (d.1.take (a+(d.1.length / 2-1))).drop a=H at hsz2 hlen2 hsec2;have hfold:=zkp H.length H (d.1.length+1) [] 0 rfl (by omega) hsz2 rfl (by omega);have hst:((([]:List KV),()),(((Int.ofNat 0:Int),()),((true,()),((false,()),()))))=stO [] (0:Nat) (decide ((0:Nat)=0)) false:=rfl
  show (match qcy qgk (S.recsK H) (stO [] (0:Nat) (decide ((0:Nat)=0)) false) with
   | none=>none
   | some v9=>_)=_
  have hl0:S.listed []=[]:=rfl;rw[hl0] at hfold;cases hrec:S.recs (d.1.length+1) H [] 0 with
  | none =>
   rw[hrec] at hfold;obtain⟨m',u',first,hfo⟩:=hfold;rw[hfo];rfl
  | some x =>
   obtain⟨c,u⟩:=x;rw[hrec] at hfold;obtain⟨m',hfo,hG,rfl⟩:=hfold;rw[hfo];simp only[stO];by_cases hu:u=0
   ·rw[jam hu,jan hu];rfl
   ·rw[jao hu,jat hu];simp only[jah];rw[hG];simp only[jab]
 ·rw[jat q2,ja6,jab,jam (.inr q2)];rfl
theorem q29:Con Try.prog 25 qgd:=zlu ⟨qn1,qlj,qoi,trivial⟩ q8l zat fun x y hx h=>⟨LF,by
 obtain⟨h1,h2⟩:=qbb (show cond (S.okL x.1) (some ((S.openedJ x.1).1,(S.openedJ x.1).2,())) none=some y from h);exact(zi5 x.1 h1).trans (jas some h2)⟩
theorem zo3:Con Try.prog 8 qxx:=qdw (q1g qzc q29) fun x y h=>ifO (qk6 _) h
abbrev qo0:Type:=Bool × Unit
abbrev zne:Nat:=3
def q2x(lf:Nat)(x1:Int)(x2:(List (List qax)))(x3:Int)(x4:(List Int)):Option qo0:=(cond (Bool.not (S.brief x2)) (some (true,())) (cond (iltI (Int.ofNat 200) (Int.ofNat x4.length)) (some (true,())) (match (S.playedO x1 x2) with|none=>none|some v0=>(cond (Bool.not v0.2.1) (some (false,())) (match (S.planTurnO ((v0.1.1.1,v0.1.1.2),(v0.1.2.1,(v0.1.2.2.1,v0.1.2.2.2)))) with|none=>none|some v1=>(cond (Bool.not (ieqI v1.2.1 (Int.ofNat 0))) (some ((ieqI v1.2.1 (Int.ofNat 14)),())) (cond (ieqI (IntKind.i64.wrap (Int.ofNat (Nat.add v1.1.length 1))) (Int.ofNat 0)) none (match (S.cutO (v0.1.1.1,v0.1.1.2) v1.1 (Int.tmod (IntKind.i64.wrap x3) (IntKind.i64.wrap (Int.ofNat (Nat.add v1.1.length 1)))) x4) with|none=>none|some v2=>(match (S.openO (v2.1.1,v2.1.2)) with|none=>none|some v3=>(cond (Bool.not v2.2.1) (some (false,())) (cond (Bool.not (ieqI v3.2.1 (Int.ofNat 0))) (some (false,())) (match (S.turnO ((v3.1.1.1,v3.1.1.2),(v3.1.2.1,(v3.1.2.2.1,v3.1.2.2.2)))) with|none=>none|some v4=>(cond (S.sameC v3.1.2.2.2 v0.1.2.2.2) (cond (S.sameC v4.1.2.2.2 v0.1.2.2.2) (some ((ieqI v4.2.1 (Int.ofNat 0)),())) (some (false,()))) (some (false,())))))))))))))))
def qn2(lf:Nat)(x1:Int)(x2:(List (List qax)))(x3:Int)(x4:(List Int)):Option qo0:=q2x lf x1 x2 x3 x4
theorem zhh{g:ElA [(.int .u8),(.list (.list cCosignerlaw23Change)),(.int .u16),(.list (.int .u8))]->Option qo0}(hsm:SmOK Try.prog [(5,q2k),(6,qxm),(7,q06),(8,qxx),(9,qx5),(10,q7c),(11,q0u),(12,spz9)])(hg:∀(x:ElA [(.int .u8),(.list (.list cCosignerlaw23Change)),(.int .u16),(.list (.int .u8))]) (y:qo0),WfA [(.int .u8),(.list (.list cCosignerlaw23Change)),(.int .u16),(.list (.int .u8))] x->g x=some y->∃lf,qn2 lf x.1 x.2.1 x.2.2.1 x.2.2.2.1=some y):Con Try.prog 3 ⟨[(.int .u8),(.list (.list cCosignerlaw23Change)),(.int .u16),(.list (.int .u8))],[(false,.bool)],g⟩ :=
 conU (fi:=fi3) (hxl:=[]) (fun lf x=>qn2 lf x.1 x.2.1 x.2.2.1 x.2.2.2.1) cm3 cal3 trivial hsm hg
def zjl:Sm:=⟨[.int .u8,.list (.list cChg),.int .u16,.list (.int .u8)],[(false,.bool)],fun _=>some (true,())⟩
theorem zh0(d:qah):S.openO d=some ((S.open_ d).1,(S.open_ d).2,()):=by unfold S.openO;rw[q0e,jab]
theorem zf0(j:qad):S.turnO j=some ((S.turnJ j).1,(S.turnJ j).2,()):=by unfold S.turnO;rw[qk6,jab]
theorem zow(j:qad):S.planTurnO j=some ((S.planTurn j).1,(S.planTurn j).2,()):=by unfold S.planTurnO;rw[qk6,jab]
theorem zik{s:Int}{l:List (List DChg)}(hb:S.brief l=true):S.playedO s l=some (S.played s l,true,()):=by
 unfold S.playedO;rw[hb,jab]
theorem zet{n:Nat}{l:Nat}(h:iltI (Int.ofNat n) (Int.ofNat l)=false):l<=n:=by
 rw[qbc] at h;have:=jdv h;simp at this;omega
theorem modN{x:Int}{k:Nat}(hx:0<=x/\x<=65535)(hk:k<=100000):Int.tmod (IntKind.i64.wrap x) (IntKind.i64.wrap (Int.ofNat (Nat.add k 1)))=((x.toNat % (k+1):Nat):Int)/\ieqI (IntKind.i64.wrap (Int.ofNat (Nat.add k 1))) (Int.ofNat 0)=false:=by
 have h1:IntKind.i64.wrap (Int.ofNat (Nat.add k 1))=((k+1:Nat):Int):=qbv (by show k+1<_;omega);rw[h1,wrap_in (by omega)];refine⟨?_,qbn (by intro e;have:k+1=0:=jc5 e;omega)⟩;have h2:x=((x.toNat:Nat):Int):=by omega
 rw[h2];exact(jdf (by omega)).trans (by rw[<- h2];exact(jas (fun z:Int=>z % ((k+1:Nat):Int)) h2).trans (Int.natCast_emod _ _).symm)
theorem q9s{L:List ByteArray}{h:Int}{b:Nat}{c:List qaa}:(turA L h b c).length=L.length / 2-1+(S.packed c 0).length+6:=by
 unfold turA;simp only[jag,qdj,ja5,jar,jaw];omega
theorem zbs{L:List ByteArray}{h:Int}{a u:Nat}{c:List qaa}(j:Jn L h a u c)(hr:(S.packed c 1).length<=L.length / 2-1){b:Nat}(hb:S.half L.length (1-h)=((b:Int),((b+(L.length / 2-1):Nat):Int))){x:Int}(hx:0<=x/\x<=65535){kept:List Int}(hk:kept.length<=200) :
  ∃L1 h1 a1 u1,S.cutO (L,[]) (turA L (1-h) b c) (Int.tmod (IntKind.i64.wrap x) (IntKind.i64.wrap (Int.ofNat (Nat.add (turA L (1-h) b c).length 1)))) kept=some ((L1,[]),true,())/\ieqI (IntKind.i64.wrap (Int.ofNat (Nat.add (turA L (1-h) b c).length 1))) (Int.ofNat 0)=false/\L1.length=L.length/\Jn L1 h1 a1 u1 c:=by
 have e1:(S.packed c 0).length=(S.packed c 1).length:=by rw[qbq,qbq]
 have hle:=j.dk.le;obtain⟨m1,m2⟩:=modN hx (k:=(turA L (1-h) b c).length) (by rw[q9s];omega);obtain⟨L1,c1,c2,c3,h1,a1,u1,c4⟩:=zm2 j hr hb (n:=x.toNat % ((turA L (1-h) b c).length+1)) (by have:=jcy x.toNat (show 0<(turA L (1-h) b c).length+1 by omega);omega) kept;rw[m1];refine⟨L1,h1,a1,u1,?_,m2,c3,c4⟩;unfold S.cutO;rw[c2,jay hk,c1];rfl
theorem zmw(lf:Nat)(s:Int)(l:List (List DChg))(many:Int)(kept:List Int)(hs:0<=s/\s<=255)(hl:∀x∈l,chgB x)(hm:0<=many/\many<=65535):qn2 lf s l many kept=some (true,()):=by
 have sc:∀z:List qaa,S.sameC z z=true:=fun z=>jan rfl;have i0:ieqI (0:Int) (Int.ofNat 0)=true:=rfl;unfold qn2 q2x;cases hbr:S.brief l with
 | false=>rfl
 | true =>
  rw[jbb,jah];cases h1:iltI (Int.ofNat 200) (Int.ofNat kept.length) with
  | true=>rfl
  | false =>
   have hk:=zet h1;obtain⟨L,h,a,u,c,hj,j⟩:=zlt hs fun x hx=>qzf (hl x hx);rw[jah,zik hbr,hj];dsimp only;rw[jbb,jah,zow];dsimp only;by_cases ht:(S.packed c 1).length<=L.length / 2-1
   ·obtain⟨b,_,e,_,_,hb⟩:=qqd j ht;obtain⟨L1,h1,a1,u1,c1,c2,c3,c4⟩:=zbs j ht hb hm hk;obtain⟨b2,t1,_⟩:=qqd c4 (by rw[c3];exact ht);rw[e];dsimp only;rw[i0,jbb,jah,c2,jah,c1];dsimp only;rw[zh0,c4.opened_];dsimp only;rw[jbb,jah,i0,jbb,jah,zf0,t1];dsimp only;rw[sc,i0];rfl
   ·rw[(q1p j ht).1];rfl
theorem cont_l_KeepTurnSafe:Con Try.prog zne zjl:=by
 have hR:=qzc;have hO:=q29;exact zhh ⟨zil hR hO,zjp,zcj hR hO,zo3,zba,zma hO,q9v hR hO,zn0,trivial⟩ fun x y hx h=>⟨0,(zmw 0 x.1 x.2.1 x.2.2.1 x.2.2.2.1 (qf2 (k:=.u8) hx.1) (fun z hz=>qsq (hx.2.1.2 z hz)) (qf2 (k:=.u16) hx.2.2.1)).trans h⟩
end Go.Proofs.Ytnhmanoiolfapaa
end
