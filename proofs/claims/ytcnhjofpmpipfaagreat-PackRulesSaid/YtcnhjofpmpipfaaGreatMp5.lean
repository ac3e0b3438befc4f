/- Texts: Rg4, Rp6, Rp7, Qg4, Lw1, Qp5, Rpo, Rsv, Rpq, Lw2, Lw4, Rlw, Jdx, Rpl, Rg, Tk1, Rpm, Tk2, Rpn, Lpp, Lsan, Lsn, Lnp. -/
import Derived.Test.YtcnhjofpmpipfaaGreatMp4
import Derived.Test.YtcnhjofpmpipfaaGreatMp2
import Derived.Test.YtcnhjofpmpipfaaGreatMp3
import Derived.Test.YtcnhjofpmpipfaaGreatMp1
import Derived.OrdersHeld
import Derived.KernelRfl
set_option linter.unusedVariables false
noncomputable section
set_option maxRecDepth 100000
namespace Go.Proofs.YtcnhjofpmpipfaaGreat
open Go Go.Sx Go.RowKit Go.Jx
def qlm:Nat->Option Nm:=fun k=>cond (Nat.beq k 4) (some ⟨[0,1,2,7],[],[],[],[],0,0,false⟩) (cond (Nat.beq k 11) (some ⟨[0,1,2,8],[],[],[],[],0,0,false⟩) (cond (Nat.beq k 16) (some ⟨[0,1,2,9],[],[],[],[],0,0,false⟩) (cond (Nat.beq k 23) (some ⟨[0,1,2,9,10,11,12],[],[],[],[],0,0,false⟩) (none))))
def qjg:Nat->Bool:=fun k=>cond (Nat.beq k 4) true (cond (Nat.beq k 11) true (cond (Nat.beq k 16) true (cond (Nat.beq k 23) true (false))))
def q6j:=qjg
abbrev qa4:Type:=Int × Unit
def q28:List (Nat × Sm):=[(40,spz9),(41,qu3),(55,q5w)]
def q5m:List (Nat × Hx):=[]
def qu9(R:Type)(lf:Nat):ClK R:=qa3 Tryz.prog ttT.get ftT.get (nm1 48 qlm) (smL q28) (hxL q5m) lf 20 R
abbrev zcc:Nat:=48
def qho(x1:(List qab))(x2:(List qab))(x3:(List qaa))(p:Int):NRes:=(NRes.mk (.node (some (IV.lst cForm x1)) (.node (some (IV.lst cForm x2)) (.node none (.node (some (IV.int .i64 p)) .leaf .leaf) .leaf) .leaf) (.node (some (IV.lst cRule x3)) .leaf .leaf)) (IS.mk .leaf 0) [] 0)
def qgj(x1:(List qab))(x2:(List qab))(x3:(List qaa))(p:Int):NRes:=(NRes.mk (.node (some (IV.lst cForm x1)) (.node (some (IV.lst cForm x2)) .leaf .leaf) (.node (some (IV.lst cRule x3)) (.node none (.node (some (IV.int .i64 p)) .leaf .leaf) .leaf) .leaf)) (IS.mk .leaf 0) [] 0)
def qd1(x1:(List qab))(x2:(List qab))(x3:(List qaa))(p:Int):NRes:=(NRes.mk (.node (some (IV.lst cForm x1)) (.node (some (IV.lst cForm x2)) .leaf (.node none (.node (some (IV.int .i64 p)) .leaf .leaf) .leaf)) (.node (some (IV.lst cRule x3)) .leaf .leaf)) (IS.mk .leaf 0) [] 0)
def qgm(x1:(List qab))(x2:(List qab))(x3:(List qaa))(p:(List DCol) × ByteArray × (List DCol) × ByteArray × Int × Int):NRes:=(NRes.mk (.node (some (IV.lst cForm x1)) (.node (some (IV.lst cForm x2)) (.node none .leaf (.node (some (IV.ptr 1 0)) .leaf .leaf)) (.node none (.node (some (IV.int .i64 p.2.2.2.2.2)) .leaf .leaf) .leaf)) (.node (some (IV.lst cRule x3)) (.node none .leaf (.node (some (IV.int .i64 p.2.2.2.2.1)) .leaf .leaf)) (.node none (.node (some (IV.ptr 0 0)) .leaf .leaf) .leaf))) (IS.mk (.node (some (IObj.row (List.cons (IV.str p.2.1) [(IV.lst cCol p.2.2.1)]))) (.node (some (IObj.row (List.cons (IV.str p.2.2.2.1) [(IV.lst cCol p.1)]))) .leaf .leaf) .leaf) 2) [] 0)
def qt4(lf:Nat)(x1:(List qab))(x2:(List qab))(x3:(List qaa))(L4:Int->Option qa4):Option qa4:=(cond (iltI (Int.ofNat 24) (Int.ofNat x3.length)) (some ((Int.ofNat 3),())) (L4 (Int.ofNat 0)))
def qoi(lf:Nat)(x1:(List qab))(x2:(List qab))(x3:(List qaa))(L4:Int->Option qa4)(L11:Int->Option qa4)(p:Int):Option qa4:=(cond (iltI p (Int.ofNat x3.length)) (match (jget x3 p) with|none=>none|some v0=>(cond (iltI (S.form x1 v0.1) (Int.ofNat 0)) (some ((Int.ofNat 4),())) (match (jget x3 p) with|none=>none|some v1=>(cond (iltI (S.form x2 v1.2.1) (Int.ofNat 0)) (some ((Int.ofNat 4),())) (match (jget x3 p) with|none=>none|some v2=>(cond (iltI (S.idx (fun v3=>(keqS v3.1 v2.1)) x3) p) (some ((Int.ofNat 6),())) (L4 (IntKind.i64.wrap (Int.add p (Int.ofNat 1)))))))))) (L11 (Int.ofNat 0)))
def qpt(lf:Nat)(x1:(List qab))(x2:(List qab))(x3:(List qaa))(L11:Int->Option qa4)(L16:Int->Option qa4)(p:Int):Option qa4:=(cond (iltI p (Int.ofNat x1.length)) (match (jget x1 p) with|none=>none|some v0=>(cond (iltI (S.idx (fun v1=>(keqS v1.1 v0.1)) x3) (Int.ofNat 0)) (some ((Int.ofNat 5),())) (L11 (IntKind.i64.wrap (Int.add p (Int.ofNat 1)))))) (L16 (Int.ofNat 0)))
def qow(lf:Nat)(x1:(List qab))(x2:(List qab))(x3:(List qaa))(L23:((List DCol) × ByteArray × (List DCol) × ByteArray × Int × Int)->Option qa4)(p:Int):Option qa4:=(cond (iltI p (Int.ofNat x3.length)) (match (jget x3 p) with|none=>none|some v0=>(match (jget x1 (S.form x1 v0.1)) with|none=>none|some v1=>(match (jget x3 p) with|none=>none|some v2=>(match (jget x2 (S.form x2 v2.2.1)) with|none=>none|some v3=>(match (jget x3 p) with|none=>none|some v4=>(cond (Bool.not (ieqI (Int.ofNat v4.2.2.length) (Int.ofNat v3.2.length))) (some ((Int.ofNat 2),())) (L23 (v3.2,v1.1,v1.2,v3.1,(Int.ofNat 0),p)))))))) (some ((Int.ofNat 0),())))
def qpc(lf:Nat)(x1:(List qab))(x2:(List qab))(x3:(List qaa))(L23:((List DCol) × ByteArray × (List DCol) × ByteArray × Int × Int)->Option qa4)(L16:Int->Option qa4)(p:(List DCol) × ByteArray × (List DCol) × ByteArray × Int × Int):Option qa4:=(cond (iltI p.2.2.2.2.1 (Int.ofNat p.1.length)) (match (jget x3 p.2.2.2.2.2) with|none=>none|some v0=>(match (jget v0.2.2 p.2.2.2.2.1) with|none=>none|some v1=>(match (jget p.1 p.2.2.2.2.1) with|none=>none|some v2=>(cond (Bool.not (ieqI (S.rgive x3 (v1.1,(v1.2.1,v1.2.2)) p.2.2.1 (v2.1,(v2.2.1,v2.2.2))) (Int.ofNat 0))) (some ((S.rgive x3 (v1.1,(v1.2.1,v1.2.2)) p.2.2.1 (v2.1,(v2.2.1,v2.2.2))),())) (L23 (p.1,p.2.1,p.2.2.1,p.2.2.2.1,(IntKind.i64.wrap (Int.add p.2.2.2.2.1 (Int.ofNat 1))),p.2.2.2.2.2)))))) (L16 (IntKind.i64.wrap (Int.add p.2.2.2.2.2 (Int.ofNat 1)))))
abbrev gz21:Type:=ElA [(.list cForm),(.list cForm),(.list cRule)]->Option qa4
abbrev sz21(g:gz21):Sm:=⟨[(.list cForm),(.list cForm),(.list cRule)],[(false,(.int .i64))],g⟩
abbrev Ez21(g:gz21)(J:JT qa4)(lf:Nat)(x1:(List qab))(x2:(List qab))(x3:(List qaa)):=qbc Tryz.prog ttT.get qlm fi48.nt (qu9 _ lf) lf qjg J fi48.body [] (qay (argV [(.list cForm),(.list cForm),(.list cRule)] (x1,x2,x3,())) 0 .leaf) S0 [] (qao ttT.get fi48 (sz21 g))
abbrev Bz21(g:gz21)(J:JT qa4)(lf k:Nat)(ms:List Nat)(q:NRes):=qbj Tryz.prog ttT.get qlm fi48.nt (qu9 _ lf) lf qjg J k fi48.body [] ms q (qao ttT.get fi48 (sz21 g))
theorem zef(g:gz21)(J:JT qa4)(lf:Nat)(x1:(List qab))(x2:(List qab))(x3:(List qaa)):Ez21 g J lf x1 x2 x3=qt4 lf x1 x2 x3 (fun q=>J 4 [lf] (qho x1 x2 x3 q)):=by kernel_rfl
theorem zcy(g:gz21)(J:JT qa4)(lf:Nat)(x1:(List qab))(x2:(List qab))(x3:(List qaa))(m1:Nat)(p:Int):Bz21 g J lf 4 [m1] (qho x1 x2 x3 p)=qoi lf x1 x2 x3 (fun q=>J 4 [m1] (qho x1 x2 x3 q)) (fun q=>J 11 [lf] (qgj x1 x2 x3 q)) p:=by kernel_rfl
theorem q91(g:gz21)(J:JT qa4)(lf:Nat)(x1:(List qab))(x2:(List qab))(x3:(List qaa))(m1:Nat)(p:Int):Bz21 g J lf 11 [m1] (qgj x1 x2 x3 p)=qpt lf x1 x2 x3 (fun q=>J 11 [m1] (qgj x1 x2 x3 q)) (fun q=>J 16 [lf] (qd1 x1 x2 x3 q)) p:=by kernel_rfl
theorem znb(g:gz21)(J:JT qa4)(lf:Nat)(x1:(List qab))(x2:(List qab))(x3:(List qaa))(m1:Nat)(p:Int):Bz21 g J lf 16 [m1] (qd1 x1 x2 x3 p)=qow lf x1 x2 x3 (fun q=>J 23 [m1,lf] (qgm x1 x2 x3 q)) p:=by kernel_rfl
theorem zjz(g:gz21)(J:JT qa4)(lf:Nat)(x1:(List qab))(x2:(List qab))(x3:(List qaa))(m1:Nat)(m2:Nat)(p:(List DCol) × ByteArray × (List DCol) × ByteArray × Int × Int):Bz21 g J lf 23 [m1,m2] (qgm x1 x2 x3 p)=qpc lf x1 x2 x3 (fun q=>J 23 [m1,m2] (qgm x1 x2 x3 q)) (fun q=>J 16 [m1] (qd1 x1 x2 x3 q)) p:=by kernel_rfl
theorem qkt:(regs fi48.body).Nodup:=by decide +kernel
theorem qlq:okC qlm qjg q6j fi48.body none=true:=by kernel_rfl
def Az21(g:gz21)(lf:Nat):JT qa4:=atN Tryz.prog ttT.get qlm fi48 (sz21 g) (qu9 _ lf) lf q6j
def qir(lf:Nat)(x1:(List qab))(x2:(List qab))(x3:(List qaa))(K16:Int->Option qa4):Nat->((List DCol) × ByteArray × (List DCol) × ByteArray × Int × Int)->Option qa4:=qas fun K p=>qpc lf x1 x2 x3 K K16 p
theorem qv2(g:gz21)(lf:Nat)(x1:(List qab))(x2:(List qab))(x3:(List qaa))(m1:Nat):∀(n:Nat) (p:(List DCol) × ByteArray × (List DCol) × ByteArray × Int × Int),Az21 g lf 23 [m1,n] (qgm x1 x2 x3 p)=qir lf x1 x2 x3 (fun q=>Az21 g lf 16 [m1] (qd1 x1 x2 x3 q)) n p
 | 0,p=>qax 23 [m1,0] rfl _
 | n+1,p=>by
  have ih:=qv2 g lf x1 x2 x3 m1 n;refine(qau (qaq 20 _) qkt qlq 23 [m1,n+1] [m1,n] rfl _).trans ((zjz g (Az21 g lf) lf x1 x2 x3 m1 n p).trans ?_);rw[(show (fun q=>Az21 g lf 23 [m1,n] (qgm x1 x2 x3 q))=(fun q=>qir lf x1 x2 x3 (fun q=>Az21 g lf 16 [m1] (qd1 x1 x2 x3 q)) n q) from funext ih)];rfl
def qma(lf:Nat)(x1:(List qab))(x2:(List qab))(x3:(List qaa)):Nat->(Int)->Option qa4:=qas fun K p=>qow lf x1 x2 x3 (fun q=>qir lf x1 x2 x3 K lf q) p
theorem qyz(g:gz21)(lf:Nat)(x1:(List qab))(x2:(List qab))(x3:(List qaa)):∀(n:Nat) (p:Int),Az21 g lf 16 [n] (qd1 x1 x2 x3 p)=qma lf x1 x2 x3 n p
 | 0,p=>qax 16 [0] rfl _
 | n+1,p=>by
  have ih:=qyz g lf x1 x2 x3 n;refine(qau (qaq 20 _) qkt qlq 16 [n+1] [n] rfl _).trans ((znb g (Az21 g lf) lf x1 x2 x3 n p).trans ?_);rw[(show (fun q=>Az21 g lf 23 [n,lf] (qgm x1 x2 x3 q))=(fun q=>qir lf x1 x2 x3 (fun q=>Az21 g lf 16 [n] (qd1 x1 x2 x3 q)) lf q) from funext fun q=>qv2 g lf x1 x2 x3 n lf q),(show (fun q=>Az21 g lf 16 [n] (qd1 x1 x2 x3 q))=(fun q=>qma lf x1 x2 x3 n q) from funext ih)];rfl
def qj6(lf:Nat)(x1:(List qab))(x2:(List qab))(x3:(List qaa)):Nat->(Int)->Option qa4:=qas fun K p=>qpt lf x1 x2 x3 K (fun q=>qma lf x1 x2 x3 lf q) p
theorem q15(g:gz21)(lf:Nat)(x1:(List qab))(x2:(List qab))(x3:(List qaa)):∀(n:Nat) (p:Int),Az21 g lf 11 [n] (qgj x1 x2 x3 p)=qj6 lf x1 x2 x3 n p
 | 0,p=>qax 11 [0] rfl _
 | n+1,p=>by
  have ih:=q15 g lf x1 x2 x3 n;refine(qau (qaq 20 _) qkt qlq 11 [n+1] [n] rfl _).trans ((q91 g (Az21 g lf) lf x1 x2 x3 n p).trans ?_);rw[(show (fun q=>Az21 g lf 16 [lf] (qd1 x1 x2 x3 q))=(fun q=>qma lf x1 x2 x3 lf q) from funext fun q=>qyz g lf x1 x2 x3 lf q),(show (fun q=>Az21 g lf 11 [n] (qgj x1 x2 x3 q))=(fun q=>qj6 lf x1 x2 x3 n q) from funext ih)];rfl
def qqo(lf:Nat)(x1:(List qab))(x2:(List qab))(x3:(List qaa)):Nat->(Int)->Option qa4:=qas fun K p=>qoi lf x1 x2 x3 K (fun q=>qj6 lf x1 x2 x3 lf q) p
theorem qyt(g:gz21)(lf:Nat)(x1:(List qab))(x2:(List qab))(x3:(List qaa)):∀(n:Nat) (p:Int),Az21 g lf 4 [n] (qho x1 x2 x3 p)=qqo lf x1 x2 x3 n p
 | 0,p=>qax 4 [0] rfl _
 | n+1,p=>by
  have ih:=qyt g lf x1 x2 x3 n;refine(qau (qaq 20 _) qkt qlq 4 [n+1] [n] rfl _).trans ((zcy g (Az21 g lf) lf x1 x2 x3 n p).trans ?_);rw[(show (fun q=>Az21 g lf 11 [lf] (qgj x1 x2 x3 q))=(fun q=>qj6 lf x1 x2 x3 lf q) from funext fun q=>q15 g lf x1 x2 x3 lf q),(show (fun q=>Az21 g lf 4 [n] (qho x1 x2 x3 q))=(fun q=>qqo lf x1 x2 x3 n q) from funext ih)];rfl
def Fz21(lf:Nat)(x1:(List qab))(x2:(List qab))(x3:(List qaa)):Option qa4:=qt4 lf x1 x2 x3 (fun q=>qqo lf x1 x2 x3 lf q)
theorem ze1(g:gz21)(lf:Nat)(x1:(List qab))(x2:(List qab))(x3:(List qaa)):Ez21 g (Az21 g lf) lf x1 x2 x3=Fz21 lf x1 x2 x3:=by
  refine(zef g (Az21 g lf) lf x1 x2 x3).trans ?_;rw[(show (fun q=>Az21 g lf 4 [lf] (qho x1 x2 x3 q))=(fun q=>qqo lf x1 x2 x3 lf q) from funext fun q=>qyt g lf x1 x2 x3 lf q)];rfl
theorem zh8:qbb Tryz.prog q5m:=trivial
theorem ziu{g:gz21}(hsm:SmOK Tryz.prog q28)(hg:∀(x:ElA [(.list cForm),(.list cForm),(.list cRule)]) (y:qa4),WfA [(.list cForm),(.list cForm),(.list cRule)] x->g x=some y->∃lf,Fz21 lf x.1 x.2.1 x.2.2.1=some y):Con Tryz.prog 48 ⟨[(.list cForm),(.list cForm),(.list cRule)],[(false,(.int .i64))],g⟩ :=
 conV (st:=qjg) (fun lf x=>Fz21 lf x.1 x.2.1 x.2.2.1) cm3 zax zh8 qkt qlq (fun lf x=>ze1 g lf x.1 x.2.1 x.2.2.1) hsm hg
abbrev qoc:Type:=Int × Unit
abbrev zqi:Nat:=22
def q7y(lf:Nat)(x1:(List qab))(x2:(List qab))(x3:(List qaa)):Option qoc:=(cond (ieqI (S.checkForms x1) (Int.ofNat 0)) (cond (Bool.not (ieqI (S.checkForms x2) (Int.ofNat 0))) (some ((S.checkForms x2),())) (match (cond (S.ruledPre x1 x2) (some ((S.checkRules0 x1 x2 x3),())) none) with|none=>none|some v0=>(some (v0.1,())))) (cond (Bool.not (ieqI (S.checkForms x1) (Int.ofNat 0))) (some ((S.checkForms x1),())) (match (cond (S.ruledPre x1 x2) (some ((S.checkRules0 x1 x2 x3),())) none) with|none=>none|some v1=>(some (v1.1,())))))
def qpl(lf:Nat)(x1:(List qab))(x2:(List qab))(x3:(List qaa)):Option qoc:=q7y lf x1 x2 x3
theorem zdi{g:ElA [(.list cForm),(.list cForm),(.list cRule)]->Option qoc}(hsm:SmOK Tryz.prog [(47,qrm),(48,qyk)])(hg:∀(x:ElA [(.list cForm),(.list cForm),(.list cRule)]) (y:qoc),WfA [(.list cForm),(.list cForm),(.list cRule)] x->g x=some y->∃lf,qpl lf x.1 x.2.1 x.2.2.1=some y):Con Tryz.prog 22 ⟨[(.list cForm),(.list cForm),(.list cRule)],[(false,(.int .i64))],g⟩ :=
 conU (fi:=fi22) (hxl:=[]) (fun lf x=>qpl lf x.1 x.2.1 x.2.2.1) cm3 q8s trivial hsm hg
theorem q6p(l:List qab):∀fs:List qab,S.cfGo2 l fs=0->∀f∈fs,S.cfIn l f.2=true
 | [],_=>fun f hf=>absurd hf (by simp)
 | f::r,h=>by
  rw[S.cfGo2] at h;by_cases hc:S.cfIn l f.2=true
  ·rw[jam hc] at h;intro x hx;rcases ja1.1 hx with e|e
   ·rw[e];exact hc
   ·exact q6p l r h x e
  ·rw[jak hc] at h;exact absurd h (by decide)
theorem qxj(l:List qab):∀(fs:List qab) (k:Nat),S.cfGo l k fs=0->(∀f∈fs,S.class_ f.1=true/\S.checkCols f.2=0)/\S.cfGo2 l l=0
 | [],k,h=>⟨fun f hf=>absurd hf (by simp),h⟩
 | f::r,k,h=>by
  rw[S.cfGo] at h;simp only[qvq,S.unlessE] at h;cases hcl:S.class_ f.1 with
  | false=>rw[hcl] at h;exact absurd h (by simp)
  | true =>
   rw[hcl,jab,jam (rfl:(0:Int)=0)] at h;cases hd:decide (S.form (l.take k) f.1<0) with
   | false=>rw[hd] at h;exact absurd h (by simp)
   | true =>
    rw[hd,jab,jam (rfl:(0:Int)=0)] at h;by_cases hk:S.checkCols f.2=0
    ·rw[jam hk] at h;have ih:=qxj l r (k+1) h;refine⟨fun x hx=>?_,ih.2⟩;rcases ja1.1 hx with e|e
     ·rw[e];exact⟨hcl,hk⟩
     ·exact ih.1 x e
    ·rw[jak hk] at h;exact absurd h hk
theorem qym{l:List qab}(h:S.checkForms l=0):(∀f∈l,S.class_ f.1=true/\S.checkCols f.2=0)/\∀f∈l,S.cfIn l f.2=true:=by
 unfold S.checkForms at h;by_cases h24:24<l.length
 ·rw[jam h24] at h;exact absurd h (by decide)
 ·rw[jak h24] at h;have:=qxj l l 0 h;exact⟨this.1,q6p l l this.2⟩
theorem q0i(l:List DCol):∀(cs:List DCol) (k:Nat),S.ccGo l k cs=0->∀c∈cs,S.within c.2.1 1 3=true
 | [],_,_=>fun c hc=>absurd hc (by simp)
 | c::r,k,h=>by
  rw[S.ccGo] at h;by_cases h1:S.small c.1=false
  ·rw[jam h1] at h;exact absurd h (by decide)
  rw[jak h1] at h;by_cases h2:¬S.col (l.take k) c.1<0
  ·rw[jam h2] at h;exact absurd h (by decide)
  rw[jak h2] at h;by_cases h3:S.within c.2.1 1 3=false
  ·rw[jam h3] at h;exact absurd h (by decide)
  rw[jak h3] at h;by_cases h4:¬c.2.1=3/\¬c.2.2=S.lit []
  ·rw[jam h4] at h;exact absurd h (by decide)
  rw[jak h4] at h;intro x hx;rcases ja1.1 hx with e|e
  ·rw[e];simpa using h3
  ·exact q0i l r (k+1) h x e
theorem zda{l:List DCol}(h:S.checkCols l=0):∀c∈l,S.within c.2.1 1 3=true:=by
 unfold S.checkCols at h;by_cases h30:30<l.length
 ·rw[jam h30] at h;exact absurd h (by decide)
 ·rw[jak h30] at h;exact q0i l l 0 h
theorem q68(l:List qab):∀cs:List DCol,S.cfIn l cs=true->∀c∈cs,c.2.1=3->c.2.2=S.ANY\/0<=S.form l c.2.2
 | [],_=>fun c hc=>absurd hc (by simp)
 | c::r,h=>by
  rw[S.cfIn] at h;by_cases hc:c.2.1=3/\¬c.2.2=S.ANY/\S.form l c.2.2<0
  ·rw[jam hc] at h;cases h
  ·rw[jak hc] at h;intro x hx h3;rcases ja1.1 hx with e|e
   ·rw[e] at h3 ⊢;by_cases hA:c.2.2=S.ANY
    ·exact .inl hA
    ·exact .inr (by have:¬S.form l c.2.2<0:=fun hh=>hc ⟨h3,hA,hh⟩;omega)
   ·exact q68 l r h x e h3
theorem zf1{s:ByteArray}(h:S.class_ s=true):¬s=S.ANY:=by
 intro e;rw[e] at h;exact absurd h (by decide +kernel)
theorem zn4{s:ByteArray}(h:S.class_ s=true):¬s=S.lit []:=by
 intro e;rw[e] at h;exact absurd h (by decide +kernel)
structure ColOK (b:DCol):Prop where
 kind:S.within b.2.1 1 3=true
 cls:b.2.1=3->¬b.2.2=S.lit []
theorem qwf{l:List qab}(h:S.checkForms l=0){f:qab}(hf:f∈l){c:DCol}(hc:c∈f.2):ColOK c:=by
 have hz:=qym h;refine⟨zda (hz.1 f hf).2 c hc,fun h3=>?_⟩;rcases q68 l f.2 (hz.2 f hf) c hc h3 with e|e
 ·rw[e];decide +kernel
 ·obtain⟨g,_,_,g3,g4⟩:=qcb e;rw[<- g4];exact zn4 (hz.1 g g3).1
theorem zdg{l:List qaa}(h1:∀r∈l,¬r.1=S.ANY){a b:DCol}(hb:¬b.2.2=S.lit []):S.rleads l a b=S.leads l a.2.2 b.2.2:=by
 unfold S.rleads S.leads;by_cases hA:b.2.2=S.ANY
 ·simp[hA]
 rw[jai hA,jdr,jdr];cases hr:(S.ruleOf l a.2.2).2 with
 | true =>
  have hm:=q2h hr;have hn:¬a.2.2=S.ANY:=fun e=>h1 _ hm.1 (hm.2.trans e);rw[jaj hn]
 | false =>
  have hz:(S.ruleOf l a.2.2).1=S.zRule:=by
   unfold S.ruleOf at hr ⊢;split at hr
   ·cases hr
   ·rfl
  rw[hz,je8];have:¬S.zRule.2.1=b.2.2:=fun e=>hb e.symm;rw[jai this,Bool.and_false]
theorem q69{l:List qaa}(h1:∀r∈l,¬r.1=S.ANY)(g:qac)(cols:List DCol){b:DCol}(hb:ColOK b):S.rgive l g cols b=S.give l g cols b:=by
 unfold S.rgive S.give S.fromOf S.sourced;by_cases h4:S.within g.2.1 1 5=true/\S.col cols g.1<0
 ·rw[jam h4,jam h4]
 rw[jak h4,jak h4];generalize hx:(if S.within g.2.1 1 5=true then S.at_ S.zCol cols (S.col cols g.1) else S.zCol)=x;have hk:=hb.kind;have hc:=hb.cls;have hle:b.2.1=3->S.rleads l x b=S.leads l x.2.2 b.2.2:=fun h3=>zdg h1 (hc h3);have hnum:(S.within g.2.1 1 7=false\/S.numbered g b=false)↔(S.within g.2.1 1 7=false\/(S.within g.2.1 1 5=false/\¬g.1=S.lit [])\/S.within g.2.2 (-S.most g) (S.most g)=false\/(g.2.1=6/\b.2.1=2/\S.within g.2.2 0 1=false)):=by
  by_cases h7:S.within g.2.1 1 7=false
  ·simp[h7]
  have h7':1<=g.2.1/\g.2.1<=7:=by
   simp only[S.within,jep,jci] at h7;omega
  simp only[h7,false_or];unfold S.numbered S.most;by_cases hn:g.1=S.lit []
  ·by_cases e4:g.2.1=4
   ·simp[e4,hn]
   by_cases e6:g.2.1=6
   ·by_cases hb2:b.2.1=2
    ·simp only[e6,hb2,hn,S.within,jb4];simp;omega
    ·simp[e6,hb2,hn]
   ·have hm:S.within g.2.2 0 0=decide (g.2.2=0):=by
     unfold S.within;rw[jbs];simp only[jaf,jax];omega
    by_cases e7:g.2.1=7<;>simp [e4,e6,e7,hn,hm]
  ·by_cases e4:g.2.1=4
   ·simp[e4,hn,S.within]
   by_cases e6:g.2.1=6
   ·by_cases hb2:b.2.1=2<;>simp [e6,hb2,hn,S.within]
   ·have hm:S.within g.2.2 0 0=decide (g.2.2=0):=by
     unfold S.within;rw[jbs];simp only[jaf,jax];omega
    by_cases e7:g.2.1=7
    ·simp[e7,hn,S.within]
    ·have h5:S.within g.2.1 1 5=true:=by
      simp only[S.within,jaf,jax];omega
     simp[e4,e6,e7,hn,hm,h5]
 by_cases hq:(S.within g.2.1 1 7=false\/S.numbered g b=false)
 ·rw[jam hq,jam (hnum.1 hq)]
 rw[jak hq,jak (fun h=>hq (hnum.2 h))];have hq':=fun h=>hq (hnum.2 h);have hfits:S.rfits l g x b=S.fits l g x b:=by
  unfold S.rfits S.fits;by_cases e1:g.2.1=1
  ·rw[jam e1,jam e1];by_cases ea:x.2.1=b.2.1
   ·by_cases eb:b.2.1=3
    ·rw[hle eb,ea]
    ·simp[ea,eb]
   ·simp[ea]
  rw[jak e1,jak e1];by_cases e2:g.2.1=2
  ·rw[jam e2,jam e2]
  rw[jak e2,jak e2];by_cases e3:g.2.1=3
  ·rw[jam e3,jam e3]
  rw[jak e3,jak e3];by_cases e4:g.2.1=4
  ·rw[jam e4,jam e4]
  rw[jak e4,jak e4];by_cases e5:g.2.1=5
  ·rw[jam e5,jam e5];by_cases eb:b.2.1=3
   ·rw[hle eb]
   ·simp[eb]
  rw[jak e5,jak e5];by_cases e6:g.2.1=6
  ·rw[jam e6,jam e6];have hk':1<=b.2.1/\b.2.1<=3:=by
    simpa only [S.within,jaf,jax] using hk
   by_cases eb:b.2.1=3
   ·simp[eb]
   by_cases eb1:b.2.1=1
   ·simp[eb1]
   have eb2:b.2.1=2:=by omega
   have hw:S.within g.2.2 0 1=true:=by
    cases hw:S.within g.2.2 0 1 with
    | true=>rfl
    | false=>exact absurd (.inr (.inr (.inr ⟨e6,eb2,hw⟩))) hq'
   simp[eb2,hw]
  ·rw[jak e6,jak e6]
 rw[hfits]
theorem qxo(l:List qaa)(n:ByteArray):(S.ruleOf l n).2=!decide (S.idx (fun r:qaa=>keqS r.1 n) l<0):=by
 unfold S.ruleOf;by_cases h:S.idx (fun r:qaa=>keqS r.1 n) l<0
 ·rw[S.idx_neg h,jaj h];rfl
 ·obtain⟨x,_,_,_,_,_,e⟩:=S.idx_get (p:=fun r:qaa=>keqS r.1 n) (l:=l) (by omega);rw[e,jai h];rfl
theorem znp(a b:List qab)(l:List qaa)(h1:∀r∈l,¬r.1=S.ANY)(K16:Int->Option qa4)(now was:List DCol)(na nb:ByteArray)(v:qaa)(gs:List qac)(hv:v.2.2=gs)(hg:gs.length<LF)(hlen:gs.length=now.length)(i:Nat)(hi:jget l (Int.ofNat i)=some v)(hok:∀c∈now,ColOK c) :
  qir LF a b l K16 LF (now,na,was,nb,Int.ofNat 0,Int.ofNat i)=(if S.crGives l was now gs=0 then K16 (IntKind.i64.wrap (Int.add (Int.ofNat i) (Int.ofNat 1))) else some (S.crGives l was now gs,())):=by
 refine range0 (σ:=Unit) (R:=qa4) (now.zip gs) (fun k _=>(now,na,was,nb,k,Int.ofNat i)) (fun _ _=>True) (fun rest k _=>if S.crGives l was (rest.map Prod.fst) (rest.map Prod.snd)=0 then K16 (IntKind.i64.wrap (Int.add (Int.ofNat i) (Int.ofNat 1))) else some (S.crGives l was (rest.map Prod.fst) (rest.map Prod.snd),())) (by rw[List.length_zip];omega) (fun K s _=>?_) (fun K k c rest s _ r h=>?_) () trivial |>.trans ?_
 ·have e:(now.zip gs).length=now.length:=by rw[List.length_zip];omega
  simp only[qpc,e,qaw,jae,List.map_nil,S.crGives,jb4]
 ·have e:(now.zip gs).length=now.length:=by rw[List.length_zip];omega
  have h:=h () trivial;have hk:=r.get?;have hz:=List.getElem?_zip_eq_some.1 hk;have hc:jget now (Int.ofNat k)=some c.1:=qbw.trans hz.1;have hgk:jget v.2.2 (Int.ofNat k)=some c.2:=by rw[hv];exact qbw.trans hz.2
  have hilt:=r.ilt;rw[e] at hilt;simp only[qpc,hilt,jab,hi,hgk,hc,jfe,r.next,h,jcc,S.crGives];rw[q69 h1 c.2 was (hok c.1 (jbr hz.1)),qrf];by_cases h0:S.give l c.2 was c.1=0
  ·rw[jai (by simpa using h0),jae,jam h0]
  ·rw[jaj h0,jab,jak h0,jak h0]
 ·have e1:(now.zip gs).map Prod.fst=now:=List.map_fst_zip (by omega);have e2:(now.zip gs).map Prod.snd=gs:=List.map_snd_zip (by omega);rw[e1,e2]
theorem zpx(a b:List qab)(l:List qaa)(h1:∀r∈l,¬r.1=S.ANY)(hb:S.checkForms b=0)(hl:l.length<LF)(hw:∀r∈l,r.2.2.length<LF)(hf:∀r∈l,0<=S.form a r.1/\0<=S.form b r.2.1):qma LF a b l LF (Int.ofNat 0)=some (S.crGo3 a b l l,()):=by
 refine qbm (R:=qa4) l (fun rest i=>some (S.crGo3 a b l rest,())) hl (fun K=>?_) (fun K i v rest r h=>?_)
 ·simp only[qow,qaw,jae];rfl
 ·obtain⟨fa,a1,a2,a3,a4⟩:=qcb (hf v r.mem).1;obtain⟨fb,b1,b2,b3,b4⟩:=qcb (hf v r.mem).2;simp only[qow,r.ilt,r.get,jab,a1,b1,qee];rw[S.crGo3,a2,b2];by_cases hlen:v.2.2.length=fb.2.length
  ·rw[jaj hlen,jbh,jae,jam hlen];refine(znp a b l h1 K fb.2 fa.2 fa.1 fb.1 v v.2.2 rfl (hw v r.mem) hlen i r.get fun c hc=>qwf hb b3 hc).trans ?_;rw[r.next,h];split<;>rfl
  ·rw[jai hlen,jba,jab,jak hlen];rfl
theorem zm9(a b:List qab)(l:List qaa)(h1:∀r∈l,¬r.1=S.ANY)(hb:S.checkForms b=0)(ha:a.length<LF)(hl:l.length<LF)(hw:∀r∈l,r.2.2.length<LF)(hf:∀r∈l,0<=S.form a r.1/\0<=S.form b r.2.1):qj6 LF a b l LF (Int.ofNat 0)=some (S.crGo2 a b l a,()):=by
 refine qbm (R:=qa4) a (fun rest i=>some (S.crGo2 a b l rest,())) ha (fun K=>?_) (fun K i v rest r h=>?_)
 ·simp only[qpt,qaw,jae];exact zpx a b l h1 hb hl hw hf
 ·simp only[qpt,r.ilt,r.get,r.next,h,jab];rw[S.crGo2,qxo,qan];simp only[oL];by_cases hi:S.idx (fun v1:qaa=>keqS v1.1 v.1) l<0
  ·rw[jaj hi];rfl
  ·rw[jai hi];rfl
theorem zle(a b:List qab)(l:List qaa)(hA:S.checkForms a=0)(hB:S.checkForms b=0)(ha:a.length<LF)(hl:l.length<LF)(hw:∀r∈l,r.2.2.length<LF):Fz21 LF a b l=some (S.checkRules0 a b l,()):=by
 simp only[Fz21,qt4,S.checkRules0,qc0];by_cases h24:24<l.length
 ·rw[jaj h24,jab,jam h24];rfl
 rw[jai h24,jae,jak h24];refine range0 (σ:=Unit) (R:=qa4) l (fun i _=>i) (fun i _=>∀r∈l.take i,0<=S.form a r.1/\0<=S.form b r.2.1) (fun rest i _=>some (S.crGo a b l i rest,())) hl (fun K s hI=>?_) (fun K i v rest s hI r h=>?_) () (by simp)
 ·simp only[qoi,qaw,jae];rw[jer] at hI;rw[S.crGo];refine zm9 a b l (fun r hr=>?_) hB ha hl hw hI;obtain⟨f,_,_,f3,f4⟩:=qcb (hI r hr).1;rw[<- f4];exact zf1 ((qym hA).1 f f3).1
 ·simp only[qoi,r.ilt,r.get,r.next,jab];have ht:=qrb (p:=fun x:qaa=>keqS x.1 v.1) r.get? (by simp[keqS]);rw[S.crGo,qxo,qan,qan,qan,show Int.ofNat 0=(0:Int) from rfl];by_cases h1:S.form a v.1<0
  ·rw[jaj h1,jab,jam h1];rfl
  by_cases h2:S.form b v.2.1<0
  ·rw[jai h1,jae,jak h1,jaj h2,jab,jam h2];rfl
  rw[jai h1,jae,jak h1,jai h2,jae,jak h2];by_cases h3:S.idx (fun x:qaa=>keqS x.1 v.1) (l.take i)<0
  ·have hn:¬S.idx (fun v3:qaa=>keqS v3.1 v.1) l<Int.ofNat i:=fun hh=>(ht.1 hh) h3;rw[jai hn,jae,jaj h3,jbh,jak (by simp)];refine h () fun q hq=>?_;rw[r.take,jbi] at hq;rcases hq with hq|hq
   ·exact hI q hq
   ·simp only[ja1,jdk,or_false] at hq;subst hq;exact⟨by omega,by omega⟩
  ·have hy:S.idx (fun v3:qaa=>keqS v3.1 v.1) l<Int.ofNat i:=ht.2 h3;rw[jaj hy,jab,jai h3,jba,jam rfl];rfl
theorem zgo{a b:List qab}(h:S.ruledPre a b=true):S.checkForms a=0/\S.checkForms b=0:=by
 simpa only [S.ruledPre,jaf,jax] using h
theorem zcn:Con Tryz.prog zcc qyk:=ziu ⟨qfi,q67,qr3,trivial⟩ fun x y hx h=>⟨LF,by
 have h:cond (S.ruledPre x.1 x.2.1) (some (S.checkRules0 x.1 x.2.1 x.2.2.1,())) none=some y:=h;cases hr:S.ruledPre x.1 x.2.1 with
 | false=>rw[hr] at h;cases h
 | true =>
  rw[hr] at h;have hp:=zgo hr;exact(zle _ _ _ hp.1 hp.2 (qbf hx.1) (qbf hx.2.2.1) fun r hr=>qbf (hx.2.2.1.2 r hr).2.2).trans h⟩
theorem zeq(lf:Nat)(a b:List qab)(l:List qaa):qpl lf a b l=some (S.checkRules a b l,()):=by
 simp only[qpl,q7y,S.checkRules,S.ruledPre,qa0,S.first];simp only[oL];by_cases hA:S.checkForms a=0
 ·by_cases hB:S.checkForms b=0
  ·simp[hA,hB]
  ·simp[hA,hB]
 ·simp[hA]
theorem q6m:Con Tryz.prog zqi qro:=zdi ⟨qmq,zcn,trivial⟩ fun x y hx h=>⟨0,(zeq _ _ _ _).trans h⟩
abbrev qol:Type:=Bool × Unit
abbrev ziq:Nat:=99
def q2n(lf:Nat)(x1:(List qaa))(x2:DCol)(x3:DCol):Option qol:=(cond (Bool.not (ieqI x2.2.1 (Int.ofNat 3))) (some (true,())) (cond (keqS x2.2.2 (S.lit [65,78,89])) (some ((keqS x2.2.2 x3.2.2),())) (cond (keqS x3.2.2 (S.lit [65,78,89])) (some ((keqS x2.2.2 x3.2.2),())) (some ((S.leads x1 x2.2.2 x3.2.2),())))))
def qn1(lf:Nat)(x1:(List qaa))(x2:DCol)(x3:DCol):Option qol:=q2n lf x1 x2 x3
theorem zfx{g:ElA [(.list cRule),cCol,cCol]->Option qol}(hsm:SmOK Tryz.prog [(125,qs3)])(hg:∀(x:ElA [(.list cRule),cCol,cCol]) (y:qol),WfA [(.list cRule),cCol,cCol] x->g x=some y->∃lf,qn1 lf x.1 x.2.1 x.2.2.1=some y):Con Tryz.prog 99 ⟨[(.list cRule),cCol,cCol],[(false,.bool)],g⟩ :=
 conU (fi:=fi99) (hxl:=[]) (fun lf x=>qn1 lf x.1 x.2.1 x.2.2.1) cm3 q9x trivial hsm hg
def ql1:Nat->Option Nm:=fun k=>cond (Nat.beq k 5) (some ⟨[0,2,3,8,10,29,30,31],[],[],[],[],0,0,false⟩) (none)
def qlo:Nat->Bool:=fun k=>cond (Nat.beq k 5) true (false)
def qv7:=qlo
abbrev qco:Type:=qaa × Bool × Unit
def q43:List (Nat × Sm):=[(85,qpm),(99,q6l)]
def q24:List (Nat × Hx):=[]
def qse(R:Type)(lf:Nat):ClK R:=qa3 Tryz.prog ttT.get ftT.get (nm1 58 ql1) (smL q43) (hxL q24) lf 20 R
abbrev zoz:Nat:=58
def qhw(x1:(List qaa))(x2:qaa)(x3:(List DCol))(x4:(List DCol))(p:Int × (List qac)):NRes:=(NRes.mk (.node (some (IV.lst cRule x1)) (.node none (.node (some (IV.lst cCol x4)) (.node none (.node none (.node (some (IV.int .i64 p.1)) .leaf .leaf) .leaf) .leaf) .leaf) (.node none .leaf (.node none .leaf (.node (some (IV.lst qar x2.2.2)) .leaf .leaf)))) (.node (some (IV.lst cCol x3)) (.node none (.node (some (IV.ptr 0 0)) .leaf .leaf) .leaf) (.node none (.node (some (IV.ptr 1 0)) .leaf .leaf) (.node none .leaf (.node (some (IV.int .i64 (Int.ofNat x2.2.2.length))) .leaf .leaf))))) (IS.mk (.node (some (IObj.row (List.cons (IV.str (S.lit [])) (List.cons (IV.str (S.lit [])) [IV.nilsl])))) (.node (some (IObj.row (List.cons (IV.str x2.2.1) (List.cons (IV.str x2.1) [(IV.arr 2)])))) .leaf .leaf) (.node (some (IObj.arr qar p.2)) .leaf .leaf)) 3) [] 0)
def qs6(lf:Nat)(x1:(List qaa))(x2:qaa)(x3:(List DCol))(x4:(List DCol))(L5:(Int × (List qac))->Option qco):Option qco:=(cond (iltI (Int.ofNat x3.length) (Int.ofNat 0)) none (cond (Nat.ble (Nat.mul (Int.toNat (Int.ofNat x3.length)) 32) 140737488355328) (cond (Bool.not (ieqI (Int.ofNat x3.length) (Int.ofNat x4.length))) (some (((S.lit []),((S.lit []),[])),(false,()))) (L5 ((Int.ofNat 0),(S.rep (Int.ofNat x3.length) ((S.lit []),((Int.ofNat 0),(Int.ofNat 0))))))) none))
def qm5(lf:Nat)(x1:(List qaa))(x2:qaa)(x3:(List DCol))(x4:(List DCol))(L5:(Int × (List qac))->Option qco)(p:Int × (List qac)):Option qco:=(cond (iltI p.1 (Int.ofNat x2.2.2.length)) (match (jget x2.2.2 p.1) with|none=>none|some v0=>(cond (Bool.not (ieqI v0.2.1 (Int.ofNat 1))) (some (((S.lit []),((S.lit []),[])),(false,()))) (match (jget p.2 (S.col x3 v0.1)) with|none=>none|some v1=>(match (GetElem?.getElem? p.2 (Int.toNat (S.col x3 v0.1))) with|none=>none|some v2=>(cond (Bool.not (ieqI v2.2.1 (Int.ofNat 0))) (some (((S.lit []),((S.lit []),[])),(false,()))) (match (jget x3 (S.col x3 v0.1)) with|none=>none|some v3=>(match (jget x4 p.1) with|none=>none|some v4=>(cond (Bool.not (S.keeps x1 (v3.1,(v3.2.1,v3.2.2)) (v4.1,(v4.2.1,v4.2.2)))) (some (((S.lit []),((S.lit []),[])),(false,()))) (match (jget x4 p.1) with|none=>none|some v5=>(match (jget p.2 (S.col x3 v0.1)) with|none=>none|some v6=>(match (GetElem?.getElem? p.2 (Int.toNat (S.col x3 v0.1))) with|none=>none|some v7=>(L5 ((IntKind.i64.wrap (Int.add p.1 (Int.ofNat 1))),(List.set p.2 (Int.toNat (S.col x3 v0.1)) (v5.1,((Int.ofNat 1),(Int.ofNat 0))))))))))))))))) (some ((x2.2.1,(x2.1,p.2)),(true,()))))
abbrev gz22:Type:=ElA [(.list cRule),cRule,(.list cCol),(.list cCol)]->Option qco
abbrev sz22(g:gz22):Sm:=⟨[(.list cRule),cRule,(.list cCol),(.list cCol)],[(false,cRule),(false,.bool)],g⟩
abbrev Ez22(g:gz22)(J:JT qco)(lf:Nat)(x1:(List qaa))(x2:qaa)(x3:(List DCol))(x4:(List DCol)):=qbc Tryz.prog ttT.get ql1 fi58.nt (qse _ lf) lf qlo J fi58.body [] (qay (argV [(.list cRule),cRule,(.list cCol),(.list cCol)] (x1,x2,x3,x4,())) 0 .leaf) S0 [] (qao ttT.get fi58 (sz22 g))
abbrev Bz22(g:gz22)(J:JT qco)(lf k:Nat)(ms:List Nat)(q:NRes):=qbj Tryz.prog ttT.get ql1 fi58.nt (qse _ lf) lf qlo J k fi58.body [] ms q (qao ttT.get fi58 (sz22 g))
theorem zc9(g:gz22)(J:JT qco)(lf:Nat)(x1:(List qaa))(x2:qaa)(x3:(List DCol))(x4:(List DCol)):Ez22 g J lf x1 x2 x3 x4=qs6 lf x1 x2 x3 x4 (fun q=>J 5 [lf] (qhw x1 x2 x3 x4 q)):=by kernel_rfl
theorem zeh(g:gz22)(J:JT qco)(lf:Nat)(x1:(List qaa))(x2:qaa)(x3:(List DCol))(x4:(List DCol))(m1:Nat)(p:Int × (List qac)):Bz22 g J lf 5 [m1] (qhw x1 x2 x3 x4 p)=qm5 lf x1 x2 x3 x4 (fun q=>J 5 [m1] (qhw x1 x2 x3 x4 q)) p:=by kernel_rfl
theorem q1i:(regs fi58.body).Nodup:=by decide +kernel
theorem q0g:okC ql1 qlo qv7 fi58.body none=true:=by kernel_rfl
def Az22(g:gz22)(lf:Nat):JT qco:=atN Tryz.prog ttT.get ql1 fi58 (sz22 g) (qse _ lf) lf qv7
def qn2(lf:Nat)(x1:(List qaa))(x2:qaa)(x3:(List DCol))(x4:(List DCol)):Nat->(Int × (List qac))->Option qco:=qas fun K p=>qm5 lf x1 x2 x3 x4 K p
theorem q2r(g:gz22)(lf:Nat)(x1:(List qaa))(x2:qaa)(x3:(List DCol))(x4:(List DCol)):∀(n:Nat) (p:Int × (List qac)),Az22 g lf 5 [n] (qhw x1 x2 x3 x4 p)=qn2 lf x1 x2 x3 x4 n p
 | 0,p=>qax 5 [0] rfl _
 | n+1,p=>by
  have ih:=q2r g lf x1 x2 x3 x4 n;refine(qau (qaq 20 _) q1i q0g 5 [n+1] [n] rfl _).trans ((zeh g (Az22 g lf) lf x1 x2 x3 x4 n p).trans ?_);rw[(show (fun q=>Az22 g lf 5 [n] (qhw x1 x2 x3 x4 q))=(fun q=>qn2 lf x1 x2 x3 x4 n q) from funext ih)];rfl
def Fz22(lf:Nat)(x1:(List qaa))(x2:qaa)(x3:(List DCol))(x4:(List DCol)):Option qco:=qs6 lf x1 x2 x3 x4 (fun q=>qn2 lf x1 x2 x3 x4 lf q)
theorem q8x(g:gz22)(lf:Nat)(x1:(List qaa))(x2:qaa)(x3:(List DCol))(x4:(List DCol)):Ez22 g (Az22 g lf) lf x1 x2 x3 x4=Fz22 lf x1 x2 x3 x4:=by
  refine(zc9 g (Az22 g lf) lf x1 x2 x3 x4).trans ?_;rw[(show (fun q=>Az22 g lf 5 [lf] (qhw x1 x2 x3 x4 q))=(fun q=>qn2 lf x1 x2 x3 x4 lf q) from funext fun q=>q2r g lf x1 x2 x3 x4 lf q)];rfl
theorem zbi:qbb Tryz.prog q24:=trivial
theorem zc7{g:gz22}(hsm:SmOK Tryz.prog q43)(hg:∀(x:ElA [(.list cRule),cRule,(.list cCol),(.list cCol)]) (y:qco),WfA [(.list cRule),cRule,(.list cCol),(.list cCol)] x->g x=some y->∃lf,Fz22 lf x.1 x.2.1 x.2.2.1 x.2.2.2.1=some y):Con Tryz.prog 58 ⟨[(.list cRule),cRule,(.list cCol),(.list cCol)],[(false,cRule),(false,.bool)],g⟩ :=
 conV (st:=qlo) (fun lf x=>Fz22 lf x.1 x.2.1 x.2.2.1 x.2.2.2.1) cm3 zng zbi q1i q0g (fun lf x=>q8x g lf x.1 x.2.1 x.2.2.1 x.2.2.2.1) hsm hg
def qji:Nat->Option Nm:=fun k=>cond (Nat.beq k 6) (some ⟨[0,2,10,23,24,25],[(10,cRule)],[],[],[],0,0,false⟩) (none)
def qj9:Nat->Bool:=fun k=>cond (Nat.beq k 6) true (false)
def q4a:=qj9
abbrev qck:Type:=(List qaa) × Bool × Int × Unit
def qz4:List (Nat × Sm):=[(21,qrw),(58,q6y),(37,qos)]
def q4g:List (Nat × Hx):=[(97,qqt cRule)]
def qte(R:Type)(lf:Nat):ClK R:=qa3 Tryz.prog ttT.get ftT.get (nm1 19 qji) (smL qz4) (hxL q4g) lf 20 R
abbrev zi4:Nat:=19
def qhy(x1:(List qab))(x2:(List qab))(x3:(List qaa))(p:Int × (List qaa)):NRes:=(NRes.mk (.node (some (IV.lst cForm x1)) (.node none (.node none (.node none .leaf (.node (some (IV.lst cForm x2)) .leaf .leaf)) .leaf) (.node none (.node none .leaf (.node (some (IV.int .i64 p.1)) .leaf .leaf)) .leaf)) (.node (some (IV.lst cRule x3)) (.node none (.node none .leaf (.node (some (IV.int .i64 (Int.ofNat x2.length))) .leaf .leaf)) .leaf) (.node none (.node (some (IV.arr 0)) .leaf .leaf) .leaf))) (IS.mk (.node (some (IObj.arr cRule p.2)) .leaf .leaf) 1) [] 0)
def qve(lf:Nat)(x1:(List qab))(x2:(List qab))(x3:(List qaa))(L6:(Int × (List qaa))->Option qck):Option qck:=(cond (Bool.not (ieqI (S.checkRules x1 x2 x3) (Int.ofNat 0))) (some ([],(false,((S.checkRules x1 x2 x3),())))) (L6 ((Int.ofNat 0),[])))
def qqk(lf:Nat)(x1:(List qab))(x2:(List qab))(x3:(List qaa))(L6:(Int × (List qaa))->Option qck)(p:Int × (List qaa)):Option qck:=(cond (iltI p.1 (Int.ofNat x2.length)) (match (jget x2 p.1) with|none=>none|some v0=>(match (idxO (fun v1=>(some (keqS v1.2.1 v0.1))) x3 0) with|none=>none|some v2=>(cond (iltI v2 (Int.ofNat 0)) (some ([],(false,((Int.ofNat 0),())))) (match (jget x3 v2) with|none=>none|some v3=>(match (jget x3 v2) with|none=>none|some v4=>(match (jget x1 (S.form x1 v4.1)) with|none=>none|some v5=>(match (cond (S.backPre (v3.1,(v3.2.1,v3.2.2)) v5.2 v0.2) (some ((S.back x3 (v3.1,(v3.2.1,v3.2.2)) v5.2 v0.2).1,((S.back x3 (v3.1,(v3.2.1,v3.2.2)) v5.2 v0.2).2,()))) none) with|none=>none|some v6=>(cond (Bool.not v6.2.1) (some ([],(false,((Int.ofNat 0),())))) (cond (Nat.ble (Nat.mul (Nat.add p.2.length 1) 56) 140737488355328) (L6 ((IntKind.i64.wrap (Int.add p.1 (Int.ofNat 1))),(List.append p.2 [(v6.1.1,(v6.1.2.1,v6.1.2.2))]))) none))))))))) (cond (Bool.not (ieqI (Int.ofNat p.2.length) (Int.ofNat x3.length))) (some ([],(false,((Int.ofNat 0),())))) (some (p.2,(true,((Int.ofNat 0),()))))))
abbrev gz23:Type:=ElA [(.list cForm),(.list cForm),(.list cRule)]->Option qck
abbrev sz23(g:gz23):Sm:=⟨[(.list cForm),(.list cForm),(.list cRule)],[(false,(.list cRule)),(false,.bool),(false,(.int .i64))],g⟩
abbrev Ez23(g:gz23)(J:JT qck)(lf:Nat)(x1:(List qab))(x2:(List qab))(x3:(List qaa)):=qbc Tryz.prog ttT.get qji fi19.nt (qte _ lf) lf qj9 J fi19.body [] (qay (argV [(.list cForm),(.list cForm),(.list cRule)] (x1,x2,x3,())) 0 .leaf) S0 [] (qao ttT.get fi19 (sz23 g))
abbrev Bz23(g:gz23)(J:JT qck)(lf k:Nat)(ms:List Nat)(q:NRes):=qbj Tryz.prog ttT.get qji fi19.nt (qte _ lf) lf qj9 J k fi19.body [] ms q (qao ttT.get fi19 (sz23 g))
theorem zir(g:gz23)(J:JT qck)(lf:Nat)(x1:(List qab))(x2:(List qab))(x3:(List qaa)):Ez23 g J lf x1 x2 x3=qve lf x1 x2 x3 (fun q=>J 6 [lf] (qhy x1 x2 x3 q)):=by kernel_rfl
theorem zmu(g:gz23)(J:JT qck)(lf:Nat)(x1:(List qab))(x2:(List qab))(x3:(List qaa))(m1:Nat)(p:Int × (List qaa)):Bz23 g J lf 6 [m1] (qhy x1 x2 x3 p)=qqk lf x1 x2 x3 (fun q=>J 6 [m1] (qhy x1 x2 x3 q)) p:=by kernel_rfl
theorem qyw:(regs fi19.body).Nodup:=by decide +kernel
theorem q7m:okC qji qj9 q4a fi19.body none=true:=by kernel_rfl
def Az23(g:gz23)(lf:Nat):JT qck:=atN Tryz.prog ttT.get qji fi19 (sz23 g) (qte _ lf) lf q4a
def qqa(lf:Nat)(x1:(List qab))(x2:(List qab))(x3:(List qaa)):Nat->(Int × (List qaa))->Option qck:=qas fun K p=>qqk lf x1 x2 x3 K p
theorem qwu(g:gz23)(lf:Nat)(x1:(List qab))(x2:(List qab))(x3:(List qaa)):∀(n:Nat) (p:Int × (List qaa)),Az23 g lf 6 [n] (qhy x1 x2 x3 p)=qqa lf x1 x2 x3 n p
 | 0,p=>qax 6 [0] rfl _
 | n+1,p=>by
  have ih:=qwu g lf x1 x2 x3 n;refine(qau (qaq 20 _) qyw q7m 6 [n+1] [n] rfl _).trans ((zmu g (Az23 g lf) lf x1 x2 x3 n p).trans ?_);rw[(show (fun q=>Az23 g lf 6 [n] (qhy x1 x2 x3 q))=(fun q=>qqa lf x1 x2 x3 n q) from funext ih)];rfl
def Fz23(lf:Nat)(x1:(List qab))(x2:(List qab))(x3:(List qaa)):Option qck:=qve lf x1 x2 x3 (fun q=>qqa lf x1 x2 x3 lf q)
theorem zd3(g:gz23)(lf:Nat)(x1:(List qab))(x2:(List qab))(x3:(List qaa)):Ez23 g (Az23 g lf) lf x1 x2 x3=Fz23 lf x1 x2 x3:=by
  refine(zir g (Az23 g lf) lf x1 x2 x3).trans ?_;rw[(show (fun q=>Az23 g lf 6 [lf] (qhy x1 x2 x3 q))=(fun q=>qqa lf x1 x2 x3 lf q) from funext fun q=>qwu g lf x1 x2 x3 lf q)];rfl
theorem za4:qbb Tryz.prog q4g:=⟨q0x,trivial⟩
theorem zft{g:gz23}(hsm:SmOK Tryz.prog qz4)(hg:∀(x:ElA [(.list cForm),(.list cForm),(.list cRule)]) (y:qck),WfA [(.list cForm),(.list cForm),(.list cRule)] x->g x=some y->∃lf,Fz23 lf x.1 x.2.1 x.2.2.1=some y):Con Tryz.prog 19 ⟨[(.list cForm),(.list cForm),(.list cRule)],[(false,(.list cRule)),(false,.bool),(false,(.int .i64))],g⟩ :=
 conV (st:=qj9) (fun lf x=>Fz23 lf x.1 x.2.1 x.2.2.1) cm3 zkg za4 qyw q7m (fun lf x=>zd3 g lf x.1 x.2.1 x.2.2.1) hsm hg
structure ColsOK (cs:List DCol):Prop where
 len:cs.length<=30
 small:∀c∈cs,S.small c.1=true
 one:∀k (h:k<cs.length),S.col (cs.take k) cs[k].1<0
 kind:∀c∈cs,1<=c.2.1/\c.2.1<=3
 bare:∀c∈cs,¬c.2.1=3->c.2.2=S.lit []
structure FormsOK (l:List qab):Prop where
 len:l.length<=24
 cls:∀f∈l,S.class_ f.1=true
 one:∀k (h:k<l.length),S.form (l.take k) l[k].1<0
 cols:∀f∈l,ColsOK f.2
 ref:∀f∈l,∀c∈f.2,c.2.1=3->c.2.2=S.ANY\/0<=S.form l c.2.2
theorem za5{s:ByteArray}(h:S.class_ s=true):¬s=S.ANY:=by
 intro e;rw[e] at h;exact absurd h (by decide +kernel)
theorem qgi{α:Type}{l:List α}{k:Nat}{r:α}{rs:List α}(hd:l.drop k=r::rs):∃h:k<l.length,l[k]=r/\l.drop (k+1)=rs:=by
 have hk:k<l.length:=by
  rcases jbm k l.length with h|h
  ·exact h
  ·rw[List.drop_eq_nil_of_le h] at hd;cases hd
 rw[jb0 hk] at hd;exact⟨hk,(jff hd).1,(jff hd).2⟩
theorem qx6(l:List DCol):∀(cs:List DCol) (k:Nat),l.drop k=cs->S.ccGo l k cs=0->∀j (h:j<l.length),k<=j->S.small l[j].1=true/\S.col (l.take j) l[j].1<0/\S.within l[j].2.1 1 3=true/\(¬l[j].2.1=3->l[j].2.2=S.lit [])
 | [],k,hd,_=>fun j hj hk=>by
  have:l.length<=k:=by simpa using hd
  omega
 | c::r,k,hd,h=>by
  obtain⟨hk,e1,e2⟩:=qgi hd;rw[S.ccGo] at h;cases h1:S.small c.1 with
  | false=>rw[jam h1] at h;exact absurd h (by decide)
  | true =>
  rw[jak (by simp[h1])] at h;by_cases h2:¬S.col (l.take k) c.1<0
  ·rw[jam h2] at h;exact absurd h (by decide)
  rw[jak h2] at h;cases h3:S.within c.2.1 1 3 with
  | false=>rw[jam h3] at h;exact absurd h (by decide)
  | true =>
  rw[jak (by simp[h3])] at h;by_cases h4:¬c.2.1=3/\¬c.2.2=S.lit []
  ·rw[jam h4] at h;exact absurd h (by decide)
  rw[jak h4] at h;intro j hj hkj;by_cases e:j=k
  ·subst e;rw[e1];exact⟨h1,jcw.1 h2,h3,fun hn=>jcw.1 fun hh=>h4 ⟨hn,hh⟩⟩
  ·exact qx6 l r (k+1) e2 h j hj (by omega)
theorem za0{l:List DCol}(h:S.checkCols l=0):ColsOK l:=by
 unfold S.checkCols at h;by_cases h30:30<l.length
 ·rw[jam h30] at h;exact absurd h (by decide)
 rw[jak h30] at h;have key:=qx6 l l 0 rfl h;refine⟨by omega,fun c hc=>?_,fun k hk=>(key k hk (jbj _)).2.1,fun c hc=>?_,fun c hc=>?_⟩;all_goals
  obtain⟨k,hk,rfl⟩:=jay.1 hc
 ·exact(key k hk (jbj _)).1
 ·simpa only [S.within,jaf,jax] using (key k hk (jbj _)).2.2.1
 ·exact(key k hk (jbj _)).2.2.2
theorem q7p(l:List qab):∀fs:List qab,S.cfGo2 l fs=0->∀f∈fs,S.cfIn l f.2=true
 | [],_=>fun f hf=>absurd hf (by simp)
 | f::r,h=>by
  rw[S.cfGo2] at h;by_cases hc:S.cfIn l f.2=true
  ·rw[jam hc] at h;intro x hx;rcases ja1.1 hx with e|e
   ·rw[e];exact hc
   ·exact q7p l r h x e
  ·rw[jak hc] at h;exact absurd h (by decide)
theorem q1f{a b c:Int}(h:S.first [a,b,c]=0):a=0/\b=0/\c=0:=by
 simp only[S.first] at h;by_cases ha:a=0
 ·rw[jam ha] at h;by_cases hb:b=0
  ·rw[jam hb] at h;by_cases hc:c=0
   ·exact⟨ha,hb,hc⟩
   ·rw[jak hc] at h;exact absurd h hc
  ·rw[jak hb] at h;exact absurd h hb
 ·rw[jak ha] at h;exact absurd h ha
theorem qeu{a b:Int}(h:S.first [a,b]=0):a=0/\b=0:=by
 have:=q1f (c:=0) (a:=a) (b:=b) (by simp only[S.first] at h ⊢;simpa using h);exact⟨this.1,this.2.1⟩
theorem q5e{x:Bool}{e:Int}(he:¬e=0)(h:S.unlessE x e=0):x=true:=by
 cases x with
 | true=>rfl
 | false=>exact absurd h he
theorem q59(l:List qab):∀(fs:List qab) (k:Nat),l.drop k=fs->S.cfGo l k fs=0->(∀j (h:j<l.length),k<=j->S.class_ l[j].1=true/\S.form (l.take j) l[j].1<0/\S.checkCols l[j].2=0)/\S.cfGo2 l l=0
 | [],k,hd,h=>⟨fun j hj hk=>by
  have:l.length<=k:=by simpa using hd
  omega,h⟩
 | f::r,k,hd,h=>by
  obtain⟨hk,e1,e2⟩:=qgi hd;rw[S.cfGo] at h;by_cases he:S.first [S.unlessE (S.class_ f.1) 4,S.unlessE (decide (S.form (l.take k) f.1<0)) 6,S.checkCols f.2]=0
  ·rw[jam he] at h;obtain⟨q1,q2,q3⟩:=q1f he;have ih:=q59 l r (k+1) e2 h;refine⟨fun j hj hkj=>?_,ih.2⟩;by_cases e:j=k
   ·subst e;rw[e1];exact⟨q5e (by decide) q1,jau (q5e (by decide) q2),q3⟩
   ·exact ih.1 j hj (by omega)
  ·rw[jak he] at h;exact absurd h he
theorem qyp(l:List qab):∀cs:List DCol,S.cfIn l cs=true->∀c∈cs,c.2.1=3->c.2.2=S.ANY\/0<=S.form l c.2.2
 | [],_=>fun c hc=>absurd hc (by simp)
 | c::r,h=>by
  rw[S.cfIn] at h;by_cases hc:c.2.1=3/\¬c.2.2=S.ANY/\S.form l c.2.2<0
  ·rw[jam hc] at h;cases h
  ·rw[jak hc] at h;intro x hx h3;rcases ja1.1 hx with e|e
   ·rw[e] at h3 ⊢;by_cases hA:c.2.2=S.ANY
    ·exact .inl hA
    ·exact .inr (by have:¬S.form l c.2.2<0:=fun hh=>hc ⟨h3,hA,hh⟩;omega)
   ·exact qyp l r h x e h3
theorem qdj{l:List qab}(h:S.checkForms l=0):FormsOK l:=by
 unfold S.checkForms at h;by_cases h24:24<l.length
 ·rw[jam h24] at h;exact absurd h (by decide)
 rw[jak h24] at h;obtain⟨k1,k2⟩:=q59 l l 0 rfl h;have k3:=q7p l l k2;refine⟨by omega,fun f hf=>?_,fun k hk=>(k1 k hk (jbj _)).2.1,fun f hf=>?_,fun f hf=>qyp l f.2 (k3 f hf)⟩;all_goals
  obtain⟨k,hk,rfl⟩:=jay.1 hf
 ·exact(k1 k hk (jbj _)).1
 ·exact za0 (k1 k hk (jbj _)).2.2

theorem zbd{α:Type}{p:α->Bool}{l:List α}{x:α}(hx:x∈l)(hp:p x=true):0<=S.idx p l :=
 (S.idx_nonneg p l).2 (jcf.2 ⟨x,hx,hp⟩)
theorem idx_at_of{α:Type}{p:α->Bool}{l:List α}{k:Nat}(hk:k<l.length)(hp:p l[k]=true)(h0:S.idx p (l.take k)<0):S.idx p l=k:=by
 have hn:=S.idx_neg h0;rw[je4] at hn;have:l.findIdx? p=some k:=by
  rw[jcs];refine⟨hk,hp,fun j hj=>?_⟩;have hj2:j<(l.take k).length:=by simp;omega
  have:=hn ((l.take k)[j]) (ja0 hj2);rw[jca] at this;exact this
 unfold S.idx;rw[this];rfl
theorem quj{l:List qab}(h:FormsOK l){k:Nat}(hk:k<l.length):S.form l l[k].1=k :=
 idx_at_of (p:=fun f:qab=>keqS f.1 l[k].1) hk (jaj rfl) (h.one k hk)
theorem q4k{l:List qab}(h:FormsOK l){k:Nat}(hk:k<l.length):S.colsOf l l[k].1=l[k].2:=by
 unfold S.colsOf S.at_;rw[quj h hk];simp[hk]
theorem qpi{l:List qab}(h:FormsOK l){f:qab}(hf:f∈l):S.colsOf l f.1=f.2:=by
 obtain⟨k,hk,rfl⟩:=jay.1 hf;exact q4k h hk
theorem qmu{l:List qab}(h:FormsOK l){n:ByteArray}(hn:0<=S.form l n):ColsOK (S.colsOf l n):=by
 obtain⟨f,_,f2,f3,f4⟩:=qcb hn;rw[f2];exact h.cols f f3
theorem qeo{α:Type}(d:α){l:List α}{k:Nat}(hk:k<l.length):S.at_ d l (k:Int)=l[k]:=by
 unfold S.at_;simp [hk]
theorem qtk{l:List DCol}{n:ByteArray}(h:0<=S.col l n):∃(k:Nat) (hk:k<l.length),S.col l n=k/\S.at_ S.zCol l (S.col l n)=l[k]/\l[k].1=n:=by
 have h1:=ql4 l n h;obtain⟨c,c1,c2,c3,c4,c5,c6⟩:=S.idx_get (p:=fun c:DCol=>keqS c.1 n) (l:=l) h;have e:S.col l n=((S.col l n).toNat:Int):=by omega
 have hk:(S.col l n).toNat<l.length:=by omega
 refine⟨(S.col l n).toNat,hk,e,?_,?_⟩
 ·unfold S.at_;rw[jac hk];rfl
 ·have c2':l[(S.col l n).toNat]?=some c:=c2;rw[jac hk] at c2';cases c2';exact jau c3
structure GiveOK (l:List qaa) (g:qac) (cols:List DCol) (b:DCol):Prop where
 how:1<=g.2.1/\g.2.1<=7
 src:g.2.1<=5->0<=S.col cols g.1
 bare:6<=g.2.1->g.1=S.lit []
 big:-1099511627776<=g.2.2/\g.2.2<=1099511627776
 nought:¬g.2.1=4->¬g.2.1=6->g.2.2=0
 h1:g.2.1=1->(S.at_ S.zCol cols (S.col cols g.1)).2.1=b.2.1/\(b.2.1=3->S.leads l (S.at_ S.zCol cols (S.col cols g.1)).2.2 b.2.2=true)
 h2:g.2.1=2->(S.at_ S.zCol cols (S.col cols g.1)).2.1=2/\b.2.1=1
 h3:g.2.1=3->(S.at_ S.zCol cols (S.col cols g.1)).2.1=1/\b.2.1=2
 h4:g.2.1=4->(S.at_ S.zCol cols (S.col cols g.1)).2.1=1/\b.2.1=1
 h5:g.2.1=5->(S.at_ S.zCol cols (S.col cols g.1)).2.1=3/\b.2.1=3/\S.leads l (S.at_ S.zCol cols (S.col cols g.1)).2.2 b.2.2=true
 h6:g.2.1=6->b.2.1=1\/(b.2.1=2/\0<=g.2.2/\g.2.2<=1)
 h7:g.2.1=7->b.2.1=3
theorem zhf(l:List qaa)(g:qac)(cols:List DCol)(b:DCol):S.give l g cols b=0↔GiveOK l g cols b:=by
 obtain⟨gf,gh,gn⟩:=g;have hw:∀n lo hi:Int,S.within n lo hi=true↔lo<=n/\n<=hi:=fun n lo hi=>by simp[S.within]
 have hwf:∀n lo hi:Int,S.within n lo hi=false↔¬(lo<=n/\n<=hi):=fun n lo hi=>by rw[<- hw];simp
 constructor
 ·intro h;unfold S.give at h;by_cases q1:S.within gh 1 5=true/\S.col cols gf<0
  ·rw[jam q1] at h;exact absurd h (by decide)
  rw[jak q1] at h;split at h
  ·exact absurd h (by decide)
  rename_i q2;simp only[not_or] at q2;obtain⟨q2,q3,q4,q5⟩:=q2;simp only[hw,hwf,jcw,S.most] at q1 q2 q3 q4 q5;unfold S.unlessE at h;simp only[hw] at h;generalize hA:(if 1<=gh/\gh<=5 then S.at_ S.zCol cols (S.col cols gf) else S.zCol)=a at h;cases hf:S.fits l (gf,gh,gn) a b with
  | false=>rw[hf] at h;exact absurd h (by decide)
  | true =>
  unfold S.fits at hf;simp only at hf;have hsrc:gh<=5->a=S.at_ S.zCol cols (S.col cols gf):=fun h=>by rw[<- hA,jam ⟨q2.1,h⟩]
  have q4':-1099511627776<=gn/\gn<=1099511627776:=by split at q4<;>omega
  refine⟨q2,fun h5=>by simp only at h5 ⊢;by_cases hn:S.col cols gf<0;exact absurd ⟨⟨q2.1,h5⟩,hn⟩ q1;omega,fun h6=>?_,q4',fun h4 h6=>?_,fun e=>?_,fun e=>?_,fun e=>?_,fun e=>?_,fun e=>?_,fun e=>?_,fun e=>?_⟩
  ·simp only at h6 ⊢;exact jcw.1 fun hh=>q3 ⟨by omega,hh⟩
  ·simp only at h4 h6 ⊢;rw[jak (by omega)] at q4;omega
  all_goals
   simp only at e ⊢;subst e
  ·rw[<- hsrc (by omega)];simp only[jb4,jaf,jax,jdf] at hf;refine⟨hf.1,fun h3=>?_⟩;rcases hf.2 with hh|hh
   ·exact absurd (hf.1.trans h3) hh
   ·exact hh
  ·rw[<- hsrc (by omega)];simpa using hf
  ·rw[<- hsrc (by omega)];simpa using hf
  ·rw[<- hsrc (by omega)];simpa using hf
  ·rw[<- hsrc (by omega)];simpa using hf
  ·simp only[show ¬(6:Int)=1 from by decide,show ¬(6:Int)=2 from by decide,show ¬(6:Int)=3 from by decide,show ¬(6:Int)=4 from by decide,show ¬(6:Int)=5 from by decide,jbl,jb4,jdf,jaf,jax,hw] at hf;exact hf
  ·simpa using hf
 ·intro h;have e1:=h.how;have e2:=h.src;have e3:=h.bare;have e4:=h.big;have e5:=h.nought;simp only at e1 e2 e3 e4 e5;unfold S.give;simp only[hw,hwf];rw[jak (fun hh=>by have:=e2 hh.1.2;omega)];rw[jak ?_]
  ·have hf:S.fits l (gf,gh,gn) (if 1<=gh/\gh<=5 then S.at_ S.zCol cols (S.col cols gf) else S.zCol) b=true:=by
    unfold S.fits;simp only;have h1:=h.h1;have h2:=h.h2;have h3:=h.h3;have h4:=h.h4;have h5:=h.h5;have h6:=h.h6;have h7:=h.h7;simp only at h1 h2 h3 h4 h5 h6 h7;have hc:gh=1\/gh=2\/gh=3\/gh=4\/gh=5\/gh=6\/gh=7:=by omega
    rcases hc with e|e|e|e|e|e|e
    ·rw[jam e,jam (by omega)];obtain⟨k1,k2⟩:=h1 e;rw[jaj k1,jb3,k1];by_cases hb:b.2.1=3
     ·rw[k2 hb,Bool.or_true]
     ·rw[jaj hb,Bool.true_or]
    ·subst e;obtain⟨k1,k2⟩:=h2 rfl;simp [k1,k2]
    ·subst e;obtain⟨k1,k2⟩:=h3 rfl;simp [k1,k2]
    ·subst e;obtain⟨k1,k2⟩:=h4 rfl;simp [k1,k2]
    ·subst e;obtain⟨k1,k2,k3⟩:=h5 rfl;simp [k1,k2,k3]
    ·subst e;rcases h6 rfl with k|⟨k,k'⟩
     ·simp[k]
     ·simp[k,hw,k']
    ·subst e;simp [h7 rfl]
   rw[hf];rfl
  ·rintro(hh|⟨hh,hh2⟩|hh|⟨hh,hh2,hh3⟩)
   ·exact hh e1
   ·exact hh2 (e3 (by omega))
   ·apply hh;unfold S.most;simp only;by_cases h4:gh=4
    ·rw[jam (.inl h4)];exact e4
    by_cases h6:gh=6
    ·rw[jam (.inr h6)];exact e4
    ·rw[jak (by omega),e5 h4 h6];omega
   ·rcases h.h6 hh with k|⟨_,k⟩
    ·omega
    ·exact hh3 k
theorem zfq(lf:Nat)(l:List qaa)(a b:DCol):qn1 lf l a b=some (S.keeps l a b,()):=by
 simp only[qn1,q2n,S.keeps,qa0,oL];have ea:S.lit [65,78,89]=S.ANY:=rfl;rw[ea];by_cases h3:a.2.1=3
 ·by_cases ha:a.2.2=S.ANY
  ·simp[h3,ha,keqS]
  ·by_cases hb:b.2.2=S.ANY
   ·simp[h3,ha,hb,keqS]
   ·simp[h3,ha,hb,keqS]
 ·simp[h3]
theorem zar:Con Tryz.prog ziq q6l:=zfx ⟨qyj,trivial⟩ fun x y _ h=>⟨0,(zfq _ _ _ _).trans h⟩
theorem zfn(l:List qaa)(r:qaa)(was now:List DCol)(hw:was.length*40<=140737488355328)(hr:r.2.2.length<LF)(hp:S.backPre r was now=true):Fz22 LF l r was now=some ((S.back l r was now).1,(S.back l r was now).2,()):=by
 unfold S.backPre at hp;rw[jaf] at hp;obtain⟨hlen,hp⟩:=hp;have hlen:=jau hlen;rw[ja6] at hp;have h0:iltI (Int.ofNat was.length) (Int.ofNat 0)=false:=by rw[qan];simp
 have hb:Nat.ble (Nat.mul (Int.toNat (Int.ofNat was.length)) 32) 140737488355328=true:=jc0 (by show was.length*32<=_;omega);have fin:∀o:Option (List qac),(match o with|none=>some (S.zRule,false,())|some gs=>some ((r.2.1,r.1,gs),true,())) =
   some ((match o with|none=>(S.zRule,false)|some gs=>((r.2.1,r.1,gs),true):qaa × Bool).1,(match o with|none=>(S.zRule,false)|some gs=>((r.2.1,r.1,gs),true):qaa × Bool).2,()):=by
  intro o;cases o<;>rfl
 simp only[Fz22,qs6,h0,hb,jae,jab,qee,S.back];by_cases he:was.length=now.length
 case neg=>rw[jai he,jba,jab,jam he];rfl
 rw[jaj he,jbh,jae,jak (by simpa using he)];refine Eq.trans ?_ (fin _);refine range0 (σ:=List qac) (R:=qco) r.2.2 (fun k s=>(k,s)) (fun _ s=>s.length=was.length) (fun rest k s=>match S.bkGo l was now rest k s with|none=>some (S.zRule,false,())|some gs=>some ((r.2.1,r.1,gs),true,())) hr (fun K s hI=>?_) (fun K k g rest s hI rr h=>?_) _ (by unfold S.rep;simp)
 ·simp only[qm5,qaw,jae,S.bkGo]
 ·rw[S.bkGo];simp only[qm5,rr.ilt,rr.get,jab];by_cases h1:g.2.1=1
  case neg=>rw[qa0,jai (by exact h1),jba,jab,jam h1];rfl
  rw[qa0,jaj (by exact h1),jbh,jae,jak (by simpa using h1)];have hc:=jau (hp g rr.mem) h1;have hcl:=ql4 was g.1 hc;obtain⟨v,e1,e2,e3⟩:=qsw (l:=s) hc (by rw[hI];exact hcl);obtain⟨c,c1,c2,c3⟩:=qsw (l:=was) hc hcl;have hk:k<now.length:=by have:=rr.lt;omega
  have d1:jget now (Int.ofNat k)=some now[k]:=by rw[qbw];exact jac hk
  have a1:S.at_ S.zGive s (S.col was g.1)=v:=by unfold S.at_;rw[e2];rfl
  have a2:S.at_ S.zCol was (S.col was g.1)=c:=by unfold S.at_;rw[c2];rfl
  have a3:S.at_ S.zCol now (k:Int)=now[k]:=by unfold S.at_;simp [hk]
  simp only[e1,e2,c1,d1,a1,a2,a3,jfe];by_cases hv:v.2.1=0
  case neg=>rw[qa0,jai (by exact hv),jba,jab,jam hv];rfl
  rw[qa0,jaj (by exact hv),jbh,jae,jak (by simpa using hv)];cases hkp:S.keeps l c now[k] with
  | false=>rfl
  | true =>
   rw[jbh,jae,jak (by simp),rr.next];exact h _ (by simp[hI])
theorem zfk:Con Tryz.prog zoz q6y:=zc7 ⟨qvd,zar,trivial⟩ fun x y hx h=>⟨LF,by
 have h:cond (S.backPre x.2.1 x.2.2.1 x.2.2.2.1) (some ((S.back x.1 x.2.1 x.2.2.1 x.2.2.2.1).1,(S.back x.1 x.2.1 x.2.2.1 x.2.2.2.1).2,())) none=some y:=h;cases hr:S.backPre x.2.1 x.2.2.1 x.2.2.2.1 with
 | false=>rw[hr] at h;cases h
 | true=>rw[hr] at h;exact(zfn _ _ _ _ hx.2.2.1.1 (qbf hx.2.1.2.2) hr).trans h⟩
theorem q3k{a b:List qab}{l:List qaa}(hR:RulesOK a b l){r:qaa}(hr:r∈l):S.backPre r (S.colsOf a r.1) (S.colsOf b r.2.1)=true:=by
 unfold S.backPre;rw[jaf];refine⟨jaj (jd9 (hR.glen r hr)),?_⟩;rw[ja6];intro g hg;refine jaj fun h1=>?_;obtain⟨k,hk,rfl⟩:=jay.1 hg;have hgk:=hR.gok r hr k hk (by rw[<- hR.glen r hr];exact hk);exact(qxv hgk).2 (by rw[h1];rfl)
theorem zmy(a b:List qab)(l:List qaa)(hb:b.length<LF):Fz23 LF a b l=some ((S.Back a b l).1,(S.Back a b l).2.1,(S.Back a b l).2.2,()):=by
 simp only[Fz23,qve,S.Back,qa0,oL];by_cases h0:S.checkRules a b l=0
 case neg=>rw[jai h0,jba,jab,jam h0]
 rw[jaj h0,jbh,jae,jak (by simpa using h0)];have h00:S.checkRules0 a b l=0:=by
  unfold S.checkRules at h0;split at h0
  ·exact h0
  ·contradiction
 have hR:=(qm4 a b l).1 h00;have hff:S.first [S.checkForms a,S.checkForms b]=0:=by
  unfold S.checkRules at h0;by_cases hf:S.first [S.checkForms a,S.checkForms b]=0
  ·exact hf
  ·rw[jak hf] at h0;exact absurd h0 hf
 have hB:=qdj (qeu hff).2;have h24:=hB.len;have hfirst:∀f∈b,S.colsOf b f.1=f.2:=fun f hf=>qpi hB hf;have fin:∀o:Option (List qaa),(match o with|none=>some (([]:List qaa),false,(0:Int),())|some out=>if ¬out.length=l.length then some ([],false,0,()) else some (out,true,0,())) =
   some ((match o with|none=>([],false,0)|some out=>if ¬out.length=l.length then ([],false,0) else (out,true,0):List qaa × Bool × Int).1,(match o with|none=>([],false,0)|some out=>if ¬out.length=l.length then ([],false,0) else (out,true,0):List qaa × Bool × Int).2.1,
    (match o with|none=>([],false,0)|some out=>if ¬out.length=l.length then ([],false,0) else (out,true,0):List qaa × Bool × Int).2.2,()):=by
  intro o;cases o with
  | none=>rfl
  | some out =>
   by_cases h:out.length=l.length
   ·simp only[jak (show ¬¬out.length=l.length from fun hh=>hh h)]
   ·simp only[jam h]
 refine Eq.trans ?_ (fin _);refine range0 (σ:=List qaa) (R:=qck) b (fun k s=>(k,s)) (fun k s=>s.length=k) (fun rest k s=>match S.bkAll a l rest s with|none=>some (([]:List qaa),false,(0:Int),())|some out=>if ¬out.length=l.length then some ([],false,0,()) else some (out,true,0,())) hb (fun K s hI=>?_) (fun K k f rest s hI r h=>?_) [] rfl
 ·simp only[qqk,qaw,jae,S.bkAll,qee];by_cases he:s.length=l.length
  ·rw[jaj he,jbh,jae,jak (by simpa using he)];rfl
  ·rw[jai he,jba,jab,jam he];rfl
 ·rw[S.bkAll];simp only[qqk,r.ilt,r.get,jab];rw[qm9 (l:=l) (fun q:qaa=>keqS q.2.1 f.1) fun x _=>rfl];simp only[qan];by_cases hi:S.idx (fun q:qaa=>keqS q.2.1 f.1) l<0
  ·rw[jaj (by exact hi),jab,jam hi];rfl
  rw[jai (by exact hi),jae,jak hi];obtain⟨q,q1,q2,q3,q4,_,_⟩:=S.idx_get (p:=fun q:qaa=>keqS q.2.1 f.1) (l:=l) (by omega);have q3:q.2.1=f.1:=jau q3;have e:S.at_ S.zRule l (S.idx (fun q:qaa=>keqS q.2.1 f.1) l)=q:=by unfold S.at_;rw[q2];rfl
  obtain⟨fa,a1,a2,a3,a4⟩:=qcb (hR.has q q4).1;have hpre:=q3k hR q4;rw[q3,hfirst f r.mem,a2] at hpre;have hbl:Nat.ble (Nat.mul (Nat.add s.length 1) 56) 140737488355328=true:=zaj (by have:=r.lt;rw[hI];omega);simp only[q1,e,a1,a2,jfe,hpre,jab,hbl];cases hk:(S.back l q fa.2 f.2).2 with
  | false=>rfl
  | true =>
   rw[jbh,jae,r.next,jam rfl];exact h _ (by simp[hI])
theorem zhi:Con Tryz.prog zi4 qzh:=zft ⟨q6d,zfk,qiv,trivial⟩ fun x y hx h=>⟨LF,(zmy _ _ _ (qbf hx.2.1)).trans h⟩
theorem zlg(a b:List qaa)(K4:Int->Option qbp)(i:Nat)(v w:qaa)(hv:jget a (Int.ofNat i)=some v)(hw:jget b (Int.ofNat i)=some w)(hl:v.2.2.length<LF)(hlen:v.2.2.length=w.2.2.length) :
  qhq LF a b K4 LF (Int.ofNat 0,Int.ofNat i)=cond (decide (v.2.2=w.2.2)) (K4 (IntKind.i64.wrap (Int.add (Int.ofNat i) (Int.ofNat 1)))) (some (false,())):=by
 refine(range0 (σ:=Unit) (R:=qbp) v.2.2 (fun k _=>(k,Int.ofNat i)) (fun _ _=>True) (fun rest k _=>cond (decide (rest=w.2.2.drop k)) (K4 (IntKind.i64.wrap (Int.add (Int.ofNat i) (Int.ofNat 1)))) (some (false,()))) hl (fun K s _=>?_) (fun K k g rest s _ r h=>?_) () trivial).trans (by rw[jdy])
 ·simp only[qqc,hv,qaw,jae];rw[List.drop_of_length_le (by omega),jaj rfl,jab]
 ·have h:=h () trivial;have hi:k<w.2.2.length:=by have:=r.lt;omega
  have hd:w.2.2.drop k=w.2.2[k]::w.2.2.drop (k+1):=jb0 hi;have hb:jget w.2.2 (Int.ofNat k)=some w.2.2[k]:=qbw.trans (jac hi);simp only[qqc,hv,hw,r.ilt,r.get,hb,r.next,h,jab,hd];generalize w.2.2[k]=u;obtain⟨g1,g2,g3⟩:=g;obtain⟨u1,u2,u3⟩:=u;simp only[keqI,keqS,Bool.and_true];by_cases e1:g1=u1<;>by_cases e2:g2=u2<;>by_cases e3:g3=u3<;>simp [e1,e2,e3]
theorem zey(a b:List qaa)(hl:a.length<LF)(hg:∀r∈a,r.2.2.length<LF):Fz18 LF a b=some (S.sameRules a b,()):=by
 simp only[Fz18,qrq,qee,S.sameRules];by_cases hlen:a.length=b.length
 ·rw[jaj hlen,jbh,jae];refine(qbm (R:=qbp) a (fun rest i=>some (decide (rest=b.drop i),())) hl (fun K=>?_) (fun K i v rest r h=>?_)).trans (by rw[jdy])
  ·simp only[qoo,qaw,jae];rw[List.drop_of_length_le (by omega),jaj rfl]
  ·have hi:i<b.length:=by have:=r.lt;omega
   have hd:b.drop i=b[i]::b.drop (i+1):=jb0 hi;have hb:jget b (Int.ofNat i)=some b[i]:=qbw.trans (jac hi);simp only[qoo,r.ilt,r.get,hb,jab,hd,qee];have hin:=fun (q:v.2.2.length=b[i].2.2.length)=>zlg a b K i v b[i] r.get hb (hg v r.mem) q;rw[r.next,h] at hin
   revert hin
   generalize b[i]=w;intro hin;have hin2:∀hlen:v.2.2.length=w.2.2.length,qhq LF a b K LF (Int.ofNat 0,Int.ofNat i)=some (decide (v.2.2=w.2.2)&&decide (rest=b.drop (i+1)),()):=fun hlen=>by
    rw[hin hlen];cases decide (v.2.2=w.2.2)<;>rfl
   obtain⟨v1,v2,v3⟩:=v;obtain⟨w1,w2,w3⟩:=w;simp only[keqS];by_cases e1:v1=w1
   ·by_cases e2:v2=w2
    ·by_cases e3:v3.length=w3.length
     ·simp only[e1,e2,e3,decide_true,jbh,jae];rw[hin2 e3];simp[e1,e2]
     ·have:¬v3=w3:=fun e=>e3 (by rw[e]);simp[e1,e2,e3,this]
    ·simp[e1,e2]
   ·simp[e1]
 ·have hn:¬a=b:=fun e=>hlen (by rw[e]);rw[jai hlen,jba,jab,jai hn]
theorem zo4:Con Tryz.prog zcf qya:=zim trivial fun x y hx h=>⟨LF,(zey _ _ (qbf hx.1) fun r hr=>qbf (hx.1.2 r hr).2.2).trans h⟩
theorem q1v{α:Type}{l:List α}{k i:Nat}{v:α}(h:(l.take k)[i]?=some v):i<k/\l[i]?=some v:=by
 have hi:=(jal.1 h).1;rw[jbx] at hi;rw[jas,jam (by omega)] at h;exact⟨by omega,h⟩
theorem zfp{l:List qaa}{f t:qab}{r:qaa}(K4:Int->Option qbq){k:Nat}{g:qac}{c d:DCol}(hg:r.2.2[k]?=some g)(hc:jget f.2 (S.col f.2 g.1)=some c)(hd:jget t.2 (Int.ofNat k)=some d)(hl:r.2.2.length<LF) :
  qmb LF l f t r K4 LF (Int.ofNat k,Int.ofNat 0)=cond ((r.2.2.take k).any fun h=>keqS h.1 g.1) (some (false,())) (cond (S.oddC c d) (some (false,())) (K4 (IntKind.i64.wrap (Int.add (Int.ofNat k) (Int.ofNat 1))))):=by
 have hk:k<r.2.2.length:=(jal.1 hg).1;have hkl:(r.2.2.take k).length=k:=by rw[jbx];omega
 have hgk:jget r.2.2 (Int.ofNat k)=some g:=by rw[qbw];exact hg
 refine range0 (σ:=Unit) (R:=qbq) (r.2.2.take k) (fun i _=>(Int.ofNat k,i)) (fun _ _=>True) (fun rest i _=>cond (rest.any fun h=>keqS h.1 g.1) (some (false,())) (cond (S.oddC c d) (some (false,())) (K4 (IntKind.i64.wrap (Int.add (Int.ofNat k) (Int.ofNat 1)))))) (by omega) (fun K s _=>?_) (fun K i v rest s _ rr h=>?_) () trivial
 ·rw[hkl];simp only[qo0,qaw,jae,hgk,hc,hd,jfm,qa0];unfold S.oddC;have e:S.lit [65,78,89]=S.ANY:=rfl;rw[e];by_cases h3:c.2.1=3
  ·rw[jaj (show c.2.1=Int.ofNat 3 from h3),jab,jaj h3,jb3]
  ·rw[jai (show ¬c.2.1=Int.ofNat 3 from h3),jae,jai h3,je8,jae]
 ·have h:=h () trivial;obtain⟨hik,hv⟩:=q1v rr.get?;have hvk:jget r.2.2 (Int.ofNat i)=some v:=by rw[qbw];exact hv
  have hilt:=rr.ilt;rw[hkl] at hilt;simp only[qo0,hilt,jab,hvk,hgk,rr.next,h,jeu];cases keqS v.1 g.1<;>rfl
theorem q9h(l:List qaa)(f t:qab)(r:qaa)(hp:S.backPre r f.2 t.2=true)(hl:r.2.2.length<LF):Fz19 LF l f t r=some (S.rkeeps f.2 t.2 r.2.2,()):=by
 unfold S.backPre at hp;rw[jaf] at hp;obtain⟨hlen,hp⟩:=hp;have hlen:=jau hlen;rw[ja6] at hp;simp only[Fz19,qvj,qee,S.rkeeps];by_cases he:f.2.length=t.2.length
 case neg=>rw[jai he];rfl
 rw[jaj he,jbh,jae,jb3];refine qbm (R:=qbq) r.2.2 (fun rest k=>some (S.rkGo f.2 t.2 r.2.2 rest k,())) hl (fun K=>?_) (fun K k g rest rr h=>?_)
 ·simp only[qqd,qaw,jae,S.rkGo]
 ·simp only[qqd,rr.ilt,rr.get,jab,S.rkGo,qa0];by_cases h1:g.2.1=1
  case neg=>rw[jai (show ¬g.2.1=Int.ofNat 1 from h1),jai h1];rfl
  rw[jaj (show g.2.1=Int.ofNat 1 from h1),jaj h1,jbh,jae,jb3];have hcol:=jau (hp g rr.mem) h1;obtain⟨c,c1,c2,c3⟩:=qsw (l:=f.2) hcol (ql4 f.2 g.1 hcol);have hk:k<t.2.length:=by have:=rr.lt;omega
  have d1:jget t.2 (Int.ofNat k)=some t.2[k]:=by rw[qbw];exact jac hk
  have a2:S.at_ S.zCol f.2 (S.col f.2 g.1)=c:=by unfold S.at_;rw[c2];rfl
  have a3:S.at_ S.zCol t.2 (k:Int)=t.2[k]:=by unfold S.at_;simp [hk]
  refine(zfp K rr.get? c1 d1 hl).trans ?_;rw[a2,a3,rr.next,h];cases (r.2.2.take k).any (fun h=>keqS h.1 g.1)<;>cases S.oddC c t.2[k]<;>rfl
theorem zeu:Con Tryz.prog zqd q5k:=zjr ⟨qq0,trivial⟩ fun x y hx h=>⟨LF,by
 have h:cond (S.backPre x.2.2.2.1 x.2.1.2 x.2.2.1.2) (some (S.rkeeps x.2.1.2 x.2.2.1.2 x.2.2.2.1.2.2,())) none=some y:=h;cases hr:S.backPre x.2.2.2.1 x.2.1.2 x.2.2.1.2 with
 | false=>rw[hr] at h;cases h
 | true=>rw[hr] at h;exact(q9h _ _ _ _ hr (qbf hx.2.2.2.1.2.2)).trans h⟩
end Go.Proofs.YtcnhjofpmpipfaaGreat
end

section
noncomputable section
namespace Go.Proofs.YtcnhjofpmpipfaaGreat
open Go Go.Sx Go.RowKit Go.Jx
namespace S
open Go.Jx.S
def rbChk(a b:List qab)(l:List qaa):List qaa->Nat->Bool
 | [],_=>true
 | r::rs,k=>!((l.take k).any fun q=>keqS r.2.1 q.2.1)&&(rkeeps (colsOf a r.1) (colsOf b r.2.1) r.2.2&&rbChk a b l rs (k+1))
def rbIn(now:List DCol)(c:DCol):List qac->Nat->List qac->List qac
 | [],_,acc=>acc
 | g::gs,d,acc=>rbIn now c gs (d+1) (cond (keqS g.1 c.1) (acc++[((at_ zCol now d).1,1,0)]) acc)
def rbCols(now:List DCol)(gs:List qac):List DCol->List qac->List qac
 | [],acc=>acc
 | c::cs,acc=>rbCols now gs cs (rbIn now c gs 0 acc)
def rbRules(a:List qab)(f:qab):List qaa->List qaa->List qaa
 | [],out=>out
 | r::rs,out=>rbRules a f rs (cond (keqS r.2.1 f.1) (out++[(f.1,r.1,rbCols f.2 r.2.2 (colsOf a r.1) [])]) out)
def rbAll(a:List qab)(l:List qaa):List qab->List qaa->List qaa
 | [],out=>out
 | f::fs,out=>rbAll a l fs (rbRules a f l out)
def rBack(a b:List qab)(l:List qaa):List qaa × Bool × Int :=
 if ¬checkRules a b l=0 then ([],false,checkRules a b l)
 else if ¬a.length=b.length then ([],false,0)
 else if rbChk a b l l 0=true then (rbAll a l b [],true,0)
 else ([],false,0)
end S
theorem q3a(now:List DCol)(c:DCol):∀(gs:List qac) (d:Nat) (acc:List qac),(S.rbIn now c gs d acc).length<=acc.length+gs.length
 | [],d,acc=>by simp[S.rbIn]
 | g::gs,d,acc=>by
  rw[S.rbIn];refine ja5 (q3a now c gs (d+1) _) ?_;cases keqS g.1 c.1<;>simp<;>omega
theorem qzd(a:List qab)(f:qab):∀(rs out:List qaa),(S.rbRules a f rs out).length<=out.length+rs.length
 | [],out=>by simp[S.rbRules]
 | r::rs,out=>by
  rw[S.rbRules];refine ja5 (qzd a f rs _) ?_;cases keqS r.2.1 f.1<;>simp<;>omega
end Go.Proofs.YtcnhjofpmpipfaaGreat

end
end

noncomputable section
set_option maxRecDepth 100000
namespace Go.Proofs.YtcnhjofpmpipfaaGreat
open Go Go.Sx Go.RowKit Go.Jx
section
variable {a b : List qab} {l : List qaa}
theorem rb33(K21:(Int × List qaa)->Option qal)(K24:(Int × List qaa × Int)->Option qal)(K30:(List DCol × ByteArray × ByteArray × ByteArray × Int × Int × List qac × List qaa × Int)->Option qal)
  {cols:List DCol} {k ci ti:Nat} {tn cl fn:ByteArray} {out:List qaa} {s0:List qac} {r:qaa} {c:DCol} {f:qab} (hr:jget l (Int.ofNat k)=some r) (hc:jget cols (Int.ofNat ci)=some c) (hf:jget b (Int.ofNat ti)=some f)
  (hlen:r.2.2.length<=f.2.length) (hs:s0.length<=900) (hg:r.2.2.length<=30) :
  ql6 LF a b l K21 K24 K30 LF (cols,Int.ofNat k,tn,cl,fn,Int.ofNat 0,s0,Int.ofNat ci,out,Int.ofNat ti)=K30 (cols,tn,cl,fn,Int.ofNat k,IntKind.i64.wrap (Int.add (Int.ofNat ci) (Int.ofNat 1)),S.rbIn f.2 c r.2.2 0 s0,out,Int.ofNat ti):=by
 refine range0 (σ:=List qac) (R:=qal) r.2.2 (fun d s=>(cols,Int.ofNat k,tn,cl,fn,d,s,Int.ofNat ci,out,Int.ofNat ti)) (fun d s=>s.length<=900+d) (fun rest d s=>K30 (cols,tn,cl,fn,Int.ofNat k,IntKind.i64.wrap (Int.add (Int.ofNat ci) (Int.ofNat 1)),S.rbIn f.2 c rest d s,out,Int.ofNat ti)) (by unfold LF;omega) (fun K s _=>?_) (fun K d g rest s hI rr h=>?_) s0 (by omega)
 ·simp only[qon,hr,qaw,jae,S.rbIn]
 ·have hd:d<f.2.length:=by have:=rr.lt;omega
  have d1:jget f.2 (Int.ofNat d)=some f.2[d]:=by rw[qbw];exact jac hd
  have a3:S.at_ S.zCol f.2 (d:Int)=f.2[d]:=by unfold S.at_;simp [hd]
  have hble:Nat.ble (Nat.mul (Nat.add s.length 1) 32) 140737488355328=true:=jc0 (by show (s.length+1)*32<=_;have:=rr.lt;omega);simp only[qon,hr,hc,hf,rr.ilt,rr.get,jab,d1,hble,rr.next,S.rbIn,a3];cases keqS g.1 c.1 with
  | true =>
   rw[jab,jab];exact h _ (by show (s++[_]).length<=_;rw[ja4];show s.length+1<=_;omega)
  | false =>
   rw[jae,jae];exact h _ (by omega)
theorem rb30(K21:(Int × List qaa)->Option qal)(K24:(Int × List qaa × Int)->Option qal)
  {cols:List DCol} {k ti:Nat} {tn cl fn:ByteArray} {out:List qaa} {r:qaa} {f:qab} (hr:jget l (Int.ofNat k)=some r) (hf:jget b (Int.ofNat ti)=some f)
  (hlen:r.2.2.length<=f.2.length) (hg:r.2.2.length<=30) (hcl:cols.length<=30) (ho:out.length<=1000) :
  qlc LF a b l K21 K24 LF (cols,tn,cl,fn,Int.ofNat k,Int.ofNat 0,[],out,Int.ofNat ti)=K24 (IntKind.i64.wrap (Int.add (Int.ofNat k) (Int.ofNat 1)),out++[(tn,cl,S.rbCols f.2 r.2.2 cols [])],Int.ofNat ti):=by
 refine range0 (σ:=List qac) (R:=qal) cols (fun ci s=>(cols,tn,cl,fn,Int.ofNat k,ci,s,out,Int.ofNat ti)) (fun ci s=>s.length<=30*ci) (fun rest ci s=>K24 (IntKind.i64.wrap (Int.add (Int.ofNat k) (Int.ofNat 1)),out++[(tn,cl,S.rbCols f.2 r.2.2 rest s)],Int.ofNat ti)) (by unfold LF;omega) (fun K s _=>?_) (fun K ci c rest s hI rr h=>?_) [] (by simp)
 ·have hble:Nat.ble (Nat.mul (Nat.add out.length 1) 56) 140737488355328=true:=jc0 (by show (out.length+1)*56<=_;omega);simp only[qmr,qaw,jae,S.rbCols,hble,jab];rfl
 ·simp only[qmr,rr.ilt,jab,S.rbCols];have hs:s.length<=900:=by have:=rr.lt;omega
  refine(rb33 (a:=a) (l:=l) (b:=b) K21 K24 K hr rr.get hf hlen hs hg).trans ?_;rw[rr.next];exact h _ (by have:=q3a f.2 c r.2.2 0 s;omega)
theorem rb24(K21:(Int × List qaa)->Option qal){ti:Nat}{out:List qaa}{f:qab}(hR:RulesOK a b l)(hA:FormsOK a)(hB:FormsOK b)(hf:jget b (Int.ofNat ti)=some f)(hfm:f∈b)(ho:out.length<=24*ti)(hti:ti<=24) :
  qlv LF a b l K21 LF (Int.ofNat 0,out,Int.ofNat ti)=K21 (IntKind.i64.wrap (Int.add (Int.ofNat ti) (Int.ofNat 1)),S.rbRules a f l out):=by
 have hl24:=hR.len;refine range0 (σ:=List qaa) (R:=qal) l (fun k s=>(k,s,Int.ofNat ti)) (fun k s=>s.length<=24*ti+k) (fun rest k s=>K21 (IntKind.i64.wrap (Int.add (Int.ofNat ti) (Int.ofNat 1)),S.rbRules a f rest s)) (by unfold LF;omega) (fun K s _=>?_) (fun K k r rest s hI rr h=>?_) out (by omega)
 ·simp only[qnk,qaw,jae,S.rbRules]
 ·simp only[qnk,rr.ilt,rr.get,hf,jab,S.rbRules,rr.next];cases hk:keqS r.2.1 f.1 with
  | false =>
   rw[jba,jab,jae];exact h _ (by omega)
  | true =>
   rw[jbh,jae,jab];obtain⟨fa,a1,a2,a3,a4⟩:=qcb (hR.has r rr.mem).1;have e:r.2.1=f.1:=jau hk;have hcb:S.colsOf b r.2.1=f.2:=by rw[e];exact qpi hB hfm
   have hgl:=hR.glen r rr.mem;rw[hcb] at hgl;have hf30:=(hB.cols f hfm).len;have ha30:=(hA.cols fa a3).len;simp only[a1];refine(rb30 (a:=a) (l:=l) (b:=b) (r:=r) (f:=f) K21 K rr.get hf (by omega) (by omega) ha30 (by have:=rr.lt;omega)).trans ?_;rw[rr.next,a2];exact h _ (by rw[ja4];show s.length+1<=_;omega)
theorem rb21(hR:RulesOK a b l)(hA:FormsOK a)(hB:FormsOK b):qkh LF a b l LF (Int.ofNat 0,[])=some ((S.rbAll a l b [],true,0),()):=by
 have hl24:=hR.len;have hb24:=hB.len;refine range0 (σ:=List qaa) (R:=qal) b (fun k s=>(k,s)) (fun k s=>s.length<=24*k) (fun rest k s=>some ((S.rbAll a l rest s,true,0),())) (by unfold LF;omega) (fun K s _=>?_) (fun K k f rest s hI rr h=>?_) [] (by simp)
 ·simp only[qmj,qaw,jae,S.rbAll];rfl
 ·simp only[qmj,rr.ilt,jab,S.rbAll];refine(rb24 (a:=a) (l:=l) (b:=b) K hR hA hB rr.get rr.mem hI (by have:=rr.lt;omega)).trans ?_;rw[rr.next];exact h _ (by have:=qzd a f l s;omega)
theorem rb10(hR:RulesOK a b l)(hA:FormsOK a)(hB:FormsOK b)(K7:Int->Option qal){i:Nat}{r:qaa}(hr:l[i]?=some r) :
  qli LF a b l K7 LF (Int.ofNat i,Int.ofNat 0)=cond (!((l.take i).any fun q=>keqS r.2.1 q.2.1)&&S.rkeeps (S.colsOf a r.1) (S.colsOf b r.2.1) r.2.2) (K7 (IntKind.i64.wrap (Int.add (Int.ofNat i) (Int.ofNat 1)))) (some (([],false,0),())):=by
 have hl24:=hR.len;have hi:i<l.length:=(jal.1 hr).1;have hil:(l.take i).length=i:=by rw[jbx];omega
 have hri:jget l (Int.ofNat i)=some r:=by rw[qbw];exact hr
 have hrm:=jbr hr;refine range0 (σ:=Unit) (R:=qal) (l.take i) (fun k _=>(Int.ofNat i,k)) (fun _ _=>True) (fun rest k _=>cond (!(rest.any fun q=>keqS r.2.1 q.2.1)&&S.rkeeps (S.colsOf a r.1) (S.colsOf b r.2.1) r.2.2) (K7 (IntKind.i64.wrap (Int.add (Int.ofNat i) (Int.ofNat 1)))) (some (([],false,0),()))) (by unfold LF;omega) (fun K s _=>?_) (fun K k v rest s _ rr h=>?_) () trivial
 ·obtain⟨fa,a1,a2,a3,a4⟩:=qcb (hR.has r hrm).1;obtain⟨fb,b1,b2,b3,b4⟩:=qcb (hR.has r hrm).2;have hp:=q3k hR hrm;rw[a2,b2] at hp ⊢;rw[hil];simp only[qnr,qaw,jae,hri,a1,b1,jfm,jba,jb3,jfe,hp,jab];cases S.rkeeps fa.2 fb.2 r.2.2<;>rfl
 ·have h:=h () trivial;obtain⟨hik,hv⟩:=q1v rr.get?;have hvk:jget l (Int.ofNat k)=some v:=by rw[qbw];exact hv
  have hilt:=rr.ilt;rw[hil] at hilt;simp only[qnr,hilt,jab,hvk,hri,rr.next,h,jeu];cases keqS r.2.1 v.2.1<;>rfl
theorem q9e(hlen:l.length<LF):Fz20 LF a b l=some (S.rBack a b l,()):=by
 simp only[Fz20,qvg,S.rBack,qa0,qee,oL];by_cases h0:S.checkRules a b l=0
 case neg=>rw[jai h0,jba,jab,jam h0]
 rw[jaj h0,jbh,jae,jak (by simpa using h0)];have h00:S.checkRules0 a b l=0:=by
  unfold S.checkRules at h0;split at h0
  ·exact h0
  ·contradiction
 have hR:=(qm4 a b l).1 h00;have hff:S.first [S.checkForms a,S.checkForms b]=0:=by
  unfold S.checkRules at h0;by_cases hf:S.first [S.checkForms a,S.checkForms b]=0
  ·exact hf
  ·rw[jak hf] at h0;exact absurd h0 hf
 have hA:=qdj (qeu hff).1;have hB:=qdj (qeu hff).2;by_cases he:a.length=b.length
 case neg=>rw[jai (show ¬Int.ofNat a.length=Int.ofNat b.length from fun h=>he (Int.ofNat.inj h)),jba,jab,jam he]
 rw[jaj (show Int.ofNat a.length=Int.ofNat b.length from jcd Int.ofNat he),jbh,jae,jak (by simpa using he)];refine(qbm (R:=qal) l (fun rest i=>cond (S.rbChk a b l rest i) (some ((S.rbAll a l b [],true,0),())) (some (([],false,0),()))) hlen (fun K=>?_) (fun K i r rest rr h=>?_)).trans ?_
 ·simp only[qmv,qaw,jae,S.rbChk,jab];exact rb21 hR hA hB
 ·simp only[qmv,rr.ilt,jab,S.rbChk];refine(rb10 hR hA hB K rr.get?).trans ?_;rw[rr.next,h];cases (l.take i).any (fun q=>keqS r.2.1 q.2.1)<;>cases S.rkeeps (S.colsOf a r.1) (S.colsOf b r.2.1) r.2.2<;>rfl
 ·cases S.rbChk a b l l 0<;>rfl
end

theorem qht{α:Type}[DecidableEq α]:∀(N M:List α),N.Nodup->(∀x∈N,x∈M)->N.length<=M.length
 | [],M,_,_=>jbj _
 | x::N,M,hN,hs=>by
  rw[jdg] at hN;have hx:=hs x jbq;have ih:=qht N (M.erase x) hN.2 fun y hy=>(List.mem_erase_of_ne (fun e:y=x=>hN.1 (by rw[<- e];exact hy))).2 (hs y (jbc _ hy));rw[List.length_erase_of_mem hx] at ih;have:0<M.length:=List.length_pos_of_mem hx;simp only[jbk];omega
theorem q35{α β:Type}[DecidableEq β]{f:α->β}{l:List α}{N:List β}(hN:N.Nodup)(hs:∀x∈N,∃a∈l,f a=x)(hl:l.length<=N.length){i j:Nat}(hi:i<l.length)(hj:j<l.length)(e:f l[i]=f l[j]):i=j:=by
 rcases Decidable.em (i=j) with h|h
 ·exact h
 exfalso;have key:=qht N ((l.eraseIdx j).map f) hN fun x hx=>by
  obtain⟨a,ha,rfl⟩:=hs x hx;obtain⟨m,hm,rfl⟩:=jay.1 ha;by_cases hmj:m=j
  ·subst hmj;rw[<- e];exact jd5 (jes.2 ⟨i,hi,h,rfl⟩)
  ·exact jd5 (jes.2 ⟨m,hm,hmj,rfl⟩)
 rw[jbd,List.length_eraseIdx_of_lt hj] at key;omega
theorem q3r{l:List qab}(h:FormsOK l):(l.map fun f=>f.1).Nodup:=by
 rw[jb7,jcy];intro i j hi hj hij e;simp only[jbd] at hi hj;simp only[jb8] at e;have h1:=quj h hi;have h2:=quj h hj;rw[e,h2] at h1;omega
theorem q2x{a b:List qab}{l:List qaa}(h:RulesOK a b l):(l.map fun r=>r.1).Nodup:=by
 rw[jb7,jcy];intro i j hi hj hij e;simp only[jbd] at hi hj;simp only[jb8] at e;have h1:=h.one j hj;unfold S.ruleOf at h1;cases hf:(l.take j).find? (fun r:qaa=>keqS r.1 l[j].1) with
 | some r=>rw[hf] at h1;cases h1
 | none =>
  rw[je4] at hf;have hi2:i<(l.take j).length:=by simp;omega
  have:=hf ((l.take j)[i]) (ja0 hi2);rw[jca] at this;exact this (jaj e)
theorem q48{a b:List qab}{l:List qaa}(hA:FormsOK a)(h:RulesOK a b l):l.length=a.length:=by
 have h1:=qht _ (a.map fun f=>f.1) (q2x h) fun x hx=>by
  obtain⟨r,hr,rfl⟩:=jbu.1 hx;obtain⟨f,_,_,f3,f4⟩:=qcb (h.has r hr).1;exact jbu.2 ⟨f,f3,f4⟩
 have h2:=qht _ (l.map fun r=>r.1) (q3r hA) fun x hx=>by
  obtain⟨f,hf,rfl⟩:=jbu.1 hx;obtain⟨m1,m2⟩:=q2h (h.all f hf);exact jbu.2 ⟨_,m1,m2⟩
 simp only[jbd] at h1 h2;omega

def bkK(was:List DCol)(g:qac):Nat:=(S.col was g.1).toNat
theorem qp5{acc:List qac}{k m:Nat}{x:qac}(h:m≠k):S.at_ S.zGive (acc.set k x) (m:Int)=S.at_ S.zGive acc (m:Int):=by
 unfold S.at_;simp only[jcn];rw[jc1 (jey h)]
theorem qun{acc:List qac}{k:Nat}{x:qac}(h:k<acc.length):S.at_ S.zGive (acc.set k x) (k:Int)=x:=by
 unfold S.at_;simp only[jcn];rw[jc6 h];rfl
theorem q52{l:List qaa}{was now:List DCol}:∀{rest:List qac} {i:Nat} {acc gs:List qac},S.bkGo l was now rest i acc=some gs->(∀g∈rest,g.2.1=1->0<=S.col was g.1)->acc.length=was.length ->
  gs.length=acc.length/\(∀k:Nat,k<acc.length->¬(S.at_ S.zGive acc k).2.1=0->S.at_ S.zGive gs k=S.at_ S.zGive acc k) /\
  (∀m (h:m<rest.length),rest[m].2.1=1/\0<=S.col was rest[m].1/\S.keeps l (S.at_ S.zCol was (S.col was rest[m].1)) (S.at_ S.zCol now ((i+m:Nat):Int))=true/\(S.at_ S.zGive acc (bkK was rest[m])).2.1=0 /\
   S.at_ S.zGive gs (bkK was rest[m])=((S.at_ S.zCol now ((i+m:Nat):Int)).1,1,0)) /\
  (∀m m' (h:m<rest.length) (h':m'<rest.length),m<m'->bkK was rest[m]≠bkK was rest[m'])
 | [],i,acc,gs,h,_,_=>by
  simp only[S.bkGo,ja7] at h;subst h;exact⟨rfl,fun k _ _=>rfl,fun m h=>(by simp at h),fun m m' h=>(by simp at h)⟩
 | g::rest,i,acc,gs,h,hp,hl=>by
  rw[S.bkGo] at h;by_cases h1:g.2.1=1
  case neg=>rw[jam h1] at h;cases h
  rw[jak (by simpa using h1)] at h;have hc:=hp g jbq h1;have hcl:=ql4 was g.1 hc;have hk:((bkK was g:Nat):Int)=S.col was g.1:=by unfold bkK;omega
  have hkl:bkK was g<acc.length:=by rw[hl];omega
  by_cases h2:(S.at_ S.zGive acc (S.col was g.1)).2.1=0
  case neg=>rw[jam h2] at h;cases h
  rw[jak (by simpa using h2)] at h;cases h3:S.keeps l (S.at_ S.zCol was (S.col was g.1)) (S.at_ S.zCol now (i:Int)) with
  | false=>rw[jam h3] at h;cases h
  | true =>
  rw[jak (by simp[h3])] at h;obtain⟨q1,q2,q3,q4⟩:=q52 h (fun g' hg'=>hp g' (jbc _ hg')) (by simpa using hl);have hset:(S.col was g.1).toNat=bkK was g:=rfl;rw[hset] at q1 q2 q3;simp only[jb9] at q1 q2;have hne:∀m (hm:m<rest.length),bkK was rest[m]≠bkK was g:=fun m hm e=>by
   have:=(q3 m hm).2.2.2.1;rw[e,qun hkl] at this;exact absurd this (show ¬(1:Int)=0 by decide)
  refine⟨q1,fun k hkk hn=>?_,fun m hm=>?_,fun m m' hm hm' hlt=>?_⟩
  ·have hkne:k≠bkK was g:=fun e=>by
    apply hn;rw[e,hk];exact h2
   rw[q2 k hkk (by rw[qp5 hkne];exact hn),qp5 hkne]
  ·cases m with
   | zero =>
    refine⟨h1,hc,h3,by simp only[jcu];rw[hk];exact h2,?_⟩;simp only[jcu,jby];rw[q2 _ hkl (by rw[qun hkl];show ¬(1:Int)=0;decide),qun hkl]
   | succ m =>
    have hm':m<rest.length:=by simpa using hm
    obtain⟨z1,z2,z3,z4,z5⟩:=q3 m hm';have e:i+1+m=i+(m+1):=by omega
    rw[e] at z3 z5;simp only[jcv];refine⟨z1,z2,z3,?_,z5⟩;rw[qp5 (hne m hm')] at z4;exact z4
  ·cases m' with
   | zero=>omega
   | succ m' =>
    have hm2:m'<rest.length:=by simpa using hm'
    cases m with
    | zero=>simp only[jcu,jcv];exact(hne m' hm2).symm
    | succ m=>simp only[jcv];exact q4 m m' (by simpa using hm) hm2 (by omega)
theorem qy5{l:List qaa}{was now:List DCol}:∀{rest:List qac} {i:Nat} {acc:List qac},acc.length=was.length->(∀m (h:m<rest.length),rest[m].2.1=1/\0<=S.col was rest[m].1/\S.keeps l (S.at_ S.zCol was (S.col was rest[m].1)) (S.at_ S.zCol now ((i+m:Nat):Int))=true/\(S.at_ S.zGive acc (bkK was rest[m])).2.1=0) ->
  (∀m m' (h:m<rest.length) (h':m'<rest.length),m<m'->bkK was rest[m]≠bkK was rest[m'])->∃gs,S.bkGo l was now rest i acc=some gs
 | [],i,acc,_,_,_=>⟨acc,by rw[S.bkGo]⟩
 | g::rest,i,acc,hl,h,hi=>by
  obtain⟨h1,h2,h3,h4⟩:=h 0 (by simp);simp only[jcu,jby] at h1 h2 h3 h4;have hk:((bkK was g:Nat):Int)=S.col was g.1:=by unfold bkK;omega
  rw[hk] at h4;obtain⟨gs,e⟩:=qy5 (l:=l) (was:=was) (now:=now) (rest:=rest) (i:=i+1) (acc:=acc.set (bkK was g) ((S.at_ S.zCol now i).1,1,0)) (by simpa using hl) (fun m hm=>by
   obtain⟨z1,z2,z3,z4⟩:=h (m+1) (by simpa using hm);simp only[jcv] at z1 z2 z3 z4;have e:i+1+m=i+(m+1):=by omega
   rw[e];refine⟨z1,z2,z3,?_⟩;have hne:=hi 0 (m+1) (by simp) (by simpa using hm) (by omega);simp only[jcu,jcv] at hne;rw[qp5 (jey hne)];exact z4) fun m m' hm hm' hlt=>by
    have:=hi (m+1) (m'+1) (by simpa using hm) (by simpa using hm') (by omega);simpa using this
  refine⟨gs,?_⟩;rw[S.bkGo,jak (by simpa using h1),jak (by simpa using h4),jak (by simp[h3])];exact e
structure Und (A B:List qab) (l:List qaa) (r q:qaa):Prop where
 cls:q.1=r.2.1
 to:q.2.1=r.1
 n1:r.2.2.length=(S.colsOf A r.1).length
 n2:r.2.2.length=(S.colsOf B r.2.1).length
 n3:q.2.2.length=r.2.2.length
 how:∀i (h:i<r.2.2.length),r.2.2[i].2.1=1
 fwd:∀i (h:i<r.2.2.length),∃(k:Nat) (h1:k<(S.colsOf A r.1).length) (h2:k<q.2.2.length) (h3:i<(S.colsOf B r.2.1).length),S.col (S.colsOf A r.1) r.2.2[i].1=k/\q.2.2[k]=((S.colsOf B r.2.1)[i].1,1,0)/\S.keeps l (S.colsOf A r.1)[k] (S.colsOf B r.2.1)[i]=true
 bwd:∀k (h:k<(S.colsOf A r.1).length),∃(i:Nat) (h1:i<r.2.2.length),S.col (S.colsOf A r.1) r.2.2[i].1=k
theorem zkt{A B:List qab}{l:List qaa}(hR:RulesOK A B l){r:qaa}(hr:r∈l)(h:(S.back l r (S.colsOf A r.1) (S.colsOf B r.2.1)).2=true):Und A B l r (S.back l r (S.colsOf A r.1) (S.colsOf B r.2.1)).1:=by
 have hgl:=hR.glen r hr;unfold S.back at h ⊢;by_cases hlen:(S.colsOf A r.1).length=(S.colsOf B r.2.1).length
 case neg=>rw[jam hlen] at h;cases h
 rw[jak (by simpa using hlen)] at h ⊢;cases hg:S.bkGo l (S.colsOf A r.1) (S.colsOf B r.2.1) r.2.2 0 (Go.Jx.S.rep (S.colsOf A r.1).length S.zGive) with
 | none=>rw[hg] at h;cases h
 | some gs =>
 have hp:∀g∈r.2.2,g.2.1=1->0<=S.col (S.colsOf A r.1) g.1:=fun g hg h1=>by
   obtain⟨k,hk,rfl⟩:=jay.1 hg;have:=hR.gok r hr k hk (by rw[<- hgl];exact hk);exact(qxv this).2 (by rw[h1];rfl)
 have hrl:(Go.Jx.S.rep (S.colsOf A r.1).length S.zGive).length=(S.colsOf A r.1).length:=by unfold Go.Jx.S.rep;simp
 obtain⟨q1,q2,q3,q4⟩:=q52 hg hp hrl;rw[hrl] at q1;have fwd:∀i (h:i<r.2.2.length),∃(k:Nat) (h1:k<(S.colsOf A r.1).length) (h2:k<gs.length) (h3:i<(S.colsOf B r.2.1).length),S.col (S.colsOf A r.1) r.2.2[i].1=k/\gs[k]=((S.colsOf B r.2.1)[i].1,1,0)/\S.keeps l (S.colsOf A r.1)[k] (S.colsOf B r.2.1)[i]=true/\k=bkK (S.colsOf A r.1) r.2.2[i]:=fun i hi=>by
   obtain⟨z1,z2,z3,z4,z5⟩:=q3 i hi;have hcl:=ql4 _ _ z2;have hk:((bkK (S.colsOf A r.1) r.2.2[i]:Nat):Int)=S.col (S.colsOf A r.1) r.2.2[i].1:=by unfold bkK;omega
   have hka:bkK (S.colsOf A r.1) r.2.2[i]<(S.colsOf A r.1).length:=by omega
   have hi3:i<(S.colsOf B r.2.1).length:=by rw[<- hgl];exact hi
   refine⟨_,hka,by rw[q1];exact hka,hi3,hk.symm,?_,?_,rfl⟩
   · rw[ja9,qeo _ hi3,qeo _ (by rw[q1];exact hka)] at z5;exact z5
   · rw[ja9,qeo _ hi3,<- hk,qeo _ hka] at z3;exact z3
 refine⟨rfl,rfl,by rw[hgl,hlen],hgl,by rw[hgl,<- hlen];exact q1,fun i hi=>(q3 i hi).1,fun i hi=>?_,fun k hk=>?_⟩
 · obtain⟨k,h1,h2,h3,h4,h5,h6,_⟩:=fwd i hi;exact⟨k,h1,h2,h3,h4,h5,h6⟩
 · -- the places that are filled are all
   rcases Decidable.em (∃(i:Nat) (h1:i<r.2.2.length),S.col (S.colsOf A r.1) r.2.2[i].1=k) with hh|hh
   · exact hh
   exfalso;have hnd:(r.2.2.map (bkK (S.colsOf A r.1))).Nodup:=by
     rw[jb7,jcy];intro i j hi hj hij;simp only[jb8];simp only[jbd] at hi hj;exact q4 i j hi hj hij
   have hk2:k ∉ r.2.2.map (bkK (S.colsOf A r.1)):=fun hm=>by
     obtain⟨g,hg,e⟩:=jbu.1 hm;obtain⟨i,hi,rfl⟩:=jay.1 hg;obtain⟨k',_,_,_,h4,_,_,h7⟩:=fwd i hi;exact hh ⟨i,hi,by rw[h4,h7,e]⟩
   have key:=qht (k::r.2.2.map (bkK (S.colsOf A r.1))) (List.range (S.colsOf A r.1).length) (jdg.2 ⟨hk2,hnd⟩) fun x hx=>by
     rw[jej];rcases ja1.1 hx with e|e
     · rw[e];exact hk
     · obtain⟨g,hg,e⟩:=jbu.1 e;obtain⟨i,hi,rfl⟩:=jay.1 hg;obtain⟨k',h1,_,_,_,_,_,h7⟩:=fwd i hi;rw[<- e,<- h7];exact h1
   simp only[jbk,jbd,jds] at key;omega

theorem q1t{A:List qab}{l:List qaa}:∀{fs:List qab} {acc out:List qaa},S.bkAll A l fs acc=some out->out.length=acc.length+fs.length/\(∀k (h:k<acc.length) (h':k<out.length),out[k]=acc[k]) /\
  ∀k (h:k<fs.length) (h':acc.length+k<out.length),∃r∈l,r.2.1=fs[k].1/\(S.back l r (S.colsOf A r.1) fs[k].2).2=true/\out[acc.length+k]=(S.back l r (S.colsOf A r.1) fs[k].2).1
 | [],acc,out,h=>by
  simp only[S.bkAll,ja7] at h;subst h;exact⟨by simp,fun k _ _=>rfl,fun k h=>(by simp at h)⟩
 | f::fs,acc,out,h=>by
  rw[S.bkAll] at h;by_cases hi:Go.Jx.S.idx (fun r:qaa=>keqS r.2.1 f.1) l<0
  ·simp only[jam hi] at h;cases h
  simp only[jak hi] at h;obtain⟨r,r1,r2,r3,r4,_,_⟩:=Go.Jx.S.idx_get (p:=fun r:qaa=>keqS r.2.1 f.1) (l:=l) (by omega);have r3:r.2.1=f.1:=jau r3;have e:S.at_ S.zRule l (Go.Jx.S.idx (fun r:qaa=>keqS r.2.1 f.1) l)=r:=by unfold S.at_;rw[r2];rfl
  rw[e] at h;by_cases hb:(S.back l r (S.colsOf A r.1) f.2).2=true
  case neg=>rw[jak hb] at h;cases h
  rw[jam hb] at h;obtain⟨k1,k2,k3⟩:=q1t h;simp only[ja4,jbk,jce] at k1 k2 k3;refine⟨by simp only[jbk];omega,fun k h1 h2=>?_,fun k h1 h2=>?_⟩
  ·rw[k2 k (by omega) h2,jb5 h1]
  ·cases k with
   | zero =>
    refine⟨r,r4,r3,hb,?_⟩;simp only[jby];rw[k2 acc.length (by omega) h2,jb1 (jap _)];simp
   | succ k =>
    have h1':k<fs.length:=by simpa using h1
    obtain⟨r',a1,a2,a3,a4⟩:=k3 k h1' (by omega);refine⟨r',a1,a2,a3,?_⟩;simp only[jcv];rw[<- a4];congr 1;omega
theorem q7r{A:List qab}{l:List qaa}:∀{fs:List qab} {acc:List qaa},(∀f∈fs,(∃r∈l,r.2.1=f.1)/\∀r∈l,r.2.1=f.1->(S.back l r (S.colsOf A r.1) f.2).2=true)->∃out,S.bkAll A l fs acc=some out/\out.length=acc.length+fs.length
 | [],acc,_=>⟨acc,by rw[S.bkAll],by simp⟩
 | f::fs,acc,h=>by
  obtain⟨⟨r0,r01,r02⟩,h2⟩:=h f jbq;have hi:0<=Go.Jx.S.idx (fun r:qaa=>keqS r.2.1 f.1) l:=zbd (p:=fun r:qaa=>keqS r.2.1 f.1) r01 (jaj r02);obtain⟨r,r1,r2,r3,r4,_,_⟩:=Go.Jx.S.idx_get (p:=fun r:qaa=>keqS r.2.1 f.1) (l:=l) hi;have r3:r.2.1=f.1:=jau r3;have e:S.at_ S.zRule l (Go.Jx.S.idx (fun r:qaa=>keqS r.2.1 f.1) l)=r:=by unfold S.at_;rw[r2];rfl
  obtain⟨out,o1,o2⟩:=q7r (A:=A) (l:=l) (fs:=fs) (acc:=acc++[(S.back l r (S.colsOf A r.1) f.2).1]) fun f' hf'=>h f' (jbc _ hf');refine⟨out,?_,by simp only[ja4,jbk,jce] at o2 ⊢;omega⟩;rw[S.bkAll];simp only[jak (show ¬Go.Jx.S.idx (fun r:qaa=>keqS r.2.1 f.1) l<0 by omega)];rw[e,jam (h2 r r4 r3)];exact o1
structure BackOK (A B:List qab) (l b:List qaa):Prop where
 fa:FormsOK A
 fb:FormsOK B
 ca:S.checkForms A=0
 cb:S.checkForms B=0
 ra:RulesOK A B l
 len:b.length=l.length
 lenB:b.length=B.length
 cls:∀k (h:k<B.length) (h':k<b.length),b[k].1=B[k].1
 und:∀q∈b,∃r∈l,Und A B l r q
 inj:∀r∈l,∀r'∈l,r.2.1=r'.2.1->r=r'
theorem zfb{A B:List qab}{l b:List qaa}(h:S.Back A B l=(b,true,0)):BackOK A B l b:=by
 unfold S.Back at h;by_cases h0:S.checkRules A B l=0
 case neg=>rw[jam h0] at h;exact absurd (jdp (jdp h).2).1 (by decide)
 rw[jak (by simpa using h0)] at h;have hff:S.first [S.checkForms A,S.checkForms B]=0/\S.checkRules0 A B l=0:=by
  unfold S.checkRules at h0;by_cases hf:S.first [S.checkForms A,S.checkForms B]=0
  ·rw[jam hf] at h0;exact⟨hf,h0⟩
  ·rw[jak hf] at h0;exact absurd h0 hf
 obtain⟨ca,cb⟩:=qeu hff.1;have hR:=(qm4 _ _ _).1 hff.2;have hA:=qdj ca;have hB:=qdj cb;cases hk:S.bkAll A l B [] with
 | none=>rw[hk] at h;exact absurd (jdp (jdp h).2).1 (by decide)
 | some out =>
 rw[hk] at h;by_cases hl:out.length=l.length
 case neg =>
  simp only[jam (show ¬out.length=l.length from hl)] at h;exact absurd (jdp (jdp h).2).1 (by decide)
 simp only[jak (show ¬¬out.length=l.length from fun hh=>hh hl)] at h;obtain rfl:=(jdp h).1;obtain⟨k1,_,k3⟩:=q1t hk;simp only[jce,ja9] at k1 k3;have ent:∀k (h1:k<B.length) (h2:k<out.length),∃r∈l,r.2.1=B[k].1/\Und A B l r out[k]:=fun k h1 h2=>by
  obtain⟨r,r1,r2,r3,r4⟩:=k3 k h1 h2;have hc:S.colsOf B r.2.1=B[k].2:=by rw[r2];exact q4k hB h1
  rw[<- hc] at r3 r4;exact⟨r,r1,r2,by rw[r4];exact zkt hR r1 r3⟩
 refine⟨hA,hB,ca,cb,hR,hl,k1,fun k h1 h2=>?_,fun q hq=>?_,fun r hr r' hr' e=>?_⟩
 ·obtain⟨r,_,r2,u⟩:=ent k h1 h2;rw[u.cls,r2]
 ·obtain⟨k,hk2,rfl⟩:=jay.1 hq;obtain⟨r,r1,_,u⟩:=ent k (by rw[<- k1];exact hk2) hk2;exact⟨r,r1,u⟩
 ·obtain⟨i,hi,rfl⟩:=jay.1 hr;obtain⟨j,hj,rfl⟩:=jay.1 hr';have:=q35 (f:=fun r:qaa=>r.2.1) (l:=l) (q3r hB) (fun x hx=>by
   obtain⟨f,hf,rfl⟩:=jbu.1 hx;obtain⟨k,hk2,rfl⟩:=jay.1 hf;obtain⟨r,r1,r2,_⟩:=ent k hk2 (by rw[k1];exact hk2);exact⟨r,r1,r2⟩) (by simp only[jbd];omega) hi hj e
  subst this;rfl
section
variable {A B : List qab} {l b : List qaa}
theorem q9f(h:BackOK A B l b){r:qaa}(hr:r∈l):∃q∈b,Und A B l r q:=by
 obtain⟨f,_,_,f3,f4⟩:=qcb (h.ra.has r hr).2;obtain⟨k,hk,rfl⟩:=jay.1 f3;have hk2:k<b.length:=by rw[h.lenB];exact hk
 obtain⟨r',r1,u⟩:=h.und _ (ja0 hk2);have:r=r':=h.inj r hr r' r1 (by rw[<- u.cls,h.cls k hk hk2,f4]);exact⟨_,ja0 hk2,this▸u⟩
end
theorem q7n{was now:List DCol}{gs:List qac}:∀{rest:List qac} {k:Nat},gs.drop k=rest->(S.rkGo was now gs rest k=true↔∀m (h:k+m<gs.length),gs[k+m].2.1=1/\(∀q∈gs.take (k+m),q.1≠gs[k+m].1)/\S.oddC (S.at_ S.zCol was (S.col was gs[k+m].1)) (S.at_ S.zCol now ((k+m:Nat):Int))=false)
 | [],k,hd=>by
  have:gs.length<=k:=by simpa using hd
  simp only[S.rkGo,true_iff];intro m h;omega
 | g::rest,k,hd=>by
  obtain⟨hk,h1,h2⟩:=qgi hd;have ih:=q7n (was:=was) (now:=now) h2;rw[S.rkGo];simp only[jaf,jax,ih,jch,jei];constructor
  ·rintro⟨a1,a2,a3,a4⟩ m h;cases m with
   | zero =>
    simp only[jby,h1];exact⟨a1,fun q hq e=>a2 q hq (jaj e),a3⟩
   | succ m =>
    have:=a4 m (by omega);have e:k+1+m=k+(m+1):=by omega
    simp only[e] at this;exact this
  ·intro h;have h0:=h 0 (by omega);simp only[jby,h1] at h0;refine⟨h0.1,fun q hq e=>h0.2.1 q hq (jau e),h0.2.2,fun m hm=>?_⟩;have:=h (m+1) (by omega);have e:k+1+m=k+(m+1):=by omega
   simp only[e];exact this
structure Keep (was now:List DCol) (gs:List qac):Prop where
 len:was.length=now.length
 all:∀m (h:m<gs.length),gs[m].2.1=1/\(∀q∈gs.take m,q.1≠gs[m].1)/\S.oddC (S.at_ S.zCol was (S.col was gs[m].1)) (S.at_ S.zCol now (m:Int))=false
theorem q75{was now:List DCol}{gs:List qac}:S.rkeeps was now gs=true↔Keep was now gs:=by
 unfold S.rkeeps;rw[jaf,jax,q7n (k:=0) (by simp)];constructor
 ·rintro⟨h1,h2⟩;refine⟨h1,fun m h=>?_⟩;have:=h2 m (by omega);simp only[ja9] at this;exact this
 ·rintro⟨h1,h2⟩;refine⟨h1,fun m h=>?_⟩;simp only[ja9];exact h2 m (by omega)
theorem zc2{l:List qaa}{c d:DCol}(h:S.keeps l c d=true):S.oddC c d=false:=by
 unfold S.oddC;unfold S.keeps at h;by_cases h3:c.2.1=3
 ·rw[jak (by simpa using h3)] at h;rw[jaj h3,jb3,je5,jax];by_cases ha:c.2.2=S.ANY\/d.2.2=S.ANY
  ·rw[jam ha] at h;rw[jau h]
  ·rw[not_or] at ha;unfold keqS;rw[jai ha.1,jai ha.2]
 ·rw[jai h3];rfl
theorem q87{l:List qaa}{c d:DCol}(h:S.oddC c d=false)(hl:c.2.1=3->S.leads l c.2.2 d.2.2=true):S.keeps l c d=true:=by
 unfold S.keeps;by_cases h3:c.2.1=3
 case neg=>rw[jam h3]
 rw[jak (by simpa using h3)];unfold S.oddC at h;rw[jaj h3,jb3,je5,jax] at h;unfold keqS at h;by_cases ha:c.2.2=S.ANY
 ·rw[jaj ha] at h;have hd:=jau h.symm;rw[jam (.inl ha)];exact jaj (ha.trans hd.symm)
 ·rw[jai ha] at h;have hd:=jda h.symm;rw[jak (by rw[not_or];exact⟨ha,hd⟩)];exact hl h3
section
variable {A B : List qab} {l b : List qaa}
theorem zaf(hR:RulesOK A B l){r:qaa}(hr:r∈l)(h:Keep (S.colsOf A r.1) (S.colsOf B r.2.1) r.2.2):(S.back l r (S.colsOf A r.1) (S.colsOf B r.2.1)).2=true:=by
 have hgl:=hR.glen r hr;have hok:∀m (hm:m<r.2.2.length),GiveOK l r.2.2[m] (S.colsOf A r.1) ((S.colsOf B r.2.1)[m]'(by omega)):=fun m hm=>(zhf _ _ _ _).1 (hR.gok r hr m hm (by omega));have hcol:∀m (hm:m<r.2.2.length),0<=S.col (S.colsOf A r.1) r.2.2[m].1:=fun m hm=>(hok m hm).src (by have:=(h.all m hm).1;omega);unfold S.back;rw[jak (by simpa using h.len)];obtain⟨gs,hgs⟩:=qy5 (l:=l) (was:=S.colsOf A r.1) (now:=S.colsOf B r.2.1) (rest:=r.2.2) (i:=0) (acc:=S.rep (S.colsOf A r.1).length S.zGive) (by simp[S.rep]) (fun m hm=>by
  obtain⟨k1,k2,k3⟩:=h.all m hm;refine⟨k1,hcol m hm,?_,?_⟩
  ·rw[ja9];refine q87 k3 fun h3=>?_;have h1:=(hok m hm).h1 k1;rw[qeo S.zCol (show m<(S.colsOf B r.2.1).length by omega)];exact h1.2 (by rw[<- h1.1];exact h3)
  ·have key:∀n k:Nat,((List.replicate n S.zGive)[k]?).getD S.zGive=S.zGive:=fun n k=>by
    rw[List.getElem?_replicate];split<;>rfl
   show (((List.replicate _ S.zGive)[_]?).getD S.zGive).2.1=0;rw[key];rfl) (fun m m' hm hm' hlt e=>by
  have h1:=qtk (hcol m hm);have h2:=qtk (hcol m' hm');obtain⟨k,hk,c1,_,c2⟩:=h1;obtain⟨k',hk',c1',_,c2'⟩:=h2;unfold bkK at e;rw[c1,c1'] at e;have e:k=k':=by simpa using e
  subst e;exact(h.all m' hm').2.1 r.2.2[m] (jay.2 ⟨m,by rw[jbx];omega,by rw[jca]⟩) (c2.symm.trans c2'))
 rw[hgs]
theorem qzw{r q:qaa}(cA:ColsOK (S.colsOf A r.1))(u:Und A B l r q):Keep (S.colsOf A r.1) (S.colsOf B r.2.1) r.2.2:=by
 refine⟨u.n1.symm.trans u.n2,fun m hm=>⟨u.how m hm,fun x hx e=>?_,?_⟩⟩
 ·obtain⟨i,hi,rfl⟩:=jay.1 hx;rw[jbx] at hi;rw[jca] at e;have hinj:=q35 (f:=fun g:qac=>S.col (S.colsOf A r.1) g.1) (l:=r.2.2) (N:=(List.range (S.colsOf A r.1).length).map fun k:Nat=>(k:Int)) (by
   rw[jb7,List.pairwise_map];exact jfj.imp fun h e=>h (Int.ofNat.inj e)) (fun x hx=>by
   obtain⟨k,hk,rfl⟩:=jbu.1 hx;obtain⟨i,h1,h2⟩:=u.bwd k (by simpa using hk);exact⟨_,ja0 h1,h2⟩) (by rw[jbd,jds,u.n1];exact jap _) (i:=i) (j:=m) (by omega) hm (by show S.col _ _=S.col _ _;rw[e])
  omega
 ·obtain⟨k,h1,h2,h3,e1,_,e3⟩:=u.fwd m hm;rw[e1,qeo S.zCol h1,qeo S.zCol h3];exact zc2 e3
theorem qxt{now:List DCol}{c:DCol}:∀{gs:List qac} {d:Nat} {acc:List qac},(∀g∈gs,g.1≠c.1)->S.rbIn now c gs d acc=acc
 | [],d,acc,_=>rfl
 | g::gs,d,acc,h=>by
  rw[S.rbIn,show keqS g.1 c.1=false from jai (h g jbq),jae];exact qxt fun x hx=>h x (jbc _ hx)
theorem q56{now:List DCol}{c:DCol}:∀{gs:List qac} {d i:Nat} {acc:List qac} (hi:i<gs.length),gs[i].1=c.1->(∀j (h:j<gs.length),gs[j].1=c.1->j=i)->S.rbIn now c gs d acc=acc++[((S.at_ S.zCol now ((d+i:Nat):Int)).1,1,0)]
 | g::gs,d,0,acc,hi,he,hu=>by
  rw[S.rbIn,show keqS g.1 c.1=true from jaj he,jab];refine qxt fun x hx e=>?_;obtain⟨j,hj,rfl⟩:=jay.1 hx;have:=hu (j+1) (by simpa using hj) (by simpa using e);omega
 | g::gs,d,i+1,acc,hi,he,hu=>by
  have hne:¬g.1=c.1:=fun e=>by
   have:=hu 0 (by simp) e;omega
  rw[S.rbIn,show keqS g.1 c.1=false from jai hne,jae];have:=q56 (now:=now) (c:=c) (gs:=gs) (d:=d+1) (i:=i) (acc:=acc) (by simpa using hi) (by simpa using he) (fun j hj e=>by
   have:=hu (j+1) (by simpa using hj) (by simpa using e);omega)
  rw[this,show d+1+i=d+(i+1) by omega]
theorem qzp{r q:qaa}(cA:ColsOK (S.colsOf A r.1))(u:Und A B l r q):∀(rest:List DCol) (j:Nat),(S.colsOf A r.1).drop j=rest->S.rbCols (S.colsOf B r.2.1) r.2.2 rest (q.2.2.take j)=q.2.2
 | [],j,hd=>by
  have h1:(S.colsOf A r.1).length<=j:=by simpa using hd
  rw[S.rbCols,jc7 (by rw[u.n3,u.n1];exact h1)]
 | c::rest,j,hd=>by
  obtain⟨hj,h1,h2⟩:=qgi hd;obtain⟨i,hi,e⟩:=u.bwd j hj;obtain⟨k,k1,k2,k3,e1,e2,_⟩:=u.fwd i hi;have hkj:k=j:=by rw[e1] at e;omega
  subst hkj;have hcol:0<=S.col (S.colsOf A r.1) r.2.2[i].1:=by rw[e];omega
  obtain⟨k',hk',c1,_,c2⟩:=qtk hcol;have:k'=k:=by rw[e] at c1;omega
  subst this;rw[S.rbCols,q56 (i:=i) hi (by rw[<- c2,h1]) (fun m hm em=>by
   have kp:=qzw cA u;rcases jfb m i with q1|q1|q1
   ·exact absurd (by rw[em,<- h1,c2]) ((kp.all i hi).2.1 r.2.2[m] (jay.2 ⟨m,by rw[jbx];omega,by rw[jca]⟩))
   ·exact q1
   ·exact absurd (by rw[em,<- h1,c2]) ((kp.all m hm).2.1 r.2.2[i] (jay.2 ⟨i,by rw[jbx];omega,by rw[jca]⟩)))]
  rw[ja9,qeo S.zCol k3,<- e2,<- jdc k2];exact qzp cA u rest (k'+1) h2
theorem q0k{a:List qab}{f:qab}:∀{rs out:List qaa},(∀r∈rs,r.2.1≠f.1)->S.rbRules a f rs out=out
 | [],out,_=>rfl
 | r::rs,out,h=>by
  rw[S.rbRules,show keqS r.2.1 f.1=false from jai (h r jbq),jae];exact q0k fun x hx=>h x (jbc _ hx)
theorem q20{a:List qab}{f:qab}{r:qaa}:∀{rs out:List qaa},r∈rs->r.2.1=f.1->rs.Nodup->(∀x∈rs,x.2.1=f.1->x=r)->S.rbRules a f rs out=out++[(f.1,r.1,S.rbCols f.2 r.2.2 (S.colsOf a r.1) [])]
 | x::rs,out,hm,he,hn,hu=>by
  rw[jdg] at hn;rw[S.rbRules];by_cases hx:x.2.1=f.1
  ·have:=hu x jbq hx;subst this;rw[show keqS x.2.1 f.1=true from jaj hx,jab];refine q0k fun y hy e=>?_;have:=hu y (jbc _ hy) e;subst this;exact hn.1 hy
  ·rw[show keqS x.2.1 f.1=false from jai hx,jae];refine q20 ?_ he hn.2 fun y hy=>hu y (jbc _ hy);rcases ja1.1 hm with e|h
   ·subst e;exact absurd he hx
   ·exact h
theorem qxh(hR:RulesOK A B l):l.Nodup:=by
 have:=q2x hR;rw[jb7,List.pairwise_map] at this;exact this.imp fun h e=>h (by rw[e])
theorem q6x(h:BackOK A B l b):∀(fs:List qab) (k:Nat),B.drop k=fs->S.rbAll A l fs (b.take k)=b
 | [],k,hd=>by
  have h1:B.length<=k:=by simpa using hd
  rw[S.rbAll,jc7 (by rw[h.lenB];exact h1)]
 | f::fs,k,hd=>by
  obtain⟨hk,h1,h2⟩:=qgi hd;have hkb:k<b.length:=by rw[h.lenB];exact hk
  obtain⟨r,hr,u⟩:=h.und b[k] (ja0 hkb);have hto:r.2.1=f.1:=by rw[<- u.cls,h.cls k hk hkb,h1]
  have hfm:f∈B:=by rw[<- h1];exact ja0 hk
  have hcB:S.colsOf B r.2.1=f.2:=by rw[hto];exact qpi h.fb hfm
  have cA:ColsOK (S.colsOf A r.1):=qmu h.fa (h.ra.has r hr).1;rw[S.rbAll,q20 hr hto (qxh h.ra) (fun x hx e=>h.inj x hx r hr (e.trans hto.symm))];have hc:=qzp cA u _ 0 (jdy);rw[List.take_zero,hcB] at hc;rw[hc];have e:(f.1,r.1,b[k].2.2)=b[k]:=by
   have e1:b[k].1=f.1:=by rw[u.cls,hto]
   rw[<- e1,<- u.to]
  rw[e,<- jdc hkb];exact q6x h fs (k+1) h2
theorem qvn:∀{rest:List qaa} {k:Nat},l.drop k=rest->(S.rbChk A B l rest k=true↔∀m (h:k+m<l.length),(∀q∈l.take (k+m),l[k+m].2.1≠q.2.1)/\S.rkeeps (S.colsOf A l[k+m].1) (S.colsOf B l[k+m].2.1) l[k+m].2.2=true)
 | [],k,hd=>by
  have:l.length<=k:=by simpa using hd
  simp only[S.rbChk,true_iff];intro m h;omega
 | r::rest,k,hd=>by
  obtain⟨hk,h1,h2⟩:=qgi hd;have ih:=qvn h2;rw[S.rbChk];simp only[jaf,ih,jch,jei];constructor
  ·rintro⟨a1,a2,a4⟩ m h;cases m with
   | zero =>
    simp only[jby,h1];exact⟨fun q hq e=>a1 q hq (jaj e),a2⟩
   | succ m =>
    have:=a4 m (by omega);have e:k+1+m=k+(m+1):=by omega
    simp only[e] at this;exact this
  ·intro h;have h0:=h 0 (by omega);simp only[jby,h1] at h0;refine⟨fun q hq e=>h0.1 q hq (jau e),h0.2,fun m hm=>?_⟩;have:=h (m+1) (by omega);have e:k+1+m=k+(m+1):=by omega
   simp only[e];exact this
theorem zjl(h:S.Back A B l=(b,true,0)):S.rBack A B l=(b,true,0):=by
 have hb:=zfb h;have h0:S.checkRules A B l=0:=by
  unfold S.Back at h;by_cases h0:S.checkRules A B l=0
  ·exact h0
  ·rw[jam h0] at h;exact absurd (jdp (jdp h).2).1 (by decide)
 have hlen:A.length=B.length:=by rw[<- q48 hb.fa hb.ra,<- hb.len,hb.lenB]
 have hchk:S.rbChk A B l l 0=true:=(qvn (k:=0) (by simp)).2 fun m hm=>by
  simp only[ja9] at hm ⊢;refine⟨fun q hq e=>?_,?_⟩
  ·have e2:=hb.inj _ (ja0 hm) q (List.mem_of_mem_take hq) e;have hn:=qxh hb.ra;obtain⟨i,hi,e3⟩:=jay.1 hq;rw[jbx] at hi;rw[jca] at e3;rw[jb7,jcy] at hn;exact hn i m (by omega) hm (by omega) (e3.trans e2.symm)
  ·obtain⟨q,_,u⟩:=q9f hb (ja0 hm);exact q75.2 (qzw (qmu hb.fa (hb.ra.has _ (ja0 hm)).1) u)
 unfold S.rBack;rw[jak (by simpa using h0),jak (by simpa using hlen),jam hchk];have:=q6x hb B 0 (by simp);rw[List.take_zero] at this;rw[this]
theorem q81(h:(S.rBack A B l).2.1=true):∃out,S.Back A B l=(out,true,0):=by
 unfold S.rBack at h;by_cases h0:S.checkRules A B l=0
 case neg=>rw[jam h0] at h;cases h
 rw[jak (by simpa using h0)] at h;by_cases hlen:A.length=B.length
 case neg=>rw[jam hlen] at h;cases h
 rw[jak (by simpa using hlen)] at h;by_cases hchk:S.rbChk A B l l 0=true
 case neg=>rw[jak hchk] at h;cases h
 have hall:=(qvn (k:=0) (by simp)).1 hchk;simp only[ja9] at hall;have hff:S.first [S.checkForms A,S.checkForms B]=0/\S.checkRules0 A B l=0:=by
  unfold S.checkRules at h0;by_cases hf:S.first [S.checkForms A,S.checkForms B]=0
  ·rw[jam hf] at h0;exact⟨hf,h0⟩
  ·rw[jak hf] at h0;exact absurd h0 hf
 have hR:=(qm4 A B l).1 hff.2;have hA:=qdj (qeu hff.1).1;have hB:=qdj (qeu hff.1).2;have hla:=q48 hA hR;have htos:(l.map fun r=>r.2.1).Nodup:=by
  rw[jb7,jcy];intro i j hi hj hij e;simp only[jbd] at hi hj;simp only[jb8] at e;exact(hall j hj).1 l[i] (jay.2 ⟨i,by rw[jbx];omega,by rw[jca]⟩) e.symm
 have hbk:∀f∈B,(∃r∈l,r.2.1=f.1)/\∀r∈l,r.2.1=f.1->(S.back l r (S.colsOf A r.1) f.2).2=true:=fun f hf=>by
  refine⟨?_,fun r hr e=>?_⟩
  ·by_cases hex:∃r∈l,r.2.1=f.1
   ·exact hex
   exfalso;have hnot:f.1 ∉ l.map fun r=>r.2.1:=fun hm=>by
    obtain⟨r,hr,e⟩:=jbu.1 hm;exact hex ⟨r,hr,e⟩
   have:=qht (f.1::l.map fun r=>r.2.1) (B.map fun f=>f.1) (jdg.2 ⟨hnot,htos⟩) (fun x hx=>by
    rcases ja1.1 hx with rfl|hx
    ·exact jd5 hf
    ·obtain⟨r,hr,rfl⟩:=jbu.1 hx;obtain⟨g,_,_,g3,g4⟩:=qcb (hR.has r hr).2;exact jbu.2 ⟨g,g3,g4⟩)
   simp only[jbk,jbd] at this;omega
  ·obtain⟨m,hm,rfl⟩:=jay.1 hr;have hk:=q75.1 (hall m hm).2;have:=zaf hR hr hk
   rwa [e,qpi hB hf] at this
 obtain⟨out,ho,hol⟩:=q7r (A:=A) (l:=l) (fs:=B) (acc:=[]) hbk;have hl2:out.length=l.length:=by rw[hol,hla,hlen];simp
 refine⟨out,?_⟩;unfold S.Back;rw[jak (by simpa using h0),ho];show (if ¬out.length=l.length then _ else _)=_;rw[jak (by simpa using hl2)]
theorem zj7:S.rBack A B l=S.Back A B l:=by
 by_cases h1:(S.Back A B l).2.1=true
 ·have e:S.Back A B l=((S.Back A B l).1,true,0):=by
   revert h1
   unfold S.Back;by_cases h0:S.checkRules A B l=0
   case neg=>rw[jam h0];intro h;cases h
   rw[jak (by simpa using h0)];cases S.bkAll A l B [] with
   | none=>intro h;cases h
   | some out =>
    show (if ¬out.length=l.length then _ else _:List qaa × Bool × Int).2.1=true->_;by_cases q:out.length=l.length
    ·intro _;show (if ¬out.length=l.length then _ else _:List qaa × Bool × Int)=((if ¬out.length=l.length then _ else _:List qaa × Bool × Int).1,_);rw[jak (by simpa using q)]
    ·rw[jam q];intro h;cases h
  rw[zjl e];exact e.symm
 ·by_cases h2:(S.rBack A B l).2.1=true
  ·obtain⟨out,e⟩:=q81 h2;exact absurd (by rw[e]) h1
  ·have e1:∀x:List qaa × Bool × Int,S.rBack A B l=x->¬x.2.1=true->x=([],false,S.checkRules A B l):=by
    intro x hx hn;subst hx
    revert hn
    unfold S.rBack;by_cases h0:S.checkRules A B l=0
    case neg=>rw[jam h0];intro _;rfl
    rw[jak (by simpa using h0),h0];split
    ·intro _;rfl
    ·split
     ·intro h;exact absurd rfl h
     ·intro _;rfl
   have e2:∀x:List qaa × Bool × Int,S.Back A B l=x->¬x.2.1=true->x=([],false,S.checkRules A B l):=by
    intro x hx hn;subst hx
    revert hn
    unfold S.Back;by_cases h0:S.checkRules A B l=0
    case neg=>rw[jam h0];intro _;rfl
    rw[jak (by simpa using h0),h0];split
    ·intro _;rfl
    ·split
     ·intro _;rfl
     ·intro h;exact absurd rfl h
   rw[e1 _ rfl h2,e2 _ rfl h1]
end
theorem q9s:Con Tryz.prog zh6 qw8:=zbt ⟨q6m,qfi,zeu,trivial⟩ fun x y hx h=>⟨LF,((q9e (a:=x.1) (b:=x.2.1) (l:=x.2.2.1) (qbf hx.2.2.1)).trans (jcd (fun q=>some (q,())) zj7)).trans h⟩
end Go.Proofs.YtcnhjofpmpipfaaGreat
end

section
set_option maxRecDepth 100000
namespace Go.Jx
open Go Go.Sx Go.RowKit
structure X (c:TC) where
 v:El c
theorem zo9{M M':List Nat}{w w':World}(t:Tr M w M' w'):(EM M w).Le (EM M' w'):=⟨fun id h=>h.elim,t⟩
theorem qrj{E:Env}:∀(c:TC) (x:El c) {v:IV} {u:Value},v∈cel c x->VR E v u->one u=true
 | .int k,x,v,u,hm,h=>by cases jbz.1 hm;cases h;rfl
 | .bool,x,v,u,hm,h=>by cases jbz.1 hm;cases h;rfl
 | .str,x,v,u,hm,h=>by cases jbz.1 hm;cases h;rfl
 | .list c,x,v,u,hm,h=>by cases jbz.1 hm;cases h<;>rfl
 | .two a b,x,v,u,hm,h=>by
  rcases jbi.1 hm with h1|h1
  ·exact qrj a x.1 h1 h
  ·exact qrj b x.2 h1 h
instance datX (c:TC):Dat (X c) where
 sz:=csz c
 enc M w cs x:=VRs (EM M w) (cel c x.v) cs
 len h:=h.1.symm.trans (qbn _ _)
 mono h t:=h.mono (zo9 t)
 ones {M w cs x} h:=by
  rw[ja6];intro u hu;obtain⟨i,hi,rfl⟩:=jay.1 hu;have hi':i<(cel c x.v).length:=by rw[h.1];exact hi
  exact qrj c x.v (ja0 hi') (h.2 i hi' hi)
def xl{c:TC}(l:List (El c)):List (X c):=l.map X.mk
theorem qcc{c:TC}{l:List (El c)}:(xl l).length=l.length:=jbd _
theorem qso{c:TC}{l:List (El c)}{i:Nat}(h:i<(xl l).length):(xl l)[i]=⟨l[i]'(by simpa [xl] using h)⟩:=by simp[xl]
theorem vr_sl{M:List Nat}{w:World}{c:TC}{a:Option Addr}{cap:Nat}{l:List (El c)}(h:SL M w a cap (xl l))(hb:l.length*bsz c<=140737488355328):VR (EM M w) (.lst c l) (.slice a l.length cap):=by
 obtain⟨⟨h1,h2⟩,h3⟩:=h;rw[qcc] at h1;rcases h3 with h3|⟨b,off,cells,t,fz,rfl,hbm,hh,hi⟩
 ·have:l=[]:=by simpa [xl] using h3
  subst this;exact .lst0 h2
 ·have key:∀i,i<l.length->∀j,j<csz c->∃u,cells[off+i*csz c+j]?=some u/\∀(h:i<l.length) (h':j<(cel c l[i]).length),VR (EM M w) (cel c l[i])[j] u:=by
   intro i hil j hj;obtain⟨cs,c1,c2⟩:=hi i (by rw[qcc];exact hil);rw[qso] at c1;have c1:VRs (EM M w) (cel c l[i]) cs:=c1;have hjc:j<cs.length:=by rw[<- c1.1,qbn];exact hj
   refine⟨cs[j],(c2 j hj).trans (jac hjc),fun _ h'=>c1.2 j h' hjc⟩
  refine .lst (fun i j=>(cells[off+i*csz c+j]?).getD .nilFunc) h1 h2 hb hbm hh (fun i hil j hj=>?_) (fun i hil j h'=>?_)
  ·obtain⟨u,hu,_⟩:=key i hil j hj;show _=some ((cells[off+i*csz c+j]?).getD .nilFunc);rw[hu];rfl
  ·obtain⟨u,hu,k⟩:=key i hil j (by rw[<- qbn c l[i]];exact h');show VR _ _ ((cells[off+i*csz c+j]?).getD .nilFunc);rw[hu];exact k hil h'
theorem qke{M:List Nat}{w:World}{c:TC}{l:List (El c)}{u:Value}(h:VR (EM M w) (.lst c l) u):∃a cap,u=.slice a (xl l).length cap/\SL M w a cap (xl l)/\l.length*bsz c<=140737488355328:=by
 cases h with
 | lst0 h=>exact⟨_,_,rfl,⟨⟨jbj _,h⟩,.inl rfl⟩,by simp⟩
 | @lst _ _ b off cap cells t fz us h1 h2 h3 hb hh hc hu =>
  refine⟨_,_,by rw[qcc],⟨⟨by rw[qcc];exact h1,h2⟩,.inr ⟨b,off,cells,t,fz,rfl,hb,hh,fun i hi=>?_⟩⟩,h3⟩;have hil:i<l.length:=by rw[qcc] at hi;exact hi
  refine⟨(List.range (csz c)).map (us i),?_,fun j hj=>?_⟩
  ·rw[qso];show VRs (EM M w) (cel c l[i]) _;refine⟨by rw[qbn,jbd,jds],fun j a b=>?_⟩;rw[jb8,je2];exact hu i hil j a
  ·have hj:j<csz c:=hj;refine(hc i hil j hj).trans ?_;simp[hj]
theorem q9i{m M N:List Nat}{w:World}{c:TC}{a:Option Addr}{cap:Nat}{l:List (El c)}(h:Go.Sx.Own m M w a cap (xl l))(hb:l.length*bsz c<=140737488355328)(hs:∀b∈N,b∈m++M)(hd:∀b∈blk a,b ∉ N):VR (EM N w) (.lst c l) (.slice a l.length cap) :=
 vr_sl (h.shut hs hd) hb
theorem zix{P:Program}{f:Nat}{s:Sm}(c:Con P f s){w:World}{x:ElA s.pts}{us:List Value}{y:ElR s.rts}(hf:s.f x=some y)(hG:Gl [] w)(hv:VRs (EM [] w) (argV s.pts x) us) :
  Calls P f us.toArray w (Ret fun v w'=>Upd [] w w'/\∃E:Env,E.w=w'/\VR E (tupI (resV s.rts 0 y)) v) :=
 (jdm.1 (c.calls [] w x us y hf (fun b hb=>by cases hb) hG hv)).mono fun e w' hR=>by
  obtain⟨v,E',rfl,rfl,k1,k2,k3⟩:=hR;exact⟨⟨k2.stp.os,k2.stp.tape,k2.stp.output,k2.stp.size,fun x hx _=>k2.stp.same x hx fun id _ hA _=>hA.elim⟩,E',rfl,k1⟩
theorem qew{P:Program}{f:Nat}{s:Sm}(c:Con P f s){w:World}{x:ElA s.pts}{us:List Value}{y:ElR s.rts}{k:IntKind}{n:Int}(hf:s.f x=some y)(hy:tupI (resV s.rts 0 y)=.int k n)(hG:Gl [] w)(hv:VRs (EM [] w) (argV s.pts x) us) :
  Calls P f us.toArray w (Ret fun v w'=>v=.int k n/\k.wrap n=n/\Upd [] w w') :=
 (zix c hf hG hv).mono fun e w' hR=>by
  cases e with
  | returned v =>
   obtain⟨hu,E,_,hr⟩:=hR;rw[hy] at hr;cases hr with
   | int _ _ hw=>exact⟨rfl,hw,hu⟩
  | _=>exact hR.elim
end Go.Jx
end

section
set_option maxRecDepth 100000
namespace Go.Proofs.YtcnhjofpmpipfaaGreat
open Go Go.Sx Go.RowKit Go.Jx
open Go.Sx.Dat (enc)
structure HR where
 cl:ByteArray
 to:ByteArray
 h:Option Addr
 n:Nat
 cap:Nat
def encH(x:HR):List Value:=[.string x.cl,.string x.to,.slice x.h x.n x.cap]
instance datHR:Dat HR where
 sz:=3
 enc _ _ cs x:=cs=encH x
 len h:=by rw[h];rfl
 mono h _:=h
 ones h:=by rw[h];rfl
abbrev XG:Type:=X qar
abbrev xg(l:List qac):List XG:=xl (c:=qar) l
structure Row (M m:List Nat) (w:World) (h:HR) (r:qaa):Prop where
 cl:h.cl=r.1
 to:h.to=r.2.1
 n:h.n=r.2.2.length
 b1:r.1.size<9223372036854775808
 b2:r.2.1.size<9223372036854775808
 b3:r.2.2.length<=1000
 own:Go.Sx.Own m M w h.h h.cap (xg r.2.2)
structure PS (M m:List Nat) (w:World) (ao:Option Addr) (co:Nat) (hs:List HR) (R:List qaa):Prop where
 own:Go.Sx.Own m M w ao co hs
 len:hs.length=R.length
 row:∀(i:Nat) h r,hs[i]?=some h->R[i]?=some r->Row M m w h r
 sep:∀(i:Nat) h,hs[i]?=some h->∀b∈blk h.h,b ∉ blk ao
 sep2:∀(i j:Nat) h k,hs[i]?=some h->hs[j]?=some k->i≠j->∀b∈blk h.h,b ∉ blk k.h
variable {M m m' : List Nat} {w w' w1 w2 : World} {ao a1 : Option Addr} {co c1 : Nat} {hs : List HR} {R : List qaa}
theorem Row.mono{S:List Nat}{h:HR}{r:qaa}(p:Row M m w h r)(u:Upd S w w')(hS:∀b∈blk h.h,b ∉ S)(e:Evo m w m' w')(hm:∀b∈m,b∈m'):Row M m' w' h r :=
 ⟨p.cl,p.to,p.n,p.b1,p.b2,p.b3,p.own.mono u hS e fun b hb=>hm b (p.own.mem b hb)⟩
theorem PS.nil:PS M m w none 0 [] []:=⟨Own.nil,rfl,fun i h r h1=>by simp at h1,fun i h h1=>by simp at h1,fun i j h k h1=>by simp at h1⟩
theorem PS.upd{S:List Nat}(p:PS M m w ao co hs R)(u:Upd S w w')(e:Evo m w m' w')(hm:∀b∈m,b∈m')(h1:∀b∈blk ao,b ∉ S)(h2:∀(i:Nat) h,hs[i]?=some h->∀b∈blk h.h,b ∉ S):PS M m' w' ao co hs R :=
 ⟨p.own.mono u h1 e fun b hb=>hm b (p.own.mem b hb),p.len,fun i h r hi hr=>(p.row i h r hi hr).mono u (h2 i h hi) e hm,p.sep,p.sep2⟩
theorem PS.upd0(p:PS M m w ao co hs R)(u:Upd [] w w'):PS M m w' ao co hs R:=p.upd u u.evo0 (fun _ h=>h) (by simp) (by simp)
theorem PS.rlt(p:PS M m w ao co hs R){i:Nat}{h:HR}(hi:hs[i]?=some h):∀b∈blk h.h,b<w.heap.size:=by
 obtain⟨hl,rfl⟩:=jal.1 hi;have hr:R[i]?=some (R[i]'(by rw[<- p.len];exact hl)):=jac _;exact(p.row i _ _ hi hr).own.lt
theorem PS.push(p:PS M m w ao co hs R){s:ByteArray}(hs63:s.size<9223372036854775808)(o:Go.Sx.Own m' M w' a1 c1 (hs++[⟨s,s,none,0,0⟩]))(e:Evo m w m' w')(u:Upd (blk ao) w w')(hn:∀b∈blk a1,b∈blk ao\/w.heap.size<=b)(hm:∀b∈m,b∈m') :
  PS M m' w' a1 c1 (hs++[⟨s,s,none,0,0⟩]) (R++[(s,s,[])]):=by
 have key:∀(i:Nat) h,(hs++[⟨s,s,none,0,0⟩])[i]?=some h->(i<hs.length/\hs[i]?=some h)\/(i=hs.length/\h=⟨s,s,none,0,0⟩):=fun i h hi=>by
  rcases jfb i hs.length with q|q|q
  ·rw[ja2 q] at hi;exact .inl ⟨q,hi⟩
  ·subst q;rw[jbf (jap _)] at hi;simp at hi;exact .inr ⟨rfl,hi.symm⟩
  ·rw[jbp (by simp;omega)] at hi;cases hi
 refine⟨o,by simp[p.len],fun i h r hi hr=>?_,fun i h hi b hb hb1=>?_,fun i j h k hi hj hij b hb=>?_⟩
 ·rcases key i h hi with ⟨q,hi⟩|⟨rfl,rfl⟩
  ·rw[ja2 (by rw[<- p.len];exact q)] at hr;exact(p.row i h r hi hr).mono u (p.sep i h hi) e hm
  ·rw[p.len,jbf (jap _)] at hr;simp at hr;subst hr;exact⟨rfl,rfl,rfl,hs63,hs63,by simp,Own.nil⟩
 ·rcases key i h hi with ⟨q,hi⟩|⟨rfl,rfl⟩
  ·rcases hn b hb1 with h1|h1
   ·exact p.sep i h hi b hb h1
   ·have:=p.rlt hi b hb;omega
  ·simp[blk] at hb
 ·rcases key i h hi with ⟨q,hi⟩|⟨rfl,rfl⟩
  ·rcases key j k hj with ⟨q',hj⟩|⟨rfl,rfl⟩
   ·exact p.sep2 i j h k hi hj hij b hb
   ·simp[blk]
  ·simp[blk] at hb
theorem PS.mid(p:PS M m w ao co hs R){i:Nat}{h:HR}(hi:hs[i]?=some h)(e:Evo m w m' w1)(u:Upd (blk h.h) w w1)(hm:∀b∈m,b∈m'):Go.Sx.Own m' M w1 ao co hs :=
 p.own.mono u (fun b hb h'=>p.sep i h hi b h' hb) e fun b hb=>hm b (p.own.mem b hb)
theorem PS.give(p:PS M m w ao co hs R){i:Nat}{h:HR}{r:qaa}{g:qac}{β:Nat}(hi:hs[i]?=some h)(hr:R[i]?=some r)(hb3:r.2.2.length+1<=1000)(ha:ao=some ⟨β,0,none⟩)
  (o1:Go.Sx.Own m' M w1 a1 c1 (xg (r.2.2++[g]))) (e1:Evo m w m' w1) (u1:Upd (blk h.h) w w1) (hn:∀b∈blk a1,b∈blk h.h\/w.heap.size<=b) (hm:∀b∈m,b∈m')
  (u2:Upd [β] w1 w2) (o2:Go.Sx.Own m' M w2 ao co (hs.set i ⟨h.cl,h.to,a1,(r.2.2++[g]).length,c1⟩)):PS M m' w2 ao co (hs.set i ⟨h.cl,h.to,a1,(r.2.2++[g]).length,c1⟩) (R.set i (S.addG r g)):=by
 have hil:i<hs.length:=(jal.1 hi).1;have hβ:β∈blk ao:=by rw[ha];simp [blk]
 have hβm:β∈m:=p.own.mem β hβ;have hβl:β<w.heap.size:=p.own.lt β hβ;have e2:Evo m' w1 m' w2:=u2.evo (by simpa using hm β hβm);have hnb:∀b∈blk a1,b ∉ blk ao:=fun b hb hb'=>by
  rcases hn b hb with q|q
  ·exact p.sep i h hi b q hb'
  ·have:=p.own.lt b hb';omega
 have key:∀(j:Nat) k,(hs.set i ⟨h.cl,h.to,a1,(r.2.2++[g]).length,c1⟩)[j]?=some k->(j≠i/\hs[j]?=some k)\/(j=i/\k=⟨h.cl,h.to,a1,(r.2.2++[g]).length,c1⟩):=fun j k hj=>by
  rw[List.getElem?_set] at hj;by_cases q:i=j
  ·subst q;rw[jam rfl,jam hil] at hj;exact .inr ⟨rfl,(jbg hj).symm⟩
  ·rw[jak q] at hj;exact .inl ⟨fun e=>q e.symm,hj⟩
 have hao:∀b∈blk ao,b=β:=fun b hb=>by rw[ha] at hb;simpa [blk] using hb
 have row:=p.row i h r hi hr;refine⟨o2,by simp[p.len],fun j k q hj hq=>?_,fun j k hj b hb=>?_,fun j j' k k' hj hj' hne b hb=>?_⟩
 ·rcases key j k hj with ⟨hji,hj0⟩|⟨rfl,rfl⟩
  ·rw[jc1 (by omega)] at hq;have rj:=p.row j k q hj0 hq;have r1:Row M m' w1 k q:=rj.mono u1 (p.sep2 j i k h hj0 hi hji) e1 hm;exact r1.mono u2 (fun b hb h'=>p.sep j k hj0 b hb (by rw[jbz.1 h'];exact hβ)) e2 fun _ h=>h
  ·rw[jc6 (by rw[<- p.len];exact hil)] at hq;cases hq;refine⟨row.cl,row.to,rfl,row.b1,row.b2,by simpa [S.addG] using hb3,?_⟩;exact o1.mono u2 (fun b hb h'=>hnb b hb (by rw[jbz.1 h'];exact hβ)) e2 o1.mem
 ·rcases key j k hj with ⟨hji,hj0⟩|⟨rfl,rfl⟩
  ·exact p.sep j k hj0 b hb
  ·exact hnb b hb
 ·rcases key j k hj with ⟨hji,hj0⟩|⟨rfl,rfl⟩
  ·rcases key j' k' hj' with ⟨hji',hj0'⟩|⟨rfl,rfl⟩
   ·exact p.sep2 j j' k k' hj0 hj0' hne b hb
   ·intro hb';rcases hn b hb' with q|q
    ·exact p.sep2 j j' k h hj0 hi hji b hb q
    ·have:=p.rlt hj0 b hb;omega
  ·rcases key j' k' hj' with ⟨hji',hj0'⟩|⟨rfl,rfl⟩
   ·intro hb';rcases hn b hb with q|q
    ·exact p.sep2 j j' h k' hi hj0' (fun e=>hji' e.symm) b q hb'
    ·have:=p.rlt hj0' b hb';omega
   ·exact absurd rfl hne
theorem PS.vr(p:PS M m w ao co hs R){N:List Nat}(hN:∀b∈N,b∈M)(hl:R.length<=1000):VR (EM N w) (.lst cRule R) (.slice ao R.length co):=by
 have hl':R.length*bsz cRule<=140737488355328:=by
  have:bsz cRule=56:=rfl;rw[this];omega
 rcases p.own with ⟨rfl,rfl,h3⟩|⟨β,cells,rfl,h1,h2,⟨t,hh⟩,h4,h5,h6⟩
 ·have:R=[]:=jbo.1 (by rw[<- p.len,h3];rfl);subst this;exact .lst0 (by omega)
 ·rw[p.len] at h5;refine .lst (cells:=cells.toArray) (fun i j=>(cells[i*3+j]?).getD .nilFunc) h5.1 h5.2 hl' (fun h=>h2 (hN β h)) hh (fun i hi j hj=>?_) (fun i hi j hj=>?_)
  ·obtain⟨cs,c1,c2⟩:=h6 i (by rw[p.len];exact hi);have c1:cs=encH (hs[i]'(by rw[p.len];exact hi)):=c1;have hj:j<3:=hj;have c2:cells[i*3+j]?=cs[j]?:=c2 j hj;have hjc:j<cs.length:=by rw[c1];exact hj
   show cells.toArray[0+i*3+j]?=some ((cells[i*3+j]?).getD .nilFunc);rw[ja9,jav,c2,jac hjc];rfl
  ·have hi':i<hs.length:=by rw[p.len];exact hi
   obtain⟨cs,c1,c2⟩:=h6 i hi';have c1:cs=encH hs[i]:=c1;have row:=p.row i hs[i] R[i] (jac hi') (jac hi);have hj3:j<3:=hj;have c2:cells[i*3+j]?=cs[j]?:=c2 j hj3;show VR (EM N w) (cel cRule R[i])[j] ((cells[i*3+j]?).getD .nilFunc);rw[c2,c1];have hj':j=0\/j=1\/j=2:=by omega
   rcases hj' with rfl|rfl|rfl
   ·show VR (EM N w) (.str R[i].1) (.string hs[i].cl);rw[row.cl];exact .str _ row.b1
   ·show VR (EM N w) (.str R[i].2.1) (.string hs[i].to);rw[row.to];exact .str _ row.b2
   ·show VR (EM N w) (.lst qar R[i].2.2) (.slice hs[i].h hs[i].n hs[i].cap);rw[row.n];refine q9i row.own ?_ (fun b hb=>jdb _ (hN b hb)) (fun b hb hb'=>?_)
    ·have e:bsz qar=32:=rfl;rw[e];exact ja5 (jaw 32 row.b3) (by decide)
    ·rcases row.own with ⟨q,_,_⟩|⟨g,cells,q,_,q2,_⟩
     ·rw[q] at hb;simp [blk] at hb
     ·rw[q] at hb;simp only[blk,jbz] at hb;subst hb;exact q2 (hN _ hb')
end Go.Proofs.YtcnhjofpmpipfaaGreat
end

section
namespace Go.Sx
open Go Go.RowKit
section
variable {P : Program} {ops : Array Oper} {md : Region.Mode} {Q : Exit -> Act -> World -> Prop}
def KOne(K:Act->World->Prop):Exit->Act->World->Prop:=fun e a w=>e=.normal/\K a w
theorem zkb{o:Oper}{a:Act}{K K':Act->World->Prop}{r:Result Next}(hK:∀a w,K' a w->K a w)(h:o.upon P a K' (KOne K) r):o.upon P a K Q r:=by
 cases r with
 | ok v w' =>
  cases v with
  | value v=>exact hK _ _ h
  | skip=>exact hK _ _ h
  | defer d=>exact hK _ _ h
  | enter f args =>
   refine Calls.mono h fun e w'' he=>?_;cases e with
   | returned v=>exact hK _ _ he
   | panicked c=>cases he.1
   | outgrown=>obtain⟨_,_,h1,_⟩:=he;cases h1
  | row row args=>exact Rows.mono h fun v w'' he=>hK _ _ he
  | _=>exact h
 | halt x w'=>cases x<;>first|exact h|exact absurd h.1 (by simp)
theorem qhg{i:Nat}{o:Oper}{a:Act}{w:World}{K:Act->World->Prop}(hi:ops[i]?=some o)(h:wpList P ops (KOne K) [o] a w):wpOp P ops Q i K a w:=by
 unfold wpOp;simp only[hi];unfold wpList at h;split at h
 ·rename_i hw;rw[jam hw];rcases h with h|⟨_,_,_,h,_⟩
  ·exact .inl (zkb (fun a w h=>h.2) h)
  ·cases h
 ·rename_i hw;rw[jak hw];exact h.2
end
end Go.Sx
end

section
set_option maxRecDepth 100000
namespace Go.Sx
open Go Go.RowKit
theorem Upd.old_upd{w w2 w3:World}{g:Nat}(h:Upd [] w w2)(k:Upd [g] w2 w3)(hg:w.heap.size<=g):Upd [] w w3 :=
 ⟨k.os.trans h.os,k.tape.trans h.tape,k.output.trans h.output,ja5 h.size k.size,fun x hx hn=>(k.same x (jaz hx h.size) (by simp;omega)).trans (h.same x hx hn)⟩
section
variable {P : Program} {n : Nat} {σ : Nat -> Value} {w : World} {ops : Array Oper} {rest : List Oper} {d : Nat} {ty : TypeId} {pos : String} {aft : Array Edge} {g : Option (Nat × Bool)}
theorem qgx{md:Region.Mode}{Q:Exit->Act->World->Prop}{op:Op}{v:Value}{i fuel:Nat}{listed:Array Bool}(hi:ops[i]?=some ⟨some d,op,ty,pos,aft,g⟩)(hp:qg7 op=true)(hd:Nat.blt d n=true)(hg:qa2 ops σ n g=true)
  (hb:(Region.noSelect ops&&(Region.free md ops listed i&&(Region.ready md ops listed).contains i))=true) (hQ:∀c a w,¬Q (.panic c) a w)
  (h:∀w1,wpList P ops (QOne n σ d v w1) [⟨some d,op,ty,pos,aft,g⟩] (Fr n σ) w1)
  (k:wpAny P md ops Q fuel (listed.setIfInBounds i true) (Fr n (upd σ d v)) w):wpAny P md ops Q (fuel+1) listed (Fr n σ) w:=by
 simp only[jaf] at hb;have hd':d<n:=by simpa using hd
 refine wpAny_take (v:=v) hi hb.1 hb.2.1 hb.2.2 (fun c a w h=>absurd h (hQ c _ w)) (.inl ⟨qjh hg,fun w1=>?_⟩) (by show wpAny P md ops Q fuel _ ((Fr n σ).put (some d) v) w;rw[qgg];exact k);have h1:=h w1;unfold wpList at h1;rw[qjh (o:=⟨some d,op,ty,pos,aft,g⟩) hg,jam rfl] at h1;rcases h1 with h1|⟨_,a,w',h1,_⟩
 ·unfold Oper.wp at h1;cases hr:(execOp (Fr n σ).eval ⟨some d,op,ty,pos,aft,g⟩).run P w1 with
  | ok x w' =>
   rw[hr] at h1;cases x with
   | value u =>
    rw[Oper.upon_value,qgg] at h1;obtain⟨_,h2,h3⟩:=h1;rw[h3,qxq hd' h2]
   | skip =>
    obtain⟨u,hu⟩:=qpy hp hr;cases hu
   | _=>obtain⟨u,hu⟩:=qpy hp hr;cases hu
  | halt x w'=>rw[hr] at h1;cases x<;>first|exact h1.elim|(obtain⟨h2,_⟩:=h1;cases h2)
 ·cases h1
theorem qb3{md:Region.Mode}{Q:Exit->Act->World->Prop}{o:Oper}{i fuel:Nat}{listed:Array Bool}{a:Act}(hi:ops[i]?=some o)(hr:Region.ready md ops listed=[i])
  (h:wpList P ops (KOne fun a' w'=>wpAny P md ops Q fuel (listed.setIfInBounds i true) a' w') [o] a w):wpAny P md ops Q (fuel+1) listed a w :=
 wpAny_all hr (by simp) fun j hj=>by
  have:j=i:=by simpa using hj
  subst this;exact qhg hi h
theorem qic{T E:TypeId}{E':TypeDesc}{size bytes s2 b2:Nat}{zero z2:Value}{x y:Operand}{Q:Exit->Act->World->Prop}{β len cap j:Nat}{kk:IntKind}(hT:Ty P T (.slice E) size bytes zero)(hE:Ty P E E' s2 b2 z2)
  (hg:qa2 ops σ n g=true) (hx:(okO n x&&okO n y)=true) (ex:ev σ x=.slice (some ⟨β,0,none⟩) len cap) (ey:ev σ y=.int kk (j:Nat)) (h1:j<len)
  (k:wpList P ops Q rest (Fr n (upd σ d (.pointer (some ⟨β,j*s2,none⟩)))) w):wpList P ops Q (⟨some d,.indexAddr T x y,ty,pos,aft,g⟩::rest) (Fr n σ) w:=by
 simp only[jaf] at hx;refine qb6 hg ?_ k;have h2:(0:Int)<=j:=by omega
 have h3:(j:Int)<len:=by omega
 simp only[execOp,qbk hx.1,qbk hx.2,ex,ey,Instr.indexAt,asIntOf,jag,jad,jaa,jan hT.und,h2,h3,jet,jb4,run_sizeOf hE,qbe ⟨β,0,none⟩ rfl];simp
end
section
variable {P : Program} {n : Nat} {σ : Nat -> Value} {w : World} {ops : Array Oper} {rest : List Oper} {d : Nat} {op : Op} {ty : TypeId} {pos : String} {aft : Array Edge} {g : Option (Nat × Bool)} {T : TypeId} {x : Operand} {C : World -> Prop} {Qp : Act -> Prop}
end
end Go.Sx
end

section
set_option maxRecDepth 100000
namespace Go.Proofs.YtcnhjofpmpipfaaGreat
open Go Go.Sx Go.RowKit Go.Jx
open Go.Sx.Dat (enc)
theorem qfd:Fld Tryz.prog 66 0 0:=Fld.mk (F := ⟨"Name", 9,0, false, "", "", 0⟩) ty66 rfl ty9
theorem qhk:Fld Tryz.prog 66 1 1:=Fld.mk (F := ⟨"Cols", 64,1, false, "", "", 16⟩) ty66 rfl ty64
theorem q5p:Fld Tryz.prog 68 0 0:=Fld.mk (F := ⟨"Name", 9,0, false, "", "", 0⟩) ty68 rfl ty9
theorem q6u:Fld Tryz.prog 68 1 1:=Fld.mk (F := ⟨"Kind", 3,1, false, "", "", 16⟩) ty68 rfl ty3
theorem qhx:Fld Tryz.prog 71 2 2:=Fld.mk (F := ⟨"Gives", 69,2, false, "", "", 32⟩) ty71 rfl ty69
theorem zbp:Fld Tryz.prog 82 1 1:=Fld.mk (F := ⟨"How", 3,1, false, "", "", 16⟩) ty82 rfl ty3
theorem qkb:Fld Tryz.prog 45 0 0:=Fld.mk (F := ⟨"L", 23,0, false, "", "", 0⟩) ty45 rfl ty23
theorem q6t:Szs Tryz.prog 71 [(0,1),(1,1),(2,1)]:=qmh ttOK (ty:=71) rfl rfl rfl
theorem qi0:Szs Tryz.prog 82 [(0,1),(1,1),(2,1)]:=qmh ttOK (ty:=82) rfl rfl rfl
theorem qrv:Szs Tryz.prog 45 [(0,1),(1,1),(2,1)]:=qmh ttOK (ty:=45) rfl rfl rfl
theorem gl0(M:List Nat)(w:World):Gl M w:=⟨fun b hb=>Bool.noConfusion (show false=true from hb)⟩
theorem trU{M N:List Nat}{w w':World}(u:Upd [] w w')(h:∀b∈N,b∈M):Tr M w N w':=⟨fun b hb hm=>⟨fun h'=>hm (h b h'),u.same b hb (by simp)⟩⟩
theorem qib{M:List Nat}{w:World}{c:TC}{a:Option Addr}{cap:Nat}{l:List (El c)}(h:SL M w a cap (xl l))(hb:l.length*bsz c<=140737488355328):VR (EM M w) (.lst c l) (.slice a (xl l).length cap):=by
 rw[qcc];exact vr_sl h hb
theorem qe4{M:List Nat}{w:World}{f:qab}{cs:List Value}(h:enc M w cs (X.mk f:X cForm)):∃a c,cs=[.string f.1,.slice a (xl (c:=cCol) f.2).length c]/\f.1.size<9223372036854775808/\SL M w a c (xl (c:=cCol) f.2)/\f.2.length*bsz cCol<=140737488355328:=by
 have h:VRs (EM M w) [.str f.1,.lst cCol f.2] cs:=h;obtain⟨u1,us,rfl,a1,a2⟩:=VRs.inv h;obtain⟨u2,us,rfl,b1,b2⟩:=VRs.inv a2;obtain rfl:us=[]:=jbo.1 b2.1.symm;obtain⟨a,c,rfl,h1,h2⟩:=qke b1;cases a1 with
 | str _ q=>exact⟨a,c,rfl,q,h1,h2⟩
theorem q5b{M:List Nat}{w:World}{f:DCol}{cs:List Value}(h:enc M w cs (X.mk f:X cCol)):cs=[.string f.1,.int .i64 f.2.1,.string f.2.2]/\f.1.size<9223372036854775808/\IntKind.i64.wrap f.2.1=f.2.1/\f.2.2.size<9223372036854775808:=by
 have h:VRs (EM M w) [.str f.1,.int .i64 f.2.1,.str f.2.2] cs:=h;obtain⟨u1,us,rfl,a1,a2⟩:=VRs.inv h;obtain⟨u2,us,rfl,b1,b2⟩:=VRs.inv a2;obtain⟨u3,us,rfl,c1,c2⟩:=VRs.inv b2;obtain rfl:us=[]:=jbo.1 c2.1.symm;cases a1 with
 | str _ q=>cases b1 with
  | int _ _ r=>cases c1 with
   | str _ s=>exact⟨rfl,q,r,s⟩
theorem q0z{w:World}{a:Option Addr}{c:Nat}{F:List qab}(h:VR (EM [] w) (.lst cForm F) (.slice a (xl (c:=cForm) F).length c)):Calls Tryz.prog idz4 #[.slice a (xl (c:=cForm) F).length c] w (Ret fun v w'=>v=.int .i64 (S.checkForms F)/\IntKind.i64.wrap (S.checkForms F)=S.checkForms F/\Upd [] w w') :=
 qew qql (x:=(F,())) (us:=[.slice a (xl (c:=cForm) F).length c]) (y:=(S.checkForms F,())) rfl rfl (gl0 _ _) (.cons h .nil)
theorem q7c{c:TC}{l:List (El c)}{k:Nat}{u:X c}(h:(xl l)[k]?=some u):∃(hk:k<l.length),u=⟨l[k]⟩:=by
 obtain⟨h1,rfl⟩:=jal.1 h;have h2:k<l.length:=by rw[qcc] at h1;exact h1
 exact⟨h2,qso h1⟩
theorem qyx{F:List qab}{k:Nat}(h:k<F.length):S.bare (F.take (k+1))=S.bare (F.take k)++[(F[k].1,F[k].1,[])]:=by
 unfold S.bare;rw[List.take_add_one,jac h,List.map_append];rfl
theorem qd7{c:TC}{l:List (El c)}{k:Nat}{u:X c}(h:(xl l)[k]?=some u):∃v:El c,l[k]?=some v/\u=⟨v⟩:=by
 obtain⟨h1,h2⟩:=q7c h;exact⟨_,jac h1,h2⟩
theorem qwa{α:Type}[Dat α]{m M:List Nat}{w:World}{β cap j off:Nat}{l:List α}{x:α}(ho:Go.Sx.Own m M w (some ⟨β,0,none⟩) cap l)(hj:l[j]?=some x)(h2:off<Dat.sz α):∃cs,enc (m++M) w cs x/\w.cell? ⟨β,j*Dat.sz α+off,none⟩=cs[off]?:=by
 obtain⟨hjl,rfl⟩:=jal.1 hj;rcases ho with ⟨h,_,_⟩|⟨g,cells,h,_,_,hb,_,_,h6⟩
 ·cases h
 ·obtain rfl:β=g:=by simpa using h
  obtain⟨cs,c1,c2⟩:=h6 j hjl;exact⟨cs,c1,(hb.cell _).trans (c2 off h2)⟩
theorem qe0(l:List qac)(g:qac):xg l++[X.mk (c:=qar) g]=xg (l++[g]):=(List.map_append (f:=X.mk (c:=qar)) (l₁:=l) (l₂:=[g])).symm
theorem qdv(l:List qac):(xg l).length=l.length:=qcc
def encG(g:qac):List Value:=[.string g.1,.int .i64 g.2.1,.int .i64 g.2.2]
theorem q6s{F:List qab}{i:Nat}{r:qaa}(h:(S.bare F)[i]?=some r):r.2.2=[]:=by
 unfold S.bare at h;rw[jbw] at h;cases hf:F[i]? with
 | none=>rw[hf] at h;cases h
 | some f=>rw[hf] at h;cases h;rfl
section
attribute [local irreducible] Go.wpList Go.wpQuiet Go.Code.wp
set_option maxHeartbeats 8000000
theorem zgx{M:List Nat}{w:World}{af at_:Option Addr}{cf ct:Nat}{F T:List qab}(hM:Lo M w)(hF:SL M w af cf (xl (c:=cForm) F))(hT:SL M w at_ ct (xl (c:=cForm) T))
  (bF:F.length*bsz cForm<=140737488355328) (bT:T.length*bsz cForm<=140737488355328) :
  Calls Tryz.prog 17 #[.slice af (xl (c:=cForm) F).length cf,.slice at_ (xl (c:=cForm) T).length ct] w (Ret fun v w'=>∃a c,v=.tuple #[.slice a (S.plain F T).1.length c,.int .i64 (S.plain F T).2]/\VR (EM M w') (.lst cRule (S.plain F T).1) (.slice a (S.plain F T).1.length c)/\IntKind.i64.wrap (S.plain F T).2=(S.plain F T).2/\Upd [] w w'):=by
 have vF:∀{w':World},Upd [] w w'->VR (EM [] w') (.lst cForm F) (.slice af (xl (c:=cForm) F).length cf):=fun u=>qib (hF.mono (trU u (by simp))) bF;have vT:∀{w':World},Upd [] w w'->VR (EM [] w') (.lst cForm T) (.slice at_ (xl (c:=cForm) T).length ct):=fun u=>qib (hT.mono (trU u (by simp))) bT;have hlF:(xl (c:=cForm) F).length=F.length:=qcc;have hlT:(xl (c:=cForm) T).length=T.length:=qcc;refine enter (l:=[.slice af (xl (c:=cForm) F).length cf,.slice at_ (xl (c:=cForm) T).length ct]) Tryz.func17 rfl Tryz.ntmps17 rfl ?_;refine qak fun K1 hK1=>?_;refine qap ?_;refine qbr (v:=.slice none 0 0) rfl rfl rfl ?_;refine qbr (v:=.int .i64 0) rfl rfl rfl ?_;refine jaq ?_;refine hK1 _ _ ?_;refine qak fun K2 hK2=>?_;refine qak fun K3 hK3=>?_;refine qap ?_;refine qam (v:=.slice af (xl (c:=cForm) F).length cf) rfl rfl rfl ?_;refine qdo qql.callable rfl rfl rfl (q0z (vF (Upd.refl _ _))) ?_;rintro _ w1 ⟨rfl,wr1,u1⟩;refine qam (v:=.slice at_ (xl (c:=cForm) T).length ct) rfl rfl rfl ?_;refine qdo qql.callable rfl rfl rfl (q0z (vT u1)) ?_;rintro _ w2 ⟨rfl,wr2,u2⟩;refine qf0 (r:=[.int .i64 (S.checkForms F),.int .i64 (S.checkForms T)]) q4s ty34 rfl rfl rfl rfl rfl rfl fun β w3 hβ u3 hz3 hx3=>?_;have hcall:Calls Tryz.prog idz1 #[.slice (some ⟨β,0,none⟩) 2 2] w3 (Ret fun v w'=>v=.int .i64 (S.first [S.checkForms F,S.checkForms T])/\IntKind.i64.wrap (S.first [S.checkForms F,S.checkForms T])=S.first [S.checkForms F,S.checkForms T]/\Upd [] w3 w'):=by
  refine qew qpf (x:=([S.checkForms F,S.checkForms T],())) (us:=[.slice (some ⟨β,0,none⟩) 2 2]) (y:=(S.first [S.checkForms F,S.checkForms T],())) rfl rfl (gl0 _ _) (.cons ?_ .nil);refine vr_sl (c:=.int .i64) (l:=[S.checkForms F,S.checkForms T]) (SL.of_box (l:=xl (c:=.int .i64) [S.checkForms F,S.checkForms T]) hx3 (by simp) rfl (by show 2<9223372036854775808;omega) fun i hi=>?_) (by show 2*8<=140737488355328;omega);have hi':i<2:=hi;have:i=0\/i=1:=by omega
  rcases this with rfl|rfl
  ·exact⟨[.int .i64 (S.checkForms F)],.cons (.int _ _ wr1) .nil,fun j hj=>by
    have hj:j<1:=hj;obtain rfl:j=0:=by omega
    rfl⟩
  ·exact⟨[.int .i64 (S.checkForms T)],.cons (.int _ _ wr2) .nil,fun j hj=>by
    have hj:j<1:=hj;obtain rfl:j=0:=by omega
    rfl⟩
 refine qdo qpf.callable rfl rfl rfl hcall ?_;rintro _ w4 ⟨rfl,wr4,u4⟩;have u04:Upd [] w w4:=((u1.trans u2).trans u3).trans u4;refine qbr (v:=.int .i64 (S.first [S.checkForms F,S.checkForms T])) rfl rfl rfl ?_;refine jaq ?_;refine hK3 _ _ ?_;refine qak fun K4 hK4=>?_;refine qap ?_;refine qam (v:=.int .i64 (S.first [S.checkForms F,S.checkForms T])) rfl rfl rfl ?_;refine qmg rfl rfl rfl rfl ?_;refine jaq ?_;refine hK4 _ _ ?_;refine qpu rfl rfl (fun he=>?_) (fun he=>?_)
 ·have hpl:S.plain F T=([],S.first [S.checkForms F,S.checkForms T]):=by unfold S.plain;rw[jam he]
  refine qak fun K5 hK5=>?_;refine qap ?_;refine qam (v:=.int .i64 (S.first [S.checkForms F,S.checkForms T])) rfl rfl rfl ?_;refine qbr (v:=.slice none 0 0) rfl rfl rfl ?_;refine qbr (v:=.int .i64 (S.first [S.checkForms F,S.checkForms T])) rfl rfl rfl ?_;refine jaq ?_;refine hK5 _ _ ?_;refine wp_ret ?_;refine retG (rs:=[.tmp 4,.tmp 5]) (vs:=[.slice none 0 0,.int .i64 (S.first [S.checkForms F,S.checkForms T])]) rfl ⟨resT rfl rfl,resT rfl rfl,trivial⟩ ?_;rw[hpl];exact⟨none,0,rfl,.lst0 (by omega),wr4,u04⟩
 refine jec ?_;refine hK2 _ _ ?_;have hff:=qeu he;have fokF:=qdj hff.1;have fokT:=qdj hff.2;have hpl:S.plain F T=(match S.plGo T F 0 (S.bare F) with|none=>([],5)|some R=>(R,0)):=by unfold S.plain;rw[jak (by simpa using he)];rfl
 refine qak fun K6 hK6=>?_;refine qap ?_;refine qbr (v:=.slice none 0 0) rfl rfl rfl ?_;refine jaq ?_;refine hK6 _ _ ?_;refine qak fun K7 hK7=>?_;refine qak fun K8 hK8=>?_;refine qap ?_;refine qam (v:=.slice af (xl (c:=cForm) F).length cf) rfl rfl rfl ?_;refine qhv ty22 rfl rfl rfl ?_;refine qam (v:=.int .i64 0) rfl rfl rfl ?_;refine jaq ?_;refine hK8 _ _ ?_;refine jed ?_;refine qgh (X:=Nat × (Option Addr × Nat × List Nat × List HR)) (7::9::(List.range 40).drop 27) (fun x=>[(7,.slice x.2.1 x.2.2.2.2.length x.2.2.1),(27,.int .i64 (x.1:Int))])
  (fun x wi=>x.1<=F.length/\PS M x.2.2.2.1 wi x.2.1 x.2.2.1 x.2.2.2.2 (S.bare (F.take x.1))/\Evo [] w x.2.2.2.1 wi) (fun x=>F.length-x.1) (0,(none,0,[],[])) ⟨rfl,rfl,trivial⟩ ⟨jbj _,PS.nil,u04.evo0⟩ ?_
 rintro⟨k,ao,co,m,hs⟩ τ w5 ⟨hk,ps,ev⟩;have hM5:Lo M w5:=hM.mono ev.size;have hF5:SL M w5 af cf (xl (c:=cForm) F):=hF.mono (trU ev.old (fun _ h=>h));refine qak fun K9 hK9=>?_;refine qap ?_;refine qel rfl rfl rfl rfl ?_;refine jaq ?_;refine hK9 _ _ ?_;refine qak fun K10 hK10=>?_;refine c_if rfl rfl (fun hb=>?_) (fun hb=>?_)
 ·refine jec ?_;refine hK10 _ _ ?_;have hk1:k<F.length:=by rw[hlF] at hb;omega
  refine qak fun K11 hK11=>?_;refine jed ?_;refine qak fun K12 hK12=>?_;refine qap ?_;refine qja (j:=k) ty22 ty66 rfl rfl rfl rfl rfl hF5 (by rw[hlF];exact hk1) fun ad cs u hget henc hca=>?_;obtain⟨_,rfl⟩:=q7c hget;obtain⟨ac,cc,rfl,hs63,hsl,hslb⟩:=qe4 henc;refine qg1 ty66 rfl rfl rfl rfl hca rfl ?_;refine qey ty66 rfl rfl fun β9 w6 hβ6 u6 hz6 hx6=>?_;refine qb5 (cs':=[.string F[k].1,.slice ac (xl (c:=cCol) F[k].2).length cc]) ty66 rfl rfl rfl rfl hx6 rfl rfl rfl fun w7 u7 hz7 hx7=>?_;have ev7:Evo [] w m w7:=by
   have e1:Evo m w5 m w7:=⟨u7.os.trans u6.os,u7.tape.trans u6.tape,u7.output.trans u6.output,ja5 u6.size u7.size,fun _ h=>.inl h,fun hl b hb=>jaz (hl b hb) (ja5 u6.size u7.size),fun b hb hn=>(u7.same b (jaz hb u6.size) (by simp;omega)).trans (u6.same b hb (by simp))⟩;exact ev.trans e1
  have u57:Upd [] w5 w7:=Upd.old_upd u6 u7 (by omega);have ps7:=ps.upd0 u57;have hM7:Lo M w7:=hM.mono ev7.size;refine jaq ?_;refine hK12 _ _ ?_;refine qap ?_;refine qam (v:=.slice ao hs.length co) rfl rfl rfl ?_;refine qbh qfd rfl rfl rfl ?_;refine qcl (v:=.string F[k].1) ty9 rfl rfl rfl rfl hx7 rfl ?_;refine qbh qfd rfl rfl rfl ?_;refine qcl (v:=.string F[k].1) ty9 rfl rfl rfl rfl hx7 rfl ?_;refine qdl (r:=[.string F[k].1,.string F[k].1,.slice none 0 0]) ty71 q6t rfl rfl rfl rfl rfl ?_;refine qf0 (r:=[.string F[k].1,.string F[k].1,.slice none 0 0]) ty23 ty71 rfl rfl rfl rfl rfl rfl fun β8 w8 hβ8 u8 hz8 hx8=>?_;have ps8:=ps7.upd0 u8;have hM8:Lo M w8:=hM7.mono u8.size;have ev8:Evo [] w m w8:=ev7.trans u8.evo0;have hm7:∀b∈m,b<w7.heap.size:=ev7.lo (by simp);have hs8:SL (m++M) w8 (some ⟨β8,0,none⟩) 1 [(⟨F[k].1,F[k].1,none,0,0⟩:HR)]:=SL.of_box1 hx8 (fun h=>by
   rcases jbi.1 h with h|h
   ·have:=hm7 β8 h;omega
   ·have:=hM7 β8 h;omega) rfl
  have hlen:hs.length<=24:=by
   have h1:hs.length=(S.bare (F.take k)).length:=ps.len;have h2:(S.bare (F.take k)).length=k:=by unfold S.bare;rw[jbd,jbx];omega
   have h3:=fokF.len;omega
  refine qhp ty23 ty23 ty71 rfl rfl rfl rfl rfl rfl rfl ps8.own hs8 hM8 (by show (hs.length+1)*56<=140737488355328;omega) fun a5 c5 w9 m5 ho5 ev5 hu5 hbk5 hsub5=>?_;refine qbr (v:=.slice a5 (hs++[(⟨F[k].1,F[k].1,none,0,0⟩:HR)]).length c5) rfl rfl rfl ?_;refine jaq ?_;refine hK11 _ _ ?_;refine qap ?_;refine qen rfl rfl rfl rfl (by have:=fokF.len;omega) ?_;refine qam (v:=.int .i64 ((k+1:Nat):Int)) rfl rfl rfl ?_;refine jaq ?_;refine⟨(k+1,a5,c5,m5,hs++[⟨F[k].1,F[k].1,none,0,0⟩]),by show F.length-(k+1)<F.length-k;omega,⟨hk1,?_,ev8.trans ev5⟩,_,rfl,(by repeat first|exact qag.refl _ _|refine qag.upd rfl ?_|refine qag.upds rfl ?_|refine qag.mix rfl ?_),rfl,rfl,trivial⟩;rw[qyx hk1];exact ps8.push hs63 ho5 ev5 hu5 hbk5 hsub5
 refine wp_exit ?_;refine hK7 _ _ ?_;have hkF:k=F.length:=by rw[hlF] at hb;omega
 subst hkF

 rw[jer] at ps;have hbl:(S.bare F).length=F.length:=by unfold S.bare;rw[jbd]
 have hao:∀b∈blk ao,b∈m:=ps.own.mem;refine qak fun K13 hK13=>?_;refine qak fun K14 hK14=>?_;refine qap ?_;refine qam (v:=.slice af (xl (c:=cForm) F).length cf) rfl rfl rfl ?_;refine qhv ty22 rfl rfl rfl ?_;refine qam (v:=.int .i64 0) rfl rfl rfl ?_;refine jaq ?_;refine hK14 _ _ ?_;refine jed ?_;refine qgh (X:=Nat × (List Nat × List HR × List qaa)) (10::11::12::14::15::(List.range 92).drop 42) (fun x=>[(42,.int .i64 (x.1:Int))])
  (fun x wi=>(x.1<=F.length/\x.2.2.2.length=F.length/\x.2.2.1.length=hs.length)/\PS M x.2.1 wi ao co x.2.2.1 x.2.2.2/\Evo [] w x.2.1 wi/\S.plGo T (F.drop x.1) x.1 x.2.2.2=S.plGo T F 0 (S.bare F)/\∀(j:Nat) r,x.1<=j->x.2.2.2[j]?=some r->r.2.2=[])
  (fun x=>F.length-x.1) (0,m,hs,S.bare F) ⟨rfl,trivial⟩ ⟨⟨jbj _,hbl,rfl⟩,ps,ev,rfl,fun j r _ hr=>q6s hr⟩ ?_
 clear ev ps hM5 hF5 hk hb;rintro⟨i,m,hs2,R⟩ τ2 w6 ⟨⟨hi,hRl,hhl⟩,ps,ev,hgo,hemp⟩;have hi:i<=F.length:=hi;have hRl:R.length=F.length:=hRl;have hhl:hs2.length=hs.length:=hhl;have ps:PS M m w6 ao co hs2 R:=ps;have ev:Evo [] w m w6:=ev;have hgo:S.plGo T (F.drop i) i R=S.plGo T F 0 (S.bare F):=hgo;have hF6:SL (m++M) w6 af cf (xl (c:=cForm) F):=hF.mono (ev.tr M);refine qak fun K15 hK15=>?_;refine qap ?_;refine qel rfl rfl rfl rfl ?_;refine jaq ?_;refine hK15 _ _ ?_;refine qak fun K16 hK16=>?_;refine c_if rfl rfl (fun hb=>?_) (fun hb=>?_)
 case refine_2 =>
  refine wp_exit ?_;refine hK13 _ _ ?_;have hiF:i=F.length:=by rw[hlF] at hb;omega
  subst hiF;rw[jd1,S.plGo] at hgo;refine qak fun K17 hK17=>?_;refine qap ?_;refine qam (v:=.slice ao hs.length co) rfl rfl rfl ?_;refine qbr (v:=.slice ao hs.length co) rfl rfl rfl ?_;refine qbr (v:=.int .i64 0) rfl rfl rfl ?_;refine jaq ?_;refine hK17 _ _ ?_;refine wp_ret ?_;refine retG (rs:=[.tmp 4,.tmp 5]) (vs:=[.slice ao hs.length co,.int .i64 0]) rfl ⟨resT rfl rfl,resT rfl rfl,trivial⟩ ?_;have hp2:S.plain F T=(R,0):=by rw[hpl,<- hgo]
  have hlR:hs.length=R.length:=by rw[<- hhl,ps.len]
  rw[hp2,hlR];exact⟨ao,co,rfl,ps.vr (fun _ h=>h) (by rw[hRl];have:=fokF.len;omega),by show IntKind.i64.wrap 0=0;decide,ev.old⟩
 refine jec ?_;refine hK16 _ _ ?_;have hi1:i<F.length:=by rw[hlF] at hb;omega
 obtain⟨fi,hfi⟩:∃fi:qab,F[i]?=some fi:=⟨_,jac hi1⟩;rw[qpn hfi,S.plGo] at hgo;refine qak fun K18 hK18=>?_;refine jed ?_;refine qak fun K19 hK19=>?_;refine qap ?_;refine qam (v:=.int .i64 (i:Int)) rfl rfl rfl ?_;refine qja (j:=i) ty22 ty66 rfl rfl rfl rfl rfl hF6 (by rw[hlF];exact hi1) fun ad cs u hget henc hca=>?_;obtain rfl:u=⟨fi⟩:=by
  obtain⟨v,hv,rfl⟩:=qd7 hget;obtain rfl:fi=v:=jbg (hfi.symm.trans hv);rfl
 obtain⟨ac,cc,rfl,hs63,hsl,hslb⟩:=qe4 henc;have hca0:=hca;refine qg1 ty66 rfl rfl rfl rfl hca rfl ?_;refine qey ty66 rfl rfl fun β9 w7 hβ7 u7 hz7 hx7=>?_;refine qbr (v:=.int .i64 (i:Int)) rfl rfl rfl ?_;refine qb5 (cs':=[.string fi.1,.slice ac (xl (c:=cCol) fi.2).length cc]) ty66 rfl rfl rfl rfl hx7 rfl rfl rfl fun w8 u8 hz8 hx8=>?_;refine jaq ?_;refine hK19 _ _ ?_;have u68:Upd [] w6 w8:=Upd.old_upd u7 u8 (by omega);have ps8:=ps.upd0 u68;have ev8:Evo [] w m w8:=ev.trans u68.evo0;have hm6:∀b∈m,b<w6.heap.size:=ev.lo (by simp);have hβm:β9 ∉ m:=fun h=>by have:=hm6 β9 h;omega
 refine qak fun K20 hK20=>?_;refine qap ?_;refine qam (v:=.slice at_ (xl (c:=cForm) T).length ct) rfl rfl rfl ?_;refine qbh qfd rfl rfl rfl ?_;refine qcl (v:=.string fi.1) ty9 rfl rfl rfl rfl hx8 rfl ?_;refine qdo qiv.callable rfl rfl rfl (qew qiv (x:=(T,fi.1,())) (us:=[.slice at_ (xl (c:=cForm) T).length ct,.string fi.1]) (y:=(S.form T fi.1,())) rfl rfl (gl0 _ _) (.cons (vT ev8.old) (.cons (.str _ hs63) .nil))) ?_;rintro _ w9 ⟨rfl,wr9,u9⟩;refine qbr (v:=.int .i64 (S.form T fi.1)) rfl rfl rfl ?_;refine jaq ?_;refine hK20 _ _ ?_;have ps9:=ps8.upd0 u9;have ev9:Evo [] w m w9:=ev8.trans u9.evo0;have hx9:=hx8.mono0 u9;refine qak fun K21 hK21=>?_;refine qak fun K22 hK22=>?_;refine qap ?_;refine qam (v:=.int .i64 (S.form T fi.1)) rfl rfl rfl ?_;refine qel rfl rfl rfl rfl ?_;refine jaq ?_;refine hK22 _ _ ?_;refine c_if rfl rfl (fun hneg=>?_) (fun hneg=>?_)
 ·refine qak fun K23 hK23=>?_;refine qap ?_;refine qbr (v:=.slice none 0 0) rfl rfl rfl ?_;refine qbr (v:=.int .i64 5) rfl rfl rfl ?_;refine jaq ?_;refine hK23 _ _ ?_;refine wp_ret ?_;refine retG (rs:=[.tmp 4,.tmp 5]) (vs:=[.slice none 0 0,.int .i64 5]) rfl ⟨resT rfl rfl,resT rfl rfl,trivial⟩ ?_;have hgo:none=S.plGo T F 0 (S.bare F):=by
   rw[<- hgo];exact(jam hneg).symm
  have hp2:S.plain F T=([],5):=by rw[hpl,<- hgo]
  rw[hp2];exact⟨none,0,rfl,.lst0 (by omega),by show IntKind.i64.wrap 5=5;decide,ev9.old⟩
 refine jec ?_;refine hK21 _ _ ?_;have hgo:S.plGo T (F.drop (i+1)) (i+1) (S.plCols fi.2 i (S.colsOf T fi.1) R)=S.plGo T F 0 (S.bare F):=by
  rw[<- hgo];exact(jak hneg).symm
 have hform0:0<=S.form T fi.1:=by omega
 have hT9:SL (m++M) w9 at_ ct (xl (c:=cForm) T):=hT.mono (ev9.tr M);have hsl9:SL (m++M) w9 ac cc (xl (c:=cCol) fi.2):=hsl.mono (trU (u68.trans u9) (fun _ h=>h));have hcok:=qmu fokT hform0;obtain⟨fb,fb1,fbg,_,fb3,_,_⟩:=S.idx_get (p:=fun f:qab=>keqS f.1 fi.1) (l:=T) hform0;have fbg:T[(S.form T fi.1).toNat]?=some fb:=fbg;have fb2:S.colsOf T fi.1=fb.2:=by
  unfold S.colsOf S.at_;rw[fbg];rfl
 have fbl:S.form T fi.1<T.length:=by
  have:=(jal.1 fbg).1;omega
 refine qak fun K24 hK24=>?_;refine qap ?_;refine qam (v:=.slice at_ (xl (c:=cForm) T).length ct) rfl rfl rfl ?_;refine qam (v:=.int .i64 (S.form T fi.1)) rfl rfl rfl ?_;refine op_indexI (i:=S.form T fi.1) ty22 ty66 rfl rfl rfl rfl rfl hT9 hform0 (by rw[hlT];exact fbl) fun ad2 cs2 u2 hget2 henc2 hca2=>?_;obtain rfl:u2=⟨fb⟩:=by
  obtain⟨v,hv,rfl⟩:=qd7 hget2;obtain rfl:fb=v:=jbg (fbg.symm.trans hv);rfl
 obtain⟨at2,ct2,rfl,ht63,htl,htlb⟩:=qe4 henc2;refine op_field qhk rfl rfl rfl hca2.spot ?_;refine qrl (v:=.slice at2 (xl (c:=cCol) fb.2).length ct2) ty64 rfl rfl rfl rfl hca2 rfl ?_;refine qhv ty64 rfl rfl rfl ?_;refine qam (v:=.int .i64 0) rfl rfl rfl ?_;refine jaq ?_;refine hK24 _ _ ?_;rw[fb2] at hcok hgo;have hlC:(xl (c:=cCol) fb.2).length=fb.2.length:=qcc;have hc30:=hcok.len;refine jed ?_;refine qgh (X:=Nat × (List Nat × List HR × List qaa)) (14::15::(List.range 91).drop 59) (fun x=>[(59,.int .i64 (x.1:Int))])
  (fun x wi=>(x.1<=fb.2.length/\x.2.2.2.length=F.length/\x.2.2.1.length=hs.length)/\PS M x.2.1 wi ao co x.2.2.1 x.2.2.2/\(Evo [] w x.2.1 wi/\(β9 ∉ x.2.1/\Box wi β9 [.string fi.1,.slice ac (xl (c:=cCol) fi.2).length cc])/\SL (x.2.1++M) wi at2 ct2 (xl (c:=cCol) fb.2)/\SL (x.2.1++M) wi ac cc (xl (c:=cCol) fi.2))/\S.plCols fi.2 i (fb.2.drop x.1) x.2.2.2=S.plCols fi.2 i fb.2 R/\(∀(j:Nat) r,i+1<=j->x.2.2.2[j]?=some r->r.2.2=[])/\∃r,x.2.2.2[i]?=some r/\r.2.2.length=x.1)
  (fun x=>fb.2.length-x.1) (0,m,hs2,R) ⟨rfl,trivial⟩ ⟨⟨jbj _,hRl,hhl⟩,ps9,⟨ev9,⟨hβm,hx9⟩,htl,hsl9⟩,rfl,fun j r hj hr=>hemp j r (by omega) hr,⟨R[i]'(by omega),jac _,by rw[hemp i _ (jap _) (jac (by omega))];rfl⟩⟩ ?_
 rintro⟨k,m3,hs3,R3⟩ τ3 w10 ⟨⟨hk,hRl3,hhl3⟩,ps3,⟨ev3,⟨hβm3,hxf⟩,htl3,hsl3⟩,hpl3,hemp3,r,hri,hrl⟩;have hk:k<=fb.2.length:=hk;have hRl3:R3.length=F.length:=hRl3;have hhl3:hs3.length=hs.length:=hhl3;have ps3:PS M m3 w10 ao co hs3 R3:=ps3;have ev3:Evo [] w m3 w10:=ev3;have hβm3:β9 ∉ m3:=hβm3;have hxf:Box w10 β9 [.string fi.1,.slice ac (xl (c:=cCol) fi.2).length cc]:=hxf;have hpl3:S.plCols fi.2 i (fb.2.drop k) R3=S.plCols fi.2 i fb.2 R:=hpl3;have hri:R3[i]?=some r:=hri;have hrl:r.2.2.length=k:=hrl;have htl3:SL (m3++M) w10 at2 ct2 (xl (c:=cCol) fb.2):=htl3;have hsl3:SL (m3++M) w10 ac cc (xl (c:=cCol) fi.2):=hsl3;refine qak fun K25 hK25=>?_;refine qap ?_;refine qel rfl rfl rfl rfl ?_;refine jaq ?_;refine hK25 _ _ ?_;refine qak fun K26 hK26=>?_;refine c_if rfl rfl (fun hb2=>?_) (fun hb2=>?_)
 case refine_2 =>
  refine wp_exit ?_;refine hK18 _ _ ?_;have hkC:k=fb.2.length:=by rw[hlC] at hb2;omega
  rw[hkC,jd1,S.plCols] at hpl3;refine qap ?_;refine qen rfl rfl rfl rfl (by have:=fokF.len;omega) ?_;refine qam (v:=.int .i64 ((i+1:Nat):Int)) rfl rfl rfl ?_;refine jaq ?_;refine⟨(i+1,m3,hs3,R3),by show F.length-(i+1)<F.length-i;omega,⟨⟨hi1,hRl3,hhl3⟩,ps3,ev3,?_,hemp3⟩,_,rfl,(by repeat first|exact qag.refl _ _|refine qag.upd rfl ?_|refine qag.upds rfl ?_|refine qag.mix rfl ?_),rfl,trivial⟩;show S.plGo T (F.drop (i+1)) (i+1) R3=_;rw[hpl3];exact hgo
 refine jec ?_;refine hK26 _ _ ?_;have hk1:k<fb.2.length:=by rw[hlC] at hb2;omega
 have hM10:Lo M w10:=hM.mono ev3.size;have hm10:∀b∈m3,b<w10.heap.size:=ev3.lo (by simp);refine qak fun K27 hK27=>?_;refine jed ?_;refine qak fun K28 hK28=>?_;refine qap ?_;refine qja (j:=k) ty64 ty68 rfl rfl rfl rfl rfl htl3 (by rw[hlC];exact hk1) fun ad3 cs3 u3 hget3 henc3 hca3=>?_;obtain⟨c,hc3,rfl⟩:∃c:DCol,fb.2[k]?=some c/\u3=⟨c⟩:=qd7 hget3;obtain⟨rfl,b1,b2,b3⟩:=q5b henc3;refine qg1 ty68 rfl rfl rfl rfl hca3 rfl ?_;refine qey ty68 rfl rfl fun β14 w11 hβ14 u11 hz11 hx11=>?_;refine qb5 (cs':=[.string c.1,.int .i64 c.2.1,.string c.2.2]) ty68 rfl rfl rfl rfl hx11 rfl rfl rfl fun w12 u12 hz12 hx12=>?_;refine jaq ?_;refine hK28 _ _ ?_;have v12:Upd [] w10 w12:=Upd.old_upd u11 u12 (by omega);refine qak fun K29 hK29=>?_;refine qap ?_;refine qbh q5p rfl rfl rfl ?_;refine qcl (v:=.string c.1) ty9 rfl rfl rfl rfl hx12 rfl ?_;refine qdl (r:=[.string c.1,.int .i64 1,.int .i64 0]) ty82 qi0 rfl rfl rfl rfl rfl ?_;refine qey ty82 rfl rfl fun β15 w13 hβ15 u13 hz13 hx13=>?_;refine qb5 (cs':=encG (c.1,1,0)) ty82 rfl rfl rfl rfl hx13 rfl rfl rfl fun w14 u14 hz14 hx14=>?_;refine jaq ?_;refine hK29 _ _ ?_;have v14:Upd [] w10 w14:=v12.trans (Upd.old_upd u13 u14 (by omega));have hx14c:Box w14 β14 [.string c.1,.int .i64 c.2.1,.string c.2.2]:=(hx12.mono0 u13).mono u14 (by have:=hx12.lt;simp;omega);have hlow15:w10.heap.size<=β15:=by have:=v12.size;omega
 refine quu (X:=Unit) ((List.range 78).drop 66) (fun _=>[]) (fun _ wi=>Upd [] w10 wi/\Box wi β15 (encG (S.pickG R3 fi.2 c))) ?_ ?_
 ·refine qak fun K30 hK30=>?_;refine qap ?_;refine qam (v:=.slice ao hs.length co) rfl rfl rfl ?_;refine qff (ds:=encG (c.1,1,0)) ty82 rfl rfl rfl rfl hx14 rfl rfl ?_;refine qbh qhk rfl rfl rfl ?_;refine qcl (v:=.slice ac (xl (c:=cCol) fi.2).length cc) ty64 rfl rfl rfl rfl (hxf.mono0 v14) rfl ?_;refine qff (ds:=[.string c.1,.int .i64 c.2.1,.string c.2.2]) ty68 rfl rfl rfl rfl hx14c rfl rfl ?_;have hgive:Calls Tryz.prog idz5 #[.slice ao hs.length co,.agg (encG (c.1,1,0)).toArray,.slice ac (xl (c:=cCol) fi.2).length cc,.agg [.string c.1,.int .i64 c.2.1,.string c.2.2].toArray] w14 (Ret fun v w'=>v=.int .i64 (S.give R3 (c.1,1,0) fi.2 c)/\IntKind.i64.wrap (S.give R3 (c.1,1,0) fi.2 c)=S.give R3 (c.1,1,0) fi.2 c/\Upd [] w14 w'):=by
   refine qew qsm (x:=(R3,((c.1,1,0):qac),fi.2,c,())) (us:=[_,_,_,_]) (y:=(S.give R3 (c.1,1,0) fi.2 c,())) rfl rfl (gl0 _ _) (.cons ?_ (.cons ?_ (.cons ?_ (.cons ?_ .nil))))
   ·have:=(ps3.upd0 v14).vr (N:=[]) (by simp) (by rw[hRl3];have:=fokF.len;omega);rw[show R3.length=hs.length by rw[<- hhl3,ps3.len]] at this;exact this
   ·exact .agg (us:=encG (c.1,1,0)) rfl (VRs.cons (.str _ b1) (VRs.cons (.int _ _ (show IntKind.i64.wrap 1=1 by decide)) (VRs.cons (.int _ _ (show IntKind.i64.wrap 0=0 by decide)) VRs.nil))).2
   ·exact qib ((hsl3.mono (trU v14 (fun _ h=>h))).mono (Tr.sub _ (by simp))) hslb
   ·exact .agg (us:=[.string c.1,.int .i64 c.2.1,.string c.2.2]) rfl (VRs.cons (.str _ b1) (VRs.cons (.int _ _ b2) (VRs.cons (.str _ b3) VRs.nil))).2
  refine qdo qsm.callable rfl rfl rfl hgive ?_;rintro _ w15 ⟨rfl,_,u15⟩;refine qmg rfl rfl rfl rfl ?_;refine jaq ?_;refine hK30 _ _ ?_;have hx15:=hx14.mono0 u15;have hx15c:=hx14c.mono0 u15;have v15:Upd [] w10 w15:=v14.trans u15;refine qpu rfl rfl (fun hne=>?_) (fun heq=>?_)
  ·have hpick:S.pickG R3 fi.2 c=S.voidG c:=jak hne;refine qak fun K31 hK31=>?_;refine qap ?_;refine qdl (r:=[.string ⟨#[]⟩,.int .i64 6,.int .i64 0]) ty82 qi0 rfl rfl rfl rfl rfl ?_;refine qb5 (cs':=encG (S.lit [],6,0)) ty82 rfl rfl rfl rfl hx15 rfl rfl rfl fun w16 u16 hz16 hx16=>?_;refine jaq ?_;refine hK31 _ _ ?_;have v16:Upd [] w10 w16:=Upd.old_upd v15 u16 hlow15;have hx16c:Box w16 β14 [.string c.1,.int .i64 c.2.1,.string c.2.2]:=hx15c.mono u16 (by have:=hx12.lt;simp;omega);refine qak fun K32 hK32=>?_;refine qap ?_;refine qbh q6u rfl rfl rfl ?_;refine qcl (v:=.int .i64 c.2.1) ty3 rfl rfl rfl rfl hx16c rfl ?_;refine qs8 rfl rfl rfl rfl ?_;refine jaq ?_;refine hK32 _ _ ?_;refine c_if rfl rfl (fun h3=>?_) (fun h3=>?_)
   ·refine qap ?_;refine qbh zbp rfl rfl rfl ?_;refine qb5 (cs':=encG (S.lit [],7,0)) ty3 rfl rfl rfl rfl hx16 rfl rfl rfl fun w17 u17 hz17 hx17=>?_;refine jaq ?_;refine⟨(),⟨Upd.old_upd v16 u17 hlow15,?_⟩,_,rfl,(by repeat first|exact qag.refl _ _|refine qag.upd rfl ?_|refine qag.upds rfl ?_|refine qag.mix rfl ?_),trivial⟩;rw[hpick,show S.voidG c=(S.lit [],7,0) from jam h3];exact hx17
   ·refine jec ?_;refine⟨(),⟨v16,?_⟩,_,rfl,(by repeat first|exact qag.refl _ _|refine qag.upd rfl ?_|refine qag.upds rfl ?_|refine qag.mix rfl ?_),trivial⟩;rw[hpick,show S.voidG c=(S.lit [],6,0) from jak h3];exact hx16
  ·refine jec ?_;refine⟨(),⟨v15,?_⟩,_,rfl,(by repeat first|exact qag.refl _ _|refine qag.upd rfl ?_|refine qag.upds rfl ?_|refine qag.mix rfl ?_),trivial⟩;rw[show S.pickG R3 fi.2 c=(c.1,1,0) from jam heq];exact hx15
 rintro⟨⟩ τ4 w20 ⟨v20,hx20⟩;generalize hg:S.pickG R3 fi.2 c=g at hx20;obtain⟨h,hhi⟩:∃h,hs3[i]?=some h:=⟨hs3[i]'(by have:=ps3.len;omega),jac _⟩;obtain⟨β,rfl⟩:=Go.Sx.Own.place ps3.own (jal.1 hhi).1;have hil:i<hs.length:=by rw[<- hhl3];exact(jal.1 hhi).1
 refine wp_region_any qdp ?_;refine qgx (i:=0) (v:=.slice (some ⟨β,0,none⟩) hs.length co) rfl rfl rfl rfl (by kernel_rfl) (fun c a w h=>(show _/\False from h).2) (fun w1=>qam (v:=.slice (some ⟨β,0,none⟩) hs.length co) rfl rfl rfl q1) ?_;refine qgx (i:=1) (v:=.int .i64 (i:Int)) rfl rfl rfl rfl (by kernel_rfl) (fun c a w h=>(show _/\False from h).2) (fun w1=>qam (v:=.int .i64 (i:Int)) rfl rfl rfl q1) ?_;refine qgx (i:=2) (v:=.slice (some ⟨β,0,none⟩) hs.length co) rfl rfl rfl rfl (by kernel_rfl) (fun c a w h=>(show _/\False from h).2) (fun w1=>qam (v:=.slice (some ⟨β,0,none⟩) hs.length co) rfl rfl rfl q1) ?_;refine qgx (i:=3) (v:=.int .i64 (i:Int)) rfl rfl rfl rfl (by kernel_rfl) (fun c a w h=>(show _/\False from h).2) (fun w1=>qam (v:=.int .i64 (i:Int)) rfl rfl rfl q1) ?_;refine qgx (i:=4) (v:=.pointer (some ⟨β,i*3,none⟩)) rfl rfl rfl rfl (by kernel_rfl) (fun c a w h=>(show _/\False from h).2) (fun w1=>qic ty23 ty71 rfl rfl rfl rfl hil q1) ?_;refine qgx (i:=5) (v:=.pointer (some ⟨β,i*3+2,none⟩)) rfl rfl rfl rfl (by kernel_rfl) (fun c a w h=>(show _/\False from h).2) (fun w1=>qbh qhx rfl rfl rfl q1) ?_;have v21:Upd [] w10 ({ w20 with drawn:=w20.drawn+1 }:World):=v20.trans (Upd.drew [] w20);have hx21:=hx20.mono0 (Upd.drew [] w20);generalize ({ w20 with drawn:=w20.drawn+1 }:World)=w21 at v21 hx21;have ps21:=ps3.upd0 v21;have row21:=ps21.row i h r hhi hri;have hrow:h.n=(xg r.2.2).length:=by rw[row21.n,qdv]
 have hload:∀{w':World},Upd [] w21 w'->w'.cell? ⟨β,i*3+2,none⟩=some (.slice h.h (xg r.2.2).length h.cap):=fun u=>by
  obtain⟨cs,c1,c2⟩:=qwa (off:=2) (ps21.upd0 u).own hhi (by show 2<3;omega);have c1:cs=encH h:=c1;have c2:_=cs[2]?:=c2;refine c2.trans ?_;rw[c1,<- hrow];rfl
 have hm21:∀b∈m3,b<w21.heap.size:=fun b hb=>jaz (hm10 b hb) v21.size;have hM21:Lo M w21:=hM10.mono v21.size;have gwf:IntKind.i64.wrap g.2.1=g.2.1/\IntKind.i64.wrap g.2.2=g.2.2/\g.1.size<9223372036854775808:=by
  rw[<- hg];unfold S.pickG S.voidG;split
  ·exact⟨show IntKind.i64.wrap 1=1 by decide,show IntKind.i64.wrap 0=0 by decide,b1⟩
  ·split<;>exact⟨by decide,by decide,by decide⟩
 have hnew:∀β8 w22,w21.heap.size=β8->Upd [] w21 w22->w22.heap.size=β8+1->Box w22 β8 (encG g)->PS M m3 w22 (some ⟨β,0,none⟩) co hs3 R3/\Upd [] w10 w22/\SL (m3++M) w22 (some ⟨β8,0,none⟩) 1 [X.mk (c:=qar) g]/\Lo M w22:=fun β8 w22 hβ8 u22 hz8 hx8 =>
  ⟨ps21.upd0 u22,v21.trans u22,SL.of_box1 hx8 (fun hm=>by
   rcases jbi.1 hm with h|h
   ·have:=hm21 β8 h;omega
   ·have:=hM21 β8 h;omega) (VRs.cons (.str _ gwf.2.2) (VRs.cons (.int _ _ gwf.1) (VRs.cons (.int _ _ gwf.2.1) VRs.nil))),hM21.mono u22.size⟩
 have fin:∀(w22:World) (ps22:PS M m3 w22 (some ⟨β,0,none⟩) co hs3 R3) (v22:Upd [] w10 w22) (a5:Option Addr) (c5:Nat) (w23:World) (m5:List Nat),Go.Sx.Own m5 M w23 a5 c5 (xg (r.2.2++[g]))->Evo m3 w22 m5 w23->Upd (blk h.h) w22 w23->(∀b∈blk a5,b∈blk h.h\/w22.heap.size<=b)->(∀b∈m3,b∈m5) ->
   ∀w24,Upd [β] w23 w24->Go.Sx.Own m5 M w24 (some ⟨β,0,none⟩) co (hs3.set i ⟨h.cl,h.to,a5,(r.2.2++[g]).length,c5⟩) ->
   (k+1<=fb.2.length/\(R3.set i (S.addG r g)).length=F.length/\(hs3.set i ⟨h.cl,h.to,a5,(r.2.2++[g]).length,c5⟩).length=hs.length)/\PS M m5 w24 (some ⟨β,0,none⟩) co (hs3.set i ⟨h.cl,h.to,a5,(r.2.2++[g]).length,c5⟩) (R3.set i (S.addG r g))/\(Evo [] w m5 w24/\(β9 ∉ m5/\Box w24 β9 [.string fi.1,.slice ac (xl (c:=cCol) fi.2).length cc])/\SL (m5++M) w24 at2 ct2 (xl (c:=cCol) fb.2)/\SL (m5++M) w24 ac cc (xl (c:=cCol) fi.2))/\S.plCols fi.2 i (fb.2.drop (k+1)) (R3.set i (S.addG r g))=S.plCols fi.2 i fb.2 R/\(∀(j:Nat) r',i+1<=j->(R3.set i (S.addG r g))[j]?=some r'->r'.2.2=[])/\∃r',(R3.set i (S.addG r g))[i]?=some r'/\r'.2.2.length=k+1:=by
  intro w22 ps22 v22 a5 c5 w23 m5 ho5 ev5 hu5 hbk5 hsub5 w24 hu6 ho6;have hβm3':β∈m3:=ps22.own.mem β (by simp[blk]);have hβm5:β∈m5:=hsub5 β hβm3';have ps24:=ps22.give hhi hri (by omega) rfl ho5 ev5 hu5 hbk5 hsub5 hu6 ho6;have e24:Evo m3 w22 m5 w24:=ev5.trans (hu6.evo (by simpa using hβm5));have e14:Evo m3 w10 m5 w24:=v22.evo0.trans e24;have h9lt:β9<w10.heap.size:=hxf.lt;have h9lt22:β9<w22.heap.size:=jaz h9lt v22.size;have h9m5:β9 ∉ m5:=fun hm=>by
   rcases ev5.own β9 hm with q|q
   ·exact hβm3 q
   ·omega
  have hx24:Box w24 β9 [.string fi.1,.slice ac (xl (c:=cCol) fi.2).length cc]:=by
   obtain⟨ty,hh⟩:=hxf;exact⟨ty,(e14.same β9 h9lt hβm3).trans hh⟩
  have hil3:i<R3.length:=(jal.1 hri).1;refine⟨⟨hk1,by rw[jb9];exact hRl3,by rw[jb9];exact hhl3⟩,ps24,⟨ev3.trans e14,⟨h9m5,hx24⟩,htl3.mono (e14.tr M),hsl3.mono (e14.tr M)⟩,?_,fun j r' hj hr'=>?_,⟨S.addG r g,jc6 hil3,by unfold S.addG;rw[ja4,hrl];rfl⟩⟩
  ·rw[<- hpl3,qpn hc3,S.plCols,hg];have e:R3.getD i S.zRule=r:=by rw[jar,hri];rfl
   rw[e]
  ·rw[jc1 (by omega)] at hr';exact hemp3 j r' hj hr'
 refine wpAny_all (rs:=[6,7]) (by kernel_rfl) (by simp) fun q hq=>?_;have hq:q=6\/q=7:=by simpa using hq
 rcases hq with rfl|rfl
 ·refine qhg rfl ?_;refine qdq ty69 rfl rfl rfl rfl (hload (Upd.refl _ _)) ?_;refine jaq ⟨rfl,?_⟩;refine qb3 (i:=7) rfl (by kernel_rfl) ?_;refine qff (ds:=encG g) ty82 rfl rfl rfl rfl hx21 rfl rfl ?_;refine jaq ⟨rfl,?_⟩;refine qb3 (i:=8) rfl (by kernel_rfl) ?_;refine qf0 (r:=encG g) ty69 ty82 rfl rfl rfl rfl rfl rfl fun β8 w22 hβ8 u22 hz8 hx8=>?_;refine jaq ⟨rfl,?_⟩;obtain⟨ps22,v22,hs22,hM22⟩:=hnew β8 w22 hβ8 u22 hz8 hx8;refine qb3 (i:=9) rfl (by kernel_rfl) ?_;refine qhp ty69 ty69 ty82 rfl rfl rfl rfl rfl rfl rfl (ps22.row i h r hhi hri).own hs22 hM22 (by show ((xg r.2.2).length+1)*32<=140737488355328;rw[qdv];omega) fun a5 c5 w23 m5 ho5 ev5 hu5 hbk5 hsub5=>?_;refine jaq ⟨rfl,?_⟩;refine qb3 (i:=10) rfl (by kernel_rfl) ?_;refine qic ty23 ty71 rfl rfl rfl rfl hil ?_;refine jaq ⟨rfl,?_⟩;refine qb3 (i:=11) rfl (by kernel_rfl) ?_;refine qbh qhx rfl rfl rfl ?_;refine jaq ⟨rfl,?_⟩;refine qb3 (i:=12) rfl (by kernel_rfl) ?_;refine qpj (j:=i) (off:=2) (u:=h) (u':=⟨h.cl,h.to,a5,(r.2.2++[g]).length,c5⟩) (vs:=[.slice a5 (r.2.2++[g]).length c5]) ty69 rfl rfl rfl (jcd (Value.slice a5 · c5) (by rw[qe0,qdv])) (ps22.mid hhi ev5 hu5 hsub5) rfl hhi rfl rfl (fun cs w' hcs=>by
   have hcs:cs=encH h:=hcs;rw[hcs];rfl) fun w24 hu6 hz6 ho6=>?_
  refine jaq ⟨rfl,?_⟩;refine wpAny_done (by kernel_rfl) ?_ _;have hfin:=fin w22 ps22 v22 a5 c5 w23 m5 (by rw[<- qe0];exact ho5) ev5 hu5 hbk5 hsub5 w24 hu6 ho6;refine hK27 _ _ ?_;refine qap ?_;refine qen rfl rfl rfl rfl (by omega) ?_;refine qam (v:=.int .i64 ((k+1:Nat):Int)) rfl rfl rfl ?_;refine jaq ?_;exact⟨(k+1,m5,hs3.set i ⟨h.cl,h.to,a5,(r.2.2++[g]).length,c5⟩,R3.set i (S.addG r g)),by show fb.2.length-(k+1)<fb.2.length-k;omega,hfin,_,rfl,(by repeat first|exact qag.refl _ _|refine qag.upd rfl ?_|refine qag.upds rfl ?_|refine qag.mix rfl ?_),rfl,trivial⟩
 ·refine qhg rfl ?_;refine qff (ds:=encG g) ty82 rfl rfl rfl rfl hx21 rfl rfl ?_;refine jaq ⟨rfl,?_⟩;refine wpAny_all (rs:=[6,8]) (by kernel_rfl) (by simp) fun q hq=>?_;have hq:q=6\/q=8:=by simpa using hq
  rcases hq with rfl|rfl
  ·refine qhg rfl ?_;refine qdq ty69 rfl rfl rfl rfl (hload (Upd.refl _ _)) ?_;refine jaq ⟨rfl,?_⟩;refine qb3 (i:=8) rfl (by kernel_rfl) ?_;refine qf0 (r:=encG g) ty69 ty82 rfl rfl rfl rfl rfl rfl fun β8 w22 hβ8 u22 hz8 hx8=>?_;refine jaq ⟨rfl,?_⟩;obtain⟨ps22,v22,hs22,hM22⟩:=hnew β8 w22 hβ8 u22 hz8 hx8;refine qb3 (i:=9) rfl (by kernel_rfl) ?_;refine qhp ty69 ty69 ty82 rfl rfl rfl rfl rfl rfl rfl (ps22.row i h r hhi hri).own hs22 hM22 (by show ((xg r.2.2).length+1)*32<=140737488355328;rw[qdv];omega) fun a5 c5 w23 m5 ho5 ev5 hu5 hbk5 hsub5=>?_;refine jaq ⟨rfl,?_⟩;refine qb3 (i:=10) rfl (by kernel_rfl) ?_;refine qic ty23 ty71 rfl rfl rfl rfl hil ?_;refine jaq ⟨rfl,?_⟩;refine qb3 (i:=11) rfl (by kernel_rfl) ?_;refine qbh qhx rfl rfl rfl ?_;refine jaq ⟨rfl,?_⟩;refine qb3 (i:=12) rfl (by kernel_rfl) ?_;refine qpj (j:=i) (off:=2) (u:=h) (u':=⟨h.cl,h.to,a5,(r.2.2++[g]).length,c5⟩) (vs:=[.slice a5 (r.2.2++[g]).length c5]) ty69 rfl rfl rfl (jcd (Value.slice a5 · c5) (by rw[qe0,qdv])) (ps22.mid hhi ev5 hu5 hsub5) rfl hhi rfl rfl (fun cs w' hcs=>by
    have hcs:cs=encH h:=hcs;rw[hcs];rfl) fun w24 hu6 hz6 ho6=>?_
   refine jaq ⟨rfl,?_⟩;refine wpAny_done (by kernel_rfl) ?_ _;have hfin:=fin w22 ps22 v22 a5 c5 w23 m5 (by rw[<- qe0];exact ho5) ev5 hu5 hbk5 hsub5 w24 hu6 ho6;refine hK27 _ _ ?_;refine qap ?_;refine qen rfl rfl rfl rfl (by omega) ?_;refine qam (v:=.int .i64 ((k+1:Nat):Int)) rfl rfl rfl ?_;refine jaq ?_;exact⟨(k+1,m5,hs3.set i ⟨h.cl,h.to,a5,(r.2.2++[g]).length,c5⟩,R3.set i (S.addG r g)),by show fb.2.length-(k+1)<fb.2.length-k;omega,hfin,_,rfl,(by repeat first|exact qag.refl _ _|refine qag.upd rfl ?_|refine qag.upds rfl ?_|refine qag.mix rfl ?_),rfl,trivial⟩
  ·refine qhg rfl ?_;refine qf0 (r:=encG g) ty69 ty82 rfl rfl rfl rfl rfl rfl fun β8 w22 hβ8 u22 hz8 hx8=>?_;refine jaq ⟨rfl,?_⟩;obtain⟨ps22,v22,hs22,hM22⟩:=hnew β8 w22 hβ8 u22 hz8 hx8;refine qb3 (i:=6) rfl (by kernel_rfl) ?_;refine qdq ty69 rfl rfl rfl rfl (hload u22) ?_;refine jaq ⟨rfl,?_⟩;refine qb3 (i:=9) rfl (by kernel_rfl) ?_;refine qhp ty69 ty69 ty82 rfl rfl rfl rfl rfl rfl rfl (ps22.row i h r hhi hri).own hs22 hM22 (by show ((xg r.2.2).length+1)*32<=140737488355328;rw[qdv];omega) fun a5 c5 w23 m5 ho5 ev5 hu5 hbk5 hsub5=>?_;refine jaq ⟨rfl,?_⟩;refine qb3 (i:=10) rfl (by kernel_rfl) ?_;refine qic ty23 ty71 rfl rfl rfl rfl hil ?_;refine jaq ⟨rfl,?_⟩;refine qb3 (i:=11) rfl (by kernel_rfl) ?_;refine qbh qhx rfl rfl rfl ?_;refine jaq ⟨rfl,?_⟩;refine qb3 (i:=12) rfl (by kernel_rfl) ?_;refine qpj (j:=i) (off:=2) (u:=h) (u':=⟨h.cl,h.to,a5,(r.2.2++[g]).length,c5⟩) (vs:=[.slice a5 (r.2.2++[g]).length c5]) ty69 rfl rfl rfl (jcd (Value.slice a5 · c5) (by rw[qe0,qdv])) (ps22.mid hhi ev5 hu5 hsub5) rfl hhi rfl rfl (fun cs w' hcs=>by
    have hcs:cs=encH h:=hcs;rw[hcs];rfl) fun w24 hu6 hz6 ho6=>?_
   refine jaq ⟨rfl,?_⟩;refine wpAny_done (by kernel_rfl) ?_ _;have hfin:=fin w22 ps22 v22 a5 c5 w23 m5 (by rw[<- qe0];exact ho5) ev5 hu5 hbk5 hsub5 w24 hu6 ho6;refine hK27 _ _ ?_;refine qap ?_;refine qen rfl rfl rfl rfl (by omega) ?_;refine qam (v:=.int .i64 ((k+1:Nat):Int)) rfl rfl rfl ?_;refine jaq ?_;exact⟨(k+1,m5,hs3.set i ⟨h.cl,h.to,a5,(r.2.2++[g]).length,c5⟩,R3.set i (S.addG r g)),by show fb.2.length-(k+1)<fb.2.length-k;omega,hfin,_,rfl,(by repeat first|exact qag.refl _ _|refine qag.upd rfl ?_|refine qag.upds rfl ?_|refine qag.mix rfl ?_),rfl,trivial⟩

end
theorem qwy{M:List Nat}{w w':World}{r:Res}{u:Value}(hr:r.S=S0)(hu:Upd [] w w')(hM:Lo M w)(hv:VR (EM M w') r.v u):RetE T0 (EM M w) S0 r (.returned u) w':=by
 refine⟨u,EM M w',rfl,rfl,hv,?_,⟨fun id h=>h.elim⟩⟩;rw[hr];exact⟨⟨fun id _ h=>h.elim,fun id _ h=>h.elim,fun id _ h=>h.elim,fun i j _ _ h=>h.elim,fun b hb=>jaz (hM b hb) hu.size⟩,⟨hu.os,hu.tape,hu.output,hu.size,fun b hb _=>hu.same b hb (by simp),fun id h=>h.elim,fun id h=>h.elim,fun id _ h=>h.elim,fun b hb=>.inl hb,fun b hb _=>.inl hb⟩,fun id h=>h.elim,jap _⟩
theorem zh4:Con Tryz.prog 17 q6o:=by
 refine⟨⟨_,Tryz.func17,by kernel_rfl,by kernel_rfl⟩,fun M w x us y hf hM hG hv=>?_⟩;obtain⟨(F:List qab),(T:List qab),⟨⟩⟩:=x;obtain⟨u1,us1,rfl,a1,a2⟩:=VRs.inv (v:=.lst cForm F) (cs:=[.lst cForm T]) hv;obtain⟨u2,us2,rfl,b1,b2⟩:=VRs.inv (v:=.lst cForm T) (cs:=[]) a2;obtain rfl:us2=[]:=jbo.1 b2.1.symm;obtain⟨a,c,rfl,s1,l1⟩:=qke a1;obtain⟨a',c',rfl,s2,l2⟩:=qke b1;cases hf;refine jdm.2 ((zgx hM s1 s2 l1 l2).mono fun e w' he=>?_);cases e with
 | returned v =>
  obtain⟨a3,c3,rfl,h1,h2,h3⟩:=he;refine qwy rfl h3 hM ?_;exact .tup (cs:=[.lst cRule (S.plain F T).1,.int .i64 (S.plain F T).2]) (us:=[.slice a3 (S.plain F T).1.length c3,.int .i64 (S.plain F T).2]) rfl (VRs.cons h1 (VRs.cons (.int _ _ h2) VRs.nil)).2
 | _=>exact he.elim
end Go.Proofs.YtcnhjofpmpipfaaGreat
end

section
set_option maxRecDepth 100000
namespace Go.Sx
open Go Go.RowKit
section
variable {P : Program} {ops : Array Oper} {Q : Exit -> Act -> World -> Prop} {md : Region.Mode} {C : World -> Prop} {g : Nat}
def qc7(P:Program)(md:Region.Mode)(ops:Array Oper)(Q:Exit->Act->World->Prop)(C:World->Prop)(g:Nat):Nat->Array Bool->Act->World->Prop
 | 0,listed,a,w=>Region.ready md ops listed=[]/\Q .normal a w
 | fuel+1,listed,a,w =>
  (Region.ready md ops listed=[]->Q .normal a w) /\
  ∀i∈Region.ready md ops listed,wpOp P ops Q i (fun a' w'=>((listed.setIfInBounds i true).getD g false=false->C w')/\qc7 P md ops Q C g fuel (listed.setIfInBounds i true) a' w') a w
theorem qx0:∀(fuel:Nat) (listed:Array Bool) (a:Act) (w:World),qc7 P md ops Q C g fuel listed a w->wpAny P md ops Q fuel listed a w
 | 0,_,_,_,h=>h
 | fuel+1,_,_,_,h=>⟨h.1,fun i hi=>wpOp_mono (fun a' w' h'=>qx0 fuel _ a' w' h'.2) (h.2 i hi)⟩
def qz2(md:Region.Mode)(ops:Array Oper)(c p:Nat):Bool:=match ops[c]? with
 | some o=>o.after.any fun e=>Region.binds md e&&Nat.beq e.on p
 | none=>false
def chB(md:Region.Mode)(ops:Array Oper)(listed:Array Bool):Nat->List Nat->Bool
 | p,[]=>!listed.getD p true
 | p,c::r=>!listed.getD p true&&qz2 md ops c p&&chB md ops listed c r
theorem zol{listed:Array Bool}:∀{p:Nat} {l:List Nat},chB md ops listed p l=true->listed.getD p true=false
 | p,[],h=>by simpa [chB] using h
 | p,c::r,h=>by simp only[chB,jaf] at h;simpa using h.1.1
theorem q50{listed:Array Bool}{j:Nat}(hj:j∈Region.ready md ops listed):∀{p:Nat} {l:List Nat},chB md ops listed p l=true->j ∉ l
 | p,[],h=>by simp
 | p,c::r,h=>by
  simp only[chB,jaf] at h;obtain⟨⟨h1,h2⟩,h3⟩:=h;rw[ja1];rintro(e|h4)
  ·obtain⟨hun,oj,hoj,hall⟩:=mem_ready.1 hj;subst e;unfold qz2 at h2;rw[hoj] at h2;simp only[Array.any_eq_true'] at h2;obtain⟨e,he,hb⟩:=h2;simp only[jaf] at hb;have:=hall e he hb.1;rw[jah hb.2] at this;rw[getD_both (by simpa using h1)] at this;cases this
  ·exact q50 hj h3 h4
theorem q2y{listed:Array Bool}{j:Nat}:∀{p:Nat} {l:List Nat},chB md ops listed p l=true->j≠p->j ∉ l->chB md ops (listed.setIfInBounds j true) p l=true
 | p,[],h,h1,_=>by
  unfold chB at h ⊢;rw[jeh true h1];exact h
 | p,c::r,h,h1,h2=>by
  simp only[chB,jaf] at h ⊢;rw[ja1,not_or] at h2;exact⟨⟨by rw[jeh true h1];exact h.1.1,h.1.2⟩,q2y h.2 h2.1 h2.2⟩
theorem qxu{listed:Array Bool}:∀{p:Nat} {l:List Nat},chB md ops listed p l=true->l.getLast?=some g->listed.getD g true=false
 | p,[],h,hg=>by cases hg
 | p,[c],h,hg=>by
  simp only[chB,jaf] at h;obtain rfl:c=g:=by simpa using hg
  simpa using h.2
 | p,c::d::r,h,hg=>by
  simp only[chB,jaf] at h;exact qxu (p:=c) (l:=d::r) (by simp only[chB,jaf];exact h.2) (by rw[List.getLast?_cons_cons] at hg;exact hg)
theorem zlz{i:Nat}{oi:Oper}{v:Value}{tl:List Nat}(hi:ops[i]?=some oi)(hsel:∀(j:Nat) (o:Oper) cs b,ops[j]?=some o->o.op≠.select cs b)
  (hQ:∀c a w,¬Q (.panic c) a w) (hg:tl.getLast?=some g) (hig:i≠g) :
  ∀(fuel:Nat) (listed:Array Bool) (a:Act) (w:World),
   (∀j oj,ops[j]?=some oj->j≠i->listed.getD j true=false->(∀e∈oj.after,Region.binds md e=true->e.on≠i)->oi.apart ops oj=true) ->
   i∈Region.ready md ops listed->chB md ops listed i tl=true->YieldsIf P ops C oi v a->C w ->
   qc7 P md ops Q C g fuel (listed.setIfInBounds i true) (a.put oi.dst v) w->qc7 P md ops Q C g (fuel+1) listed a w:=by
 intro fuel;induction fuel with
 | zero =>
  intro listed a w _ hr hch hy hS H;refine⟨fun h=>(by rw[h] at hr;cases hr),fun j hj=>?_⟩;by_cases hji:j=i
  ·subst hji;exact hy.wpOp hi hS ⟨fun _=>hS,H⟩
  ·have:=ready_mono hj hji;rw[H.1] at this;cases this
 | succ fuel ih =>
  intro listed a w hfree hr hch hy hS H;refine⟨fun h=>(by rw[h] at hr;cases hr),fun j hj=>?_⟩;by_cases hji:j=i
  ·subst hji;exact hy.wpOp hi hS ⟨fun _=>hS,H⟩
  ·have h1:=H.2 j (ready_mono hj hji);obtain⟨hjun,oj,hoj,hall⟩:=mem_ready.1 hj;have hjt:j ∉ tl:=q50 hj hch;have hch':=q2y hch hji hjt;have hnot:∀e∈oj.after,Region.binds md e=true->e.on≠i:=fun e he hb heq=>by
    have h1:=hall e he hb;rw[heq,getD_both (zol hch)] at h1;cases h1
   have h2:=wpOp_putIf hoj (hfree j oj hoj hji hjun hnot) (fun cs b=>hsel i oi cs b hi) (fun cs b=>hsel j oj cs b hoj) (fun c a w h=>absurd h (hQ c _ w)) hy h1;have hfree':∀k ok,ops[k]?=some ok->k≠i->(listed.setIfInBounds j true).getD k true=false ->
     (∀e∈ok.after,Region.binds md e=true->e.on≠i)->oi.apart ops ok=true:=fun k ok hk hki hun hno=>by
    refine hfree k ok hk hki ?_ hno;by_cases hjk:j=k
    ·subst hjk;exact hjun
    ·rw[jeh true hjk] at hun;exact hun
   have hgl:(listed.setIfInBounds j true).getD g false=false:=by
    exact getD_both (qxu hch' hg)
   have hgl2:((listed.setIfInBounds i true).setIfInBounds j true).getD g false=false:=by
    rw[Array.setIfInBounds_comm _ _ (jey hji),jeh false hig];exact hgl
   refine wpOp_mono (fun a' w' h3=>⟨fun _=>h3.2.1 hgl2,ih (listed.setIfInBounds j true) a' w' hfree' (ready_mono hr (jey hji)) hch' h3.1 (h3.2.1 hgl2) ?_⟩) h2;rw[Array.setIfInBounds_comm _ _ hji];exact h3.2.2
end
section
variable {P : Program} {n : Nat} {σ : Nat -> Value} {w : World} {ops : Array Oper} {d : Nat} {op : Op} {ty : TypeId} {pos : String} {aft : Array Edge} {gd : Option (Nat × Bool)} {C : World -> Prop}
theorem qa1{md:Region.Mode}{Q:Exit->Act->World->Prop}{v:Value}{i g fuel:Nat}{listed:Array Bool}(tl:List Nat)(hi:ops[i]?=some ⟨some d,op,ty,pos,aft,gd⟩)(hp:qg7 op=true)(hd:Nat.blt d n=true)(hg:qa2 ops σ n gd=true)
  (hb:(Region.noSelect ops&&Region.free md ops listed i&&(Region.ready md ops listed).contains i&&chB md ops listed i tl&&!Nat.beq i g&&(match tl.getLast? with|some x=>Nat.beq x g|none=>false))=true) (hQ:∀c a w,¬Q (.panic c) a w) (hC:C w)
  (h:∀w1,C w1->wpList P ops (QOne n σ d v w1) [⟨some d,op,ty,pos,aft,gd⟩] (Fr n σ) w1)
  (k:qc7 P md ops Q C g fuel (listed.setIfInBounds i true) (Fr n (upd σ d v)) w):qc7 P md ops Q C g (fuel+1) listed (Fr n σ) w:=by
 simp only[jaf] at hb;obtain⟨⟨⟨⟨⟨b1,b2⟩,b3⟩,b4⟩,b5⟩,b6⟩:=hb;have hd':d<n:=by simpa using hd
 have hl:tl.getLast?=some g:=by
  cases ht:tl.getLast? with
  | none=>rw[ht] at b6;cases b6
  | some x=>rw[ht] at b6;rw[jah b6]
 have hne:i≠g:=fun e=>by subst e;simp at b5
 refine zlz (v:=v) hi (Region.noSelect_spec b1) hQ hl hne fuel listed _ w (Region.free_spec hi b2) (by simpa using b3) b4 (.inl ⟨qjh hg,fun w1 hw1=>?_⟩) hC (by show qc7 P md ops Q C g fuel _ ((Fr n σ).put (some d) v) w;rw[qgg];exact k);have h1:=h w1 hw1;unfold wpList at h1;rw[qjh (o:=⟨some d,op,ty,pos,aft,gd⟩) hg,jam rfl] at h1;rcases h1 with h1|⟨_,a,w',h1,_⟩
 ·unfold Oper.wp at h1;cases hr:(execOp (Fr n σ).eval ⟨some d,op,ty,pos,aft,gd⟩).run P w1 with
  | ok x w' =>
   rw[hr] at h1;cases x with
   | value u =>
    rw[Oper.upon_value,qgg] at h1;obtain⟨_,h2,h3⟩:=h1;rw[h3,qxq hd' h2]
   | skip =>
    obtain⟨u,hu⟩:=qpy hp hr;cases hu
   | _=>obtain⟨u,hu⟩:=qpy hp hr;cases hu
  | halt x w'=>rw[hr] at h1;cases x<;>first|exact h1.elim|(obtain⟨h2,_⟩:=h1;cases h2)
 ·cases h1
theorem oneK{md:Region.Mode}{Q:Exit->Act->World->Prop}{o:Oper}{i g fuel:Nat}{listed:Array Bool}{a:Act}(hi:ops[i]?=some o)(hr:Region.ready md ops listed=[i])
  (h:wpList P ops (KOne fun a' w'=>((listed.setIfInBounds i true).getD g false=false->C w')/\qc7 P md ops Q C g fuel (listed.setIfInBounds i true) a' w') [o] a w):qc7 P md ops Q C g (fuel+1) listed a w:=by
 refine⟨fun h0=>(by rw[h0] at hr;cases hr),fun j hj=>?_⟩;rw[hr] at hj;have:j=i:=by simpa using hj
 subst this;exact qhg hi h
theorem qth{md:Region.Mode}{Q:Exit->Act->World->Prop}{g:Nat}{listed:Array Bool}{a:Act}(hr:Region.ready md ops listed=[])(h:Q .normal a w):∀fuel,qc7 P md ops Q C g fuel listed a w
 | 0=>⟨hr,h⟩
 | _+1=>⟨fun _=>h,by rw[hr];simp⟩
theorem quy{Q:Exit->Act->World->Prop}{id:Nat}{a:Act}(C:World->Prop)(g:Nat)(hm:P.follows .mixedOrders=true)
  (h:qc7 P .any ops Q C g ops.size (Array.replicate ops.size false) a { w with drawn:=w.drawn+1 }):(Code.region id ops true).wp P Q a w :=
 wp_region_any hm (qx0 _ _ _ _ h)
end
end Go.Sx
end

section
set_option maxRecDepth 100000
namespace Go.Sx
open Go Go.RowKit
theorem qgr{P:Program}{n:Nat}{σ:Nat->Value}{w:World}{ops:Array Oper}{rest:List Oper}{d:Nat}{ty:TypeId}{pos:String}{aft:Array Edge}{g:Option (Nat × Bool)}{T E:TypeId}{E':TypeDesc}{size bytes s2 b2:Nat}{zero z2:Value}{x y:Operand}{Q:Exit->Act->World->Prop}{b off len cap j:Nat}{kk:IntKind}(hT:Ty P T (.slice E) size bytes zero)(hE:Ty P E E' s2 b2 z2)
  (hg:qa2 ops σ n g=true) (hx:(okO n x&&okO n y)=true) (ex:ev σ x=.slice (some ⟨b,off,none⟩) len cap) (ey:ev σ y=.int kk (j:Nat)) (h1:j<len)
  (k:wpList P ops Q rest (Fr n (upd σ d (.pointer (some ⟨b,off+j*s2,none⟩)))) w):wpList P ops Q (⟨some d,.indexAddr T x y,ty,pos,aft,g⟩::rest) (Fr n σ) w:=by
 simp only[jaf] at hx;refine qb6 hg ?_ k;have h2:(0:Int)<=j:=by omega
 have h3:(j:Int)<len:=by omega
 simp only[execOp,qbk hx.1,qbk hx.2,ex,ey,Instr.indexAt,asIntOf,jag,jad,jaa,jan hT.und,h2,h3,jet,jb4,run_sizeOf hE,qbe ⟨b,off,none⟩ rfl];simp
theorem Evo.new{m S:List Nat}{w w1 w2:World}(e:Evo [] w m w1)(u:Upd S w1 w2)(hS:∀b∈S,w.heap.size<=b):Evo [] w m w2 :=
 ⟨u.os.trans e.os,u.tape.trans e.tape,u.output.trans e.output,ja5 e.size u.size,e.own,fun hl b hb=>jaz (e.lo hl b hb) u.size,fun b hb hn=>(u.same b (jaz hb e.size) fun h=>by have:=hS b h;omega).trans (e.same b hb hn)⟩
end Go.Sx
namespace Go.Proofs.YtcnhjofpmpipfaaGreat
open Go Go.Sx Go.RowKit Go.Jx
open Go.Sx.Dat (enc)
theorem zh3{E E':Env}{g:qac}{cs:List Value}(h:VRs E (cel qar g) cs):VRs E' (cel qar g) cs:=by
 have h:VRs E [.str g.1,.int .i64 g.2.1,.int .i64 g.2.2] cs:=h;obtain⟨u1,us,rfl,a1,a2⟩:=VRs.inv h;obtain⟨u2,us,rfl,b1,b2⟩:=VRs.inv a2;obtain⟨u3,us,rfl,c1,c2⟩:=VRs.inv b2;obtain rfl:us=[]:=jbo.1 c2.1.symm;cases a1 with
 | str _ q=>cases b1 with
  | int _ _ r=>cases c1 with
   | int _ _ s=>exact VRs.cons (.str _ q) (VRs.cons (.int _ _ r) (VRs.cons (.int _ _ s) VRs.nil))
theorem PS.updS{M m:List Nat}{w w':World}{ao:Option Addr}{co:Nat}{hs:List HR}{R:List qaa}{S:List Nat}(p:PS M m w ao co hs R)(u:Upd S w w')(hS:∀b∈S,b ∉ m):PS M m w' ao co hs R:=by
 have hx:∀{a:Option Addr} {c:Nat} {l:List qac},Go.Sx.Own m M w a c (xg l)->Go.Sx.Own m M w' a c (xg l):=fun {a c l} o=>by
  rcases o with o|⟨g,cells,h0,h1,h2,h3,h4,h5,h6⟩
  ·exact .inl o
  ·refine .inr ⟨g,cells,h0,h1,h2,h3.mono u (fun h=>hS g h h1),h4,h5,fun i hi=>?_⟩;obtain⟨cs,c1,c2⟩:=h6 i hi;refine⟨cs,?_,c2⟩;have c1:VRs (EM (m++M) w) (cel qar (xg l)[i].v) cs:=c1;exact zh3 c1
 refine⟨?_,p.len,fun i h r hi hr=>let q:=p.row i h r hi hr;⟨q.cl,q.to,q.n,q.b1,q.b2,q.b3,hx q.own⟩,p.sep,p.sep2⟩;rcases p.own with o|⟨g,cells,h0,h1,h2,h3,h4,h5,h6⟩
 ·exact .inl o
 ·exact .inr ⟨g,cells,h0,h1,h2,h3.mono u (fun h=>hS g h h1),h4,h5,h6⟩
theorem qmi{S:List Nat}{w w':World}{b o:Nat}{v:Value}(u:Upd S w w')(hb:b ∉ S)(h:w.cell? ⟨b,o,none⟩=some v):w'.cell? ⟨b,o,none⟩=some v:=by
 have:b<w.heap.size:=by
  unfold World.cell? at h;split at h
  ·rename_i h';exact qbd h'
  ·cases h
 unfold World.cell? at h ⊢;rw[u.same _ this hb];exact h
theorem q4d{w:World}{b o:Nat}{v:Value}(h:w.cell? ⟨b,o,none⟩=some v):b<w.heap.size:=by
 unfold World.cell? at h;split at h
 ·rename_i h';exact qbd h'
 ·cases h
theorem q72{T:List qab}:∀{fs:List qab} {i:Nat} {R:List qaa} {f:qab},f∈fs->S.form T f.1<0->S.plGo T fs i R=none
 | g::fs,i,R,f,hm,h=>by
  rw[S.plGo];by_cases h0:S.form T g.1<0
  ·rw[jam h0]
  ·rw[jak h0];rcases ja1.1 hm with rfl|hm
   ·exact absurd h h0
   ·exact q72 hm h
theorem zik(F:List qab):(S.bare F).map (·.1)=F.map (·.1):=by
 unfold S.bare;rw[List.map_map];rfl
theorem zhg{R:List qaa}{i:Nat}{r:qaa}{g:qac}(h:R[i]?=some r):(R.set i (S.addG r g)).map (·.1)=R.map (·.1):=by
 rw[List.map_set];obtain⟨hi,rfl⟩:=jal.1 h;show (R.map (·.1)).set i R[i].1=_;rw[show R[i].1=(R.map (·.1))[i]'(by rw[jbd];exact hi) by rw[jb8],List.set_getElem_self]
theorem q5y{w:World}{a:Option Addr}{c:Nat}{F:List qab}(h:VR (EM [] w) (.lst cForm F) (.slice a (xl (c:=cForm) F).length c)):Calls Tryz.prog qq5 #[.slice a (xl (c:=cForm) F).length c] w (Ret fun v w'=>v=.int .i64 (S.checkForms F)/\IntKind.i64.wrap (S.checkForms F)=S.checkForms F/\Upd [] w w') :=
 qew qmq (x:=(F,())) (us:=[.slice a (xl (c:=cForm) F).length c]) (y:=(S.checkForms F,())) rfl rfl (gl0 _ _) (.cons h .nil)
theorem SL.addr{α:Type}[Dat α]{M:List Nat}{w:World}{a:Option Addr}{cap:Nat}{l:List α}(h:SL M w a cap l)(hl:0<l.length):∃b off,a=some ⟨b,off,none⟩/\b ∉ M/\∀i (hi:i<l.length),∃cs,enc M w cs l[i]/\∀j,j<Dat.sz α->w.cell? ⟨b,off+i*Dat.sz α+j,none⟩=cs[j]?:=by
 obtain⟨_,h|⟨b,off,cells,t,fz,rfl,hb,hh,hall⟩⟩:=h
 ·rw[h] at hl;simp at hl
 ·refine⟨b,off,rfl,hb,fun i hi=>?_⟩;obtain⟨cs,c1,c2⟩:=hall i hi;refine⟨cs,c1,fun j hj=>?_⟩;rw[<- c2 j hj];simp [World.cell?,hh]
section
attribute [local irreducible] Go.wpList Go.wpQuiet Go.Code.wp
set_option maxHeartbeats 8000000
theorem zbf{M:List Nat}{w:World}{af at_:Option Addr}{cf ct:Nat}{F T:List qab}(hM:Lo M w)(hF:SL M w af cf (xl (c:=cForm) F))(hT:SL M w at_ ct (xl (c:=cForm) T))
  (bF:F.length*bsz cForm<=140737488355328) (bT:T.length*bsz cForm<=140737488355328) :
  Calls Tryz.prog 18 #[.slice af (xl (c:=cForm) F).length cf,.slice at_ (xl (c:=cForm) T).length ct] w (Ret fun v w'=>∃a c,v=.agg #[.slice a (S.plain F T).1.length c,.bool false,.int .i64 (S.plain F T).2]/\VR (EM M w') (.lst cRule (S.plain F T).1) (.slice a (S.plain F T).1.length c)/\IntKind.i64.wrap (S.plain F T).2=(S.plain F T).2/\Upd [] w w'):=by
 have vF:∀{w':World},Upd [] w w'->VR (EM [] w') (.lst cForm F) (.slice af (xl (c:=cForm) F).length cf):=fun u=>qib (hF.mono (trU u (by simp))) bF;have vT:∀{w':World},Upd [] w w'->VR (EM [] w') (.lst cForm T) (.slice at_ (xl (c:=cForm) T).length ct):=fun u=>qib (hT.mono (trU u (by simp))) bT;have hlF:(xl (c:=cForm) F).length=F.length:=qcc;have hlT:(xl (c:=cForm) T).length=T.length:=qcc;refine enter (l:=[.slice af (xl (c:=cForm) F).length cf,.slice at_ (xl (c:=cForm) T).length ct]) Tryz.func18 rfl Tryz.ntmps18 rfl ?_;refine qak fun K1 hK1=>?_;refine qap ?_;refine qey ty45 rfl rfl fun β4 wa hβ4 ua hza hxa=>?_;refine jaq ?_;refine hK1 _ _ ?_;refine qak fun K2 hK2=>?_;refine qap ?_;refine qam (v:=.slice af (xl (c:=cForm) F).length cf) rfl rfl rfl ?_;refine qdo qmq.callable rfl rfl rfl (q5y (vF ua)) ?_;rintro _ wb ⟨rfl,wr1,ub⟩;refine qbr (v:=.int .i64 (S.checkForms F)) rfl rfl rfl ?_;refine jaq ?_;refine hK2 _ _ ?_;have uab:Upd [] w wb:=ua.trans ub;refine quu (X:=Unit) [5,14,15,16,17] (fun _=>[(5,.int .i64 (S.first [S.checkForms F,S.checkForms T]))]) (fun _ wi=>Upd [] wa wi/\IntKind.i64.wrap (S.first [S.checkForms F,S.checkForms T])=S.first [S.checkForms F,S.checkForms T]) ?_ ?_
 ·refine qak fun K3 hK3=>?_;refine qap ?_;refine qam (v:=.int .i64 (S.checkForms F)) rfl rfl rfl ?_;refine qs8 rfl rfl rfl rfl ?_;refine jaq ?_;refine hK3 _ _ ?_;refine c_if rfl rfl (fun h0=>?_) (fun h0=>?_)
  ·refine qap ?_;refine qam (v:=.slice at_ (xl (c:=cForm) T).length ct) rfl rfl rfl ?_;refine qdo qmq.callable rfl rfl rfl (q5y (vT uab)) ?_;rintro _ wc ⟨rfl,wr2,uc⟩;refine qbr (v:=.int .i64 (S.checkForms T)) rfl rfl rfl ?_;refine jaq ?_;have e:S.first [S.checkForms F,S.checkForms T]=S.checkForms T:=by
    have h0:S.checkForms F=0:=h0;simp only[S.first];rw[jam h0];split
    ·rename_i q;exact q.symm
    ·rfl
   rw[e];exact⟨(),⟨ub.trans uc,wr2⟩,_,rfl,(by repeat first|exact qag.refl _ _|refine qag.upd rfl ?_|refine qag.upds rfl ?_|refine qag.mix rfl ?_),rfl,trivial⟩
  ·refine jec ?_;have e:S.first [S.checkForms F,S.checkForms T]=S.checkForms F:=by
    have h0:¬S.checkForms F=0:=h0;simp only[S.first];rw[jak h0]
   rw[e];exact⟨(),⟨ub,wr1⟩,_,rfl,(by repeat first|exact qag.refl _ _|refine qag.upd rfl ?_|refine qag.upds rfl ?_|refine qag.mix rfl ?_),rfl,trivial⟩
 rintro⟨⟩ τ0 wd ⟨ud,wr⟩;have uwd:Upd [] w wd:=ua.trans ud;have hxd:=hxa.mono0 ud;refine qak fun K4 hK4=>?_;refine qak fun K5 hK5=>?_;refine qap ?_;refine qam (v:=.int .i64 (S.first [S.checkForms F,S.checkForms T])) rfl rfl rfl ?_;refine qmg rfl rfl rfl rfl ?_;refine jaq ?_;refine hK5 _ _ ?_;refine qpu rfl rfl (fun he=>?_) (fun he=>?_)
 ·have hpl:S.plain F T=([],S.first [S.checkForms F,S.checkForms T]):=by unfold S.plain;rw[jam he]
  refine qak fun K6 hK6=>?_;refine qap ?_;refine qam (v:=.int .i64 (S.first [S.checkForms F,S.checkForms T])) rfl rfl rfl ?_;refine qdl (l:=[(2,.tmp 20)]) (r:=[.slice none 0 0,.bool false,.int .i64 (S.first [S.checkForms F,S.checkForms T])]) ty45 qrv rfl rfl rfl rfl rfl ?_;refine qb5 (cs':=[.slice none 0 0,.bool false,.int .i64 (S.first [S.checkForms F,S.checkForms T])]) ty45 rfl rfl rfl rfl hxd rfl rfl rfl fun we ue hze hxe=>?_;refine jaq ?_;refine hK6 _ _ ?_;refine wp_ret ?_;refine retG (rs:=[.cell 4 45]) (vs:=[.agg [.slice none 0 0,.bool false,.int .i64 (S.first [S.checkForms F,S.checkForms T])].toArray]) rfl ⟨resC ty45 rfl rfl rfl hxe rfl rfl,trivial⟩ ?_;rw[hpl];exact⟨none,0,rfl,.lst0 (by omega),wr,Upd.old_upd uwd ue (by omega)⟩
 refine jec ?_;refine hK4 _ _ ?_;have hff:=qeu he;have fokF:=qdj hff.1;have fokT:=qdj hff.2;have hpl:S.plain F T=(match S.plGo T F 0 (S.bare F) with|none=>([],5)|some R=>(R,0)):=by unfold S.plain;rw[jak (by simpa using he)];rfl
 refine qak fun K7 hK7=>?_;refine qap ?_;refine qdl (l:=[]) (r:=[.slice none 0 0,.bool false,.int .i64 0]) ty45 qrv rfl rfl rfl rfl rfl ?_;refine qey ty45 rfl rfl fun β6 we hβ6 ue hze hxe=>?_;refine qb5 (cs':=[.slice none 0 0,.bool false,.int .i64 0]) ty45 rfl rfl rfl rfl hxe rfl rfl rfl fun wf uf hzf hxf6=>?_;refine jaq ?_;refine hK7 _ _ ?_;have h4b:w.heap.size<=β4:=by omega
 have h46:β4<β6:=by have:=hxd.lt;omega
 have h6b:w.heap.size<=β6:=by omega
 have udf:Upd [] wd wf:=Upd.old_upd ue uf (by omega);have uwf:Upd [] w wf:=uwd.trans udf;have hxf4:=hxd.mono0 udf;refine qak fun K8 hK8=>?_;refine qak fun K9 hK9=>?_;refine qap ?_;refine qbr (v:=.int .i64 0) rfl rfl rfl ?_;refine jaq ?_;refine hK9 _ _ ?_;refine jed ?_;refine qgh (X:=Nat × (Option Addr × Nat × List Nat × List HR)) (7::(List.range 54).drop 23) (fun x=>[(7,.int .i64 (x.1:Int))])
  (fun x wi=>x.1<=F.length/\PS M x.2.2.2.1 wi x.2.1 x.2.2.1 x.2.2.2.2 (S.bare (F.take x.1))/\(Evo [] w x.2.2.2.1 wi/\(β6 ∉ x.2.2.2.1/\Box wi β6 [.slice x.2.1 x.2.2.2.2.length x.2.2.1,.bool false,.int .i64 0])/\β4 ∉ x.2.2.2.1/\Box wi β4 [.slice none 0 0,.bool false,.int .i64 0])/\∀(j:Nat) f,j<x.1->F[j]?=some f->0<=S.form T f.1)
  (fun x=>F.length-x.1) (0,(none,0,[],[])) ⟨rfl,trivial⟩ ⟨jbj _,PS.nil,⟨uwf.evo0,⟨by simp,hxf6⟩,by simp,hxf4⟩,fun j f hj=>absurd hj (Nat.not_lt_zero _)⟩ ?_
 rintro⟨k,ao,co,m,hs⟩ τ w5 ⟨hk,ps,⟨ev,⟨h6m,hx6⟩,h4m,hx4⟩,hfo⟩;have hk:k<=F.length:=hk;have ps:PS M m w5 ao co hs (S.bare (F.take k)):=ps;have ev:Evo [] w m w5:=ev;have h6m:β6 ∉ m:=h6m;have h4m:β4 ∉ m:=h4m;have hx6:Box w5 β6 [.slice ao hs.length co,.bool false,.int .i64 0]:=hx6;have hfo:∀(j:Nat) f,j<k->F[j]?=some f->0<=S.form T f.1:=hfo;refine qak fun K10 hK10=>?_;refine qak fun K11 hK11=>?_;refine qap ?_;refine qam (v:=.int .i64 (k:Int)) rfl rfl rfl ?_;refine qam (v:=.slice af (xl (c:=cForm) F).length cf) rfl rfl rfl ?_;refine qhv ty22 rfl rfl rfl ?_;refine qel rfl rfl rfl rfl ?_;refine jaq ?_;refine hK11 _ _ ?_;refine c_if rfl rfl (fun hb=>?_) (fun hb=>?_)
 ·refine jec ?_;refine hK10 _ _ ?_;have hk1:k<F.length:=by rw[hlF] at hb;omega
  obtain⟨fk,hfk⟩:∃fk:qab,F[k]?=some fk:=⟨_,jac hk1⟩;have hF5:SL (m++M) w5 af cf (xl (c:=cForm) F):=hF.mono (ev.tr M);have hM5:Lo M w5:=hM.mono ev.size;refine qak fun K12 hK12=>?_;refine jed ?_;refine qak fun K13 hK13=>?_;refine qak fun K14 hK14=>?_;refine qap ?_;refine qam (v:=.slice at_ (xl (c:=cForm) T).length ct) rfl rfl rfl ?_;refine qam (v:=.slice af (xl (c:=cForm) F).length cf) rfl rfl rfl ?_;refine qam (v:=.int .i64 (k:Int)) rfl rfl rfl ?_;refine qja (j:=k) ty22 ty66 rfl rfl rfl rfl rfl hF5 (by rw[hlF];exact hk1) fun ad cs u hget henc hca=>?_;obtain rfl:u=⟨fk⟩:=by
   obtain⟨v,hv,rfl⟩:=qd7 hget;obtain rfl:fk=v:=jbg (hfk.symm.trans hv);rfl
  obtain⟨ac,cc,rfl,hs63,hsl,hslb⟩:=qe4 henc;refine op_field qfd rfl rfl rfl hca.spot ?_;refine qrl (v:=.string fk.1) ty9 rfl rfl rfl rfl hca rfl ?_;refine qdo qfi.callable rfl rfl rfl (qew qfi (x:=(T,fk.1,())) (us:=[.slice at_ (xl (c:=cForm) T).length ct,.string fk.1]) (y:=(S.form T fk.1,())) rfl rfl (gl0 _ _) (.cons (vT ev.old) (.cons (.str _ hs63) .nil))) ?_;rintro _ w6 ⟨rfl,wr6,u6⟩;refine qel rfl rfl rfl rfl ?_;refine jaq ?_;refine hK14 _ _ ?_;refine c_if rfl rfl (fun hneg=>?_) (fun hneg=>?_)
  ·refine qak fun K15 hK15=>?_;refine qap ?_;refine qdl (l:=[(2,.const (.int .i64 5))]) (r:=[.slice none 0 0,.bool false,.int .i64 5]) ty45 qrv rfl rfl rfl rfl rfl ?_;refine qb5 (cs':=[.slice none 0 0,.bool false,.int .i64 5]) ty45 rfl rfl rfl rfl (hx4.mono0 u6) rfl rfl rfl fun w7 u7 hz7 hx7=>?_;refine jaq ?_;refine hK15 _ _ ?_;refine wp_ret ?_;refine retG (rs:=[.cell 4 45]) (vs:=[.agg [.slice none 0 0,.bool false,.int .i64 5].toArray]) rfl ⟨resC ty45 rfl rfl rfl hx7 rfl rfl,trivial⟩ ?_;have hp2:S.plain F T=([],5):=by rw[hpl,q72 (jbr hfk) hneg]
   rw[hp2];exact⟨none,0,rfl,.lst0 (by omega),by show IntKind.i64.wrap 5=5;decide,Upd.old_upd (ev.old.trans u6) u7 h4b⟩
  refine jec ?_;refine hK13 _ _ ?_;have ps6:=ps.upd0 u6;have ev6:Evo [] w m w6:=ev.trans u6.evo0;have hx66:=hx6.mono0 u6;have hF6:SL (m++M) w6 af cf (xl (c:=cForm) F):=hF.mono (ev6.tr M);obtain⟨bF',oF,haf,hbF,hcF⟩:=SL.addr hF6 (by rw[hlF];omega);subst haf;obtain⟨cs6,hen6,hce6⟩:=hcF k (by rw[hlF];exact hk1);have hen6:enc (m++M) w6 cs6 (X.mk (c:=cForm) fk):=by
   have e:(xl (c:=cForm) F)[k]'(by rw[hlF];exact hk1)=X.mk (c:=cForm) fk:=by
    have:=qd7 (jac (by rw[hlF];exact hk1):(xl (c:=cForm) F)[k]?=_);obtain⟨v,hv,e⟩:=this;obtain rfl:fk=v:=jbg (hfk.symm.trans hv);exact e
   rw[<- e];exact hen6
  obtain⟨ac6,cc6,rfl,_,_,_⟩:=qe4 hen6;have hname:w6.cell? ⟨bF',oF+k*2+0,none⟩=some (.string fk.1):=hce6 0 (by show 0<2;omega);have hbFm:∀b∈blk ao,b≠bF':=fun b hb e=>hbF (jdd _ (by rw[<- e];exact ps6.own.mem b hb));have h6ao:β6 ∉ blk ao:=fun h=>h6m (ps6.own.mem β6 h);refine quy (fun wi=>Upd (blk ao) w6 wi) 15 qdp ?_;have hC0:Upd (blk ao) w6 ({ w6 with drawn:=w6.drawn+1 }:World):=Upd.drew _ w6;refine qa1 [15] (i:=0) (v:=.pointer (some ⟨β6,0,none⟩)) rfl rfl rfl rfl (by kernel_rfl) (fun c a w h=>(show _/\False from h).2) hC0 (fun w1 hw1=>qbh qkb rfl rfl rfl q1) ?_;refine qa1 [15] (i:=1) (v:=.slice ao hs.length co) rfl rfl rfl rfl (by kernel_rfl) (fun c a w h=>(show _/\False from h).2) hC0 (fun w1 hw1=>qcl (v:=.slice ao hs.length co) ty23 rfl rfl rfl rfl (hx66.mono hw1 h6ao) rfl q1) ?_;refine qa1 [15] (i:=2) (v:=.slice (some ⟨bF',oF,none⟩) (xl (c:=cForm) F).length cf) rfl rfl rfl rfl (by kernel_rfl) (fun c a w h=>(show _/\False from h).2) hC0 (fun w1 hw1=>qam (v:=.slice (some ⟨bF',oF,none⟩) (xl (c:=cForm) F).length cf) rfl rfl rfl q1) ?_;refine qa1 [15] (i:=3) (v:=.int .i64 (k:Int)) rfl rfl rfl rfl (by kernel_rfl) (fun c a w h=>(show _/\False from h).2) hC0 (fun w1 hw1=>qam (v:=.int .i64 (k:Int)) rfl rfl rfl q1) ?_;refine qa1 [15] (i:=4) (v:=.pointer (some ⟨bF',oF+k*2,none⟩)) rfl rfl rfl rfl (by kernel_rfl) (fun c a w h=>(show _/\False from h).2) hC0 (fun w1 hw1=>qgr ty22 ty66 rfl rfl rfl rfl (by rw[hlF];exact hk1) q1) ?_;refine qa1 [15] (i:=5) (v:=.pointer (some ⟨bF',oF+k*2+0,none⟩)) rfl rfl rfl rfl (by kernel_rfl) (fun c a w h=>(show _/\False from h).2) hC0 (fun w1 hw1=>qbh qfd rfl rfl rfl q1) ?_;refine qa1 [15] (i:=6) (v:=.string fk.1) rfl rfl rfl rfl (by kernel_rfl) (fun c a w h=>(show _/\False from h).2) hC0 (fun w1 hw1=>qdq (v:=.string fk.1) ty9 rfl rfl rfl rfl (qmi hw1 (fun h=>hbFm _ h rfl) hname) q1) ?_;refine qa1 [15] (i:=7) (v:=.slice (some ⟨bF',oF,none⟩) (xl (c:=cForm) F).length cf) rfl rfl rfl rfl (by kernel_rfl) (fun c a w h=>(show _/\False from h).2) hC0 (fun w1 hw1=>qam (v:=.slice (some ⟨bF',oF,none⟩) (xl (c:=cForm) F).length cf) rfl rfl rfl q1) ?_;refine qa1 [15] (i:=8) (v:=.int .i64 (k:Int)) rfl rfl rfl rfl (by kernel_rfl) (fun c a w h=>(show _/\False from h).2) hC0 (fun w1 hw1=>qam (v:=.int .i64 (k:Int)) rfl rfl rfl q1) ?_;refine qa1 [15] (i:=9) (v:=.pointer (some ⟨bF',oF+k*2,none⟩)) rfl rfl rfl rfl (by kernel_rfl) (fun c a w h=>(show _/\False from h).2) hC0 (fun w1 hw1=>qgr ty22 ty66 rfl rfl rfl rfl (by rw[hlF];exact hk1) q1) ?_;refine qa1 [15] (i:=10) (v:=.pointer (some ⟨bF',oF+k*2+0,none⟩)) rfl rfl rfl rfl (by kernel_rfl) (fun c a w h=>(show _/\False from h).2) hC0 (fun w1 hw1=>qbh qfd rfl rfl rfl q1) ?_;refine qa1 [15] (i:=11) (v:=.string fk.1) rfl rfl rfl rfl (by kernel_rfl) (fun c a w h=>(show _/\False from h).2) hC0 (fun w1 hw1=>qdq (v:=.string fk.1) ty9 rfl rfl rfl rfl (qmi hw1 (fun h=>hbFm _ h rfl) hname) q1) ?_;refine qa1 [15] (i:=12) (v:=.agg (encH ⟨fk.1,fk.1,none,0,0⟩).toArray) rfl rfl rfl rfl (by kernel_rfl) (fun c a w h=>(show _/\False from h).2) hC0 (fun w1 hw1=>qdl (r:=encH ⟨fk.1,fk.1,none,0,0⟩) ty71 q6t rfl rfl rfl rfl rfl q1) ?_;have ps7:=ps6.upd0 (Upd.drew [] w6);have ev7:Evo [] w m ({ w6 with drawn:=w6.drawn+1 }:World):=ev6.trans (Upd.drew [] w6).evo0;have hx67:=hx66.mono0 (Upd.drew [] w6);have hx47:=(hx4.mono0 u6).mono0 (Upd.drew [] w6);generalize ({ w6 with drawn:=w6.drawn+1 }:World)=w7 at hC0 ps7 ev7 hx67 hx47;refine oneK (i:=13) rfl (by kernel_rfl) ?_;refine qf0 (r:=encH ⟨fk.1,fk.1,none,0,0⟩) ty23 ty71 rfl rfl rfl rfl rfl rfl fun β8 w8 hβ8 u8 hz8 hx8=>?_;refine jaq ⟨rfl,⟨fun _=>hC0.trans (u8.mono (by simp)),?_⟩⟩;have ps8:=ps7.upd0 u8;have ev8:Evo [] w m w8:=ev7.trans u8.evo0;have hM8:Lo M w8:=hM.mono ev8.size;have hm7:∀b∈m,b<w7.heap.size:=ev7.lo (by simp);have hM7:Lo M w7:=hM.mono ev7.size;have hs8:SL (m++M) w8 (some ⟨β8,0,none⟩) 1 [(⟨fk.1,fk.1,none,0,0⟩:HR)]:=SL.of_box1 hx8 (fun h=>by
   rcases jbi.1 h with h|h
   ·have:=hm7 β8 h;omega
   ·have:=hM7 β8 h;omega) rfl
  have hlen:hs.length<=24:=by
   have h1:hs.length=(S.bare (F.take k)).length:=ps.len;have h2:(S.bare (F.take k)).length=k:=by unfold S.bare;rw[jbd,jbx];omega
   have h3:=fokF.len;omega
  refine oneK (i:=14) rfl (by kernel_rfl) ?_;refine qhp ty23 ty23 ty71 rfl rfl rfl rfl rfl rfl rfl ps8.own hs8 hM8 (by show (hs.length+1)*56<=140737488355328;omega) fun a5 c5 w9 m5 ho5 ev5 hu5 hbk5 hsub5=>?_;refine jaq ⟨rfl,⟨fun _=>(hC0.trans (u8.mono (by simp))).trans hu5,?_⟩⟩;have ps9:=ps8.push hs63 ho5 ev5 hu5 hbk5 hsub5;have ev9:Evo [] w m5 w9:=ev8.trans ev5;have hx69:Box w9 β6 [.slice ao hs.length co,.bool false,.int .i64 0]:=(hx67.mono0 u8).mono hu5 h6ao;have h4ao:β4 ∉ blk ao:=fun h=>h4m (ps8.own.mem β4 h);have hx49:=(hx47.mono0 u8).mono hu5 h4ao;have h6m5:β6 ∉ m5:=fun h=>by
   rcases ev5.own β6 h with q|q
   ·exact h6m q
   ·have:=(hx67.mono0 u8).lt;omega
  have h4m5:β4 ∉ m5:=fun h=>by
   rcases ev5.own β4 h with q|q
   ·exact h4m q
   ·have:=(hx47.mono0 u8).lt;omega
  refine oneK (i:=15) rfl (by kernel_rfl) ?_;refine qbh qkb rfl rfl rfl ?_;refine jaq ⟨rfl,⟨fun h=>Bool.noConfusion (show true=false from h),?_⟩⟩;refine oneK (i:=16) rfl (by kernel_rfl) ?_;refine qb5 (cs':=[.slice a5 (hs++[(⟨fk.1,fk.1,none,0,0⟩:HR)]).length c5,.bool false,.int .i64 0]) ty23 rfl rfl rfl rfl hx69 rfl rfl rfl fun w10 u10 hz10 hx10=>?_;refine jaq ⟨rfl,⟨fun h=>Bool.noConfusion (show true=false from h),?_⟩⟩;refine qth (by kernel_rfl) ?_ _;refine hK12 _ _ ?_;refine qap ?_;refine qam (v:=.int .i64 (k:Int)) rfl rfl rfl ?_;refine qen rfl rfl rfl rfl (by have:=fokF.len;omega) ?_;refine qbr (v:=.int .i64 ((k+1:Nat):Int)) rfl rfl rfl ?_;refine jaq ?_;refine⟨(k+1,a5,c5,m5,hs++[⟨fk.1,fk.1,none,0,0⟩]),by show F.length-(k+1)<F.length-k;omega,⟨hk1,?_,⟨ev9.new u10 (by simpa using h6b),⟨h6m5,hx10⟩,h4m5,hx49.mono u10 (by simp;omega)⟩,fun j f hj hf=>?_⟩,_,rfl,(by repeat first|exact qag.refl _ _|refine qag.upd rfl ?_|refine qag.upds rfl ?_|refine qag.mix rfl ?_),rfl,trivial⟩
  ·have e:S.bare (F.take (k+1))=S.bare (F.take k)++[(fk.1,fk.1,[])]:=by
    obtain⟨h1,h2⟩:=jal.1 hfk;rw[qyx hk1,h2]
   show PS M m5 w10 a5 c5 (hs++[⟨fk.1,fk.1,none,0,0⟩]) (S.bare (F.take (k+1)));rw[e];exact ps9.updS u10 (by simpa using h6m5)
  ·rcases jbm j k with q|q
   ·exact hfo j f q hf
   ·have hj:j<k+1:=hj;obtain rfl:j=k:=by omega
    obtain rfl:fk=f:=jbg (hfk.symm.trans hf);omega
 refine wp_exit ?_;refine hK8 _ _ ?_;have hkF:k=F.length:=by rw[hlF] at hb;omega
 subst hkF;rw[jer] at ps;have hbl:(S.bare F).length=F.length:=by unfold S.bare;rw[jbd]
 have hall:∀f∈F,0<=S.form T f.1:=fun f hf=>by
  obtain⟨j,hj,rfl⟩:=jay.1 hf;exact hfo j _ hj (jac hj)
 refine qak fun K16 hK16=>?_;refine qak fun K17 hK17=>?_;refine qap ?_;refine qbr (v:=.int .i64 0) rfl rfl rfl ?_;refine jaq ?_;refine hK17 _ _ ?_;refine jed ?_;refine qgh (X:=Nat × (List Nat × List HR × List qaa)) (8::9::10::11::(List.range 121).drop 54) (fun x=>[(8,.int .i64 (x.1:Int))])
  (fun x wi=>(x.1<=F.length/\x.2.2.2.length=F.length/\x.2.2.1.length=hs.length)/\PS M x.2.1 wi ao co x.2.2.1 x.2.2.2/\(Evo [] w x.2.1 wi/\(β6 ∉ x.2.1/\Box wi β6 [.slice ao hs.length co,.bool false,.int .i64 0])/\β4 ∉ x.2.1/\Box wi β4 [.slice none 0 0,.bool false,.int .i64 0])/\S.plGo T (F.drop x.1) x.1 x.2.2.2=S.plGo T F 0 (S.bare F)/\(∀(j:Nat) r,x.1<=j->x.2.2.2[j]?=some r->r.2.2=[])/\x.2.2.2.map (·.1)=F.map (·.1))
  (fun x=>F.length-x.1) (0,m,hs,S.bare F) ⟨rfl,trivial⟩ ⟨⟨jbj _,hbl,rfl⟩,ps,⟨ev,⟨h6m,hx6⟩,h4m,hx4⟩,rfl,fun j r _ hr=>q6s hr,zik F⟩ ?_
 clear ev ps hk hb hx6 hx4 h6m h4m;rintro⟨i,m,hs2,R⟩ τ2 w6 ⟨⟨hi,hRl,hhl⟩,ps,⟨ev,⟨h6m,hx6⟩,h4m,hx4⟩,hgo,hemp,hnam⟩;have hi:i<=F.length:=hi;have hRl:R.length=F.length:=hRl;have hhl:hs2.length=hs.length:=hhl;have ps:PS M m w6 ao co hs2 R:=ps;have ev:Evo [] w m w6:=ev;have h6m:β6 ∉ m:=h6m;have h4m:β4 ∉ m:=h4m;have hx6:Box w6 β6 [.slice ao hs.length co,.bool false,.int .i64 0]:=hx6;have hx4:Box w6 β4 [.slice none 0 0,.bool false,.int .i64 0]:=hx4;have hgo:S.plGo T (F.drop i) i R=S.plGo T F 0 (S.bare F):=hgo;have hnam:R.map (·.1)=F.map (·.1):=hnam;have hF6:SL (m++M) w6 af cf (xl (c:=cForm) F):=hF.mono (ev.tr M);refine qak fun K18 hK18=>?_;refine qak fun K19 hK19=>?_;refine qap ?_;refine qam (v:=.int .i64 (i:Int)) rfl rfl rfl ?_;refine qam (v:=.slice af (xl (c:=cForm) F).length cf) rfl rfl rfl ?_;refine qhv ty22 rfl rfl rfl ?_;refine qel rfl rfl rfl rfl ?_;refine jaq ?_;refine hK19 _ _ ?_;refine c_if rfl rfl (fun hb=>?_) (fun hb=>?_)
 case refine_2 =>
  refine wp_exit ?_;refine hK16 _ _ ?_;have hiF:i=F.length:=by rw[hlF] at hb;omega
  subst hiF;rw[jd1,S.plGo] at hgo;refine qak fun K20 hK20=>?_;refine qap ?_;refine qff (ds:=[.slice ao hs.length co,.bool false,.int .i64 0]) ty45 rfl rfl rfl rfl hx6 rfl rfl ?_;refine qb5 (cs':=[.slice ao hs.length co,.bool false,.int .i64 0]) ty45 rfl rfl rfl rfl hx4 rfl rfl rfl fun w7 u7 hz7 hx7=>?_;refine jaq ?_;refine hK20 _ _ ?_;refine wp_ret ?_;refine retG (rs:=[.cell 4 45]) (vs:=[.agg [.slice ao hs.length co,.bool false,.int .i64 0].toArray]) rfl ⟨resC ty45 rfl rfl rfl hx7 rfl rfl,trivial⟩ ?_;have hp2:S.plain F T=(R,0):=by rw[hpl,<- hgo]
  have hlR:hs.length=R.length:=by rw[<- hhl,ps.len]
  have ps7:=ps.updS u7 (by simpa using h4m);rw[hp2,hlR];exact⟨ao,co,rfl,ps7.vr (fun _ h=>h) (by rw[hRl];have:=fokF.len;omega),by show IntKind.i64.wrap 0=0;decide,Upd.old_upd ev.old u7 h4b⟩
 refine jec ?_;refine hK18 _ _ ?_;have hi1:i<F.length:=by rw[hlF] at hb;omega
 obtain⟨fi,hfi⟩:∃fi:qab,F[i]?=some fi:=⟨_,jac hi1⟩;rw[qpn hfi,S.plGo] at hgo;have hform0:0<=S.form T fi.1:=hall fi (jbr hfi);have hgo:S.plGo T (F.drop (i+1)) (i+1) (S.plCols fi.2 i (S.colsOf T fi.1) R)=S.plGo T F 0 (S.bare F):=by
  rw[<- hgo];exact(jak (by omega)).symm
 refine qak fun K21 hK21=>?_;refine jed ?_;refine qak fun K22 hK22=>?_;refine qap ?_;refine qam (v:=.slice at_ (xl (c:=cForm) T).length ct) rfl rfl rfl ?_;refine qam (v:=.slice at_ (xl (c:=cForm) T).length ct) rfl rfl rfl ?_;refine qam (v:=.slice af (xl (c:=cForm) F).length cf) rfl rfl rfl ?_;refine qam (v:=.int .i64 (i:Int)) rfl rfl rfl ?_;refine qja (j:=i) ty22 ty66 rfl rfl rfl rfl rfl hF6 (by rw[hlF];exact hi1) fun ad cs u hget henc hca=>?_;obtain rfl:u=⟨fi⟩:=by
  obtain⟨v,hv,rfl⟩:=qd7 hget;obtain rfl:fi=v:=jbg (hfi.symm.trans hv);rfl
 obtain⟨ac,cc,rfl,hs63,hsl,hslb⟩:=qe4 henc;refine op_field qfd rfl rfl rfl hca.spot ?_;refine qrl (v:=.string fi.1) ty9 rfl rfl rfl rfl hca rfl ?_;refine qdo qfi.callable rfl rfl rfl (qew qfi (x:=(T,fi.1,())) (us:=[.slice at_ (xl (c:=cForm) T).length ct,.string fi.1]) (y:=(S.form T fi.1,())) rfl rfl (gl0 _ _) (.cons (vT ev.old) (.cons (.str _ hs63) .nil))) ?_;rintro _ w8 ⟨rfl,wr8,u8⟩;have ps8:=ps.upd0 u8;have ev8:Evo [] w m w8:=ev.trans u8.evo0;have hT8:SL (m++M) w8 at_ ct (xl (c:=cForm) T):=hT.mono (ev8.tr M);have hcok:=qmu fokT hform0;obtain⟨fb,fb1,fbg,_,fb3,_,_⟩:=S.idx_get (p:=fun f:qab=>keqS f.1 fi.1) (l:=T) hform0;have fbg:T[(S.form T fi.1).toNat]?=some fb:=fbg;have fb2:S.colsOf T fi.1=fb.2:=by
  unfold S.colsOf S.at_;rw[fbg];rfl
 have fbl:S.form T fi.1<T.length:=by
  have:=(jal.1 fbg).1;omega
 refine op_indexI (i:=S.form T fi.1) ty22 ty66 rfl rfl rfl rfl rfl hT8 hform0 (by rw[hlT];exact fbl) fun ad2 cs2 u2 hget2 henc2 hca2=>?_;obtain rfl:u2=⟨fb⟩:=by
  obtain⟨v,hv,rfl⟩:=qd7 hget2;obtain rfl:fb=v:=jbg (fbg.symm.trans hv);rfl
 obtain⟨at2,ct2,rfl,ht63,htl,htlb⟩:=qe4 henc2;refine qg1 ty66 rfl rfl rfl rfl hca2 rfl ?_;refine qey ty66 rfl rfl fun β9 w9a hβ9 u9a hz9a hx9a=>?_;refine qb5 (cs':=[.string fb.1,.slice at2 (xl (c:=cCol) fb.2).length ct2]) ty66 rfl rfl rfl rfl hx9a rfl rfl rfl fun w9 u9 hz9 hx9=>?_;refine jaq ?_;refine hK22 _ _ ?_;have u89:Upd [] w8 w9:=Upd.old_upd u9a u9 (by omega);have u69:Upd [] w6 w9:=u8.trans u89;have ps9:=ps.upd0 u69;have ev9:Evo [] w m w9:=ev.trans u69.evo0;have hx69:=hx6.mono0 u69;have hx49:=hx4.mono0 u69;have htl9:SL (m++M) w9 at2 ct2 (xl (c:=cCol) fb.2):=htl.mono (trU u89 (fun _ h=>h));have hm6:∀b∈m,b<w6.heap.size:=ev.lo (by simp);have hβm:β9 ∉ m:=fun h=>by have:=hm6 β9 h;have:=u8.size;omega
 rw[fb2] at hcok hgo;have hcol:∀c∈fb.2,ColOK c:=fun c hc=>qwf hff.2 fb3 hc;have hlC:(xl (c:=cCol) fb.2).length=fb.2.length:=qcc;have hc30:=hcok.len;refine qak fun K23 hK23=>?_;refine qap ?_;refine qbr (v:=.int .i64 0) rfl rfl rfl ?_;refine jaq ?_;refine hK23 _ _ ?_;refine jed ?_;refine qgh (X:=Nat × (List Nat × List HR × List qaa)) (10::11::(List.range 121).drop 70) (fun x=>[(10,.int .i64 (x.1:Int))])
  (fun x wi=>(x.1<=fb.2.length/\x.2.2.2.length=F.length/\x.2.2.1.length=hs.length)/\PS M x.2.1 wi ao co x.2.2.1 x.2.2.2/\(Evo [] w x.2.1 wi/\((β6 ∉ x.2.1/\Box wi β6 [.slice ao hs.length co,.bool false,.int .i64 0])/\(β4 ∉ x.2.1/\Box wi β4 [.slice none 0 0,.bool false,.int .i64 0])/\(β9 ∉ x.2.1/\Box wi β9 [.string fb.1,.slice at2 (xl (c:=cCol) fb.2).length ct2]))/\SL (x.2.1++M) wi at2 ct2 (xl (c:=cCol) fb.2))/\S.plCols fi.2 i (fb.2.drop x.1) x.2.2.2=S.plCols fi.2 i fb.2 R/\((∀(j:Nat) r,i+1<=j->x.2.2.2[j]?=some r->r.2.2=[])/\x.2.2.2.map (·.1)=F.map (·.1))/\∃r,x.2.2.2[i]?=some r/\r.2.2.length=x.1)
  (fun x=>fb.2.length-x.1) (0,m,hs2,R) ⟨rfl,trivial⟩ ⟨⟨jbj _,hRl,hhl⟩,ps9,⟨ev9,⟨⟨h6m,hx69⟩,⟨h4m,hx49⟩,hβm,hx9⟩,htl9⟩,rfl,⟨fun j r hj hr=>hemp j r (by omega) hr,hnam⟩,⟨R[i]'(by omega),jac _,by rw[hemp i _ (jap _) (jac (by omega))];rfl⟩⟩ ?_
 rintro⟨k,m3,hs3,R3⟩ τ3 w10 ⟨⟨hk,hRl3,hhl3⟩,ps3,⟨ev3,⟨⟨h6m3,hx63⟩,⟨h4m3,hx43⟩,hβm3,hxf⟩,htl3⟩,hpl3,⟨hemp3,hnam3⟩,r,hri,hrl⟩;have hk:k<=fb.2.length:=hk;have hRl3:R3.length=F.length:=hRl3;have hhl3:hs3.length=hs.length:=hhl3;have ps3:PS M m3 w10 ao co hs3 R3:=ps3;have ev3:Evo [] w m3 w10:=ev3;have h6m3:β6 ∉ m3:=h6m3;have hx63:Box w10 β6 [.slice ao hs.length co,.bool false,.int .i64 0]:=hx63;have h4m3:β4 ∉ m3:=h4m3;have hx43:Box w10 β4 [.slice none 0 0,.bool false,.int .i64 0]:=hx43;have hβm3:β9 ∉ m3:=hβm3;have hxf:Box w10 β9 [.string fb.1,.slice at2 (xl (c:=cCol) fb.2).length ct2]:=hxf;have hpl3:S.plCols fi.2 i (fb.2.drop k) R3=S.plCols fi.2 i fb.2 R:=hpl3;have hnam3:R3.map (·.1)=F.map (·.1):=hnam3;have hri:R3[i]?=some r:=hri;have hrl:r.2.2.length=k:=hrl;have htl3:SL (m3++M) w10 at2 ct2 (xl (c:=cCol) fb.2):=htl3;have hF3:SL (m3++M) w10 af cf (xl (c:=cForm) F):=hF.mono (ev3.tr M);refine qak fun K25 hK25=>?_;refine qak fun K26 hK26=>?_;refine qap ?_;refine qam (v:=.int .i64 (k:Int)) rfl rfl rfl ?_;refine qbh qhk rfl rfl rfl ?_;refine qcl (v:=.slice at2 (xl (c:=cCol) fb.2).length ct2) ty64 rfl rfl rfl rfl hxf rfl ?_;refine qhv ty64 rfl rfl rfl ?_;refine qel rfl rfl rfl rfl ?_;refine jaq ?_;refine hK26 _ _ ?_;refine c_if rfl rfl (fun hb2=>?_) (fun hb2=>?_)
 case refine_2 =>
  refine wp_exit ?_;refine hK21 _ _ ?_;have hkC:k=fb.2.length:=by rw[hlC] at hb2;omega
  rw[hkC,jd1,S.plCols] at hpl3;refine qap ?_;refine qam (v:=.int .i64 (i:Int)) rfl rfl rfl ?_;refine qen rfl rfl rfl rfl (by have:=fokF.len;omega) ?_;refine qbr (v:=.int .i64 ((i+1:Nat):Int)) rfl rfl rfl ?_;refine jaq ?_;refine⟨(i+1,m3,hs3,R3),by show F.length-(i+1)<F.length-i;omega,⟨⟨hi1,hRl3,hhl3⟩,ps3,⟨ev3,⟨h6m3,hx63⟩,h4m3,hx43⟩,?_,hemp3,hnam3⟩,_,rfl,(by repeat first|exact qag.refl _ _|refine qag.upd rfl ?_|refine qag.upds rfl ?_|refine qag.mix rfl ?_),rfl,trivial⟩;show S.plGo T (F.drop (i+1)) (i+1) R3=_;rw[hpl3];exact hgo
 refine jec ?_;refine hK25 _ _ ?_;have hk1:k<fb.2.length:=by rw[hlC] at hb2;omega
 have hM10:Lo M w10:=hM.mono ev3.size;have hm10:∀b∈m3,b<w10.heap.size:=ev3.lo (by simp);obtain⟨c,hc3⟩:∃c:DCol,fb.2[k]?=some c:=⟨_,jac hk1⟩;obtain⟨bT',oT,hat2,hbT,hcT⟩:=SL.addr htl3 (by rw[hlC];omega);subst hat2;obtain⟨csc,henc,hcec⟩:=hcT k (by rw[hlC];exact hk1);have henc:enc (m3++M) w10 csc (X.mk (c:=cCol) c):=by
  have e:(xl (c:=cCol) fb.2)[k]'(by rw[hlC];exact hk1)=X.mk (c:=cCol) c:=by
   obtain⟨v,hv,e⟩:=qd7 (jac (by rw[hlC];exact hk1):(xl (c:=cCol) fb.2)[k]?=_);obtain rfl:c=v:=jbg (hc3.symm.trans hv);exact e
  rw[<- e];exact henc
 obtain⟨rfl,b1,b2,b3⟩:=q5b henc;have hcell:∀(j:Nat) v,j<3->[.string c.1,.int .i64 c.2.1,.string c.2.2][j]?=some v->w10.cell? ⟨bT',oT+k*3+j,none⟩=some v:=fun j v hj hv=>(hcec j hj).trans hv;refine qak fun K27 hK27=>?_;refine jed ?_;refine qak fun K28 hK28=>?_;refine qap ?_;refine qbh qhk rfl rfl rfl ?_;refine qcl (v:=.slice (some ⟨bT',oT,none⟩) (xl (c:=cCol) fb.2).length ct2) ty64 rfl rfl rfl rfl hxf rfl ?_;refine qam (v:=.int .i64 (k:Int)) rfl rfl rfl ?_;refine qgr ty64 ty68 rfl rfl rfl rfl (by rw[hlC];exact hk1) ?_;refine qbh q5p rfl rfl rfl ?_;refine qdq (v:=.string c.1) ty9 rfl rfl rfl rfl (hcell 0 _ (by omega) rfl) ?_;refine qdl (r:=[.string c.1,.int .i64 1,.int .i64 0]) ty82 qi0 rfl rfl rfl rfl rfl ?_;refine qey ty82 rfl rfl fun β11 w13 hβ11 u13 hz13 hx13=>?_;refine qb5 (cs':=encG (c.1,1,0)) ty82 rfl rfl rfl rfl hx13 rfl rfl rfl fun w14 u14 hz14 hx14=>?_;refine jaq ?_;refine hK28 _ _ ?_;have v14:Upd [] w10 w14:=Upd.old_upd u13 u14 (by omega);have hlow:w10.heap.size<=β11:=by omega
 obtain⟨bF',oF,haf,hbF,hcF⟩:=SL.addr hF3 (by rw[hlF];omega);subst haf;obtain⟨csf,hencf,hcef⟩:=hcF i (by rw[hlF];exact hi1);have hencf:enc (m3++M) w10 csf (X.mk (c:=cForm) fi):=by
  have e:(xl (c:=cForm) F)[i]'(by rw[hlF];exact hi1)=X.mk (c:=cForm) fi:=by
   obtain⟨v,hv,e⟩:=qd7 (jac (by rw[hlF];exact hi1):(xl (c:=cForm) F)[i]?=_);obtain rfl:fi=v:=jbg (hfi.symm.trans hv);exact e
  rw[<- e];exact hencf
 obtain⟨acf,ccf,rfl,hf63,hfsl,hfslb⟩:=qe4 hencf;have hcaf:∀{w':World},Upd [] w10 w'->CA (m3++M) w' ⟨bF',oF+i*2,none⟩ [.string fi.1,.slice acf (xl (c:=cCol) fi.2).length ccf]:=fun {w'} u=>by
  have h0:CA (m3++M) w10 ⟨bF',oF+i*2,none⟩ [.string fi.1,.slice acf (xl (c:=cCol) fi.2).length ccf]:=⟨rfl,hbF,q4d (v:=.string fi.1) (hcef 0 (by show 0<2;omega)),fun j hj=>hcef j hj⟩;exact h0.mono (trU u (fun _ h=>h))
 have hcac:∀{w':World},Upd [] w10 w'->CA (m3++M) w' ⟨bT',oT+k*3,none⟩ [.string c.1,.int .i64 c.2.1,.string c.2.2]:=fun {w'} u=>by
  have h0:CA (m3++M) w10 ⟨bT',oT+k*3,none⟩ [.string c.1,.int .i64 c.2.1,.string c.2.2]:=⟨rfl,hbT,q4d (hcell 0 _ (by omega) rfl),fun j hj=>hcec j hj⟩;exact h0.mono (trU u (fun _ h=>h))
 refine quu (X:=Unit) (11::(List.range 107).drop 84) (fun _=>[(11,.pointer (some ⟨β11,0,none⟩))]) (fun _ wi=>Upd [] w10 wi/\Box wi β11 (encG (S.pickG R3 fi.2 c))) ?_ ?_
 ·refine qak fun K30 hK30=>?_;refine quy (fun wi=>Upd [] w14 wi) 12 qdp ?_;have hC0:Upd [] w14 ({ w14 with drawn:=w14.drawn+1 }:World):=Upd.drew _ w14;refine qa1 [1,12] (i:=0) (v:=.pointer (some ⟨β6,0,none⟩)) rfl rfl rfl rfl (by kernel_rfl) (fun c a w h=>(show _/\False from h).2) hC0 (fun w1 hw1=>qbh qkb rfl rfl rfl q1) ?_;refine qa1 [12] (i:=1) (v:=.slice ao hs.length co) rfl rfl rfl rfl (by kernel_rfl) (fun c a w h=>(show _/\False from h).2) hC0 (fun w1 hw1=>qcl (v:=.slice ao hs.length co) ty23 rfl rfl rfl rfl ((hx63.mono0 v14).mono0 hw1) rfl q1) ?_;refine qa1 [4,5,12] (i:=2) (v:=.slice (some ⟨bF',oF,none⟩) (xl (c:=cForm) F).length cf) rfl rfl rfl rfl (by kernel_rfl) (fun c a w h=>(show _/\False from h).2) hC0 (fun w1 hw1=>qam (v:=.slice (some ⟨bF',oF,none⟩) (xl (c:=cForm) F).length cf) rfl rfl rfl q1) ?_;refine qa1 [4,5,12] (i:=3) (v:=.int .i64 (i:Int)) rfl rfl rfl rfl (by kernel_rfl) (fun c a w h=>(show _/\False from h).2) hC0 (fun w1 hw1=>qam (v:=.int .i64 (i:Int)) rfl rfl rfl q1) ?_;refine qa1 [5,12] (i:=4) (v:=.pointer (some ⟨bF',oF+i*2,none⟩)) rfl rfl rfl rfl (by kernel_rfl) (fun c a w h=>(show _/\False from h).2) hC0 (fun w1 hw1=>qgr ty22 ty66 rfl rfl rfl rfl (by rw[hlF];exact hi1) q1) ?_;refine qa1 [12] (i:=5) (v:=.agg [.string fi.1,.slice acf (xl (c:=cCol) fi.2).length ccf].toArray) rfl rfl rfl rfl (by kernel_rfl) (fun c a w h=>(show _/\False from h).2) hC0 (fun w1 hw1=>qg1 ty66 rfl rfl rfl rfl (hcaf (v14.trans hw1)) rfl q1) ?_;refine qa1 [12] (i:=6) (v:=.agg (encG (c.1,1,0)).toArray) rfl rfl rfl rfl (by kernel_rfl) (fun c a w h=>(show _/\False from h).2) hC0 (fun w1 hw1=>qff (ds:=encG (c.1,1,0)) ty82 rfl rfl rfl rfl (hx14.mono0 hw1) rfl rfl q1) ?_;refine qa1 [8,10,11,12] (i:=7) (v:=.pointer (some ⟨β9,1,none⟩)) rfl rfl rfl rfl (by kernel_rfl) (fun c a w h=>(show _/\False from h).2) hC0 (fun w1 hw1=>qbh qhk rfl rfl rfl q1) ?_;refine qa1 [10,11,12] (i:=8) (v:=(.slice (some ⟨bT',oT,none⟩) (xl (c:=cCol) fb.2).length ct2)) rfl rfl rfl rfl (by kernel_rfl) (fun c a w h=>(show _/\False from h).2) hC0 (fun w1 hw1=>qcl (v:=(.slice (some ⟨bT',oT,none⟩) (xl (c:=cCol) fb.2).length ct2)) ty64 rfl rfl rfl rfl ((hxf.mono0 v14).mono0 hw1) rfl q1) ?_;refine qa1 [10,11,12] (i:=9) (v:=.int .i64 (k:Int)) rfl rfl rfl rfl (by kernel_rfl) (fun c a w h=>(show _/\False from h).2) hC0 (fun w1 hw1=>qam (v:=.int .i64 (k:Int)) rfl rfl rfl q1) ?_;refine qa1 [11,12] (i:=10) (v:=.pointer (some ⟨bT',oT+k*3,none⟩)) rfl rfl rfl rfl (by kernel_rfl) (fun c a w h=>(show _/\False from h).2) hC0 (fun w1 hw1=>qgr ty64 ty68 rfl rfl rfl rfl (by rw[hlC];exact hk1) q1) ?_;refine qa1 [12] (i:=11) (v:=.agg [.string c.1,.int .i64 c.2.1,.string c.2.2].toArray) rfl rfl rfl rfl (by kernel_rfl) (fun c a w h=>(show _/\False from h).2) hC0 (fun w1 hw1=>qg1 ty68 rfl rfl rfl rfl (hcac (v14.trans hw1)) rfl q1) ?_;have v15:Upd [] w10 ({ w14 with drawn:=w14.drawn+1 }:World):=v14.trans hC0;have hx15:=hx14.mono0 hC0;generalize ({ w14 with drawn:=w14.drawn+1 }:World)=w15 at hC0 v15 hx15;have hne:∀r∈R3,¬r.1=S.ANY:=fun r hr=>by
   have:r.1∈F.map (·.1):=by rw[<- hnam3];exact jd5 hr
   obtain⟨f,hf,e⟩:=jbu.1 this;rw[<- e];exact za5 (fokF.cls f hf)
  have hrg:S.rgive R3 ((c.1,1,0):qac) fi.2 c=S.give R3 (c.1,1,0) fi.2 c:=q69 hne _ _ (hcol c (jbr hc3));have hgive:Calls Tryz.prog q1g #[.slice ao hs.length co,.agg [.string fi.1,.slice acf (xl (c:=cCol) fi.2).length ccf].toArray,.agg (encG (c.1,1,0)).toArray,.agg [.string c.1,.int .i64 c.2.1,.string c.2.2].toArray] w15 (Ret fun v w'=>v=.int .i64 (S.give R3 (c.1,1,0) fi.2 c)/\IntKind.i64.wrap (S.give R3 (c.1,1,0) fi.2 c)=S.give R3 (c.1,1,0) fi.2 c/\Upd [] w15 w'):=by
   rw[<- hrg];refine qew qr3 (x:=(R3,fi,((c.1,1,0):qac),c,())) (us:=[_,_,_,_]) (y:=(S.rgive R3 (c.1,1,0) fi.2 c,())) rfl rfl (gl0 _ _) (.cons ?_ (.cons ?_ (.cons ?_ (.cons ?_ .nil))))
   ·have:=(ps3.upd0 v15).vr (N:=[]) (by simp) (by rw[hRl3];have:=fokF.len;omega);rw[show R3.length=hs.length by rw[<- hhl3,ps3.len]] at this;exact this
   ·exact .agg (us:=[.string fi.1,.slice acf (xl (c:=cCol) fi.2).length ccf]) rfl (VRs.cons (.str _ hf63) (VRs.cons (qib ((hfsl.mono (trU v15 (fun _ h=>h))).mono (Tr.sub _ (by simp))) hfslb) VRs.nil)).2
   ·exact .agg (us:=encG (c.1,1,0)) rfl (VRs.cons (.str _ b1) (VRs.cons (.int _ _ (show IntKind.i64.wrap 1=1 by decide)) (VRs.cons (.int _ _ (show IntKind.i64.wrap 0=0 by decide)) VRs.nil))).2
   ·exact .agg (us:=[.string c.1,.int .i64 c.2.1,.string c.2.2]) rfl (VRs.cons (.str _ b1) (VRs.cons (.int _ _ b2) (VRs.cons (.str _ b3) VRs.nil))).2
  refine oneK (i:=12) rfl (by kernel_rfl) ?_;refine qdo qr3.callable rfl rfl rfl hgive ?_;rintro _ w16 ⟨rfl,_,u16⟩;refine jaq ⟨rfl,⟨fun h=>Bool.noConfusion (show true=false from h),?_⟩⟩;refine oneK (i:=13) rfl (by kernel_rfl) ?_;refine qmg rfl rfl rfl rfl ?_;refine jaq ⟨rfl,⟨fun h=>Bool.noConfusion (show true=false from h),?_⟩⟩;refine qth (by kernel_rfl) ?_ _;refine hK30 _ _ ?_;have hx16:=hx15.mono0 u16;have v16:Upd [] w10 w16:=v15.trans u16;refine qpu rfl rfl (fun hne=>?_) (fun heq=>?_)
  ·have hpick:S.pickG R3 fi.2 c=S.voidG c:=jak hne;refine qak fun K31 hK31=>?_;refine qap ?_;refine qdl (l:=[(1,.const (.int .i64 6))]) (r:=[.string ⟨#[]⟩,.int .i64 6,.int .i64 0]) ty82 qi0 rfl rfl rfl rfl rfl ?_;refine qb5 (cs':=encG (S.lit [],6,0)) ty82 rfl rfl rfl rfl hx16 rfl rfl rfl fun w17 u17 hz17 hx17=>?_;refine jaq ?_;refine hK31 _ _ ?_;have v17:Upd [] w10 w17:=Upd.old_upd v16 u17 hlow;refine qak fun K32 hK32=>?_;refine qap ?_;refine qbh qhk rfl rfl rfl ?_;refine qcl (v:=.slice (some ⟨bT',oT,none⟩) (xl (c:=cCol) fb.2).length ct2) ty64 rfl rfl rfl rfl (hxf.mono0 v17) rfl ?_;refine qam (v:=.int .i64 (k:Int)) rfl rfl rfl ?_;refine qgr ty64 ty68 rfl rfl rfl rfl (by rw[hlC];exact hk1) ?_;refine qbh q6u rfl rfl rfl ?_;refine qdq (v:=.int .i64 c.2.1) ty3 rfl rfl rfl rfl (qmi v17 (by simp) (hcell 1 _ (by omega) rfl)) ?_;refine qs8 rfl rfl rfl rfl ?_;refine jaq ?_;refine hK32 _ _ ?_;refine c_if rfl rfl (fun h3=>?_) (fun h3=>?_)
   ·refine qap ?_;refine qdl (l:=[(1,.const (.int .i64 7))]) (r:=[.string ⟨#[]⟩,.int .i64 7,.int .i64 0]) ty82 qi0 rfl rfl rfl rfl rfl ?_;refine qb5 (cs':=encG (S.lit [],7,0)) ty82 rfl rfl rfl rfl hx17 rfl rfl rfl fun w18 u18 hz18 hx18=>?_;refine jaq ?_;refine⟨(),⟨Upd.old_upd v17 u18 hlow,?_⟩,_,rfl,(by repeat first|exact qag.refl _ _|refine qag.upd rfl ?_|refine qag.upds rfl ?_|refine qag.mix rfl ?_),rfl,trivial⟩;rw[hpick,show S.voidG c=(S.lit [],7,0) from jam h3];exact hx18
   ·refine jec ?_;refine⟨(),⟨v17,?_⟩,_,rfl,(by repeat first|exact qag.refl _ _|refine qag.upd rfl ?_|refine qag.upds rfl ?_|refine qag.mix rfl ?_),rfl,trivial⟩;rw[hpick,show S.voidG c=(S.lit [],6,0) from jak h3];exact hx17
  ·refine jec ?_;refine⟨(),⟨v16,?_⟩,_,rfl,(by repeat first|exact qag.refl _ _|refine qag.upd rfl ?_|refine qag.upds rfl ?_|refine qag.mix rfl ?_),rfl,trivial⟩;rw[show S.pickG R3 fi.2 c=(c.1,1,0) from jam heq];exact hx16
 rintro⟨⟩ τ4 w20 ⟨v20,hx20⟩;generalize hg:S.pickG R3 fi.2 c=g at hx20;obtain⟨h,hhi⟩:∃h,hs3[i]?=some h:=⟨hs3[i]'(by have:=ps3.len;omega),jac _⟩;obtain⟨β,rfl⟩:=Go.Sx.Own.place ps3.own (jal.1 hhi).1;have hil:i<hs.length:=by rw[<- hhl3];exact(jal.1 hhi).1
 have ps20:=ps3.upd0 v20;have hx620:=hx63.mono0 v20;have hrow20:=ps20.row i h r hhi hri;have h6h:β6 ∉ blk h.h:=fun q=>h6m3 (hrow20.own.mem β6 q);have hβh:β ∉ blk h.h:=fun q=>ps20.sep i h hhi β q (by simp[blk]);have h11h:β11 ∉ blk h.h:=fun q=>by
  have:=ps3.rlt hhi β11 q;omega
 have hrow:h.n=(xg r.2.2).length:=by rw[hrow20.n,qdv]
 have hload:w20.cell? ⟨β,i*3+2,none⟩=some (.slice h.h (xg r.2.2).length h.cap):=by
  obtain⟨cs,c1,c2⟩:=qwa (off:=2) ps20.own hhi (by show 2<3;omega);have c1:cs=encH h:=c1;have c2:_=cs[2]?:=c2;refine c2.trans ?_;rw[c1,<- hrow];rfl
 refine quy (fun wi=>Upd (blk h.h) w20 wi) 12 qdp ?_;have hC0:Upd (blk h.h) w20 ({ w20 with drawn:=w20.drawn+1 }:World):=Upd.drew _ w20;refine qa1 [12] (i:=0) (v:=.pointer (some ⟨β6,0,none⟩)) rfl rfl rfl rfl (by kernel_rfl) (fun c a w h=>(show _/\False from h).2) hC0 (fun w1 hw1=>qbh qkb rfl rfl rfl q1) ?_;refine qa1 [12] (i:=1) (v:=.slice (some ⟨β,0,none⟩) hs.length co) rfl rfl rfl rfl (by kernel_rfl) (fun c a w h=>(show _/\False from h).2) hC0 (fun w1 hw1=>qcl (v:=.slice (some ⟨β,0,none⟩) hs.length co) ty23 rfl rfl rfl rfl (hx620.mono hw1 h6h) rfl q1) ?_;refine qa1 [12] (i:=2) (v:=.int .i64 (i:Int)) rfl rfl rfl rfl (by kernel_rfl) (fun c a w h=>(show _/\False from h).2) hC0 (fun w1 hw1=>qam (v:=.int .i64 (i:Int)) rfl rfl rfl q1) ?_;refine qa1 [12] (i:=3) (v:=.pointer (some ⟨β6,0,none⟩)) rfl rfl rfl rfl (by kernel_rfl) (fun c a w h=>(show _/\False from h).2) hC0 (fun w1 hw1=>qbh qkb rfl rfl rfl q1) ?_;refine qa1 [12] (i:=4) (v:=.slice (some ⟨β,0,none⟩) hs.length co) rfl rfl rfl rfl (by kernel_rfl) (fun c a w h=>(show _/\False from h).2) hC0 (fun w1 hw1=>qcl (v:=.slice (some ⟨β,0,none⟩) hs.length co) ty23 rfl rfl rfl rfl (hx620.mono hw1 h6h) rfl q1) ?_;refine qa1 [12] (i:=5) (v:=.int .i64 (i:Int)) rfl rfl rfl rfl (by kernel_rfl) (fun c a w h=>(show _/\False from h).2) hC0 (fun w1 hw1=>qam (v:=.int .i64 (i:Int)) rfl rfl rfl q1) ?_;refine qa1 [12] (i:=6) (v:=.pointer (some ⟨β,i*3,none⟩)) rfl rfl rfl rfl (by kernel_rfl) (fun c a w h=>(show _/\False from h).2) hC0 (fun w1 hw1=>qic ty23 ty71 rfl rfl rfl rfl hil q1) ?_;refine qa1 [12] (i:=7) (v:=.pointer (some ⟨β,i*3+2,none⟩)) rfl rfl rfl rfl (by kernel_rfl) (fun c a w h=>(show _/\False from h).2) hC0 (fun w1 hw1=>qbh qhx rfl rfl rfl q1) ?_;refine qa1 [12] (i:=8) (v:=.slice h.h (xg r.2.2).length h.cap) rfl rfl rfl rfl (by kernel_rfl) (fun c a w h=>(show _/\False from h).2) hC0 (fun w1 hw1=>qdq ty69 rfl rfl rfl rfl (qmi hw1 hβh hload) q1) ?_;refine qa1 [12] (i:=9) (v:=.agg (encG g).toArray) rfl rfl rfl rfl (by kernel_rfl) (fun c a w h=>(show _/\False from h).2) hC0 (fun w1 hw1=>qff (ds:=encG g) ty82 rfl rfl rfl rfl (hx20.mono hw1 h11h) rfl rfl q1) ?_;have v21:Upd [] w10 ({ w20 with drawn:=w20.drawn+1 }:World):=v20.trans (Upd.drew [] w20);generalize ({ w20 with drawn:=w20.drawn+1 }:World)=w21 at hC0 v21;have hm21:∀b∈m3,b<w21.heap.size:=fun b hb=>jaz (hm10 b hb) v21.size;have hM21:Lo M w21:=hM10.mono v21.size;have gwf:IntKind.i64.wrap g.2.1=g.2.1/\IntKind.i64.wrap g.2.2=g.2.2/\g.1.size<9223372036854775808:=by
  rw[<- hg];unfold S.pickG S.voidG;split
  ·exact⟨show IntKind.i64.wrap 1=1 by decide,show IntKind.i64.wrap 0=0 by decide,b1⟩
  ·split<;>exact⟨by decide,by decide,by decide⟩
 refine oneK (i:=10) rfl (by kernel_rfl) ?_;refine qf0 (r:=encG g) ty69 ty82 rfl rfl rfl rfl rfl rfl fun β8 w22 hβ8 u22 hz8 hx8=>?_;refine jaq ⟨rfl,⟨fun _=>hC0.trans (u22.mono (by simp)),?_⟩⟩;have v22:Upd [] w10 w22:=v21.trans u22;have ps22:=ps3.upd0 v22;have hM22:=hM21.mono u22.size;have hs22:SL (m3++M) w22 (some ⟨β8,0,none⟩) 1 [X.mk (c:=qar) g]:=SL.of_box1 hx8 (fun hm=>by
  rcases jbi.1 hm with h|h
  ·have:=hm21 β8 h;omega
  ·have:=hM21 β8 h;omega) (VRs.cons (.str _ gwf.2.2) (VRs.cons (.int _ _ gwf.1) (VRs.cons (.int _ _ gwf.2.1) VRs.nil)))
 refine oneK (i:=11) rfl (by kernel_rfl) ?_;refine qhp ty69 ty69 ty82 rfl rfl rfl rfl rfl rfl rfl (ps22.row i h r hhi hri).own hs22 hM22 (by show ((xg r.2.2).length+1)*32<=140737488355328;rw[qdv];omega) fun a5 c5 w23 m5 ho5 ev5 hu5 hbk5 hsub5=>?_;refine jaq ⟨rfl,⟨fun _=>(hC0.trans (u22.mono (by simp))).trans hu5,?_⟩⟩;refine oneK (i:=12) rfl (by kernel_rfl) ?_;refine qic ty23 ty71 rfl rfl rfl rfl hil ?_;refine jaq ⟨rfl,⟨fun h=>Bool.noConfusion (show true=false from h),?_⟩⟩;refine oneK (i:=13) rfl (by kernel_rfl) ?_;refine qbh qhx rfl rfl rfl ?_;refine jaq ⟨rfl,⟨fun h=>Bool.noConfusion (show true=false from h),?_⟩⟩;refine oneK (i:=14) rfl (by kernel_rfl) ?_;refine qpj (j:=i) (off:=2) (u:=h) (u':=⟨h.cl,h.to,a5,(r.2.2++[g]).length,c5⟩) (vs:=[.slice a5 (r.2.2++[g]).length c5]) ty69 rfl rfl rfl (jcd (Value.slice a5 · c5) (by rw[qe0,qdv])) (ps22.mid hhi ev5 hu5 hsub5) rfl hhi rfl rfl (fun cs w' hcs=>by
  have hcs:cs=encH h:=hcs;rw[hcs];rfl) fun w24 hu6 hz6 ho6=>?_
 refine jaq ⟨rfl,⟨fun h=>Bool.noConfusion (show true=false from h),?_⟩⟩;refine qth (by kernel_rfl) ?_ _;have ho5':Go.Sx.Own m5 M w23 a5 c5 (xg (r.2.2++[g])):=by rw[<- qe0];exact ho5
 have hβm3':β∈m3:=ps22.own.mem β (by simp[blk]);have hβm5:β∈m5:=hsub5 β hβm3';have ps24:=ps22.give hhi hri (by omega) rfl ho5' ev5 hu5 hbk5 hsub5 hu6 ho6;have e24:Evo m3 w22 m5 w24:=ev5.trans (hu6.evo (by simpa using hβm5));have e14:Evo m3 w10 m5 w24:=v22.evo0.trans e24;have hkeep:∀{b:Nat} {cs:List Value},b ∉ m3->Box w10 b cs->b ∉ m5/\Box w24 b cs:=fun {b cs} hb hx=>by
  have hlt:b<w10.heap.size:=hx.lt;refine⟨fun hm=>?_,?_⟩
  ·rcases ev5.own b hm with q|q
   ·exact hb q
   ·have:=v22.size;omega
  ·obtain⟨ty,hh⟩:=hx;exact⟨ty,(e14.same b hlt hb).trans hh⟩
 have hil3:i<R3.length:=(jal.1 hri).1;refine hK27 _ _ ?_;refine qap ?_;refine qam (v:=.int .i64 (k:Int)) rfl rfl rfl ?_;refine qen rfl rfl rfl rfl (by omega) ?_;refine qbr (v:=.int .i64 ((k+1:Nat):Int)) rfl rfl rfl ?_;refine jaq ?_;refine⟨(k+1,m5,hs3.set i ⟨h.cl,h.to,a5,(r.2.2++[g]).length,c5⟩,R3.set i (S.addG r g)),by show fb.2.length-(k+1)<fb.2.length-k;omega,⟨⟨hk1,(jb9).trans hRl3,(jb9).trans hhl3⟩,ps24,⟨ev3.trans e14,⟨hkeep h6m3 hx63,hkeep h4m3 hx43,hkeep hβm3 hxf⟩,htl3.mono (e14.tr M)⟩,?_,⟨fun j r' hj hr'=>?_,(zhg hri).trans hnam3⟩,⟨S.addG r g,jc6 hil3,by unfold S.addG;rw[ja4,hrl];rfl⟩⟩,_,rfl,(by repeat first|exact qag.refl _ _|refine qag.upd rfl ?_|refine qag.upds rfl ?_|refine qag.mix rfl ?_),rfl,trivial⟩
 ·show S.plCols fi.2 i (fb.2.drop (k+1)) (R3.set i (S.addG r g))=S.plCols fi.2 i fb.2 R;rw[<- hpl3,qpn hc3,S.plCols,hg];have e:R3.getD i S.zRule=r:=by rw[jar,hri];rfl
  rw[e]
 ·have hr':(R3.set i (S.addG r g))[j]?=some r':=hr';have hj:i+1<=j:=hj;rw[jc1 (by omega)] at hr';exact hemp3 j r' hj hr'
end
theorem zhc:Con Tryz.prog 18 q3c:=by
 refine⟨⟨_,Tryz.func18,by kernel_rfl,by kernel_rfl⟩,fun M w x us y hf hM hG hv=>?_⟩;obtain⟨(F:List qab),(T:List qab),⟨⟩⟩:=x;obtain⟨u1,us1,rfl,a1,a2⟩:=VRs.inv (v:=.lst cForm F) (cs:=[.lst cForm T]) hv;obtain⟨u2,us2,rfl,b1,b2⟩:=VRs.inv (v:=.lst cForm T) (cs:=[]) a2;obtain rfl:us2=[]:=jbo.1 b2.1.symm;obtain⟨a,c,rfl,s1,l1⟩:=qke a1;obtain⟨a',c',rfl,s2,l2⟩:=qke b1;cases hf;refine jdm.2 ((zbf hM s1 s2 l1 l2).mono fun e w' he=>?_);cases e with
 | returned v =>
  obtain⟨a3,c3,rfl,h1,h2,h3⟩:=he;refine qwy rfl h3 hM ?_;exact .agg (cs:=[.lst cRule (S.plain F T).1,.bool false,.int .i64 (S.plain F T).2]) (us:=[.slice a3 (S.plain F T).1.length c3,.bool false,.int .i64 (S.plain F T).2]) rfl (VRs.cons h1 (VRs.cons (.bool _) (VRs.cons (.int _ _ h2) VRs.nil))).2
 | _=>exact he.elim
end Go.Proofs.YtcnhjofpmpipfaaGreat
end

noncomputable section
set_option maxRecDepth 100000
namespace Go.Proofs.YtcnhjofpmpipfaaGreat
open Go Go.Sx Go.RowKit Go.Jx
theorem zpn(lf:Nat)(a b:List qab)(l:List qaa):qm6 lf a b l=some (true,()):=by
 have h1:∀n:Int,ieqI n n=true:=fun n=>by rw[qa0];exact jaj rfl
 have h2:∀n:List qaa,S.sameRules n n=true:=fun n=>jaj rfl;simp only[qm6,q2k,h1,h2,decide_true,jab];cases S.fewForms a<;>cases S.fewForms b<;>cases S.fewRules l<;>rfl
theorem zmd(hs:Con Tryz.prog 10 qid):Con Tryz.prog qwo zgn :=
 zaz ⟨zd0,ziz,hs,zh4,zhc,zhi,q9s,zo4,q6d,q6m,trivial⟩ fun x y _ h=>⟨0,(zpn _ _ _ _).trans h⟩
def exN:Ex:=fun _=>none
def isR(o:Option Res):Bool:=match o with
 | some r=>(match runR qid r with
  | some y=>y.1
  | none=>false)
 | none=>false
theorem zdu{o:Option Res}(h:isR o=true):∃r,o=some r/\runR qid r=some (true,()):=by
 cases o with
 | none=>cases h
 | some r =>
  refine⟨r,rfl,?_⟩;unfold isR at h;cases hr:runR qid r with
  | none=>simp only[hr] at h;cases h
  | some y =>
   simp only[hr] at h;exact jcd some (Prod.ext h rfl)
theorem zk8:isR (qby Tryz.prog ttT.get ftT.get (fun _ _=>none) exN 1000 100 (.fn 10) [] S0)=true:=by kernel_rfl
theorem zbm:ExOK Tryz.prog exN:=⟨fun _ _ h=>(nomatch h),fun _ _ h=>(nomatch h),fun _ _ h=>(nomatch h)⟩
theorem zov:Con Tryz.prog 10 qid:=zhh (lf:=1000) qdp ttOK ftOK zbm znj fun x y h=>by
 obtain⟨r,h1,h2⟩:=zdu zk8;exact⟨100,1000,r,h1,h2.trans h⟩
theorem con_PackRules:Con Tryz.prog qwo ⟨[.list cForm,.list cForm,.list cRule],[(false,.bool)],fun _=>some (true,())⟩:=zmd zov
end Go.Proofs.YtcnhjofpmpipfaaGreat
end
