/- Texts: Qcan, Qcanp, Lw6, Qsp2, Lw1, Lw2, Qsp3, Lw4, Lw7, Lw8, Lw9, Lw10, Lw11, Lw12, Lw13, Lw14, Qeq, Qeqp, Qeqf, Qeqfp, Qsm, Qe1, Qsmp, Qsm2, Qsm2p, Lw15, Lw16, Lw17, Lw18, Lw21, Lw22, Jcm, Rsc, Pd3, Rg9, Qe2, Qe3, Rn1, Pd4, Jpp, Pd1, Ps1, Pd2, Ps2, Ps3, Ppa, Pd5, Lsp, Rsj, Rgr, Rgj, Rg8, Rc1, Rc2, Rn2, Rj1, Lg1, Qg3, Qp4, Lp1, Rj2, Pd6. -/
import Derived.Test.YtcnhjofpmpipfaaMr4
import Derived.Test.YtcnhjofpmpipfaaMr1
import Derived.WalkKit
import Derived.Handy
import Derived.Defers
import Derived.Recover
import Derived.BigRegion
import Derived.Lib.AppendZerosOnto
set_option linter.unusedVariables false
noncomputable section
set_option maxRecDepth 100000
namespace Go.Proofs.Ytcnhjofpmpipfaa
open Go Go.Sx Go.RowKit Go.Jx
def nmz9:Nat->Option Nm:=fun k=>cond (Nat.beq k 7) (some ⟨[1,2,4,5,6,7],[],[(5,0,(.int .i64))],[],[(4,0,(.int .i64),(.int .i64))],0,0,false⟩) (cond (Nat.beq k 12) (some ⟨[1,2,4,8,9,45,46,47],[(45,(.int .i64))],[(9,0,qah),(9,1,cVal)],[],[(4,0,(.int .i64),(.int .i64))],0,0,false⟩) (cond (Nat.beq k 18) (some ⟨[2,4,9,12,74,75],[(12,(.int .i64))],[(9,0,qah),(9,1,cVal)],[],[(4,0,(.int .i64),(.int .i64))],0,0,false⟩) (none)))
def stz9:Nat->Bool:=fun k=>cond (Nat.beq k 7) true (cond (Nat.beq k 12) true (cond (Nat.beq k 18) true (false)))
def hdz9:=stz9
abbrev Rtz9:Type:=qaa × (List Int) × Unit
def q5x:List (Nat × Sm):=[]
def q4q:List (Nat × Hx):=[(100,hxR spz7),(102,hxR spz8)]
def clz9(R:Type)(lf:Nat):ClK R:=qau Try.prog ttT.get ftT.get (nm1 62 nmz9) (smL q5x) (hxL q4q) lf 20 R
abbrev idz9:Nat:=62
def qir(x1:qaa)(p:(List (Int × Int)) × (List Int) × Int):NRes:=(NRes.mk (.node none (.node (some (IV.ptr 0 0)) (.node none (.node (some (IV.int .i64 p.2.2)) .leaf .leaf) .leaf) (.node (some (IV.ptr 3 0)) .leaf .leaf)) (.node (some (IV.ptr 1 0)) (.node (some (IV.ptr 2 0)) .leaf .leaf) (.node (some (IV.fn 100 (List.cons (IV.ptr 2 0) [(IV.ptr 3 0)]))) .leaf .leaf))) (IS.mk (.node (some (IObj.row (List.cons (IV.lst qah x1.1) [(IV.lst cVal x1.2)]))) (.node (some (IObj.row (List.cons IV.nilsl [IV.nilsl]))) (.node (some (IObj.row [(IV.arr 5)])) .leaf .leaf) (.node (some (IObj.arr (TC.int .i64) p.2.1)) .leaf .leaf)) (.node (some (IObj.row [(IV.map 4)])) (.node (some (IObj.tmap (TC.int .i64) (TC.int .i64) p.1)) .leaf .leaf) .leaf)) 6) [] 0)
def qio(x1:qaa)(p:(List (Int × Int)) × (List Int) × Int × (List qab)):NRes:=(NRes.mk (.node none (.node (some (IV.ptr 0 0)) (.node none (.node none (.node none .leaf (.node (some (IV.int .i64 p.2.2.1)) .leaf .leaf)) .leaf) .leaf) (.node none (.node (some (IV.ptr 3 0)) .leaf .leaf) (.node none .leaf (.node none (.node (some (IV.arr 4)) .leaf .leaf) .leaf)))) (.node (some (IV.ptr 1 0)) (.node (some (IV.ptr 2 0)) (.node (some (IV.fn 102 [(IV.ptr 2 0)])) .leaf .leaf) .leaf) (.node none .leaf (.node none .leaf (.node none (.node (some (IV.int .i64 (Int.ofNat p.2.1.length))) .leaf .leaf) .leaf))))) (IS.mk (.node (some (IObj.row (List.cons (IV.lst qah x1.1) [(IV.lst cVal x1.2)]))) (.node (some (IObj.row (List.cons IV.nilsl [IV.nilsl]))) (.node (some (IObj.row (List.cons (IV.arr 6) [(IV.arr 7)]))) (.node (some (IObj.arr cVal (S.movedL p.1 x1.2))) .leaf .leaf) .leaf) (.node (some (IObj.tmap (TC.int .i64) (TC.int .i64) p.1)) .leaf .leaf)) (.node (some (IObj.row [(IV.map 5)])) (.node (some (IObj.arr (TC.int .i64) p.2.1)) .leaf .leaf) (.node (some (IObj.arr qah p.2.2.2)) .leaf .leaf))) 8) [] 0)
def qim(x1:qaa)(p:(List (Int × Int)) × (List qab) × Int × (List Int)):NRes:=(NRes.mk (.node none (.node none (.node none .leaf (.node none .leaf (.node none (.node none (.node (some (IV.int .i64 p.2.2.1)) .leaf .leaf) .leaf) .leaf))) (.node none (.node (some (IV.ptr 2 0)) .leaf .leaf) .leaf)) (.node (some (IV.ptr 0 0)) (.node (some (IV.ptr 1 0)) .leaf (.node (some (IV.arr 3)) .leaf .leaf)) (.node none (.node none .leaf (.node none (.node none (.node (some (IV.int .i64 (Int.ofNat x1.1.length))) .leaf .leaf) .leaf) .leaf)) .leaf))) (IS.mk (.node (some (IObj.row (List.cons IV.nilsl [IV.nilsl]))) (.node (some (IObj.row [(IV.map 4)])) (.node (some (IObj.arr (TC.int .i64) p.2.2.2)) .leaf .leaf) (.node (some (IObj.arr qah p.2.1)) .leaf .leaf)) (.node (some (IObj.row (List.cons (IV.arr 5) [(IV.arr 6)]))) (.node (some (IObj.tmap (TC.int .i64) (TC.int .i64) p.1)) .leaf .leaf) (.node (some (IObj.arr cVal (S.movedL p.1 x1.2))) .leaf .leaf))) 7) [] 0)
def qur(lf:Nat)(x1:qaa)(L7:((List (Int × Int)) × (List Int) × Int)->Option Rtz9):Option Rtz9:=(match (match (S.meetN (S.refsL x1.2) [] []) with|none=>none|some v0=>(some ((),((v0.1,()),((v0.2,()),()))))) with|none=>none|some v1=>(L7 (v1.2.1.1,v1.2.2.1.1,(Int.ofNat 0))))
def qgd(lf:Nat)(x1:qaa)(L12:((List (Int × Int)) × (List Int) × Int × (List qab))->Option Rtz9)(L7:((List (Int × Int)) × (List Int) × Int)->Option Rtz9)(p:(List (Int × Int)) × (List Int) × Int):Option Rtz9:=(cond (ieqI p.2.2 (Int.ofNat p.2.1.length)) (L12 (p.1,p.2.1,(Int.ofNat 0),[])) (match (jget p.2.1 p.2.2) with|none=>none|some v2=>(match (GetElem?.getElem? p.2.1 (Int.toNat p.2.2)) with|none=>none|some v3=>(match (jget x1.1 v3) with|none=>none|some v4=>(match (match (S.meetN (S.refsL v4.2) p.1 p.2.1) with|none=>none|some v5=>(some ((),((v5.1,()),((v5.2,()),()))))) with|none=>none|some v6=>(L7 (v6.2.1.1,v6.2.2.1.1,(IntKind.i64.wrap (Int.add p.2.2 (Int.ofNat 1))))))))))
def qjr(lf:Nat)(x1:qaa)(L12:((List (Int × Int)) × (List Int) × Int × (List qab))->Option Rtz9)(L18:((List (Int × Int)) × (List qab) × Int × (List Int))->Option Rtz9)(p:(List (Int × Int)) × (List Int) × Int × (List qab)):Option Rtz9:=(cond (iltI p.2.2.1 (Int.ofNat p.2.1.length)) (match (jget p.2.1 p.2.2.1) with|none=>none|some v0=>(match (GetElem?.getElem? p.2.1 (Int.toNat p.2.2.1)) with|none=>none|some v1=>(match (jget x1.1 v1) with|none=>none|some v2=>(match (jget x1.1 v1) with|none=>none|some v3=>(cond (Nat.ble (Nat.mul (Nat.add p.2.2.2.length 1) 40) 140737488355328) (L12 (p.1,p.2.1,(IntKind.i64.wrap (Int.add p.2.2.1 (Int.ofNat 1))),(List.append p.2.2.2 [(v2.1,(S.movedL p.1 v3.2))]))) none))))) (L18 (p.1,p.2.2.2,(Int.ofNat 0),[])))
def qlv(lf:Nat)(x1:qaa)(L18:((List (Int × Int)) × (List qab) × Int × (List Int))->Option Rtz9)(p:(List (Int × Int)) × (List qab) × Int × (List Int)):Option Rtz9:=(cond (iltI p.2.2.1 (Int.ofNat x1.1.length)) (cond (Bool.not (match (@qb6 (TC.int .i64) (TC.int .i64) p.2.2.1 p.1) with|.none  => false|some v0=>true)) (cond (Nat.ble (Nat.mul (Nat.add p.2.2.2.length 1) 8) 140737488355328) (L18 (p.1,p.2.1,(IntKind.i64.wrap (Int.add p.2.2.1 (Int.ofNat 1))),(List.append p.2.2.2 [(Int.negSucc 0)]))) none) (cond (Nat.ble (Nat.mul (Nat.add p.2.2.2.length 1) 8) 140737488355328) (L18 (p.1,p.2.1,(IntKind.i64.wrap (Int.add p.2.2.1 (Int.ofNat 1))),(List.append p.2.2.2 (List.cons (match (@qb6 (TC.int .i64) (TC.int .i64) p.2.2.1 p.1) with|.none  => (Int.ofNat 0)|some v29=>v29) [])))) none)) (some ((p.2.1,(S.movedL p.1 x1.2)),(p.2.2.2,()))))
abbrev gz9:Type:=ElA [cGraph]->Option Rtz9
abbrev sz9(g:gz9):Sm:=⟨[cGraph],[(false,cGraph),(false,(.list (.int .i64)))],g⟩
abbrev Ez9(g:gz9)(J:JT Rtz9)(lf:Nat)(x1:qaa):=qbs Try.prog ttT.get nmz9 fi62.nt (clz9 _ lf) lf stz9 J fi62.body [] (qaq (argV [cGraph] (x1,())) 0 .leaf) S0 [] (qas ttT.get fi62 (sz9 g))
abbrev Bz9(g:gz9)(J:JT Rtz9)(lf k:Nat)(ms:List Nat)(q:NRes):=qb0 Try.prog ttT.get nmz9 fi62.nt (clz9 _ lf) lf stz9 J k fi62.body [] ms q (qas ttT.get fi62 (sz9 g))
theorem inz9(g:gz9)(J:JT Rtz9)(lf:Nat)(x1:qaa):Ez9 g J lf x1=qur lf x1 (fun q=>J 7 [lf] (qir x1 q)):=by kernel_rfl
theorem zaz(g:gz9)(J:JT Rtz9)(lf:Nat)(x1:qaa)(m1:Nat)(p:(List (Int × Int)) × (List Int) × Int):Bz9 g J lf 7 [m1] (qir x1 p)=qgd lf x1 (fun q=>J 12 [lf] (qio x1 q)) (fun q=>J 7 [m1] (qir x1 q)) p:=by kernel_rfl
theorem zsb(g:gz9)(J:JT Rtz9)(lf:Nat)(x1:qaa)(m1:Nat)(p:(List (Int × Int)) × (List Int) × Int × (List qab)):Bz9 g J lf 12 [m1] (qio x1 p)=qjr lf x1 (fun q=>J 12 [m1] (qio x1 q)) (fun q=>J 18 [lf] (qim x1 q)) p:=by kernel_rfl
theorem zng(g:gz9)(J:JT Rtz9)(lf:Nat)(x1:qaa)(m1:Nat)(p:(List (Int × Int)) × (List qab) × Int × (List Int)):Bz9 g J lf 18 [m1] (qim x1 p)=qlv lf x1 (fun q=>J 18 [m1] (qim x1 q)) p:=by kernel_rfl
theorem ndz9:(regs fi62.body).Nodup:=by decide +kernel
theorem okz9:okC nmz9 stz9 hdz9 fi62.body none=true:=by kernel_rfl
def Az9(g:gz9)(lf:Nat):JT Rtz9:=atN Try.prog ttT.get nmz9 fi62 (sz9 g) (clz9 _ lf) lf hdz9
def qkh(lf:Nat)(x1:qaa):Nat->((List (Int × Int)) × (List qab) × Int × (List Int))->Option Rtz9:=rounds fun K p=>qlv lf x1 K p
theorem q6w(g:gz9)(lf:Nat)(x1:qaa):∀(n:Nat) (p:(List (Int × Int)) × (List qab) × Int × (List Int)),Az9 g lf 18 [n] (qim x1 p)=qkh lf x1 n p
 | 0,p=>qbf 18 [0] rfl _
 | n+1,p=>by
  have ih:=q6w g lf x1 n;refine(qay (qam 20 _) ndz9 okz9 18 [n+1] [n] rfl _).trans ((zng g (Az9 g lf) lf x1 n p).trans ?_);rw[(show (fun q=>Az9 g lf 18 [n] (qim x1 q))=(fun q=>qkh lf x1 n q) from funext ih)];rfl
def qjd(lf:Nat)(x1:qaa):Nat->((List (Int × Int)) × (List Int) × Int × (List qab))->Option Rtz9:=rounds fun K p=>qjr lf x1 K (fun q=>qkh lf x1 lf q) p
theorem q7r(g:gz9)(lf:Nat)(x1:qaa):∀(n:Nat) (p:(List (Int × Int)) × (List Int) × Int × (List qab)),Az9 g lf 12 [n] (qio x1 p)=qjd lf x1 n p
 | 0,p=>qbf 12 [0] rfl _
 | n+1,p=>by
  have ih:=q7r g lf x1 n;refine(qay (qam 20 _) ndz9 okz9 12 [n+1] [n] rfl _).trans ((zsb g (Az9 g lf) lf x1 n p).trans ?_);rw[(show (fun q=>Az9 g lf 18 [lf] (qim x1 q))=(fun q=>qkh lf x1 lf q) from funext fun q=>q6w g lf x1 lf q),(show (fun q=>Az9 g lf 12 [n] (qio x1 q))=(fun q=>qjd lf x1 n q) from funext ih)];rfl
def qqk(lf:Nat)(x1:qaa):Nat->((List (Int × Int)) × (List Int) × Int)->Option Rtz9:=rounds fun K p=>qgd lf x1 (fun q=>qjd lf x1 lf q) K p
theorem qyz(g:gz9)(lf:Nat)(x1:qaa):∀(n:Nat) (p:(List (Int × Int)) × (List Int) × Int),Az9 g lf 7 [n] (qir x1 p)=qqk lf x1 n p
 | 0,p=>qbf 7 [0] rfl _
 | n+1,p=>by
  have ih:=qyz g lf x1 n;refine(qay (qam 20 _) ndz9 okz9 7 [n+1] [n] rfl _).trans ((zaz g (Az9 g lf) lf x1 n p).trans ?_);rw[(show (fun q=>Az9 g lf 12 [lf] (qio x1 q))=(fun q=>qjd lf x1 lf q) from funext fun q=>q7r g lf x1 lf q),(show (fun q=>Az9 g lf 7 [n] (qir x1 q))=(fun q=>qqk lf x1 n q) from funext ih)];rfl
def Fz9(lf:Nat)(x1:qaa):Option Rtz9:=qur lf x1 (fun q=>qqk lf x1 lf q)
theorem zul(g:gz9)(lf:Nat)(x1:qaa):Ez9 g (Az9 g lf) lf x1=Fz9 lf x1:=by
  refine(inz9 g (Az9 g lf) lf x1).trans ?_;rw[(show (fun q=>Az9 g lf 7 [lf] (qir x1 q))=(fun q=>qqk lf x1 lf q) from funext fun q=>qyz g lf x1 lf q)];rfl
theorem zdv(hrz7:ConR Try.prog 100 spz7)(hrz8:ConR Try.prog 102 spz8):qa2 Try.prog q4q:=⟨qnb hrz7,⟨qnb hrz8,trivial⟩⟩
theorem mkz9{g:gz9}(hsm:SmOK Try.prog q5x)(hrz7:ConR Try.prog 100 spz7)(hrz8:ConR Try.prog 102 spz8)(hg:∀(x:ElA [cGraph]) (y:Rtz9),WfA [cGraph] x->g x=some y->∃lf,Fz9 lf x.1=some y):Con Try.prog 62 ⟨[cGraph],[(false,cGraph),(false,(.list (.int .i64)))],g⟩ :=
 conV (st:=stz9) (fun lf x=>Fz9 lf x.1) cm3 znd (zdv hrz7 hrz8) ndz9 okz9 (fun lf x=>zul g lf x.1) hsm hg
noncomputable def S.canonO(g:qaa):Option (qaa × List Int × Unit):=Fz9 LF g
noncomputable def spz9:Sm:=⟨[cGraph],[(false,cGraph),(false,.list (.int .i64))],fun x=>S.canonO x.1⟩
theorem qp1:Con Try.prog idz9 spz9:=mkz9 trivial znr zut fun x y hx h=>⟨LF,h⟩
def S.tabF:Nat->List Int->List (Int × Int)
 | _,[]=>[]
 | i,n::l=>(n,Int.ofNat i)::S.tabF (i+1) l
def S.tab(o:List Int):List (Int × Int):=S.tabF 0 o
def S.meetL:List Int->List Int->List Int
 | o,[]=>o
 | o,n::l=>if n∈o then S.meetL o l else S.meetL (o++[n]) l
theorem qp5(a b:Int):keqI a b=decide (a=b):=rfl
theorem zny(e:Int × Int)(es:List (Int × Int))(k:Int):S.numAt (e::es) k=if k=e.1 then some e.2 else S.numAt es k:=by
 show (cond (keqI k e.1) (some e.2) (S.numAt es k))=_;rw[qp5];by_cases h:k=e.1
 ·rw[jam h,jaj h];rfl
 ·rw[jak h,jai h];rfl
theorem zep(e:Int × Int)(es:List (Int × Int))(k v:Int):S.numSet (e::es) k v=if k=e.1 then (k,v)::es else e::S.numSet es k v:=by
 show (cond (keqI k e.1) ((k,v)::es) (e::S.numSet es k v))=_;rw[qp5];by_cases h:k=e.1
 ·rw[jam h,jaj h];rfl
 ·rw[jak h,jai h];rfl
theorem q2f:∀(o:List Int) (i:Nat) (k:Int),S.numAt (S.tabF i o) k=if k∈o then some (Int.ofNat (i+o.idxOf k)) else none
 | [],i,k=>by simp[S.tabF];rfl
 | n::l,i,k=>by
  simp only[S.tabF,zny];by_cases h:k=n
  ·subst h;simp
  ·rw[jak h,q2f l (i+1) k];have h':(n==k)=false:=by simpa using fun e=>h e.symm
   by_cases hm:k∈l
   ·rw[jam hm,jam (ja2 _ hm),List.idxOf_cons,h',jae,jcj,Nat.add_comm 1]
   ·rw[jak hm,jak (by simp[h,hm])]
theorem qof(o:List Int)(k:Int):S.numAt (S.tab o) k=if k∈o then some (Int.ofNat (o.idxOf k)) else none:=by
 unfold S.tab;rw[q2f,ja4]
theorem q9d:∀(o:List Int) (i:Nat) (k:Int),k ∉ o->S.numSet (S.tabF i o) k (Int.ofNat (i+o.length))=S.tabF i (o++[k])
 | [],i,k,_=>rfl
 | n::l,i,k,h=>by
  simp only[ja0,not_or] at h;simp only[S.tabF,zep,jcz,jak h.1];congr 1;have:=q9d l (i+1) k h.2;rw[show i+1+l.length=i+(n::l).length by simp;omega] at this;exact this
theorem zc0(o:List Int)(k:Int)(h:k ∉ o):S.numSet (S.tab o) k (Int.ofNat o.length)=S.tab (o++[k]):=by
 have:=q9d o 0 k h
 rwa [ja4] at this
theorem qrp:∀(l o:List Int),(o.length+l.length)*8<=140737488355328->S.meetN l (S.tab o) o=some (S.tab (S.meetL o l),S.meetL o l)
 | [],o,h=>rfl
 | n::l,o,h=>by
  simp only[jbj] at h;simp only[S.meetN,S.meetL,qof];by_cases hm:n∈o
  ·rw[jam hm,jam hm];exact qrp l o (by omega)
  ·rw[jak hm,jak hm];simp only[jex,jae];rw[jb7 (show (o.length+1)*8<=140737488355328 by omega),jaa,zc0 o n hm];exact qrp l (o++[n]) (by simp only[jaq,jbj,jcv];omega)
theorem qeq:∀(l o:List Int) (k:Int),k∈S.meetL o l↔k∈o\/k∈l
 | [],o,k=>by simp[S.meetL]
 | n::l,o,k=>by
  simp only[S.meetL];by_cases hm:n∈o
  ·rw[jam hm,qeq l o k];constructor
   ·rintro(h|h)
    ·exact .inl h
    ·exact .inr (ja2 _ h)
   ·rintro(h|h)
    ·exact .inl h
    ·rcases ja0.1 h with rfl|h
     ·exact .inl hm
     ·exact .inr h
  ·rw[jak hm,qeq l (o++[n]) k];simp only[jbe,ja0,jdc,je9];constructor
   ·rintro((h|h)|h)
    ·exact .inl h
    ·exact .inr (.inl h)
    ·exact .inr (.inr h)
   ·rintro(h|h|h)
    ·exact .inl (.inl h)
    ·exact .inl (.inr h)
    ·exact .inr h
theorem qkd:∀(l o:List Int),o.Nodup->(S.meetL o l).Nodup
 | [],o,h=>h
 | n::l,o,h=>by
  simp only[S.meetL];by_cases hm:n∈o
  ·rw[jam hm];exact qkd l o h
  ·rw[jak hm];refine qkd l _ (jcc.2 ⟨h,by simp,fun a ha b hb=>?_⟩);rw[jb4.1 hb];exact fun e=>hm (e▸ha)
theorem qqw:∀(l o:List Int),∃t,S.meetL o l=o++t
 | [],o=>⟨[],(jbk _).symm⟩
 | n::l,o=>by
  simp only[S.meetL];by_cases hm:n∈o
  ·rw[jam hm];exact qqw l o
  ·rw[jak hm];obtain⟨t,ht⟩:=qqw l (o++[n]);exact⟨n::t,by rw[ht];simp⟩
theorem q7n(l o:List Int):o.length<=(S.meetL o l).length:=by
 obtain⟨t,ht⟩:=qqw l o;rw[ht];simp
end Go.Proofs.Ytcnhjofpmpipfaa
end

section
noncomputable section
namespace Go.Proofs.Ytcnhjofpmpipfaa
open Go Go.Sx Go.RowKit Go.Jx
namespace S
open Go.Jx.S
def both(a b:qbw):qbw × Bool :=
 if b.2.1=1 then (a,true)
 else if a.2.1=1 then ((a.1,b.2.1,b.2.2),true)
 else if a.2.1=2/\b.2.1=3 then ((a.1,1,0),true)
 else if a.2.1=2/\b.2.1=4 then (a,decide (2<=b.2.2))
 else if a.2.1=4/\b.2.1=4 then ((a.1,a.2.1,imin a.2.2 b.2.2),true)
 else if a.2.1=5/\b.2.1=5 then (a,true)
 else if a.2.1=6/\b.2.1=2 then (a,true)
 else if a.2.1=6/\b.2.1=3 then (a,within a.2.2 0 1)
 else if a.2.1=6/\b.2.1=4 then (a,decide (a.2.2<b.2.2))
 else (qjv,false)
def zb2(l:List qbw)(n:ByteArray):Bool:=l.any fun g=>keqS g.1 n
def znj(g:qbw):Bool:=decide (g.2.1=3)||(decide (g.2.1=4)||decide (g.2.1=5))
def chGo(a:qa0)(mid:List DCol):List qbw->List qbw->Option (List qbw)
 | [],acc=>some acc
 | g::gs,acc =>
  if g.2.1=6\/g.2.1=7 then chGo a mid gs (acc++[g])
  else if (both (at_ qjv a.2.2 (col mid g.1)) g).2=true then chGo a mid gs (acc++[(both (at_ qjv a.2.2 (col mid g.1)) g).1])
  else none
def q1k(l:List qbw):List qbw->List DCol->Bool
 | g::gs,c::cs=>cond (znj g&&!zb2 l c.1) false (q1k l gs cs)
 | _,_=>true
def zk4(a b:qa0)(mid:List DCol):qa0 × Bool:=match chGo a mid b.2.2 [] with
 | none=>(qlc,false)
 | some gs=>if q1k b.2.2 a.2.2 mid=true then ((a.1,b.2.1,gs),true) else (qlc,false)
def q9c(mid:List qac)(a b:List qa0):List qac->List qa0->List qa0 × Int
 | [],acc=>(acc,0)
 | f::fs,acc =>
  let x:=(ruleOf a f.1).1
  let c:=zk4 x (ruleOf b x.2.1).1 (colsOf mid x.2.1)
  if c.2=true then q9c mid a b fs (acc++[c.1]) else ([],5)
def qu1(l1 l2 l3:List qac)(a b:List qa0):List qa0 × Int :=
 if ¬first [checkForms l1,checkForms l2,checkForms l3]=0 then ([],first [checkForms l1,checkForms l2,checkForms l3])
 else if ¬first [qme l1 l2 a,qme l2 l3 b]=0 then ([],first [qme l1 l2 a,qme l2 l3 b])
 else q9c l2 a b l1 []
end S
end Go.Proofs.Ytcnhjofpmpipfaa

end
end

noncomputable section
set_option maxRecDepth 100000
namespace Go.Proofs.Ytcnhjofpmpipfaa
open Go Go.Sx Go.RowKit Go.Jx
structure ColsOK (cs:List DCol):Prop where
 len:cs.length<=30
 small:∀c∈cs,S.small c.1=true
 one:∀k (h:k<cs.length),S.col (cs.take k) cs[k].1<0
 kind:∀c∈cs,1<=c.2.1/\c.2.1<=3
 bare:∀c∈cs,¬c.2.1=3->c.2.2=S.lit []
structure FormsOK (l:List qac):Prop where
 len:l.length<=24
 cls:∀f∈l,S.class_ f.1=true
 one:∀k (h:k<l.length),S.form (l.take k) l[k].1<0
 cols:∀f∈l,ColsOK f.2
 ref:∀f∈l,∀c∈f.2,c.2.1=3->c.2.2=S.ANY\/0<=S.form l c.2.2
theorem q02{α:Type}{l:List α}{k:Nat}{r:α}{rs:List α}(hd:l.drop k=r::rs):∃h:k<l.length,l[k]=r/\l.drop (k+1)=rs:=by
 have hk:k<l.length:=by
  rcases jbr k l.length with h|h
  ·exact h
  ·rw[List.drop_eq_nil_of_le h] at hd;cases hd
 rw[jbs hk] at hd;exact⟨hk,(List.cons.inj hd).1,(List.cons.inj hd).2⟩
theorem q2m(l:List DCol):∀(cs:List DCol) (k:Nat),l.drop k=cs->S.ccGo l k cs=0->∀j (h:j<l.length),k<=j->S.small l[j].1=true/\S.col (l.take j) l[j].1<0/\S.within l[j].2.1 1 3=true/\(¬l[j].2.1=3->l[j].2.2=S.lit [])
 | [],k,hd,_=>fun j hj hk=>by
  have:l.length<=k:=by simpa using hd
  omega
 | c::r,k,hd,h=>by
  obtain⟨hk,e1,e2⟩:=q02 hd;rw[S.ccGo] at h;cases h1:S.small c.1 with
  | false=>rw[jam h1] at h;exact absurd h (by decide)
  | true =>
  rw[jak (by simp[h1])] at h;by_cases h2:¬S.col (l.take k) c.1<0
  ·rw[jam h2] at h;exact absurd h (by decide)
  rw[jak h2] at h;cases h3:S.within c.2.1 1 3 with
  | false=>rw[jam h3] at h;exact absurd h (by decide)
  | true =>
  rw[jak (by simp[h3])] at h;by_cases h4:¬c.2.1=3/\¬c.2.2=S.lit []
  ·rw[jam h4] at h;exact absurd h (by decide)
  rw[jak h4] at h;intro j hj hkj;by_cases e:j=k
  ·subst e;rw[e1];exact⟨h1,Decidable.not_not.1 h2,h3,fun hn=>Decidable.not_not.1 fun hh=>h4 ⟨hn,hh⟩⟩
  ·exact q2m l r (k+1) e2 h j hj (by omega)
theorem zt1{l:List DCol}(h:S.checkCols l=0):ColsOK l:=by
 unfold S.checkCols at h;by_cases h30:30<l.length
 ·rw[jam h30] at h;exact absurd h (by decide)
 rw[jak h30] at h;have key:=q2m l l 0 rfl h;refine⟨by omega,fun c hc=>?_,fun k hk=>(key k hk (jbn _)).2.1,fun c hc=>?_,fun c hc=>?_⟩;all_goals
  obtain⟨k,hk,rfl⟩:=jbq.1 hc
 ·exact(key k hk (jbn _)).1
 ·simpa only [S.within,jaf,jbc] using (key k hk (jbn _)).2.2.1
 ·exact(key k hk (jbn _)).2.2.2
theorem qx3(l:List qac):∀fs:List qac,S.cfGo2 l fs=0->∀f∈fs,S.cfIn l f.2=true
 | [],_=>fun f hf=>absurd hf (by simp)
 | f::r,h=>by
  rw[S.cfGo2] at h;by_cases hc:S.cfIn l f.2=true
  ·rw[jam hc] at h;intro x hx;rcases ja0.1 hx with e|e
   ·rw[e];exact hc
   ·exact qx3 l r h x e
  ·rw[jak hc] at h;exact absurd h (by decide)
theorem zqr{a b c:Int}(h:S.first [a,b,c]=0):a=0/\b=0/\c=0:=by
 simp only[S.first] at h;by_cases ha:a=0
 ·rw[jam ha] at h;by_cases hb:b=0
  ·rw[jam hb] at h;by_cases hc:c=0
   ·exact⟨ha,hb,hc⟩
   ·rw[jak hc] at h;exact absurd h hc
  ·rw[jak hb] at h;exact absurd h hb
 ·rw[jak ha] at h;exact absurd h ha
theorem qyr{x:Bool}{e:Int}(he:¬e=0)(h:S.unlessE x e=0):x=true:=by
 cases x with
 | true=>rfl
 | false=>exact absurd h he
theorem qzi(l:List qac):∀(fs:List qac) (k:Nat),l.drop k=fs->S.cfGo l k fs=0->(∀j (h:j<l.length),k<=j->S.class_ l[j].1=true/\S.form (l.take j) l[j].1<0/\S.checkCols l[j].2=0)/\S.cfGo2 l l=0
 | [],k,hd,h=>⟨fun j hj hk=>by
  have:l.length<=k:=by simpa using hd
  omega,h⟩
 | f::r,k,hd,h=>by
  obtain⟨hk,e1,e2⟩:=q02 hd;rw[S.cfGo] at h;by_cases he:S.first [S.unlessE (S.class_ f.1) 4,S.unlessE (decide (S.form (l.take k) f.1<0)) 6,S.checkCols f.2]=0
  ·rw[jam he] at h;obtain⟨q1,q2,q3⟩:=zqr he;have ih:=qzi l r (k+1) e2 h;refine⟨fun j hj hkj=>?_,ih.2⟩;by_cases e:j=k
   ·subst e;rw[e1];exact⟨qyr (by decide) q1,ja6 (qyr (by decide) q2),q3⟩
   ·exact ih.1 j hj (by omega)
  ·rw[jak he] at h;exact absurd h he
theorem q7c(l:List qac):∀cs:List DCol,S.cfIn l cs=true->∀c∈cs,c.2.1=3->c.2.2=S.ANY\/0<=S.form l c.2.2
 | [],_=>fun c hc=>absurd hc (by simp)
 | c::r,h=>by
  rw[S.cfIn] at h;by_cases hc:c.2.1=3/\¬c.2.2=S.ANY/\S.form l c.2.2<0
  ·rw[jam hc] at h;cases h
  ·rw[jak hc] at h;intro x hx h3;rcases ja0.1 hx with e|e
   ·rw[e] at h3 ⊢;by_cases hA:c.2.2=S.ANY
    ·exact .inl hA
    ·exact .inr (by have:¬S.form l c.2.2<0:=fun hh=>hc ⟨h3,hA,hh⟩;omega)
   ·exact q7c l r h x e h3
theorem qsb{l:List qac}(h:S.checkForms l=0):FormsOK l:=by
 unfold S.checkForms at h;by_cases h24:24<l.length
 ·rw[jam h24] at h;exact absurd h (by decide)
 rw[jak h24] at h;obtain⟨k1,k2⟩:=qzi l l 0 rfl h;have k3:=qx3 l l k2;refine⟨by omega,fun f hf=>?_,fun k hk=>(k1 k hk (jbn _)).2.1,fun f hf=>?_,fun f hf=>q7c l f.2 (k3 f hf)⟩;all_goals
  obtain⟨k,hk,rfl⟩:=jbq.1 hf
 ·exact(k1 k hk (jbn _)).1
 ·exact zt1 (k1 k hk (jbn _)).2.2

theorem zr0{α:Type}{p:α->Bool}{l:List α}{x:α}(hx:x∈l)(hp:p x=true):0<=S.idx p l :=
 (S.idx_nonneg p l).2 (jc1.2 ⟨x,hx,hp⟩)
theorem zoa{α:Type}{p:α->Bool}{l:List α}{k:Nat}(hk:k<l.length)(hp:p l[k]=true)(h0:S.idx p (l.take k)<0):S.idx p l=k:=by
 have hn:=S.idx_neg h0;rw[List.find?_eq_none] at hn;have:l.findIdx? p=some k:=by
  rw[jcf];refine⟨hk,hp,fun j hj=>?_⟩;have hj2:j<(l.take k).length:=by simp;omega
  have:=hn ((l.take k)[j]) (jaz hj2);rw[jef] at this;exact this
 unfold S.idx;rw[this];rfl
theorem qgp{many:Nat}(h:many<=400)(v:DVal):S.value v (Int.ofNat many)=true↔(v.1=1/\-1099511627776<=v.2/\v.2<=1099511627776)\/(v.1=2/\0<=v.2/\v.2<=1)\/(v.1=3/\v.2=0)\/(v.1=4/\0<=v.2/\v.2<many):=by
 have hw:IntKind.i64.wrap (Int.sub (Int.ofNat many) (Int.ofNat 1))=(many:Int)-1:=by
  have:Int.sub (Int.ofNat many) (Int.ofNat 1)=(many:Int)-1:=rfl;rw[this];exact qma (by omega)
 unfold S.value;rw[hw];simp only[S.within];by_cases h1:v.1=1
 ·simp[h1]
 by_cases h2:v.1=2
 ·simp[h2]
 by_cases h3:v.1=3
 ·simp[h3]
 by_cases h4:v.1=4
 ·simp[h4];omega
 simp[h1,h2,h3,h4]
theorem q6g(g:qaa)(c:DCol)(v:DVal):S.suits g c v=true↔(c.2.1=1->v.1=1)/\(c.2.1=2->v.1=2)/\(¬c.2.1=1->¬c.2.1=2->v.1=3\/(v.1=4/\(c.2.2=S.ANY\/(S.at_ S.zNode g.1 v.2).1=c.2.2))):=by
 unfold S.suits;by_cases h1:c.2.1=1
 ·simp[h1]
 by_cases h2:c.2.1=2
 ·simp[h2]
 simp[h1,h2]
theorem qxh(g:qaa):∀(cs:List DCol) (vs:List DVal),vs.length=cs.length->(S.suitsAll g cs vs=true↔∀k (h:k<cs.length) (h':k<vs.length),S.suits g cs[k] vs[k]=true)
 | [],vs,_=>by simp[S.suitsAll]
 | c::cs,[],h=>by simp at h
 | c::cs,v::vs,hl=>by
  rw[S.suitsAll];have ih:=qxh g cs vs (by simpa using hl);by_cases h0:S.suits g c v=true
  ·rw[jam h0,ih];constructor
   ·intro h k h1 h2;cases k with
    | zero=>exact h0
    | succ k=>exact h k (by simpa using h1) (by simpa using h2)
   ·intro h k h1 h2;exact h (k+1) (by simpa using h1) (by simpa using h2)
  ·rw[jak h0];exact⟨fun h=>(by cases h),fun h=>absurd (h 0 (by simp) (by simp)) h0⟩
theorem q41{l:List qac}{g:qaa}:∀{ns:List qab},(∀n∈ns,n.2.length=(S.colsOf l n.1).length/\S.suitsAll g (S.colsOf l n.1) n.2=true)->S.typed l g ns=true
 | [],_=>rfl
 | n::ns,h=>by
  rw[S.typed];have h0:=h n jbd;rw[jam h0.1,jam h0.2];exact q41 fun m hm=>h m (ja2 _ hm)
theorem q5h{g:qaa}(h1:g.1.length<=400)(h2:g.2.length<=60)(h3:∀n∈g.1,n.2.length<=30)(h4:∀n∈g.1,∀v∈n.2,S.value v (Int.ofNat g.1.length)=true)(h5:∀v∈g.2,S.value v (Int.ofNat g.1.length)=true/\S.refers v=true):S.formed g=0:=by
 unfold S.formed;rw[jak (by omega),jak,jak,jak]
 ·simp only[jc1,not_exists,not_and,jc7,jct,not_or,je3];exact fun v hv=>h5 v hv
 ·simp only[jc1,not_exists,not_and,jct,je3];exact fun n hn v hv=>h4 n hn v hv
 ·simp only[jc1,not_exists,not_and,jbc];exact fun n hn=>by have:=h3 n hn;omega
end Go.Proofs.Ytcnhjofpmpipfaa
end

section
noncomputable section
namespace Go.Proofs.Ytcnhjofpmpipfaa
open Go Go.Sx Go.RowKit Go.Jx
namespace S
open Go.Jx.S
def bkGo(l:List qa0)(was now:List DCol):List qbw->Nat->List qbw->Option (List qbw)
 | [],_,acc=>some acc
 | g::gs,i,acc =>
  if ¬g.2.1=1 then none
  else if ¬(at_ qjv acc (col was g.1)).2.1=0 then none
  else if keeps l (at_ zCol was (col was g.1)) (at_ zCol now i)=false then none
  else bkGo l was now gs (i+1) (acc.set (col was g.1).toNat ((at_ zCol now i).1,1,0))
def back(l:List qa0)(r:qa0)(was now:List DCol):qa0 × Bool :=
 if ¬was.length=now.length then (qlc,false)
 else match bkGo l was now r.2.2 0 (rep was.length qjv) with
  | none=>(qlc,false)
  | some gs=>((r.2.1,r.1,gs),true)
end S
end Go.Proofs.Ytcnhjofpmpipfaa

end
end

noncomputable section
set_option maxRecDepth 100000
namespace Go.Proofs.Ytcnhjofpmpipfaa
open Go Go.Sx Go.RowKit Go.Jx
theorem q1l{α:Type}[DecidableEq α]:∀(N M:List α),N.Nodup->(∀x∈N,x∈M)->N.length<=M.length
 | [],M,_,_=>jbn _
 | x::N,M,hN,hs=>by
  rw[jdv] at hN;have hx:=hs x jbd;have ih:=q1l N (M.erase x) hN.2 fun y hy=>(List.mem_erase_of_ne (fun e:y=x=>hN.1 (by rw[<- e];exact hy))).2 (hs y (ja2 _ hy));rw[List.length_erase_of_mem hx] at ih;have:0<M.length:=List.length_pos_of_mem hx;simp only[jbj];omega
structure Und (A B:List qac) (l:List qa0) (r q:qa0):Prop where
 cls:q.1=r.2.1
 to:q.2.1=r.1
 n1:r.2.2.length=(S.colsOf A r.1).length
 n2:r.2.2.length=(S.colsOf B r.2.1).length
 n3:q.2.2.length=r.2.2.length
 how:∀i (h:i<r.2.2.length),r.2.2[i].2.1=1
 fwd:∀i (h:i<r.2.2.length),∃(k:Nat) (h1:k<(S.colsOf A r.1).length) (h2:k<q.2.2.length) (h3:i<(S.colsOf B r.2.1).length),S.col (S.colsOf A r.1) r.2.2[i].1=k/\q.2.2[k]=((S.colsOf B r.2.1)[i].1,1,0)/\S.keeps l (S.colsOf A r.1)[k] (S.colsOf B r.2.1)[i]=true
 bwd:∀k (h:k<(S.colsOf A r.1).length),∃(i:Nat) (h1:i<r.2.2.length),S.col (S.colsOf A r.1) r.2.2[i].1=k
structure BackOK (A B:List qac) (l b:List qa0):Prop where
 fa:FormsOK A
 fb:FormsOK B
 ca:S.checkForms A=0
 cb:S.checkForms B=0
 ra:RulesOK A B l
 len:b.length=l.length
 lenB:b.length=B.length
 cls:∀k (h:k<B.length) (h':k<b.length),b[k].1=B[k].1
 und:∀q∈b,∃r∈l,Und A B l r q
 inj:∀r∈l,∀r'∈l,r.2.1=r'.2.1->r=r'
section
variable {A B : List qac} {l b : List qa0}
end
structure GF (g:qaa):Prop where
 nodes:List.length (α:=qab) (g:List qab × List DVal).1<=400
 roots:List.length (α:=DVal) (g:List qab × List DVal).2<=60
 vals:∀n∈(g:List qab × List DVal).1,List.length (α:=DVal) (n:ByteArray × List DVal).2<=30
 ref:∀n∈(g:List qab × List DVal).1,∀k∈S.refsL (n:ByteArray × List DVal).2,0<=k/\k<Int.ofNat (List.length (α:=qab) (g:List qab × List DVal).1)
 rref:∀k∈S.refsL (g:List qab × List DVal).2,0<=k/\k<Int.ofNat (List.length (α:=qab) (g:List qab × List DVal).1)
theorem qva:∀l:List (Int × Int),(S.refsL l).length<=l.length
 | []=>jar _
 | v::l=>by
  have:=qva l;simp only[S.refsL];split<;>simp<;>omega
structure OrdOK (nd:List qab) (o:List Int):Prop where
 nodup:o.Nodup
 lt:∀k∈o,0<=k/\k<Int.ofNat nd.length
theorem OrdOK.len{nd:List qab}{o:List Int}(h:OrdOK nd o):o.length<=nd.length:=by
 have:=q1l o ((List.range nd.length).map Int.ofNat) h.nodup fun k hk=>by
  obtain⟨h1,h2⟩:=h.lt k hk;refine jcn.2 ⟨k.toNat,jej.2 ?_,?_⟩
  ·have:(k.toNat:Int)=k:=jd7 h1;have h2:k<(nd.length:Int):=h2;omega
  ·exact jd7 h1
 simpa using this
theorem OrdOK.meet{nd:List qab}{o l:List Int}(h:OrdOK nd o)(hl:∀k∈l,0<=k/\k<Int.ofNat nd.length):OrdOK nd (S.meetL o l) :=
 ⟨qkd l o h.nodup,fun k hk=>by
  rcases(qeq l o k).1 hk with h1|h1
  ·exact h.lt k h1
  ·exact hl k h1⟩
def S.walk(nd:List qab):Nat->List Int->Nat->List Int
 | 0,o,_=>o
 | f+1,o,i=>match o[i]? with
  | none=>o
  | some k=>match jget nd k with
   | none=>o
   | some v=>S.walk nd f (S.meetL o (S.refsL (v:ByteArray × List DVal).2)) (i+1)
theorem q03{g:qaa}(hg:GF g)(L12:((List (Int × Int)) × (List Int) × Int × (List qab))->Option Rtz9):∀(f n i:Nat) (o:List Int),OrdOK (g:List qab × List DVal).1 o->i<=o.length ->
  List.length (α:=qab) (g:List qab × List DVal).1-i<f->List.length (α:=qab) (g:List qab × List DVal).1-i<n ->
  rounds (fun K p=>qgd LF g L12 K p) n (S.tab o,o,Int.ofNat i)=L12 (S.tab (S.walk (g:List qab × List DVal).1 f o i),S.walk (g:List qab × List DVal).1 f o i,Int.ofNat 0,[])/\OrdOK (g:List qab × List DVal).1 (S.walk (g:List qab × List DVal).1 f o i)
 | 0,n,i,o,ho,hi,hf,hn=>by omega
 | f+1,0,i,o,ho,hi,hf,hn=>by omega
 | f+1,n+1,i,o,ho,hi,hf,hn=>by
  have hlen:=ho.len;show qgd LF g L12 (rounds (fun K p=>qgd LF g L12 K p) n) (S.tab o,o,Int.ofNat i)=_/\_;by_cases he:i=o.length
  ·have h1:ieqI (Int.ofNat i) (Int.ofNat o.length)=true:=by rw[qat,he];exact jaj rfl
   have h2:o[i]?=none:=jbl (by omega);simp only[qgd,h1,jaa,S.walk,h2];exact⟨trivial,ho⟩
  ·have hlt:i<o.length:=by omega
   have h1:ieqI (Int.ofNat i) (Int.ofNat o.length)=false:=by rw[qat];exact jai (fun e=>he (jeo e))
   have h2:o[i]?=some o[i]:=jab hlt;have h3:jget o (Int.ofNat i)=some o[i]:=by rw[qcz];exact h2
   obtain⟨k1,k2⟩:=ho.lt o[i] (jaz hlt);obtain⟨v,v1,v2,v3⟩:=qd1 (l:=(g:List qab × List DVal).1) k1 k2;have e1:Int.toNat (Int.ofNat i)=i:=rfl;have hr:=hg.ref v v3;have hv:=hg.vals v v3;have hn4:=hg.nodes;have hm:=qrp (S.refsL (v:ByteArray × List DVal).2) o (by
    have:=qva (v:ByteArray × List DVal).2;have hv:List.length (α:=Int × Int) (v:ByteArray × List DVal).2<=30:=hv;omega)
   have hw:IntKind.i64.wrap (Int.add (Int.ofNat i) (Int.ofNat 1))=Int.ofNat (i+1):=q43 (by unfold LF;omega);have hnext:=q03 hg L12 f n (i+1) (S.meetL o (S.refsL (v:ByteArray × List DVal).2)) (ho.meet hr) (by have:=q7n (S.refsL (v:ByteArray × List DVal).2) o;omega) (by omega) (by omega);simp only[qgd,h1,jae,h3,e1,h2,v1,hm,hw,S.walk];exact hnext
def S.nodeAt(nd:List qab)(k:Int):qab:=(jget nd k).getD ((ByteArray.empty,[]):ByteArray × List DVal)
def S.newNode(nd:List qab)(es:List (Int × Int))(k:Int):qab:=(((S.nodeAt nd k:ByteArray × List DVal).1,S.movedL es (S.nodeAt nd k:ByteArray × List DVal).2):ByteArray × List DVal)
def S.numOr(es:List (Int × Int))(k:Int):Int:=(S.numAt es k).getD (-1)
theorem zgj(g:qaa)(es:List (Int × Int))(o:List Int)(L18:((List (Int × Int)) × (List qab) × Int × (List Int))->Option Rtz9)(hl:o.length*40<=140737488355328)
  (ho:∀k∈o,0<=k/\k<Int.ofNat (List.length (α:=qab) (g:List qab × List DVal).1)) :
  rounds (fun K p=>qjr LF g K L18 p) LF (es,o,Int.ofNat 0,[])=L18 (es,o.map (S.newNode (g:List qab × List DVal).1 es),Int.ofNat 0,[]):=by
 refine(range0 (R:=Rtz9) (σ:=List qab) o (fun k s=>(es,o,k,s)) (fun k s=>s.length=k) (fun rest k s=>L18 (es,s++rest.map (S.newNode (g:List qab × List DVal).1 es),Int.ofNat 0,[])) (by unfold LF;omega) (fun K s hI=>?_) (fun K i v rest s hI r hk=>?_) [] rfl).trans ?_
 ·simp only[qjr,qbd,jae,List.map_nil,jbk]
 ·obtain⟨k1,k2⟩:=ho v r.mem;obtain⟨n,n1,n2,n3⟩:=qd1 (l:=(g:List qab × List DVal).1) k1 k2;have e1:Int.toNat (Int.ofNat i)=i:=rfl;have hlt:=r.lt;have hb:Nat.ble (Nat.mul (Nat.add s.length 1) 40) 140737488355328=true:=jb7 (by show (s.length+1)*40<=_;rw[hI];omega);simp only[qjr,r.ilt,jaa,r.get,e1,r.get?,n1,hb,r.next];have hnew:S.newNode (g:List qab × List DVal).1 es v=(((n:ByteArray × List DVal).1,S.movedL es (n:ByteArray × List DVal).2):ByteArray × List DVal):=by
   unfold S.newNode S.nodeAt;rw[n1];rfl
  have:=hk (s++[S.newNode (g:List qab × List DVal).1 es v]) (by rw[jaq,hI];rfl);rw[hnew] at this;refine jee this ?_;rw[jbw,hnew];congr 2;simp
 ·rfl
theorem zm8(g:qaa)(es:List (Int × Int))(acc:List qab)(hl:List.length (α:=qab) (g:List qab × List DVal).1<=400) :
  rounds (fun K p=>qlv LF g K p) LF (es,acc,Int.ofNat 0,[])=some (((acc,S.movedL es (g:List qab × List DVal).2):List qab × List DVal),(((List.range (List.length (α:=qab) (g:List qab × List DVal).1)).map fun k=>S.numOr es (Int.ofNat k)),())):=by
 have hlf:List.length (α:=qab) (g:List qab × List DVal).1<LF:=by unfold LF;omega
 refine(range0 (R:=Rtz9) (σ:=List Int) (α:=qab) (g:List qab × List DVal).1 (fun k s=>(es,acc,k,s)) (fun k s=>s=(List.range k).map fun j=>S.numOr es (Int.ofNat j))
  (fun _ _ _=>some (((acc,S.movedL es (g:List qab × List DVal).2):List qab × List DVal),(((List.range (List.length (α:=qab) (g:List qab × List DVal).1)).map fun k=>S.numOr es (Int.ofNat k)),()))) hlf (fun K s hI=>?_) (fun K i v rest s hI r hk=>?_) [] rfl)
 ·simp only[qlv,qbd,jae];rw[hI]
 ·have hlt:=r.lt;have hb:Nat.ble (Nat.mul (Nat.add s.length 1) 8) 140737488355328=true:=jb7 (by show (s.length+1)*8<=_;rw[hI];simp;omega);have hs:∀q,q=S.numOr es (Int.ofNat i)->s.append [q]=(List.range (i+1)).map fun j=>S.numOr es (Int.ofNat j):=fun q hq=>by
   rw[hI,List.range_succ,jec,hq];rfl
  have hn:S.numAt es (Int.ofNat i)=@qb6 (TC.int .i64) (TC.int .i64) (Int.ofNat i) es:=rfl;simp only[qlv,r.ilt,jaa,hb,r.next];cases hm:@qb6 (TC.int .i64) (TC.int .i64) (Int.ofNat i) es with
  | none =>
   simp only[ja7,jaa];exact hk _ (hs _ (by unfold S.numOr;rw[hn,hm];rfl))
  | some q =>
   simp only[jbf,jae];exact hk _ (hs _ (by unfold S.numOr;rw[hn,hm];rfl))
def S.ord(g:qaa):List Int:=S.walk (g:List qab × List DVal).1 (List.length (α:=qab) (g:List qab × List DVal).1+1) (S.meetL [] (S.refsL (g:List qab × List DVal).2)) 0
def S.canonG(g:qaa):qaa:=(((S.ord g).map (S.newNode (g:List qab × List DVal).1 (S.tab (S.ord g))),S.movedL (S.tab (S.ord g)) (g:List qab × List DVal).2):List qab × List DVal)
def S.numsG(g:qaa):List Int:=(List.range (List.length (α:=qab) (g:List qab × List DVal).1)).map fun k=>S.numOr (S.tab (S.ord g)) (Int.ofNat k)
theorem qlb{g:qaa}(hg:GF g):S.canonO g=some (S.canonG g,S.numsG g,())/\OrdOK (g:List qab × List DVal).1 (S.ord g):=by
 have h60:(S.refsL (g:List qab × List DVal).2).length<=60:=jbg (qva _) hg.roots;have hm:=qrp (S.refsL (g:List qab × List DVal).2) [] (by simp;omega);have ho0:OrdOK (g:List qab × List DVal).1 (S.meetL [] (S.refsL (g:List qab × List DVal).2)):=OrdOK.meet ⟨jdz,fun k hk=>by cases hk⟩ hg.rref;obtain⟨w1,w2⟩:=q03 hg (fun q=>qjd LF g LF q) (List.length (α:=qab) (g:List qab × List DVal).1+1) LF 0 _ ho0 (jbn _) (by omega) (by have:=hg.nodes;unfold LF;omega);refine⟨?_,w2⟩;have hol:=w2.len;have hn4:=hg.nodes;have hl40:(S.ord g).length*40<=140737488355328:=by
  have:(S.ord g).length<=List.length (α:=qab) (g:List qab × List DVal).1:=hol;omega
 have e2:=zgj g (S.tab (S.ord g)) (S.ord g) (fun q=>qkh LF g LF q) hl40 w2.lt;have e3:=zm8 g (S.tab (S.ord g)) ((S.ord g).map (S.newNode (g:List qab × List DVal).1 (S.tab (S.ord g)))) hg.nodes;have hm:S.meetN (S.refsL (g:List qab × List DVal).2) [] []=some (S.tab (S.meetL [] (S.refsL (g:List qab × List DVal).2)),S.meetL [] (S.refsL (g:List qab × List DVal).2)):=hm;simp only[S.canonO,Fz9,qur,hm];exact w1.trans (e2.trans e3)
def S.mvV(π:Int->Int)(v:Int × Int):Int × Int:=if v.1=4 then (v.1,π v.2) else v
theorem qrb(π:Int->Int):∀l:List (Int × Int),S.refsL (l.map (S.mvV π))=(S.refsL l).map π
 | []=>rfl
 | v::l=>by
  simp only[jbw,S.refsL,S.mvV];by_cases h:v.1=4
  ·simp only[jam h,jbw,qrb π l]
  ·simp only[jak h,qrb π l]
def InjB(π:Int->Int)(n:Nat):Prop:=∀a b:Int,0<=a->a<Int.ofNat n->0<=b->b<Int.ofNat n->π a=π b->a=b
def Bnd(n:Nat)(l:List Int):Prop:=∀k∈l,0<=k/\k<Int.ofNat n
theorem qqn{π:Int->Int}{n:Nat}(hi:InjB π n){o:List Int}(ho:Bnd n o){k:Int}(h1:0<=k)(h2:k<Int.ofNat n):π k∈o.map π↔k∈o:=by
 constructor
 ·intro h;obtain⟨a,ha,he⟩:=jcn.1 h;have:=hi a k (ho a ha).1 (ho a ha).2 h1 h2 he
  rwa [<- this]
 ·exact fun h=>List.mem_map_of_mem h
theorem qo3{π:Int->Int}{n:Nat}(hi:InjB π n):∀(l o:List Int),Bnd n o->Bnd n l->S.meetL (o.map π) (l.map π)=(S.meetL o l).map π
 | [],o,ho,hl=>rfl
 | k::l,o,ho,hl=>by
  obtain⟨k1,k2⟩:=hl k jbd;have hl2:Bnd n l:=fun a ha=>hl a (ja2 _ ha);simp only[jbw,S.meetL];by_cases hm:k∈o
  ·rw[jam hm,jam ((qqn hi ho k1 k2).2 hm)];exact qo3 hi l o ho hl2
  ·rw[jak hm,jak (fun h=>hm ((qqn hi ho k1 k2).1 h))];have:=qo3 hi l (o++[k]) (fun a ha=>by
    rcases jbe.1 ha with h|h
    ·exact ho a h
    ·rw[jb4.1 h];exact⟨k1,k2⟩) hl2
   rw[jec] at this;exact this
theorem q4o{π:Int->Int}{n:Nat}(hi:InjB π n):∀(o:List Int),Bnd n o->∀{k:Int},0<=k->k<Int.ofNat n->(o.map π).idxOf (π k)=o.idxOf k
 | [],ho,k,h1,h2=>rfl
 | a::o,ho,k,h1,h2=>by
  obtain⟨a1,a2⟩:=ho a jbd;rw[jbw,List.idxOf_cons,List.idxOf_cons,q4o hi o (fun b hb=>ho b (ja2 _ hb)) h1 h2];have:(π a==π k)=(a==k):=by
   by_cases e:a=k
   ·subst e;simp
   ·have:π a≠π k:=fun h=>e (hi a k a1 a2 h1 h2 h);rw[beq_false_of_ne e,beq_false_of_ne this]
  rw[this]
theorem zay{π:Int->Int}{n:Nat}(hi:InjB π n){o:List Int}(ho:Bnd n o){k:Int}(h1:0<=k)(h2:k<Int.ofNat n):S.numAt (S.tab (o.map π)) (π k)=S.numAt (S.tab o) k:=by
 rw[qof,qof,q4o hi o ho h1 h2];by_cases hm:k∈o
 ·rw[jam hm,jam ((qqn hi ho h1 h2).2 hm)]
 ·rw[jak hm,jak (fun h=>hm ((qqn hi ho h1 h2).1 h))]
theorem quw{π:Int->Int}{n:Nat}(hi:InjB π n){o:List Int}(ho:Bnd n o):∀(l:List (Int × Int)),Bnd n (S.refsL l)->S.movedL (S.tab (o.map π)) (l.map (S.mvV π))=S.movedL (S.tab o) l
 | [],_=>rfl
 | v::l,hl=>by
  show S.movedV (S.tab (o.map π)) (S.mvV π v)::S.movedL (S.tab (o.map π)) (l.map (S.mvV π))=S.movedV (S.tab o) v::S.movedL (S.tab o) l;have hl2:Bnd n (S.refsL l):=fun a ha=>hl a (by
   simp only[S.refsL];split
   ·exact ja2 _ ha
   ·exact ha)
  rw[quw hi ho l hl2];congr 1;by_cases h:v.1=4
  ·obtain⟨h1,h2⟩:=hl v.2 (by simp only[S.refsL,jam h];exact jbd);have e:S.mvV π v=(v.1,π v.2):=jam h;rw[e];unfold S.movedV;show (if v.1=4 then (v.1,(S.numAt (S.tab (o.map π)) (π v.2)).getD 0) else _)=_;rw[jam h,jam h,zay hi ho h1 h2]
  ·have e:S.mvV π v=v:=jak h;rw[e];unfold S.movedV;rw[jak h,jak h]

def S.piO(o:List Int)(k:Int):Int:=Int.ofNat (o.idxOf k)
theorem qqh{o:List Int}:∀(l:List (Int × Int)),(∀k∈S.refsL l,k∈o)->S.movedL (S.tab o) l=l.map (S.mvV (S.piO o))
 | [],_=>rfl
 | v::l,hl=>by
  have hl2:∀k∈S.refsL l,k∈o:=fun a ha=>hl a (by
   simp only[S.refsL];split
   ·exact ja2 _ ha
   ·exact ha)
  show S.movedV (S.tab o) v::S.movedL (S.tab o) l=S.mvV (S.piO o) v::l.map (S.mvV (S.piO o));rw[qqh l hl2];congr 1;unfold S.movedV S.mvV;by_cases h:v.1=4
  ·have hm:v.2∈o:=hl v.2 (by simp only[S.refsL,jam h];exact jbd);show (if v.1=4 then (v.1,(S.numAt (S.tab o) v.2).getD 0) else v)=_;rw[jam h,jam h,qof,jam hm];rfl
  ·show (if v.1=4 then (v.1,(S.numAt (S.tab o) v.2).getD 0) else v)=_;rw[jak h,jak h]
theorem qvp{many:Nat}(h:many<=400):∀(l:List (Int × Int)),(∀v∈l,S.value v (Int.ofNat many)=true)->∀k∈S.refsL l,0<=k/\k<Int.ofNat many
 | [],_,k,hk=>by cases hk
 | v::l,hv,k,hk=>by
  have ih:=qvp h l fun w hw=>hv w (ja2 _ hw);simp only[S.refsL] at hk;split at hk
  ·rename_i h4;rcases ja0.1 hk with h1|h1
   ·subst h1;rcases(qgp h v).1 (hv v jbd) with ⟨e,_⟩|⟨e,_⟩|⟨e,_⟩|⟨e,a,b⟩
    ·have e:v.1=1:=e;omega
    ·have e:v.1=2:=e;omega
    ·have e:v.1=3:=e;omega
    ·exact⟨a,b⟩
   ·exact ih k h1
  ·exact ih k hk
theorem qd8{g:qaa}(h:S.formed g=0):GF g:=by
 obtain⟨f1,f2,f3,f4,f5⟩:=qlg h;exact⟨f1,f2,f3,fun n hn=>qvp f1 _ (f4 n hn),qvp f1 _ fun v hv=>(f5 v hv).1⟩

theorem qf0{α:Type}{l:List α}{k:Int}{v:α}(h:jget l k=some v):0<=k/\∃hi:k.toNat<l.length,l[k.toNat]=v:=by
 unfold jget at h;split at h
 ·rename_i h0;obtain⟨hi,e⟩:=jav.1 h;exact⟨h0,hi,e⟩
 ·cases h
def qld:Nat->Option Nm:=fun k=>cond (Nat.beq k 4) (some ⟨[0,1,12,13],[],[],[],[],0,0,false⟩) (none)
def qmp:Nat->Bool:=fun k=>cond (Nat.beq k 4) true (false)
def q4u:=qmp
abbrev qcv:Type:=Bool × Unit
def qz8:List (Nat × Sm):=[]
def q14:List (Nat × Hx):=[]
def qua(R:Type)(lf:Nat):ClK R:=qau Try.prog ttT.get ftT.get (nm1 30 qld) (smL qz8) (hxL q14) lf 20 R
abbrev zth:Nat:=30
def qhd(x1:(List DVal))(x2:(List DVal))(p:Int):NRes:=(NRes.mk (.node (some (IV.lst cVal x1)) (.node (some (IV.lst cVal x2)) .leaf (.node none .leaf (.node (some (IV.int .i64 p)) .leaf .leaf))) (.node none (.node none .leaf (.node (some (IV.int .i64 (Int.ofNat x1.length))) .leaf .leaf)) .leaf)) (IS.mk .leaf 0) [] 0)
def qxb(lf:Nat)(x1:(List DVal))(x2:(List DVal))(L4:Int->Option qcv):Option qcv:=(cond (Bool.not (ieqI (Int.ofNat x1.length) (Int.ofNat x2.length))) (some (false,())) (L4 (Int.ofNat 0)))
def qpz(lf:Nat)(x1:(List DVal))(x2:(List DVal))(L4:Int->Option qcv)(p:Int):Option qcv:=(cond (iltI p (Int.ofNat x1.length)) (match (jget x1 p) with|none=>none|some v0=>(match (jget x2 p) with|none=>none|some v1=>(cond (Bool.not (Bool.and (keqI v0.1 v1.1) (Bool.and (keqI v0.2 v1.2) true))) (some (false,())) (L4 (IntKind.i64.wrap (Int.add p (Int.ofNat 1))))))) (some (true,())))
abbrev gz10:Type:=ElA [(.list cVal),(.list cVal)]->Option qcv
abbrev sz10(g:gz10):Sm:=⟨[(.list cVal),(.list cVal)],[(false,.bool)],g⟩
abbrev Ez10(g:gz10)(J:JT qcv)(lf:Nat)(x1:(List DVal))(x2:(List DVal)):=qbs Try.prog ttT.get qld fi30.nt (qua _ lf) lf qmp J fi30.body [] (qaq (argV [(.list cVal),(.list cVal)] (x1,x2,())) 0 .leaf) S0 [] (qas ttT.get fi30 (sz10 g))
abbrev Bz10(g:gz10)(J:JT qcv)(lf k:Nat)(ms:List Nat)(q:NRes):=qb0 Try.prog ttT.get qld fi30.nt (qua _ lf) lf qmp J k fi30.body [] ms q (qas ttT.get fi30 (sz10 g))
theorem zmb(g:gz10)(J:JT qcv)(lf:Nat)(x1:(List DVal))(x2:(List DVal)):Ez10 g J lf x1 x2=qxb lf x1 x2 (fun q=>J 4 [lf] (qhd x1 x2 q)):=by kernel_rfl
theorem zkl(g:gz10)(J:JT qcv)(lf:Nat)(x1:(List DVal))(x2:(List DVal))(m1:Nat)(p:Int):Bz10 g J lf 4 [m1] (qhd x1 x2 p)=qpz lf x1 x2 (fun q=>J 4 [m1] (qhd x1 x2 q)) p:=by kernel_rfl
theorem q7i:(regs fi30.body).Nodup:=by decide +kernel
theorem q87:okC qld qmp q4u fi30.body none=true:=by kernel_rfl
def Az10(g:gz10)(lf:Nat):JT qcv:=atN Try.prog ttT.get qld fi30 (sz10 g) (qua _ lf) lf q4u
def qp7(lf:Nat)(x1:(List DVal))(x2:(List DVal)):Nat->(Int)->Option qcv:=rounds fun K p=>qpz lf x1 x2 K p
theorem q8x(g:gz10)(lf:Nat)(x1:(List DVal))(x2:(List DVal)):∀(n:Nat) (p:Int),Az10 g lf 4 [n] (qhd x1 x2 p)=qp7 lf x1 x2 n p
 | 0,p=>qbf 4 [0] rfl _
 | n+1,p=>by
  have ih:=q8x g lf x1 x2 n;refine(qay (qam 20 _) q7i q87 4 [n+1] [n] rfl _).trans ((zkl g (Az10 g lf) lf x1 x2 n p).trans ?_);rw[(show (fun q=>Az10 g lf 4 [n] (qhd x1 x2 q))=(fun q=>qp7 lf x1 x2 n q) from funext ih)];rfl
def Fz10(lf:Nat)(x1:(List DVal))(x2:(List DVal)):Option qcv:=qxb lf x1 x2 (fun q=>qp7 lf x1 x2 lf q)
theorem zn6(g:gz10)(lf:Nat)(x1:(List DVal))(x2:(List DVal)):Ez10 g (Az10 g lf) lf x1 x2=Fz10 lf x1 x2:=by
  refine(zmb g (Az10 g lf) lf x1 x2).trans ?_;rw[(show (fun q=>Az10 g lf 4 [lf] (qhd x1 x2 q))=(fun q=>qp7 lf x1 x2 lf q) from funext fun q=>q8x g lf x1 x2 lf q)];rfl
theorem zp9:qa2 Try.prog q14:=trivial
theorem zik{g:gz10}(hsm:SmOK Try.prog qz8)(hg:∀(x:ElA [(.list cVal),(.list cVal)]) (y:qcv),WfA [(.list cVal),(.list cVal)] x->g x=some y->∃lf,Fz10 lf x.1 x.2.1=some y):Con Try.prog 30 ⟨[(.list cVal),(.list cVal)],[(false,.bool)],g⟩ :=
 conV (st:=qmp) (fun lf x=>Fz10 lf x.1 x.2.1) cm3 zhp zp9 q7i q87 (fun lf x=>zn6 g lf x.1 x.2.1) hsm hg
def S.eqVal(a b:DVal):Bool:=keqI (a:Int × Int).1 (b:Int × Int).1&&(keqI (a:Int × Int).2 (b:Int × Int).2&&true)
def S.eqVals:List DVal->List DVal->Bool
 | [],[]=>true
 | a::x,b::y=>S.eqVal a b&&S.eqVals x y
 | _,_=>false
theorem q0v:∀{a b:List DVal},S.eqVals a b=true->a.length=b.length
 | [],[],_=>rfl
 | [],_::_,h=>by cases h
 | _::_,[],h=>by cases h
 | a::x,b::y,h=>by
  simp only[S.eqVals,jaf] at h;simp[q0v h.2]
def qtn:Sm:=⟨[.list cVal,.list cVal],[(false,.bool)],fun x=>some (S.eqVals x.1 x.2.1,())⟩
theorem zfu(a b:List DVal)(ha:a.length<LF):Fz10 LF a b=some (S.eqVals a b,()):=by
 simp only[Fz10,qxb];by_cases hl:a.length=b.length
 ·have h1:ieqI (Int.ofNat a.length) (Int.ofNat b.length)=true:=by rw[qat];exact jaj (by rw[hl])
  simp only[h1,jbf,jae];refine(qcg (R:=qcv) a (fun rest i=>some (S.eqVals rest (b.drop i),())) ha (fun K=>?_) (fun K i v rest r hk=>?_)).trans ?_
  ·simp only[qpz,qbd,jae];rw[hl,jd3];rfl
  ·have hi:i<b.length:=by rw[<- hl];exact r.lt
   have hj:jget b (Int.ofNat i)=some b[i]:=by rw[qcz];exact jab hi
   have hd:b.drop i=b[i]::b.drop (i+1):=jbs hi;simp only[qpz,r.ilt,jaa,r.get,hj,r.next];rw[hd];show (cond (Bool.not (S.eqVal v b[i])) (some (false,())) (K (Int.ofNat (i+1))))=some (S.eqVal v b[i]&&S.eqVals rest (b.drop (i+1)),());cases S.eqVal v b[i] with
   | false=>rfl
   | true=>exact hk
  ·rw[jcu]
 ·have h1:ieqI (Int.ofNat a.length) (Int.ofNat b.length)=false:=by rw[qat];exact jai (fun e=>hl (jeo e))
  simp only[h1,ja7,jaa];have:S.eqVals a b=false:=by
   cases he:S.eqVals a b with
   | false=>rfl
   | true=>exact absurd (q0v he) hl
  rw[this]
theorem q1n:Con Try.prog zth qtn:=zik trivial fun x y hx h=>⟨LF,by
 obtain⟨a,b,_⟩:=x;exact(zfu a b (qbu hx.1)).trans h⟩
def qi6:Nat->Option Nm:=fun k=>cond (Nat.beq k 4) (some ⟨[1,2,15,16,17],[],[],[],[],0,0,false⟩) (cond (Nat.beq k 999999) (some ⟨[],[],[],[],[],0,0,false⟩) none)
def qmt:Nat->Bool:=fun k=>cond (Nat.beq k 4) true (false)
def qwo:=qmt
abbrev qcu:Type:=(Bool × Unit) × Unit
def qts:List (Nat × Sm):=[(30,qtn)]
def qxm:List (Nat × Hx):=[]
def qsn(R:Type)(lf:Nat):ClK R:=qau Try.prog ttT.get ftT.get (fun _ _=>none) (smL qts) (hxL qxm) lf 20 R
abbrev zpz:Nat:=110
def qiz(x1:(List qab))(x2:(List qab))(p:Int):NRes:=(NRes.mk (.node none (.node (some (IV.lst qah x2)) (.node none (.node none (.node (some (IV.lst qah x1)) .leaf .leaf) .leaf) .leaf) (.node none (.node none (.node (some (IV.int .i64 p)) .leaf .leaf) .leaf) .leaf)) (.node (some (IV.fn 111 [])) (.node none (.node none (.node (some (IV.int .i64 (Int.ofNat x1.length))) .leaf .leaf) .leaf) .leaf) .leaf)) (IS.mk .leaf 0) [] 0)
def qub(lf:Nat)(x1:(List qab))(x2:(List qab))(L4:Int->Option qcu):Option qcu:=(cond (Bool.not (ieqI (Int.ofNat x1.length) (Int.ofNat x2.length))) (some ((false,()),())) (L4 (Int.ofNat 0)))
def qq0(lf:Nat)(x1:(List qab))(x2:(List qab))(L4:Int->Option qcu)(p:Int):Option qcu:=(cond (iltI p (Int.ofNat x1.length)) (match (jget x1 p) with|none=>none|some v0=>(match (jget x2 p) with|none=>none|some v1=>(cond (keqS v0.1 v1.1) (cond (Bool.not (S.eqVals v0.2 v1.2)) (some ((false,()),())) (L4 (IntKind.i64.wrap (Int.add p (Int.ofNat 1))))) (some ((false,()),()))))) (some ((true,()),())))
abbrev gz11:Type:=ElP [.dat (.list qah),.dat (.list qah),.fn 111]->Option qcu
abbrev sz11(g:gz11):SmR:=⟨[.dat (.list qah),.dat (.list qah),.fn 111],[(false,.bool)],g⟩
abbrev Ez11(g:gz11)(J:JT qcu)(lf:Nat)(x1:(List qab))(x2:(List qab)):=qbm Try.prog ttT.get qi6 (mP [.dat (.list qah),.dat (.list qah),.fn 111]) qdr.nt (qsn _ lf) lf qmt J qdr.body [] (qaq (qag [.dat (.list qah),.dat (.list qah),.fn 111] idN 0 (x1,x2,())) 0 .leaf) (Sc [.dat (.list qah),.dat (.list qah),.fn 111] (x1,x2,())) [] (qce ttT.get qdr (sz11 g))
abbrev Bz11(g:gz11)(J:JT qcu)(lf k:Nat)(ms:List Nat)(q:NRes):=qba Try.prog ttT.get qi6 (mP [.dat (.list qah),.dat (.list qah),.fn 111]) qdr.nt (qsn _ lf) lf qmt J k qdr.body [] ms q (qce ttT.get qdr (sz11 g))
theorem zmx(g:gz11)(J:JT qcu)(lf:Nat)(x1:(List qab))(x2:(List qab)):Ez11 g J lf x1 x2=qub lf x1 x2 (fun q=>J 4 [lf] (qiz x1 x2 q)):=by kernel_rfl
theorem zga(g:gz11)(J:JT qcu)(lf:Nat)(x1:(List qab))(x2:(List qab))(m1:Nat)(p:Int):Bz11 g J lf 4 [m1] (qiz x1 x2 p)=qq0 lf x1 x2 (fun q=>J 4 [m1] (qiz x1 x2 q)) p:=by kernel_rfl
theorem q0y:(regs qdr.body).Nodup:=by decide +kernel
theorem zac:okC qi6 qmt qwo qdr.body none=true:=by kernel_rfl
def Az11(g:gz11)(lf:Nat):JT qcu:=atQ Try.prog ttT.get qi6 qdr (sz11 g) (qsn _ lf) lf qwo
def qro(lf:Nat)(x1:(List qab))(x2:(List qab)):Nat->(Int)->Option qcu:=rounds fun K p=>qq0 lf x1 x2 K p
theorem q59(g:gz11)(lf:Nat)(x1:(List qab))(x2:(List qab)):∀(n:Nat) (p:Int),Az11 g lf 4 [n] (qiz x1 x2 p)=qro lf x1 x2 n p
 | 0,p=>quf 4 [0] rfl _
 | n+1,p=>by
  have ih:=q59 g lf x1 x2 n;refine(qso rfl (qam 20 _) q0y zac 4 [n+1] [n] rfl _).trans ((zga g (Az11 g lf) lf x1 x2 n p).trans ?_);rw[(show (fun q=>Az11 g lf 4 [n] (qiz x1 x2 q))=(fun q=>qro lf x1 x2 n q) from funext ih)];rfl
def Fz11(lf:Nat)(x1:(List qab))(x2:(List qab)):Option qcu:=qub lf x1 x2 (fun q=>qro lf x1 x2 lf q)
theorem zob(g:gz11)(lf:Nat)(x1:(List qab))(x2:(List qab)):Ez11 g (Az11 g lf) lf x1 x2=Fz11 lf x1 x2:=by
  refine(zmx g (Az11 g lf) lf x1 x2).trans ?_;rw[(show (fun q=>Az11 g lf 4 [lf] (qiz x1 x2 q))=(fun q=>qro lf x1 x2 lf q) from funext fun q=>q59 g lf x1 x2 lf q)];rfl
theorem zpu:qa2 Try.prog qxm:=trivial
theorem zpd{g:gz11}(hsm:SmOK Try.prog qts)(hg:∀(x:ElP [.dat (.list qah),.dat (.list qah),.fn 111]) (y:qcu),WfP [.dat (.list qah),.dat (.list qah),.fn 111] x->g x=some y->∃lf,Fz11 lf x.1 x.2.1=some y):ConR Try.prog 110 ⟨[.dat (.list qah),.dat (.list qah),.fn 111],[(false,.bool)],g⟩ :=
 conTR (nmf:=qi6) (sml:=qts) (hxl:=qxm) (st:=qmt) (hd:=qwo) 20 qcq ttOK ftOK hsm zpu znc (by kernel_rfl) (fun x=>by kernel_rfl) q0y zac fun x y z hx hy=>by
  obtain⟨lf,h⟩:=hg x (y,z) hx hy;exact⟨lf,(zob g lf x.1 x.2.1).trans h⟩
def S.eqNode(a b:qab):Bool:=keqS (a:ByteArray × List DVal).1 (b:ByteArray × List DVal).1&&S.eqVals (a:ByteArray × List DVal).2 (b:ByteArray × List DVal).2
def S.eqNodes:List qab->List qab->Bool
 | [],[]=>true
 | a::x,b::y=>S.eqNode a b&&S.eqNodes x y
 | _,_=>false
theorem q4f:∀{a b:List qab},S.eqNodes a b=true->a.length=b.length
 | [],[],_=>rfl
 | [],_::_,h=>by cases h
 | _::_,[],h=>by cases h
 | a::x,b::y,h=>by
  simp only[S.eqNodes,jaf] at h;simp[q4f h.2]
def qnu:SmR:=⟨[.dat (.list qah),.dat (.list qah),.fn 111],[(false,.bool)],fun x=>some ((S.eqNodes x.1 x.2.1,()),())⟩
theorem zsy(a b:List qab)(ha:a.length<LF):Fz11 LF a b=some ((S.eqNodes a b,()),()):=by
 simp only[Fz11,qub];by_cases hl:a.length=b.length
 ·have h1:ieqI (Int.ofNat a.length) (Int.ofNat b.length)=true:=by rw[qat];exact jaj (by rw[hl])
  simp only[h1,jbf,jae];refine(qcg (R:=qcu) a (fun rest i=>some ((S.eqNodes rest (b.drop i),()),())) ha (fun K=>?_) (fun K i v rest r hk=>?_)).trans ?_
  ·simp only[qq0,qbd,jae];rw[hl,jd3];rfl
  ·have hi:i<b.length:=by rw[<- hl];exact r.lt
   have hj:jget b (Int.ofNat i)=some b[i]:=by rw[qcz];exact jab hi
   have hd:b.drop i=b[i]::b.drop (i+1):=jbs hi;simp only[qq0,r.ilt,jaa,r.get,hj,r.next];rw[hd];show _=some ((S.eqNode v b[i]&&S.eqNodes rest (b.drop (i+1)),()),());unfold S.eqNode;cases keqS (v:ByteArray × List DVal).1 (b[i]:ByteArray × List DVal).1 with
   | false=>rfl
   | true =>
    show (cond (Bool.not (S.eqVals (v:ByteArray × List DVal).2 (b[i]:ByteArray × List DVal).2)) (some ((false,()),())) (K (Int.ofNat (i+1))))=some (((true&&S.eqVals (v:ByteArray × List DVal).2 (b[i]:ByteArray × List DVal).2)&&S.eqNodes rest (b.drop (i+1)),()),());cases S.eqVals (v:ByteArray × List DVal).2 (b[i]:ByteArray × List DVal).2 with
    | false=>rfl
    | true=>exact hk
  ·rw[jcu]
 ·have h1:ieqI (Int.ofNat a.length) (Int.ofNat b.length)=false:=by rw[qat];exact jai (fun e=>hl (jeo e))
  simp only[h1,ja7,jaa];have:S.eqNodes a b=false:=by
   cases he:S.eqNodes a b with
   | false=>rfl
   | true=>exact absurd (q4f he) hl
  rw[this]
theorem zeu:ConR Try.prog zpz qnu:=zpd ⟨q1n,trivial⟩ fun x y hx h=>⟨LF,by
 obtain⟨a,b,_⟩:=x;exact(zsy a b (qbu hx.1)).trans h⟩
def zad:List (Nat × Hx):=[(110,hxR qnu)]
abbrev qkp:Type:=Bool × Unit
abbrev zf3:Nat:=72
def zhs(lf:Nat)(x1:qaa)(x2:qaa):Option qkp:=(cond (S.eqVals x1.2 x2.2) (some ((S.eqNodes x1.1 x2.1),())) (some (false,())))
def qyk(lf:Nat)(x1:qaa)(x2:qaa):Option qkp:=zhs lf x1 x2
theorem zsq(hrz11:ConR Try.prog 110 qnu):qa2 Try.prog zad:=⟨qnb hrz11,trivial⟩
theorem zrf{g:ElA [cGraph,cGraph]->Option qkp}(hsm:SmOK Try.prog [(30,qtn)])(hrz11:ConR Try.prog 110 qnu)(hg:∀(x:ElA [cGraph,cGraph]) (y:qkp),WfA [cGraph,cGraph] x->g x=some y->∃lf,qyk lf x.1 x.2.1=some y):Con Try.prog 72 ⟨[cGraph,cGraph],[(false,.bool)],g⟩ :=
 conU (fi:=fi72) (hxl:=zad) (fun lf x=>qyk lf x.1 x.2.1) cm3 zt5 (zsq hrz11) hsm hg
abbrev qm8:Type:=qaa × (List Int) × Int × Unit
abbrev zi7:Nat:=22
def qyv(lf:Nat)(x1:qaa):Option qm8:=(cond (Bool.not (ieqI (S.formed (x1.1,x1.2)) (Int.ofNat 0))) (some (([],[]),([],((S.formed (x1.1,x1.2)),())))) (match (S.canonO (x1.1,x1.2)) with|none=>none|some v0=>(some ((v0.1.1,v0.1.2),(v0.2.1,((Int.ofNat 0),()))))))
def qnz(lf:Nat)(x1:qaa):Option qm8:=qyv lf x1
theorem zlk{g:ElA [cGraph]->Option qm8}(hsm:SmOK Try.prog [(70,spz5),(62,spz9)])(hg:∀(x:ElA [cGraph]) (y:qm8),WfA [cGraph] x->g x=some y->∃lf,qnz lf x.1=some y):Con Try.prog 22 ⟨[cGraph],[(false,cGraph),(false,(.list (.int .i64))),(false,(.int .i64))],g⟩ :=
 conU (fi:=fi22) (hxl:=[]) (fun lf x=>qnz lf x.1) cm3 zkw trivial hsm hg
def S.eqGraph(a b:qaa):Bool:=S.eqVals (a:List qab × List DVal).2 (b:List qab × List DVal).2&&S.eqNodes (a:List qab × List DVal).1 (b:List qab × List DVal).1
def qwi:Sm:=⟨[cGraph,cGraph],[(false,.bool)],fun x=>some (S.eqGraph x.1 x.2.1,())⟩
theorem q7b:Con Try.prog zf3 qwi:=zrf ⟨q1n,trivial⟩ zeu fun x y hx h=>⟨0,by
 obtain⟨a,b,_⟩:=x;refine jee ?_ h;show (cond (S.eqVals (a:List qab × List DVal).2 (b:List qab × List DVal).2) (some ((S.eqNodes (a:List qab × List DVal).1 (b:List qab × List DVal).1),())) (some (false,())):Option qkp)=some (S.eqGraph a b,());unfold S.eqGraph;cases S.eqVals (a:List qab × List DVal).2 (b:List qab × List DVal).2<;>rfl⟩
abbrev qoh:Type:=Bool × Int × Unit
abbrev znl:Nat:=25
def q8m(lf:Nat)(x1:qaa)(x2:qaa):Option qoh:=(cond (Bool.not (ieqI (S.first (List.cons (S.formed (x1.1,x1.2)) [(S.formed (x2.1,x2.2))])) (Int.ofNat 0))) (some (false,((S.first (List.cons (S.formed (x1.1,x1.2)) [(S.formed (x2.1,x2.2))])),()))) (match (S.canonO (x1.1,x1.2)) with|none=>none|some v0=>(match (S.canonO (x2.1,x2.2)) with|none=>none|some v1=>(some ((S.eqGraph (v0.1.1,v0.1.2) (v1.1.1,v1.1.2)),((Int.ofNat 0),()))))))
def qnh(lf:Nat)(x1:qaa)(x2:qaa):Option qoh:=q8m lf x1 x2
theorem zq9{g:ElA [cGraph,cGraph]->Option qoh}(hsm:SmOK Try.prog [(70,spz5),(49,spz1),(62,spz9),(72,qwi)])(hg:∀(x:ElA [cGraph,cGraph]) (y:qoh),WfA [cGraph,cGraph] x->g x=some y->∃lf,qnh lf x.1 x.2.1=some y):Con Try.prog 25 ⟨[cGraph,cGraph],[(false,.bool),(false,(.int .i64))],g⟩ :=
 conU (fi:=fi25) (hxl:=[]) (fun lf x=>qnh lf x.1 x.2.1) cm3 zpo trivial hsm hg

theorem qwa:∀l:List DVal,S.eqVals l l=true
 | []=>rfl
 | v::l=>by
  simp only[S.eqVals,qwa l,jdp];unfold S.eqVal;rw[qp5,qp5];simp
theorem q44:∀l:List qab,S.eqNodes l l=true
 | []=>rfl
 | v::l=>by
  simp only[S.eqNodes,q44 l,jdp];unfold S.eqNode;rw[qwa,jdp];show decide (_=_)=true;exact jaj rfl
theorem q85(g:qaa):S.eqGraph g g=true:=by
 unfold S.eqGraph;rw[qwa,q44];rfl



structure Emb (π:Int->Int) (x y:List qab × List DVal):Prop where
 inj:InjB π x.1.length
 node:∀(k:Int) (v:ByteArray × List DVal),jget x.1 k=some v->jget y.1 (π k)=some ((v.1,List.map (α:=Int × Int) (β:=Int × Int) (S.mvV π) v.2):ByteArray × List DVal)
 roots:y.2=List.map (α:=Int × Int) (β:=Int × Int) (S.mvV π) x.2
theorem q8u{π:Int->Int}{x y:List qab × List DVal}(h:Emb π x y)(hg:GF x):∀(f:Nat) (o:List Int) (i:Nat),Bnd x.1.length o->S.walk y.1 f (o.map π) i=(S.walk x.1 f o i).map π/\Bnd x.1.length (S.walk x.1 f o i)
 | 0,o,i,ho=>⟨rfl,ho⟩
 | f+1,o,i,ho=>by
  simp only[S.walk,jcd];cases hk:o[i]? with
  | none=>exact⟨rfl,ho⟩
  | some k =>
   have hmem:=jbb hk;obtain⟨k1,k2⟩:=ho k hmem;obtain⟨v,v1,v2,v3⟩:=qd1 (l:=x.1) k1 k2;have hy:=h.node k v v1;simp only[jdh,v1,hy];have hb:Bnd x.1.length (S.refsL (v:ByteArray × List DVal).2):=hg.ref v v3;have e:S.refsL (List.map (α:=Int × Int) (β:=Int × Int) (S.mvV π) (v:ByteArray × List DVal).2)=(S.refsL (v:ByteArray × List DVal).2).map π:=qrb π _;rw[e,qo3 h.inj _ _ ho hb];exact q8u h hg f _ (i+1) fun a ha=>by
    rcases(qeq _ _ a).1 ha with h1|h1
    ·exact ho a h1
    ·exact hb a h1
theorem q6z{y:List qab × List DVal}(hg:GF y):∀(f f':Nat) (o:List Int) (i:Nat),OrdOK y.1 o->y.1.length-i<f->y.1.length-i<f'->S.walk y.1 f o i=S.walk y.1 f' o i
 | 0,_,_,_,_,h,_=>by omega
 | _,0,_,_,_,_,h=>by omega
 | f+1,f'+1,o,i,ho,h1,h2=>by
  simp only[S.walk];cases hk:o[i]? with
  | none=>rfl
  | some k =>
   have hi:i<o.length:=(jav.1 hk).1;have hlen:=ho.len;obtain⟨k1,k2⟩:=ho.lt k (jbb hk);obtain⟨v,v1,v2,v3⟩:=qd1 (l:=y.1) k1 k2;simp only[v1];exact q6z hg f f' _ (i+1) (ho.meet (hg.ref v v3)) (by omega) (by omega)
theorem zic{π:Int->Int}{x y:List qab × List DVal}(h:Emb π x y)(hg:GF x)(hy:GF y)(hl:x.1.length<=y.1.length):S.ord y=(S.ord x).map π/\Bnd x.1.length (S.ord x):=by
 have hb:Bnd x.1.length (S.refsL x.2):=hg.rref;have e:S.refsL y.2=(S.refsL x.2).map π:=by rw[h.roots];exact qrb π _
 have em:S.meetL [] (S.refsL y.2)=(S.meetL [] (S.refsL x.2)).map π:=by
  rw[e];exact qo3 h.inj (S.refsL x.2) [] (fun a ha=>by cases ha) hb
 have hb2:Bnd x.1.length (S.meetL [] (S.refsL x.2)):=fun a ha=>by
  rcases(qeq _ _ a).1 ha with h1|h1
  ·cases h1
  ·exact hb a h1
 have ho:OrdOK x.1 (S.meetL [] (S.refsL x.2)):=⟨qkd _ _ jdz,hb2⟩;have:=q8u h hg (y.1.length+1) (S.meetL [] (S.refsL x.2)) 0 hb2;have ef:S.ord x=S.walk x.1 (y.1.length+1) (S.meetL [] (S.refsL x.2)) 0:=q6z hg _ _ _ _ ho (Nat.lt_succ_of_le (Nat.sub_le _ _)) (Nat.lt_succ_of_le (jbg (Nat.sub_le _ _) hl));rw[ef];refine⟨?_,this.2⟩;show S.walk y.1 (y.1.length+1) (S.meetL [] (S.refsL y.2)) 0=_;rw[em];exact this.1
theorem zm1{π:Int->Int}{x y:List qab × List DVal}(h:Emb π x y)(hg:GF x)(hy:GF y)(hl:x.1.length<=y.1.length):S.canonG y=S.canonG x:=by
 obtain⟨e,hb⟩:=zic h hg hy hl;have hr:S.movedL (S.tab ((S.ord x).map π)) y.2=S.movedL (S.tab (S.ord x)) x.2:=by
  rw[h.roots];exact quw h.inj hb x.2 hg.rref
 have hn:∀k∈S.ord x,S.newNode y.1 (S.tab ((S.ord x).map π)) (π k)=S.newNode x.1 (S.tab (S.ord x)) k:=fun k hk=>by
  obtain⟨k1,k2⟩:=hb k hk;obtain⟨v,v1,v2,v3⟩:=qd1 (l:=x.1) k1 k2;have hy:=h.node k v v1;unfold S.newNode S.nodeAt;rw[v1,hy];have:=quw h.inj hb (v:ByteArray × List DVal).2 (hg.ref v v3);show (((v:ByteArray × List DVal).1,S.movedL (S.tab ((S.ord x).map π)) (List.map (α:=Int × Int) (β:=Int × Int) (S.mvV π) (v:ByteArray × List DVal).2)):ByteArray × List DVal)=_;rw[this];rfl
 show ((((S.ord y).map (S.newNode y.1 (S.tab (S.ord y))),S.movedL (S.tab (S.ord y)) y.2):List qab × List DVal))=((((S.ord x).map (S.newNode x.1 (S.tab (S.ord x))),S.movedL (S.tab (S.ord x)) x.2):List qab × List DVal));rw[e,hr,List.map_map];congr 1;exact jeq fun k hk=>hn k hk
def q0g(nd:List qab)(o:List Int):Prop:=∀a∈o,∀k∈S.refsL (S.nodeAt nd a:ByteArray × List DVal).2,k∈o
theorem q72{y:List qab × List DVal}(hg:GF y):∀(f:Nat) (o:List Int) (i:Nat),OrdOK y.1 o->i<=o.length->y.1.length-i<f->(∀j (h:j<o.length),j<i->∀k∈S.refsL (S.nodeAt y.1 o[j]:ByteArray × List DVal).2,k∈o) ->
  OrdOK y.1 (S.walk y.1 f o i)/\q0g y.1 (S.walk y.1 f o i)/\∀k∈o,k∈S.walk y.1 f o i
 | 0,_,_,_,_,h,_=>by omega
 | f+1,o,i,ho,hi,h1,hc=>by
  simp only[S.walk];cases hk:o[i]? with
  | none =>
   have hie:o.length<=i:=List.getElem?_eq_none_iff.1 hk;refine⟨ho,fun a ha k hk2=>?_,fun k hk=>hk⟩;obtain⟨j,hj,rfl⟩:=jbq.1 ha;exact hc j hj (ja8 hj hie) k hk2
  | some k =>
   obtain⟨hi,hik⟩:=jav.1 hk;have hlen:=ho.len;obtain⟨k1,k2⟩:=ho.lt k (jbb hk);obtain⟨v,v1,v2,v3⟩:=qd1 (l:=y.1) k1 k2;simp only[v1];have hnv:S.nodeAt y.1 k=v:=by unfold S.nodeAt;rw[v1];rfl
   obtain⟨t,ht⟩:=qqw (S.refsL (v:ByteArray × List DVal).2) o;have hl2:=q7n (S.refsL (v:ByteArray × List DVal).2) o;obtain⟨r1,r2,r3⟩:=q72 hg f (S.meetL o (S.refsL (v:ByteArray × List DVal).2)) (i+1) (ho.meet (hg.ref v v3)) (by omega) (by omega) fun j hj hji k' hk'=>by
    have hjo:j<o.length:=by omega
    have e:(S.meetL o (S.refsL (v:ByteArray × List DVal).2))[j]=o[j]:=by
     simp only[ht];exact jb3 hjo
    rw[e] at hk';refine(qeq _ _ _).2 ?_;by_cases hje:j<i
    ·exact .inl (hc j hjo hje k' hk')
    ·have:j=i:=by omega
     subst this;rw[hik,hnv] at hk';exact .inr hk'
   exact⟨r1,r2,fun a ha=>r3 a ((qeq _ _ _).2 (.inl ha))⟩
theorem qms{y:List qab × List DVal}(hg:GF y):OrdOK y.1 (S.ord y)/\q0g y.1 (S.ord y)/\∀k∈S.refsL y.2,k∈S.ord y:=by
 have ho:OrdOK y.1 (S.meetL [] (S.refsL y.2)):=⟨qkd _ _ jdz,fun a ha=>by
  rcases(qeq _ _ a).1 ha with h1|h1
  ·cases h1
  ·exact hg.rref a h1⟩
 obtain⟨r1,r2,r3⟩:=q72 hg (y.1.length+1) (S.meetL [] (S.refsL y.2)) 0 ho (jbn _) (by omega) (fun j h h'=>by omega);exact⟨r1,r2,fun k hk=>r3 k ((qeq _ _ _).2 (.inr hk))⟩
def S.atO(o:List Int)(k:Int):Int:=(o[k.toNat]?).getD 0
theorem zky{o:List Int}{k:Int}(h:k∈o):S.atO o (S.piO o k)=k:=by
 have h1:=List.idxOf_lt_length_of_mem h;show (o[(Int.ofNat (o.idxOf k)).toNat]?).getD 0=k;rw[show (Int.ofNat (o.idxOf k)).toNat=o.idxOf k from rfl,jab h1,List.getElem_idxOf h1];rfl
theorem qy3{o:List Int}:∀l:List (Int × Int),(∀k∈S.refsL l,k∈o)->List.map (S.mvV (S.atO o)) (S.movedL (S.tab o) l)=l:=fun l hl=>by
 rw[qqh l hl];induction l with
 | nil=>rfl
 | cons v l ih =>
  have hl2:∀k∈S.refsL l,k∈o:=fun k hk=>hl k (by
   simp only[S.refsL];split
   ·exact ja2 _ hk
   ·exact hk)
  simp only[jbw];rw[ih hl2];congr 1;unfold S.mvV;by_cases h4:v.1=4
  ·rw[jam h4,jam h4];have:v.2∈o:=hl v.2 (by
    simp only[S.refsL];rw[jam h4];exact jbd)
   rw[zky this]
  ·rw[jak h4,jak h4]
theorem zbs{x:List qab × List DVal}{k:Int}{v:ByteArray × List DVal}(h:jget (S.canonG x:List qab × List DVal).1 k=some v):0<=k/\∃hk:k.toNat<(S.ord x).length,v=S.newNode x.1 (S.tab (S.ord x)) (S.ord x)[k.toNat]:=by
 obtain⟨h0,hi,e⟩:=qf0 h;have hl:((S.ord x).map (S.newNode x.1 (S.tab (S.ord x)))).length=(S.ord x).length:=jbx _;refine⟨h0,by rw[<- hl];exact hi,?_⟩;rw[<- e];exact jb0 _
theorem qz6{x:List qab × List DVal}(hg:GF x):Emb (S.atO (S.ord x)) (S.canonG x) x:=by
 obtain⟨ho,hc,hr⟩:=qms hg;have hl:(S.canonG x:List qab × List DVal).1.length=(S.ord x).length:=by
  show ((S.ord x).map _).length=_;rw[jbx]
 have hat:∀{k:Int} (hk:k.toNat<(S.ord x).length),S.atO (S.ord x) k=(S.ord x)[k.toNat]:=fun {k} hk=>by
  unfold S.atO;rw[jab hk];rfl
 refine⟨fun a b a1 a2 b1 b2 e=>?_,fun k v hv=>?_,?_⟩
 ·rw[hl] at a2 b2;have a3:(a.toNat:Int)=a:=jd7 a1;have b3:(b.toNat:Int)=b:=jd7 b1;have a2:a<((S.ord x).length:Int):=a2;have b2:b<((S.ord x).length:Int):=b2;have a4:a.toNat<(S.ord x).length:=by omega
  have b4:b.toNat<(S.ord x).length:=by omega
  rw[hat a4,hat b4] at e;have:=(je8 ho.nodup).1 e;omega
 ·obtain⟨h0,hk,rfl⟩:=zbs hv;rw[hat hk];have hm:(S.ord x)[k.toNat]∈S.ord x:=jaz hk;obtain⟨k1,k2⟩:=ho.lt _ hm;obtain⟨w,w1,w2,w3⟩:=qd1 (l:=x.1) k1 k2;have hcl:=hc _ hm;rw[w1];have hnw:S.nodeAt x.1 (S.ord x)[k.toNat]=w:=by unfold S.nodeAt;rw[w1];rfl
  unfold S.newNode;rw[hnw] at hcl ⊢;have:=qy3 (o:=S.ord x) (w:ByteArray × List DVal).2 hcl;show some w=some ((w.1,List.map (S.mvV (S.atO (S.ord x))) (S.movedL (S.tab (S.ord x)) w.2)):ByteArray × List DVal);rw[this]
 ·exact(qy3 (o:=S.ord x) x.2 hr).symm
theorem q09(π:Int->Int)(v:Int × Int):(S.mvV π v).1=v.1:=by
 unfold S.mvV;split<;>rfl
theorem q4w{n m:Nat}(h:n<=400)(h':m<=400){π:Int->Int}(v:Int × Int)(hb:v.1=4->0<=π v.2/\π v.2<Int.ofNat m)(hv:S.value v (Int.ofNat n)=true):S.value (S.mvV π v) (Int.ofNat m)=true:=by
 unfold S.mvV;by_cases h4:v.1=4
 ·rw[jam h4];exact(qgp h' _).2 (.inr (.inr (.inr ⟨h4,hb h4⟩)))
 ·rw[jak h4];rcases(qgp h v).1 hv with e|e|e|⟨e,_⟩
  ·exact(qgp h' _).2 (.inl e)
  ·exact(qgp h' _).2 (.inr (.inl e))
  ·exact(qgp h' _).2 (.inr (.inr (.inl e)))
  ·exact absurd e h4
theorem qvc{l:List (Int × Int)}{v:Int × Int}(hv:v∈l)(h4:v.1=4):v.2∈S.refsL l:=by
 induction l with
 | nil=>cases hv
 | cons w l ih =>
  simp only[S.refsL];rcases ja0.1 hv with rfl|hv
  ·rw[jam h4];exact jbd
  ·split
   ·exact ja2 _ (ih hv)
   ·exact ih hv
theorem q4m{x:List qab × List DVal}(hg:GF x){m:ByteArray × List DVal}(hm:m∈(S.canonG x:List qab × List DVal).1):∃a∈S.ord x,∃w:ByteArray × List DVal,jget x.1 a=some w/\w∈x.1/\(∀k∈S.refsL w.2,k∈S.ord x)/\m=(w.1,w.2.map (S.mvV (S.piO (S.ord x)))):=by
 obtain⟨ho,hc,hr⟩:=qms hg;obtain⟨a,ha,rfl⟩:=jcn.1 (show m∈(S.ord x).map (S.newNode x.1 (S.tab (S.ord x))) from hm);obtain⟨k1,k2⟩:=ho.lt a ha;obtain⟨w,w1,w2,w3⟩:=qd1 (l:=x.1) k1 k2;have hnw:S.nodeAt x.1 a=w:=by unfold S.nodeAt;rw[w1];rfl
 have hcl:=hc a ha;rw[hnw] at hcl;refine⟨a,ha,w,w1,w3,hcl,?_⟩;unfold S.newNode;rw[hnw,qqh _ hcl]
theorem qx5{x:List qab × List DVal}(hg:GF x):(S.canonG x:List qab × List DVal).2=x.2.map (S.mvV (S.piO (S.ord x))):=qqh _ (qms hg).2.2
theorem qpt{x:List qab × List DVal}:(S.canonG x:List qab × List DVal).1.length=(S.ord x).length:=by
 show ((S.ord x).map _).length=_;rw[jbx]
theorem q7d{o:List Int}{k:Int}(h:k∈o):0<=S.piO o k/\S.piO o k<Int.ofNat o.length:=by
 have h3:=List.idxOf_lt_length_of_mem h;refine⟨jce _,?_⟩;show (o.idxOf k:Int)<(o.length:Int);omega
theorem qsq{x:List qab × List DVal}(hx:S.formed x=0):S.formed (S.canonG x)=0:=by
 obtain⟨f1,f2,f3,f4,f5⟩:=qlg hx;have hg:=qd8 hx;obtain⟨ho,hc,hr⟩:=qms hg;have hlen:=ho.len;have h400:(S.ord x).length<=400:=jbg hlen f1;refine q5h (by rw[qpt];exact h400) (by rw[qx5 hg,jbx];exact f2) (fun m hm=>?_) (fun m hm v hv=>?_) (fun v hv=>?_)
 ·obtain⟨a,ha,w,w1,w2,w3,rfl⟩:=q4m hg hm;have:=f3 w w2;show (List.map _ _).length<=30;rw[jbx];exact this
 ·obtain⟨a,ha,w,w1,w2,w3,rfl⟩:=q4m hg hm;obtain⟨u,hu,rfl⟩:=jcn.1 (show v∈List.map (S.mvV (S.piO (S.ord x))) w.2 from hv);rw[qpt];exact q4w f1 h400 u (fun h4=>q7d (w3 _ (qvc hu h4))) (f4 w w2 u hu)
 ·rw[qx5 hg] at hv;obtain⟨u,hu,rfl⟩:=jcn.1 hv;obtain⟨g1,g2⟩:=f5 u hu;refine⟨by rw[qpt];exact q4w f1 h400 u (fun h4=>q7d (hr _ (qvc hu h4))) g1,?_⟩;have hk:=q09 (S.piO (S.ord x)) u;unfold S.refers at g2 ⊢;rw[hk];exact g2
theorem zcb{x:List qab × List DVal}(hx:S.formed x=0):S.canonG (S.canonG x)=S.canonG x:=by
 have hg:=qd8 hx;have hc:=qd8 (qsq hx);have hl:(S.canonG x:List qab × List DVal).1.length<=x.1.length:=by rw[qpt];exact(qms hg).1.len
 exact(zm1 (qz6 hg) hc hg hl).symm
end Go.Proofs.Ytcnhjofpmpipfaa
end

section
namespace Go.Jx
open Go Go.Sx Go.RowKit
universe u

def mvV(S:IS)(v:IV):IV × IS:=match v with
 | .arr id=>match S.heap.get id with
  | some (.arr c l)=>(.arr S.next,(S.set id .dead).new (.arr c l))
  | _=>(.arr id,S)
 | v=>(v,S)
section
variable {P : Program} {tt : Nat -> Option TI} {ft : Nat -> Option FI}
end
end Go.Jx
end

noncomputable section
set_option maxRecDepth 100000
namespace Go.Proofs.Ytcnhjofpmpipfaa
open Go Go.Sx Go.RowKit Go.Jx
namespace S
def numU:Nat->Int->List Int
 | 0,u=>[u]
 | f+1,u=>if u<128 then [u] else (128+u % 128)::numU f (u / 128)
def num(n:Int):List Int:=numU 10 (if n<0 then -2*n-1 else 2*n)
def numOK(n:Int):Bool:=decide (-2000000000000<=n)&&decide (n<=2000000000000)
def sumStep(s v:Int):Int:=Int.tmod (IntKind.i64.wrap (Int.add (IntKind.i64.wrap (Int.mul (Int.ofNat 31) s)) (IntKind.i64.wrap v))) (Int.ofNat 2147483647)
def sumI(b:List Int):Int:=b.foldl sumStep 1
def sum4I(s:Int):List Int:=[IntKind.u8.wrap (Int.fdiv s (Int.ofNat 16777216)),IntKind.u8.wrap (Int.fdiv s (Int.ofNat 65536)),IntKind.u8.wrap (Int.fdiv s (Int.ofNat 256)),IntKind.u8.wrap s]
def sum4(b:List Int):List Int:=sum4I (sumI b)
def code(v:Int × Int):Int:=if v.1=3 then 0 else if v.1=4 then IntKind.i64.wrap (v.2+1) else v.2
def codes(l:List (Int × Int)):List Int:=l.flatMap fun v=>num (code v)
def encN(l:List qac)(n:ByteArray × List (Int × Int)):List Int:=num (S.form l n.1)++codes n.2
def enc(l:List qac)(g:List qab × List DVal):List Int:=num (Int.ofNat g.1.length)++(g.1.flatMap (encN l)++(num (Int.ofNat g.2.length)++codes g.2))
def encB(l:List qac)(g:qaa):List Int × Int :=
 if S.checkG l g=0 then (if 60000<(enc l (S.canonG g)).length+4 then ([],3) else (enc l (S.canonG g)++sum4 (enc l (S.canonG g)),0)) else ([],S.checkG l g)
end S
def qyl:Sm:=⟨[.int .i64],[(false,.list (.int .u8))],fun x=>cond (S.numOK x.1) (some (S.num x.1,())) none⟩
def qor:SmR:=⟨[.ref (.sl (.int .u8))],[(true,.int .u8)],fun x=>match x.1 with
 | some b=>some ((S.sum4 b,()),(some b,()))
 | none=>none⟩
def q3b:Sm:=⟨[cVal],[(false,.int .i64)],fun x=>some (S.code x.1,())⟩
def q2l:Sm:=⟨[.list (.int .u8)],[(false,.int .i64)],fun x=>some (S.sumI x.1,())⟩
def q6q:Sm:=⟨[.list (.int .u8)],[(false,.list (.int .u8))],fun x=>cond (Nat.ble (List.length (α:=Int) x.1+100) 140737488355328) (some (List.append (α:=Int) x.1 (S.sum4 x.1),())) none⟩
def q24:Sm:=⟨[.list cForm,cGraph],[(false,.list (.int .u8)),(false,.int .i64)],fun x=>some ((S.encB x.1 x.2.1).1,(S.encB x.1 x.2.1).2,())⟩
def qmz:Nat->Option Nm:=fun k=>cond (Nat.beq k 3) (some ⟨[3,6,7,8],[],[],[],[],0,0,false⟩) (none)
def qi9:Nat->Bool:=fun k=>cond (Nat.beq k 3) true (false)
def q76:=qi9
abbrev qcj:Type:=(List Int) × Unit
def q1m:List (Nat × Sm):=[]
def zaa:List (Nat × Hx):=[]
def qtt(R:Type)(lf:Nat):ClK R:=qau Try.prog ttT.get ftT.get (nm1 66 qmz) (smL q1m) (hxL zaa) lf 20 R
abbrev zea:Nat:=66
def qg8(x1:(List Int))(p:Int × Int):NRes:=(NRes.mk (.node none (.node none (.node (some (IV.int .i64 p.1)) (.node (some (IV.int .i64 (Int.ofNat x1.length))) .leaf .leaf) .leaf) .leaf) (.node none (.node none (.node (some (IV.int .i64 p.2)) .leaf .leaf) .leaf) (.node (some (IV.lst (TC.int .u8) x1)) .leaf .leaf))) (IS.mk .leaf 0) [] 0)
def qxv(lf:Nat)(x1:(List Int))(L3:(Int × Int)->Option qcj):Option qcj:=(L3 ((Int.ofNat 1),(Int.ofNat 0)))
def qp9(lf:Nat)(x1:(List Int))(L3:(Int × Int)->Option qcj)(p:Int × Int):Option qcj:=(cond (iltI p.2 (Int.ofNat x1.length)) (match (jget x1 p.2) with|none=>none|some v0=>(L3 ((Int.tmod (IntKind.i64.wrap (Int.add (IntKind.i64.wrap (Int.mul (Int.ofNat 31) p.1)) (IntKind.i64.wrap v0))) (Int.ofNat 2147483647)),(IntKind.i64.wrap (Int.add p.2 (Int.ofNat 1)))))) (some ((List.cons (IntKind.u8.wrap (Int.fdiv p.1 (Int.ofNat 16777216))) (List.cons (IntKind.u8.wrap (Int.fdiv p.1 (Int.ofNat 65536))) (List.cons (IntKind.u8.wrap (Int.fdiv p.1 (Int.ofNat 256))) [(IntKind.u8.wrap p.1)]))),())))
abbrev gz12:Type:=ElA [(.list (.int .u8))]->Option qcj
abbrev sz12(g:gz12):Sm:=⟨[(.list (.int .u8))],[(false,(.list (.int .u8)))],g⟩
abbrev Ez12(g:gz12)(J:JT qcj)(lf:Nat)(x1:(List Int)):=qbs Try.prog ttT.get qmz fi66.nt (qtt _ lf) lf qi9 J fi66.body [] (qaq (argV [(.list (.int .u8))] (x1,())) 0 .leaf) S0 [] (qas ttT.get fi66 (sz12 g))
abbrev Bz12(g:gz12)(J:JT qcj)(lf k:Nat)(ms:List Nat)(q:NRes):=qb0 Try.prog ttT.get qmz fi66.nt (qtt _ lf) lf qi9 J k fi66.body [] ms q (qas ttT.get fi66 (sz12 g))
theorem zi0(g:gz12)(J:JT qcj)(lf:Nat)(x1:(List Int)):Ez12 g J lf x1=qxv lf x1 (fun q=>J 3 [lf] (qg8 x1 q)):=by kernel_rfl
theorem zc7(g:gz12)(J:JT qcj)(lf:Nat)(x1:(List Int))(m1:Nat)(p:Int × Int):Bz12 g J lf 3 [m1] (qg8 x1 p)=qp9 lf x1 (fun q=>J 3 [m1] (qg8 x1 q)) p:=by kernel_rfl
theorem q2c:(regs fi66.body).Nodup:=by decide +kernel
theorem q1j:okC qmz qi9 q76 fi66.body none=true:=by kernel_rfl
def Az12(g:gz12)(lf:Nat):JT qcj:=atN Try.prog ttT.get qmz fi66 (sz12 g) (qtt _ lf) lf q76
def qkf(lf:Nat)(x1:(List Int)):Nat->(Int × Int)->Option qcj:=rounds fun K p=>qp9 lf x1 K p
theorem q9q(g:gz12)(lf:Nat)(x1:(List Int)):∀(n:Nat) (p:Int × Int),Az12 g lf 3 [n] (qg8 x1 p)=qkf lf x1 n p
 | 0,p=>qbf 3 [0] rfl _
 | n+1,p=>by
  have ih:=q9q g lf x1 n;refine(qay (qam 20 _) q2c q1j 3 [n+1] [n] rfl _).trans ((zc7 g (Az12 g lf) lf x1 n p).trans ?_);rw[(show (fun q=>Az12 g lf 3 [n] (qg8 x1 q))=(fun q=>qkf lf x1 n q) from funext ih)];rfl
def Fz12(lf:Nat)(x1:(List Int)):Option qcj:=qxv lf x1 (fun q=>qkf lf x1 lf q)
theorem zh8(g:gz12)(lf:Nat)(x1:(List Int)):Ez12 g (Az12 g lf) lf x1=Fz12 lf x1:=by
  refine(zi0 g (Az12 g lf) lf x1).trans ?_;rw[(show (fun q=>Az12 g lf 3 [lf] (qg8 x1 q))=(fun q=>qkf lf x1 lf q) from funext fun q=>q9q g lf x1 lf q)];rfl
theorem zn5:qa2 Try.prog zaa:=trivial
theorem zlr{g:gz12}(hsm:SmOK Try.prog q1m)(hg:∀(x:ElA [(.list (.int .u8))]) (y:qcj),WfA [(.list (.int .u8))] x->g x=some y->∃lf,Fz12 lf x.1=some y):Con Try.prog 66 ⟨[(.list (.int .u8))],[(false,(.list (.int .u8)))],g⟩ :=
 conV (st:=qi9) (fun lf x=>Fz12 lf x.1) cm3 q9u zn5 q2c q1j (fun lf x=>zh8 g lf x.1) hsm hg
def qlx:Nat->Option Nm:=fun k=>cond (Nat.beq k 4) (some ⟨[0,1,12,13],[],[],[],[],0,0,false⟩) (none)
def qmx:Nat->Bool:=fun k=>cond (Nat.beq k 4) true (false)
def qzc:=qmx
abbrev qco:Type:=Bool × Unit
def q5g:List (Nat × Sm):=[]
def q9e:List (Nat × Hx):=[]
def quk(R:Type)(lf:Nat):ClK R:=qau Try.prog ttT.get ftT.get (nm1 42 qlx) (smL q5g) (hxL q9e) lf 20 R
abbrev zko:Nat:=42
def qih(x1:(List Int))(x2:(List Int))(p:Int):NRes:=(NRes.mk (.node (some (IV.lst (TC.int .u8) x1)) (.node (some (IV.lst (TC.int .u8) x2)) .leaf (.node none .leaf (.node (some (IV.int .i64 p)) .leaf .leaf))) (.node none (.node none .leaf (.node (some (IV.int .i64 (Int.ofNat x1.length))) .leaf .leaf)) .leaf)) (IS.mk .leaf 0) [] 0)
def qte(lf:Nat)(x1:(List Int))(x2:(List Int))(L4:Int->Option qco):Option qco:=(cond (Bool.not (ieqI (Int.ofNat x1.length) (Int.ofNat x2.length))) (some (false,())) (L4 (Int.ofNat 0)))
def qp3(lf:Nat)(x1:(List Int))(x2:(List Int))(L4:Int->Option qco)(p:Int):Option qco:=(cond (iltI p (Int.ofNat x1.length)) (match (jget x1 p) with|none=>none|some v0=>(match (jget x2 p) with|none=>none|some v1=>(cond (Bool.not (ieqI v0 v1)) (some (false,())) (L4 (IntKind.i64.wrap (Int.add p (Int.ofNat 1))))))) (some (true,())))
abbrev gz13:Type:=ElA [(.list (.int .u8)),(.list (.int .u8))]->Option qco
abbrev sz13(g:gz13):Sm:=⟨[(.list (.int .u8)),(.list (.int .u8))],[(false,.bool)],g⟩
abbrev Ez13(g:gz13)(J:JT qco)(lf:Nat)(x1:(List Int))(x2:(List Int)):=qbs Try.prog ttT.get qlx fi42.nt (quk _ lf) lf qmx J fi42.body [] (qaq (argV [(.list (.int .u8)),(.list (.int .u8))] (x1,x2,())) 0 .leaf) S0 [] (qas ttT.get fi42 (sz13 g))
abbrev Bz13(g:gz13)(J:JT qco)(lf k:Nat)(ms:List Nat)(q:NRes):=qb0 Try.prog ttT.get qlx fi42.nt (quk _ lf) lf qmx J k fi42.body [] ms q (qas ttT.get fi42 (sz13 g))
theorem zia(g:gz13)(J:JT qco)(lf:Nat)(x1:(List Int))(x2:(List Int)):Ez13 g J lf x1 x2=qte lf x1 x2 (fun q=>J 4 [lf] (qih x1 x2 q)):=by kernel_rfl
theorem zj8(g:gz13)(J:JT qco)(lf:Nat)(x1:(List Int))(x2:(List Int))(m1:Nat)(p:Int):Bz13 g J lf 4 [m1] (qih x1 x2 p)=qp3 lf x1 x2 (fun q=>J 4 [m1] (qih x1 x2 q)) p:=by kernel_rfl
theorem q75:(regs fi42.body).Nodup:=by decide +kernel
theorem q9z:okC qlx qmx qzc fi42.body none=true:=by kernel_rfl
def Az13(g:gz13)(lf:Nat):JT qco:=atN Try.prog ttT.get qlx fi42 (sz13 g) (quk _ lf) lf qzc
def qqo(lf:Nat)(x1:(List Int))(x2:(List Int)):Nat->(Int)->Option qco:=rounds fun K p=>qp3 lf x1 x2 K p
theorem q9i(g:gz13)(lf:Nat)(x1:(List Int))(x2:(List Int)):∀(n:Nat) (p:Int),Az13 g lf 4 [n] (qih x1 x2 p)=qqo lf x1 x2 n p
 | 0,p=>qbf 4 [0] rfl _
 | n+1,p=>by
  have ih:=q9i g lf x1 x2 n;refine(qay (qam 20 _) q75 q9z 4 [n+1] [n] rfl _).trans ((zj8 g (Az13 g lf) lf x1 x2 n p).trans ?_);rw[(show (fun q=>Az13 g lf 4 [n] (qih x1 x2 q))=(fun q=>qqo lf x1 x2 n q) from funext ih)];rfl
def Fz13(lf:Nat)(x1:(List Int))(x2:(List Int)):Option qco:=qte lf x1 x2 (fun q=>qqo lf x1 x2 lf q)
theorem zit(g:gz13)(lf:Nat)(x1:(List Int))(x2:(List Int)):Ez13 g (Az13 g lf) lf x1 x2=Fz13 lf x1 x2:=by
  refine(zia g (Az13 g lf) lf x1 x2).trans ?_;rw[(show (fun q=>Az13 g lf 4 [lf] (qih x1 x2 q))=(fun q=>qqo lf x1 x2 lf q) from funext fun q=>q9i g lf x1 x2 lf q)];rfl
theorem zpy:qa2 Try.prog q9e:=trivial
theorem za2{g:gz13}(hsm:SmOK Try.prog q5g)(hg:∀(x:ElA [(.list (.int .u8)),(.list (.int .u8))]) (y:qco),WfA [(.list (.int .u8)),(.list (.int .u8))] x->g x=some y->∃lf,Fz13 lf x.1 x.2.1=some y):Con Try.prog 42 ⟨[(.list (.int .u8)),(.list (.int .u8))],[(false,.bool)],g⟩ :=
 conV (st:=qmx) (fun lf x=>Fz13 lf x.1 x.2.1) cm3 zo7 zpy q75 q9z (fun lf x=>zit g lf x.1 x.2.1) hsm hg
def qju:Nat->Option Nm:=fun k=>cond (Nat.beq k 3) (some ⟨[0,3,4],[],[],[],[],0,0,false⟩) (none)
def ql1:Nat->Bool:=fun k=>cond (Nat.beq k 3) true (false)
def q49:=ql1
abbrev qcp:Type:=Int × Unit
def q12:List (Nat × Sm):=[]
def q1o:List (Nat × Hx):=[]
def qw2(R:Type)(lf:Nat):ClK R:=qau Try.prog ttT.get ftT.get (nm1 89 qju) (smL q12) (hxL q1o) lf 20 R
abbrev zpb:Nat:=89
def qib(x1:(List Int))(p:Int × Int):NRes:=(NRes.mk (.node (some (IV.lst (TC.int .u8) x1)) (.node none (.node (some (IV.int .i64 p.1)) .leaf .leaf) .leaf) (.node none (.node (some (IV.int .i64 p.2)) .leaf .leaf) .leaf)) (IS.mk .leaf 0) [] 0)
def qv1(lf:Nat)(x1:(List Int))(L3:(Int × Int)->Option qcp):Option qcp:=(L3 ((Int.ofNat 1),(Int.ofNat 0)))
def qnn(lf:Nat)(x1:(List Int))(L3:(Int × Int)->Option qcp)(p:Int × Int):Option qcp:=(cond (iltI p.2 (Int.ofNat x1.length)) (match (jget x1 p.2) with|none=>none|some v0=>(L3 ((Int.tmod (IntKind.i64.wrap (Int.add (IntKind.i64.wrap (Int.mul (Int.ofNat 31) p.1)) (IntKind.i64.wrap v0))) (Int.ofNat 2147483647)),(IntKind.i64.wrap (Int.add p.2 (Int.ofNat 1)))))) (some (p.1,())))
abbrev gz14:Type:=ElA [(.list (.int .u8))]->Option qcp
abbrev sz14(g:gz14):Sm:=⟨[(.list (.int .u8))],[(false,(.int .i64))],g⟩
abbrev Ez14(g:gz14)(J:JT qcp)(lf:Nat)(x1:(List Int)):=qbs Try.prog ttT.get qju fi89.nt (qw2 _ lf) lf ql1 J fi89.body [] (qaq (argV [(.list (.int .u8))] (x1,())) 0 .leaf) S0 [] (qas ttT.get fi89 (sz14 g))
abbrev Bz14(g:gz14)(J:JT qcp)(lf k:Nat)(ms:List Nat)(q:NRes):=qb0 Try.prog ttT.get qju fi89.nt (qw2 _ lf) lf ql1 J k fi89.body [] ms q (qas ttT.get fi89 (sz14 g))
theorem zu2(g:gz14)(J:JT qcp)(lf:Nat)(x1:(List Int)):Ez14 g J lf x1=qv1 lf x1 (fun q=>J 3 [lf] (qib x1 q)):=by kernel_rfl
theorem zgq(g:gz14)(J:JT qcp)(lf:Nat)(x1:(List Int))(m1:Nat)(p:Int × Int):Bz14 g J lf 3 [m1] (qib x1 p)=qnn lf x1 (fun q=>J 3 [m1] (qib x1 q)) p:=by kernel_rfl
theorem q9o:(regs fi89.body).Nodup:=by decide +kernel
theorem q80:okC qju ql1 q49 fi89.body none=true:=by kernel_rfl
def Az14(g:gz14)(lf:Nat):JT qcp:=atN Try.prog ttT.get qju fi89 (sz14 g) (qw2 _ lf) lf q49
def qmi(lf:Nat)(x1:(List Int)):Nat->(Int × Int)->Option qcp:=rounds fun K p=>qnn lf x1 K p
theorem q4p(g:gz14)(lf:Nat)(x1:(List Int)):∀(n:Nat) (p:Int × Int),Az14 g lf 3 [n] (qib x1 p)=qmi lf x1 n p
 | 0,p=>qbf 3 [0] rfl _
 | n+1,p=>by
  have ih:=q4p g lf x1 n;refine(qay (qam 20 _) q9o q80 3 [n+1] [n] rfl _).trans ((zgq g (Az14 g lf) lf x1 n p).trans ?_);rw[(show (fun q=>Az14 g lf 3 [n] (qib x1 q))=(fun q=>qmi lf x1 n q) from funext ih)];rfl
def Fz14(lf:Nat)(x1:(List Int)):Option qcp:=qv1 lf x1 (fun q=>qmi lf x1 lf q)
theorem zha(g:gz14)(lf:Nat)(x1:(List Int)):Ez14 g (Az14 g lf) lf x1=Fz14 lf x1:=by
  refine(zu2 g (Az14 g lf) lf x1).trans ?_;rw[(show (fun q=>Az14 g lf 3 [lf] (qib x1 q))=(fun q=>qmi lf x1 lf q) from funext fun q=>q4p g lf x1 lf q)];rfl
theorem zr4:qa2 Try.prog q1o:=trivial
theorem zsf{g:gz14}(hsm:SmOK Try.prog q12)(hg:∀(x:ElA [(.list (.int .u8))]) (y:qcp),WfA [(.list (.int .u8))] x->g x=some y->∃lf,Fz14 lf x.1=some y):Con Try.prog 89 ⟨[(.list (.int .u8))],[(false,(.int .i64))],g⟩ :=
 conV (st:=ql1) (fun lf x=>Fz14 lf x.1) cm3 zt3 zr4 q9o q80 (fun lf x=>zha g lf x.1) hsm hg
abbrev qos:Type:=(List Int) × Unit
abbrev zq0:Nat:=43
def q3m(lf:Nat)(x1:(List Int)):Option qos:=(cond (Nat.ble (Nat.mul (Nat.add 0 x1.length) 1) 140737488355328) (cond (Nat.ble (Nat.mul (Nat.add (List.length (List.append [] x1)) 4) 1) 140737488355328) (some ((List.append (List.append [] x1) (List.cons (IntKind.u8.wrap (IntKind.i64.wrap (Int.tdiv (S.sumI x1) (Int.ofNat 16777216)))) (List.cons (IntKind.u8.wrap (Int.tmod (IntKind.i64.wrap (Int.tdiv (S.sumI x1) (Int.ofNat 65536))) (Int.ofNat 256))) (List.cons (IntKind.u8.wrap (Int.tmod (IntKind.i64.wrap (Int.tdiv (S.sumI x1) (Int.ofNat 256))) (Int.ofNat 256))) (List.cons (IntKind.u8.wrap (Int.tmod (S.sumI x1) (Int.ofNat 256))) []))))),())) none) none)
def qpk(lf:Nat)(x1:(List Int)):Option qos:=q3m lf x1
theorem zft{g:ElA [(.list (.int .u8))]->Option qos}(hsm:SmOK Try.prog [(89,q2l)])(hg:∀(x:ElA [(.list (.int .u8))]) (y:qos),WfA [(.list (.int .u8))] x->g x=some y->∃lf,qpk lf x.1=some y):Con Try.prog 43 ⟨[(.list (.int .u8))],[(false,(.list (.int .u8)))],g⟩ :=
 conU (fi:=fi43) (hxl:=[]) (fun lf x=>qpk lf x.1) cm3 zf4 trivial hsm hg
def qj5:Nat->Option Nm:=fun k=>cond (Nat.beq k 9) (some ⟨[0,3,7,8,33,34,35],[],[(7,0,(.int .u8))],[],[],0,0,false⟩) (cond (Nat.beq k 13) (some ⟨[0,3,7,8,33,34,35,46,47,48],[],[(7,0,(.int .u8))],[],[],0,0,false⟩) (cond (Nat.beq k 20) (some ⟨[7,8,64,65,66],[],[(7,0,(.int .u8))],[],[],0,0,false⟩) (none)))
def qmj:Nat->Bool:=fun k=>cond (Nat.beq k 9) true (cond (Nat.beq k 13) true (cond (Nat.beq k 20) true (false)))
def qzr:=qmj
abbrev qa9:Type:=(List Int) × Int × Unit
def q65:List (Nat × Sm):=[(18,qyc),(62,spz9),(52,qln),(64,qyl),(65,q3b)]
def q16:List (Nat × Hx):=[(66,hxR qor)]
def qtc(R:Type)(lf:Nat):ClK R:=qau Try.prog ttT.get ftT.get (nm1 20 qj5) (smL q65) (hxL q16) lf 20 R
abbrev zs7:Nat:=20
def qe3(x1:(List qac))(x2:qaa)(p:(List Int) × (List qab) × (List DVal) × Int):NRes:=(NRes.mk (.node (some (IV.lst cForm x1)) (.node none (.node (some (IV.ptr 0 0)) (.node (some (IV.ptr 1 0)) .leaf .leaf) (.node none (.node none (.node (some (IV.int .i64 p.2.2.2)) .leaf .leaf) .leaf) .leaf)) (.node none (.node none (.node none (.node (some (IV.lst qah p.2.1)) .leaf .leaf) .leaf) .leaf) .leaf)) (.node none (.node none (.node (some (IV.fn 63 [(IV.ptr 1 0)])) .leaf .leaf) .leaf) (.node none (.node none (.node none (.node (some (IV.int .i64 (Int.ofNat p.2.1.length))) .leaf .leaf) .leaf) .leaf) .leaf))) (IS.mk (.node (some (IObj.row (List.cons (IV.lst qah p.2.1) [(IV.lst cVal p.2.2.1)]))) (.node (some (IObj.row [(IV.arr 2)])) .leaf .leaf) (.node (some (IObj.arr (TC.int .u8) p.1)) .leaf .leaf)) 3) [] 0)
def qhu(x1:(List qac))(x2:qaa)(p:(List qab) × (List DVal) × (List DVal) × (List Int) × Int × Int):NRes:=(NRes.mk (.node (some (IV.lst cForm x1)) (.node none (.node (some (IV.ptr 0 0)) (.node (some (IV.ptr 1 0)) (.node none .leaf (.node (some (IV.int .i64 (Int.ofNat p.2.2.1.length))) .leaf .leaf)) .leaf) (.node none (.node none (.node (some (IV.int .i64 p.2.2.2.2.2)) .leaf .leaf) .leaf) .leaf)) (.node none (.node none (.node none (.node (some (IV.lst qah p.1)) .leaf .leaf) .leaf) .leaf) .leaf)) (.node none (.node none (.node (some (IV.fn 63 [(IV.ptr 1 0)])) (.node none .leaf (.node (some (IV.int .i64 p.2.2.2.2.1)) .leaf .leaf)) .leaf) .leaf) (.node none (.node none (.node none (.node (some (IV.int .i64 (Int.ofNat p.1.length))) .leaf .leaf) .leaf) .leaf) (.node none .leaf (.node none (.node (some (IV.lst cVal p.2.2.1)) .leaf .leaf) .leaf))))) (IS.mk (.node (some (IObj.row (List.cons (IV.lst qah p.1) [(IV.lst cVal p.2.1)]))) (.node (some (IObj.row [(IV.arr 2)])) .leaf .leaf) (.node (some (IObj.arr (TC.int .u8) p.2.2.2.1)) .leaf .leaf)) 3) [] 0)
def qil(x1:(List qac))(x2:qaa)(p:(List DVal) × (List Int) × Int):NRes:=(NRes.mk (.node none (.node none (.node none (.node (some (IV.ptr 0 0)) .leaf .leaf) .leaf) (.node none (.node none (.node none (.node none (.node (some (IV.int .i64 (Int.ofNat p.1.length))) .leaf .leaf) .leaf) .leaf) .leaf) .leaf)) (.node none (.node none (.node (some (IV.fn 63 [(IV.ptr 0 0)])) (.node none (.node none (.node (some (IV.lst cVal p.1)) .leaf .leaf) .leaf) .leaf) .leaf) .leaf) (.node none (.node none (.node none (.node none (.node (some (IV.int .i64 p.2.2)) .leaf .leaf) .leaf) .leaf) .leaf) .leaf))) (IS.mk (.node (some (IObj.row [(IV.arr 1)])) (.node (some (IObj.arr (TC.int .u8) p.2.1)) .leaf .leaf) .leaf) 2) [] 0)
def qqu(lf:Nat)(x1:(List qac))(x2:qaa)(L9:((List Int) × (List qab) × (List DVal) × Int)->Option qa9):Option qa9:=(cond (Bool.not (ieqI (S.checkG x1 (x2.1,x2.2)) (Int.ofNat 0))) (some ([],((S.checkG x1 (x2.1,x2.2)),()))) (match (S.canonO (x2.1,x2.2)) with|none=>none|some v0=>(match (cond (S.numOK (Int.ofNat v0.1.1.length)) (some ((S.num (Int.ofNat v0.1.1.length)),())) none) with|none=>none|some v1=>(cond (Nat.ble (Nat.mul (Nat.add 0 v1.1.length) 1) 140737488355328) (L9 (v1.1,v0.1.1,v0.1.2,(Int.ofNat 0))) none))))
def qm6(lf:Nat)(x1:(List qac))(x2:qaa)(L13:((List qab) × (List DVal) × (List DVal) × (List Int) × Int × Int)->Option qa9)(L20:((List DVal) × (List Int) × Int)->Option qa9)(p:(List Int) × (List qab) × (List DVal) × Int):Option qa9:=(cond (iltI p.2.2.2 (Int.ofNat p.2.1.length)) (match (jget p.2.1 p.2.2.2) with|none=>none|some v0=>(match (cond (S.numOK (S.form x1 v0.1)) (some ((S.num (S.form x1 v0.1)),())) none) with|none=>none|some v1=>(cond (Nat.ble (Nat.mul (Nat.add p.1.length v1.1.length) 1) 140737488355328) (L13 (p.2.1,p.2.2.1,v0.2,(List.append p.1 v1.1),(Int.ofNat 0),p.2.2.2)) none))) (match (cond (S.numOK (Int.ofNat p.2.2.1.length)) (some ((S.num (Int.ofNat p.2.2.1.length)),())) none) with|none=>none|some v8=>(cond (Nat.ble (Nat.mul (Nat.add p.1.length v8.1.length) 1) 140737488355328) (L20 (p.2.2.1,(List.append p.1 v8.1),(Int.ofNat 0))) none)))
def qjn(lf:Nat)(x1:(List qac))(x2:qaa)(L13:((List qab) × (List DVal) × (List DVal) × (List Int) × Int × Int)->Option qa9)(L9:((List Int) × (List qab) × (List DVal) × Int)->Option qa9)(p:(List qab) × (List DVal) × (List DVal) × (List Int) × Int × Int):Option qa9:=(cond (iltI p.2.2.2.2.1 (Int.ofNat p.2.2.1.length)) (match (jget p.2.2.1 p.2.2.2.2.1) with|none=>none|some v0=>(match (cond (S.numOK (S.code (v0.1,v0.2))) (some ((S.num (S.code (v0.1,v0.2))),())) none) with|none=>none|some v1=>(cond (Nat.ble (Nat.mul (Nat.add p.2.2.2.1.length v1.1.length) 1) 140737488355328) (L13 (p.1,p.2.1,p.2.2.1,(List.append p.2.2.2.1 v1.1),(IntKind.i64.wrap (Int.add p.2.2.2.2.1 (Int.ofNat 1))),p.2.2.2.2.2)) none))) (L9 (p.2.2.2.1,p.1,p.2.1,(IntKind.i64.wrap (Int.add p.2.2.2.2.2 (Int.ofNat 1))))))
def qko(lf:Nat)(x1:(List qac))(x2:qaa)(L20:((List DVal) × (List Int) × Int)->Option qa9)(p:(List DVal) × (List Int) × Int):Option qa9:=(cond (iltI p.2.2 (Int.ofNat p.1.length)) (match (jget p.1 p.2.2) with|none=>none|some v0=>(match (cond (S.numOK (S.code (v0.1,v0.2))) (some ((S.num (S.code (v0.1,v0.2))),())) none) with|none=>none|some v1=>(cond (Nat.ble (Nat.mul (Nat.add p.2.1.length v1.1.length) 1) 140737488355328) (L20 (p.1,(List.append p.2.1 v1.1),(IntKind.i64.wrap (Int.add p.2.2 (Int.ofNat 1))))) none))) (cond (Nat.ble (Nat.mul (Nat.add p.2.1.length (List.length (S.sum4 p.2.1))) 1) 140737488355328) (cond (iltI (Int.ofNat 60000) (Int.ofNat (List.length (List.append p.2.1 (S.sum4 p.2.1))))) (some ([],((Int.ofNat 3),()))) (some ((List.append p.2.1 (S.sum4 p.2.1)),((Int.ofNat 0),())))) none))
abbrev gz15:Type:=ElA [(.list cForm),cGraph]->Option qa9
abbrev sz15(g:gz15):Sm:=⟨[(.list cForm),cGraph],[(false,(.list (.int .u8))),(false,(.int .i64))],g⟩
abbrev Ez15(g:gz15)(J:JT qa9)(lf:Nat)(x1:(List qac))(x2:qaa):=qbs Try.prog ttT.get qj5 fi20.nt (qtc _ lf) lf qmj J fi20.body [] (qaq (argV [(.list cForm),cGraph] (x1,x2,())) 0 .leaf) S0 [] (qas ttT.get fi20 (sz15 g))
abbrev Bz15(g:gz15)(J:JT qa9)(lf k:Nat)(ms:List Nat)(q:NRes):=qb0 Try.prog ttT.get qj5 fi20.nt (qtc _ lf) lf qmj J k fi20.body [] ms q (qas ttT.get fi20 (sz15 g))
theorem zgb(g:gz15)(J:JT qa9)(lf:Nat)(x1:(List qac))(x2:qaa):Ez15 g J lf x1 x2=qqu lf x1 x2 (fun q=>J 9 [lf] (qe3 x1 x2 q)):=by kernel_rfl
theorem zsv(g:gz15)(J:JT qa9)(lf:Nat)(x1:(List qac))(x2:qaa)(m1:Nat)(p:(List Int) × (List qab) × (List DVal) × Int):Bz15 g J lf 9 [m1] (qe3 x1 x2 p)=qm6 lf x1 x2 (fun q=>J 13 [m1,lf] (qhu x1 x2 q)) (fun q=>J 20 [lf] (qil x1 x2 q)) p:=by kernel_rfl
theorem zb7(g:gz15)(J:JT qa9)(lf:Nat)(x1:(List qac))(x2:qaa)(m1:Nat)(m2:Nat)(p:(List qab) × (List DVal) × (List DVal) × (List Int) × Int × Int):Bz15 g J lf 13 [m1,m2] (qhu x1 x2 p)=qjn lf x1 x2 (fun q=>J 13 [m1,m2] (qhu x1 x2 q)) (fun q=>J 9 [m1] (qe3 x1 x2 q)) p:=by kernel_rfl
theorem zju(g:gz15)(J:JT qa9)(lf:Nat)(x1:(List qac))(x2:qaa)(m1:Nat)(p:(List DVal) × (List Int) × Int):Bz15 g J lf 20 [m1] (qil x1 x2 p)=qko lf x1 x2 (fun q=>J 20 [m1] (qil x1 x2 q)) p:=by kernel_rfl
theorem qq2:(regs fi20.body).Nodup:=by decide +kernel
theorem qq7:okC qj5 qmj qzr fi20.body none=true:=by kernel_rfl
def Az15(g:gz15)(lf:Nat):JT qa9:=atN Try.prog ttT.get qj5 fi20 (sz15 g) (qtc _ lf) lf qzr
def qlw(lf:Nat)(x1:(List qac))(x2:qaa)(K9:((List Int) × (List qab) × (List DVal) × Int)->Option qa9):Nat->((List qab) × (List DVal) × (List DVal) × (List Int) × Int × Int)->Option qa9:=rounds fun K p=>qjn lf x1 x2 K K9 p
theorem q7v(g:gz15)(lf:Nat)(x1:(List qac))(x2:qaa)(m1:Nat):∀(n:Nat) (p:(List qab) × (List DVal) × (List DVal) × (List Int) × Int × Int),Az15 g lf 13 [m1,n] (qhu x1 x2 p)=qlw lf x1 x2 (fun q=>Az15 g lf 9 [m1] (qe3 x1 x2 q)) n p
 | 0,p=>qbf 13 [m1,0] rfl _
 | n+1,p=>by
  have ih:=q7v g lf x1 x2 m1 n;refine(qay (qam 20 _) qq2 qq7 13 [m1,n+1] [m1,n] rfl _).trans ((zb7 g (Az15 g lf) lf x1 x2 m1 n p).trans ?_);rw[(show (fun q=>Az15 g lf 13 [m1,n] (qhu x1 x2 q))=(fun q=>qlw lf x1 x2 (fun q=>Az15 g lf 9 [m1] (qe3 x1 x2 q)) n q) from funext ih)];rfl
def qjg(lf:Nat)(x1:(List qac))(x2:qaa):Nat->((List DVal) × (List Int) × Int)->Option qa9:=rounds fun K p=>qko lf x1 x2 K p
theorem qym(g:gz15)(lf:Nat)(x1:(List qac))(x2:qaa):∀(n:Nat) (p:(List DVal) × (List Int) × Int),Az15 g lf 20 [n] (qil x1 x2 p)=qjg lf x1 x2 n p
 | 0,p=>qbf 20 [0] rfl _
 | n+1,p=>by
  have ih:=qym g lf x1 x2 n;refine(qay (qam 20 _) qq2 qq7 20 [n+1] [n] rfl _).trans ((zju g (Az15 g lf) lf x1 x2 n p).trans ?_);rw[(show (fun q=>Az15 g lf 20 [n] (qil x1 x2 q))=(fun q=>qjg lf x1 x2 n q) from funext ih)];rfl
def qrc(lf:Nat)(x1:(List qac))(x2:qaa):Nat->((List Int) × (List qab) × (List DVal) × Int)->Option qa9:=rounds fun K p=>qm6 lf x1 x2 (fun q=>qlw lf x1 x2 K lf q) (fun q=>qjg lf x1 x2 lf q) p
theorem q5q(g:gz15)(lf:Nat)(x1:(List qac))(x2:qaa):∀(n:Nat) (p:(List Int) × (List qab) × (List DVal) × Int),Az15 g lf 9 [n] (qe3 x1 x2 p)=qrc lf x1 x2 n p
 | 0,p=>qbf 9 [0] rfl _
 | n+1,p=>by
  have ih:=q5q g lf x1 x2 n;refine(qay (qam 20 _) qq2 qq7 9 [n+1] [n] rfl _).trans ((zsv g (Az15 g lf) lf x1 x2 n p).trans ?_);rw[(show (fun q=>Az15 g lf 13 [n,lf] (qhu x1 x2 q))=(fun q=>qlw lf x1 x2 (fun q=>Az15 g lf 9 [n] (qe3 x1 x2 q)) lf q) from funext fun q=>q7v g lf x1 x2 n lf q),(show (fun q=>Az15 g lf 20 [lf] (qil x1 x2 q))=(fun q=>qjg lf x1 x2 lf q) from funext fun q=>qym g lf x1 x2 lf q),(show (fun q=>Az15 g lf 9 [n] (qe3 x1 x2 q))=(fun q=>qrc lf x1 x2 n q) from funext ih)];rfl
def Fz15(lf:Nat)(x1:(List qac))(x2:qaa):Option qa9:=qqu lf x1 x2 (fun q=>qrc lf x1 x2 lf q)
theorem zrj(g:gz15)(lf:Nat)(x1:(List qac))(x2:qaa):Ez15 g (Az15 g lf) lf x1 x2=Fz15 lf x1 x2:=by
  refine(zgb g (Az15 g lf) lf x1 x2).trans ?_;rw[(show (fun q=>Az15 g lf 9 [lf] (qe3 x1 x2 q))=(fun q=>qrc lf x1 x2 lf q) from funext fun q=>q5q g lf x1 x2 lf q)];rfl
theorem zeg(hrz17:ConR Try.prog 66 qor):qa2 Try.prog q16:=⟨qnb hrz17,trivial⟩
theorem zna{g:gz15}(hsm:SmOK Try.prog q65)(hrz17:ConR Try.prog 66 qor)(hg:∀(x:ElA [(.list cForm),cGraph]) (y:qa9),WfA [(.list cForm),cGraph] x->g x=some y->∃lf,Fz15 lf x.1 x.2.1=some y):Con Try.prog 20 ⟨[(.list cForm),cGraph],[(false,(.list (.int .u8))),(false,(.int .i64))],g⟩ :=
 conV (st:=qmj) (fun lf x=>Fz15 lf x.1 x.2.1) cm3 zow (zeg hrz17) qq2 qq7 (fun lf x=>zrj g lf x.1 x.2.1) hsm hg
def qk0:Nat->Option Nm:=fun k=>cond (Nat.beq k 5) (some ⟨[3,4],[(4,(.int .u8))],[],[],[],0,0,false⟩) (none)
def qll:Nat->Bool:=fun k=>cond (Nat.beq k 5) true (false)
def qzj:=qll
abbrev qc5:Type:=(List Int) × Unit
def qzm:List (Nat × Sm):=[]
def q2z:List (Nat × Hx):=[]
def qw1(R:Type)(lf:Nat):ClK R:=qau Try.prog ttT.get ftT.get (nm1 64 qk0) (smL qzm) (hxL q2z) lf 20 R
abbrev zqm:Nat:=64
def qi2(x1:Int)(p:Int × (List Int)):NRes:=(NRes.mk (.node none (.node none (.node (some (IV.int .u64 p.1)) .leaf .leaf) .leaf) (.node none (.node (some (IV.arr 0)) .leaf .leaf) .leaf)) (IS.mk (.node (some (IObj.arr (TC.int .u8) p.2)) .leaf .leaf) 1) [] 0)
def qwq(lf:Nat)(x1:Int)(L5:(Int × (List Int))->Option qc5):Option qc5:=(cond (iltI x1 (Int.ofNat 0)) (L5 ((IntKind.wrap IntKind.u64 (IntKind.i64.wrap (Int.sub (IntKind.i64.wrap (Int.mul (Int.negSucc 1) x1)) (Int.ofNat 1)))),[])) (L5 ((IntKind.wrap IntKind.u64 (IntKind.i64.wrap (Int.mul (Int.ofNat 2) x1))),[])))
def qfu(lf:Nat)(x1:Int)(L5:(Int × (List Int))->Option qc5)(p:Int × (List Int)):Option qc5:=(cond (Bool.not (iltI p.1 (Int.ofNat 128))) (cond (Nat.ble (Nat.mul (Nat.add p.2.length 1) 1) 140737488355328) (L5 ((Int.fdiv p.1 (Int.ofNat 128)),(List.append p.2 (List.cons (Int.ofNat (Nat.mod (Nat.lor (Int.toNat (Int.emod (IntKind.u8.wrap p.1) (Int.ofNat 256))) 128) 256)) [])))) none) (cond (Nat.ble (Nat.mul (Nat.add p.2.length 1) 1) 140737488355328) (some ((List.append p.2 [(IntKind.u8.wrap p.1)]),())) none))
abbrev gz16:Type:=ElA [(.int .i64)]->Option qc5
abbrev sz16(g:gz16):Sm:=⟨[(.int .i64)],[(false,(.list (.int .u8)))],g⟩
abbrev Ez16(g:gz16)(J:JT qc5)(lf:Nat)(x1:Int):=qbs Try.prog ttT.get qk0 fi64.nt (qw1 _ lf) lf qll J fi64.body [] (qaq (argV [(.int .i64)] (x1,())) 0 .leaf) S0 [] (qas ttT.get fi64 (sz16 g))
abbrev Bz16(g:gz16)(J:JT qc5)(lf k:Nat)(ms:List Nat)(q:NRes):=qb0 Try.prog ttT.get qk0 fi64.nt (qw1 _ lf) lf qll J k fi64.body [] ms q (qas ttT.get fi64 (sz16 g))
theorem zcy(g:gz16)(J:JT qc5)(lf:Nat)(x1:Int):Ez16 g J lf x1=qwq lf x1 (fun q=>J 5 [lf] (qi2 x1 q)):=by kernel_rfl
theorem zo4(g:gz16)(J:JT qc5)(lf:Nat)(x1:Int)(m1:Nat)(p:Int × (List Int)):Bz16 g J lf 5 [m1] (qi2 x1 p)=qfu lf x1 (fun q=>J 5 [m1] (qi2 x1 q)) p:=by kernel_rfl
theorem q27:(regs fi64.body).Nodup:=by decide +kernel
theorem qza:okC qk0 qll qzj fi64.body none=true:=by kernel_rfl
def Az16(g:gz16)(lf:Nat):JT qc5:=atN Try.prog ttT.get qk0 fi64 (sz16 g) (qw1 _ lf) lf qzj
def qj8(lf:Nat)(x1:Int):Nat->(Int × (List Int))->Option qc5:=rounds fun K p=>qfu lf x1 K p
theorem q6o(g:gz16)(lf:Nat)(x1:Int):∀(n:Nat) (p:Int × (List Int)),Az16 g lf 5 [n] (qi2 x1 p)=qj8 lf x1 n p
 | 0,p=>qbf 5 [0] rfl _
 | n+1,p=>by
  have ih:=q6o g lf x1 n;refine(qay (qam 20 _) q27 qza 5 [n+1] [n] rfl _).trans ((zo4 g (Az16 g lf) lf x1 n p).trans ?_);rw[(show (fun q=>Az16 g lf 5 [n] (qi2 x1 q))=(fun q=>qj8 lf x1 n q) from funext ih)];rfl
def Fz16(lf:Nat)(x1:Int):Option qc5:=qwq lf x1 (fun q=>qj8 lf x1 lf q)
theorem zrg(g:gz16)(lf:Nat)(x1:Int):Ez16 g (Az16 g lf) lf x1=Fz16 lf x1:=by
  refine(zcy g (Az16 g lf) lf x1).trans ?_;rw[(show (fun q=>Az16 g lf 5 [lf] (qi2 x1 q))=(fun q=>qj8 lf x1 lf q) from funext fun q=>q6o g lf x1 lf q)];rfl
theorem ziq:qa2 Try.prog q2z:=trivial
theorem zta{g:gz16}(hsm:SmOK Try.prog qzm)(hg:∀(x:ElA [(.int .i64)]) (y:qc5),WfA [(.int .i64)] x->g x=some y->∃lf,Fz16 lf x.1=some y):Con Try.prog 64 ⟨[(.int .i64)],[(false,(.list (.int .u8)))],g⟩ :=
 conV (st:=qll) (fun lf x=>Fz16 lf x.1) cm3 zqa ziq q27 qza (fun lf x=>zrg g lf x.1) hsm hg
abbrev qqb:Type:=Int × Unit
abbrev zsj:Nat:=65
def q6n(lf:Nat)(x1:DVal):Option qqb:=(cond (ieqI x1.1 (Int.ofNat 3)) (some ((Int.ofNat 0),())) (cond (ieqI x1.1 (Int.ofNat 4)) (some ((IntKind.i64.wrap (Int.add x1.2 (Int.ofNat 1))),())) (some (x1.2,()))))
def qph(lf:Nat)(x1:DVal):Option qqb:=q6n lf x1
theorem zq4{g:ElA [cVal]->Option qqb}(hsm:SmOK Try.prog [])(hg:∀(x:ElA [cVal]) (y:qqb),WfA [cVal] x->g x=some y->∃lf,qph lf x.1=some y):Con Try.prog 65 ⟨[cVal],[(false,(.int .i64))],g⟩ :=
 conU (fi:=fi65) (hxl:=[]) (fun lf x=>qph lf x.1) cm3 zmt trivial hsm hg
def qjo:Nat->Option Nm:=fun k=>cond (Nat.beq k 3) (some ⟨[3,6,7,8],[],[],[],[],0,0,false⟩) (cond (Nat.beq k 999999) (some ⟨[],[],[],[],[],0,0,false⟩) none)
def qj1:Nat->Bool:=fun k=>cond (Nat.beq k 3) true (false)
def qut:=qj1
abbrev qcf:Type:=((List Int) × Unit) × (Option (List Int)) × Unit
def qsj:List (Nat × Sm):=[]
def qtk:List (Nat × Hx):=[]
def qta(R:Type)(lf:Nat):ClK R:=qau Try.prog ttT.get ftT.get (fun _ _=>none) (smL qsj) (hxL qtk) lf 20 R
abbrev zk5:Nat:=66
def qh4(x1:(List Int))(p:Int × Int):NRes:=(NRes.mk (.node none (.node none (.node (some (IV.int .i64 p.1)) (.node (some (IV.int .i64 (Int.ofNat x1.length))) .leaf .leaf) .leaf) .leaf) (.node none (.node none (.node (some (IV.int .i64 p.2)) .leaf .leaf) .leaf) (.node (some (IV.arr 0)) .leaf .leaf))) (IS.mk (.node (some (IObj.arr (TC.int .u8) x1)) .leaf .leaf) 1) [] 0)
def qty(lf:Nat)(x1:(List Int))(L3:(Int × Int)->Option qcf):Option qcf:=(L3 ((Int.ofNat 1),(Int.ofNat 0)))
def qnx(lf:Nat)(x1:(List Int))(L3:(Int × Int)->Option qcf)(p:Int × Int):Option qcf:=(cond (iltI p.2 (Int.ofNat x1.length)) (match (jget x1 p.2) with|none=>none|some v0=>(match (GetElem?.getElem? x1 (Int.toNat p.2)) with|none=>none|some v1=>(L3 ((Int.tmod (IntKind.i64.wrap (Int.add (IntKind.i64.wrap (Int.mul (Int.ofNat 31) p.1)) (IntKind.i64.wrap v1))) (Int.ofNat 2147483647)),(IntKind.i64.wrap (Int.add p.2 (Int.ofNat 1))))))) (some (((List.cons (IntKind.u8.wrap (Int.fdiv p.1 (Int.ofNat 16777216))) (List.cons (IntKind.u8.wrap (Int.fdiv p.1 (Int.ofNat 65536))) (List.cons (IntKind.u8.wrap (Int.fdiv p.1 (Int.ofNat 256))) [(IntKind.u8.wrap p.1)]))),()),((some x1),()))))
abbrev gz17:Type:=ElP [.ref (.sl (.int .u8))]->Option qcf
abbrev sz17(g:gz17):SmR:=⟨[.ref (.sl (.int .u8))],[(true,(.int .u8))],g⟩
abbrev Ez17(g:gz17)(J:JT qcf)(lf:Nat)(x1:(List Int)):=qbm Try.prog ttT.get qjo (mP [.ref (.sl (.int .u8))]) fi66.nt (qta _ lf) lf qj1 J fi66.body [] (qaq (qag [.ref (.sl (.int .u8))] idN 0 (some x1,())) 0 .leaf) (Sc [.ref (.sl (.int .u8))] (some x1,())) [] (qce ttT.get fi66 (sz17 g))
abbrev Bz17(g:gz17)(J:JT qcf)(lf k:Nat)(ms:List Nat)(q:NRes):=qba Try.prog ttT.get qjo (mP [.ref (.sl (.int .u8))]) fi66.nt (qta _ lf) lf qj1 J k fi66.body [] ms q (qce ttT.get fi66 (sz17 g))
theorem zef(g:gz17)(J:JT qcf)(lf:Nat)(x1:(List Int)):Ez17 g J lf x1=qty lf x1 (fun q=>J 3 [lf] (qh4 x1 q)):=by kernel_rfl
theorem zbb(g:gz17)(J:JT qcf)(lf:Nat)(x1:(List Int))(m1:Nat)(p:Int × Int):Bz17 g J lf 3 [m1] (qh4 x1 p)=qnx lf x1 (fun q=>J 3 [m1] (qh4 x1 q)) p:=by kernel_rfl
theorem q4j:(regs fi66.body).Nodup:=by decide +kernel
theorem q0i:okC qjo qj1 qut fi66.body none=true:=by kernel_rfl
def Az17(g:gz17)(lf:Nat):JT qcf:=atQ Try.prog ttT.get qjo fi66 (sz17 g) (qta _ lf) lf qut
def qkq(lf:Nat)(x1:(List Int)):Nat->(Int × Int)->Option qcf:=rounds fun K p=>qnx lf x1 K p
theorem q0w(g:gz17)(lf:Nat)(x1:(List Int)):∀(n:Nat) (p:Int × Int),Az17 g lf 3 [n] (qh4 x1 p)=qkq lf x1 n p
 | 0,p=>quf 3 [0] rfl _
 | n+1,p=>by
  have ih:=q0w g lf x1 n;refine(qso rfl (qam 20 _) q4j q0i 3 [n+1] [n] rfl _).trans ((zbb g (Az17 g lf) lf x1 n p).trans ?_);rw[(show (fun q=>Az17 g lf 3 [n] (qh4 x1 q))=(fun q=>qkq lf x1 n q) from funext ih)];rfl
def Fz17(lf:Nat)(x1:(List Int)):Option qcf:=qty lf x1 (fun q=>qkq lf x1 lf q)
theorem ztu(g:gz17)(lf:Nat)(x1:(List Int)):Ez17 g (Az17 g lf) lf x1=Fz17 lf x1:=by
  refine(zef g (Az17 g lf) lf x1).trans ?_;rw[(show (fun q=>Az17 g lf 3 [lf] (qh4 x1 q))=(fun q=>qkq lf x1 lf q) from funext fun q=>q0w g lf x1 lf q)];rfl
theorem zjw:qa2 Try.prog qtk:=trivial
theorem zjl{g:gz17}(hsm:SmOK Try.prog qsj)(h0:∀(x:ElP [.ref (.sl (.int .u8))]) (y:qcf),g x=some y->∃(x1:(List Int)),x=(some x1,()))(hg:∀(x1:(List Int)) (y:qcf),WfP [.ref (.sl (.int .u8))] (some x1,())->g (some x1,())=some y->∃lf,Fz17 lf x1=some y):ConR Try.prog 66 ⟨[.ref (.sl (.int .u8))],[(true,(.int .u8))],g⟩ :=
 conTR (nmf:=qjo) (sml:=qsj) (hxl:=qtk) (st:=qj1) (hd:=qut) 20 qcq ttOK ftOK hsm zjw q9u (by kernel_rfl) (fun x=>by kernel_rfl) q4j q0i fun x y z hx hy=>by
  obtain⟨x1,rfl⟩:=h0 x (y,z) hy;obtain⟨lf,h⟩:=hg x1 (y,z) hx hy;exact⟨lf,(ztu g lf x1).trans h⟩
theorem w64{n:Int}(h1:-4611686018427387904<=n)(h2:n<=4611686018427387904):IntKind.i64.wrap n=n:=(qe1 _ _).2 ⟨by show (-9223372036854775808:Int)<=n;omega,by show n<=(9223372036854775807:Int);omega⟩
theorem wu64{n:Int}(h1:0<=n)(h2:n<=4611686018427387904):IntKind.u64.wrap n=n:=(qe1 _ _).2 ⟨by show (0:Int)<=n;omega,by show n<=(18446744073709551615:Int);omega⟩
theorem w8(n:Int):IntKind.u8.wrap n=n % 256:=rfl
theorem zrn:∀k:Fin 256,(k.val ||| 128) % 256=128+k.val % 128:=by decide +kernel
theorem qex{m k:Nat}(h:m+k<=140737488355328):Nat.ble (Nat.mul (Nat.add m k) 1) 140737488355328=true:=jb7 (by show (m+k)*1<=_;omega)
theorem za6{u:Int}(h:0<=u):Int.ofNat (Nat.mod (Nat.lor (Int.toNat (Int.emod (IntKind.u8.wrap u) (Int.ofNat 256))) 128) 256)=128+u % 128:=by
 have e:Int.emod (IntKind.u8.wrap u) (Int.ofNat 256)=u % 256:=by rw[w8];show (u % 256) % 256=_;omega
 rw[e];have hk:(u % 256).toNat<256:=by omega
 have:=zrn ⟨(u % 256).toNat,hk⟩;show (((((u % 256).toNat ||| 128) % 256:Nat)):Int)=_;simp only at this;rw[this];omega
theorem qo0{f:Nat}{u:Int}(h:u<128):S.numU f u=[u]:=by cases f with|zero=>rfl|succ f=>simp only[S.numU,jam h]
theorem qp8{f:Nat}{u:Int}(h:¬u<128):S.numU (f+1) u=(128+u % 128)::S.numU f (u / 128):=by simp only[S.numU,jak h]
theorem q9l:∀(f:Nat) (u:Int),(S.numU f u).length<=f+1
 | 0,u=>by simp[S.numU]
 | f+1,u=>by
  have:=q9l f (u / 128);by_cases h:u<128
  ·rw[qo0 h];simp
  ·rw[qp8 h];simp only[jbj];omega
theorem qfh(n:Int):(S.num n).length<=11:=q9l 10 _
theorem q56{u:Int}{f:Nat}(h:u<128 ^ (f+1+1)):u / 128<128 ^ (f+1):=by
 rw[jez] at h;generalize (128:Int) ^ (f+1)=q at h ⊢;omega
theorem qv4(x1:Int):∀(f n:Nat) (u:Int) (out:List Int),0<=u->u<128 ^ (f+1)->f<n->out.length+f<=1000 ->
  rounds (fun K p=>qfu LF x1 K p) n (u,out)=some (out++S.numU f u,())
 | f,0,u,out,h0,h1,hn,hl=>by omega
 | f,n+1,u,out,h0,h1,hn,hl=>by
  have ih:=fun f'=>qv4 x1 f' n (Int.fdiv u (Int.ofNat 128));show qfu LF x1 (rounds (fun K p=>qfu LF x1 K p) n) (u,out)=_;generalize rounds (fun K p=>qfu LF x1 K p) n=Z at ih ⊢;have hb:Nat.ble (Nat.mul (Nat.add out.length 1) 1) 140737488355328=true:=qex (by omega);have hd:Int.fdiv u (Int.ofNat 128)=u / 128:=jcm u (by show (0:Int)<=128;omega);by_cases hu:u<128
  ·have h2:iltI u (Int.ofNat 128)=true:=by rw[qan];exact jaj hu
   have h3:IntKind.u8.wrap u=u:=by rw[w8];omega
   simp only[qfu,h2,jbf,jae,hb,jaa,h3,qo0 hu];rfl
  ·have h2:iltI u (Int.ofNat 128)=false:=by rw[qan];exact jai hu
   cases f with
   | zero=>exact absurd (by simpa using h1) hu
   | succ f =>
    have:=ih f (out++[128+u % 128]) (by rw[hd];omega) (by rw[hd];exact q56 h1) (by omega) (by simp;omega);simp only[qfu,h2,ja7,jaa,hb,za6 h0];refine jee this ?_;rw[hd,qp8 hu,ja9];rfl
theorem zi5{n:Int}(h:S.numOK n=true):Fz16 LF n=some (S.num n,()):=by
 unfold S.numOK at h;simp only[jaf,jbc] at h;obtain⟨h1,h2⟩:=h;have e1:Int.sub (IntKind.i64.wrap (Int.mul (Int.negSucc 1) n)) (Int.ofNat 1)=-2*n-1:=by
  rw[show Int.mul (Int.negSucc 1) n=-2*n from rfl,w64 (by omega) (by omega)];rfl
 have e2:Int.mul (Int.ofNat 2) n=2*n:=rfl;simp only[Fz16,qwq,qj8,e1,e2];by_cases hn:n<0
 ·have h3:iltI n (Int.ofNat 0)=true:=by rw[qan];exact jaj hn
  rw[h3,jaa,w64 (n:=-2*n-1) (by omega) (by omega),wu64 (by omega) (by omega),qv4 n 10 LF _ [] (by omega) (by omega) (by unfold LF;omega) (by simp)];simp only[S.num,jam hn,jc2]
 ·have h3:iltI n (Int.ofNat 0)=false:=by rw[qan];exact jai hn
  rw[h3,jae,w64 (n:=2*n) (by omega) (by omega),wu64 (by omega) (by omega),qv4 n 10 LF _ [] (by omega) (by omega) (by unfold LF;omega) (by simp)];simp only[S.num,jak hn,jc2]
theorem zj7:Con Try.prog zqm qyl:=zta trivial fun x y hx h=>⟨LF,by
 obtain⟨n,_⟩:=x;have h:cond (S.numOK n) (some (S.num n,())) none=some y:=h;cases hk:S.numOK n with
 | false=>rw[hk] at h;cases h
 | true=>rw[hk] at h;exact(zi5 hk).trans h⟩
theorem ztx(lf:Nat)(v:Int × Int):qph lf v=some (S.code v,()):=by
 simp only[qph,q6n,qat,S.code];by_cases h3:v.1=3
 ·rw[jaj (show v.1=Int.ofNat 3 from h3),jam h3];rfl
 ·rw[jai (show ¬v.1=Int.ofNat 3 from h3),jak h3];by_cases h4:v.1=4
  ·rw[jaj (show v.1=Int.ofNat 4 from h4),jam h4];rfl
  ·rw[jai (show ¬v.1=Int.ofNat 4 from h4),jak h4];rfl
theorem zso:Con Try.prog zsj q3b:=zq4 trivial fun x y hx h=>⟨LF,(ztx LF x.1).trans h⟩
theorem zqy(b:List Int)(hl:b.length<LF):Fz14 LF b=some (S.sumI b,()):=by
 simp only[Fz14,qv1,qmi];refine range0 (α:=Int) (σ:=Int) (R:=qcp) b (fun i s=>(s,i)) (fun _ _=>True) (fun rest i s=>some (rest.foldl S.sumStep s,())) hl (fun K s hI=>?_) (fun K i v rest s hI r hk=>?_) 1 trivial
 ·simp only[qnn,qbd,jae];rfl
 ·simp only[qnn,r.ilt,jaa,r.get,r.next];exact hk _ trivial
theorem zg4:Con Try.prog zpb q2l:=zsf trivial fun x y hx h=>⟨LF,(zqy _ (qbu hx.1)).trans h⟩
theorem zbv(b:List Int)(hl:b.length<LF):Fz17 LF b=some ((S.sum4 b,()),(some b,())):=by
 simp only[Fz17,qty,qkq];refine range0 (α:=Int) (σ:=Int) (R:=qcf) b (fun i s=>(s,i)) (fun _ _=>True) (fun rest i s=>some ((S.sum4I (rest.foldl S.sumStep s),()),(some b,()))) hl (fun K s hI=>?_) (fun K i v rest s hI r hk=>?_) 1 trivial
 ·simp only[qnx,qbd,jae];rfl
 ·have e1:Int.toNat (Int.ofNat i)=i:=rfl;simp only[qnx,r.ilt,jaa,r.get,e1,r.get?,r.next];exact hk _ trivial
theorem zbn:ConR Try.prog zk5 qor:=zjl trivial (fun x y h=>by
 match x,h with
 | (some b,()),_=>exact⟨b,rfl⟩
 | (none,()),h=>cases h) fun b y hx h=>⟨LF,(zbv b (by
  have h1:List.length (α:=Int) b*1<=140737488355328:=hx.1.1;unfold LF;omega)).trans h⟩
theorem zcc{s v:Int}(h1:0<=s)(h2:s<2147483647)(h3:0<=v)(h4:v<256):0<=S.sumStep s v/\S.sumStep s v<2147483647:=by
 have e:Int.mul (Int.ofNat 31) s=31*s:=rfl;have e2:Int.add (31*s) v=31*s+v:=rfl;unfold S.sumStep;rw[e,w64 (n:=31*s) (by omega) (by omega),w64 (n:=v) (by omega) (by omega),e2,w64 (n:=31*s+v) (by omega) (by omega),jdb (by omega)];show 0<=(31*s+v) % 2147483647/\(31*s+v) % 2147483647<2147483647;omega
theorem q0n:∀(b:List Int) (s:Int),(∀v∈b,0<=v/\v<256)->0<=s->s<2147483647->0<=b.foldl S.sumStep s/\b.foldl S.sumStep s<2147483647
 | [],s,_,h1,h2=>⟨h1,h2⟩
 | v::b,s,hb,h1,h2=>by
  obtain⟨g1,g2⟩:=hb v (jbd ..);obtain⟨k1,k2⟩:=zcc h1 h2 g1 g2;exact q0n b _ (fun w hw=>hb w (ja2 _ hw)) k1 k2
theorem ze1(lf:Nat)(b:List Int)(hl:b.length+100<=140737488355328)(hb:∀v∈b,0<=v/\v<256):qpk lf b=some (List.append b (S.sum4 b),()):=by
 obtain⟨h1,h2⟩:=q0n b 1 hb (by omega) (by omega);have r1:Nat.ble (Nat.mul (Nat.add 0 b.length) 1) 140737488355328=true:=qex (by omega);have r2:Nat.ble (Nat.mul (Nat.add b.length 4) 1) 140737488355328=true:=qex (by omega);have ha:List.append ([]:List Int) b=b:=rfl;simp only[qpk,q3m,ha,r1,r2,jaa];have hs:S.sum4 b=S.sum4I (b.foldl S.sumStep 1):=rfl;have hi:S.sumI b=b.foldl S.sumStep 1:=rfl;rw[hs,hi];generalize b.foldl S.sumStep 1=s at h1 h2;have t1:Int.tdiv s (Int.ofNat 16777216)=s / 16777216:=jdx h1;have t2:Int.tdiv s (Int.ofNat 65536)=s / 65536:=jdx h1;have t3:Int.tdiv s (Int.ofNat 256)=s / 256:=jdx h1;have f1:Int.fdiv s (Int.ofNat 16777216)=s / 16777216:=jcm s (by show (0:Int)<=16777216;omega);have f2:Int.fdiv s (Int.ofNat 65536)=s / 65536:=jcm s (by show (0:Int)<=65536;omega);have f3:Int.fdiv s (Int.ofNat 256)=s / 256:=jcm s (by show (0:Int)<=256;omega);have m2:Int.tmod (s / 65536) (Int.ofNat 256)=s / 65536 % 256:=jdb (by omega);have m3:Int.tmod (s / 256) (Int.ofNat 256)=s / 256 % 256:=jdb (by omega);have m4:Int.tmod s (Int.ofNat 256)=s % 256:=jdb h1;rw[t1,t2,t3,w64 (n:=s / 16777216) (by omega) (by omega),w64 (n:=s / 65536) (by omega) (by omega),w64 (n:=s / 256) (by omega) (by omega),m2,m3,m4];unfold S.sum4I;rw[f1,f2,f3];simp only[w8];have q2:s / 65536 % 256 % 256=s / 65536 % 256:=by omega
 have q3:s / 256 % 256 % 256=s / 256 % 256:=by omega
 have q4:s % 256 % 256=s % 256:=by omega
 rw[q2,q3,q4]
theorem zt7:Con Try.prog zq0 q6q:=zft ⟨zg4,trivial⟩ fun x y hx h=>⟨LF,by
 obtain⟨b,_⟩:=x;have h:cond (Nat.ble (List.length (α:=Int) b+100) 140737488355328) (some (List.append (α:=Int) b (S.sum4 b),())) none=some y:=h;cases hk:Nat.ble (List.length (α:=Int) b+100) 140737488355328 with
 | false=>rw[hk] at h;cases h
 | true =>
  rw[hk] at h;refine(ze1 LF b (jan hk) fun v hv=>?_).trans h;have h8:IntKind.u8.wrap v=v:=(hx.1:_/\_).2 v hv;rw[w8] at h8;omega⟩
def q9w:Sm:=⟨[.list (.int .u8)],[(false,.list (.int .u8))],fun x=>some (S.sum4 x.1,())⟩
theorem zph(b:List Int)(hl:b.length<LF):Fz12 LF b=some (S.sum4 b,()):=by
 simp only[Fz12,qxv,qkf];refine range0 (α:=Int) (σ:=Int) (R:=qcj) b (fun i s=>(s,i)) (fun _ _=>True) (fun rest i s=>some (S.sum4I (rest.foldl S.sumStep s),())) hl (fun K s hI=>?_) (fun K i v rest s hI r hk=>?_) 1 trivial
 ·simp only[qp9,qbd,jae];rfl
 ·simp only[qp9,r.ilt,jaa,r.get,r.next];exact hk _ trivial
theorem zp4:Con Try.prog zea q9w:=zlr trivial fun x y hx h=>⟨LF,(zph x.1 (qbu hx.1)).trans h⟩
def S.eqB:List Int->List Int->Bool
 | [],[]=>true
 | a::x,b::y=>ieqI a b&&S.eqB x y
 | _,_=>false
theorem qgl:∀{a b:List Int},S.eqB a b=true↔a=b
 | [],[]=>by simp[S.eqB]
 | [],_::_=>by simp[S.eqB]
 | _::_,[]=>by simp[S.eqB]
 | a::x,b::y=>by simp[S.eqB,qat,qgl (a:=x) (b:=y)]
def quz:Sm:=⟨[.list (.int .u8),.list (.int .u8)],[(false,.bool)],fun x=>some (S.eqB x.1 x.2.1,())⟩
theorem zn7(a b:List Int)(ha:a.length<LF):Fz13 LF a b=some (S.eqB a b,()):=by
 simp only[Fz13,qte];by_cases hl:a.length=b.length
 ·have h1:ieqI (Int.ofNat a.length) (Int.ofNat b.length)=true:=by rw[qat];exact jaj (by rw[hl])
  simp only[h1,jbf,jae];refine(qcg (R:=qco) a (fun rest i=>some (S.eqB rest (b.drop i),())) ha (fun K=>?_) (fun K i v rest r hk=>?_)).trans ?_
  ·simp only[qp3,qbd,jae];rw[hl,jd3];rfl
  ·have hi:i<b.length:=by rw[<- hl];exact r.lt
   have hj:jget b (Int.ofNat i)=some b[i]:=by rw[qcz];exact jab hi
   have hd:b.drop i=b[i]::b.drop (i+1):=jbs hi;simp only[qp3,r.ilt,jaa,r.get,hj,r.next];rw[hd];show (cond (Bool.not (ieqI v b[i])) (some (false,())) (K (Int.ofNat (i+1))))=some (ieqI v b[i]&&S.eqB rest (b.drop (i+1)),());cases ieqI v b[i] with
   | false=>rfl
   | true=>exact hk
  ·rw[jcu]
 ·have h1:ieqI (Int.ofNat a.length) (Int.ofNat b.length)=false:=by rw[qat];exact jai (fun e=>hl (jeo e))
  simp only[h1,ja7,jaa];have:S.eqB a b=false:=by
   cases he:S.eqB a b with
   | false=>rfl
   | true=>exact absurd (by rw[qgl.1 he]) hl
  rw[this]
theorem q86:Con Try.prog zko quz:=za2 trivial fun x y hx h=>⟨LF,by
 obtain⟨a,b,_⟩:=x;exact(zn7 a b (qbu hx.1)).trans h⟩
end Go.Proofs.Ytcnhjofpmpipfaa
end

section
namespace Go.Jx
open Go Go.Sx Go.RowKit
universe u

def panV(pt:Nat)(pc:List TC)(x:ElA pc):IV:=.iface pt (.agg (argV pc x))
def rdA:(cs:List TC)->List IV->Option (ElA cs)
 | [],[]=>some ()
 | .int k::cs,.int k' n::vs=>cond (kbeq k k') (match rdA cs vs with
  | some x=>some (n,x)
  | none=>none) none
 | .bool::cs,.bool b::vs=>match rdA cs vs with
  | some x=>some (b,x)
  | none=>none
 | .str::cs,.str s::vs=>match rdA cs vs with
  | some x=>some (s,x)
  | none=>none
 | _,_=>none
theorem qpm:∀(cs:List TC) {vs:List IV} {x:ElA cs},rdA cs vs=some x->vs=argV cs x/\vs.all qgy=true
 | [],vs,x,h=>by
  cases vs with
  | nil=>exact⟨rfl,rfl⟩
  | cons v vs=>simp [rdA] at h
 | .int k::cs,vs,x,h=>by
  cases vs with
  | nil=>simp [rdA] at h
  | cons v vs =>
  cases v<;>try (simp [rdA] at h;done)
  rename_i k' n;simp only[rdA] at h;cases hk:kbeq k k' with
  | false=>rw[hk] at h;cases h
  | true =>
  rw[hk,jaa] at h;split at h<;>cases h;rename_i y hy;obtain⟨e1,e2⟩:=qpm cs hy;rw[<- qe8 hk];exact⟨by show _=IV.int k n::argV cs y;rw[e1],by simp only[jci,e2,qgy,jcx]⟩
 | .bool::cs,vs,x,h=>by
  cases vs with
  | nil=>simp [rdA] at h
  | cons v vs =>
  cases v<;>try (simp [rdA] at h;done)
  rename_i b;simp only[rdA] at h;split at h<;>cases h;rename_i y hy;obtain⟨e1,e2⟩:=qpm cs hy;exact⟨by show _=IV.bool b::argV cs y;rw[e1],by simp only[jci,e2,qgy,jcx]⟩
 | .str::cs,vs,x,h=>by
  cases vs with
  | nil=>simp [rdA] at h
  | cons v vs =>
  cases v<;>try (simp [rdA] at h;done)
  rename_i s;simp only[rdA] at h;split at h<;>cases h;rename_i y hy;obtain⟨e1,e2⟩:=qpm cs hy;exact⟨by show _=IV.str s::argV cs y;rw[e1],by simp only[jci,e2,qgy,jcx]⟩
 | .list c::cs,vs,x,h=>by cases vs with
  | nil=>simp [rdA] at h
  | cons v vs=>cases v<;>simp [rdA] at h
 | .two a b::cs,vs,x,h=>by cases vs with
  | nil=>simp [rdA] at h
  | cons v vs=>cases v<;>simp [rdA] at h
def qxp(pt:Nat)(pc:List TC):IV->Option (ElA pc)
 | .iface t (.agg cs)=>cond (Nat.beq t pt) (rdA pc cs) none
 | _=>none
theorem zcj{pt:Nat}{pc:List TC}{v:IV}{x:ElA pc}(h:qxp pt pc v=some x):v=panV pt pc x/\qbp v=true:=by
 unfold qxp at h;split at h<;>try cases h
 rename_i t cs;cases hb:Nat.beq t pt with
 | false=>rw[hb] at h;cases h
 | true =>
 rw[hb,jaa] at h;obtain⟨e1,e2⟩:=qpm pc h;unfold panV;rw[<- e1,jah hb];exact⟨rfl,e2⟩
structure SmP where
 ps:List PK
 rts:List (Bool × TC)
 pt:Nat
 pc:List TC
 f:ElP ps->Option (ElA pc ⊕ (ElR rts × ElP (refs ps)))
def SmP.r(s:SmP):SmR:=⟨s.ps,s.rts,fun x=>match s.f x with
 | some (.inr y)=>some y
 | _=>none⟩
def full(n:Nat):Nat:=2 ^ n-1
theorem zc9{n id:Nat}(h:id<n):(full n).testBit id=true:=by unfold full;rw[jc9];simpa using h
def PanB(E:Env)(S:IS)(v:IV):Ending->World->Prop:=fun e w'=>∃u,e=.panicked [{ v:=u,recovered:=false }]/\VR (E.at_ w') v u/\qbp v=true/\Post T0 E S (E.at_ w') (kill (full S.next) S)
def RetO(s:SmP)(E:Env)(x:ElP s.ps)(o:ElA s.pc ⊕ (ElR s.rts × ElP (refs s.ps))):Ending->World->Prop:=match o with
 | .inl p=>PanB E (Sc s.ps x) (panV s.pt s.pc p)
 | .inr (y,z)=>RetB (mP s.ps) T0 E (Sc s.ps x) ⟨vB s.r (mP s.ps) y,ScB s.r y z,0,0⟩
structure ConP (P:Program) (f:Nat) (s:SmP):Prop where
 callable:qai P f
 calls:∀(E:Env) (x:ElP s.ps) (us:List Value) (o:ElA s.pc ⊕ (ElR s.rts × ElP (refs s.ps))),s.f x=some o->Pre T0 E (Sc s.ps x)->VRs E (qag s.ps idN 0 x) us ->
  CallsIn Fence.wide 0 P f us.toArray E.w (RetO s E x o)
theorem ConP.r{P:Program}{f:Nat}{s:SmP}(h:ConP P f s):ConR P f s.r:=by
 refine⟨h.callable,fun E x us y z hf p hv=>?_⟩;have hf:(match s.f x with|some (.inr y)=>some y|_=>none)=some (y,z):=hf;split at hf<;>cases hf;rename_i ho;exact h.calls E x us _ ho p hv

def cpP(s:SmP)(vs:List IV)(S:IS):Option Res :=
 match rdP s.ps S vs with
 | none=>none
 | some (x0,rows,subs,S1,w)=>cond (ndB (rows++subs)) (match fiP s.ps rows subs S1 x0 with
  | none=>none
  | some x=>match s.f x with
   | none=>none
   | some (.inr (y,z))=>some ⟨vB s.r S1.next y,qbv s.r S1.next rows subs y z S1,0,(w ||| qa3 (rows++subs)) ||| cond (Nat.blt 0 rows.length) 0 (2 ^ S1.next)⟩
   | some (.inl q)=>cond (qbp (panV s.pt s.pc q)) (some ⟨.pan (panV s.pt s.pc q),kill (qa3 (rows++subs)) S1,0,(w ||| qa3 (rows++subs)) ||| cond (Nat.blt 0 rows.length) 0 (2 ^ S1.next)⟩) none) none
def cpPK{R:Type}(s:SmP)(vs:List IV)(S:IS)(kk:Res->Option R):Option R :=
 match rdP s.ps S vs with
 | none=>none
 | some (x0,rows,subs,S1,w)=>cond (ndB (rows++subs)) (match fiP s.ps rows subs S1 x0 with
  | none=>none
  | some x=>match s.f x with
   | none=>none
   | some o=>match o with
    | .inr (y,z)=>kk ⟨vB s.r S1.next y,qbv s.r S1.next rows subs y z S1,0,(w ||| qa3 (rows++subs)) ||| cond (Nat.blt 0 rows.length) 0 (2 ^ S1.next)⟩
    | .inl q=>cond (qbp (panV s.pt s.pc q)) (kk ⟨.pan (panV s.pt s.pc q),kill (qa3 (rows++subs)) S1,0,(w ||| qa3 (rows++subs)) ||| cond (Nat.blt 0 rows.length) 0 (2 ^ S1.next)⟩) none) none
theorem zr7{R:Type}(s:SmP)(vs:List IV)(S:IS)(kk:Res->Option R):cpPK s vs S kk=ob (cpP s vs S) kk:=by
 simp only[cpPK,cpP];cases rdP s.ps S vs with
 | none=>rfl
 | some q =>
  obtain⟨x0,rows,subs,S1,w⟩:=q;simp only[qa6];cases fiP s.ps rows subs S1 x0 with
  | none=>rfl
  | some x =>
   simp only;cases s.f x with
   | none=>rfl
   | some o =>
    cases o with
    | inr q=>rfl
    | inl q=>simp only[qa6];rfl
def hxP(s:SmP):Hx:=⟨fun _ vs S=>cpP s vs S,fun _ _ vs S kk=>cpPK s vs S kk,fun _ _ _ _ vs S kk=>zr7 s vs S kk⟩
section
variable {P : Program} {T : TW} {E : Env} {S : IS}
theorem q5v{W:Nat->Prop}{S:IS}{m:Nat}{w':World}(p:Pre T E S)(hW:∀id,W id->T.w id)(hm:∀id,W id->E.A id->m.testBit id=true)(h1:w'.os=E.w.os)(h2:w'.tape=E.w.tape)(h3:w'.output=E.w.output)(h4:E.w.heap.size<=w'.heap.size)
  (h5:∀b,b<E.w.heap.size->(∀id,W id->E.A id->Live E S.H id->E.ρ id≠b)->w'.heap[b]?=E.w.heap[b]?):Post T E S (E.at_ w') (kill m S)/\Fresh E S (E.at_ w') :=
 kill_post (E:=E.at_ w') (H':=fun _=>some .dead) p hW hm ⟨h1,h2,h3,h4,h5,fun id h=>⟨h,rfl,rfl,rfl,rfl⟩,fun id h k=>absurd h k,(fun id _ _ h=>by obtain⟨_,o,h,k⟩:=h;cases h;cases k),fun b h=>Or.inl h,fun b h _=>Or.inl h⟩
theorem zj6{ps:List PK}{vs:List IV}{x0 x:ElP ps}{rows subs:List Nat}{S1:IS}{w:Nat}{us:List Value}(hrd:rdP ps S vs=some (x0,rows,subs,S1,w))(hb1:ndB (rows++subs)=true)(hfi:fiP ps rows subs S1 x0=some x)(p:Pre T E S)(hwr:tin T.w (w ||| qa3 (rows++subs)))(hv:VRs E vs us) :
  ∃E1,E1.w=E.w/\Post T E S E1 S1/\Fresh E S E1/\Pre T0 (renE 0 (rows++subs) E1) (Sc ps x)/\VRs (renE 0 (rows++subs) E1) (qag ps idN 0 x) us/\(∀k,k<(rows++subs).length->Live (renE 0 (rows++subs) E1) (Sc ps x).H k->Live E1 S1.H (ol 0 (rows++subs) k))/\(∀id∈rows++subs,T.w id/\E1.A id):=by
 obtain⟨g1,g2⟩:=qak hwr;obtain⟨E1,e1,q1,f1,l1,l2,A2,b2,b3,hok⟩:=qmw ps hrd p g1 hv;have p1:=q1.pre p;obtain⟨_,c2,c3⟩:=qdn ps hfi l2;have hnd:=qig hb1;have hT:=qps g2;generalize hq:rows++subs=q at hnd hT;have hql:q.length=mP ps+nP ps:=by rw[<- hq,jaq,l1,l2]
 have hnq:Nums (ol 0 q) 0 q:=fun j id hj=>by
  rw[ja4];unfold ol;rw[jak (by omega),jc4,jal,hj];rfl
 have hnr:Nums (ol 0 q) 0 rows:=by rw[<- hq] at hnq ⊢;exact hnq.fst
 have hns:Nums (ol 0 q) (mP ps) subs:=by
  have:=hnq;rw[<- hq] at this;have:=this.snd
  rwa [ja4,l1,hq] at this
 have hTr:∀id∈rows,T.r id:=fun id hid=>T.sub _ (hT id (by rw[<- hq];exact jb1 _ hid));have hrows:=qqt hfi l2 p1 hTr (b3 _ _ hns (.inr hnr));have hrk:∀k,k<mP ps->rows[k]?=some (ol 0 q k):=fun k hk=>by
  have h1:k<rows.length:=by omega
  rw[jab h1,<- hnr k _ (jab h1),ja4]
 have hsk:∀k,mP ps<=k->k<q.length->subs[k-mP ps]?=some (ol 0 q k):=fun k h1 h2=>by
  have h3:k-mP ps<subs.length:=by omega
  rw[jab h3,<- hns _ _ (jab h3),jes h1]
 have hrowA:∀k,k<mP ps->∃r nj xj,(∀ι,(qal ps ι (mP ps) x)[k]?=some (objK r ι nj xj))/\mP ps<=nj/\nj+nK r<=q.length/\E1.A (ol 0 q k)/\((objK r (ol 0 q) nj xj).blk=true->E1.hb (ol 0 q k)=true)/\OR E1 (ol 0 q k) (objK r (ol 0 q) nj xj)/\((objK r (ol 0 q) nj xj).live=true->∃o0,S1.H (ol 0 q k)=some o0/\o0.live=true)/\∀k'∈isK r,k'<mP ps:=fun k hk=>by
  have h1:k<(qal ps (ol 0 q) (mP ps) x).length:=by rw[qaw];exact hk
  obtain⟨r,nj,xj,d1,d2,d3,d4,d5⟩:=qeu ps (ol 0 q) (mP ps) x k _ (jab h1);obtain⟨id,i1,i2,i3,i4,i5⟩:=hrows k _ (d4 (ol 0 q));rw[hrk k hk] at i1;cases i1;exact⟨r,nj,xj,d4,d2,by omega,i2,i3,i4,i5,d5 _ hok⟩
 have hA:∀id∈q,E1.A id:=fun id hid=>by
  rw[<- hq] at hid;rcases jbe.1 hid with hid|hid
  ·obtain⟨k,hk,rfl⟩:=jbq.1 hid;obtain⟨_,_,_,_,_,_,i2,_,_⟩:=hrowA k (by omega);have:=hrk k (by omega);rw[jab hk,jaw] at this;rw[this];exact i2
  ·exact A2 id hid
 have hnum:∀k,k<q.length->qb5 E1 (renE 0 q E1) (ol 0 q k) k:=fun k hk hA=>⟨⟨by omega,hA⟩,rfl,rfl,rfl,rfl⟩;have hobj:∀k o,k<q.length->E1.A (ol 0 q k)->(Sc ps x).H k=some o->ObjTo E1 S1 (renE 0 q E1) (ol 0 q k) k o:=fun k o hk hAk ho=>by
  unfold Sc at ho;rw[qf4] at ho;by_cases hkm:k<mP ps
  ·rw[jat (by rw[qaw];exact hkm)] at ho;obtain⟨r,nj,xj,d1,d2,d3,d4,d5,d6,d7,d8⟩:=hrowA k hkm;rw[d1 idN] at ho;cases ho;exact⟨OR.objK_to (E:=E1) (E':=renE 0 q E1) (fun _ h=>h) rfl hAk (hnum k hk) (fun j a b=>hnum j (by omega)) (fun j hj=>hnum j (by have:=d8 j hj;omega)) d6,fun hl=>d7 (ql0.trans hl),fun hb=>d5 (qhl.trans hb)⟩
  ·rw[jau (by rw[qaw];omega),qaw] at ho;have hd:=qnw _ _ _ (jbb ho);rw[c3,hsk k (by omega) hk] at ho;have hid:=(qbo hk).1;exact⟨OR.dat_to (E:=E1) (E':=renE 0 q E1) (fun _ h=>h) rfl hAk (hnum k hk) hd (p1.st.objs _ (T.sub _ (hT _ hid)) hAk _ ho),fun hl=>⟨_,ho,hl⟩,fun hbk=>p1.st.blk _ (T.sub _ (hT _ hid)) hAk _ ho hbk⟩
 have hpre:Pre T0 (renE 0 q E1) (Sc ps x):=Pre.re p1 hnd (fun id h=>T.sub _ (hT id h)) (by rw[qgu,hql]) hobj;have hargs:VRs (renE 0 q E1) (qag ps idN 0 x) us:=argsP_env (E:=E1) (E':=renE 0 q E1) (ρ:=ol 0 q) (fun _ h=>h) rfl ps (fun j a b=>hnum j (by omega)) (by rw[c2];exact b2 _ _ hnr);have hsb:∀k,k<q.length->Live (renE 0 q E1) (Sc ps x).H k->Live E1 S1.H (ol 0 q k):=fun k hk ⟨h0,o,h1,h2⟩=>⟨h0,(hobj k o hk (hA _ (qbo hk).1) h1).live h2⟩;exact⟨E1,e1,q1,f1,hpre,hargs,hsb,fun id h=>⟨hT id h,hA id h⟩⟩
theorem zps{f:Nat}{s:SmP}(hc:ConP P f s){vs:List IV}{x0 x:ElP s.ps}{rows subs:List Nat}{S1:IS}{w:Nat}{us:List Value}{q:ElA s.pc}{r:Res}(hrd:rdP s.ps S vs=some (x0,rows,subs,S1,w))(hb1:ndB (rows++subs)=true)(hfi:fiP s.ps rows subs S1 x0=some x)(hf:s.f x=some (.inl q))
  (hr:r.S=kill (qa3 (rows++subs)) S1) (p:Pre T E S) (hwr:tin T.w (w ||| qa3 (rows++subs))) (hv:VRs E vs us):CallsIn Fence.wide 0 P f us.toArray E.w (RetP T E S r (panV s.pt s.pc q)):=by
 obtain⟨E1,e1,q1,f1,hpre,hargs,hsb,hq⟩:=zj6 hrd hb1 hfi p hwr hv;have p1:=q1.pre p;have hcall:=hc.calls _ x us _ hf hpre hargs;rw[show (renE 0 (rows++subs) E1).w=E.w from e1] at hcall;refine hcall.mono fun e w' hR=>?_;obtain⟨u,rfl,k1,kf,k2⟩:=hR;have hs:=k2.stp;obtain⟨z1,z2⟩:=q5v (W:=fun id=>id∈rows++subs) (m:=qa3 (rows++subs)) (w':=w') p1 (fun id h=>(hq id h).1) (fun id h _=>qpr h) hs.os hs.tape hs.output hs.size (fun b hb h=>by
  refine hs.same b hb fun j _ hA hL e=>?_;have hj:j<(rows++subs).length:=by have:=hA.1;omega
  have:=hsb j hj hL;exact h (ol 0 (rows++subs) j) (qbo hj).1 hA.2 this e)
 exact⟨u,E1.at_ w',rfl,rfl,qmy kf k1,by rw[hr];exact Post.trans p q1 f1 z1,by exact f1.trans z2 q1.le⟩
theorem zfp{f:Nat}{s:SmP}(hc:ConP P f s){vs:List IV}{r:Res}(h:cpP s vs S=some r){us:List Value}(p:Pre T E S)(hwr:tin T.w r.wr)(hv:VRs E vs us) :
  qai P f/\CallsIn Fence.wide 0 P f us.toArray E.w (RetX T E S r):=by
 refine⟨hc.callable,?_⟩;have h0:=h;unfold cpP at h;split at h
 ·cases h
 rename_i x0 rows subs S1 w hrd;cases hb1:ndB (rows++subs) with
 | false=>rw[hb1] at h;cases h
 | true =>
 rw[hb1,jaa] at h;split at h
 ·cases h
 rename_i x hfi;split at h
 ·cases h
 ·rename_i y z hf;refine(q07 (s:=s.r) hc.r (r:=r) ?_ p hwr hv).2.mono fun _ _=>RetX.of;unfold exR;rw[show rdP s.r.ps S vs=some (x0,rows,subs,S1,w) from hrd];simp only[hb1,jaa];rw[show fiP s.r.ps rows subs S1 x0=some x from hfi];simp only;rw[show s.r.f x=some (y,z) from by show (match s.f x with|some (.inr y)=>some y|_=>none)=_;rw[hf]];exact h
 ·rename_i q hf;cases hfl:qbp (panV s.pt s.pc q) with
  | false=>rw[hfl] at h;cases h
  | true =>
  rw[hfl,jaa] at h;cases h;exact(zps hc hrd hb1 hfi hf rfl p (qak hwr).1 hv).mono fun _ _ h=>h
theorem zd8{s:SmP}{vs:List IV}{S:IS}:FrO S (cpP s vs S):=fun r h=>by
 unfold cpP at h;split at h
 ·cases h
 rename_i x0 rows subs S1 w hrd;cases hb:ndB (rows++subs) with
 | false=>rw[hb] at h;cases h
 | true =>
 rw[hb,jaa] at h;split at h
 ·cases h
 have h1:=qjq _ hrd;split at h
 ·cases h
 ·rename_i y z hf;cases h;have h2:=(qqc subs S1).trans ((qn2 rows (qal (refs s.ps) (nuB rows (mP s.ps) S1.next) (mP s.ps) z) _).trans (qly (newO s.r y z) _ 0));have h3:=h1.trans h2;rw[jd5,Nat.or_comm (qa3 subs),<- qpq] at h3;have h4:=h3.trans (FrX.refl _ (cond (Nat.blt 0 rows.length) 0 (2 ^ S1.next)));exact h4
 ·rename_i q hf;cases hfl:qbp (panV s.pt s.pc q) with
  | false=>rw[hfl] at h;cases h
  | true =>
  rw[hfl,jaa] at h;cases h;have h2:FrX S1 (kill (qa3 (rows++subs)) S1) (qa3 (rows++subs)):=⟨by rw[qmg];exact jar _,fun id hid hw=>by rw[qe4,jak (fun h=>by rw[hw] at h;cases h.2)]⟩;exact(h1.trans h2).trans (FrX.refl _ (cond (Nat.blt 0 rows.length) 0 (2 ^ S1.next)))
theorem zmo{s:SmP}{vs:List IV}{S:IS}{r:Res}(h:cpP s vs S=some r)(hw:r.wr=0):False:=by
 unfold cpP at h;split at h
 ·cases h
 rename_i x0 rows subs S1 w hrd;cases hb:ndB (rows++subs) with
 | false=>rw[hb] at h;cases h
 | true =>
 rw[hb,jaa] at h;split at h
 ·cases h
 have key:(w ||| qa3 (rows++subs)) ||| cond (Nat.blt 0 rows.length) 0 (2 ^ S1.next)=0->False:=fun hw=>by
  have h2:qa3 (rows++subs)=0:=(or_zero (or_zero hw).1).2;cases rows with
  | nil =>
   have h3:2 ^ S1.next=0:=(or_zero hw).2
   have:=jed (n:=S1.next);omega
  | cons id rows =>
   have:=qpr (l:=id::rows++subs) (id:=id) (by simp);rw[h2] at this;simp at this
 split at h
 ·cases h
 ·cases h;exact key hw
 ·cases hfl:qbp _ with
  | false=>rw[hfl] at h;cases h
  | true=>rw[hfl,jaa] at h;cases h;exact key hw
theorem zpf{f:Nat}{s:SmP}(hc:ConP P f s):HxOK P f (hxP s).f :=
 ⟨fun cl _ _ _ vs S r h T E us p _ hw hv=>zfp hc h p hw hv,fun cl _ vs S=>zd8,fun cl _ vs S r h hw _=>(zmo h hw).elim⟩
end

def zu1{α β:Type}:Option β->Option (α ⊕ β)
 | none=>none
 | some b=>some (.inr b)
def qb3(tt:Nat->Option TI)(fi:FI)(s:SmP)(r:CRes):Option (ElA s.pc ⊕ (ElR s.rts × ElP (refs s.ps))):=match r.e with
 | .pan q=>match qeg r.ds r.S with
  | none=>none
  | some _=>match qxp s.pt s.pc q with
   | none=>none
   | some x=>some (.inl x)
 | _=>zu1 (qce tt fi s.r r)
section
variable {P : Program} {tt : Nat -> Option TI} {ft : Nat -> Option FI}
theorem ztv{fi:FI}{f:Nat}{nm:Nat->Option Nm}{cl:Cl}{lf:Nat}{s:SmP}{x:ElP s.ps}{o:ElA s.pc ⊕ (ElR s.rts × ElP (refs s.ps))}{r1:CRes}(hm:P.follows .mixedOrders=true)(htt:TT P tt)
  (hfi:∃fn,P.funcs[f]?=some fn/\fn.body=some fi.body/\fn.ntmps=fi.nt/\fn.results=fi.res.toArray/\(fn.name == "runtime.NumGoroutine") = false/\qaz fi.body=true) (hcl:ClOK P cl) (hfr:ClFr cl)
  (hb:Nat.ble (qag s.ps idN 0 x).length fi.nt=true) (hr1:qad P tt nm (mP s.ps) fi.nt cl lf none fi.body (qaq (qag s.ps idN 0 x) 0 .leaf) (Sc s.ps x) []=some r1) (h:qb3 tt fi s r1=some o)
  {E:Env} {us:List Value} (p:Pre T0 E (Sc s.ps x)) (hv:VRs E (qag s.ps idN 0 x) us) :
  CallsIn Fence.wide 0 P f us.toArray E.w (RetO s E x o):=by
 unfold qb3 at h;split at h
 ·rename_i q he;split at h
  ·cases h
  rename_i mk hmk;obtain⟨S',wr⟩:=mk;split at h<;>cases h;rename_i px hpx;obtain⟨e1,e2⟩:=zcj hpx;obtain⟨fn,f1,f2,f3,f4,f5,f6⟩:=hfi;refine jd6 f1 f2 trivial ?_;refine qf3 (T:=T0) (E:=E) (S:=Sc s.ps x) (ds:=[]) (round:=none) (B:=mP s.ps) (fun _ _=>trivial) hm rfl hcl hfr htt fi.body f6 p (by rw[qgu];omega) (fun _ _=>trivial) ?_ (DS.nil (N:=E.w.heap.size) (jar _)) (fun _=>rfl) hr1 (fun _ _=>trivial) (fun _ _=>trivial) ?_
  ·have:=FR.enter (nt:=fi.nt) hv (jan hb);rw[f3];exact this
  intro E1 a1 x1 k0 k1 k2 kB;rw[he] at k0;obtain⟨u,rfl,k0⟩:=k0;have p1:=kB.pre (fun _ _=>trivial) p;have hlv:LeavesInM Fence.wide 0 P fn a1.tmps (PanB E (Sc s.ps x) q) a1.defers (.panicking [{ v:=u,recovered:=false }]) E1.w:=by
   refine qmo (E0:=E) (S0':=Sc s.ps x) (B:=mP s.ps) (by simp) (jar _) (fun _ _=>trivial) p1 k2 kB hmk (fun _ _=>trivial) fun E2 hq p2 hv2=>?_;obtain⟨z1,z2⟩:=q5v (T:=T0) (W:=fun _=>True) (m:=full (Sc s.ps x).next) (w':=E2.w) p (fun _ _=>trivial) (fun id _ hA=>zc9 (p.bnd id hA)) hq.os hq.tape hq.output hq.size (fun b hb h=>hq.same b hb fun id ht hA hL=>h id trivial hA hL);exact⟨u,rfl,qmy e2 (hv2 _ _ k0),e2,z1⟩
  rw[e1] at hlv;exact hlv
 ·rename_i hne;cases hq:qce tt fi s.r r1 with
  | none=>rw[hq] at h;cases h
  | some yz =>
   rw[hq] at h;cases h;obtain⟨y,z⟩:=yz;exact q0b (s:=s.r) hm htt hfi hcl hfr hb hr1 hq p hv
def atP(P:Program)(tt:Nat->Option TI)(nm:Nat->Option Nm)(fi:FI)(s:SmP)(clK:ClK (ElA s.pc ⊕ (ElR s.rts × ElP (refs s.ps))))(lf:Nat)(hd:Nat->Bool)(k:Nat)(ns:List Nat)(x:NRes):Option (ElA s.pc ⊕ (ElR s.rts × ElP (refs s.ps))) :=
 atNB P tt nm (mP s.ps) fi.nt fi.body clK lf hd (qb3 tt fi s) k ns x
variable {nm : Nat -> Option Nm} {lf : Nat} {st hd : Nat -> Bool} {cl : Cl}
theorem qet(hz:frzF nm=true){fi:FI}{s:SmP}{clK:ClK (ElA s.pc ⊕ (ElR s.rts × ElP (refs s.ps)))}(h:ClEq cl clK)(hn:(regs fi.body).Nodup)(hl:okC nm st hd fi.body none=true)(k:Nat)(ns ns':List Nat)(hd':dn (hd k) ns=some ns')(x:NRes) :
  atP P tt nm fi s clK lf hd k ns x=qba P tt nm (mP s.ps) fi.nt clK lf st (atP P tt nm fi s clK lf hd) k fi.body [] ns' x (qb3 tt fi s):=qsp (q1z hz) h hn hl k ns ns' hd' x
theorem qob{fi:FI}{s:SmP}{clK:ClK (ElA s.pc ⊕ (ElR s.rts × ElP (refs s.ps)))}(k:Nat)(ns:List Nat)(hd':dn (hd k) ns=none)(x:NRes):atP P tt nm fi s clK lf hd k ns x=none:=qsu k ns hd' x
theorem conTP{sml:List (Nat × Sm)}{hxl:List (Nat × Hx)}{f:Nat}{s:SmP}{fi:FI}{nmf:Nat->Option Nm}{st hd:Nat->Bool}(n:Nat)(hm:P.follows .mixedOrders=true)(htt:TT P tt)(hft:FT P ft)(hsm:SmOK P sml)
  (hhx:qa2 P hxl) (hC:qai P f) (h3:ft f=some fi) (h4:∀x,Nat.ble (qag s.ps idN 0 x).length fi.nt=true) (hn:(regs fi.body).Nodup) (hl:okC nmf st hd fi.body none=true)
  (hrun:∀(x:ElP s.ps) (o:ElA s.pc ⊕ (ElR s.rts × ElP (refs s.ps))),WfP s.ps x->s.f x=some o->∃lf,
   qbm P tt nmf (mP s.ps) fi.nt (qau P tt ft (fun _ _=>none) (smL sml) (hxL hxl) lf n (ElA s.pc ⊕ (ElR s.rts × ElP (refs s.ps)))) lf st
    (atNB P tt nmf (mP s.ps) fi.nt fi.body (qau P tt ft (fun _ _=>none) (smL sml) (hxL hxl) lf n (ElA s.pc ⊕ (ElR s.rts × ElP (refs s.ps)))) lf hd (qb3 tt fi s)) fi.body [] (qaq (qag s.ps idN 0 x) 0 .leaf) (Sc s.ps x) [] (qb3 tt fi s)=some o)
  (hz:frzF nmf=true:=by rfl):ConP P f s:=by
 have hB0:mB nmf (mP s.ps)=0:=by unfold mB;rw[hz];rfl
 have hex:ExOK P (exH (smL sml) (hxL hxl)):=qv3 (qng hsm) (qsc hhx);refine⟨hC,fun E x us o hy p hv=>?_⟩;obtain⟨lf,hr⟩:=hrun x o (qzu p hv) hy;rw[<- qv2 hB0 (qam n _) hn hl,qd2 (qam n _)] at hr;cases hr1:qad P tt nmf (mP s.ps) fi.nt (qb2 P tt ft (fun _ _=>none) (exH (smL sml) (hxL hxl)) lf n) lf none fi.body (qaq (qag s.ps idN 0 x) 0 .leaf) (Sc s.ps x) [] with
 | none=>rw[hr1] at hr;cases hr
 | some r1 =>
  rw[hr1] at hr;exact ztv hm htt (hft f fi h3) (qf9 hm htt hft hex n) (qfx hex n) (h4 x) hr1 hr p hv
end
end Go.Jx
end

noncomputable section
set_option maxRecDepth 100000
namespace Go.Proofs.Ytcnhjofpmpipfaa
open Go Go.Sx Go.RowKit Go.Jx
def qel:Nat->Option Nm:=fun k=>cond (Nat.beq k 5) (some ⟨[0,1,2,4,5,9,10],[],[],[],[],0,0,false⟩) (cond (Nat.beq k 6) (some ⟨[0,1,2,4,5,9,10],[],[],[],[],0,0,false⟩) (cond (Nat.beq k 11) (some ⟨[0,1,4,9],[],[],[],[],0,0,false⟩) (cond (Nat.beq k 14) (some ⟨[0,1,4,12],[],[],[],[],0,0,false⟩) (cond (Nat.beq k 999999) (some ⟨[],[],[],[],[],0,0,false⟩) none))))
def qfm:Nat->Bool:=fun k=>cond (Nat.beq k 5) true (cond (Nat.beq k 6) true (cond (Nat.beq k 11) true (cond (Nat.beq k 14) true (false))))
def qvt:Nat->Bool:=fun k=>cond (Nat.beq k 5) true (false)
abbrev qax:Type:=(Int × Unit) ⊕ ((Int × Unit) × (Int × Unit) × (Int × Unit) × Unit × ((List Int) × Unit) × Unit)
def qtb:List (Nat × Sm):=[]
def qsr:List (Nat × Hx):=[]
def qgc(R:Type)(lf:Nat):ClK R:=qau Try.prog ttT.get ftT.get (fun _ _=>none) (smL qtb) (hxL qsr) lf 20 R
def qfa(x1:Int)(x2:Int)(x3:Int)(x4:Int)(x5:(List Int))(p:Int × Int × Int):NRes:=(NRes.mk (.node (some (IV.int .i64 x1)) (.node (some (IV.int .i64 x2)) .leaf (.node (some (IV.ptr 3 0)) (.node (some (IV.int .u64 p.1)) .leaf .leaf) .leaf)) (.node (some (IV.ptr 0 0)) (.node (some (IV.ptr 2 0)) .leaf .leaf) (.node none (.node (some (IV.int .i64 p.2.1)) .leaf .leaf) .leaf))) (IS.mk (.node (some (IObj.row [(IV.int .i64 p.2.2)])) (.node (some (IObj.row [(IV.int .i64 x3)])) (.node (some (IObj.row [(IV.lst (TC.int .u8) x5)])) .leaf .leaf) .leaf) (.node (some (IObj.row (List.cons (IV.fn 140 [(IV.ptr 1 0)]) []))) .leaf .leaf)) 4) [] 0)
def qnj(x1:Int)(x2:Int)(x3:Int)(x4:Int)(x5:(List Int))(p:Int × Int × Int):NRes:=(NRes.mk (.node (some (IV.int .i64 x1)) (.node (some (IV.int .i64 x2)) .leaf (.node (some (IV.ptr 3 0)) (.node (some (IV.int .u64 p.1)) .leaf .leaf) .leaf)) (.node (some (IV.ptr 0 0)) (.node (some (IV.ptr 2 0)) .leaf .leaf) (.node none (.node (some (IV.int .i64 p.2.1)) .leaf .leaf) .leaf))) (IS.mk (.node (some (IObj.row [(IV.int .i64 p.2.2)])) (.node (some (IObj.row [(IV.int .i64 x3)])) (.node (some (IObj.row [(IV.lst (TC.int .u8) x5)])) .leaf .leaf) .leaf) (.node (some (IObj.row (List.cons (IV.fn 140 [(IV.ptr 1 0)]) []))) .leaf .leaf)) 4) [] 0)
def qpi(x1:Int)(x2:Int)(x3:Int)(x4:Int)(x5:(List Int))(p:Int × Int):NRes:=(NRes.mk (.node (some (IV.int .i64 x1)) (.node (some (IV.int .i64 x2)) .leaf (.node none (.node (some (IV.int .u64 p.1)) .leaf .leaf) .leaf)) (.node none (.node (some (IV.ptr 2 0)) .leaf .leaf) .leaf)) (IS.mk (.node (some (IObj.row [(IV.int .i64 p.2)])) (.node (some (IObj.row [(IV.int .i64 x3)])) (.node (some (IObj.row [(IV.lst (TC.int .u8) x5)])) .leaf .leaf) .leaf) (.node (some (IObj.row (List.cons (IV.fn 140 [(IV.ptr 1 0)]) []))) .leaf .leaf)) 4) [] 0)
def qpa(x1:Int)(x2:Int)(x3:Int)(x4:Int)(x5:(List Int))(p:Int × Int):NRes:=(NRes.mk (.node (some (IV.int .i64 x1)) (.node (some (IV.int .i64 x2)) .leaf .leaf) (.node none (.node (some (IV.ptr 2 0)) .leaf (.node (some (IV.int .i64 p.1)) .leaf .leaf)) .leaf)) (IS.mk (.node (some (IObj.row [(IV.int .i64 p.2)])) (.node (some (IObj.row [(IV.int .i64 x3)])) (.node (some (IObj.row [(IV.lst (TC.int .u8) x5)])) .leaf .leaf) .leaf) (.node (some (IObj.row (List.cons (IV.fn 140 [(IV.ptr 1 0)]) []))) .leaf .leaf)) 4) [] 0)
def qxy(lf:Nat)(x1:Int)(x2:Int)(x3:Int)(x4:Int)(x5:(List Int))(L5:(Int × Int × Int)->Option qax):Option qax:=(L5 ((Int.ofNat 0),(Int.ofNat 0),x3))
def qf7(lf:Nat)(x1:Int)(x2:Int)(x3:Int)(x4:Int)(x5:(List Int))(L6:(Int × Int × Int)->Option qax)(p:Int × Int × Int):Option qax:=(cond (iltI p.2.2 (Int.ofNat x5.length)) (cond (Bool.not (iltI p.2.1 (Int.ofNat 8))) (some (Sum.inl (x3,()))) (L6 (p.1,p.2.1,p.2.2))) (some (Sum.inl (x3,()))))
def quv(lf:Nat)(x1:Int)(x2:Int)(x3:Int)(x4:Int)(x5:(List Int))(L11:(Int × Int)->Option qax)(L5:(Int × Int × Int)->Option qax)(p:Int × Int × Int):Option qax:=(match (jget x5 p.2.2) with|none=>none|some v0=>(cond (iltI (IntKind.i64.wrap (Int.mul (Int.ofNat 7) p.2.1)) (Int.ofNat 0)) none (cond (iltI v0 (Int.ofNat 128)) (cond (ieqI p.2.1 (Int.ofNat 0)) (L11 ((ior IntKind.u64 p.1 (ishl IntKind.u64 (IntKind.wrap IntKind.u64 (iand IntKind.u8 v0 (Int.ofNat 127))) (IntKind.i64.wrap (Int.mul (Int.ofNat 7) p.2.1)))),(IntKind.i64.wrap (Int.add p.2.2 (Int.ofNat 1))))) (cond (Bool.not (iltI (Int.ofNat 0) v0)) (some (Sum.inl (x3,()))) (L11 ((ior IntKind.u64 p.1 (ishl IntKind.u64 (IntKind.wrap IntKind.u64 (iand IntKind.u8 v0 (Int.ofNat 127))) (IntKind.i64.wrap (Int.mul (Int.ofNat 7) p.2.1)))),(IntKind.i64.wrap (Int.add p.2.2 (Int.ofNat 1))))))) (L5 ((ior IntKind.u64 p.1 (ishl IntKind.u64 (IntKind.wrap IntKind.u64 (iand IntKind.u8 v0 (Int.ofNat 127))) (IntKind.i64.wrap (Int.mul (Int.ofNat 7) p.2.1)))),(IntKind.i64.wrap (Int.add p.2.1 (Int.ofNat 1))),(IntKind.i64.wrap (Int.add p.2.2 (Int.ofNat 1))))))))
def qws(lf:Nat)(x1:Int)(x2:Int)(x3:Int)(x4:Int)(x5:(List Int))(L14:(Int × Int)->Option qax)(p:Int × Int):Option qax:=(cond (ieqI (iand IntKind.u64 p.1 (Int.ofNat 1)) (Int.ofNat 1)) (L14 ((IntKind.i64.wrap (Int.sub (IntKind.i64.wrap (Int.sub (Int.ofNat 0) (IntKind.i64.wrap (Int.fdiv p.1 (Int.ofNat 2))))) (Int.ofNat 1))),p.2)) (L14 ((IntKind.i64.wrap (Int.fdiv p.1 (Int.ofNat 2))),p.2)))
def qu9(lf:Nat)(x1:Int)(x2:Int)(x3:Int)(x4:Int)(x5:(List Int))(p:Int × Int):Option qax:=(cond (Bool.not (iltI p.1 x1)) (cond (Bool.not (Bool.not (iltI x2 p.1))) (some (Sum.inl (x3,()))) (some (Sum.inr ((p.1,()),((p.2,()),((x3,()),((),((x5,()),())))))))) (some (Sum.inl (x3,()))))
theorem zgh(g:ElP [.dat (.int .i64),.dat (.int .i64),.ref (.box [.dat (.int .i64)]),.ref (.box [.dat (.int .i64)]),.ref (.clo 140 [1]),.ref (.box [.dat (.list (.int .u8))])]->Option qax)(J:Nat->List Nat->NRes->Option qax)(lf:Nat)(x1:Int)(x2:Int)(x3:Int)(x4:Int)(x5:(List Int)):qbm Try.prog ttT.get qel (mP [.dat (.int .i64),.dat (.int .i64),.ref (.box [.dat (.int .i64)]),.ref (.box [.dat (.int .i64)]),.ref (.clo 140 [1]),.ref (.box [.dat (.list (.int .u8))])]) qbn.nt (qgc _ lf) lf qfm J qbn.body [] (qaq (qag [.dat (.int .i64),.dat (.int .i64),.ref (.box [.dat (.int .i64)]),.ref (.box [.dat (.int .i64)]),.ref (.clo 140 [1]),.ref (.box [.dat (.list (.int .u8))])] idN 0 (x1,x2,(x3,()),(x4,()),(),(x5,()),())) 0 .leaf) (Sc [.dat (.int .i64),.dat (.int .i64),.ref (.box [.dat (.int .i64)]),.ref (.box [.dat (.int .i64)]),.ref (.clo 140 [1]),.ref (.box [.dat (.list (.int .u8))])] (x1,x2,(x3,()),(x4,()),(),(x5,()),())) [] (qb3 ttT.get qbn ⟨[.dat (.int .i64),.dat (.int .i64),.ref (.box [.dat (.int .i64)]),.ref (.box [.dat (.int .i64)]),.ref (.clo 140 [1]),.ref (.box [.dat (.list (.int .u8))])],[(false,(.int .i64))],171,[(.int .i64)],g⟩)=qxy lf x1 x2 x3 x4 x5 (fun q=>J 5 [lf] (qfa x1 x2 x3 x4 x5 q)):=by kernel_rfl
theorem zjh(g:ElP [.dat (.int .i64),.dat (.int .i64),.ref (.box [.dat (.int .i64)]),.ref (.box [.dat (.int .i64)]),.ref (.clo 140 [1]),.ref (.box [.dat (.list (.int .u8))])]->Option qax)(J:Nat->List Nat->NRes->Option qax)(lf:Nat)(x1:Int)(x2:Int)(x3:Int)(x4:Int)(x5:(List Int))(m1:Nat)(p:Int × Int × Int):qba Try.prog ttT.get qel (mP [.dat (.int .i64),.dat (.int .i64),.ref (.box [.dat (.int .i64)]),.ref (.box [.dat (.int .i64)]),.ref (.clo 140 [1]),.ref (.box [.dat (.list (.int .u8))])]) qbn.nt (qgc _ lf) lf qfm J 5 qbn.body [] [m1] (qfa x1 x2 x3 x4 x5 p) (qb3 ttT.get qbn ⟨[.dat (.int .i64),.dat (.int .i64),.ref (.box [.dat (.int .i64)]),.ref (.box [.dat (.int .i64)]),.ref (.clo 140 [1]),.ref (.box [.dat (.list (.int .u8))])],[(false,(.int .i64))],171,[(.int .i64)],g⟩)=qf7 lf x1 x2 x3 x4 x5 (fun q=>J 6 [m1] (qnj x1 x2 x3 x4 x5 q)) p:=by kernel_rfl
theorem zuq(g:ElP [.dat (.int .i64),.dat (.int .i64),.ref (.box [.dat (.int .i64)]),.ref (.box [.dat (.int .i64)]),.ref (.clo 140 [1]),.ref (.box [.dat (.list (.int .u8))])]->Option qax)(J:Nat->List Nat->NRes->Option qax)(lf:Nat)(x1:Int)(x2:Int)(x3:Int)(x4:Int)(x5:(List Int))(m1:Nat)(p:Int × Int × Int):qba Try.prog ttT.get qel (mP [.dat (.int .i64),.dat (.int .i64),.ref (.box [.dat (.int .i64)]),.ref (.box [.dat (.int .i64)]),.ref (.clo 140 [1]),.ref (.box [.dat (.list (.int .u8))])]) qbn.nt (qgc _ lf) lf qfm J 6 qbn.body [] [m1] (qnj x1 x2 x3 x4 x5 p) (qb3 ttT.get qbn ⟨[.dat (.int .i64),.dat (.int .i64),.ref (.box [.dat (.int .i64)]),.ref (.box [.dat (.int .i64)]),.ref (.clo 140 [1]),.ref (.box [.dat (.list (.int .u8))])],[(false,(.int .i64))],171,[(.int .i64)],g⟩)=quv lf x1 x2 x3 x4 x5 (fun q=>J 11 [] (qpi x1 x2 x3 x4 x5 q)) (fun q=>J 5 [m1] (qfa x1 x2 x3 x4 x5 q)) p:=by kernel_rfl
theorem zd3(g:ElP [.dat (.int .i64),.dat (.int .i64),.ref (.box [.dat (.int .i64)]),.ref (.box [.dat (.int .i64)]),.ref (.clo 140 [1]),.ref (.box [.dat (.list (.int .u8))])]->Option qax)(J:Nat->List Nat->NRes->Option qax)(lf:Nat)(x1:Int)(x2:Int)(x3:Int)(x4:Int)(x5:(List Int))(p:Int × Int):qba Try.prog ttT.get qel (mP [.dat (.int .i64),.dat (.int .i64),.ref (.box [.dat (.int .i64)]),.ref (.box [.dat (.int .i64)]),.ref (.clo 140 [1]),.ref (.box [.dat (.list (.int .u8))])]) qbn.nt (qgc _ lf) lf qfm J 11 qbn.body [] [] (qpi x1 x2 x3 x4 x5 p) (qb3 ttT.get qbn ⟨[.dat (.int .i64),.dat (.int .i64),.ref (.box [.dat (.int .i64)]),.ref (.box [.dat (.int .i64)]),.ref (.clo 140 [1]),.ref (.box [.dat (.list (.int .u8))])],[(false,(.int .i64))],171,[(.int .i64)],g⟩)=qws lf x1 x2 x3 x4 x5 (fun q=>J 14 [] (qpa x1 x2 x3 x4 x5 q)) p:=by kernel_rfl
theorem zl3(g:ElP [.dat (.int .i64),.dat (.int .i64),.ref (.box [.dat (.int .i64)]),.ref (.box [.dat (.int .i64)]),.ref (.clo 140 [1]),.ref (.box [.dat (.list (.int .u8))])]->Option qax)(J:Nat->List Nat->NRes->Option qax)(lf:Nat)(x1:Int)(x2:Int)(x3:Int)(x4:Int)(x5:(List Int))(p:Int × Int):qba Try.prog ttT.get qel (mP [.dat (.int .i64),.dat (.int .i64),.ref (.box [.dat (.int .i64)]),.ref (.box [.dat (.int .i64)]),.ref (.clo 140 [1]),.ref (.box [.dat (.list (.int .u8))])]) qbn.nt (qgc _ lf) lf qfm J 14 qbn.body [] [] (qpa x1 x2 x3 x4 x5 p) (qb3 ttT.get qbn ⟨[.dat (.int .i64),.dat (.int .i64),.ref (.box [.dat (.int .i64)]),.ref (.box [.dat (.int .i64)]),.ref (.clo 140 [1]),.ref (.box [.dat (.list (.int .u8))])],[(false,(.int .i64))],171,[(.int .i64)],g⟩)=qu9 lf x1 x2 x3 x4 x5 p:=by kernel_rfl
theorem qjc:(regs qbn.body).Nodup:=by decide +kernel
theorem qlz:okC qel qfm qvt qbn.body none=true:=by kernel_rfl
def Az18(g:ElP [.dat (.int .i64),.dat (.int .i64),.ref (.box [.dat (.int .i64)]),.ref (.box [.dat (.int .i64)]),.ref (.clo 140 [1]),.ref (.box [.dat (.list (.int .u8))])]->Option qax)(lf:Nat):Nat->List Nat->NRes->Option qax:=atP Try.prog ttT.get qel qbn ⟨[.dat (.int .i64),.dat (.int .i64),.ref (.box [.dat (.int .i64)]),.ref (.box [.dat (.int .i64)]),.ref (.clo 140 [1]),.ref (.box [.dat (.list (.int .u8))])],[(false,(.int .i64))],171,[(.int .i64)],g⟩ (qgc _ lf) lf qvt
def qiv(lf:Nat)(x1:Int)(x2:Int)(x3:Int)(x4:Int)(x5:(List Int))(p:Int × Int):Option qax:=qu9 lf x1 x2 x3 x4 x5 p
theorem zht(g:ElP [.dat (.int .i64),.dat (.int .i64),.ref (.box [.dat (.int .i64)]),.ref (.box [.dat (.int .i64)]),.ref (.clo 140 [1]),.ref (.box [.dat (.list (.int .u8))])]->Option qax)(lf:Nat)(x1:Int)(x2:Int)(x3:Int)(x4:Int)(x5:(List Int))(p:Int × Int):Az18 g lf 14 [] (qpa x1 x2 x3 x4 x5 p)=qiv lf x1 x2 x3 x4 x5 p:=by
  refine(qet rfl (qam 20 _) qjc qlz 14 [] [] rfl _).trans ((zl3 g (Az18 g lf) lf x1 x2 x3 x4 x5 p).trans ?_);rfl
def qfj(lf:Nat)(x1:Int)(x2:Int)(x3:Int)(x4:Int)(x5:(List Int))(p:Int × Int):Option qax:=qws lf x1 x2 x3 x4 x5 (fun q=>qiv lf x1 x2 x3 x4 x5 q) p
theorem zgp(g:ElP [.dat (.int .i64),.dat (.int .i64),.ref (.box [.dat (.int .i64)]),.ref (.box [.dat (.int .i64)]),.ref (.clo 140 [1]),.ref (.box [.dat (.list (.int .u8))])]->Option qax)(lf:Nat)(x1:Int)(x2:Int)(x3:Int)(x4:Int)(x5:(List Int))(p:Int × Int):Az18 g lf 11 [] (qpi x1 x2 x3 x4 x5 p)=qfj lf x1 x2 x3 x4 x5 p:=by
  refine(qet rfl (qam 20 _) qjc qlz 11 [] [] rfl _).trans ((zd3 g (Az18 g lf) lf x1 x2 x3 x4 x5 p).trans ?_);rw[(show (fun q=>Az18 g lf 14 [] (qpa x1 x2 x3 x4 x5 q))=(fun q=>qiv lf x1 x2 x3 x4 x5 q) from funext fun q=>zht g lf x1 x2 x3 x4 x5 q)];rfl
def qfv(lf:Nat)(x1:Int)(x2:Int)(x3:Int)(x4:Int)(x5:(List Int))(K5:(Int × Int × Int)->Option qax)(p:Int × Int × Int):Option qax:=quv lf x1 x2 x3 x4 x5 (fun q=>qfj lf x1 x2 x3 x4 x5 q) K5 p
theorem zm7(g:ElP [.dat (.int .i64),.dat (.int .i64),.ref (.box [.dat (.int .i64)]),.ref (.box [.dat (.int .i64)]),.ref (.clo 140 [1]),.ref (.box [.dat (.list (.int .u8))])]->Option qax)(lf:Nat)(x1:Int)(x2:Int)(x3:Int)(x4:Int)(x5:(List Int))(m1:Nat)(p:Int × Int × Int):Az18 g lf 6 [m1] (qnj x1 x2 x3 x4 x5 p)=qfv lf x1 x2 x3 x4 x5 (fun q=>Az18 g lf 5 [m1] (qfa x1 x2 x3 x4 x5 q)) p:=by
  refine(qet rfl (qam 20 _) qjc qlz 6 [m1] [m1] rfl _).trans ((zuq g (Az18 g lf) lf x1 x2 x3 x4 x5 m1 p).trans ?_);rw[(show (fun q=>Az18 g lf 11 [] (qpi x1 x2 x3 x4 x5 q))=(fun q=>qfj lf x1 x2 x3 x4 x5 q) from funext fun q=>zgp g lf x1 x2 x3 x4 x5 q)];rfl
def qk8(lf:Nat)(x1:Int)(x2:Int)(x3:Int)(x4:Int)(x5:(List Int)):Nat->(Int × Int × Int)->Option qax:=rounds fun K p=>qf7 lf x1 x2 x3 x4 x5 (fun q=>qfv lf x1 x2 x3 x4 x5 K q) p
theorem q9f(g:ElP [.dat (.int .i64),.dat (.int .i64),.ref (.box [.dat (.int .i64)]),.ref (.box [.dat (.int .i64)]),.ref (.clo 140 [1]),.ref (.box [.dat (.list (.int .u8))])]->Option qax)(lf:Nat)(x1:Int)(x2:Int)(x3:Int)(x4:Int)(x5:(List Int)):∀(n:Nat) (p:Int × Int × Int),Az18 g lf 5 [n] (qfa x1 x2 x3 x4 x5 p)=qk8 lf x1 x2 x3 x4 x5 n p
 | 0,p=>qob 5 [0] rfl _
 | n+1,p=>by
  have ih:=q9f g lf x1 x2 x3 x4 x5 n;refine(qet rfl (qam 20 _) qjc qlz 5 [n+1] [n] rfl _).trans ((zjh g (Az18 g lf) lf x1 x2 x3 x4 x5 n p).trans ?_);rw[(show (fun q=>Az18 g lf 6 [n] (qnj x1 x2 x3 x4 x5 q))=(fun q=>qfv lf x1 x2 x3 x4 x5 (fun q=>Az18 g lf 5 [n] (qfa x1 x2 x3 x4 x5 q)) q) from funext fun q=>zm7 g lf x1 x2 x3 x4 x5 n q),(show (fun q=>Az18 g lf 5 [n] (qfa x1 x2 x3 x4 x5 q))=(fun q=>qk8 lf x1 x2 x3 x4 x5 n q) from funext ih)];rfl
def Fz18(lf:Nat)(x1:Int)(x2:Int)(x3:Int)(x4:Int)(x5:(List Int)):Option qax:=qxy lf x1 x2 x3 x4 x5 (fun q=>qk8 lf x1 x2 x3 x4 x5 lf q)
theorem zkr(g:ElP [.dat (.int .i64),.dat (.int .i64),.ref (.box [.dat (.int .i64)]),.ref (.box [.dat (.int .i64)]),.ref (.clo 140 [1]),.ref (.box [.dat (.list (.int .u8))])]->Option qax)(lf:Nat)(x1:Int)(x2:Int)(x3:Int)(x4:Int)(x5:(List Int)):qbm Try.prog ttT.get qel (mP [.dat (.int .i64),.dat (.int .i64),.ref (.box [.dat (.int .i64)]),.ref (.box [.dat (.int .i64)]),.ref (.clo 140 [1]),.ref (.box [.dat (.list (.int .u8))])]) qbn.nt (qgc _ lf) lf qfm (Az18 g lf) qbn.body [] (qaq (qag [.dat (.int .i64),.dat (.int .i64),.ref (.box [.dat (.int .i64)]),.ref (.box [.dat (.int .i64)]),.ref (.clo 140 [1]),.ref (.box [.dat (.list (.int .u8))])] idN 0 (x1,x2,(x3,()),(x4,()),(),(x5,()),())) 0 .leaf) (Sc [.dat (.int .i64),.dat (.int .i64),.ref (.box [.dat (.int .i64)]),.ref (.box [.dat (.int .i64)]),.ref (.clo 140 [1]),.ref (.box [.dat (.list (.int .u8))])] (x1,x2,(x3,()),(x4,()),(),(x5,()),())) [] (qb3 ttT.get qbn ⟨[.dat (.int .i64),.dat (.int .i64),.ref (.box [.dat (.int .i64)]),.ref (.box [.dat (.int .i64)]),.ref (.clo 140 [1]),.ref (.box [.dat (.list (.int .u8))])],[(false,(.int .i64))],171,[(.int .i64)],g⟩)=Fz18 lf x1 x2 x3 x4 x5:=by
  refine(zgh g (Az18 g lf) lf x1 x2 x3 x4 x5).trans ?_;rw[(show (fun q=>Az18 g lf 5 [lf] (qfa x1 x2 x3 x4 x5 q))=(fun q=>qk8 lf x1 x2 x3 x4 x5 lf q) from funext fun q=>q9f g lf x1 x2 x3 x4 x5 lf q)];rfl
theorem zkn:qa2 Try.prog qsr:=trivial
theorem zlx{g:ElP [.dat (.int .i64),.dat (.int .i64),.ref (.box [.dat (.int .i64)]),.ref (.box [.dat (.int .i64)]),.ref (.clo 140 [1]),.ref (.box [.dat (.list (.int .u8))])]->Option qax}(hsm:SmOK Try.prog qtb)(hg:∀(x:ElP [.dat (.int .i64),.dat (.int .i64),.ref (.box [.dat (.int .i64)]),.ref (.box [.dat (.int .i64)]),.ref (.clo 140 [1]),.ref (.box [.dat (.list (.int .u8))])]) (y:qax),WfP [.dat (.int .i64),.dat (.int .i64),.ref (.box [.dat (.int .i64)]),.ref (.box [.dat (.int .i64)]),.ref (.clo 140 [1]),.ref (.box [.dat (.list (.int .u8))])] x->g x=some y->∃lf,Fz18 lf x.1 x.2.1 x.2.2.1.1 x.2.2.2.1.1 x.2.2.2.2.2.1.1=some y):ConP Try.prog 141 ⟨[.dat (.int .i64),.dat (.int .i64),.ref (.box [.dat (.int .i64)]),.ref (.box [.dat (.int .i64)]),.ref (.clo 140 [1]),.ref (.box [.dat (.list (.int .u8))])],[(false,(.int .i64))],171,[(.int .i64)],g⟩ :=
 conTP (nmf:=qel) (sml:=qtb) (hxl:=qsr) (st:=qfm) (hd:=qvt) 20 qcq ttOK ftOK hsm zkn za0 (by kernel_rfl) (fun x=>by kernel_rfl) qjc qlz fun x y hx hy=>by
  obtain⟨lf,h⟩:=hg x y hx hy;exact⟨lf,(zkr g lf x.1 x.2.1 x.2.2.1.1 x.2.2.2.1.1 x.2.2.2.2.2.1.1).trans h⟩
namespace S
def rdU:Bool->Nat->List Int->Option (Int × List Int)
 | _,0,_=>none
 | _,_+1,[]=>none
 | f,n+1,c::r=>if c<128 then (if f=true\/0<c then some (c,r) else none) else match rdU false n r with
  | some (u,r')=>some (c % 128+128*u,r')
  | none=>none
def unz(u:Int):Int:=if u % 2=1 then -(u / 2)-1 else u / 2
def rd(lo hi:Int)(l:List Int):Option (Int × List Int):=match rdU true 8 l with
 | some (u,r)=>if lo<=unz u/\unz u<=hi then some (unz u,r) else none
 | none=>none
end S
theorem qth:∀(n:Nat) (f:Bool) (l:List Int) (u:Int) (r:List Int),S.rdU f n l=some (u,r)->(∀c∈l,0<=c/\c<=255)->(∃p,l=p++r/\0<p.length)/\0<=u/\u<128 ^ n
 | 0,f,l,u,r,h,hb=>by simp[S.rdU] at h
 | n+1,f,[],u,r,h,hb=>by simp[S.rdU] at h
 | n+1,f,c::l,u,r,h,hb=>by
  have hc:=hb c (by simp);have hp:(0:Int)<128 ^ n:=Int.pow_pos (by omega);unfold S.rdU at h;split at h
  ·split at h<;>cases h;exact⟨⟨[c],rfl,by simp⟩,hc.1,by rw[jez];omega⟩
  ·split at h<;>cases h;rename_i u' hu;obtain⟨⟨p,e,hp'⟩,h1,h2⟩:=qth n false l u' r hu fun x hx=>hb x (by simp[hx]);refine⟨⟨c::p,by rw[e];rfl,by simp⟩,by omega,?_⟩;rw[jez];generalize (128:Int) ^ n=q at h2 hp ⊢;omega
def qqi:SmP:=⟨[.dat (.int .i64),.dat (.int .i64),.ref (.box [.dat (.int .i64)]),.ref (.box [.dat (.int .i64)]),.ref (.clo 140 [1]),.ref (.box [.dat (.list (.int .u8))])],[(false,(.int .i64))],171,[(.int .i64)],fun x =>
 cond (Bool.not (iltI x.2.2.1.1 0)&&Bool.not (iltI (Int.ofNat (List.length (α:=Int) x.2.2.2.2.2.1.1)) x.2.2.1.1)) (match S.rd x.1 x.2.1 (List.drop (α:=Int) x.2.2.1.1.toNat x.2.2.2.2.2.1.1) with
  | none=>some (Sum.inl (x.2.2.1.1,()))
  | some q=>some (Sum.inr ((q.1,()),((Int.ofNat (List.length (α:=Int) x.2.2.2.2.2.1.1-List.length (α:=Int) q.2),()),((x.2.2.1.1,()),((),((x.2.2.2.2.2.1.1,()),()))))))) none⟩
theorem zqq:∀c:Fin 256,(c.val &&& 127)=c.val % 128:=by decide +kernel
theorem and7{c:Int}(h0:0<=c)(h1:c<=255):iand .u8 c (Int.ofNat 127)=c % 128:=by
 obtain⟨n,rfl⟩:∃n:Nat,c=n:=⟨c.toNat,by omega⟩;have hn:n<256:=by omega
 have:=zqq ⟨n,hn⟩;simp only at this;have e:(BitVec.ofInt 8 (n:Int) &&& BitVec.ofInt 8 127).toNat=n % 128:=by
  rw[BitVec.toNat_and,jdf,jdf];have e1:((n:Int) % ((2 ^ 8:Nat):Int)).toNat=n:=by omega
  have e2:((127:Int) % ((2 ^ 8:Nat):Int)).toNat=127:=by decide
  rw[e1,e2,this]
 show IntKind.u8.wrap (((BitVec.ofInt 8 (n:Int) &&& BitVec.ofInt 8 127).toNat:Nat):Int)=_;rw[e,w8];omega
theorem and1{u:Int}(h0:0<=u)(h1:u<18446744073709551616):iand .u64 u (Int.ofNat 1)=u % 2:=by
 obtain⟨n,rfl⟩:∃n:Nat,u=n:=⟨u.toNat,by omega⟩;have e:(BitVec.ofInt 64 (n:Int) &&& BitVec.ofInt 64 1).toNat=n % 2:=by
  rw[BitVec.toNat_and,jdf,jdf];have e1:((n:Int) % ((2 ^ 64:Nat):Int)).toNat=n:=by omega
  have e2:((1:Int) % ((2 ^ 64:Nat):Int)).toNat=1:=by decide
  rw[e1,e2,Nat.and_one_is_mod]
 show IntKind.u64.wrap (((BitVec.ofInt 64 (n:Int) &&& BitVec.ofInt 64 1).toNat:Nat):Int)=_;rw[e,wu64 (by omega) (by omega)];omega
theorem orsh{u c:Int}{k:Nat}(hk:k<8)(h0:0<=u)(h1:u<128 ^ k)(hc:0<=c)(hc1:c<128):ior .u64 u (ishl .u64 c (Int.ofNat (7*k)))=u+c*128 ^ k:=by
 obtain⟨n,rfl⟩:∃n:Nat,u=n:=⟨u.toNat,by omega⟩;obtain⟨m,rfl⟩:∃m:Nat,c=m:=⟨c.toNat,by omega⟩;have hp:(128:Int) ^ k=((2 ^ (7*k):Nat):Int):=by rw[Nat.pow_mul];push_cast;rfl
 rw[hp] at h1 ⊢;have hn:n<2 ^ (7*k):=by omega
 have hq:2 ^ (7*k)<=562949953421312:=by
  have:=Nat.pow_le_pow_right (n:=2) (by omega) (show 7*k<=49 by omega);exact this
 have hm:m*2 ^ (7*k)<=127*562949953421312:=Nat.mul_le_mul (by omega) hq;have hm2:(m:Int)*((2 ^ (7*k):Nat):Int)=((m*2 ^ (7*k):Nat):Int):=by push_cast;rfl
 have e0:ishl .u64 (m:Int) (Int.ofNat (7*k))=((m*2 ^ (7*k):Nat):Int):=by
  show IntKind.u64.wrap ((m:Int)*2 ^ (min (Int.toNat (Int.ofNat (7*k))) 64))=_;rw[show Int.toNat (Int.ofNat (7*k))=7*k from rfl,Nat.min_eq_left (by omega),show (2:Int) ^ (7*k)=((2 ^ (7*k):Nat):Int) by push_cast;rfl,hm2,wu64 (by omega) (by omega)]
 rw[e0,hm2];have e:(BitVec.ofInt 64 (n:Int) ||| BitVec.ofInt 64 ((m*2 ^ (7*k):Nat):Int)).toNat=n+m*2 ^ (7*k):=by
  rw[BitVec.toNat_or,jdf,jdf];generalize hz:m*2 ^ (7*k)=z at hm ⊢;have e1:((n:Int) % ((2 ^ 64:Nat):Int)).toNat=n:=by omega
  have e2:((z:Int) % ((2 ^ 64:Nat):Int)).toNat=z:=by omega
  rw[e1,e2,<- hz,Nat.or_comm,jeu,<- Nat.two_pow_add_eq_or_of_lt hn];omega
 show IntKind.u64.wrap (((BitVec.ofInt 64 (n:Int) ||| BitVec.ofInt 64 ((m*2 ^ (7*k):Nat):Int)).toNat:Nat):Int)=_;rw[e,wu64 (by omega) (by omega)];push_cast;rfl
section
variable {x1 x2 a : Int} {x4 : Int} {b : List Int}
theorem zal(hb:∀c∈b,0<=c/\c<=255)(hl:b.length<=140737488355328)(L11:(Int × Int)->Option qax)(hL:L11=fun q=>qfj LF x1 x2 a x4 b q):∀(n k:Nat) (u at_:Int) (lf:Nat),k+n=8->n<lf->0<=u->u<128 ^ k->0<=at_->at_<=b.length ->
  rounds (fun K p=>qf7 LF x1 x2 a x4 b (fun q=>qfv LF x1 x2 a x4 b K q) p) lf (u,Int.ofNat k,at_)=(match S.rdU (Nat.beq k 0) n (b.drop at_.toNat) with
   | some (v,r)=>L11 (u+v*128 ^ k,Int.ofNat (b.length-r.length))
   | none=>some (Sum.inl (a,())))
 | n,k,u,at_,0,hk,hn,h0,h1,ha,ha2=>by omega
 | n,k,u,at_,lf+1,hk,hn,h0,h1,ha,ha2=>by
  have ih:=fun n' k' u' at'=>zal hb hl L11 hL n' k' u' at' lf;show qf7 LF x1 x2 a x4 b (fun q=>qfv LF x1 x2 a x4 b (rounds (fun K p=>qf7 LF x1 x2 a x4 b (fun q=>qfv LF x1 x2 a x4 b K q) p) lf) q) _=_;generalize rounds (fun K p=>qf7 LF x1 x2 a x4 b (fun q=>qfv LF x1 x2 a x4 b K q) p) lf=Z at ih ⊢;simp only[qf7,qan];by_cases hlt:at_<(b.length:Int)
  ·have hlt':at_<Int.ofNat b.length:=hlt;rw[jaj hlt',jaa];cases n with
   | zero =>
    have:¬(Int.ofNat k<Int.ofNat 8):=by show ¬((k:Int)<8);omega
    rw[jai this];rfl
   | succ n =>
    have h8:Int.ofNat k<Int.ofNat 8:=by show (k:Int)<8;omega
    rw[jaj h8,jbf,jae];obtain⟨i,rfl⟩:∃i:Nat,at_=i:=⟨at_.toNat,by omega⟩;have hi:i<b.length:=by omega
    have hget:jget b (i:Int)=some b[i]:=by rw[show ((i:Nat):Int)=Int.ofNat i from rfl,qcz,jab hi]
    have hd:b.drop (Int.toNat (i:Int))=b[i]::b.drop (i+1):=by rw[jcs];exact jbs hi
    have hc:=hb b[i] (jaz hi);simp only[qfv,<- hL,quv,hget,hd];generalize b[i]=c at hc ⊢;have e7:IntKind.i64.wrap (Int.mul (Int.ofNat 7) (Int.ofNat k))=Int.ofNat (7*k):=by
     rw[show Int.mul (Int.ofNat 7) (Int.ofNat k)=((7*k:Nat):Int) by push_cast;rfl,w64 (by omega) (by omega)];rfl
    have e8:iltI (Int.ofNat (7*k)) (Int.ofNat 0)=false:=by rw[qan];exact jai (by show ¬(((7*k:Nat):Int)<0);omega)
    have e9:IntKind.u64.wrap (iand .u8 c (Int.ofNat 127))=c % 128:=by rw[and7 hc.1 hc.2,wu64 (by omega) (by omega)]
    have e10:=orsh (u:=u) (c:=c % 128) (k:=k) (by omega) h0 h1 (by omega) (by omega);have e11:IntKind.i64.wrap (Int.add ((i:Nat):Int) (Int.ofNat 1))=((i+1:Nat):Int):=by
     rw[show Int.add ((i:Nat):Int) (Int.ofNat 1)=((i+1:Nat):Int) from rfl,w64 (by omega) (by omega)]
    have e12:IntKind.i64.wrap (Int.add (Int.ofNat k) (Int.ofNat 1))=Int.ofNat (k+1):=by
     rw[show Int.add (Int.ofNat k) (Int.ofNat 1)=((k+1:Nat):Int) from rfl,w64 (by omega) (by omega)];rfl
    rw[e7,e9,e10,e11,e12];simp only[qan,qat];rw[jai (show ¬(Int.ofNat (7*k)<Int.ofNat 0) by show ¬(((7*k:Nat):Int)<0);omega),jae];unfold S.rdU;by_cases h128:c<128
    ·rw[jaj (show c<Int.ofNat 128 from h128),jaa,jam h128];have hcm:c % 128=c:=by omega
     rw[hcm];have hat:((i+1:Nat):Int)=Int.ofNat (b.length-(b.drop (i+1)).length):=by
      rw[jen];show ((i+1:Nat):Int)=((b.length-(b.length-(i+1)):Nat):Int);omega
     cases k with
     | zero =>
      rw[jaj (show Int.ofNat 0=Int.ofNat 0 from rfl),jaa,jam (.inl rfl),hat]
     | succ k =>
      rw[jai (show ¬(Int.ofNat (k+1)=Int.ofNat 0) by intro h;cases h),jae];by_cases hz:0<c
      ·rw[jaj (show Int.ofNat 0<c from hz),jbf,jae,jam (.inr hz),hat]
      ·rw[jai (show ¬Int.ofNat 0<c from hz),ja7,jaa,jak (by rintro(h|h);cases h;exact hz h)]
    ·rw[jai (show ¬c<Int.ofNat 128 from h128),jae,jak h128];have hp:(0:Int)<128 ^ k:=Int.pow_pos (by omega);have:=ih n (k+1) (u+c % 128*128 ^ k) ((i+1:Nat):Int) (by omega) (by omega) (by
      have:=Int.mul_nonneg (show 0<=c % 128 by omega) (jew hp);omega) (by
      rw[jez];have:=Int.mul_le_mul_of_nonneg_right (show c % 128<=127 by omega) (jew hp);omega) (by omega) (by omega)
     refine this.trans ?_;rw[jcs];have ef:Nat.beq (k+1) 0=false:=rfl;rw[ef];cases hr:S.rdU false n (b.drop (i+1)) with
     | none=>rfl
     | some q =>
      obtain⟨v,r⟩:=q;simp only;congr 2;rw[jez];rw[Int.add_mul,Int.mul_comm 128 v,Int.mul_assoc v 128,Int.mul_comm 128 (128 ^ k)];omega
  ·have hlt':¬at_<Int.ofNat b.length:=hlt;rw[jai hlt',jae];have:b.drop at_.toNat=[]:=List.drop_eq_nil_of_le (by omega);rw[this];cases n<;>rfl
theorem zuo(hb:∀c∈b,0<=c/\c<=255)(hl:b.length<=140737488355328)(ha:0<=a)(ha2:a<=b.length):Fz18 LF x1 x2 a x4 b=(match S.rdU true 8 (b.drop a.toNat) with
  | some (v,r)=>qfj LF x1 x2 a x4 b (Int.ofNat 0+v*128 ^ 0,Int.ofNat (b.length-r.length))
  | none=>some (Sum.inl (a,()))):=by
 simp only[Fz18,qxy,qk8];generalize hL:LF=L;have h8:8<L:=by rw[<- hL];unfold LF;omega
 subst hL;exact zal (x1:=x1) (x2:=x2) (a:=a) (x4:=x4) hb hl (fun q=>qfj LF x1 x2 a x4 b q) rfl 8 0 (Int.ofNat 0) a LF rfl h8 (jc8 _) (by rw[Int.pow_zero];exact Int.one_pos) ha ha2
theorem zup(n:Int)(r:List Int):qiv LF x1 x2 a x4 b (n,Int.ofNat (b.length-r.length))=(match (if x1<=n/\n<=x2 then some (n,r) else none:Option (Int × List Int)) with
  | none=>some (Sum.inl (a,()))
  | some q=>some (Sum.inr ((q.1,()),((Int.ofNat (b.length-q.2.length),()),((a,()),((),((b,()),()))))))):=by
 simp only[qiv,qu9,qan,Bool.not_not];by_cases h1:n<x1
 ·rw[jaj h1,jbf,jae,jak (by omega)]
 ·rw[jai h1,ja7,jaa];by_cases h2:x2<n
  ·rw[jaj h2,jaa,jak (by omega)]
  ·rw[jai h2,jae,jam (by omega)]
theorem zbk{v:Int}(r:List Int)(hv0:0<=v)(hv1:v<72057594037927936):qfj LF x1 x2 a x4 b (v,Int.ofNat (b.length-r.length))=qiv LF x1 x2 a x4 b (S.unz v,Int.ofNat (b.length-r.length)):=by
 have h2:IntKind.i64.wrap (Int.fdiv v (Int.ofNat 2))=v / 2:=by
  rw[show Int.fdiv v (Int.ofNat 2)=v / 2 from jcm v (by show (0:Int)<=2;omega),w64 (by omega) (by omega)]
 simp only[qfj,qws,qat,and1 hv0 (show v<18446744073709551616 by omega),h2];unfold S.unz;by_cases hm:v % 2=1
 ·rw[jaj (show v % 2=Int.ofNat 1 from hm),jaa,jam hm];have e1:IntKind.i64.wrap (Int.sub (IntKind.i64.wrap (Int.sub (Int.ofNat 0) (v / 2))) (Int.ofNat 1))=-(v / 2)-1:=by
   have:Int.sub (Int.ofNat 0) (v / 2)=-(v / 2):=by show (0:Int)-v / 2=_;omega
   rw[this,w64 (n:=-(v / 2)) (by omega) (by omega)];show IntKind.i64.wrap (-(v / 2)-1)=_;rw[w64 (by omega) (by omega)]
  rw[e1]
 ·rw[jai (show ¬v % 2=Int.ofNat 1 from hm),jae,jak hm]
theorem zfz(hb:∀c∈b,0<=c/\c<=255)(hl:b.length<=140737488355328)(ha:0<=a)(ha2:a<=b.length):Fz18 LF x1 x2 a x4 b=(match S.rd x1 x2 (b.drop a.toNat) with
  | none=>some (Sum.inl (a,()))
  | some q=>some (Sum.inr ((q.1,()),((Int.ofNat (b.length-q.2.length),()),((a,()),((),((b,()),()))))))):=by
 refine(zuo hb hl ha ha2).trans ?_;unfold S.rd;have hs:=qth 8 true (b.drop a.toNat);generalize S.rdU true 8 (b.drop a.toNat)=o at hs ⊢;cases o with
 | none=>rfl
 | some q =>
  obtain⟨v,r⟩:=q;obtain⟨_,hv0,hv1⟩:=hs v r rfl fun c hc=>hb c (List.mem_of_mem_drop hc);have e8:(128:Int) ^ 8=72057594037927936:=by decide +kernel
  rw[e8] at hv1;have hvv:Int.ofNat 0+v*128 ^ 0=v:=by rw[Int.pow_zero,Int.mul_one];exact Int.zero_add v
  simp only[hvv];rw[zbk r hv0 hv1,zup]
end
theorem zhz:ConP Try.prog 141 qqi:=zlx trivial fun x y hx h=>⟨LF,by
 obtain⟨x1,x2,⟨(a:Int),_⟩,⟨x4,_⟩,_,⟨(b:List Int),_⟩,_⟩:=x;obtain⟨_,_,_,_,_,⟨hwb,_⟩,_⟩:=hx;have hb:∀c,c∈b->0<=c/\c<=255:=fun (c:Int) hc=>(qe1 .u8 c).1 (hwb.2 c hc);have hl:b.length<=140737488355328:=by have:=hwb.1;rwa [show Jx.bsz (.int .u8)=1 from rfl,jeh] at this
 have h:cond (Bool.not (iltI a 0)&&Bool.not (iltI (Int.ofNat b.length) a)) (match S.rd x1 x2 (b.drop a.toNat) with
  | none=>some (Sum.inl (a,()))
  | some q=>some (Sum.inr ((q.1,()),((Int.ofNat (b.length-q.2.length),()),((a,()),((),((b,()),()))))))) none=some y:=h
 rw[qan,qan] at h;by_cases h1:a<0
 ·rw[jaj h1] at h;cases h
 ·by_cases h2:Int.ofNat b.length<a
  ·rw[jaj h2,jbf,Bool.and_false] at h;cases h
  ·rw[jai h1,jai h2] at h;have h2:¬((b.length:Int)<a):=h2;exact(zfz (x1:=x1) (x2:=x2) (a:=a) (x4:=x4) (b:=b) hb hl (by omega) (by omega)).trans h⟩
def qd7:Nat->Option Nm:=fun k=>cond (Nat.beq k 8) (some ⟨[0,3,4,5,6,7,8,9,10,11,21,22],[],[(10,0,qah)],[],[],0,0,false⟩) (cond (Nat.beq k 12) (some ⟨[0,3,4,5,6,7,8,9,10,11,13,21,22,36,37,38],[],[(10,0,qah),(13,1,cVal)],[],[],0,0,false⟩) (cond (Nat.beq k 16) (some ⟨[0,3,4,5,6,7,8,9,10,11,13,21,22,36,37,38,43],[],[(10,0,qah),(13,1,cVal)],[],[],0,0,false⟩) (cond (Nat.beq k 21) (some ⟨[0,3,4,5,6,7,8,9,10,11,13,21,22],[],[(10,0,qah)],[],[],0,0,false⟩) (cond (Nat.beq k 24) (some ⟨[3,4,5,6,7,9,10,11,81,82],[],[(10,1,cVal)],[],[],0,0,false⟩) (cond (Nat.beq k 999999) (some ⟨[],[],[],[],[],0,0,false⟩) none)))))
def qew:Nat->Bool:=fun k=>cond (Nat.beq k 8) true (cond (Nat.beq k 12) true (cond (Nat.beq k 16) true (cond (Nat.beq k 21) true (cond (Nat.beq k 24) true (false)))))
def qvk:Nat->Bool:=fun k=>cond (Nat.beq k 8) true (cond (Nat.beq k 12) true (cond (Nat.beq k 24) true (false)))
abbrev qao:Type:=(Int × Unit) ⊕ ((qaa × Unit) × Unit)
def qud:List (Nat × Sm):=[]
def qxk:List (Nat × Hx):=[(141,hxP qqi)]
def qfo(R:Type)(lf:Nat):ClK R:=qau Try.prog ttT.get ftT.get (fun _ _=>none) (smL qud) (hxL qxk) lf 20 R
def qda(x1:(List qac))(x2:(List Int))(p:Int × Int × Int × (List Int) × Int × (List qab)):NRes:=(NRes.mk (.node (some (IV.lst cForm x1)) (.node none (.node (some (IV.ptr 0 0)) (.node (some (IV.ptr 4 0)) .leaf .leaf) (.node (some (IV.int .i64 p.1)) .leaf .leaf)) (.node (some (IV.ptr 2 0)) (.node (some (IV.fn 142 [(IV.ptr 5 0)])) .leaf .leaf) (.node none (.node (some (IV.int .i64 p.1)) .leaf .leaf) .leaf))) (.node none (.node (some (IV.ptr 1 0)) (.node (some (IV.ptr 5 0)) .leaf .leaf) .leaf) (.node (some (IV.ptr 3 0)) (.node (some (IV.ptr 6 0)) .leaf .leaf) (.node none (.node (some (IV.int .i64 p.2.2.2.2.1)) .leaf .leaf) .leaf)))) (IS.mk (.node (some (IObj.row [(IV.lst (TC.int .u8) p.2.2.2.1)])) (.node (some (IObj.row (List.cons IV.nilsl [IV.nilsl]))) (.node (some (IObj.row [(IV.int .i64 p.2.2.1)])) (.node (some (IObj.arr qah p.2.2.2.2.2)) .leaf .leaf) .leaf) (.node (some (IObj.row (List.cons (IV.fn 141 (List.cons (IV.ptr 2 0) (List.cons (IV.ptr 3 0) (List.cons (IV.ptr 4 0) [(IV.ptr 0 0)])))) []))) .leaf .leaf)) (.node (some (IObj.row [(IV.int .i64 p.2.1)])) (.node (some (IObj.row (List.cons (IV.fn 140 [(IV.ptr 3 0)]) []))) .leaf .leaf) (.node (some (IObj.row (List.cons (IV.arr 7) [IV.nilsl]))) .leaf .leaf))) 8) [] 0)
def qfi(x1:(List qac))(x2:(List Int))(p:Int × (List DCol) × ByteArray × Int × Int × (List Int) × Int × (List DVal) × Int × (List qab)):NRes:=(NRes.mk (.node (some (IV.lst cForm x1)) (.node none (.node (some (IV.ptr 0 0)) (.node (some (IV.ptr 4 0)) .leaf .leaf) (.node (some (IV.int .i64 p.1)) .leaf .leaf)) (.node (some (IV.ptr 2 0)) (.node (some (IV.fn 142 [(IV.ptr 5 0)])) .leaf .leaf) (.node (some (IV.ptr 7 0)) (.node (some (IV.int .i64 p.1)) (.node (some (IV.int .i64 (Int.ofNat p.2.1.length))) .leaf .leaf) .leaf) .leaf))) (.node none (.node (some (IV.ptr 1 0)) (.node (some (IV.ptr 5 0)) .leaf .leaf) (.node none (.node none (.node (some (IV.lst cCol p.2.1)) .leaf .leaf) .leaf) .leaf)) (.node (some (IV.ptr 3 0)) (.node (some (IV.ptr 6 0)) .leaf .leaf) (.node none (.node (some (IV.int .i64 p.2.2.2.2.2.2.2.2.1)) (.node (some (IV.int .i64 p.2.2.2.2.2.2.1)) .leaf .leaf) .leaf) .leaf)))) (IS.mk (.node (some (IObj.row [(IV.lst (TC.int .u8) p.2.2.2.2.2.1)])) (.node (some (IObj.row (List.cons IV.nilsl [IV.nilsl]))) (.node (some (IObj.row [(IV.int .i64 p.2.2.2.2.1)])) (.node (some (IObj.row (List.cons (IV.str p.2.2.1) [(IV.arr 9)]))) .leaf .leaf) .leaf) (.node (some (IObj.row (List.cons (IV.fn 141 (List.cons (IV.ptr 2 0) (List.cons (IV.ptr 3 0) (List.cons (IV.ptr 4 0) [(IV.ptr 0 0)])))) []))) (.node (some (IObj.arr cVal p.2.2.2.2.2.2.2.1)) .leaf .leaf) .leaf)) (.node (some (IObj.row [(IV.int .i64 p.2.2.2.1)])) (.node (some (IObj.row (List.cons (IV.fn 140 [(IV.ptr 3 0)]) []))) (.node (some (IObj.arr qah p.2.2.2.2.2.2.2.2.2)) .leaf .leaf) .leaf) (.node (some (IObj.row (List.cons (IV.arr 8) [IV.nilsl]))) .leaf .leaf))) 10) [] 0)
def qoc(x1:(List qac))(x2:(List Int))(p:Int × Int × (List DCol) × (List Int) × ByteArray × Int × Int × Int × (List DVal) × Int × (List qab)):NRes:=(NRes.mk (.node (some (IV.lst cForm x1)) (.node none (.node (some (IV.ptr 0 0)) (.node (some (IV.ptr 4 0)) .leaf .leaf) (.node (some (IV.int .i64 p.2.1)) .leaf (.node none (.node (some (IV.int .i64 p.2.2.2.2.2.2.1)) .leaf .leaf) .leaf))) (.node (some (IV.ptr 2 0)) (.node (some (IV.fn 142 [(IV.ptr 5 0)])) .leaf .leaf) (.node (some (IV.ptr 7 0)) (.node (some (IV.int .i64 p.2.1)) (.node (some (IV.int .i64 (Int.ofNat p.2.2.1.length))) .leaf .leaf) .leaf) .leaf))) (.node none (.node (some (IV.ptr 1 0)) (.node (some (IV.ptr 5 0)) .leaf .leaf) (.node none (.node none (.node (some (IV.lst cCol p.2.2.1)) .leaf .leaf) .leaf) .leaf)) (.node (some (IV.ptr 3 0)) (.node (some (IV.ptr 6 0)) .leaf .leaf) (.node none (.node (some (IV.int .i64 p.2.2.2.2.2.2.2.2.2.1)) (.node (some (IV.int .i64 p.2.2.2.2.2.2.2.1)) .leaf .leaf) .leaf) .leaf)))) (IS.mk (.node (some (IObj.row [(IV.lst (TC.int .u8) p.2.2.2.1)])) (.node (some (IObj.row (List.cons IV.nilsl [IV.nilsl]))) (.node (some (IObj.row [(IV.int .i64 p.2.2.2.2.2.1)])) (.node (some (IObj.row (List.cons (IV.str p.2.2.2.2.1) [(IV.arr 9)]))) .leaf .leaf) .leaf) (.node (some (IObj.row (List.cons (IV.fn 141 (List.cons (IV.ptr 2 0) (List.cons (IV.ptr 3 0) (List.cons (IV.ptr 4 0) [(IV.ptr 0 0)])))) []))) (.node (some (IObj.arr cVal p.2.2.2.2.2.2.2.2.1)) .leaf .leaf) .leaf)) (.node (some (IObj.row [(IV.int .i64 p.1)])) (.node (some (IObj.row (List.cons (IV.fn 140 [(IV.ptr 3 0)]) []))) (.node (some (IObj.arr qah p.2.2.2.2.2.2.2.2.2.2)) .leaf .leaf) .leaf) (.node (some (IObj.row (List.cons (IV.arr 8) [IV.nilsl]))) .leaf .leaf))) 10) [] 0)
def qnm(x1:(List qac))(x2:(List Int))(p:Int × Int × (List Int) × Int × ByteArray × (List DVal) × Int × (List qab)):NRes:=(NRes.mk (.node (some (IV.lst cForm x1)) (.node none (.node (some (IV.ptr 0 0)) (.node (some (IV.ptr 4 0)) .leaf .leaf) (.node (some (IV.int .i64 p.2.1)) .leaf .leaf)) (.node (some (IV.ptr 2 0)) (.node (some (IV.fn 142 [(IV.ptr 5 0)])) .leaf .leaf) (.node (some (IV.ptr 7 0)) (.node (some (IV.int .i64 p.2.1)) .leaf .leaf) .leaf))) (.node none (.node (some (IV.ptr 1 0)) (.node (some (IV.ptr 5 0)) .leaf .leaf) .leaf) (.node (some (IV.ptr 3 0)) (.node (some (IV.ptr 6 0)) .leaf .leaf) (.node none (.node (some (IV.int .i64 p.2.2.2.2.2.2.1)) .leaf .leaf) .leaf)))) (IS.mk (.node (some (IObj.row [(IV.lst (TC.int .u8) p.2.2.1)])) (.node (some (IObj.row (List.cons IV.nilsl [IV.nilsl]))) (.node (some (IObj.row [(IV.int .i64 p.2.2.2.1)])) (.node (some (IObj.row (List.cons (IV.str p.2.2.2.2.1) [(IV.arr 9)]))) .leaf .leaf) .leaf) (.node (some (IObj.row (List.cons (IV.fn 141 (List.cons (IV.ptr 2 0) (List.cons (IV.ptr 3 0) (List.cons (IV.ptr 4 0) [(IV.ptr 0 0)])))) []))) (.node (some (IObj.arr cVal p.2.2.2.2.2.1)) .leaf .leaf) .leaf)) (.node (some (IObj.row [(IV.int .i64 p.1)])) (.node (some (IObj.row (List.cons (IV.fn 140 [(IV.ptr 3 0)]) []))) (.node (some (IObj.arr qah p.2.2.2.2.2.2.2)) .leaf .leaf) .leaf) (.node (some (IObj.row (List.cons (IV.arr 8) [IV.nilsl]))) .leaf .leaf))) 10) [] 0)
def qh0(x1:(List qac))(x2:(List Int))(p:Int × Int × Int × Int × (List Int) × (List qab) × Int × (List DVal)):NRes:=(NRes.mk (.node none (.node none (.node (some (IV.ptr 0 0)) (.node (some (IV.ptr 4 0)) .leaf .leaf) (.node (some (IV.int .i64 p.1)) .leaf .leaf)) (.node (some (IV.ptr 2 0)) (.node (some (IV.fn 142 [(IV.ptr 5 0)])) (.node none .leaf (.node none (.node (some (IV.int .i64 p.2.1)) .leaf .leaf) .leaf)) .leaf) .leaf)) (.node none (.node (some (IV.ptr 1 0)) .leaf .leaf) (.node (some (IV.ptr 3 0)) (.node (some (IV.ptr 6 0)) (.node none .leaf (.node none (.node (some (IV.int .i64 p.2.2.2.2.2.2.1)) .leaf .leaf) .leaf)) .leaf) .leaf))) (IS.mk (.node (some (IObj.row [(IV.lst (TC.int .u8) p.2.2.2.2.1)])) (.node (some (IObj.row (List.cons IV.nilsl [IV.nilsl]))) (.node (some (IObj.row [(IV.int .i64 p.2.2.2.1)])) (.node (some (IObj.arr qah p.2.2.2.2.2.1)) .leaf .leaf) .leaf) (.node (some (IObj.row (List.cons (IV.fn 141 (List.cons (IV.ptr 2 0) (List.cons (IV.ptr 3 0) (List.cons (IV.ptr 4 0) [(IV.ptr 0 0)])))) []))) .leaf .leaf)) (.node (some (IObj.row [(IV.int .i64 p.2.2.1)])) (.node (some (IObj.row (List.cons (IV.fn 140 [(IV.ptr 3 0)]) []))) (.node (some (IObj.arr cVal p.2.2.2.2.2.2.2)) .leaf .leaf) .leaf) (.node (some (IObj.row (List.cons (IV.arr 7) [(IV.arr 8)]))) .leaf .leaf))) 9) [] 0)
def qw0(lf:Nat)(x1:(List qac))(x2:(List Int))(L8:(Int × Int × Int × (List Int) × Int × (List qab))->Option qao):Option qao:=(match (cond (Bool.not (iltI (Int.ofNat x2.length) (Int.ofNat 0))) (match (S.rd (Int.ofNat 0) (Int.ofNat 400) (List.drop 0 x2)) with|.none  => (some (Sum.inl ((Int.ofNat 0),())))|some v0=>(some (Sum.inr ((v0.1,()),(((Int.ofNat (Nat.sub x2.length v0.2.length)),()),(((Int.ofNat 0),()),((),((x2,()),())))))))) none) with|none=>none|some v1=>(match v1 with|.inl v2=>(some (Sum.inl (v2.1,())))|.inr v3=>(L8 (v3.1.1,v3.2.1.1,v3.2.2.1.1,v3.2.2.2.2.1.1,(Int.ofNat 0),[]))))
def qfk(lf:Nat)(x1:(List qac))(x2:(List Int))(L12:(Int × (List DCol) × ByteArray × Int × Int × (List Int) × Int × (List DVal) × Int × (List qab))->Option qao)(L24:(Int × Int × Int × Int × (List Int) × (List qab) × Int × (List DVal))->Option qao)(p:Int × Int × Int × (List Int) × Int × (List qab)):Option qao:=(cond (iltI p.2.2.2.2.1 p.1) (match (cond (Bool.and (Bool.not (iltI p.2.1 (Int.ofNat 0))) (Bool.not (iltI (Int.ofNat p.2.2.2.1.length) p.2.1))) (match (S.rd (Int.ofNat 0) (IntKind.i64.wrap (Int.sub (Int.ofNat x1.length) (Int.ofNat 1))) (List.drop (Int.toNat p.2.1) p.2.2.2.1)) with|.none  => (some (Sum.inl (p.2.1,())))|some v0=>(some (Sum.inr ((v0.1,()),(((Int.ofNat (Nat.sub p.2.2.2.1.length v0.2.length)),()),((p.2.1,()),((),((p.2.2.2.1,()),())))))))) none) with|none=>none|some v1=>(match v1 with|.inl v2=>(some (Sum.inl (v2.1,())))|.inr v3=>(match (jget x1 v3.1.1) with|none=>none|some v4=>(L12 (p.1,v4.2,v4.1,v3.2.1.1,v3.2.2.1.1,v3.2.2.2.2.1.1,(Int.ofNat 0),[],p.2.2.2.2.1,p.2.2.2.2.2))))) (match (cond (Bool.and (Bool.not (iltI p.2.1 (Int.ofNat 0))) (Bool.not (iltI (Int.ofNat p.2.2.2.1.length) p.2.1))) (match (S.rd (Int.ofNat 0) (Int.ofNat 60) (List.drop (Int.toNat p.2.1) p.2.2.2.1)) with|.none  => (some (Sum.inl (p.2.1,())))|some v7=>(some (Sum.inr ((v7.1,()),(((Int.ofNat (Nat.sub p.2.2.2.1.length v7.2.length)),()),((p.2.1,()),((),((p.2.2.2.1,()),())))))))) none) with|none=>none|some v8=>(match v8 with|.inl v9=>(some (Sum.inl (v9.1,())))|.inr v10=>(L24 (p.1,v10.1.1,v10.2.1.1,v10.2.2.1.1,v10.2.2.2.2.1.1,p.2.2.2.2.2,(Int.ofNat 0),[])))))
def qc4(lf:Nat)(x1:(List qac))(x2:(List Int))(L16:(Int × Int × (List DCol) × (List Int) × ByteArray × Int × Int × Int × (List DVal) × Int × (List qab))->Option qao)(L21:(Int × Int × (List Int) × Int × ByteArray × (List DVal) × Int × (List qab))->Option qao)(p:Int × (List DCol) × ByteArray × Int × Int × (List Int) × Int × (List DVal) × Int × (List qab)):Option qao:=(cond (iltI p.2.2.2.2.2.2.1 (Int.ofNat p.2.1.length)) (match (jget p.2.1 p.2.2.2.2.2.2.1) with|none=>none|some v0=>(L16 (p.2.2.2.1,p.1,p.2.1,p.2.2.2.2.2.1,p.2.2.1,p.2.2.2.2.1,v0.2.1,p.2.2.2.2.2.2.1,p.2.2.2.2.2.2.2.1,p.2.2.2.2.2.2.2.2.1,p.2.2.2.2.2.2.2.2.2))) (L21 (p.2.2.2.1,p.1,p.2.2.2.2.2.1,p.2.2.2.2.1,p.2.2.1,p.2.2.2.2.2.2.2.1,p.2.2.2.2.2.2.2.2.1,p.2.2.2.2.2.2.2.2.2)))
def qwz(lf:Nat)(x1:(List qac))(x2:(List Int))(L12:(Int × (List DCol) × ByteArray × Int × Int × (List Int) × Int × (List DVal) × Int × (List qab))->Option qao)(p:Int × Int × (List DCol) × (List Int) × ByteArray × Int × Int × Int × (List DVal) × Int × (List qab)):Option qao:=(cond (ieqI p.2.2.2.2.2.2.1 (Int.ofNat 1)) (match (cond (Bool.and (Bool.not (iltI p.1 (Int.ofNat 0))) (Bool.not (iltI (Int.ofNat p.2.2.2.1.length) p.1))) (match (S.rd (Int.negSucc 1099511627775) (Int.ofNat 1099511627776) (List.drop (Int.toNat p.1) p.2.2.2.1)) with|.none  => (some (Sum.inl (p.1,())))|some v0=>(some (Sum.inr ((v0.1,()),(((Int.ofNat (Nat.sub p.2.2.2.1.length v0.2.length)),()),((p.1,()),((),((p.2.2.2.1,()),())))))))) none) with|none=>none|some v1=>(match v1 with|.inl v2=>(some (Sum.inl (v2.1,())))|.inr v3=>(cond (Nat.ble (Nat.mul (Nat.add p.2.2.2.2.2.2.2.2.1.length 1) 16) 140737488355328) (L12 (p.2.1,p.2.2.1,p.2.2.2.2.1,v3.2.1.1,v3.2.2.1.1,v3.2.2.2.2.1.1,(IntKind.i64.wrap (Int.add p.2.2.2.2.2.2.2.1 (Int.ofNat 1))),(List.append p.2.2.2.2.2.2.2.2.1 [((Int.ofNat 1),v3.1.1)]),p.2.2.2.2.2.2.2.2.2.1,p.2.2.2.2.2.2.2.2.2.2)) none))) (cond (ieqI p.2.2.2.2.2.2.1 (Int.ofNat 2)) (match (cond (Bool.and (Bool.not (iltI p.1 (Int.ofNat 0))) (Bool.not (iltI (Int.ofNat p.2.2.2.1.length) p.1))) (match (S.rd (Int.ofNat 0) (Int.ofNat 1) (List.drop (Int.toNat p.1) p.2.2.2.1)) with|.none  => (some (Sum.inl (p.1,())))|some v31=>(some (Sum.inr ((v31.1,()),(((Int.ofNat (Nat.sub p.2.2.2.1.length v31.2.length)),()),((p.1,()),((),((p.2.2.2.1,()),())))))))) none) with|none=>none|some v32=>(match v32 with|.inl v33=>(some (Sum.inl (v33.1,())))|.inr v34=>(cond (Nat.ble (Nat.mul (Nat.add p.2.2.2.2.2.2.2.2.1.length 1) 16) 140737488355328) (L12 (p.2.1,p.2.2.1,p.2.2.2.2.1,v34.2.1.1,v34.2.2.1.1,v34.2.2.2.2.1.1,(IntKind.i64.wrap (Int.add p.2.2.2.2.2.2.2.1 (Int.ofNat 1))),(List.append p.2.2.2.2.2.2.2.2.1 [((Int.ofNat 2),v34.1.1)]),p.2.2.2.2.2.2.2.2.2.1,p.2.2.2.2.2.2.2.2.2.2)) none))) (match (cond (Bool.and (Bool.not (iltI p.1 (Int.ofNat 0))) (Bool.not (iltI (Int.ofNat p.2.2.2.1.length) p.1))) (match (S.rd (Int.ofNat 0) p.2.1 (List.drop (Int.toNat p.1) p.2.2.2.1)) with|.none  => (some (Sum.inl (p.1,())))|some v36=>(some (Sum.inr ((v36.1,()),(((Int.ofNat (Nat.sub p.2.2.2.1.length v36.2.length)),()),((p.1,()),((),((p.2.2.2.1,()),())))))))) none) with|none=>none|some v37=>(match v37 with|.inl v38=>(some (Sum.inl (v38.1,())))|.inr v39=>(cond (iltI (Int.ofNat 0) v39.1.1) (cond (Nat.ble (Nat.mul (Nat.add p.2.2.2.2.2.2.2.2.1.length 1) 16) 140737488355328) (L12 (p.2.1,p.2.2.1,p.2.2.2.2.1,v39.2.1.1,v39.2.2.1.1,v39.2.2.2.2.1.1,(IntKind.i64.wrap (Int.add p.2.2.2.2.2.2.2.1 (Int.ofNat 1))),(List.append p.2.2.2.2.2.2.2.2.1 (List.cons ((Int.ofNat 4),(IntKind.i64.wrap (Int.sub v39.1.1 (Int.ofNat 1)))) [])),p.2.2.2.2.2.2.2.2.2.1,p.2.2.2.2.2.2.2.2.2.2)) none) (cond (Nat.ble (Nat.mul (Nat.add p.2.2.2.2.2.2.2.2.1.length 1) 16) 140737488355328) (L12 (p.2.1,p.2.2.1,p.2.2.2.2.1,v39.2.1.1,v39.2.2.1.1,v39.2.2.2.2.1.1,(IntKind.i64.wrap (Int.add p.2.2.2.2.2.2.2.1 (Int.ofNat 1))),(List.append p.2.2.2.2.2.2.2.2.1 [((Int.ofNat 3),(Int.ofNat 0))]),p.2.2.2.2.2.2.2.2.2.1,p.2.2.2.2.2.2.2.2.2.2)) none))))))
def qvr(lf:Nat)(x1:(List qac))(x2:(List Int))(L8:(Int × Int × Int × (List Int) × Int × (List qab))->Option qao)(p:Int × Int × (List Int) × Int × ByteArray × (List DVal) × Int × (List qab)):Option qao:=(cond (Nat.ble (Nat.mul (Nat.add p.2.2.2.2.2.2.2.length 1) 40) 140737488355328) (L8 (p.2.1,p.1,p.2.2.2.1,p.2.2.1,(IntKind.i64.wrap (Int.add p.2.2.2.2.2.2.1 (Int.ofNat 1))),(List.append p.2.2.2.2.2.2.2 [(p.2.2.2.2.1,p.2.2.2.2.2.1)]))) none)
def qft(lf:Nat)(x1:(List qac))(x2:(List Int))(L24:(Int × Int × Int × Int × (List Int) × (List qab) × Int × (List DVal))->Option qao)(p:Int × Int × Int × Int × (List Int) × (List qab) × Int × (List DVal)):Option qao:=(cond (iltI p.2.2.2.2.2.2.1 p.2.1) (match (cond (Bool.and (Bool.not (iltI p.2.2.1 (Int.ofNat 0))) (Bool.not (iltI (Int.ofNat p.2.2.2.2.1.length) p.2.2.1))) (match (S.rd (Int.ofNat 0) p.1 (List.drop (Int.toNat p.2.2.1) p.2.2.2.2.1)) with|.none  => (some (Sum.inl (p.2.2.1,())))|some v0=>(some (Sum.inr ((v0.1,()),(((Int.ofNat (Nat.sub p.2.2.2.2.1.length v0.2.length)),()),((p.2.2.1,()),((),((p.2.2.2.2.1,()),())))))))) none) with|none=>none|some v1=>(match v1 with|.inl v2=>(some (Sum.inl (v2.1,())))|.inr v3=>(cond (iltI (Int.ofNat 0) v3.1.1) (cond (Nat.ble (Nat.mul (Nat.add p.2.2.2.2.2.2.2.length 1) 16) 140737488355328) (L24 (p.1,p.2.1,v3.2.1.1,v3.2.2.1.1,v3.2.2.2.2.1.1,p.2.2.2.2.2.1,(IntKind.i64.wrap (Int.add p.2.2.2.2.2.2.1 (Int.ofNat 1))),(List.append p.2.2.2.2.2.2.2 (List.cons ((Int.ofNat 4),(IntKind.i64.wrap (Int.sub v3.1.1 (Int.ofNat 1)))) [])))) none) (cond (Nat.ble (Nat.mul (Nat.add p.2.2.2.2.2.2.2.length 1) 16) 140737488355328) (L24 (p.1,p.2.1,v3.2.1.1,v3.2.2.1.1,v3.2.2.2.2.1.1,p.2.2.2.2.2.1,(IntKind.i64.wrap (Int.add p.2.2.2.2.2.2.1 (Int.ofNat 1))),(List.append p.2.2.2.2.2.2.2 [((Int.ofNat 3),(Int.ofNat 0))]))) none)))) (cond (Bool.not (ieqI p.2.2.1 (Int.ofNat p.2.2.2.2.1.length))) (some (Sum.inl (p.2.2.1,()))) (some (Sum.inr (((p.2.2.2.2.2.1,p.2.2.2.2.2.2.2),()),())))))
theorem znq(g:ElP [.dat (.list cForm),.dat (.list (.int .u8))]->Option qao)(J:Nat->List Nat->NRes->Option qao)(lf:Nat)(x1:(List qac))(x2:(List Int)):qbm Try.prog ttT.get qd7 (mP [.dat (.list cForm),.dat (.list (.int .u8))]) qbh.nt (qfo _ lf) lf qew J qbh.body [] (qaq (qag [.dat (.list cForm),.dat (.list (.int .u8))] idN 0 (x1,x2,())) 0 .leaf) (Sc [.dat (.list cForm),.dat (.list (.int .u8))] (x1,x2,())) [] (qb3 ttT.get qbh ⟨[.dat (.list cForm),.dat (.list (.int .u8))],[(false,cGraph)],171,[(.int .i64)],g⟩)=qw0 lf x1 x2 (fun q=>J 8 [lf] (qda x1 x2 q)):=by kernel_rfl
theorem zcr(g:ElP [.dat (.list cForm),.dat (.list (.int .u8))]->Option qao)(J:Nat->List Nat->NRes->Option qao)(lf:Nat)(x1:(List qac))(x2:(List Int))(m1:Nat)(p:Int × Int × Int × (List Int) × Int × (List qab)):qba Try.prog ttT.get qd7 (mP [.dat (.list cForm),.dat (.list (.int .u8))]) qbh.nt (qfo _ lf) lf qew J 8 qbh.body [] [m1] (qda x1 x2 p) (qb3 ttT.get qbh ⟨[.dat (.list cForm),.dat (.list (.int .u8))],[(false,cGraph)],171,[(.int .i64)],g⟩)=qfk lf x1 x2 (fun q=>J 12 [m1,lf] (qfi x1 x2 q)) (fun q=>J 24 [lf] (qh0 x1 x2 q)) p:=by kernel_rfl
theorem ztn(g:ElP [.dat (.list cForm),.dat (.list (.int .u8))]->Option qao)(J:Nat->List Nat->NRes->Option qao)(lf:Nat)(x1:(List qac))(x2:(List Int))(m1:Nat)(m2:Nat)(p:Int × (List DCol) × ByteArray × Int × Int × (List Int) × Int × (List DVal) × Int × (List qab)):qba Try.prog ttT.get qd7 (mP [.dat (.list cForm),.dat (.list (.int .u8))]) qbh.nt (qfo _ lf) lf qew J 12 qbh.body [] [m1,m2] (qfi x1 x2 p) (qb3 ttT.get qbh ⟨[.dat (.list cForm),.dat (.list (.int .u8))],[(false,cGraph)],171,[(.int .i64)],g⟩)=qc4 lf x1 x2 (fun q=>J 16 [m1,m2] (qoc x1 x2 q)) (fun q=>J 21 [m1] (qnm x1 x2 q)) p:=by kernel_rfl
theorem zoc(g:ElP [.dat (.list cForm),.dat (.list (.int .u8))]->Option qao)(J:Nat->List Nat->NRes->Option qao)(lf:Nat)(x1:(List qac))(x2:(List Int))(m1:Nat)(m2:Nat)(p:Int × Int × (List DCol) × (List Int) × ByteArray × Int × Int × Int × (List DVal) × Int × (List qab)):qba Try.prog ttT.get qd7 (mP [.dat (.list cForm),.dat (.list (.int .u8))]) qbh.nt (qfo _ lf) lf qew J 16 qbh.body [] [m1,m2] (qoc x1 x2 p) (qb3 ttT.get qbh ⟨[.dat (.list cForm),.dat (.list (.int .u8))],[(false,cGraph)],171,[(.int .i64)],g⟩)=qwz lf x1 x2 (fun q=>J 12 [m1,m2] (qfi x1 x2 q)) p:=by kernel_rfl
theorem zli(g:ElP [.dat (.list cForm),.dat (.list (.int .u8))]->Option qao)(J:Nat->List Nat->NRes->Option qao)(lf:Nat)(x1:(List qac))(x2:(List Int))(m1:Nat)(p:Int × Int × (List Int) × Int × ByteArray × (List DVal) × Int × (List qab)):qba Try.prog ttT.get qd7 (mP [.dat (.list cForm),.dat (.list (.int .u8))]) qbh.nt (qfo _ lf) lf qew J 21 qbh.body [] [m1] (qnm x1 x2 p) (qb3 ttT.get qbh ⟨[.dat (.list cForm),.dat (.list (.int .u8))],[(false,cGraph)],171,[(.int .i64)],g⟩)=qvr lf x1 x2 (fun q=>J 8 [m1] (qda x1 x2 q)) p:=by kernel_rfl
theorem zom(g:ElP [.dat (.list cForm),.dat (.list (.int .u8))]->Option qao)(J:Nat->List Nat->NRes->Option qao)(lf:Nat)(x1:(List qac))(x2:(List Int))(m1:Nat)(p:Int × Int × Int × Int × (List Int) × (List qab) × Int × (List DVal)):qba Try.prog ttT.get qd7 (mP [.dat (.list cForm),.dat (.list (.int .u8))]) qbh.nt (qfo _ lf) lf qew J 24 qbh.body [] [m1] (qh0 x1 x2 p) (qb3 ttT.get qbh ⟨[.dat (.list cForm),.dat (.list (.int .u8))],[(false,cGraph)],171,[(.int .i64)],g⟩)=qft lf x1 x2 (fun q=>J 24 [m1] (qh0 x1 x2 q)) p:=by kernel_rfl
theorem qip:(regs qbh.body).Nodup:=by decide +kernel
theorem qhe:okC qd7 qew qvk qbh.body none=true:=by kernel_rfl
def Az19(g:ElP [.dat (.list cForm),.dat (.list (.int .u8))]->Option qao)(lf:Nat):Nat->List Nat->NRes->Option qao:=atP Try.prog ttT.get qd7 qbh ⟨[.dat (.list cForm),.dat (.list (.int .u8))],[(false,cGraph)],171,[(.int .i64)],g⟩ (qfo _ lf) lf qvk
def qck(lf:Nat)(x1:(List qac))(x2:(List Int))(K8:(Int × Int × Int × (List Int) × Int × (List qab))->Option qao)(K12:(Int × (List DCol) × ByteArray × Int × Int × (List Int) × Int × (List DVal) × Int × (List qab))->Option qao)(p:Int × Int × (List DCol) × (List Int) × ByteArray × Int × Int × Int × (List DVal) × Int × (List qab)):Option qao:=qwz lf x1 x2 K12 p
theorem zmm(g:ElP [.dat (.list cForm),.dat (.list (.int .u8))]->Option qao)(lf:Nat)(x1:(List qac))(x2:(List Int))(m1:Nat)(m2:Nat)(p:Int × Int × (List DCol) × (List Int) × ByteArray × Int × Int × Int × (List DVal) × Int × (List qab)):Az19 g lf 16 [m1,m2] (qoc x1 x2 p)=qck lf x1 x2 (fun q=>Az19 g lf 8 [m1] (qda x1 x2 q)) (fun q=>Az19 g lf 12 [m1,m2] (qfi x1 x2 q)) p:=by
  refine(qet rfl (qam 20 _) qip qhe 16 [m1,m2] [m1,m2] rfl _).trans ((zoc g (Az19 g lf) lf x1 x2 m1 m2 p).trans ?_);rfl
def qcd(lf:Nat)(x1:(List qac))(x2:(List Int))(K8:(Int × Int × Int × (List Int) × Int × (List qab))->Option qao)(p:Int × Int × (List Int) × Int × ByteArray × (List DVal) × Int × (List qab)):Option qao:=qvr lf x1 x2 K8 p
theorem zdx(g:ElP [.dat (.list cForm),.dat (.list (.int .u8))]->Option qao)(lf:Nat)(x1:(List qac))(x2:(List Int))(m1:Nat)(p:Int × Int × (List Int) × Int × ByteArray × (List DVal) × Int × (List qab)):Az19 g lf 21 [m1] (qnm x1 x2 p)=qcd lf x1 x2 (fun q=>Az19 g lf 8 [m1] (qda x1 x2 q)) p:=by
  refine(qet rfl (qam 20 _) qip qhe 21 [m1] [m1] rfl _).trans ((zli g (Az19 g lf) lf x1 x2 m1 p).trans ?_);rfl
def qdx(lf:Nat)(x1:(List qac))(x2:(List Int))(K8:(Int × Int × Int × (List Int) × Int × (List qab))->Option qao):Nat->(Int × (List DCol) × ByteArray × Int × Int × (List Int) × Int × (List DVal) × Int × (List qab))->Option qao:=rounds fun K p=>qc4 lf x1 x2 (fun q=>qck lf x1 x2 K8 K q) (fun q=>qcd lf x1 x2 K8 q) p
theorem q57(g:ElP [.dat (.list cForm),.dat (.list (.int .u8))]->Option qao)(lf:Nat)(x1:(List qac))(x2:(List Int))(m1:Nat):∀(n:Nat) (p:Int × (List DCol) × ByteArray × Int × Int × (List Int) × Int × (List DVal) × Int × (List qab)),Az19 g lf 12 [m1,n] (qfi x1 x2 p)=qdx lf x1 x2 (fun q=>Az19 g lf 8 [m1] (qda x1 x2 q)) n p
 | 0,p=>qob 12 [m1,0] rfl _
 | n+1,p=>by
  have ih:=q57 g lf x1 x2 m1 n;refine(qet rfl (qam 20 _) qip qhe 12 [m1,n+1] [m1,n] rfl _).trans ((ztn g (Az19 g lf) lf x1 x2 m1 n p).trans ?_);rw[(show (fun q=>Az19 g lf 16 [m1,n] (qoc x1 x2 q))=(fun q=>qck lf x1 x2 (fun q=>Az19 g lf 8 [m1] (qda x1 x2 q)) (fun q=>Az19 g lf 12 [m1,n] (qfi x1 x2 q)) q) from funext fun q=>zmm g lf x1 x2 m1 n q),(show (fun q=>Az19 g lf 21 [m1] (qnm x1 x2 q))=(fun q=>qcd lf x1 x2 (fun q=>Az19 g lf 8 [m1] (qda x1 x2 q)) q) from funext fun q=>zdx g lf x1 x2 m1 q),(show (fun q=>Az19 g lf 12 [m1,n] (qfi x1 x2 q))=(fun q=>qdx lf x1 x2 (fun q=>Az19 g lf 8 [m1] (qda x1 x2 q)) n q) from funext ih)];rfl
def qe2(lf:Nat)(x1:(List qac))(x2:(List Int)):Nat->(Int × Int × Int × Int × (List Int) × (List qab) × Int × (List DVal))->Option qao:=rounds fun K p=>qft lf x1 x2 K p
theorem qzp(g:ElP [.dat (.list cForm),.dat (.list (.int .u8))]->Option qao)(lf:Nat)(x1:(List qac))(x2:(List Int)):∀(n:Nat) (p:Int × Int × Int × Int × (List Int) × (List qab) × Int × (List DVal)),Az19 g lf 24 [n] (qh0 x1 x2 p)=qe2 lf x1 x2 n p
 | 0,p=>qob 24 [0] rfl _
 | n+1,p=>by
  have ih:=qzp g lf x1 x2 n;refine(qet rfl (qam 20 _) qip qhe 24 [n+1] [n] rfl _).trans ((zom g (Az19 g lf) lf x1 x2 n p).trans ?_);rw[(show (fun q=>Az19 g lf 24 [n] (qh0 x1 x2 q))=(fun q=>qe2 lf x1 x2 n q) from funext ih)];rfl
def qk5(lf:Nat)(x1:(List qac))(x2:(List Int)):Nat->(Int × Int × Int × (List Int) × Int × (List qab))->Option qao:=rounds fun K p=>qfk lf x1 x2 (fun q=>qdx lf x1 x2 K lf q) (fun q=>qe2 lf x1 x2 lf q) p
theorem q3g(g:ElP [.dat (.list cForm),.dat (.list (.int .u8))]->Option qao)(lf:Nat)(x1:(List qac))(x2:(List Int)):∀(n:Nat) (p:Int × Int × Int × (List Int) × Int × (List qab)),Az19 g lf 8 [n] (qda x1 x2 p)=qk5 lf x1 x2 n p
 | 0,p=>qob 8 [0] rfl _
 | n+1,p=>by
  have ih:=q3g g lf x1 x2 n;refine(qet rfl (qam 20 _) qip qhe 8 [n+1] [n] rfl _).trans ((zcr g (Az19 g lf) lf x1 x2 n p).trans ?_);rw[(show (fun q=>Az19 g lf 12 [n,lf] (qfi x1 x2 q))=(fun q=>qdx lf x1 x2 (fun q=>Az19 g lf 8 [n] (qda x1 x2 q)) lf q) from funext fun q=>q57 g lf x1 x2 n lf q),(show (fun q=>Az19 g lf 24 [lf] (qh0 x1 x2 q))=(fun q=>qe2 lf x1 x2 lf q) from funext fun q=>qzp g lf x1 x2 lf q),(show (fun q=>Az19 g lf 8 [n] (qda x1 x2 q))=(fun q=>qk5 lf x1 x2 n q) from funext ih)];rfl
def Fz19(lf:Nat)(x1:(List qac))(x2:(List Int)):Option qao:=qw0 lf x1 x2 (fun q=>qk5 lf x1 x2 lf q)
theorem zfo(g:ElP [.dat (.list cForm),.dat (.list (.int .u8))]->Option qao)(lf:Nat)(x1:(List qac))(x2:(List Int)):qbm Try.prog ttT.get qd7 (mP [.dat (.list cForm),.dat (.list (.int .u8))]) qbh.nt (qfo _ lf) lf qew (Az19 g lf) qbh.body [] (qaq (qag [.dat (.list cForm),.dat (.list (.int .u8))] idN 0 (x1,x2,())) 0 .leaf) (Sc [.dat (.list cForm),.dat (.list (.int .u8))] (x1,x2,())) [] (qb3 ttT.get qbh ⟨[.dat (.list cForm),.dat (.list (.int .u8))],[(false,cGraph)],171,[(.int .i64)],g⟩)=Fz19 lf x1 x2:=by
  refine(znq g (Az19 g lf) lf x1 x2).trans ?_;rw[(show (fun q=>Az19 g lf 8 [lf] (qda x1 x2 q))=(fun q=>qk5 lf x1 x2 lf q) from funext fun q=>q3g g lf x1 x2 lf q)];rfl
theorem zbu(hp_p_decode_2:ConP Try.prog 141 qqi):qa2 Try.prog qxk:=⟨zpf hp_p_decode_2,trivial⟩
theorem zo2{g:ElP [.dat (.list cForm),.dat (.list (.int .u8))]->Option qao}(hsm:SmOK Try.prog qud)(hp_p_decode_2:ConP Try.prog 141 qqi)(hg:∀(x:ElP [.dat (.list cForm),.dat (.list (.int .u8))]) (y:qao),WfP [.dat (.list cForm),.dat (.list (.int .u8))] x->g x=some y->∃lf,Fz19 lf x.1 x.2.1=some y):ConP Try.prog 120 ⟨[.dat (.list cForm),.dat (.list (.int .u8))],[(false,cGraph)],171,[(.int .i64)],g⟩ :=
 conTP (nmf:=qd7) (sml:=qud) (hxl:=qxk) (st:=qew) (hd:=qvk) 20 qcq ttOK ftOK hsm (zbu hp_p_decode_2) zcf (by kernel_rfl) (fun x=>by kernel_rfl) qip qhe fun x y hx hy=>by
  obtain⟨lf,h⟩:=hg x y hx hy;exact⟨lf,(zfo g lf x.1 x.2.1).trans h⟩
namespace S
def rdV(m:Int)(k:Int)(l:List Int):Option (DVal × List Int) :=
 if k=1 then (match rd (-1099511627776) 1099511627776 l with|some (n,r)=>some ((1,n),r)|none=>none)
 else if k=2 then (match rd 0 1 l with|some (n,r)=>some ((2,n),r)|none=>none)
 else match rd 0 m l with|some (n,r)=>some (if 0<n then (4,n-1) else (3,0),r)|none=>none
def decVs(N:Nat)(m:Int):List DCol->List Int->Int ⊕ (List DVal × List Int)
 | [],l=>.inr ([],l)
 | c::cs,l=>match rdV m c.2.1 l with
  | none=>.inl (Int.ofNat (N-l.length))
  | some (v,r)=>match decVs N m cs r with
   | .inl e=>.inl e
   | .inr (vs,r')=>.inr (v::vs,r')
def decNs(N:Nat)(F:List qac)(m:Int):Nat->List Int->Int ⊕ (List qab × List Int)
 | 0,l=>.inr ([],l)
 | k+1,l=>match rd 0 (Int.ofNat F.length-1) l with
  | none=>.inl (Int.ofNat (N-l.length))
  | some (i,r)=>match F[i.toNat]? with
   | none=>.inl 0
   | some f=>match decVs N m f.2 r with
    | .inl e=>.inl e
    | .inr (vs,r')=>match decNs N F m k r' with
     | .inl e=>.inl e
     | .inr (ns,r'')=>.inr ((f.1,vs)::ns,r'')
def decRs(N:Nat)(m:Int):Nat->List Int->Int ⊕ (List DVal × List Int)
 | 0,l=>.inr ([],l)
 | k+1,l=>match rdV m 0 l with
  | none=>.inl (Int.ofNat (N-l.length))
  | some (v,r)=>match decRs N m k r with
   | .inl e=>.inl e
   | .inr (vs,r')=>.inr (v::vs,r')
def dec(F:List qac)(b:List Int):Int ⊕ qaa :=
 match rd 0 400 b with
 | none=>.inl (Int.ofNat (b.length-b.length))
 | some (m,l)=>match decNs b.length F m m.toNat l with
  | .inl e=>.inl e
  | .inr (ns,l)=>match rd 0 60 l with
   | none=>.inl (Int.ofNat (b.length-l.length))
   | some (k,l)=>match decRs b.length m k.toNat l with
    | .inl e=>.inl e
    | .inr (rs,l)=>if l=[] then .inr (ns,rs) else .inl (Int.ofNat (b.length-l.length))
end S
def zdk:SmP:=⟨[.dat (.list cForm),.dat (.list (.int .u8))],[(false,cGraph)],171,[(.int .i64)],fun x=>match S.dec x.1 x.2.1 with
 | .inl e=>some (Sum.inl (e,()))
 | .inr g=>some (Sum.inr ((g,()),()))⟩
theorem qc6{lo hi n:Int}{l r:List Int}(h:S.rd lo hi l=some (n,r)):r <:+ l/\lo<=n/\n<=hi:=by
 unfold S.rd at h;split at h<;>try cases h
 split at h<;>cases h;rename_i u hc hu;refine⟨?_,hc⟩;have:∀(n:Nat) (f:Bool) (l:List Int) (u:Int) (r:List Int),S.rdU f n l=some (u,r)->r <:+ l:=by
  intro n;induction n with
  | zero=>intro f l u r h;simp [S.rdU] at h
  | succ n ih =>
   intro f l u r h;cases l with
   | nil=>simp [S.rdU] at h
   | cons c l =>
    unfold S.rdU at h;split at h
    ·split at h<;>cases h;exact List.suffix_cons _ _
    ·split at h<;>cases h;rename_i hu;exact(ih _ _ _ _ hu).trans (List.suffix_cons _ _)
 exact this _ _ _ _ _ hu
theorem qr3{b l:List Int}(h:l <:+ b):List.drop (Int.toNat (Int.ofNat (b.length-l.length))) b=l:=by
 obtain⟨p,rfl⟩:=h;show List.drop ((p++l).length-l.length) (p++l)=l;rw[jaq,Nat.add_sub_cancel,List.drop_left]
theorem qnv{b l:List Int}:iltI (Int.ofNat (b.length-l.length)) (Int.ofNat 0)=false:=by rw[qan];exact jai (by show ¬(((b.length-l.length:Nat):Int)<0);omega)
theorem qqd{b l:List Int}:iltI (Int.ofNat b.length) (Int.ofNat (b.length-l.length))=false:=by rw[qan];exact jai (by show ¬((b.length:Int)<((b.length-l.length:Nat):Int));omega)
theorem q1q{m:Nat}(h:m<=3600000000000):Nat.ble (Nat.mul (Nat.add m 1) 16) 140737488355328=true:=jb7 (by show (m+1)*16<=_;omega)
theorem zl6{m:Nat}(h:m<=1000000000000):Nat.ble (Nat.mul (Nat.add m 1) 40) 140737488355328=true:=jb7 (by show (m+1)*40<=_;omega)
theorem qsf{k:Nat}(h:k<=1000000000000000):IntKind.i64.wrap (Int.add (Int.ofNat k) (Int.ofNat 1))=Int.ofNat (k+1):=by
 rw[show Int.add (Int.ofNat k) (Int.ofNat 1)=((k+1:Nat):Int) from rfl,w64 (by omega) (by omega)];rfl
section
variable {F : List qac} {b : List Int}
theorem zsh(K8:(Int × Int × Int × (List Int) × Int × (List qab))->Option qao)(K:(Int × (List DCol) × ByteArray × Int × Int × (List Int) × Int × (List DVal) × Int × (List qab))->Option qao){l:List Int}(hs:l <:+ b)(m:Int)(hm0:0<=m)(hm:m<=400)(cs:List DCol)(nm:ByteArray)(be kd:Int)(j:Nat)(vs:List DVal)(i0:Int)(ns:List qab)(hv:vs.length<=3600000000000)(hj:j<=1000000000000000) :
  qck LF F b K8 K (Int.ofNat (b.length-l.length),m,cs,b,nm,be,kd,Int.ofNat j,vs,i0,ns)=(match S.rdV m kd l with
   | none=>some (Sum.inl (Int.ofNat (b.length-l.length),()))
   | some (v,r)=>K (m,cs,nm,Int.ofNat (b.length-r.length),Int.ofNat (b.length-l.length),b,Int.ofNat (j+1),vs++[v],i0,ns)):=by
 simp only[qck,qwz,qnv,qqd,qr3 hs,ja7,jdp,jaa,q1q hv,qsf hj,qat];unfold S.rdV;by_cases h1:kd=1
 ·rw[jaj (show kd=Int.ofNat 1 from h1),jaa,jam h1];rw[show S.rd (Int.negSucc 1099511627775) (Int.ofNat 1099511627776) l=S.rd (-1099511627776) 1099511627776 l from rfl];cases hr:S.rd (-1099511627776) 1099511627776 l with
  | none=>rfl
  | some q=>rfl
 ·rw[jai (show ¬kd=Int.ofNat 1 from h1),jae,jak h1];by_cases h2:kd=2
  ·rw[jaj (show kd=Int.ofNat 2 from h2),jaa,jam h2];rw[show S.rd (Int.ofNat 0) (Int.ofNat 1) l=S.rd 0 1 l from rfl];cases hr:S.rd 0 1 l with
   | none=>rfl
   | some q=>rfl
  ·rw[jai (show ¬kd=Int.ofNat 2 from h2),jae,jak h2];rw[show S.rd (Int.ofNat 0) m l=S.rd 0 m l from rfl];cases hr:S.rd 0 m l with
   | none=>rfl
   | some q =>
    obtain⟨n,r⟩:=q;obtain⟨_,hn0,hn1⟩:=qc6 hr;simp only[qan];by_cases hn:0<n
    ·rw[jaj (show Int.ofNat 0<n from hn),jaa,jam hn,show Int.sub n (Int.ofNat 1)=n-1 from rfl,w64 (by omega) (by omega)];rfl
    ·rw[jai (show ¬Int.ofNat 0<n from hn),jae,jak hn];rfl
theorem zls{m k:Int}{l r:List Int}{v:DVal}(h:S.rdV m k l=some (v,r)):r <:+ l:=by
 unfold S.rdV at h;split at h
 ·split at h<;>cases h;rename_i hr;exact(qc6 hr).1
 ·split at h
  ·split at h<;>cases h;rename_i hr;exact(qc6 hr).1
  ·split at h<;>cases h;rename_i hr;exact(qc6 hr).1
theorem znm(K8:(Int × Int × Int × (List Int) × Int × (List qab))->Option qao)(m:Int)(hm0:0<=m)(hm:m<=400)(nm:ByteArray)(i0:Int)(ns:List qab)(cs:List DCol)(hc:cs.length<=3600000000000){l:List Int}(hs:l <:+ b)(be:Int) :
  (∃e,S.decVs b.length m cs l=.inl e/\qdx LF F b K8 LF (m,cs,nm,Int.ofNat (b.length-l.length),be,b,Int.ofNat 0,[],i0,ns)=some (Sum.inl (e,()))) \/
  ∃vs r be',S.decVs b.length m cs l=.inr (vs,r)/\r <:+ b/\qdx LF F b K8 LF (m,cs,nm,Int.ofNat (b.length-l.length),be,b,Int.ofNat 0,[],i0,ns)=qcd LF F b K8 (Int.ofNat (b.length-r.length),m,b,be',nm,vs,i0,ns):=by
 have key:∀(rest done:List DCol),cs=done++rest->∀(n:Nat) (l:List Int) (be:Int) (vs:List DVal),l <:+ b->rest.length<n->vs.length=done.length ->
   (∃e,S.decVs b.length m rest l=.inl e/\rounds (fun K p=>qc4 LF F b (fun q=>qck LF F b K8 K q) (fun q=>qcd LF F b K8 q) p) n (m,cs,nm,Int.ofNat (b.length-l.length),be,b,Int.ofNat done.length,vs,i0,ns)=some (Sum.inl (e,()))) \/
   ∃vs' r be',S.decVs b.length m rest l=.inr (vs',r)/\r <:+ b/\rounds (fun K p=>qc4 LF F b (fun q=>qck LF F b K8 K q) (fun q=>qcd LF F b K8 q) p) n (m,cs,nm,Int.ofNat (b.length-l.length),be,b,Int.ofNat done.length,vs,i0,ns)=qcd LF F b K8 (Int.ofNat (b.length-r.length),m,b,be',nm,vs++vs',i0,ns):=by
  intro rest;induction rest with
  | nil =>
   intro done hd n l be vs hs hn hv;cases n with
   | zero=>simp at hn
   | succ n =>
    right;refine⟨[],l,be,rfl,hs,?_⟩;show qc4 LF F b (fun q=>qck LF F b K8 (rounds (fun K p=>qc4 LF F b (fun q=>qck LF F b K8 K q) (fun q=>qcd LF F b K8 q) p) n) q) (fun q=>qcd LF F b K8 q) _=_;generalize rounds (fun K p=>qc4 LF F b (fun q=>qck LF F b K8 K q) (fun q=>qcd LF F b K8 q) p) n=Z;rw[jbk] at hd;subst hd;simp only[qc4,qbd,jae,jbk]
  | cons c rest ih =>
   intro done hd n l be vs hs hn hv;cases n with
   | zero=>simp at hn
   | succ n =>
    have hlen:cs.length=done.length+(rest.length+1):=by rw[hd];simp
    have ih:=fun l' be' vs' h1 h3=>ih (done++[c]) (by rw[hd];simp) n l' be' vs' h1 (by simp at hn;omega) h3;rw[show (Int.ofNat (done++[c]).length)=Int.ofNat (done.length+1) by simp] at ih;have hunf:rounds (fun K p=>qc4 LF F b (fun q=>qck LF F b K8 K q) (fun q=>qcd LF F b K8 q) p) (n+1) (m,cs,nm,Int.ofNat (b.length-l.length),be,b,Int.ofNat done.length,vs,i0,ns)=qc4 LF F b (fun q=>qck LF F b K8 (rounds (fun K p=>qc4 LF F b (fun q=>qck LF F b K8 K q) (fun q=>qcd LF F b K8 q) p) n) q) (fun q=>qcd LF F b K8 q) (m,cs,nm,Int.ofNat (b.length-l.length),be,b,Int.ofNat done.length,vs,i0,ns):=rfl;rw[hunf];generalize rounds (fun K p=>qc4 LF F b (fun q=>qck LF F b K8 K q) (fun q=>qcd LF F b K8 q) p) n=Z at ih ⊢;have hlt:iltI (Int.ofNat done.length) (Int.ofNat cs.length)=true:=by rw[qan];exact jaj (by show ((done.length:Nat):Int)<((cs.length:Nat):Int);omega)
    have hget:jget cs (Int.ofNat done.length)=some c:=by rw[qcz,hd];simp
    simp only[qc4,hlt,jaa,hget];rw[zsh K8 Z hs m hm0 hm cs nm be c.2.1 done.length vs i0 ns (by omega) (by omega)];cases hr:S.rdV m c.2.1 l with
    | none =>
     left;exact⟨_,by simp only[S.decVs,hr],rfl⟩
    | some q =>
     obtain⟨v,r⟩:=q;have hs':=(zls hr).trans hs;rcases ih r (Int.ofNat (b.length-l.length)) (vs++[v]) hs' (by simp[hv]) with ⟨e,h1,h2⟩|⟨vs',r',be',h1,h2,h3⟩
     ·left;exact⟨e,by simp only[S.decVs,hr,h1],h2⟩
     ·right;exact⟨v::vs',r',be',by simp only[S.decVs,hr,h1],h2,by refine h3.trans ?_;rw[ja9];rfl⟩
 have:=key cs [] rfl LF l be [] hs (by unfold LF;omega) rfl;simp only[qdx];simpa only [jc2,jcv] using this
end
section
variable {F : List qac} {b : List Int}
def finR(N:Nat)(ns:List qab)(rs:List DVal):Int ⊕ (List DVal × List Int)->Option qao
 | .inl e=>some (Sum.inl (e,()))
 | .inr (vs,r)=>if r=[] then some (Sum.inr (((ns,rs++vs),()),())) else some (Sum.inl (Int.ofNat (N-r.length),()))
theorem q0s(m:Int)(hm0:0<=m)(hm:m<=400)(ns:List qab)(cnt:Nat)(hcnt:cnt<=60):∀(k n j:Nat) (l:List Int) (be:Int) (rs:List DVal),j+k=cnt->k<n->l <:+ b->rs.length<=j ->
  rounds (fun K p=>qft LF F b K p) n (m,Int.ofNat cnt,Int.ofNat (b.length-l.length),be,b,ns,Int.ofNat j,rs)=finR b.length ns rs (S.decRs b.length m k l)
 | k,0,j,l,be,rs,h1,h2,h3,h4=>by omega
 | k,n+1,j,l,be,rs,h1,h2,h3,h4=>by
  have ih:=fun k'=>q0s m hm0 hm ns cnt hcnt k' n;show qft LF F b (rounds (fun K p=>qft LF F b K p) n) _=_;generalize rounds (fun K p=>qft LF F b K p) n=Z at ih ⊢;cases k with
  | zero =>
   have e:iltI (Int.ofNat j) (Int.ofNat cnt)=false:=by rw[qan];exact jai (by show ¬((j:Int)<(cnt:Int));omega)
   simp only[qft,e,jae,S.decRs,finR,qat,jbk];have hl:=h3.length_le;by_cases hz:l=[]
   ·subst hz;rw[jaj (by simp),jam rfl];rfl
   ·have:0<l.length:=List.length_pos_iff.2 hz;rw[jai (by show ¬(((b.length-l.length:Nat):Int)=(b.length:Int));omega),jak hz];rfl
  | succ k =>
   have e:iltI (Int.ofNat j) (Int.ofNat cnt)=true:=by rw[qan];exact jaj (by show ((j:Int)<(cnt:Int));omega)
   simp only[qft,e,jaa,qnv,qqd,qr3 h3,ja7,jdp,q1q (m:=rs.length) (by omega),qsf (k:=j) (by omega)];rw[show S.rd (Int.ofNat 0) m l=S.rd 0 m l from rfl];have hV:S.rdV m 0 l=(match S.rd 0 m l with|some (n,r)=>some (if 0<n then (4,n-1) else (3,0),r)|none=>none):=rfl;cases hr:S.rd 0 m l with
   | none =>
    rw[hr] at hV;simp only[S.decRs,hV];rfl
   | some q =>
    obtain⟨v,r⟩:=q;rw[hr] at hV;obtain⟨hs,hn0,hn1⟩:=qc6 hr;simp only[S.decRs,hV,qan]
    have key:∀(w:DVal),Z (m,Int.ofNat cnt,Int.ofNat (b.length-r.length),Int.ofNat (b.length-l.length),b,ns,Int.ofNat (j+1),rs++[w])=finR b.length ns rs (match S.decRs b.length m k r with
      | .inl e=>.inl e
      | .inr (vs,r')=>.inr (w::vs,r')):=fun w=>by
     rw[ih k (j+1) r (Int.ofNat (b.length-l.length)) (rs++[w]) (by omega) (by omega) (hs.trans h3) (by simp;omega)];cases S.decRs b.length m k r with
     | inl e=>rfl
     | inr q=>simp only[finR,ja9];rfl
    by_cases hn:0<v
    ·rw[jaj (show Int.ofNat 0<v from hn),jaa,jam hn,show Int.sub v (Int.ofNat 1)=v-1 from rfl,w64 (by omega) (by omega)];exact key _
    ·rw[jai (show ¬Int.ofNat 0<v from hn),jae,jak hn];exact key _
def finN(N:Nat)(m:Int)(ns:List qab):Int ⊕ (List qab × List Int)->Option qao
 | .inl e=>some (Sum.inl (e,()))
 | .inr (vs,r)=>match S.rd 0 60 r with
  | none=>some (Sum.inl (Int.ofNat (N-r.length),()))
  | some (k,r')=>finR N (ns++vs) [] (S.decRs N m k.toNat r')
theorem dec8(hF:∀f∈F,f.2.length<=3600000000000)(hFl:F.length<=3600000000000)(M:Nat)(hM:M<=400):∀(k n i:Nat) (l:List Int) (be:Int) (ns:List qab),i+k=M->k<n->l <:+ b->ns.length<=i ->
  rounds (fun K p=>qfk LF F b (fun q=>qdx LF F b K LF q) (fun q=>qe2 LF F b LF q) p) n (Int.ofNat M,Int.ofNat (b.length-l.length),be,b,Int.ofNat i,ns)=finN b.length (Int.ofNat M) ns (S.decNs b.length F (Int.ofNat M) k l)
 | k,0,i,l,be,ns,h1,h2,h3,h4=>by omega
 | k,n+1,i,l,be,ns,h1,h2,h3,h4=>by
  have ih:=fun k'=>dec8 hF hFl M hM k' n;show qfk LF F b (fun q=>qdx LF F b (rounds (fun K p=>qfk LF F b (fun q=>qdx LF F b K LF q) (fun q=>qe2 LF F b LF q) p) n) LF q) (fun q=>qe2 LF F b LF q) _=_;generalize rounds (fun K p=>qfk LF F b (fun q=>qdx LF F b K LF q) (fun q=>qe2 LF F b LF q) p) n=Z at ih ⊢;cases k with
  | zero =>
   have e:iltI (Int.ofNat i) (Int.ofNat M)=false:=by rw[qan];exact jai (by show ¬((i:Int)<(M:Int));omega)
   simp only[qfk,e,jae,qnv,qqd,qr3 h3,ja7,jdp,jaa,S.decNs,finN,jbk];rw[show S.rd (Int.ofNat 0) (Int.ofNat 60) l=S.rd 0 60 l from rfl];cases hr:S.rd 0 60 l with
   | none=>rfl
   | some q =>
    obtain⟨v,r⟩:=q;obtain⟨hs,hn0,hn1⟩:=qc6 hr;obtain⟨c,rfl⟩:∃c:Nat,v=Int.ofNat c:=⟨v.toNat,by show v=((v.toNat:Nat):Int);omega⟩;have hc:c<=60:=by have:(c:Int)<=60:=hn1;omega
    have:=q0s (F:=F) (b:=b) (Int.ofNat M) (jce M) (by show (M:Int)<=400;omega) ns c hc c LF 0 r (Int.ofNat (b.length-l.length)) [] (by omega) (by unfold LF;omega) (hs.trans h3) (by simp);simp only[qe2];exact this
  | succ k =>
   have e:iltI (Int.ofNat i) (Int.ofNat M)=true:=by rw[qan];exact jaj (by show ((i:Int)<(M:Int));omega)
   have ew:IntKind.i64.wrap (Int.sub (Int.ofNat F.length) (Int.ofNat 1))=Int.ofNat F.length-1:=w64 (by show -4611686018427387904<=(F.length:Int)-1;omega) (by show (F.length:Int)-1<=4611686018427387904;omega);simp only[qfk,e,jaa,qnv,qqd,qr3 h3,ja7,jdp,ew];rw[show S.rd (Int.ofNat 0) (Int.ofNat F.length-1) l=S.rd 0 (Int.ofNat F.length-1) l from rfl];simp only[S.decNs];cases hr:S.rd 0 (Int.ofNat F.length-1) l with
   | none=>rfl
   | some q =>
    obtain⟨v,r⟩:=q;obtain⟨hs,hn0,hn1⟩:=qc6 hr;have hn1:v<=(F.length:Int)-1:=hn1;have hg:jget F v=F[v.toNat]?:=by unfold jget;rw[jam hn0]
    have hlt:v.toNat<F.length:=by omega
    simp only[hg,jab hlt];have hmem:F[v.toNat]∈F:=jaz hlt;generalize F[v.toNat]=f at hmem ⊢;rcases znm (F:=F) (b:=b) Z (Int.ofNat M) (jce M) (by show (M:Int)<=400;omega) f.1 (Int.ofNat i) ns f.2 (hF f hmem) (hs.trans h3) (Int.ofNat (b.length-l.length)) with ⟨e,g1,g2⟩|⟨vs,r',be',g1,g2,g3⟩
    ·rw[g1];exact g2
    ·rw[g1];refine jee g3 ?_;simp only[qcd,qvr,zl6 (m:=ns.length) (by omega),jaa,qsf (k:=i) (by omega)];have:=ih k (i+1) r' be' (ns++[(f.1,vs)]) (by omega) (by omega) g2 (by simp;omega);refine this.trans ?_;cases S.decNs b.length F (Int.ofNat M) k r' with
     | inl e=>rfl
     | inr q=>simp only[finN,ja9];rfl
theorem zq1(hF:∀f∈F,f.2.length<=3600000000000)(hFl:F.length<=3600000000000):Fz19 LF F b=(match S.dec F b with
  | .inl e=>some (Sum.inl (e,()))
  | .inr g=>some (Sum.inr ((g,()),()))):=by
 simp only[Fz19,qw0];have e0:iltI (Int.ofNat b.length) (Int.ofNat 0)=false:=by rw[qan];exact jai (by show ¬((b.length:Int)<0);omega)
 rw[e0,ja7,jaa,jcu,show S.rd (Int.ofNat 0) (Int.ofNat 400) b=S.rd 0 400 b from rfl];unfold S.dec;cases hr:S.rd 0 400 b with
 | none=>simp only[jey]
 | some q =>
  obtain⟨v,r⟩:=q;obtain⟨hs,hn0,hn1⟩:=qc6 hr;obtain⟨M,rfl⟩:∃c:Nat,v=Int.ofNat c:=⟨v.toNat,by show v=((v.toNat:Nat):Int);omega⟩;have hM:M<=400:=by have:(M:Int)<=400:=hn1;omega
  have:=dec8 (F:=F) (b:=b) hF hFl M hM M LF 0 r (Int.ofNat 0) [] (by omega) (by unfold LF;omega) hs (by simp);simp only[qk5];refine jee this ?_;rw[show Int.toNat (Int.ofNat M)=M from rfl];cases S.decNs b.length F (Int.ofNat M) M r with
  | inl e=>rfl
  | inr q =>
   obtain⟨ns,l⟩:=q;simp only[finN,jc2];cases S.rd 0 60 l with
   | none=>rfl
   | some q =>
    obtain⟨k,l2⟩:=q;simp only;cases S.decRs b.length (Int.ofNat M) k.toNat l2 with
    | inl e=>rfl
    | inr q =>
     obtain⟨rs,l3⟩:=q;simp only[finR,jc2];by_cases hz:l3=[]
     ·rw[jam hz,jam hz]
     ·rw[jak hz,jak hz]
end
theorem q81:ConP Try.prog 120 zdk:=zo2 trivial zhz fun x y hx h=>⟨LF,by
 obtain⟨(F:List qac),(b:List Int),_⟩:=x;obtain⟨hwF,hwb,_⟩:=hx;have hFl:F.length<=3600000000000:=by have:=hwF.1;rw[show Jx.bsz cForm=40 from rfl] at this;have:F.length*40<=140737488355328:=this;omega
 have hF:∀f,f∈F->f.2.length<=3600000000000:=fun f hf=>by
  have:=(hwF.2 f hf).2.1;rw[show Jx.bsz cCol=40 from rfl] at this;have:f.2.length*40<=140737488355328:=this;omega
 exact(zq1 (F:=F) (b:=b) hF hFl).trans h⟩
end Go.Proofs.Ytcnhjofpmpipfaa
end

section
set_option maxRecDepth 100000
set_option maxHeartbeats 4000000
namespace Go.Proofs.Ytcnhjofpmpipfaa
open Go Go.Sx Go.RowKit Go.Jx
def w3(w:World):World:=((w.alloc (.cells #[.slice none 0 0,.slice none 0 0] 26)).alloc (.cells #[.int .i64 0] 3)).alloc (.cells #[.bool false] 4)
theorem zok(p q r:Addr)(w:World) :
  CallsD Try.prog 119 #[.pointer (some p),.pointer (some q),.pointer (some r)] .returning w fun e u' w'=>e=.returned (.tuple #[])/\u'=.returning/\w'=w:=by
 refine callsD_of_wpS Try.func119 rfl fun c₀ cs hu=>?_;apply wpS_seq;apply wpS_region;simp[wpOpsS,go_sem,recoverD,hu,Try.ntmps119,Exit.thenS];apply wpS_seq;apply wpS_region;simp[wpOpsS,go_sem,Exit.thenS];refine wpS_cond (t:=false) (by simp[Act.eval,Array.replicate]) ?_;simp only[jba,jbm];refine wpS_of_wp (wp_skip ?_);cases c₀
 simp_all [bodyPostS,results,Try.results119,Exit.thenS]
structure Bx3 (n:Nat) (w:World):Prop where
 c00:w.cell? { block:=n,off:=0 }=some (.slice none 0 0)
 c01:w.cell? { block:=n,off:=1 }=some (.slice none 0 0)
 c1:w.cell? { block:=n+1,off:=0 }=some (.int .i64 0)
 c2:w.cell? { block:=n+1+1,off:=0 }=some (.bool false)
 f00:w.frozen? { block:=n,off:=0 }=false
 f01:w.frozen? { block:=n,off:=1 }=false
 f1:w.frozen? { block:=n+1,off:=0 }=false
 f2:w.frozen? { block:=n+1+1,off:=0 }=false
 h0:w.heap[n]?=some (.cells #[.slice none 0 0,.slice none 0 0] 26)
 h1:w.heap[n+1]?=some (.cells #[.int .i64 0] 3)
 h2:w.heap[n+1+1]?=some (.cells #[.bool false] 4)
theorem Bx3.of{n:Nat}{w:World}(h0:w.heap[n]?=some (.cells #[.slice none 0 0,.slice none 0 0] 26))(h1:w.heap[n+1]?=some (.cells #[.int .i64 0] 3))(h2:w.heap[n+1+1]?=some (.cells #[.bool false] 4)):Bx3 n w:=by
 constructor<;>simp [World.cell?,World.frozen?,h0,h1,h2]
theorem Bx3.alloc{n:Nat}{w:World}(h:Bx3 n w)(o:Obj):Bx3 n (w.alloc o):=by
 obtain⟨_,_,_,_,_,_,_,_,h0,h1,h2⟩:=h;have l0:n<w.heap.size:=qav h0;have l1:n+1<w.heap.size:=qav h1;have l2:n+1+1<w.heap.size:=qav h2;refine Bx3.of ?_ ?_ ?_
 ·rw[<- h0];simp only[World.alloc,jb8];rw[jak (by omega)]
 ·rw[<- h1];simp only[World.alloc,jb8];rw[jak (by omega)]
 ·rw[<- h2];simp only[World.alloc,jb8];rw[jak (by omega)]
def retW(n:Nat)(a1 a2:Option Addr)(l1 c1 l2 c2:Nat)(w1:World):World :=
 (((w1.setCell { block:=n,off:=0 } (.slice a1 l1 c1)).setCell { block:=n,off:=1 } (.slice a2 l2 c2)).setCell { block:=n+1,off:=0 } (.int .i64 0)).setCell { block:=n+1+1,off:=0 } (.bool true)
theorem q5d{n:Nat}{W:World}{x y u v:Value}{tmps:Array Value}(h:(tmps[4]?.getD undef=.pointer (some ⟨n,0,none⟩)/\tmps[5]?.getD undef=.pointer (some ⟨n+1,0,none⟩)/\tmps[6]?.getD undef=.pointer (some ⟨n+1+1,0,none⟩))/\W.cell? { block:=n,off:=0 }=some x/\W.cell? { block:=n,off:=1 }=some y/\W.cell? { block:=n+1,off:=0 }=some u/\W.cell? { block:=n+1+1,off:=0 }=some v) :
  (results Try.f87 tmps).run Try.prog W=.ok (.tuple #[.agg #[x,y],u,v]) W:=by
 obtain⟨⟨t4,t5,t6⟩,h1,h2,h3,h4⟩:=h;simp[results,Try.results87,go_sem,t4,t5,t6,h1,h2,h3,h4]
theorem zlg{n:Nat}{a1 a2:Option Addr}{l1 c1 l2 c2:Nat}{w1:World}(h:Bx3 n w1):(retW n a1 a2 l1 c1 l2 c2 w1).cell? { block:=n,off:=0 }=some (.slice a1 l1 c1)/\(retW n a1 a2 l1 c1 l2 c2 w1).cell? { block:=n,off:=1 }=some (.slice a2 l2 c2)/\(retW n a1 a2 l1 c1 l2 c2 w1).cell? { block:=n+1,off:=0 }=some (.int .i64 0)/\(retW n a1 a2 l1 c1 l2 c2 w1).cell? { block:=n+1+1,off:=0 }=some (.bool true):=by
 obtain⟨_,_,_,_,_,_,_,_,h0,h1,h2⟩:=h;have n1:¬n=n+1+1:=by omega
 have n2:¬n+1+1=n:=by omega
 refine⟨?_,?_,?_,?_⟩<;>simp [retW,World.cell?,World.setCell,jb5,h0,h1,h2,n1,n2]
theorem zon(ul ub:Value)(w:World)(Q:Option Addr->Nat->Nat->Option Addr->Nat->Nat->World->Prop)(h:Calls Try.prog 120 #[ul,ub] (w3 w) fun e w'=>∃a1 l1 c1 a2 l2 c2,e=.returned (.agg #[.slice a1 l1 c1,.slice a2 l2 c2])/\Q a1 l1 c1 a2 l2 c2 w')
 (h0:∀a1 l1 c1 a2 l2 c2 w',Q a1 l1 c1 a2 l2 c2 w'->Bx3 w.heap.size w'):Calls Try.prog 87 #[ul,ub] w fun e w'=>∃a1 l1 c1 a2 l2 c2 w1,Q a1 l1 c1 a2 l2 c2 w1/\e=.returned (.tuple #[.agg #[.slice a1 l1 c1,.slice a2 l2 c2],.int .i64 0,.bool true])/\w'=retW w.heap.size a1 a2 l1 c1 l2 c2 w1:=by
 go_enter_defers Try.func87,Try.ntmps87
 go_wp2_with (go_at_call 120;refine h.mono ?_;rintro e w' ⟨a1,l1,c1,a2,l2,c2,rfl,hq⟩;obtain⟨k00,k01,k1,k2,f00,f01,f1,f2,_,_,_⟩:=h0 _ _ _ _ _ _ w' hq)
 refine leaves_cons (f:=119) (args:=#[.pointer (some ⟨w.heap.size,0,none⟩),.pointer (some ⟨w.heap.size+1,0,none⟩),.pointer (some ⟨w.heap.size+1+1,0,none⟩)]) (by simp) (by simp[go_sem]) ?_;refine(zok ⟨w.heap.size,0,none⟩ ⟨w.heap.size+1,0,none⟩ ⟨w.heap.size+1+1,0,none⟩ _).mono ?_;rintro e u' w'' ⟨rfl,rfl,rfl⟩;exact⟨_,q5d ⟨⟨rfl,rfl,rfl⟩,zlg (w1:=w') (h0 _ _ _ _ _ _ w' hq)⟩,_,_,_,_,_,_,w',hq,rfl,rfl⟩
def panW(n:Nat)(k:Int)(w:World):World :=
 (((((w.alloc (.cells #[.int .i64 k] 171)).setCell { block:=n,off:=0 } (.slice none 0 0)).setCell { block:=n,off:=1 } (.slice none 0 0)).setCell { block:=n+1,off:=0 } (.int .i64 k)).setCell { block:=n+1+1,off:=0 } (.bool false)).drew
theorem zg3{n:Nat}{k:Int}{w:World}(h:Bx3 n w):(panW n k w).cell? { block:=n,off:=0 }=some (.slice none 0 0)/\(panW n k w).cell? { block:=n,off:=1 }=some (.slice none 0 0)/\(panW n k w).cell? { block:=n+1,off:=0 }=some (.int .i64 k)/\(panW n k w).cell? { block:=n+1+1,off:=0 }=some (.bool false):=by
 have hb1:=h.alloc (.cells #[.int .i64 k] 171);unfold panW;generalize w.alloc (.cells #[.int .i64 k] 171)=W at hb1 ⊢;obtain⟨_,_,_,_,_,_,_,_,h0,h1,h2⟩:=hb1;have n1:¬n=n+1+1:=by omega
 have n2:¬n+1+1=n:=by omega
 refine⟨?_,?_,?_,?_⟩<;>simp [World.cell?,World.drew,World.setCell,jb5,h0,h1,h2,n1,n2]
theorem zur(n:Nat)(k:Int)(w:World)(hb:Bx3 n w) :
  CallsD Try.prog 119 #[.pointer (some ⟨n,0,none⟩),.pointer (some ⟨n+1,0,none⟩),.pointer (some ⟨n+1+1,0,none⟩)] (.panicking [{ v:=.iface 171 (.agg #[.int .i64 k]),recovered:=false }]) w fun e u' w'=>e=.returned (.tuple #[])/\u'=.panicking [{ v:=.iface 171 (.agg #[.int .i64 k]),recovered:=true }]/\w'=panW n k w:=by
 have hb1:=hb.alloc (.cells #[.int .i64 k] 171);obtain⟨k00,k01,k1,k2,f00,f01,f1,f2,h0,h1,h2⟩:=hb1;have hlt:n+1+1<w.heap.size:=qav hb.h2;refine callsD_of_wpS Try.func119 rfl fun c₀ cs hu=>?_;apply wpS_seq;apply wpS_region;simp[wpOpsS,go_sem,recoverD,hu,Try.ntmps119,Exit.thenS];refine wpS_of_wp ?_
 have ht:(#[Value.pointer (some { block:=n,off:=0 }),Value.pointer (some { block:=n+1,off:=0 }),Value.pointer (some { block:=n+1+1,off:=0 })] ++
     ((Array.replicate 17 undef).setIfInBounds 3 (Value.iface 171 (Value.agg #[Value.int IntKind.i64 k]))).setIfInBounds 0 (Value.iface 171 (Value.agg #[Value.int IntKind.i64 k])))=#[.pointer (some ⟨n,0,none⟩),.pointer (some ⟨n+1,0,none⟩),.pointer (some ⟨n+1+1,0,none⟩),.iface 171 (.agg #[.int .i64 k]),undef,undef,.iface 171 (.agg #[.int .i64 k]),undef,undef,undef,undef,undef,undef,undef,undef,undef,undef,undef,undef,undef]:=by kernel_rfl
 rw[ht];clear ht;have hta:∀w:World,(Instr.typeAssert (Value.iface 171 (Value.agg #[Value.int IntKind.i64 k])) 20 171 true).run Try.prog w=.ok (.tuple #[.agg #[.int .i64 k],.bool true]) w:=fun _=>by kernel_rfl
 go_wp2
 go_region
 exact⟨rfl,_,rfl,_,by simp[results,Try.results119,jad],rfl,rfl,rfl⟩
theorem zg0(ul ub:Value)(k:Int)(w:World)(Q:World->Prop)(h:Calls Try.prog 120 #[ul,ub] (w3 w) fun e w'=>e=.panicked [{ v:=.iface 171 (.agg #[.int .i64 k]),recovered:=false }]/\Q w')
 (h0:∀w',Q w'->Bx3 w.heap.size w'):Calls Try.prog 87 #[ul,ub] w fun e w'=>∃w1,Q w1/\e=.returned (.tuple #[.agg #[.slice none 0 0,.slice none 0 0],.int .i64 k,.bool false])/\w'=panW w.heap.size k w1:=by
 go_enter_defers Try.func87,Try.ntmps87
 go_wp2_with (go_at_call 120;refine h.mono ?_;rintro e w' ⟨rfl,hq⟩)

 refine leaves_cons (f:=119) (args:=#[.pointer (some ⟨w.heap.size,0,none⟩),.pointer (some ⟨w.heap.size+1,0,none⟩),.pointer (some ⟨w.heap.size+1+1,0,none⟩)]) (by simp) (by simp[go_sem]) ?_;refine(zur w.heap.size k _ (h0 _ hq)).mono ?_;rintro e u' w'' ⟨rfl,rfl,rfl⟩;refine⟨_,q5d ⟨⟨rfl,rfl,rfl⟩,zg3 (h0 _ hq)⟩,_,hq,rfl,rfl⟩
def q4t:Sm:=⟨[.list cForm,.list (.int .u8)],[(false,cGraph),(false,.int .i64),(false,.bool)],fun x=>match S.dec x.1 x.2.1 with
 | .inl e=>some (([],[]),e,false,())
 | .inr g=>some (g,Int.ofNat 0,true,())⟩
theorem q4b{E:Env}{c:TC}{l:List (El c)}{u:Value}(h:VR E (.lst c l) u):∃a n cap,u=.slice a n cap:=by
 cases h with
 | lst0 h=>exact⟨_,_,_,rfl⟩
 | lst us h1 h2 h3 hb hh hc hu=>exact⟨_,_,_,rfl⟩
theorem zfv(w:World):Upd [] w (w3 w):=((Upd.push w _).trans (Upd.push _ _)).trans (Upd.push _ _)
theorem q4a(w:World):(w3 w).heap.size=w.heap.size+3:=by simp only[w3,World.alloc,jet]
theorem q4n{w w1:World}(h:∀b,b<(w3 w).heap.size->w1.heap[b]?=(w3 w).heap[b]?):Bx3 w.heap.size w1:=by
 have hs:=q4a w;refine Bx3.of ?_ ?_ ?_
 ·rw[h _ (by omega)];simp only[w3,World.alloc,jb8,jet];rw[jak (by omega),jak (by omega),jam trivial]
 ·rw[h _ (by omega)];simp only[w3,World.alloc,jb8,jet];rw[jak (by omega),jam trivial]
 ·rw[h _ (by omega)];simp only[w3,World.alloc,jb8,jet];rw[jam trivial]
theorem qe5(w:World)(b o:Nat)(v:Value):Upd [b] w (w.setCell { block:=b,off:=o } v):=by
 refine⟨rfl,rfl,rfl,by simp[World.setCell],fun x hx hm=>?_⟩;simp only[World.setCell,jb5];rw[jak];simp at hm;omega
theorem zdq{n:Nat}{a1 a2:Option Addr}{l1 c1 l2 c2:Nat}{w1:World}:Upd [n,n+1,n+1+1] w1 (retW n a1 a2 l1 c1 l2 c2 w1):=by
 unfold retW;exact(((qe5 _ n _ _).mono (by simp)).trans ((qe5 _ n _ _).mono (by simp))).trans (((qe5 _ (n+1) _ _).mono (by simp)).trans ((qe5 _ (n+1+1) _ _).mono (by simp)))
theorem ztq{n:Nat}{k:Int}{w1:World}:Upd [n,n+1,n+1+1] w1 (panW n k w1):=by
 unfold panW;refine Upd.trans ?_ (Upd.drew _ _);exact((Upd.push _ _).mono (by simp)).trans ((((qe5 _ n _ _).mono (by simp)).trans ((qe5 _ n _ _).mono (by simp))).trans (((qe5 _ (n+1) _ _).mono (by simp)).trans ((qe5 _ (n+1+1) _ _).mono (by simp))))
theorem agg1{E:Env}{t:Nat}{k:IntKind}{n:Int}{u:Value}(h:VR E (.iface t (.agg [.int k n])) u):u=.iface t (.agg #[.int k n])/\k.wrap n=n:=by
 cases h with
 | iface h =>
  cases h with
  | agg hl hh =>
   rename_i us;match us,hl with
   | [a],_ =>
    have:=hh 0 (by simp) (by simp);cases this with
    | int _ _ hw=>exact⟨rfl,hw⟩
theorem agg2{E:Env}{c d:TC}{l:List (El c)}{m:List (El d)}{u:Value}(h:VR E (.agg [.lst c l,.lst d m]) u):∃a1 l1 c1 a2 l2 c2,u=.agg #[.slice a1 l1 c1,.slice a2 l2 c2]:=by
 cases h with
 | agg hl hh =>
  rename_i us;match us,hl with
  | [a,b],_ =>
   obtain⟨a1,l1,c1,rfl⟩:=q4b (hh 0 (by simp) (by simp));obtain⟨a2,l2,c2,rfl⟩:=q4b (hh 1 (by simp) (by simp));exact⟨_,_,_,_,_,_,rfl⟩
theorem q2n{M M':List Nat}{w w':World}{r:Res}{u:Value}(hr:r.S=S0)(hos:w'.os=w.os)(ht:w'.tape=w.tape)(ho:w'.output=w.output)(hsz:w.heap.size<=w'.heap.size)(hs:∀b,b<w.heap.size->w'.heap[b]?=w.heap[b]?)
  (hm:∀b∈M',b∈M\/w.heap.size<=b) (hM:∀b∈M,b<w.heap.size->b∈M') (hlo:∀b∈M',b<w'.heap.size) (hv:VR (EM M' w') r.v u):RetE T0 (EM M w) S0 r (.returned u) w':=by
 refine⟨u,EM M' w',rfl,rfl,hv,?_,⟨fun id h=>h.elim⟩⟩;rw[hr];exact⟨⟨fun id _ h=>h.elim,fun id _ h=>h.elim,fun id _ h=>h.elim,fun i j _ _ h=>h.elim,hlo⟩,⟨hos,ht,ho,hsz,fun b hb _=>hs b hb,fun id h=>h.elim,fun id h=>h.elim,fun id _ h=>h.elim,hm,fun b hb hl=>.inl (hM b hb hl)⟩,fun id h=>h.elim,jar _⟩
theorem zqj:Con Try.prog 87 q4t:=by
 refine⟨⟨_,Try.func87,by kernel_rfl,by kernel_rfl⟩,fun M w x us y hf hM hG hv=>?_⟩;obtain⟨(F:List qac),(b:List Int),⟨⟩⟩:=x
 have hf:(match S.dec F b with
  | .inl e=>some (([],[]),e,false,())
  | .inr g=>some (g,Int.ofNat 0,true,()):Option ((List qab × List DVal) × Int × Bool × Unit))=some y:=hf
 obtain⟨ul,us1,rfl,a1,a2⟩:=VRs.inv (v:=.lst cForm F) (cs:=[.lst (.int .u8) b]) hv;obtain⟨ub,us2,rfl,b1,b2⟩:=VRs.inv (v:=.lst (.int .u8) b) (cs:=[]) a2;obtain rfl:us2=[]:=jbp.1 b2.1.symm;have hs3:=q4a w;have u3:=zfv w;have tr3:Tr M w (w.heap.size::(w.heap.size+1)::(w.heap.size+1+1)::M) (w3 w):=⟨fun b hb hm=>⟨by simp only[ja0];rintro(h|h|h|h);omega;omega;omega;exact hm h,u3.same b hb (by simp)⟩⟩;have le3:(EM M w).Le (EM (w.heap.size::(w.heap.size+1)::(w.heap.size+1+1)::M) (w3 w)):=⟨fun id h=>h.elim,tr3⟩;have p3:Pre T0 (EM (w.heap.size::(w.heap.size+1)::(w.heap.size+1+1)::M) (w3 w)) S0:=preM (by
  intro b hb;simp only[ja0] at hb;rcases hb with h|h|h|h
  ·omega
  ·omega
  ·omega
  ·have:=hM b h;omega) (hG.mono tr3)
 have hv3:VRs (EM (w.heap.size::(w.heap.size+1)::(w.heap.size+1+1)::M) (w3 w)) [.lst cForm F,.lst (.int .u8) b] [ul,ub]:=hv.mono le3;cases hd:S.dec F b with
 | inl e =>
  rw[hd] at hf;cases hf;have hcall:=q81.calls _ (F,b,()) [ul,ub] (.inl (e,())) (by show (match S.dec F b with|.inl e=>some (Sum.inl (e,()))|.inr g=>some (Sum.inr ((g,()),())):Option qao)=_;rw[hd];rfl) p3 hv3;refine jc6.2 ((zg0 ul ub e w (fun w1=>IntKind.i64.wrap e=e/\(w1.os=(w3 w).os/\w1.tape=(w3 w).tape/\w1.output=(w3 w).output/\(w3 w).heap.size<=w1.heap.size)/\∀b,b<(w3 w).heap.size->w1.heap[b]?=(w3 w).heap[b]?) ((jc6.1 hcall).mono ?_) fun w1 h=>q4n h.2.2).mono ?_)
  ·rintro e1 w1 ⟨u,rfl,k1,k2,k3⟩;obtain⟨hu,hw⟩:=agg1 k1;subst hu;exact⟨rfl,hw,⟨k3.stp.os,k3.stp.tape,k3.stp.output,k3.stp.size⟩,fun b hb=>k3.stp.same b hb fun id _ h=>h.elim⟩
  ·rintro e1 w2 ⟨w1,⟨hwr,⟨q1,q2,q3,q4⟩,q5⟩,rfl,rfl⟩;have hu:=ztq (n:=w.heap.size) (k:=e) (w1:=w1);refine q2n (M':=M) rfl (hu.os.trans (q1.trans u3.os)) (hu.tape.trans (q2.trans u3.tape)) (hu.output.trans (q3.trans u3.output)) (by have:=hu.size;omega) (fun b hb=>?_) (fun b hb=>.inl hb) (fun b hb _=>hb) (fun b hb=>by have:=hM b hb;have:=hu.size;omega) ?_
   ·rw[hu.same b (by omega) (by simp;omega),q5 b (by omega),u3.same b hb (by simp)]
   ·have hk:IntKind.i64.wrap e=e:=hwr;refine .tup (cs:=[.agg [.lst qah [],.lst cVal []],.int .i64 e,.bool false]) (us:=[.agg #[.slice none 0 0,.slice none 0 0],.int .i64 e,.bool false]) rfl ?_;have h1:VRs (EM M (panW w.heap.size e w1)) [.agg [.lst qah [],.lst cVal []],.int .i64 e,.bool false] [.agg #[.slice none 0 0,.slice none 0 0],.int .i64 e,.bool false] :=
     VRs.cons (.agg (us:=[.slice none 0 0,.slice none 0 0]) rfl (VRs.cons (.lst0 (by omega)) (VRs.cons (.lst0 (by omega)) VRs.nil)).2) (VRs.cons (.int _ _ hk) (VRs.cons (.bool _) VRs.nil))
    exact h1.2
 | inr g =>
  rw[hd] at hf;cases hf;have hcall:=q81.calls _ (F,b,()) [ul,ub] (.inr ((g,()),())) (by show (match S.dec F b with|.inl e=>some (Sum.inl (e,()))|.inr g=>some (Sum.inr ((g,()),())):Option qao)=_;rw[hd];rfl) p3 hv3
  refine jc6.2 ((zon ul ub w (fun a1 l1 c1 a2 l2 c2 w1=>(w1.os=(w3 w).os/\w1.tape=(w3 w).tape/\w1.output=(w3 w).output/\(w3 w).heap.size<=w1.heap.size)/\(∀b,b<(w3 w).heap.size->w1.heap[b]?=(w3 w).heap[b]?) /\
   ∃m:List Nat,(∀b∈m,b∈w.heap.size::(w.heap.size+1)::(w.heap.size+1+1)::M\/(w3 w).heap.size<=b)/\(∀b∈w.heap.size::(w.heap.size+1)::(w.heap.size+1+1)::M,b∈m)/\(∀b∈m,b<w1.heap.size)/\VR (EM m w1) (asIV cGraph g) (.agg #[.slice a1 l1 c1,.slice a2 l2 c2])) ((jc6.1 hcall).mono ?_) fun _ _ _ _ _ _ w1 h=>q4n h.2.1).mono ?_)
  ·rintro e1 w1 ⟨u,E',rfl,rfl,k1,k2⟩;have k1:VR E' (asIV cGraph g) u:=k1;obtain⟨a1,l1,c1,a2,l2,c2,rfl⟩:=agg2 k1;refine⟨a1,l1,c1,a2,l2,c2,rfl,⟨k2.os,k2.tape,k2.output,k2.size⟩,fun b hb=>k2.same b hb fun id _ h=>h.elim,E'.m,k2.memo,fun b hb=>?_,k2.st.lo,qek (E:=E') (E':=EM E'.m E'.w) (c:=cGraph) (fun _ h=>h) rfl k1⟩;have hbs:b<(w3 w).heap.size:=p3.st.lo b hb;rcases k2.mem b hb hbs with h|⟨id,_,h,_⟩
   ·exact h
   ·exact h.elim
  ·rintro e1 w2 ⟨a1,l1,c1,a2,l2,c2,w1,⟨⟨q1,q2,q3,q4⟩,q5,m,m1,m2,m3,m4⟩,rfl,rfl⟩;have hu:=zdq (n:=w.heap.size) (a1:=a1) (a2:=a2) (l1:=l1) (c1:=c1) (l2:=l2) (c2:=c2) (w1:=w1);refine q2n (M':=m) rfl (hu.os.trans (q1.trans u3.os)) (hu.tape.trans (q2.trans u3.tape)) (hu.output.trans (q3.trans u3.output)) (by have:=hu.size;omega) (fun b hb=>?_) (fun b hb=>?_) (fun b hb _=>m2 b (by simp[hb])) (fun b hb=>by have:=m3 b hb;have:=hu.size;omega) ?_
   ·rw[hu.same b (by omega) (by simp;omega),q5 b (by omega),u3.same b hb (by simp)]
   ·rcases m1 b hb with h|h
    ·simp only[ja0] at h;rcases h with h|h|h|h
     ·right;omega
     ·right;omega
     ·right;omega
     ·exact .inl h
    ·right;omega
   ·have hle:(EM m w1).Le (EM m (retW w.heap.size a1 a2 l1 c1 l2 c2 w1)):=⟨fun id h=>h.elim,⟨fun b hb hm=>⟨hm,hu.same b hb fun hmem=>hm (m2 b (by simp only[ja0,jdc,je9] at hmem ⊢;rcases hmem with h|h|h<;>simp [h]))⟩⟩⟩;have hg:VR (EM m (retW w.heap.size a1 a2 l1 c1 l2 c2 w1)) (asIV cGraph g) (.agg #[.slice a1 l1 c1,.slice a2 l2 c2]):=m4.mono hle;refine .tup (cs:=[asIV cGraph g,.int .i64 (Int.ofNat 0),.bool true]) (us:=[.agg #[.slice a1 l1 c1,.slice a2 l2 c2],.int .i64 0,.bool true]) rfl ?_;have h1:VRs (EM m (retW w.heap.size a1 a2 l1 c1 l2 c2 w1)) [asIV cGraph g,.int .i64 (Int.ofNat 0),.bool true] [.agg #[.slice a1 l1 c1,.slice a2 l2 c2],.int .i64 0,.bool true] :=
     VRs.cons hg (VRs.cons (.int _ _ (by decide)) (VRs.cons (.bool _) VRs.nil))
    exact h1.2
end Go.Proofs.Ytcnhjofpmpipfaa
end

noncomputable section
set_option maxRecDepth 100000
namespace Go.Proofs.Ytcnhjofpmpipfaa
open Go Go.Sx Go.RowKit Go.Jx
abbrev qo9:Type:=qaa × Int × Int × Unit
abbrev zja:Nat:=41
def q5i(lf:Nat)(x1:(List qac))(x2:(List Int)):Option qo9:=(cond (Bool.not (ieqI (S.checkForms x1) (Int.ofNat 0))) (some (([],[]),((Int.ofNat 0),((S.checkForms x1),())))) (cond (iltI (Int.ofNat 60000) (Int.ofNat x2.length)) (some (([],[]),((Int.ofNat 0),((Int.ofNat 3),())))) (cond (iltI (IntKind.i64.wrap (Int.sub (Int.ofNat x2.length) (Int.ofNat 4))) (Int.ofNat 0)) (some (([],[]),((Int.ofNat 0),((Int.ofNat 15),())))) (cond (lchk (IntKind.i64.wrap (Int.sub (Int.ofNat x2.length) (Int.ofNat 4))) (Int.ofNat x2.length) (Int.ofNat x2.length) (Int.ofNat x2.length)) (cond (lchk (Int.ofNat 0) (IntKind.i64.wrap (Int.sub (Int.ofNat x2.length) (Int.ofNat 4))) (Int.ofNat x2.length) (Int.ofNat x2.length)) (cond (Bool.not (S.eqB (lsub x2 (IntKind.i64.wrap (Int.sub (Int.ofNat x2.length) (Int.ofNat 4))) (Int.ofNat x2.length)) (S.sum4 (lsub x2 (Int.ofNat 0) (IntKind.i64.wrap (Int.sub (Int.ofNat x2.length) (Int.ofNat 4))))))) (some (([],[]),((Int.ofNat 0),((Int.ofNat 15),())))) (cond (lchk (Int.ofNat 0) (IntKind.i64.wrap (Int.sub (Int.ofNat x2.length) (Int.ofNat 4))) (Int.ofNat x2.length) (Int.ofNat x2.length)) (match (match (S.dec x1 (lsub x2 (Int.ofNat 0) (IntKind.i64.wrap (Int.sub (Int.ofNat x2.length) (Int.ofNat 4))))) with|.inl v0=>(some (([],[]),(v0,(false,()))))|.inr v1=>(some (v1,((Int.ofNat 0),(true,()))))) with|none=>none|some v2=>(cond (Bool.not v2.2.2.1) (some (([],[]),(v2.2.1,((Int.ofNat 2),())))) (match (cond (S.typedPre x1 (v2.1.1,v2.1.2)) (some ((S.typed x1 (v2.1.1,v2.1.2) v2.1.1),())) none) with|none=>none|some v3=>(cond (Bool.not v3.1) (some (([],[]),((Int.ofNat 0),((Int.ofNat 8),())))) (match (S.canonO (v2.1.1,v2.1.2)) with|none=>none|some v4=>(cond (Bool.not (S.eqGraph (v4.1.1,v4.1.2) (v2.1.1,v2.1.2))) (some (([],[]),((Int.ofNat 0),((Int.ofNat 2),())))) (some ((v2.1.1,v2.1.2),((Int.ofNat 0),((Int.ofNat 0),())))))))))) none)) none) none))))
def qoa(lf:Nat)(x1:(List qac))(x2:(List Int)):Option qo9:=q5i lf x1 x2
theorem zbj{g:ElA [(.list cForm),(.list (.int .u8))]->Option qo9}(hsm:SmOK Try.prog [(16,spz4),(66,q9w),(42,quz),(87,q4t),(88,spz6),(62,spz9),(72,qwi)])(hg:∀(x:ElA [(.list cForm),(.list (.int .u8))]) (y:qo9),WfA [(.list cForm),(.list (.int .u8))] x->g x=some y->∃lf,qoa lf x.1 x.2.1=some y):Con Try.prog 41 ⟨[(.list cForm),(.list (.int .u8))],[(false,cGraph),(false,(.int .i64)),(false,(.int .i64))],g⟩ :=
 conU (fi:=fi41) (hxl:=[]) (fun lf x=>qoa lf x.1 x.2.1) cm3 zdd trivial hsm hg
namespace S
def sameVals(a b:List DVal):Bool:=decide (a=b)
def sameGraphs(a b:qaa):Bool:=decide (a=b)
end S
def q7t:Sm:=⟨[.list cVal,.list cVal],[(false,.bool)],fun x=>some (S.sameVals x.1 x.2.1,())⟩
def q01:Sm:=⟨[cGraph,cGraph],[(false,.bool)],fun x=>some (S.sameGraphs x.1 x.2.1,())⟩
namespace S
def fewForms(l:List qac):Bool :=
 l.all (fun f=>decide (f.1.size<=30/\(f.2.length<=6\/30<f.2.length)/\f.2.length<=40)&&f.2.all fun c=>decide (c.1.size<=30/\c.2.2.size<=30))&&decide (l.length<=6\/24<l.length/\l.length<=30)
def few(g:qaa):Bool :=
 g.1.all (fun n=>decide ((n.2.length<=8\/30<n.2.length)/\n.2.length<=40))&&decide ((g.1.length<=30\/400<g.1.length/\g.1.length<=410)/\(g.2.length<=10\/60<g.2.length/\g.2.length<=70))
end S
def q22:Sm:=⟨[.list cForm],[(false,.bool)],fun x=>some (S.fewForms x.1,())⟩
def q1h:Sm:=⟨[cGraph],[(false,.bool)],fun x=>some (S.few x.1,())⟩
def qiq:Sm:=⟨[],[(false,.bool)],fun _=>some (true,())⟩
namespace S
def zG:qaa:=(([],[]):List qab × List DVal)
def canonB(g:qaa):qaa × List Int × Int:=if S.formed g=0 then (S.canonG g,S.numsG g,0) else (zG,[],S.formed g)
def sameB(a b:qaa):Bool × Int:=if ¬S.formed a=0 then (false,S.formed a) else if ¬S.formed b=0 then (false,S.formed b) else (S.sameGraphs (S.canonG a) (S.canonG b),0)
end S
def q6i:Sm:=⟨[cGraph],[(false,cGraph),(false,.list (.int .i64)),(false,.int .i64)],fun x=>some ((S.canonB x.1).1,(S.canonB x.1).2.1,(S.canonB x.1).2.2,())⟩
def q9b:Sm:=⟨[cGraph,cGraph],[(false,.bool),(false,.int .i64)],fun x=>some ((S.sameB x.1 x.2.1).1,(S.sameB x.1 x.2.1).2,())⟩
end Go.Proofs.Ytcnhjofpmpipfaa
end

section
set_option maxRecDepth 100000
namespace Go.Sx
open Go
section
variable {P : Program} {ops : Array Oper} {Q : Exit -> Act -> World -> Prop} {n : Nat} {σ : Nat -> Value} {w : World} {rest : List Oper} {d : Nat} {ty : TypeId} {pos : String} {aft : Array Edge} {g : Option (Nat × Bool)}
end
end Go.Sx
namespace Go.Proofs.Ytcnhjofpmpipfaa
open Go Go.Sx Go.RowKit Go.Jx
end Go.Proofs.Ytcnhjofpmpipfaa
end

noncomputable section
set_option maxRecDepth 100000
namespace Go.Proofs.Ytcnhjofpmpipfaa
open Go Go.Sx Go.RowKit Go.Jx


section
variable {g : List qab × List DVal}
end
section
variable {g : List qab × List DVal}
end
structure EncG (l:List qac) (G:List qab × List DVal):Prop where
 l24:l.length<=24
 n4:G.1.length<=400
 r6:G.2.length<=60
 vs:∀n∈G.1,List.length (α:=Int × Int) (n:ByteArray × List (Int × Int)).2<=30
 ok:∀n∈G.1,∀v∈(n:ByteArray × List (Int × Int)).2,S.numOK (S.code v)=true
 rok:∀v∈G.2,S.numOK (S.code (v:Int × Int))=true
theorem zh0{α:Type}(p:α->Bool)(l:List α):-1<=S.idx p l/\S.idx p l<Int.ofNat l.length+1:=by
 unfold S.idx;cases h:l.findIdx? p with
 | none=>exact⟨by simp,by show (-1:Int)<(l.length:Int)+1;omega⟩
 | some j =>
  have hj:j<l.length:=(jcf.1 h).1;exact⟨by show (-1:Int)<=(j:Int);omega,by show (j:Int)<(l.length:Int)+1;omega⟩
theorem qhr{n:Int}(h1:-2000000000000<=n)(h2:n<=2000000000000):S.numOK n=true:=by unfold S.numOK;rw[jaj h1,jaj h2];rfl
theorem zba{l:List qac}(hl:l.length<=24)(n:ByteArray):S.numOK (S.form l n)=true:=by
 obtain⟨h1,h2⟩:=zh0 (fun f:qac=>keqS f.1 n) l;have h2:S.form l n<(l.length:Int)+1:=h2;exact qhr (by show _<=S.form l n;have:-1<=S.form l n:=h1;omega) (by omega)
theorem qy8{n:Nat}(h:n<=400):S.numOK (Int.ofNat n)=true:=qhr (by show _<=(n:Int);omega) (by show (n:Int)<=_;omega)
theorem q4i{m:Nat}(hm:m<=400){v:Int × Int}(h:S.value v (Int.ofNat m)=true):S.numOK (S.code v)=true:=by
 have h:=(qgp hm v).1 h;unfold S.code;by_cases h3:v.1=3
 ·rw[jam h3];exact qhr (by omega) (by omega)
 ·rw[jak h3];by_cases h4:v.1=4
  ·rw[jam h4];have:0<=v.2/\v.2<400:=by
    rcases h with ⟨a,_⟩|⟨a,_⟩|⟨a,_⟩|⟨a,b,c⟩
    ·have a:v.1=1:=a;omega
    ·have a:v.1=2:=a;omega
    ·have a:v.1=3:=a;omega
    ·have b:0<=v.2:=b;have c:v.2<(m:Int):=c;omega
   rw[w64 (n:=v.2+1) (by omega) (by omega)];exact qhr (by omega) (by omega)
  ·rw[jak h4];rcases h with ⟨a,b,c⟩|⟨a,b,c⟩|⟨a,b⟩|⟨a,b,c⟩
   ·have b:-1099511627776<=v.2:=b;have c:v.2<=1099511627776:=c;exact qhr (by omega) (by omega)
   ·have b:0<=v.2:=b;have c:v.2<=1:=c;exact qhr (by omega) (by omega)
   ·exact absurd a h3
   ·exact absurd a h4
theorem zmc{l:List qac}{g:qaa}(h:S.checkG l g=0):S.formed g=0/\EncG l (S.canonG g):=by
 unfold S.checkG at h;by_cases hc:S.checkForms l=0
 ·rw[jak (by simpa using hc)] at h;have hf:=((qxu l g).1 h).formed;have hF:=qsb hc;obtain⟨f1,f2,f3,f4,f5⟩:=qlg (qsq (x:=g) hf);exact⟨hf,hF.len,f1,f2,f3,fun n hn v hv=>q4i f1 (f4 n hn v hv),fun v hv=>q4i f1 (f5 v hv).1⟩
 ·rw[jam hc] at h;exact absurd h hc
theorem quq(v:Int × Int)(l:List (Int × Int)):S.codes (v::l)=S.num (S.code v)++S.codes l:=rfl
theorem qu7:∀l:List (Int × Int),(S.codes l).length<=11*l.length
 | []=>jar _
 | v::l=>by
  have:=qu7 l;have:=qfh (S.code v);rw[quq,jaq,jbj];omega
section
variable {l : List qac} {x2 : qaa} {G : List qab × List DVal}
theorem zn1(K9:((List Int) × (List qab) × (List DVal) × Int)->Option qa9)(vs:List (Int × Int))(hv:vs.length<=400)(hok:∀v∈vs,S.numOK (S.code v)=true)(nd:List qab)(rs:List DVal)(i0:Int)(out:List Int)(ho:out.length<=1000000) :
  rounds (fun K p=>qjn LF l x2 K K9 p) LF (nd,rs,vs,out,Int.ofNat 0,i0)=K9 (out++S.codes vs,nd,rs,IntKind.i64.wrap (Int.add i0 (Int.ofNat 1))):=by
 refine range0 (α:=Int × Int) (σ:=List Int) (R:=qa9) vs (fun k s=>(nd,rs,vs,s,k,i0)) (fun i s=>s.length<=1000000+11*i)
  (fun rest i s=>K9 (s++S.codes rest,nd,rs,IntKind.i64.wrap (Int.add i0 (Int.ofNat 1)))) (by unfold LF;omega) (fun K s hI=>?_) (fun K i v rest s hI r hk=>?_) out (by omega)
 ·simp only[qjn,qbd,jae];rw[show S.codes []=[] from rfl,jbk]
 ·have h1:=r.ilt;have h2:=r.get;have hlt:=r.lt;have hn:=qfh (S.code v);have hb:Nat.ble (Nat.mul (Nat.add s.length (List.length (S.num (S.code v)))) 1) 140737488355328=true:=qex (by omega);have hc:S.numOK (S.code (v.1,v.2))=true:=hok v r.mem;have hb2:Nat.ble (Nat.mul (Nat.add s.length (List.length (S.num (S.code (v.1,v.2))))) 1) 140737488355328=true:=hb;simp only[qjn,h1,jaa,h2,hc,hb2,r.next];have:=hk (s.append (S.num (S.code v))) (by show (s++_).length<=_;rw[jaq];omega);refine jee this ?_;rw[quq,<- ja9];rfl
theorem znz(hg:EncG l G)(out:List Int)(ho:out.length<=1000000) :
  rounds (fun K p=>qko LF l x2 K p) LF (G.2,out,Int.ofNat 0) =
   (if 60000<(out++S.codes G.2).length+4 then some ([],(Int.ofNat 3,())) else some ((out++S.codes G.2)++S.sum4 (out++S.codes G.2),(Int.ofNat 0,()))):=by
 have hr6:=hg.r6;refine range0 (α:=Int × Int) (σ:=List Int) (R:=qa9) G.2 (fun k s=>(G.2,s,k)) (fun i s=>s.length<=1000000+11*i)
  (fun rest i s=>if 60000<(s++S.codes rest).length+4 then some ([],(Int.ofNat 3,())) else some ((s++S.codes rest)++S.sum4 (s++S.codes rest),(Int.ofNat 0,()))) (by unfold LF;omega) (fun K s hI=>?_) (fun K i v rest s hI r hk=>?_) out (by omega)
 ·have e4:(S.sum4 s).length=4:=rfl;have hb:Nat.ble (Nat.mul (Nat.add s.length (List.length (S.sum4 s))) 1) 140737488355328=true:=qex (by rw[e4];omega);have hl:(List.append s (S.sum4 s)).length=s.length+4:=by show (s++_).length=_;rw[jaq,e4]
  have e:s++S.codes []=s:=by rw[show S.codes []=[] from rfl,jbk]
  simp only[qko,qbd,jae,hb,jaa,e,hl];by_cases h6:60000<s.length+4
  ·rw[show iltI (Int.ofNat 60000) (Int.ofNat (s.length+4))=true by rw[qan];exact jaj (by show (60000:Int)<((s.length+4:Nat):Int);omega),jaa,jam h6]
  ·rw[show iltI (Int.ofNat 60000) (Int.ofNat (s.length+4))=false by rw[qan];exact jai (by show ¬(60000:Int)<((s.length+4:Nat):Int);omega),jae,jak h6];rfl
 ·have h1:=r.ilt;have h2:=r.get;have hlt:=r.lt;have hn:=qfh (S.code v);have hc:S.numOK (S.code (v.1,v.2))=true:=hg.rok v r.mem;have hb2:Nat.ble (Nat.mul (Nat.add s.length (List.length (S.num (S.code (v.1,v.2))))) 1) 140737488355328=true:=qex (by show s.length+(S.num (S.code v)).length<=_;omega);simp only[qko,h1,jaa,h2,hc,hb2,r.next];have:=hk (s.append (S.num (S.code v))) (by show (s++_).length<=_;rw[jaq];omega);refine jee this ?_;have e:List.append s (S.num (S.code v))++S.codes rest=s++S.codes (v::rest):=by rw[quq,<- ja9];rfl
  rw[e]
theorem zsi(hg:EncG l G)(L20:((List DVal) × (List Int) × Int)->Option qa9)(out:List Int)(ho:out.length<=100) :
  rounds (fun K p=>qm6 LF l x2 (fun q=>qlw LF l x2 K LF q) L20 p) LF (out,G.1,G.2,Int.ofNat 0)=L20 (G.2,out++(G.1.flatMap (S.encN l)++S.num (Int.ofNat G.2.length)),Int.ofNat 0):=by
 have hn4:=hg.n4;refine range0 (α:=ByteArray × List (Int × Int)) (σ:=List Int) (R:=qa9) G.1 (fun k s=>(s,G.1,G.2,k)) (fun i s=>s.length<=100+400*i)
  (fun rest i s=>L20 (G.2,s++(rest.flatMap (S.encN l)++S.num (Int.ofNat G.2.length)),Int.ofNat 0)) (by unfold LF;omega) (fun K s hI=>?_) (fun K i v rest s hI r hk=>?_) out (by omega)
 ·have hn:=qfh (Int.ofNat G.2.length);have hr6:=hg.r6;have hc:=qy8 (n:=G.2.length) (by omega);have hb:Nat.ble (Nat.mul (Nat.add s.length (List.length (S.num (Int.ofNat G.2.length)))) 1) 140737488355328=true:=qex (by omega);simp only[qm6,qbd,jae,hc,jaa,hb,List.flatMap_nil,jc2];rfl
 ·have h1:=r.ilt;have h2:=r.get;have hlt:=r.lt;have hn:=qfh (S.form l v.1);have hv:=hg.vs v r.mem;have hc:=zba hg.l24 v.1;have hb:Nat.ble (Nat.mul (Nat.add s.length (List.length (S.num (S.form l v.1)))) 1) 140737488355328=true:=qex (by omega);have hin:=zn1 (l:=l) (x2:=x2) K v.2 (by omega) (hg.ok v r.mem) G.1 G.2 (Int.ofNat i) (s++S.num (S.form l v.1)) (by rw[jaq];omega);have hcl:=qu7 v.2;simp only[qm6,h1,jaa,h2,hc,hb];refine jee hin ?_;rw[r.next];have:=hk ((s++S.num (S.form l v.1))++S.codes v.2) (by rw[jaq,jaq];omega);refine jee this ?_;have e:(s++S.num (S.form l v.1))++S.codes v.2++(rest.flatMap (S.encN l)++S.num (Int.ofNat G.2.length))=s++((v::rest).flatMap (S.encN l)++S.num (Int.ofNat G.2.length)):=by
   rw[jei];simp only[S.encN,ja9]
  rw[e]
end
theorem q2a{l:List qac}:∀(ns:List qab),(∀n∈ns,List.length (α:=Int × Int) (n:ByteArray × List (Int × Int)).2<=30)->(ns.flatMap (S.encN l)).length<=400*ns.length
 | [],_=>by simp
 | n::ns,h=>by
  have:=q2a (l:=l) ns fun m hm=>h m (ja2 _ hm);have h30:List.length (α:=Int × Int) (n:ByteArray × List (Int × Int)).2<=30:=h n (jbd ..);have h1:=qfh (S.form l (n:ByteArray × List (Int × Int)).1);have h2:=qu7 (n:ByteArray × List (Int × Int)).2;rw[jei,jaq];simp only[S.encN,jaq,jbj];omega
theorem zp2(l:List qac)(g:qaa):Fz15 LF l g=some ((S.encB l g).1,(S.encB l g).2,()):=by
 have eta:((g:List qab × List DVal).1,(g:List qab × List DVal).2)=g:=rfl;by_cases h:S.checkG l g=0
 ·obtain⟨hf,hE⟩:=zmc h;obtain⟨hc,_⟩:=qlb (qd8 hf);have hn4:=hE.n4;have hr6:=hE.r6;have k1:ieqI (S.checkG l g) (Int.ofNat 0)=true:=by rw[qat];exact jaj h
  have hk:=qy8 (n:=(S.canonG g:List qab × List DVal).1.length) hn4;have hnl:=qfh (Int.ofNat (S.canonG g:List qab × List DVal).1.length);have hb:Nat.ble (Nat.mul (Nat.add 0 (List.length (S.num (Int.ofNat (S.canonG g:List qab × List DVal).1.length)))) 1) 140737488355328=true:=qex (by omega);have hfl:=q2a (l:=l) (S.canonG g:List qab × List DVal).1 hE.vs;have e9:=zsi (x2:=g) hE (fun q=>qjg LF l g LF q) (S.num (Int.ofNat (S.canonG g:List qab × List DVal).1.length)) (by omega);have hnr:=qfh (Int.ofNat (S.canonG g:List qab × List DVal).2.length);have e20:=znz (x2:=g) hE (S.num (Int.ofNat (S.canonG g:List qab × List DVal).1.length)++((S.canonG g:List qab × List DVal).1.flatMap (S.encN l)++S.num (Int.ofNat (S.canonG g:List qab × List DVal).2.length))) (by rw[jaq,jaq];omega);have ee:S.num (Int.ofNat (S.canonG g:List qab × List DVal).1.length)++((S.canonG g:List qab × List DVal).1.flatMap (S.encN l)++S.num (Int.ofNat (S.canonG g:List qab × List DVal).2.length))++S.codes (S.canonG g:List qab × List DVal).2=S.enc l (S.canonG g):=by
   unfold S.enc;simp only[ja9]
  rw[ee] at e20;simp only[Fz15,qqu,eta,k1,jbf,jae,hc,hk,jaa,hb];refine(e9.trans e20).trans ?_;unfold S.encB;rw[jam h];by_cases h6:60000<(S.enc l (S.canonG g)).length+4
  ·rw[jam h6,jam h6];rfl
  ·rw[jak h6,jak h6];rfl
 ·have k1:ieqI (S.checkG l g) (Int.ofNat 0)=false:=by rw[qat];exact jai h
  simp only[Fz15,qqu,eta,k1,ja7,jaa];unfold S.encB;rw[jak h]
theorem zbq:Con Try.prog zs7 q24:=zna ⟨zek,qp1,qo8,zj7,zso,trivial⟩ zbn fun x y hx h=>⟨LF,(zp2 x.1 x.2.1).trans h⟩
section
variable {l : List qac} {x2 : qaa} {G : List qab × List DVal}
end
section
variable {a b : List (ByteArray × List (Int × Int)) × List (Int × Int)}
end
def qjw:Nat->Option Nm:=fun k=>cond (Nat.beq k 4) (some ⟨[0,1,5],[],[],[],[],0,0,false⟩) (none)
def qk9:Nat->Bool:=fun k=>cond (Nat.beq k 4) true (false)
def q26:=qk9
abbrev qcy:Type:=Bool × Unit
def q4k:List (Nat × Sm):=[]
def q3q:List (Nat × Hx):=[]
def qsi(R:Type)(lf:Nat):ClK R:=qau Try.prog ttT.get ftT.get (nm1 73 qjw) (smL q4k) (hxL q3q) lf 20 R
abbrev za3:Nat:=73
def qhi(x1:(List DVal))(x2:(List DVal))(p:Int):NRes:=(NRes.mk (.node (some (IV.lst cVal x1)) (.node (some (IV.lst cVal x2)) .leaf (.node (some (IV.int .i64 p)) .leaf .leaf)) .leaf) (IS.mk .leaf 0) [] 0)
def qxf(lf:Nat)(x1:(List DVal))(x2:(List DVal))(L4:Int->Option qcy):Option qcy:=(cond (Bool.not (ieqI (Int.ofNat x1.length) (Int.ofNat x2.length))) (some (false,())) (L4 (Int.ofNat 0)))
def qrh(lf:Nat)(x1:(List DVal))(x2:(List DVal))(L4:Int->Option qcy)(p:Int):Option qcy:=(cond (iltI p (Int.ofNat x1.length)) (match (jget x1 p) with|none=>none|some v0=>(match (jget x2 p) with|none=>none|some v1=>(cond (Bool.not (Bool.and (keqI v0.1 v1.1) (Bool.and (keqI v0.2 v1.2) true))) (some (false,())) (L4 (IntKind.i64.wrap (Int.add p (Int.ofNat 1))))))) (some (true,())))
abbrev gz20:Type:=ElA [(.list cVal),(.list cVal)]->Option qcy
abbrev sz20(g:gz20):Sm:=⟨[(.list cVal),(.list cVal)],[(false,.bool)],g⟩
abbrev Ez20(g:gz20)(J:JT qcy)(lf:Nat)(x1:(List DVal))(x2:(List DVal)):=qbs Try.prog ttT.get qjw fi73.nt (qsi _ lf) lf qk9 J fi73.body [] (qaq (argV [(.list cVal),(.list cVal)] (x1,x2,())) 0 .leaf) S0 [] (qas ttT.get fi73 (sz20 g))
abbrev Bz20(g:gz20)(J:JT qcy)(lf k:Nat)(ms:List Nat)(q:NRes):=qb0 Try.prog ttT.get qjw fi73.nt (qsi _ lf) lf qk9 J k fi73.body [] ms q (qas ttT.get fi73 (sz20 g))
theorem znf(g:gz20)(J:JT qcy)(lf:Nat)(x1:(List DVal))(x2:(List DVal)):Ez20 g J lf x1 x2=qxf lf x1 x2 (fun q=>J 4 [lf] (qhi x1 x2 q)):=by kernel_rfl
theorem zjt(g:gz20)(J:JT qcy)(lf:Nat)(x1:(List DVal))(x2:(List DVal))(m1:Nat)(p:Int):Bz20 g J lf 4 [m1] (qhi x1 x2 p)=qrh lf x1 x2 (fun q=>J 4 [m1] (qhi x1 x2 q)) p:=by kernel_rfl
theorem q8h:(regs fi73.body).Nodup:=by decide +kernel
theorem qyi:okC qjw qk9 q26 fi73.body none=true:=by kernel_rfl
def Az20(g:gz20)(lf:Nat):JT qcy:=atN Try.prog ttT.get qjw fi73 (sz20 g) (qsi _ lf) lf q26
def qnp(lf:Nat)(x1:(List DVal))(x2:(List DVal)):Nat->(Int)->Option qcy:=rounds fun K p=>qrh lf x1 x2 K p
theorem qzv(g:gz20)(lf:Nat)(x1:(List DVal))(x2:(List DVal)):∀(n:Nat) (p:Int),Az20 g lf 4 [n] (qhi x1 x2 p)=qnp lf x1 x2 n p
 | 0,p=>qbf 4 [0] rfl _
 | n+1,p=>by
  have ih:=qzv g lf x1 x2 n;refine(qay (qam 20 _) q8h qyi 4 [n+1] [n] rfl _).trans ((zjt g (Az20 g lf) lf x1 x2 n p).trans ?_);rw[(show (fun q=>Az20 g lf 4 [n] (qhi x1 x2 q))=(fun q=>qnp lf x1 x2 n q) from funext ih)];rfl
def Fz20(lf:Nat)(x1:(List DVal))(x2:(List DVal)):Option qcy:=qxf lf x1 x2 (fun q=>qnp lf x1 x2 lf q)
theorem zqs(g:gz20)(lf:Nat)(x1:(List DVal))(x2:(List DVal)):Ez20 g (Az20 g lf) lf x1 x2=Fz20 lf x1 x2:=by
  refine(znf g (Az20 g lf) lf x1 x2).trans ?_;rw[(show (fun q=>Az20 g lf 4 [lf] (qhi x1 x2 q))=(fun q=>qnp lf x1 x2 lf q) from funext fun q=>qzv g lf x1 x2 lf q)];rfl
theorem zcw:qa2 Try.prog q3q:=trivial
theorem zge{g:gz20}(hsm:SmOK Try.prog q4k)(hg:∀(x:ElA [(.list cVal),(.list cVal)]) (y:qcy),WfA [(.list cVal),(.list cVal)] x->g x=some y->∃lf,Fz20 lf x.1 x.2.1=some y):Con Try.prog 73 ⟨[(.list cVal),(.list cVal)],[(false,.bool)],g⟩ :=
 conV (st:=qk9) (fun lf x=>Fz20 lf x.1 x.2.1) cm3 zpe zcw q8h qyi (fun lf x=>zqs g lf x.1 x.2.1) hsm hg
def qls:Nat->Option Nm:=fun k=>cond (Nat.beq k 5) (some ⟨[2,3,6],[],[],[],[],0,0,false⟩) (none)
def qlp:Nat->Bool:=fun k=>cond (Nat.beq k 5) true (false)
def q96:=qlp
abbrev qcn:Type:=Bool × Unit
def q8s:List (Nat × Sm):=[(73,q7t)]
def q6c:List (Nat × Hx):=[]
def qus(R:Type)(lf:Nat):ClK R:=qau Try.prog ttT.get ftT.get (nm1 26 qls) (smL q8s) (hxL q6c) lf 20 R
abbrev zme:Nat:=26
def qh5(x1:qaa)(x2:qaa)(p:Int):NRes:=(NRes.mk (.node none (.node none (.node (some (IV.ptr 1 0)) .leaf .leaf) .leaf) (.node (some (IV.ptr 0 0)) .leaf (.node (some (IV.int .i64 p)) .leaf .leaf))) (IS.mk (.node (some (IObj.row (List.cons (IV.lst qah x1.1) [(IV.lst cVal x1.2)]))) (.node (some (IObj.row (List.cons (IV.lst qah x2.1) [(IV.lst cVal x2.2)]))) .leaf .leaf) .leaf) 2) [] 0)
def qvg(lf:Nat)(x1:qaa)(x2:qaa)(L5:Int->Option qcn):Option qcn:=(cond (Bool.not (S.sameVals x1.2 x2.2)) (some (false,())) (cond (Bool.not (ieqI (Int.ofNat x1.1.length) (Int.ofNat x2.1.length))) (some (false,())) (L5 (Int.ofNat 0))))
def qqx(lf:Nat)(x1:qaa)(x2:qaa)(L5:Int->Option qcn)(p:Int):Option qcn:=(cond (iltI p (Int.ofNat x1.1.length)) (match (jget x1.1 p) with|none=>none|some v0=>(match (jget x2.1 p) with|none=>none|some v1=>(cond (Bool.not (S.sameVals v0.2 v1.2)) (some (false,())) (match (jget x1.1 p) with|none=>none|some v2=>(match (jget x2.1 p) with|none=>none|some v3=>(cond (Bool.not (keqS v2.1 v3.1)) (some (false,())) (L5 (IntKind.i64.wrap (Int.add p (Int.ofNat 1)))))))))) (some (true,())))
abbrev gz21:Type:=ElA [cGraph,cGraph]->Option qcn
abbrev sz21(g:gz21):Sm:=⟨[cGraph,cGraph],[(false,.bool)],g⟩
abbrev Ez21(g:gz21)(J:JT qcn)(lf:Nat)(x1:qaa)(x2:qaa):=qbs Try.prog ttT.get qls fi26.nt (qus _ lf) lf qlp J fi26.body [] (qaq (argV [cGraph,cGraph] (x1,x2,())) 0 .leaf) S0 [] (qas ttT.get fi26 (sz21 g))
abbrev Bz21(g:gz21)(J:JT qcn)(lf k:Nat)(ms:List Nat)(q:NRes):=qb0 Try.prog ttT.get qls fi26.nt (qus _ lf) lf qlp J k fi26.body [] ms q (qas ttT.get fi26 (sz21 g))
theorem zhg(g:gz21)(J:JT qcn)(lf:Nat)(x1:qaa)(x2:qaa):Ez21 g J lf x1 x2=qvg lf x1 x2 (fun q=>J 5 [lf] (qh5 x1 x2 q)):=by kernel_rfl
theorem zse(g:gz21)(J:JT qcn)(lf:Nat)(x1:qaa)(x2:qaa)(m1:Nat)(p:Int):Bz21 g J lf 5 [m1] (qh5 x1 x2 p)=qqx lf x1 x2 (fun q=>J 5 [m1] (qh5 x1 x2 q)) p:=by kernel_rfl
theorem q0u:(regs fi26.body).Nodup:=by decide +kernel
theorem q93:okC qls qlp q96 fi26.body none=true:=by kernel_rfl
def Az21(g:gz21)(lf:Nat):JT qcn:=atN Try.prog ttT.get qls fi26 (sz21 g) (qus _ lf) lf q96
def qoz(lf:Nat)(x1:qaa)(x2:qaa):Nat->(Int)->Option qcn:=rounds fun K p=>qqx lf x1 x2 K p
theorem q25(g:gz21)(lf:Nat)(x1:qaa)(x2:qaa):∀(n:Nat) (p:Int),Az21 g lf 5 [n] (qh5 x1 x2 p)=qoz lf x1 x2 n p
 | 0,p=>qbf 5 [0] rfl _
 | n+1,p=>by
  have ih:=q25 g lf x1 x2 n;refine(qay (qam 20 _) q0u q93 5 [n+1] [n] rfl _).trans ((zse g (Az21 g lf) lf x1 x2 n p).trans ?_);rw[(show (fun q=>Az21 g lf 5 [n] (qh5 x1 x2 q))=(fun q=>qoz lf x1 x2 n q) from funext ih)];rfl
def Fz21(lf:Nat)(x1:qaa)(x2:qaa):Option qcn:=qvg lf x1 x2 (fun q=>qoz lf x1 x2 lf q)
theorem zhy(g:gz21)(lf:Nat)(x1:qaa)(x2:qaa):Ez21 g (Az21 g lf) lf x1 x2=Fz21 lf x1 x2:=by
  refine(zhg g (Az21 g lf) lf x1 x2).trans ?_;rw[(show (fun q=>Az21 g lf 5 [lf] (qh5 x1 x2 q))=(fun q=>qoz lf x1 x2 lf q) from funext fun q=>q25 g lf x1 x2 lf q)];rfl
theorem zi8:qa2 Try.prog q6c:=trivial
theorem zfr{g:gz21}(hsm:SmOK Try.prog q8s)(hg:∀(x:ElA [cGraph,cGraph]) (y:qcn),WfA [cGraph,cGraph] x->g x=some y->∃lf,Fz21 lf x.1 x.2.1=some y):Con Try.prog 26 ⟨[cGraph,cGraph],[(false,.bool)],g⟩ :=
 conV (st:=qlp) (fun lf x=>Fz21 lf x.1 x.2.1) cm3 zjc zi8 q0u q93 (fun lf x=>zhy g lf x.1 x.2.1) hsm hg
def qj4:Nat->Option Nm:=fun k=>cond (Nat.beq k 2) (some ⟨[0,3],[],[],[],[],0,0,false⟩) (cond (Nat.beq k 8) (some ⟨[0,3,4,5],[],[],[],[],0,0,false⟩) (none))
def qk3:Nat->Bool:=fun k=>cond (Nat.beq k 2) true (cond (Nat.beq k 8) true (false))
def q2q:=qk3
abbrev qbq:Type:=Bool × Unit
def q0q:List (Nat × Sm):=[]
def zam:List (Nat × Hx):=[]
def qu6(R:Type)(lf:Nat):ClK R:=qau Try.prog ttT.get ftT.get (nm1 13 qj4) (smL q0q) (hxL zam) lf 20 R
abbrev zks:Nat:=13
def qer(x1:(List qac))(p:Int):NRes:=(NRes.mk (.node (some (IV.lst cForm x1)) (.node none (.node (some (IV.int .i64 p)) .leaf .leaf) .leaf) .leaf) (IS.mk .leaf 0) [] 0)
def qh3(x1:(List qac))(p:Int × Int × Int):NRes:=(NRes.mk (.node (some (IV.lst cForm x1)) (.node none (.node (some (IV.int .i64 p.2.2)) .leaf .leaf) (.node (some (IV.int .i64 p.2.1)) .leaf .leaf)) (.node none (.node (some (IV.int .i64 p.1)) .leaf .leaf) .leaf)) (IS.mk .leaf 0) [] 0)
def qwm(lf:Nat)(x1:(List qac))(L2:Int->Option qbq):Option qbq:=(L2 (Int.ofNat 0))
def qm7(lf:Nat)(x1:(List qac))(L8:(Int × Int × Int)->Option qbq)(p:Int):Option qbq:=(cond (iltI p (Int.ofNat x1.length)) (match (jget x1 p) with|none=>none|some v0=>(match (jget x1 p) with|none=>none|some v1=>(cond (iltI (Int.ofNat 30) (Int.ofNat v1.1.size)) (some (false,())) (cond (iltI (Int.ofNat 6) (Int.ofNat v0.2.length)) (cond (Bool.not (iltI (Int.ofNat 30) (Int.ofNat v0.2.length))) (some (false,())) (cond (iltI (Int.ofNat 40) (Int.ofNat v0.2.length)) (some (false,())) (L8 ((Int.ofNat v0.2.length),(Int.ofNat 0),p)))) (cond (iltI (Int.ofNat 40) (Int.ofNat v0.2.length)) (some (false,())) (L8 ((Int.ofNat v0.2.length),(Int.ofNat 0),p))))))) (cond (Bool.not (iltI (Int.ofNat 6) (Int.ofNat x1.length))) (some (true,())) (cond (iltI (Int.ofNat 24) (Int.ofNat x1.length)) (some ((Bool.not (iltI (Int.ofNat 30) (Int.ofNat x1.length))),())) (some (false,())))))
def qqy(lf:Nat)(x1:(List qac))(L8:(Int × Int × Int)->Option qbq)(L2:Int->Option qbq)(p:Int × Int × Int):Option qbq:=(cond (iltI p.2.1 p.1) (match (jget x1 p.2.2) with|none=>none|some v0=>(match (jget v0.2 p.2.1) with|none=>none|some v1=>(cond (iltI (Int.ofNat 30) (Int.ofNat v1.1.size)) (some (false,())) (match (jget x1 p.2.2) with|none=>none|some v2=>(match (jget v2.2 p.2.1) with|none=>none|some v3=>(cond (iltI (Int.ofNat 30) (Int.ofNat v3.2.2.size)) (some (false,())) (L8 (p.1,(IntKind.i64.wrap (Int.add p.2.1 (Int.ofNat 1))),p.2.2)))))))) (L2 (IntKind.i64.wrap (Int.add p.2.2 (Int.ofNat 1)))))
abbrev gz22:Type:=ElA [(.list cForm)]->Option qbq
abbrev sz22(g:gz22):Sm:=⟨[(.list cForm)],[(false,.bool)],g⟩
abbrev Ez22(g:gz22)(J:JT qbq)(lf:Nat)(x1:(List qac)):=qbs Try.prog ttT.get qj4 fi13.nt (qu6 _ lf) lf qk3 J fi13.body [] (qaq (argV [(.list cForm)] (x1,())) 0 .leaf) S0 [] (qas ttT.get fi13 (sz22 g))
abbrev Bz22(g:gz22)(J:JT qbq)(lf k:Nat)(ms:List Nat)(q:NRes):=qb0 Try.prog ttT.get qj4 fi13.nt (qu6 _ lf) lf qk3 J k fi13.body [] ms q (qas ttT.get fi13 (sz22 g))
theorem ztk(g:gz22)(J:JT qbq)(lf:Nat)(x1:(List qac)):Ez22 g J lf x1=qwm lf x1 (fun q=>J 2 [lf] (qer x1 q)):=by kernel_rfl
theorem zgy(g:gz22)(J:JT qbq)(lf:Nat)(x1:(List qac))(m1:Nat)(p:Int):Bz22 g J lf 2 [m1] (qer x1 p)=qm7 lf x1 (fun q=>J 8 [m1,lf] (qh3 x1 q)) p:=by kernel_rfl
theorem zs0(g:gz22)(J:JT qbq)(lf:Nat)(x1:(List qac))(m1:Nat)(m2:Nat)(p:Int × Int × Int):Bz22 g J lf 8 [m1,m2] (qh3 x1 p)=qqy lf x1 (fun q=>J 8 [m1,m2] (qh3 x1 q)) (fun q=>J 2 [m1] (qer x1 q)) p:=by kernel_rfl
theorem qs0:(regs fi13.body).Nodup:=by decide +kernel
theorem qux:okC qj4 qk3 q2q fi13.body none=true:=by kernel_rfl
def Az22(g:gz22)(lf:Nat):JT qbq:=atN Try.prog ttT.get qj4 fi13 (sz22 g) (qu6 _ lf) lf q2q
def qk1(lf:Nat)(x1:(List qac))(K2:Int->Option qbq):Nat->(Int × Int × Int)->Option qbq:=rounds fun K p=>qqy lf x1 K K2 p
theorem q5j(g:gz22)(lf:Nat)(x1:(List qac))(m1:Nat):∀(n:Nat) (p:Int × Int × Int),Az22 g lf 8 [m1,n] (qh3 x1 p)=qk1 lf x1 (fun q=>Az22 g lf 2 [m1] (qer x1 q)) n p
 | 0,p=>qbf 8 [m1,0] rfl _
 | n+1,p=>by
  have ih:=q5j g lf x1 m1 n;refine(qay (qam 20 _) qs0 qux 8 [m1,n+1] [m1,n] rfl _).trans ((zs0 g (Az22 g lf) lf x1 m1 n p).trans ?_);rw[(show (fun q=>Az22 g lf 8 [m1,n] (qh3 x1 q))=(fun q=>qk1 lf x1 (fun q=>Az22 g lf 2 [m1] (qer x1 q)) n q) from funext ih)];rfl
def qoq(lf:Nat)(x1:(List qac)):Nat->(Int)->Option qbq:=rounds fun K p=>qm7 lf x1 (fun q=>qk1 lf x1 K lf q) p
theorem qy5(g:gz22)(lf:Nat)(x1:(List qac)):∀(n:Nat) (p:Int),Az22 g lf 2 [n] (qer x1 p)=qoq lf x1 n p
 | 0,p=>qbf 2 [0] rfl _
 | n+1,p=>by
  have ih:=qy5 g lf x1 n;refine(qay (qam 20 _) qs0 qux 2 [n+1] [n] rfl _).trans ((zgy g (Az22 g lf) lf x1 n p).trans ?_);rw[(show (fun q=>Az22 g lf 8 [n,lf] (qh3 x1 q))=(fun q=>qk1 lf x1 (fun q=>Az22 g lf 2 [n] (qer x1 q)) lf q) from funext fun q=>q5j g lf x1 n lf q),(show (fun q=>Az22 g lf 2 [n] (qer x1 q))=(fun q=>qoq lf x1 n q) from funext ih)];rfl
def Fz22(lf:Nat)(x1:(List qac)):Option qbq:=qwm lf x1 (fun q=>qoq lf x1 lf q)
theorem zjq(g:gz22)(lf:Nat)(x1:(List qac)):Ez22 g (Az22 g lf) lf x1=Fz22 lf x1:=by
  refine(ztk g (Az22 g lf) lf x1).trans ?_;rw[(show (fun q=>Az22 g lf 2 [lf] (qer x1 q))=(fun q=>qoq lf x1 lf q) from funext fun q=>qy5 g lf x1 lf q)];rfl
theorem zgu:qa2 Try.prog zam:=trivial
theorem zcm{g:gz22}(hsm:SmOK Try.prog q0q)(hg:∀(x:ElA [(.list cForm)]) (y:qbq),WfA [(.list cForm)] x->g x=some y->∃lf,Fz22 lf x.1=some y):Con Try.prog 13 ⟨[(.list cForm)],[(false,.bool)],g⟩ :=
 conV (st:=qk3) (fun lf x=>Fz22 lf x.1) cm3 zct zgu qs0 qux (fun lf x=>zjq g lf x.1) hsm hg
def qi3:Nat->Option Nm:=fun k=>cond (Nat.beq k 3) (some ⟨[1,3,4],[],[],[],[],0,0,false⟩) (none)
def qlk:Nat->Bool:=fun k=>cond (Nat.beq k 3) true (false)
def q7o:=qlk
abbrev qcw:Type:=Bool × Unit
def q58:List (Nat × Sm):=[]
def q6e:List (Nat × Hx):=[]
def qsh(R:Type)(lf:Nat):ClK R:=qau Try.prog ttT.get ftT.get (nm1 14 qi3) (smL q58) (hxL q6e) lf 20 R
abbrev zr2:Nat:=14
def qhw(x1:qaa)(p:Int):NRes:=(NRes.mk (.node none (.node (some (IV.ptr 0 0)) (.node (some (IV.int .i64 (Int.ofNat x1.1.length))) .leaf .leaf) .leaf) (.node none (.node (some (IV.int .i64 p)) .leaf .leaf) .leaf)) (IS.mk (.node (some (IObj.row (List.cons (IV.lst qah x1.1) [(IV.lst cVal x1.2)]))) .leaf .leaf) 1) [] 0)
def quj(lf:Nat)(x1:qaa)(L3:Int->Option qcw):Option qcw:=(L3 (Int.ofNat 0))
def qr8(lf:Nat)(x1:qaa)(L3:Int->Option qcw)(p:Int):Option qcw:=(cond (iltI p (Int.ofNat x1.1.length)) (match (jget x1.1 p) with|none=>none|some v0=>(cond (iltI (Int.ofNat 8) (Int.ofNat v0.2.length)) (cond (Bool.not (iltI (Int.ofNat 30) (Int.ofNat v0.2.length))) (some (false,())) (cond (iltI (Int.ofNat 40) (Int.ofNat v0.2.length)) (some (false,())) (L3 (IntKind.i64.wrap (Int.add p (Int.ofNat 1)))))) (cond (iltI (Int.ofNat 40) (Int.ofNat v0.2.length)) (some (false,())) (L3 (IntKind.i64.wrap (Int.add p (Int.ofNat 1))))))) (cond (Bool.not (iltI (Int.ofNat 30) (Int.ofNat x1.1.length))) (cond (Bool.not (iltI (Int.ofNat 10) (Int.ofNat x1.2.length))) (some (true,())) (cond (iltI (Int.ofNat 60) (Int.ofNat x1.2.length)) (some ((Bool.not (iltI (Int.ofNat 70) (Int.ofNat x1.2.length))),())) (some (false,())))) (cond (iltI (Int.ofNat 400) (Int.ofNat x1.1.length)) (cond (Bool.not (iltI (Int.ofNat 410) (Int.ofNat x1.1.length))) (cond (Bool.not (iltI (Int.ofNat 10) (Int.ofNat x1.2.length))) (some (true,())) (cond (iltI (Int.ofNat 60) (Int.ofNat x1.2.length)) (some ((Bool.not (iltI (Int.ofNat 70) (Int.ofNat x1.2.length))),())) (some (false,())))) (some (false,()))) (some (false,())))))
abbrev gz23:Type:=ElA [cGraph]->Option qcw
abbrev sz23(g:gz23):Sm:=⟨[cGraph],[(false,.bool)],g⟩
abbrev Ez23(g:gz23)(J:JT qcw)(lf:Nat)(x1:qaa):=qbs Try.prog ttT.get qi3 fi14.nt (qsh _ lf) lf qlk J fi14.body [] (qaq (argV [cGraph] (x1,())) 0 .leaf) S0 [] (qas ttT.get fi14 (sz23 g))
abbrev Bz23(g:gz23)(J:JT qcw)(lf k:Nat)(ms:List Nat)(q:NRes):=qb0 Try.prog ttT.get qi3 fi14.nt (qsh _ lf) lf qlk J k fi14.body [] ms q (qas ttT.get fi14 (sz23 g))
theorem zrm(g:gz23)(J:JT qcw)(lf:Nat)(x1:qaa):Ez23 g J lf x1=quj lf x1 (fun q=>J 3 [lf] (qhw x1 q)):=by kernel_rfl
theorem zmn(g:gz23)(J:JT qcw)(lf:Nat)(x1:qaa)(m1:Nat)(p:Int):Bz23 g J lf 3 [m1] (qhw x1 p)=qr8 lf x1 (fun q=>J 3 [m1] (qhw x1 q)) p:=by kernel_rfl
theorem qyo:(regs fi14.body).Nodup:=by decide +kernel
theorem q90:okC qi3 qlk q7o fi14.body none=true:=by kernel_rfl
def Az23(g:gz23)(lf:Nat):JT qcw:=atN Try.prog ttT.get qi3 fi14 (sz23 g) (qsh _ lf) lf q7o
def qo1(lf:Nat)(x1:qaa):Nat->(Int)->Option qcw:=rounds fun K p=>qr8 lf x1 K p
theorem q9y(g:gz23)(lf:Nat)(x1:qaa):∀(n:Nat) (p:Int),Az23 g lf 3 [n] (qhw x1 p)=qo1 lf x1 n p
 | 0,p=>qbf 3 [0] rfl _
 | n+1,p=>by
  have ih:=q9y g lf x1 n;refine(qay (qam 20 _) qyo q90 3 [n+1] [n] rfl _).trans ((zmn g (Az23 g lf) lf x1 n p).trans ?_);rw[(show (fun q=>Az23 g lf 3 [n] (qhw x1 q))=(fun q=>qo1 lf x1 n q) from funext ih)];rfl
def Fz23(lf:Nat)(x1:qaa):Option qcw:=quj lf x1 (fun q=>qo1 lf x1 lf q)
theorem zf1(g:gz23)(lf:Nat)(x1:qaa):Ez23 g (Az23 g lf) lf x1=Fz23 lf x1:=by
  refine(zrm g (Az23 g lf) lf x1).trans ?_;rw[(show (fun q=>Az23 g lf 3 [lf] (qhw x1 q))=(fun q=>qo1 lf x1 lf q) from funext fun q=>q9y g lf x1 lf q)];rfl
theorem zin:qa2 Try.prog q6e:=trivial
theorem zuj{g:gz23}(hsm:SmOK Try.prog q58)(hg:∀(x:ElA [cGraph]) (y:qcw),WfA [cGraph] x->g x=some y->∃lf,Fz23 lf x.1=some y):Con Try.prog 14 ⟨[cGraph],[(false,.bool)],g⟩ :=
 conV (st:=qlk) (fun lf x=>Fz23 lf x.1) cm3 zbf zin qyo q90 (fun lf x=>zf1 g lf x.1) hsm hg


theorem zhl(a b:List DVal)(hl:a.length<LF):Fz20 LF a b=some (S.sameVals a b,()):=by
 simp only[Fz20,qxf,qt0,S.sameVals];by_cases hlen:a.length=b.length
 ·rw[jaj hlen,jbf,jae];refine(qcg (R:=qcy) a (fun rest i=>some (decide (rest=b.drop i),())) hl (fun K=>?_) (fun K i v rest r h=>?_)).trans (by rw[jcu])
  ·simp only[qrh,qbd,jae];rw[List.drop_of_length_le (by omega),jaj rfl]
  ·have hi:i<b.length:=by have:=r.lt;omega
   have hd:b.drop i=b[i]::b.drop (i+1):=jbs hi;have hb:jget b (Int.ofNat i)=some b[i]:=qcz.trans (jab hi);simp only[qrh,r.ilt,r.get,hb,r.next,h,jaa,hd];generalize b[i]=w;obtain⟨v1,v2⟩:=v;obtain⟨w1,w2⟩:=w;simp only[keqI,jdp];by_cases e1:v1=w1<;>by_cases e2:v2=w2<;>simp [e1,e2]
 ·have hn:¬a=b:=fun e=>hlen (by rw[e]);rw[jai hlen,ja7,jaa,jai hn]
theorem zao:Con Try.prog za3 q7t:=zge trivial fun x y hx h=>⟨LF,(zhl _ _ (qbu hx.1)).trans h⟩
theorem zqi(a b:qaa)(hl:a.1.length<LF):Fz21 LF a b=some (S.sameGraphs a b,()):=by
 simp only[Fz21,qvg,qt0,S.sameGraphs];obtain⟨a1,a2⟩:=a;obtain⟨b1,b2⟩:=b;have hs:S.sameVals a2 b2=decide (a2=b2):=rfl;simp only[hs];by_cases hr:a2=b2
 ·rw[jaj hr,jbf,jae];by_cases hlen:a1.length=b1.length
  ·rw[jaj hlen,jbf,jae];refine(qcg (R:=qcn) a1 (fun rest i=>some (decide (rest=b1.drop i),())) hl (fun K=>?_) (fun K i v rest r h=>?_)).trans (by rw[jcu];simp [hr])
   ·simp only[qqx,qbd,jae];rw[List.drop_of_length_le (by omega),jaj rfl]
   ·have hi:i<b1.length:=by have:=r.lt;dsimp only at *;omega
    have hd:b1.drop i=b1[i]::b1.drop (i+1):=jbs hi;have hb:jget b1 (Int.ofNat i)=some b1[i]:=qcz.trans (jab hi);have hg:=r.get;simp only[qqx,r.ilt,hg,hb,r.next,h,jaa,hd];generalize b1[i]=w;obtain⟨v1,v2⟩:=v;obtain⟨w1,w2⟩:=w;simp only[keqS,S.sameVals];by_cases e1:v1=w1<;>by_cases e2:v2=w2<;>simp [e1,e2]
  ·have hn:¬(a1,a2)=(b1,b2):=fun e=>hlen (by rw[(Prod.mk.inj e).1]);rw[jai hlen,ja7,jaa,jai hn]
 ·have hn:¬(a1,a2)=(b1,b2):=fun e=>hr (Prod.mk.inj e).2;rw[jai hr,ja7,jaa,jai hn]
theorem zo1:Con Try.prog zme q01:=zfr ⟨zao,trivial⟩ fun x y hx h=>⟨LF,(zqi _ _ (qbu hx.1.1)).trans h⟩
theorem zij(g:qaa)(hl:g.1.length<LF):Fz23 LF g=some (S.few g,()):=by
 simp only[Fz23,quj,S.few];refine qcg (R:=qcw) g.1 (fun rest i=>some (rest.all (fun n=>decide ((n.2.length<=8\/30<n.2.length)/\n.2.length<=40))&&decide ((g.1.length<=30\/400<g.1.length/\g.1.length<=410)/\(g.2.length<=10\/60<g.2.length/\g.2.length<=70)),())) hl (fun K=>?_) (fun K i v rest r h=>?_)
 ·simp only[qr8,qbd,jae,qiw,List.all_nil,jde];generalize g.1.length=n;generalize g.2.length=k;by_cases a1:30<n<;>by_cases a2:400<n<;>by_cases a3:410<n<;>by_cases b1:10<k<;>by_cases b2:60<k<;>by_cases b3:70<k<;>simp [a1,a2,a3,b1,b2,b3]<;>omega
 ·simp only[qr8,r.ilt,r.get,r.next,h,jaa,qiw,jci];generalize v.2.length=n;generalize (rest.all fun n=>decide ((n.2.length<=8\/30<n.2.length)/\n.2.length<=40))=w;by_cases a1:8<n
  ·rw[jaj a1,jaa];by_cases a2:30<n
   ·rw[jaj a2,jbf,jae];by_cases a3:40<n
    ·have e:decide ((n<=8\/30<n)/\n<=40)=false:=jai (by omega);rw[e,jaj a3];rfl
    ·have e:decide ((n<=8\/30<n)/\n<=40)=true:=jaj (by omega);rw[e,jai a3];cases w<;>rfl
   ·have e:decide ((n<=8\/30<n)/\n<=40)=false:=jai (by omega);rw[e,jai a2];rfl
  ·rw[jai a1,jae];have e:decide ((n<=8\/30<n)/\n<=40)=true:=jaj (by omega);have a3:¬40<n:=by omega
   rw[e,jai a3];cases w<;>rfl
theorem zhn:Con Try.prog zr2 q1h:=zuj trivial fun x y hx h=>⟨LF,(zij _ (qbu hx.1.1)).trans h⟩
theorem zjz(l:List qac)(K2:Int->Option qbq)(i:Nat)(f:qac)(hf:jget l (Int.ofNat i)=some f)(hl:f.2.length<LF) :
  qk1 LF l K2 LF (Int.ofNat f.2.length,Int.ofNat 0,Int.ofNat i)=cond (f.2.all fun c=>decide (c.1.size<=30/\c.2.2.size<=30)) (K2 (IntKind.i64.wrap (Int.add (Int.ofNat i) (Int.ofNat 1)))) (some (false,())):=by
 refine range0 (σ:=Unit) (R:=qbq) f.2 (fun k _=>(Int.ofNat f.2.length,k,Int.ofNat i)) (fun _ _=>True) (fun rest k _=>cond (rest.all fun c=>decide (c.1.size<=30/\c.2.2.size<=30)) (K2 (IntKind.i64.wrap (Int.add (Int.ofNat i) (Int.ofNat 1)))) (some (false,()))) hl (fun K s _=>?_) (fun K k c rest s _ r h=>?_) () trivial
 ·simp only[qqy,qbd,jae,List.all_nil,jaa]
 ·have h:=h () trivial;simp only[qqy,hf,r.ilt,r.get,r.next,h,jaa,qiw,jci];by_cases a1:30<c.1.size
  ·have e:decide (c.1.size<=30/\c.2.2.size<=30)=false:=jai (by omega);rw[e,jaj a1];rfl
  by_cases a2:30<c.2.2.size
  ·have e:decide (c.1.size<=30/\c.2.2.size<=30)=false:=jai (by omega);rw[e,jai a1,jaj a2];rfl
  ·have e:decide (c.1.size<=30/\c.2.2.size<=30)=true:=jaj (by omega);rw[e,jai a1,jai a2,jde];rfl
theorem zpc(l:List qac)(hl:l.length<LF)(hw:∀f∈l,f.2.length<LF):Fz22 LF l=some (S.fewForms l,()):=by
 simp only[Fz22,qwm,S.fewForms];refine qcg (R:=qbq) l (fun rest i=>some (rest.all (fun f=>decide (f.1.size<=30/\(f.2.length<=6\/30<f.2.length)/\f.2.length<=40)&&f.2.all fun c=>decide (c.1.size<=30/\c.2.2.size<=30))&&decide (l.length<=6\/24<l.length/\l.length<=30),())) hl (fun K=>?_) (fun K i v rest r h=>?_)
 ·simp only[qm7,qbd,jae,qiw,List.all_nil,jde];by_cases h8:6<l.length<;>by_cases h24:24<l.length<;>by_cases h30:30<l.length<;>simp [h8,h24,h30]<;>omega
 ·have hin:=zjz l K i v r.get (hw v r.mem);rw[r.next,h] at hin;simp only[qm7,r.ilt,r.get,jaa,qiw,jci];simp only[hin];generalize (v.2.all fun c=>decide (c.1.size<=30/\c.2.2.size<=30))=w;generalize v.2.length=n;generalize v.1.size=m;by_cases a0:30<m
  ·have e:decide (m<=30/\(n<=6\/30<n)/\n<=40)=false:=jai (by omega);rw[e,jaj a0];rfl
  rw[jai a0,jae];by_cases a1:6<n
  ·rw[jaj a1,jaa];by_cases a2:30<n
   ·rw[jaj a2,jbf,jae];by_cases a3:40<n
    ·have e:decide (m<=30/\(n<=6\/30<n)/\n<=40)=false:=jai (by omega);rw[e,jaj a3];rfl
    ·have e:decide (m<=30/\(n<=6\/30<n)/\n<=40)=true:=jaj (by omega);rw[e,jai a3];cases w<;>rfl
   ·have e:decide (m<=30/\(n<=6\/30<n)/\n<=40)=false:=jai (by omega);rw[e,jai a2];rfl
  ·rw[jai a1,jae];have e:decide (m<=30/\(n<=6\/30<n)/\n<=40)=true:=jaj (by omega);have a3:¬40<n:=by omega
   rw[e,jai a3];cases w<;>rfl
theorem zmi:Con Try.prog zks q22:=zcm trivial fun x y hx h=>⟨LF,(zpc _ (qbu hx.1) fun f hf=>qbu (hx.1.2 f hf).2).trans h⟩
section
variable {a b : List (ByteArray × List (Int × Int)) × List (Int × Int)}
theorem qyt{x y:Int}(h:x=y):ieqI x y=true:=by rw[qat];exact jaj h
theorem qxi{x y:Int}(h:¬x=y):ieqI x y=false:=by rw[qat];exact jai h
end
section
variable {g a b : List qab × List DVal}
theorem za9(lf:Nat):qnz lf g=some ((S.canonB g).1,(S.canonB g).2.1,(S.canonB g).2.2,()):=by
 simp only[qnz,qyv,S.canonB];by_cases f:S.formed g=0
 ·have k:ieqI (S.formed (g.1,g.2)) (Int.ofNat 0)=true:=qyt f;have hc:S.canonO (g.1,g.2)=some (S.canonG g,S.numsG g,()):=(qlb (qd8 f)).1;rw[jam f,k,hc];rfl
 ·have k:ieqI (S.formed (g.1,g.2)) (Int.ofNat 0)=false:=qxi f;rw[jak f,k];rfl
theorem zn2{v w:Int × Int}(h:S.eqVal v w=true):v=w:=by
 simp only[S.eqVal,jaf] at h;exact Prod.ext (ja6 h.1) (ja6 h.2.1)
theorem qvf:∀{x y:List DVal},S.eqVals x y=true->x=y
 | [],[],_=>rfl
 | v::x,w::y,h=>by
  simp only[S.eqVals,jaf] at h;rw[zn2 h.1,qvf h.2]
 | [],_::_,h=>by simp[S.eqVals] at h
 | _::_,[],h=>by simp[S.eqVals] at h
theorem q32:∀{x y:List qab},S.eqNodes x y=true->x=y
 | [],[],_=>rfl
 | v::x,w::y,h=>by
  simp only[S.eqNodes,S.eqNode,jaf] at h;have h1:(v:ByteArray × List DVal).1=(w:ByteArray × List DVal).1:=ja6 h.1.1;have h2:=qvf h.1.2;have e:(v:ByteArray × List DVal)=w:=Prod.ext h1 h2;rw[q32 h.2];exact jca (·::y) e
 | [],_::_,h=>by simp[S.eqNodes] at h
 | _::_,[],h=>by simp[S.eqNodes] at h
theorem q83(x y:List qab × List DVal):S.eqGraph x y=S.sameGraphs x y:=by
 unfold S.sameGraphs;by_cases h:x=y
 ·rw[jaj (show (x:qaa)=y from h),h];exact q85 y
 ·rw[jai (show ¬(x:qaa)=y from h)];cases he:S.eqGraph x y with
  | false=>rfl
  | true =>
   unfold S.eqGraph at he;simp only[jaf] at he;exact absurd (Prod.ext (q32 he.2) (qvf he.1)) h
theorem zho(lf:Nat):qnh lf a b=some ((S.sameB a b).1,(S.sameB a b).2,()):=by
 simp only[qnh,q8m,S.sameB];by_cases fa:S.formed a=0
 ·by_cases fb:S.formed b=0
  ·have k1:ieqI (S.first [S.formed (a.1,a.2),S.formed (b.1,b.2)]) (Int.ofNat 0)=true:=qyt (by
    show S.first [S.formed a,S.formed b]=0
    rw[fa,fb];rfl)
   have ha:S.canonO (a.1,a.2)=some (S.canonG a,S.numsG a,()):=(qlb (qd8 fa)).1;have hb:S.canonO (b.1,b.2)=some (S.canonG b,S.numsG b,()):=(qlb (qd8 fb)).1;rw[jak (by simpa using fa),jak (by simpa using fb),k1,ha,hb,<- q83];rfl
  ·have k2:S.first [S.formed (a.1,a.2),S.formed (b.1,b.2)]=S.formed b:=by
    show S.first [S.formed a,S.formed b]=_
    rw[fa];simp only[S.first,jak fb,jck]
   have k1:ieqI (S.first [S.formed (a.1,a.2),S.formed (b.1,b.2)]) (Int.ofNat 0)=false:=by rw[k2];exact qxi fb
   rw[jak (by simpa using fa),jam fb,k1,k2];rfl
 ·have k2:S.first [S.formed (a.1,a.2),S.formed (b.1,b.2)]=S.formed a:=by
   show S.first [S.formed a,S.formed b]=_
   simp only[S.first,jak fa]
  have k1:ieqI (S.first [S.formed (a.1,a.2),S.formed (b.1,b.2)]) (Int.ofNat 0)=false:=by rw[k2];exact qxi fa
  rw[jam fa,k1,k2];rfl
end
theorem zmz:Con Try.prog zi7 q6i:=zlk ⟨quc,qp1,trivial⟩ fun x y hx h=>⟨0,(za9 (g:=x.1) 0).trans h⟩
theorem zmd:Con Try.prog znl q9b:=zq9 ⟨quc,q3c,qp1,q7b,trivial⟩ fun x y hx h=>⟨0,(zho (a:=x.1) (b:=x.2.1) 0).trans h⟩
theorem q4r{m k:Int}{l r:List Int}{v:DVal}(hm0:0<=m)(hm:m<=400)(h:S.rdV m k l=some (v,r)):S.value v m=true/\(v.1=4->0<=v.2/\v.2<m)/\(¬k=1->¬k=2->S.refers v=true):=by
 have hw:IntKind.i64.wrap (Int.sub m (Int.ofNat 1))=m-1:=w64 (n:=m-1) (by omega) (by omega);unfold S.rdV at h;split at h
 ·rename_i hk;split at h<;>cases h;rename_i n hr;obtain⟨_,h1,h2⟩:=qc6 hr;refine⟨?_,fun h=>absurd (show (1:Int)=4 from h) (by decide),fun h=>absurd hk h⟩;show S.within n (-1099511627776) 1099511627776=true;unfold S.within;rw[jaj h1,jaj h2];rfl
 ·split at h
  ·rename_i hk;split at h<;>cases h;rename_i n hr;obtain⟨_,h1,h2⟩:=qc6 hr;refine⟨?_,fun h=>absurd (show (2:Int)=4 from h) (by decide),fun _ h=>absurd hk h⟩;show S.within n 0 1=true;unfold S.within;rw[jaj h1,jaj h2];rfl
  ·split at h<;>cases h;rename_i n hr;obtain⟨_,h1,h2⟩:=qc6 hr;by_cases hn:0<n
   ·rw[jam hn];refine⟨?_,fun _=>⟨by show 0<=n-1;omega,by show n-1<m;omega⟩,fun _ _=>rfl⟩;show S.within (n-1) 0 (IntKind.i64.wrap (Int.sub m (Int.ofNat 1)))=true;rw[hw];unfold S.within;rw[jaj (by omega),jaj (by omega)];rfl
   ·rw[jak hn];exact⟨rfl,fun h=>absurd (show (3:Int)=4 from h) (by decide),fun _ _=>rfl⟩
theorem q73{N:Nat}{m:Int}(hm0:0<=m)(hm:m<=400):∀(cs:List DCol) (l r:List Int) (vs:List DVal),S.decVs N m cs l=.inr (vs,r)->vs.length=cs.length/\∀v∈vs,S.value v m=true/\(v.1=4->0<=v.2/\v.2<m)
 | [],l,r,vs,h=>by cases h;exact⟨rfl,fun v hv=>by cases hv⟩
 | c::cs,l,r,vs,h=>by
  unfold S.decVs at h;split at h
  ·cases h
  rename_i v r1 h1;split at h
  ·cases h
  rename_i vs2 r2 h2;cases h;obtain⟨k1,k2⟩:=q73 hm0 hm cs _ _ _ h2;obtain⟨g1,g2,_⟩:=q4r hm0 hm h1;refine⟨by simp[k1],fun w hw=>?_⟩;rcases ja0.1 hw with rfl|hw
  ·exact⟨g1,g2⟩
  ·exact k2 w hw
theorem qs7{N:Nat}{F:List qac}{m:Int}(hm0:0<=m)(hm:m<=400):∀(k:Nat) (l r:List Int) (ns:List qab),S.decNs N F m k l=.inr (ns,r)->ns.length=k/\∀n∈ns,∃f∈F,n.1=f.1/\n.2.length=f.2.length/\∀v∈n.2,S.value v m=true/\(v.1=4->0<=v.2/\v.2<m)
 | 0,l,r,ns,h=>by cases h;exact⟨rfl,fun n hn=>by cases hn⟩
 | k+1,l,r,ns,h=>by
  unfold S.decNs at h;split at h
  ·cases h
  rename_i i r1 h1;split at h
  ·cases h
  rename_i f hf;split at h
  ·cases h
  rename_i vs r2 h2;split at h
  ·cases h
  rename_i ns2 r3 h3;cases h;obtain⟨k1,k2⟩:=qs7 hm0 hm k _ _ _ h3;obtain⟨g1,g2⟩:=q73 hm0 hm f.2 _ _ _ h2;refine⟨by simp[k1],fun n hn=>?_⟩;rcases ja0.1 hn with rfl|hn
  ·exact⟨f,jbb hf,rfl,g1,g2⟩
  ·exact k2 n hn
theorem qt5{N:Nat}{m:Int}(hm0:0<=m)(hm:m<=400):∀(k:Nat) (l r:List Int) (vs:List DVal),S.decRs N m k l=.inr (vs,r)->vs.length=k/\∀v∈vs,S.value v m=true/\S.refers v=true
 | 0,l,r,vs,h=>by cases h;exact⟨rfl,fun n hn=>by cases hn⟩
 | k+1,l,r,vs,h=>by
  unfold S.decRs at h;split at h
  ·cases h
  rename_i v r1 h1;split at h
  ·cases h
  rename_i vs2 r3 h3;cases h;obtain⟨k1,k2⟩:=qt5 hm0 hm k _ _ _ h3;obtain⟨g1,_,g4⟩:=q4r hm0 hm h1;refine⟨by simp[k1],fun n hn=>?_⟩;rcases ja0.1 hn with rfl|hn
  ·exact⟨g1,g4 (by decide) (by decide)⟩
  ·exact k2 n hn
theorem zae{F:List qac}{b:List Int}{g:List qab × List DVal}(hF:S.checkForms F=0)(h:S.dec F b=.inr g):S.formed g=0/\S.typedPre F g=true:=by
 have hfo:=qsb hF;unfold S.dec at h;split at h
 ·cases h
 rename_i m l0 h0;obtain⟨_,m0,m1⟩:=qc6 h0;split at h
 ·cases h
 rename_i ns l1 h1;split at h
 ·cases h
 rename_i k l2 h2;obtain⟨_,k0,k1⟩:=qc6 h2;split at h
 ·cases h
 rename_i rs l3 h3;split at h<;>cases h;obtain⟨n1,n2⟩:=qs7 m0 m1 _ _ _ _ h1;obtain⟨r1,r2⟩:=qt5 m0 m1 _ _ _ _ h3;have hm:Int.ofNat ns.length=m:=by rw[n1];show ((m.toNat:Nat):Int)=m;omega
 constructor
 ·refine q5h (g:=(ns,rs)) (by show ns.length<=400;omega) (by show rs.length<=60;omega) (fun n hn=>?_) (fun n hn v hv=>?_) fun v hv=>?_
  ·obtain⟨f,hf,e1,e2,e3⟩:=n2 n hn;rw[e2];exact(hfo.cols f hf).len
  ·obtain⟨f,hf,e1,e2,e3⟩:=n2 n hn;show S.value v (Int.ofNat ns.length)=true;rw[hm];exact(e3 v hv).1
  ·show S.value v (Int.ofNat ns.length)=true/\_;rw[hm];exact r2 v hv
 ·unfold S.typedPre;rw[ja3];intro n hn;obtain⟨f,hf,e1,e2,e3⟩:=n2 n hn;rw[jaf];refine⟨jaj (zr0 hf (by show keqS f.1 n.1=true;rw[e1];exact jaj rfl)),ja3.2 fun v hv=>jaj fun h4=>?_⟩;have:=(e3 v hv).2 h4;refine⟨this.1,?_⟩;show v.2<((ns.length:Nat):Int);have hm':((ns.length:Nat):Int)=m:=hm;omega
namespace S
def Dec(F:List qac)(b:List Int):(List qab × List DVal) × Int × Int :=
 if ¬checkForms F=0 then (([],[]),0,checkForms F)
 else if 60000<b.length then (([],[]),0,3)
 else if b.length<4 then (([],[]),0,15)
 else if ¬b.drop (b.length-4)=sum4 (b.take (b.length-4)) then (([],[]),0,15)
 else match dec F (b.take (b.length-4)) with
  | .inl e=>(([],[]),e,2)
  | .inr g=>if typed F g g.1=false then (([],[]),0,8) else if eqGraph (canonG g) g=false then (([],[]),0,2) else (g,0,0)
end S
def q9r:Sm:=⟨[.list cForm,.list (.int .u8)],[(false,cGraph),(false,.int .i64),(false,.int .i64)],fun x=>some ((S.Dec x.1 x.2.1).1,(S.Dec x.1 x.2.1).2.1,(S.Dec x.1 x.2.1).2.2,())⟩
theorem zl2(lf:Nat)(F:List qac)(b:List Int)(hl:b.length<=140737488355328):qoa lf F b=some ((S.Dec F b).1,(S.Dec F b).2.1,(S.Dec F b).2.2,()):=by
 have ha:IntKind.i64.wrap (Int.sub (Int.ofNat b.length) (Int.ofNat 4))=(b.length:Int)-4:=w64 (n:=(b.length:Int)-4) (by omega) (by omega);unfold qoa q5i S.Dec;simp only[ha,qat,qan];by_cases h0:S.checkForms F=0
 ·rw[jak (fun h=>h h0),jaj (show S.checkForms F=Int.ofNat 0 from h0),jbf,jae];by_cases h1:60000<b.length
  ·rw[jam h1,jaj (by show (60000:Int)<(b.length:Int);omega),jaa];rfl
  ·rw[jak h1,jai (by show ¬(60000:Int)<(b.length:Int);omega),jae];by_cases h2:b.length<4
   ·rw[jam h2,jaj (by show (b.length:Int)-4<0;omega),jaa];rfl
   ·rw[jak h2,jai (by show ¬(b.length:Int)-4<0;omega),jae];have hz:(b.length:Int)-4=Int.ofNat (b.length-4):=by show _=((b.length-4:Nat):Int);omega
    have c1:lchk ((b.length:Int)-4) (Int.ofNat b.length) (Int.ofNat b.length) (Int.ofNat b.length)=true:=qgk.2 ⟨by omega,by show _<=(b.length:Int);omega,jc8 _,jc8 _⟩;have c2:lchk (Int.ofNat 0) ((b.length:Int)-4) (Int.ofNat b.length) (Int.ofNat b.length)=true:=qgk.2 ⟨jc8 _,by show (0:Int)<=_;omega,by show _<=(b.length:Int);omega,jc8 _⟩;have s1:lsub b ((b.length:Int)-4) (Int.ofNat b.length)=b.drop (b.length-4):=by
     rw[hz];show (b.take b.length).drop (b.length-4)=_;rw[List.take_length]
    have s2:lsub b (Int.ofNat 0) ((b.length:Int)-4)=b.take (b.length-4):=by
     rw[hz];show (b.take (b.length-4)).drop 0=_;rw[jcu]
    simp only[c1,c2,s1,s2,jaa];by_cases h3:b.drop (b.length-4)=S.sum4 (b.take (b.length-4))
    ·rw[jak (fun h=>h h3),qgl.2 h3,jbf,jae];cases hd:S.dec F (b.take (b.length-4)) with
     | inl e=>rfl
     | inr g =>
      obtain⟨hf,ht⟩:=zae (g:=g) h0 hd;have hc:=(qlb (qd8 hf)).1;have hc:S.canonO ((g:List qab × List DVal).1,(g:List qab × List DVal).2)=some (S.canonG g,S.numsG g,()):=hc;have ht:S.typedPre F ((g:List qab × List DVal).1,(g:List qab × List DVal).2)=true:=ht;simp only[jbf,jae,ht,jaa,hc];cases hty:S.typed F g (g:List qab × List DVal).1 with
      | false=>rfl
      | true =>
       simp only[jbf,jae];rw[jak (by simp)];cases heq:S.eqGraph (S.canonG g) g with
       | false=>rfl
       | true=>rfl
    ·have:S.eqB (b.drop (b.length-4)) (S.sum4 (b.take (b.length-4)))=false:=by
      cases he:S.eqB (b.drop (b.length-4)) (S.sum4 (b.take (b.length-4))) with
      | false=>rfl
      | true=>exact absurd (qgl.1 he) h3
     rw[jam h3,this];rfl
 ·rw[jam h0,jai (show ¬S.checkForms F=Int.ofNat 0 from h0)];rfl
theorem zoo:Con Try.prog zja q9r:=zbj ⟨q2e,zp4,q86,zqj,q9j,qp1,q7b,trivial⟩ fun x y hx h=>⟨0,by
 obtain⟨(F:List qac),(b:List Int),_⟩:=x;have hl:b.length<=140737488355328:=by have:=hx.2.1.1;rwa [show Jx.bsz (.int .u8)=1 from rfl,jeh] at this
 exact(zl2 0 F b hl).trans h⟩
end Go.Proofs.Ytcnhjofpmpipfaa
end
