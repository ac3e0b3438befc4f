/- Texts: Qcan, Qcanp, Lw6, Qsp2, Lw1, Lw2, Qsp3, Lw4, Lw7, Lw8, Lw9, Lw10, Lw11, Lw12, Lw13, Lw14, Qeq, Qeqp, Qeqf, Qeqfp, Qsm, Qe1, Qsmp, Qsm2, Qsm2p, Lw15, Lw16, Lw17, Lw18, Lw21, Lw22, Jcm, Rsc, Pd7, Pd3, Rg9, Qe2, Qe3, Rn1, Pd4, Jpp, Pd1, Ps1, Pd2, Ps2, Ps3, Ppa, Pd5, Lsp, Rsj, Rgr, Rgj, Rg8, Rc1, Rc2, Rn2, Rj1, Lg1, Qg3, Qp4, Lp1, Rj2, Pd6, Pd8, Lt1, Lt2, Lg8, Le1, Lt3, Lsan, Lsn, Ln8. -/
import Derived.Test.YtcnhjofpmpipfaaMt4
import Derived.Test.YtcnhjofpmpipfaaMt1
import Derived.WalkKit
import Derived.Handy
import Derived.Defers
import Derived.Recover
import Derived.BigRegion
import Derived.Lib.AppendZerosOnto
import Derived.KernelRfl
import Derived.Test.YtcnhjofpmpipfaaMt3
set_option linter.unusedVariables false
noncomputable section
set_option maxRecDepth 100000
namespace Go.Proofs.Ytcnhjofpmpipfaa
open Go Go.Sx Go.RowKit Go.Jx
def nmz9:Nat->Option Nm:=fun k=>cond (Nat.beq k 7) (some ⟨[1,2,4,5,6,7],[],[(5,0,(.int .i64))],[],[(4,0,(.int .i64),(.int .i64))],0,0,false⟩) (cond (Nat.beq k 12) (some ⟨[1,2,4,8,9,45,46,47],[(45,(.int .i64))],[(9,0,qal),(9,1,cVal)],[],[(4,0,(.int .i64),(.int .i64))],0,0,false⟩) (cond (Nat.beq k 18) (some ⟨[2,4,9,12,74,75],[(12,(.int .i64))],[(9,0,qal),(9,1,cVal)],[],[(4,0,(.int .i64),(.int .i64))],0,0,false⟩) (none)))
def stz9:Nat->Bool:=fun k=>cond (Nat.beq k 7) true (cond (Nat.beq k 12) true (cond (Nat.beq k 18) true (false)))
def hdz9:=stz9
abbrev Rtz9:Type:=qac × (List Int) × Unit
def qws:List (Nat × Sm):=[]
def qwl:List (Nat × Hx):=[(100,hxR spz7),(102,hxR spz8)]
def clz9(R:Type)(lf:Nat):ClK R:=qau Try.prog ttT.get ftT.get (nm1 62 nmz9) (smL qws) (hxL qwl) lf 20 R
abbrev idz9:Nat:=62
def qg3(x1:qac)(p:(List (Int × Int)) × (List Int) × Int):NRes:=(NRes.mk (.node none (.node (some (IV.ptr 0 0)) (.node none (.node (some (IV.int .i64 p.2.2)) .leaf .leaf) .leaf) (.node (some (IV.ptr 3 0)) .leaf .leaf)) (.node (some (IV.ptr 1 0)) (.node (some (IV.ptr 2 0)) .leaf .leaf) (.node (some (IV.fn 100 (List.cons (IV.ptr 2 0) [(IV.ptr 3 0)]))) .leaf .leaf))) (IS.mk (.node (some (IObj.row (List.cons (IV.lst qal x1.1) [(IV.lst cVal x1.2)]))) (.node (some (IObj.row (List.cons IV.nilsl [IV.nilsl]))) (.node (some (IObj.row [(IV.arr 5)])) .leaf .leaf) (.node (some (IObj.arr (TC.int .i64) p.2.1)) .leaf .leaf)) (.node (some (IObj.row [(IV.map 4)])) (.node (some (IObj.tmap (TC.int .i64) (TC.int .i64) p.1)) .leaf .leaf) .leaf)) 6) [] 0)
def qh9(x1:qac)(p:(List (Int × Int)) × (List Int) × Int × (List qaa)):NRes:=(NRes.mk (.node none (.node (some (IV.ptr 0 0)) (.node none (.node none (.node none .leaf (.node (some (IV.int .i64 p.2.2.1)) .leaf .leaf)) .leaf) .leaf) (.node none (.node (some (IV.ptr 3 0)) .leaf .leaf) (.node none .leaf (.node none (.node (some (IV.arr 4)) .leaf .leaf) .leaf)))) (.node (some (IV.ptr 1 0)) (.node (some (IV.ptr 2 0)) (.node (some (IV.fn 102 [(IV.ptr 2 0)])) .leaf .leaf) .leaf) (.node none .leaf (.node none .leaf (.node none (.node (some (IV.int .i64 (Int.ofNat p.2.1.length))) .leaf .leaf) .leaf))))) (IS.mk (.node (some (IObj.row (List.cons (IV.lst qal x1.1) [(IV.lst cVal x1.2)]))) (.node (some (IObj.row (List.cons IV.nilsl [IV.nilsl]))) (.node (some (IObj.row (List.cons (IV.arr 6) [(IV.arr 7)]))) (.node (some (IObj.arr cVal (S.movedL p.1 x1.2))) .leaf .leaf) .leaf) (.node (some (IObj.tmap (TC.int .i64) (TC.int .i64) p.1)) .leaf .leaf)) (.node (some (IObj.row [(IV.map 5)])) (.node (some (IObj.arr (TC.int .i64) p.2.1)) .leaf .leaf) (.node (some (IObj.arr qal p.2.2.2)) .leaf .leaf))) 8) [] 0)
def qhg(x1:qac)(p:(List (Int × Int)) × (List qaa) × Int × (List Int)):NRes:=(NRes.mk (.node none (.node none (.node none .leaf (.node none .leaf (.node none (.node none (.node (some (IV.int .i64 p.2.2.1)) .leaf .leaf) .leaf) .leaf))) (.node none (.node (some (IV.ptr 2 0)) .leaf .leaf) .leaf)) (.node (some (IV.ptr 0 0)) (.node (some (IV.ptr 1 0)) .leaf (.node (some (IV.arr 3)) .leaf .leaf)) (.node none (.node none .leaf (.node none (.node none (.node (some (IV.int .i64 (Int.ofNat x1.1.length))) .leaf .leaf) .leaf) .leaf)) .leaf))) (IS.mk (.node (some (IObj.row (List.cons IV.nilsl [IV.nilsl]))) (.node (some (IObj.row [(IV.map 4)])) (.node (some (IObj.arr (TC.int .i64) p.2.2.2)) .leaf .leaf) (.node (some (IObj.arr qal p.2.1)) .leaf .leaf)) (.node (some (IObj.row (List.cons (IV.arr 5) [(IV.arr 6)]))) (.node (some (IObj.tmap (TC.int .i64) (TC.int .i64) p.1)) .leaf .leaf) (.node (some (IObj.arr cVal (S.movedL p.1 x1.2))) .leaf .leaf))) 7) [] 0)
def qtf(lf:Nat)(x1:qac)(L7:((List (Int × Int)) × (List Int) × Int)->Option Rtz9):Option Rtz9:=(match (match (S.meetN (S.refsL x1.2) [] []) with|none=>none|some v0=>(some ((),((v0.1,()),((v0.2,()),()))))) with|none=>none|some v1=>(L7 (v1.2.1.1,v1.2.2.1.1,(Int.ofNat 0))))
def qf8(lf:Nat)(x1:qac)(L12:((List (Int × Int)) × (List Int) × Int × (List qaa))->Option Rtz9)(L7:((List (Int × Int)) × (List Int) × Int)->Option Rtz9)(p:(List (Int × Int)) × (List Int) × Int):Option Rtz9:=(cond (ieqI p.2.2 (Int.ofNat p.2.1.length)) (L12 (p.1,p.2.1,(Int.ofNat 0),[])) (match (jget p.2.1 p.2.2) with|none=>none|some v2=>(match (GetElem?.getElem? p.2.1 (Int.toNat p.2.2)) with|none=>none|some v3=>(match (jget x1.1 v3) with|none=>none|some v4=>(match (match (S.meetN (S.refsL v4.2) p.1 p.2.1) with|none=>none|some v5=>(some ((),((v5.1,()),((v5.2,()),()))))) with|none=>none|some v6=>(L7 (v6.2.1.1,v6.2.2.1.1,(IntKind.i64.wrap (Int.add p.2.2 (Int.ofNat 1))))))))))
def qlg(lf:Nat)(x1:qac)(L12:((List (Int × Int)) × (List Int) × Int × (List qaa))->Option Rtz9)(L18:((List (Int × Int)) × (List qaa) × Int × (List Int))->Option Rtz9)(p:(List (Int × Int)) × (List Int) × Int × (List qaa)):Option Rtz9:=(cond (iltI p.2.2.1 (Int.ofNat p.2.1.length)) (match (jget p.2.1 p.2.2.1) with|none=>none|some v0=>(match (GetElem?.getElem? p.2.1 (Int.toNat p.2.2.1)) with|none=>none|some v1=>(match (jget x1.1 v1) with|none=>none|some v2=>(match (jget x1.1 v1) with|none=>none|some v3=>(cond (Nat.ble (Nat.mul (Nat.add p.2.2.2.length 1) 40) 140737488355328) (L12 (p.1,p.2.1,(IntKind.i64.wrap (Int.add p.2.2.1 (Int.ofNat 1))),(List.append p.2.2.2 [(v2.1,(S.movedL p.1 v3.2))]))) none))))) (L18 (p.1,p.2.2.2,(Int.ofNat 0),[])))
def qjn(lf:Nat)(x1:qac)(L18:((List (Int × Int)) × (List qaa) × Int × (List Int))->Option Rtz9)(p:(List (Int × Int)) × (List qaa) × Int × (List Int)):Option Rtz9:=(cond (iltI p.2.2.1 (Int.ofNat x1.1.length)) (cond (Bool.not (match (@qb6 (TC.int .i64) (TC.int .i64) p.2.2.1 p.1) with|.none  => false|some v0=>true)) (cond (Nat.ble (Nat.mul (Nat.add p.2.2.2.length 1) 8) 140737488355328) (L18 (p.1,p.2.1,(IntKind.i64.wrap (Int.add p.2.2.1 (Int.ofNat 1))),(List.append p.2.2.2 [(Int.negSucc 0)]))) none) (cond (Nat.ble (Nat.mul (Nat.add p.2.2.2.length 1) 8) 140737488355328) (L18 (p.1,p.2.1,(IntKind.i64.wrap (Int.add p.2.2.1 (Int.ofNat 1))),(List.append p.2.2.2 (List.cons (match (@qb6 (TC.int .i64) (TC.int .i64) p.2.2.1 p.1) with|.none  => (Int.ofNat 0)|some v29=>v29) [])))) none)) (some ((p.2.1,(S.movedL p.1 x1.2)),(p.2.2.2,()))))
abbrev gz9:Type:=ElA [cGraph]->Option Rtz9
abbrev sz9(g:gz9):Sm:=⟨[cGraph],[(false,cGraph),(false,(.list (.int .i64)))],g⟩
abbrev Ez9(g:gz9)(J:JT Rtz9)(lf:Nat)(x1:qac):=qb1 Try.prog ttT.get nmz9 fi62.nt (clz9 _ lf) lf stz9 J fi62.body [] (qao (argV [cGraph] (x1,())) 0 .leaf) S0 [] (qar ttT.get fi62 (sz9 g))
abbrev Bz9(g:gz9)(J:JT Rtz9)(lf k:Nat)(ms:List Nat)(q:NRes):=qb9 Try.prog ttT.get nmz9 fi62.nt (clz9 _ lf) lf stz9 J k fi62.body [] ms q (qar ttT.get fi62 (sz9 g))
theorem inz9(g:gz9)(J:JT Rtz9)(lf:Nat)(x1:qac):Ez9 g J lf x1=qtf lf x1 (fun q=>J 7 [lf] (qg3 x1 q)):=by kernel_rfl
theorem ze7(g:gz9)(J:JT Rtz9)(lf:Nat)(x1:qac)(m1:Nat)(p:(List (Int × Int)) × (List Int) × Int):Bz9 g J lf 7 [m1] (qg3 x1 p)=qf8 lf x1 (fun q=>J 12 [lf] (qh9 x1 q)) (fun q=>J 7 [m1] (qg3 x1 q)) p:=by kernel_rfl
theorem zf2(g:gz9)(J:JT Rtz9)(lf:Nat)(x1:qac)(m1:Nat)(p:(List (Int × Int)) × (List Int) × Int × (List qaa)):Bz9 g J lf 12 [m1] (qh9 x1 p)=qlg lf x1 (fun q=>J 12 [m1] (qh9 x1 q)) (fun q=>J 18 [lf] (qhg x1 q)) p:=by kernel_rfl
theorem q91(g:gz9)(J:JT Rtz9)(lf:Nat)(x1:qac)(m1:Nat)(p:(List (Int × Int)) × (List qaa) × Int × (List Int)):Bz9 g J lf 18 [m1] (qhg x1 p)=qjn lf x1 (fun q=>J 18 [m1] (qhg x1 q)) p:=by kernel_rfl
theorem ndz9:(regs fi62.body).Nodup:=by decide +kernel
theorem okz9:okC nmz9 stz9 hdz9 fi62.body none=true:=by kernel_rfl
def Az9(g:gz9)(lf:Nat):JT Rtz9:=atN Try.prog ttT.get nmz9 fi62 (sz9 g) (clz9 _ lf) lf hdz9
def qkg(lf:Nat)(x1:qac):Nat->((List (Int × Int)) × (List qaa) × Int × (List Int))->Option Rtz9:=rounds fun K p=>qjn lf x1 K p
theorem qxt(g:gz9)(lf:Nat)(x1:qac):∀(n:Nat) (p:(List (Int × Int)) × (List qaa) × Int × (List Int)),Az9 g lf 18 [n] (qhg x1 p)=qkg lf x1 n p
 | 0,p=>qbk 18 [0] rfl _
 | n+1,p=>by
  have ih:=qxt g lf x1 n;refine(qbh (qaq 20 _) ndz9 okz9 18 [n+1] [n] rfl _).trans ((q91 g (Az9 g lf) lf x1 n p).trans ?_);rw[(show (fun q=>Az9 g lf 18 [n] (qhg x1 q))=(fun q=>qkg lf x1 n q) from funext ih)];rfl
def qi3(lf:Nat)(x1:qac):Nat->((List (Int × Int)) × (List Int) × Int × (List qaa))->Option Rtz9:=rounds fun K p=>qlg lf x1 K (fun q=>qkg lf x1 lf q) p
theorem q19(g:gz9)(lf:Nat)(x1:qac):∀(n:Nat) (p:(List (Int × Int)) × (List Int) × Int × (List qaa)),Az9 g lf 12 [n] (qh9 x1 p)=qi3 lf x1 n p
 | 0,p=>qbk 12 [0] rfl _
 | n+1,p=>by
  have ih:=q19 g lf x1 n;refine(qbh (qaq 20 _) ndz9 okz9 12 [n+1] [n] rfl _).trans ((zf2 g (Az9 g lf) lf x1 n p).trans ?_);rw[(show (fun q=>Az9 g lf 18 [lf] (qhg x1 q))=(fun q=>qkg lf x1 lf q) from funext fun q=>qxt g lf x1 lf q),(show (fun q=>Az9 g lf 12 [n] (qh9 x1 q))=(fun q=>qi3 lf x1 n q) from funext ih)];rfl
def qmx(lf:Nat)(x1:qac):Nat->((List (Int × Int)) × (List Int) × Int)->Option Rtz9:=rounds fun K p=>qf8 lf x1 (fun q=>qi3 lf x1 lf q) K p
theorem q4x(g:gz9)(lf:Nat)(x1:qac):∀(n:Nat) (p:(List (Int × Int)) × (List Int) × Int),Az9 g lf 7 [n] (qg3 x1 p)=qmx lf x1 n p
 | 0,p=>qbk 7 [0] rfl _
 | n+1,p=>by
  have ih:=q4x g lf x1 n;refine(qbh (qaq 20 _) ndz9 okz9 7 [n+1] [n] rfl _).trans ((ze7 g (Az9 g lf) lf x1 n p).trans ?_);rw[(show (fun q=>Az9 g lf 12 [lf] (qh9 x1 q))=(fun q=>qi3 lf x1 lf q) from funext fun q=>q19 g lf x1 lf q),(show (fun q=>Az9 g lf 7 [n] (qg3 x1 q))=(fun q=>qmx lf x1 n q) from funext ih)];rfl
def Fz9(lf:Nat)(x1:qac):Option Rtz9:=qtf lf x1 (fun q=>qmx lf x1 lf q)
theorem q8s(g:gz9)(lf:Nat)(x1:qac):Ez9 g (Az9 g lf) lf x1=Fz9 lf x1:=by
  refine(inz9 g (Az9 g lf) lf x1).trans ?_;rw[(show (fun q=>Az9 g lf 7 [lf] (qg3 x1 q))=(fun q=>qmx lf x1 lf q) from funext fun q=>q4x g lf x1 lf q)];rfl
theorem zcl(hrz7:ConR Try.prog 100 spz7)(hrz8:ConR Try.prog 102 spz8):qa4 Try.prog qwl:=⟨qnv hrz7,⟨qnv hrz8,trivial⟩⟩
theorem mkz9{g:gz9}(hsm:SmOK Try.prog qws)(hrz7:ConR Try.prog 100 spz7)(hrz8:ConR Try.prog 102 spz8)(hg:∀(x:ElA [cGraph]) (y:Rtz9),WfA [cGraph] x->g x=some y->∃lf,Fz9 lf x.1=some y):Con Try.prog 62 ⟨[cGraph],[(false,cGraph),(false,(.list (.int .i64)))],g⟩ :=
 conV (st:=stz9) (fun lf x=>Fz9 lf x.1) cm3 zis (zcl hrz7 hrz8) ndz9 okz9 (fun lf x=>q8s g lf x.1) hsm hg
noncomputable def S.canonO(g:qac):Option (qac × List Int × Unit):=Fz9 LF g
noncomputable def spz9:Sm:=⟨[cGraph],[(false,cGraph),(false,.list (.int .i64))],fun x=>S.canonO x.1⟩
theorem q0y:Con Try.prog idz9 spz9:=mkz9 trivial ziu q7s fun x y hx h=>⟨LF,h⟩
def S.tabF:Nat->List Int->List (Int × Int)
 | _,[]=>[]
 | i,n::l=>(n,Int.ofNat i)::S.tabF (i+1) l
def S.tab(o:List Int):List (Int × Int):=S.tabF 0 o
def S.meetL:List Int->List Int->List Int
 | o,[]=>o
 | o,n::l=>if n∈o then S.meetL o l else S.meetL (o++[n]) l
theorem qzz(a b:Int):keqI a b=decide (a=b):=rfl
theorem zfz(e:Int × Int)(es:List (Int × Int))(k:Int):S.numAt (e::es) k=if k=e.1 then some e.2 else S.numAt es k:=by
 show (cond (keqI k e.1) (some e.2) (S.numAt es k))=_;rw[qzz];by_cases h:k=e.1
 ·rw[jaq h,jak h];rfl
 ·rw[jal h,jai h];rfl
theorem zge(e:Int × Int)(es:List (Int × Int))(k v:Int):S.numSet (e::es) k v=if k=e.1 then (k,v)::es else e::S.numSet es k v:=by
 show (cond (keqI k e.1) ((k,v)::es) (e::S.numSet es k v))=_;rw[qzz];by_cases h:k=e.1
 ·rw[jaq h,jak h];rfl
 ·rw[jal h,jai h];rfl
theorem q42:∀(o:List Int) (i:Nat) (k:Int),S.numAt (S.tabF i o) k=if k∈o then some (Int.ofNat (i+o.idxOf k)) else none
 | [],i,k=>by simp[S.tabF];rfl
 | n::l,i,k=>by
  simp only[S.tabF,zfz];by_cases h:k=n
  ·subst h;simp
  ·rw[jal h,q42 l (i+1) k];have h':(n==k)=false:=by simpa using fun e=>h e.symm
   by_cases hm:k∈l
   ·rw[jaq hm,jaq (ja7 _ hm),List.idxOf_cons,h',jae,jci,Nat.add_comm 1]
   ·rw[jal hm,jal (by simp[h,hm])]
theorem q36(o:List Int)(k:Int):S.numAt (S.tab o) k=if k∈o then some (Int.ofNat (o.idxOf k)) else none:=by
 unfold S.tab;rw[q42,ja1]
theorem qwd:∀(o:List Int) (i:Nat) (k:Int),k ∉ o->S.numSet (S.tabF i o) k (Int.ofNat (i+o.length))=S.tabF i (o++[k])
 | [],i,k,_=>rfl
 | n::l,i,k,h=>by
  simp only[jaz,not_or] at h;simp only[S.tabF,zge,jdn,jal h.1];congr 1;have:=qwd l (i+1) k h.2;rw[show i+1+l.length=i+(n::l).length by simp;omega] at this;exact this
theorem zkq(o:List Int)(k:Int)(h:k ∉ o):S.numSet (S.tab o) k (Int.ofNat o.length)=S.tab (o++[k]):=by
 have:=qwd o 0 k h
 rwa [ja1] at this
theorem qp9:∀(l o:List Int),(o.length+l.length)*8<=140737488355328->S.meetN l (S.tab o) o=some (S.tab (S.meetL o l),S.meetL o l)
 | [],o,h=>rfl
 | n::l,o,h=>by
  simp only[jbg] at h;simp only[S.meetN,S.meetL,q36];by_cases hm:n∈o
  ·rw[jaq hm,jaq hm];exact qp9 l o (by omega)
  ·rw[jal hm,jal hm];simp only[jew,jae];rw[jby (show (o.length+1)*8<=140737488355328 by omega),jaa,zkq o n hm];exact qp9 l (o++[n]) (by simp only[jao,jbg,jcw];omega)
theorem qf3:∀(l o:List Int) (k:Int),k∈S.meetL o l↔k∈o\/k∈l
 | [],o,k=>by simp[S.meetL]
 | n::l,o,k=>by
  simp only[S.meetL];by_cases hm:n∈o
  ·rw[jaq hm,qf3 l o k];constructor
   ·rintro(h|h)
    ·exact .inl h
    ·exact .inr (ja7 _ h)
   ·rintro(h|h)
    ·exact .inl h
    ·rcases jaz.1 h with rfl|h
     ·exact .inl hm
     ·exact .inr h
  ·rw[jal hm,qf3 l (o++[n]) k];simp only[jbb,jaz,jdp,or_false];constructor
   ·rintro((h|h)|h)
    ·exact .inl h
    ·exact .inr (.inl h)
    ·exact .inr (.inr h)
   ·rintro(h|h|h)
    ·exact .inl (.inl h)
    ·exact .inl (.inr h)
    ·exact .inr h
theorem qqr:∀(l o:List Int),o.Nodup->(S.meetL o l).Nodup
 | [],o,h=>h
 | n::l,o,h=>by
  simp only[S.meetL];by_cases hm:n∈o
  ·rw[jaq hm];exact qqr l o h
  ·rw[jal hm];refine qqr l _ (jcd.2 ⟨h,by simp,fun a ha b hb=>?_⟩);rw[jce.1 hb];exact fun e=>hm (e▸ha)
theorem qos:∀(l o:List Int),∃t,S.meetL o l=o++t
 | [],o=>⟨[],(jbp _).symm⟩
 | n::l,o=>by
  simp only[S.meetL];by_cases hm:n∈o
  ·rw[jaq hm];exact qos l o
  ·rw[jal hm];obtain⟨t,ht⟩:=qos l (o++[n]);exact⟨n::t,by rw[ht];simp⟩
theorem q67(l o:List Int):o.length<=(S.meetL o l).length:=by
 obtain⟨t,ht⟩:=qos l o;rw[ht];simp
end Go.Proofs.Ytcnhjofpmpipfaa
end

section
noncomputable section
namespace Go.Proofs.Ytcnhjofpmpipfaa
open Go Go.Sx Go.RowKit Go.Jx
namespace S
open Go.Jx.S
def both(a b:qbr):qbr × Bool :=
 if b.2.1=1 then (a,true)
 else if a.2.1=1 then ((a.1,b.2.1,b.2.2),true)
 else if a.2.1=2/\b.2.1=3 then ((a.1,1,0),true)
 else if a.2.1=2/\b.2.1=4 then (a,decide (2<=b.2.2))
 else if a.2.1=4/\b.2.1=4 then ((a.1,a.2.1,imin a.2.2 b.2.2),true)
 else if a.2.1=5/\b.2.1=5 then (a,true)
 else if a.2.1=6/\b.2.1=2 then (a,true)
 else if a.2.1=6/\b.2.1=3 then (a,within a.2.2 0 1)
 else if a.2.1=6/\b.2.1=4 then (a,decide (a.2.2<b.2.2))
 else (qki,false)
def zer(l:List qbr)(n:ByteArray):Bool:=l.any fun g=>keqS g.1 n
def zbe(g:qbr):Bool:=decide (g.2.1=3)||(decide (g.2.1=4)||decide (g.2.1=5))
def chGo(a:qay)(mid:List DCol):List qbr->List qbr->Option (List qbr)
 | [],acc=>some acc
 | g::gs,acc =>
  if g.2.1=6\/g.2.1=7 then chGo a mid gs (acc++[g])
  else if (both (at_ qki a.2.2 (col mid g.1)) g).2=true then chGo a mid gs (acc++[(both (at_ qki a.2.2 (col mid g.1)) g).1])
  else none
def q2w(l:List qbr):List qbr->List DCol->Bool
 | g::gs,c::cs=>cond (zbe g&&!zer l c.1) false (q2w l gs cs)
 | _,_=>true
def q99(a b:qay)(mid:List DCol):qay × Bool:=match chGo a mid b.2.2 [] with
 | none=>(qje,false)
 | some gs=>if q2w b.2.2 a.2.2 mid=true then ((a.1,b.2.1,gs),true) else (qje,false)
def q2t(mid:List qab)(a b:List qay):List qab->List qay->List qay × Int
 | [],acc=>(acc,0)
 | f::fs,acc =>
  let x:=(ruleOf a f.1).1
  let c:=q99 x (ruleOf b x.2.1).1 (colsOf mid x.2.1)
  if c.2=true then q2t mid a b fs (acc++[c.1]) else ([],5)
def qrv(l1 l2 l3:List qab)(a b:List qay):List qay × Int :=
 if ¬first [checkForms l1,checkForms l2,checkForms l3]=0 then ([],first [checkForms l1,checkForms l2,checkForms l3])
 else if ¬first [qi8 l1 l2 a,qi8 l2 l3 b]=0 then ([],first [qi8 l1 l2 a,qi8 l2 l3 b])
 else q2t l2 a b l1 []
end S
end Go.Proofs.Ytcnhjofpmpipfaa

end
end

noncomputable section
set_option maxRecDepth 100000
namespace Go.Proofs.Ytcnhjofpmpipfaa
open Go Go.Sx Go.RowKit Go.Jx
structure ColsOK (cs:List DCol):Prop where
 len:cs.length<=30
 small:∀c∈cs,S.small c.1=true
 one:∀k (h:k<cs.length),S.col (cs.take k) cs[k].1<0
 kind:∀c∈cs,1<=c.2.1/\c.2.1<=3
 bare:∀c∈cs,¬c.2.1=3->c.2.2=S.lit []
structure FormsOK (l:List qab):Prop where
 len:l.length<=24
 cls:∀f∈l,S.class_ f.1=true
 one:∀k (h:k<l.length),S.form (l.take k) l[k].1<0
 cols:∀f∈l,ColsOK f.2
 ref:∀f∈l,∀c∈f.2,c.2.1=3->c.2.2=S.ANY\/0<=S.form l c.2.2
theorem q4q{α:Type}{l:List α}{k:Nat}{r:α}{rs:List α}(hd:l.drop k=r::rs):∃h:k<l.length,l[k]=r/\l.drop (k+1)=rs:=by
 have hk:k<l.length:=by
  rcases jbq k l.length with h|h
  ·exact h
  ·rw[List.drop_eq_nil_of_le h] at hd;cases hd
 rw[jbv hk] at hd;exact⟨hk,(List.cons.inj hd).1,(List.cons.inj hd).2⟩
theorem qyq(l:List DCol):∀(cs:List DCol) (k:Nat),l.drop k=cs->S.ccGo l k cs=0->∀j (h:j<l.length),k<=j->S.small l[j].1=true/\S.col (l.take j) l[j].1<0/\S.within l[j].2.1 1 3=true/\(¬l[j].2.1=3->l[j].2.2=S.lit [])
 | [],k,hd,_=>fun j hj hk=>by
  have:l.length<=k:=by simpa using hd
  omega
 | c::r,k,hd,h=>by
  obtain⟨hk,e1,e2⟩:=q4q hd;rw[S.ccGo] at h;cases h1:S.small c.1 with
  | false=>rw[jaq h1] at h;exact absurd h (by decide)
  | true =>
  rw[jal (by simp[h1])] at h;by_cases h2:¬S.col (l.take k) c.1<0
  ·rw[jaq h2] at h;exact absurd h (by decide)
  rw[jal h2] at h;cases h3:S.within c.2.1 1 3 with
  | false=>rw[jaq h3] at h;exact absurd h (by decide)
  | true =>
  rw[jal (by simp[h3])] at h;by_cases h4:¬c.2.1=3/\¬c.2.2=S.lit []
  ·rw[jaq h4] at h;exact absurd h (by decide)
  rw[jal h4] at h;intro j hj hkj;by_cases e:j=k
  ·subst e;rw[e1];exact⟨h1,Decidable.not_not.1 h2,h3,fun hn=>Decidable.not_not.1 fun hh=>h4 ⟨hn,hh⟩⟩
  ·exact qyq l r (k+1) e2 h j hj (by omega)
theorem zgf{l:List DCol}(h:S.checkCols l=0):ColsOK l:=by
 unfold S.checkCols at h;by_cases h30:30<l.length
 ·rw[jaq h30] at h;exact absurd h (by decide)
 rw[jal h30] at h;have key:=qyq l l 0 rfl h;refine⟨by omega,fun c hc=>?_,fun k hk=>(key k hk (jbk _)).2.1,fun c hc=>?_,fun c hc=>?_⟩;all_goals
  obtain⟨k,hk,rfl⟩:=jbs.1 hc
 ·exact(key k hk (jbk _)).1
 ·simpa only [S.within,jah,ja8] using (key k hk (jbk _)).2.2.1
 ·exact(key k hk (jbk _)).2.2.2
theorem q3g(l:List qab):∀fs:List qab,S.cfGo2 l fs=0->∀f∈fs,S.cfIn l f.2=true
 | [],_=>fun f hf=>absurd hf (by simp)
 | f::r,h=>by
  rw[S.cfGo2] at h;by_cases hc:S.cfIn l f.2=true
  ·rw[jaq hc] at h;intro x hx;rcases jaz.1 hx with e|e
   ·rw[e];exact hc
   ·exact q3g l r h x e
  ·rw[jal hc] at h;exact absurd h (by decide)
theorem za3{a b c:Int}(h:S.first [a,b,c]=0):a=0/\b=0/\c=0:=by
 simp only[S.first] at h;by_cases ha:a=0
 ·rw[jaq ha] at h;by_cases hb:b=0
  ·rw[jaq hb] at h;by_cases hc:c=0
   ·exact⟨ha,hb,hc⟩
   ·rw[jal hc] at h;exact absurd h hc
  ·rw[jal hb] at h;exact absurd h hb
 ·rw[jal ha] at h;exact absurd h ha
theorem q0q{x:Bool}{e:Int}(he:¬e=0)(h:S.unlessE x e=0):x=true:=by
 cases x with
 | true=>rfl
 | false=>exact absurd h he
theorem q1r(l:List qab):∀(fs:List qab) (k:Nat),l.drop k=fs->S.cfGo l k fs=0->(∀j (h:j<l.length),k<=j->S.class_ l[j].1=true/\S.form (l.take j) l[j].1<0/\S.checkCols l[j].2=0)/\S.cfGo2 l l=0
 | [],k,hd,h=>⟨fun j hj hk=>by
  have:l.length<=k:=by simpa using hd
  omega,h⟩
 | f::r,k,hd,h=>by
  obtain⟨hk,e1,e2⟩:=q4q hd;rw[S.cfGo] at h;by_cases he:S.first [S.unlessE (S.class_ f.1) 4,S.unlessE (decide (S.form (l.take k) f.1<0)) 6,S.checkCols f.2]=0
  ·rw[jaq he] at h;obtain⟨q1,q2,q3⟩:=za3 he;have ih:=q1r l r (k+1) e2 h;refine⟨fun j hj hkj=>?_,ih.2⟩;by_cases e:j=k
   ·subst e;rw[e1];exact⟨q0q (by decide) q1,jbr (q0q (by decide) q2),q3⟩
   ·exact ih.1 j hj (by omega)
  ·rw[jal he] at h;exact absurd h he
theorem qv7(l:List qab):∀cs:List DCol,S.cfIn l cs=true->∀c∈cs,c.2.1=3->c.2.2=S.ANY\/0<=S.form l c.2.2
 | [],_=>fun c hc=>absurd hc (by simp)
 | c::r,h=>by
  rw[S.cfIn] at h;by_cases hc:c.2.1=3/\¬c.2.2=S.ANY/\S.form l c.2.2<0
  ·rw[jaq hc] at h;cases h
  ·rw[jal hc] at h;intro x hx h3;rcases jaz.1 hx with e|e
   ·rw[e] at h3 ⊢;by_cases hA:c.2.2=S.ANY
    ·exact .inl hA
    ·exact .inr (by have:¬S.form l c.2.2<0:=fun hh=>hc ⟨h3,hA,hh⟩;omega)
   ·exact qv7 l r h x e h3
theorem q0f{l:List qab}(h:S.checkForms l=0):FormsOK l:=by
 unfold S.checkForms at h;by_cases h24:24<l.length
 ·rw[jaq h24] at h;exact absurd h (by decide)
 rw[jal h24] at h;obtain⟨k1,k2⟩:=q1r l l 0 rfl h;have k3:=q3g l l k2;refine⟨by omega,fun f hf=>?_,fun k hk=>(k1 k hk (jbk _)).2.1,fun f hf=>?_,fun f hf=>qv7 l f.2 (k3 f hf)⟩;all_goals
  obtain⟨k,hk,rfl⟩:=jbs.1 hf
 ·exact(k1 k hk (jbk _)).1
 ·exact zgf (k1 k hk (jbk _)).2.2

theorem q9c{α:Type}{p:α->Bool}{l:List α}{x:α}(hx:x∈l)(hp:p x=true):0<=S.idx p l :=
 (S.idx_nonneg p l).2 (jc3.2 ⟨x,hx,hp⟩)
theorem qgp{many:Nat}(h:many<=400)(v:DVal):S.value v (Int.ofNat many)=true↔(v.1=1/\-1099511627776<=v.2/\v.2<=1099511627776)\/(v.1=2/\0<=v.2/\v.2<=1)\/(v.1=3/\v.2=0)\/(v.1=4/\0<=v.2/\v.2<many):=by
 have hw:IntKind.i64.wrap (Int.sub (Int.ofNat many) (Int.ofNat 1))=(many:Int)-1:=by
  have:Int.sub (Int.ofNat many) (Int.ofNat 1)=(many:Int)-1:=rfl;rw[this];exact qi7 (by omega)
 unfold S.value;rw[hw];simp only[S.within];by_cases h1:v.1=1
 ·simp[h1]
 by_cases h2:v.1=2
 ·simp[h2]
 by_cases h3:v.1=3
 ·simp[h3]
 by_cases h4:v.1=4
 ·simp[h4];omega
 simp[h1,h2,h3,h4]
theorem q01{g:qac}(h1:g.1.length<=400)(h2:g.2.length<=60)(h3:∀n∈g.1,n.2.length<=30)(h4:∀n∈g.1,∀v∈n.2,S.value v (Int.ofNat g.1.length)=true)(h5:∀v∈g.2,S.value v (Int.ofNat g.1.length)=true/\S.refers v=true):S.formed g=0:=by
 unfold S.formed;rw[jal (by omega),jal,jal,jal]
 ·simp only[jc3,not_exists,not_and,jdu,jcu,not_or,je0];exact fun v hv=>h5 v hv
 ·simp only[jc3,not_exists,not_and,jcu,je0];exact fun n hn v hv=>h4 n hn v hv
 ·simp only[jc3,not_exists,not_and,ja8];exact fun n hn=>by have:=h3 n hn;omega
end Go.Proofs.Ytcnhjofpmpipfaa
end

section
noncomputable section
namespace Go.Proofs.Ytcnhjofpmpipfaa
open Go Go.Sx Go.RowKit Go.Jx
namespace S
open Go.Jx.S
def bkGo(l:List qay)(was now:List DCol):List qbr->Nat->List qbr->Option (List qbr)
 | [],_,acc=>some acc
 | g::gs,i,acc =>
  if ¬g.2.1=1 then none
  else if ¬(at_ qki acc (col was g.1)).2.1=0 then none
  else if keeps l (at_ zCol was (col was g.1)) (at_ zCol now i)=false then none
  else bkGo l was now gs (i+1) (acc.set (col was g.1).toNat ((at_ zCol now i).1,1,0))
def back(l:List qay)(r:qay)(was now:List DCol):qay × Bool :=
 if ¬was.length=now.length then (qje,false)
 else match bkGo l was now r.2.2 0 (rep was.length qki) with
  | none=>(qje,false)
  | some gs=>((r.2.1,r.1,gs),true)
end S
end Go.Proofs.Ytcnhjofpmpipfaa

end
end

noncomputable section
set_option maxRecDepth 100000
namespace Go.Proofs.Ytcnhjofpmpipfaa
open Go Go.Sx Go.RowKit Go.Jx
theorem q4v{α:Type}[DecidableEq α]:∀(N M:List α),N.Nodup->(∀x∈N,x∈M)->N.length<=M.length
 | [],M,_,_=>jbk _
 | x::N,M,hN,hs=>by
  rw[jdv] at hN;have hx:=hs x jbh;have ih:=q4v N (M.erase x) hN.2 fun y hy=>(List.mem_erase_of_ne (fun e:y=x=>hN.1 (by rw[<- e];exact hy))).2 (hs y (ja7 _ hy));rw[List.length_erase_of_mem hx] at ih;have:0<M.length:=List.length_pos_of_mem hx;simp only[jbg];omega
structure Und (A B:List qab) (l:List qay) (r q:qay):Prop where
 cls:q.1=r.2.1
 to:q.2.1=r.1
 n1:r.2.2.length=(S.colsOf A r.1).length
 n2:r.2.2.length=(S.colsOf B r.2.1).length
 n3:q.2.2.length=r.2.2.length
 how:∀i (h:i<r.2.2.length),r.2.2[i].2.1=1
 fwd:∀i (h:i<r.2.2.length),∃(k:Nat) (h1:k<(S.colsOf A r.1).length) (h2:k<q.2.2.length) (h3:i<(S.colsOf B r.2.1).length),S.col (S.colsOf A r.1) r.2.2[i].1=k/\q.2.2[k]=((S.colsOf B r.2.1)[i].1,1,0)/\S.keeps l (S.colsOf A r.1)[k] (S.colsOf B r.2.1)[i]=true
 bwd:∀k (h:k<(S.colsOf A r.1).length),∃(i:Nat) (h1:i<r.2.2.length),S.col (S.colsOf A r.1) r.2.2[i].1=k
structure BackOK (A B:List qab) (l b:List qay):Prop where
 fa:FormsOK A
 fb:FormsOK B
 ca:S.checkForms A=0
 cb:S.checkForms B=0
 ra:RulesOK A B l
 len:b.length=l.length
 lenB:b.length=B.length
 cls:∀k (h:k<B.length) (h':k<b.length),b[k].1=B[k].1
 und:∀q∈b,∃r∈l,Und A B l r q
 inj:∀r∈l,∀r'∈l,r.2.1=r'.2.1->r=r'
section
variable {A B : List qab} {l b : List qay}
end
structure GF (g:qac):Prop where
 nodes:List.length (α:=qaa) (g:List qaa × List DVal).1<=400
 roots:List.length (α:=DVal) (g:List qaa × List DVal).2<=60
 vals:∀n∈(g:List qaa × List DVal).1,List.length (α:=DVal) (n:ByteArray × List DVal).2<=30
 ref:∀n∈(g:List qaa × List DVal).1,∀k∈S.refsL (n:ByteArray × List DVal).2,0<=k/\k<Int.ofNat (List.length (α:=qaa) (g:List qaa × List DVal).1)
 rref:∀k∈S.refsL (g:List qaa × List DVal).2,0<=k/\k<Int.ofNat (List.length (α:=qaa) (g:List qaa × List DVal).1)
theorem qr5:∀l:List (Int × Int),(S.refsL l).length<=l.length
 | []=>jar _
 | v::l=>by
  have:=qr5 l;simp only[S.refsL];split<;>simp<;>omega
structure OrdOK (nd:List qaa) (o:List Int):Prop where
 nodup:o.Nodup
 lt:∀k∈o,0<=k/\k<Int.ofNat nd.length
theorem OrdOK.len{nd:List qaa}{o:List Int}(h:OrdOK nd o):o.length<=nd.length:=by
 have:=q4v o ((List.range nd.length).map Int.ofNat) h.nodup fun k hk=>by
  obtain⟨h1,h2⟩:=h.lt k hk;refine jcr.2 ⟨k.toNat,jeh.2 ?_,?_⟩
  ·have:(k.toNat:Int)=k:=Int.toNat_of_nonneg h1;have h2:k<(nd.length:Int):=h2;omega
  ·exact Int.toNat_of_nonneg h1
 simpa using this
theorem OrdOK.meet{nd:List qaa}{o l:List Int}(h:OrdOK nd o)(hl:∀k∈l,0<=k/\k<Int.ofNat nd.length):OrdOK nd (S.meetL o l) :=
 ⟨qqr l o h.nodup,fun k hk=>by
  rcases(qf3 l o k).1 hk with h1|h1
  ·exact h.lt k h1
  ·exact hl k h1⟩
def S.walk(nd:List qaa):Nat->List Int->Nat->List Int
 | 0,o,_=>o
 | f+1,o,i=>match o[i]? with
  | none=>o
  | some k=>match jget nd k with
   | none=>o
   | some v=>S.walk nd f (S.meetL o (S.refsL (v:ByteArray × List DVal).2)) (i+1)
theorem q1l{g:qac}(hg:GF g)(L12:((List (Int × Int)) × (List Int) × Int × (List qaa))->Option Rtz9):∀(f n i:Nat) (o:List Int),OrdOK (g:List qaa × List DVal).1 o->i<=o.length ->
  List.length (α:=qaa) (g:List qaa × List DVal).1-i<f->List.length (α:=qaa) (g:List qaa × List DVal).1-i<n ->
  rounds (fun K p=>qf8 LF g L12 K p) n (S.tab o,o,Int.ofNat i)=L12 (S.tab (S.walk (g:List qaa × List DVal).1 f o i),S.walk (g:List qaa × List DVal).1 f o i,Int.ofNat 0,[])/\OrdOK (g:List qaa × List DVal).1 (S.walk (g:List qaa × List DVal).1 f o i)
 | 0,n,i,o,ho,hi,hf,hn=>by omega
 | f+1,0,i,o,ho,hi,hf,hn=>by omega
 | f+1,n+1,i,o,ho,hi,hf,hn=>by
  have hlen:=ho.len;show qf8 LF g L12 (rounds (fun K p=>qf8 LF g L12 K p) n) (S.tab o,o,Int.ofNat i)=_/\_;by_cases he:i=o.length
  ·have h1:ieqI (Int.ofNat i) (Int.ofNat o.length)=true:=by rw[qaw,he];exact jak rfl
   have h2:o[i]?=none:=jbi (by omega);simp only[qf8,h1,jaa,S.walk,h2];exact⟨trivial,ho⟩
  ·have hlt:i<o.length:=by omega
   have h1:ieqI (Int.ofNat i) (Int.ofNat o.length)=false:=by rw[qaw];exact jai (fun e=>he (jen e))
   have h2:o[i]?=some o[i]:=jac hlt;have h3:jget o (Int.ofNat i)=some o[i]:=by rw[qc9];exact h2
   obtain⟨k1,k2⟩:=ho.lt o[i] (ja4 hlt);obtain⟨v,v1,v2,v3⟩:=qkv (l:=(g:List qaa × List DVal).1) k1 k2;have e1:Int.toNat (Int.ofNat i)=i:=rfl;have hr:=hg.ref v v3;have hv:=hg.vals v v3;have hn4:=hg.nodes;have hm:=qp9 (S.refsL (v:ByteArray × List DVal).2) o (by
    have:=qr5 (v:ByteArray × List DVal).2;have hv:List.length (α:=Int × Int) (v:ByteArray × List DVal).2<=30:=hv;omega)
   have hw:IntKind.i64.wrap (Int.add (Int.ofNat i) (Int.ofNat 1))=Int.ofNat (i+1):=qzj (by unfold LF;omega);have hnext:=q1l hg L12 f n (i+1) (S.meetL o (S.refsL (v:ByteArray × List DVal).2)) (ho.meet hr) (by have:=q67 (S.refsL (v:ByteArray × List DVal).2) o;omega) (by omega) (by omega);simp only[qf8,h1,jae,h3,e1,h2,v1,hm,hw,S.walk];exact hnext
def S.nodeAt(nd:List qaa)(k:Int):qaa:=(jget nd k).getD ((ByteArray.empty,[]):ByteArray × List DVal)
def S.newNode(nd:List qaa)(es:List (Int × Int))(k:Int):qaa:=(((S.nodeAt nd k:ByteArray × List DVal).1,S.movedL es (S.nodeAt nd k:ByteArray × List DVal).2):ByteArray × List DVal)
def S.numOr(es:List (Int × Int))(k:Int):Int:=(S.numAt es k).getD (-1)
theorem zmv(g:qac)(es:List (Int × Int))(o:List Int)(L18:((List (Int × Int)) × (List qaa) × Int × (List Int))->Option Rtz9)(hl:o.length*40<=140737488355328)
  (ho:∀k∈o,0<=k/\k<Int.ofNat (List.length (α:=qaa) (g:List qaa × List DVal).1)) :
  rounds (fun K p=>qlg LF g K L18 p) LF (es,o,Int.ofNat 0,[])=L18 (es,o.map (S.newNode (g:List qaa × List DVal).1 es),Int.ofNat 0,[]):=by
 refine(range0 (R:=Rtz9) (σ:=List qaa) o (fun k s=>(es,o,k,s)) (fun k s=>s.length=k) (fun rest k s=>L18 (es,s++rest.map (S.newNode (g:List qaa × List DVal).1 es),Int.ofNat 0,[])) (by unfold LF;omega) (fun K s hI=>?_) (fun K i v rest s hI r hk=>?_) [] rfl).trans ?_
 ·simp only[qlg,qbd,jae,List.map_nil,jbp]
 ·obtain⟨k1,k2⟩:=ho v r.mem;obtain⟨n,n1,n2,n3⟩:=qkv (l:=(g:List qaa × List DVal).1) k1 k2;have e1:Int.toNat (Int.ofNat i)=i:=rfl;have hlt:=r.lt;have hb:Nat.ble (Nat.mul (Nat.add s.length 1) 40) 140737488355328=true:=jby (by show (s.length+1)*40<=_;rw[hI];omega);simp only[qlg,r.ilt,jaa,r.get,e1,r.get?,n1,hb,r.next];have hnew:S.newNode (g:List qaa × List DVal).1 es v=(((n:ByteArray × List DVal).1,S.movedL es (n:ByteArray × List DVal).2):ByteArray × List DVal):=by
   unfold S.newNode S.nodeAt;rw[n1];rfl
  have:=hk (s++[S.newNode (g:List qaa × List DVal).1 es v]) (by rw[jao,hI];rfl);rw[hnew] at this;refine jd3 this ?_;rw[jca,hnew];congr 2;simp
 ·rfl
theorem zpf(g:qac)(es:List (Int × Int))(acc:List qaa)(hl:List.length (α:=qaa) (g:List qaa × List DVal).1<=400) :
  rounds (fun K p=>qjn LF g K p) LF (es,acc,Int.ofNat 0,[])=some (((acc,S.movedL es (g:List qaa × List DVal).2):List qaa × List DVal),(((List.range (List.length (α:=qaa) (g:List qaa × List DVal).1)).map fun k=>S.numOr es (Int.ofNat k)),())):=by
 have hlf:List.length (α:=qaa) (g:List qaa × List DVal).1<LF:=by unfold LF;omega
 refine(range0 (R:=Rtz9) (σ:=List Int) (α:=qaa) (g:List qaa × List DVal).1 (fun k s=>(es,acc,k,s)) (fun k s=>s=(List.range k).map fun j=>S.numOr es (Int.ofNat j))
  (fun _ _ _=>some (((acc,S.movedL es (g:List qaa × List DVal).2):List qaa × List DVal),(((List.range (List.length (α:=qaa) (g:List qaa × List DVal).1)).map fun k=>S.numOr es (Int.ofNat k)),()))) hlf (fun K s hI=>?_) (fun K i v rest s hI r hk=>?_) [] rfl)
 ·simp only[qjn,qbd,jae];rw[hI]
 ·have hlt:=r.lt;have hb:Nat.ble (Nat.mul (Nat.add s.length 1) 8) 140737488355328=true:=jby (by show (s.length+1)*8<=_;rw[hI];simp;omega);have hs:∀q,q=S.numOr es (Int.ofNat i)->s.append [q]=(List.range (i+1)).map fun j=>S.numOr es (Int.ofNat j):=fun q hq=>by
   rw[hI,List.range_succ,jeo,hq];rfl
  have hn:S.numAt es (Int.ofNat i)=@qb6 (TC.int .i64) (TC.int .i64) (Int.ofNat i) es:=rfl;simp only[qjn,r.ilt,jaa,hb,r.next];cases hm:@qb6 (TC.int .i64) (TC.int .i64) (Int.ofNat i) es with
  | none =>
   simp only[ja9,jaa];exact hk _ (hs _ (by unfold S.numOr;rw[hn,hm];rfl))
  | some q =>
   simp only[jbf,jae];exact hk _ (hs _ (by unfold S.numOr;rw[hn,hm];rfl))
def S.ord(g:qac):List Int:=S.walk (g:List qaa × List DVal).1 (List.length (α:=qaa) (g:List qaa × List DVal).1+1) (S.meetL [] (S.refsL (g:List qaa × List DVal).2)) 0
def S.canonG(g:qac):qac:=(((S.ord g).map (S.newNode (g:List qaa × List DVal).1 (S.tab (S.ord g))),S.movedL (S.tab (S.ord g)) (g:List qaa × List DVal).2):List qaa × List DVal)
def S.numsG(g:qac):List Int:=(List.range (List.length (α:=qaa) (g:List qaa × List DVal).1)).map fun k=>S.numOr (S.tab (S.ord g)) (Int.ofNat k)
theorem q5q{g:qac}(hg:GF g):S.canonO g=some (S.canonG g,S.numsG g,())/\OrdOK (g:List qaa × List DVal).1 (S.ord g):=by
 have h60:(S.refsL (g:List qaa × List DVal).2).length<=60:=jba (qr5 _) hg.roots;have hm:=qp9 (S.refsL (g:List qaa × List DVal).2) [] (by simp;omega);have ho0:OrdOK (g:List qaa × List DVal).1 (S.meetL [] (S.refsL (g:List qaa × List DVal).2)):=OrdOK.meet ⟨jeg,fun k hk=>by cases hk⟩ hg.rref;obtain⟨w1,w2⟩:=q1l hg (fun q=>qi3 LF g LF q) (List.length (α:=qaa) (g:List qaa × List DVal).1+1) LF 0 _ ho0 (jbk _) (by omega) (by have:=hg.nodes;unfold LF;omega);refine⟨?_,w2⟩;have hol:=w2.len;have hn4:=hg.nodes;have hl40:(S.ord g).length*40<=140737488355328:=by
  have:(S.ord g).length<=List.length (α:=qaa) (g:List qaa × List DVal).1:=hol;omega
 have e2:=zmv g (S.tab (S.ord g)) (S.ord g) (fun q=>qkg LF g LF q) hl40 w2.lt;have e3:=zpf g (S.tab (S.ord g)) ((S.ord g).map (S.newNode (g:List qaa × List DVal).1 (S.tab (S.ord g)))) hg.nodes;have hm:S.meetN (S.refsL (g:List qaa × List DVal).2) [] []=some (S.tab (S.meetL [] (S.refsL (g:List qaa × List DVal).2)),S.meetL [] (S.refsL (g:List qaa × List DVal).2)):=hm;simp only[S.canonO,Fz9,qtf,hm];exact w1.trans (e2.trans e3)
def S.mvV(π:Int->Int)(v:Int × Int):Int × Int:=if v.1=4 then (v.1,π v.2) else v

def S.piO(o:List Int)(k:Int):Int:=Int.ofNat (o.idxOf k)
theorem qvr{o:List Int}:∀(l:List (Int × Int)),(∀k∈S.refsL l,k∈o)->S.movedL (S.tab o) l=l.map (S.mvV (S.piO o))
 | [],_=>rfl
 | v::l,hl=>by
  have hl2:∀k∈S.refsL l,k∈o:=fun a ha=>hl a (by
   simp only[S.refsL];split
   ·exact ja7 _ ha
   ·exact ha)
  show S.movedV (S.tab o) v::S.movedL (S.tab o) l=S.mvV (S.piO o) v::l.map (S.mvV (S.piO o));rw[qvr l hl2];congr 1;unfold S.movedV S.mvV;by_cases h:v.1=4
  ·have hm:v.2∈o:=hl v.2 (by simp only[S.refsL,jaq h];exact jbh);show (if v.1=4 then (v.1,(S.numAt (S.tab o) v.2).getD 0) else v)=_;rw[jaq h,jaq h,q36,jaq hm];rfl
  ·show (if v.1=4 then (v.1,(S.numAt (S.tab o) v.2).getD 0) else v)=_;rw[jal h,jal h]
theorem qtm{many:Nat}(h:many<=400):∀(l:List (Int × Int)),(∀v∈l,S.value v (Int.ofNat many)=true)->∀k∈S.refsL l,0<=k/\k<Int.ofNat many
 | [],_,k,hk=>by cases hk
 | v::l,hv,k,hk=>by
  have ih:=qtm h l fun w hw=>hv w (ja7 _ hw);simp only[S.refsL] at hk;split at hk
  ·rename_i h4;rcases jaz.1 hk with h1|h1
   ·subst h1;rcases(qgp h v).1 (hv v jbh) with ⟨e,_⟩|⟨e,_⟩|⟨e,_⟩|⟨e,a,b⟩
    ·have e:v.1=1:=e;omega
    ·have e:v.1=2:=e;omega
    ·have e:v.1=3:=e;omega
    ·exact⟨a,b⟩
   ·exact ih k h1
  ·exact ih k hk
theorem qtx{g:qac}(h:S.formed g=0):GF g:=by
 obtain⟨f1,f2,f3,f4,f5⟩:=qnm h;exact⟨f1,f2,f3,fun n hn=>qtm f1 _ (f4 n hn),qtm f1 _ fun v hv=>(f5 v hv).1⟩

theorem qjs{α:Type}{l:List α}{k:Int}{v:α}(h:jget l k=some v):0<=k/\∃hi:k.toNat<l.length,l[k.toNat]=v:=by
 unfold jget at h;split at h
 ·rename_i h0;obtain⟨hi,e⟩:=jav.1 h;exact⟨h0,hi,e⟩
 ·cases h
def qmi:Nat->Option Nm:=fun k=>cond (Nat.beq k 4) (some ⟨[0,1,12,13],[],[],[],[],0,0,false⟩) (none)
def qj6:Nat->Bool:=fun k=>cond (Nat.beq k 4) true (false)
def q5u:=qj6
abbrev qct:Type:=Bool × Unit
def q52:List (Nat × Sm):=[]
def q16:List (Nat × Hx):=[]
def qu2(R:Type)(lf:Nat):ClK R:=qau Try.prog ttT.get ftT.get (nm1 30 qmi) (smL q52) (hxL q16) lf 20 R
abbrev zix:Nat:=30
def qg8(x1:(List DVal))(x2:(List DVal))(p:Int):NRes:=(NRes.mk (.node (some (IV.lst cVal x1)) (.node (some (IV.lst cVal x2)) .leaf (.node none .leaf (.node (some (IV.int .i64 p)) .leaf .leaf))) (.node none (.node none .leaf (.node (some (IV.int .i64 (Int.ofNat x1.length))) .leaf .leaf)) .leaf)) (IS.mk .leaf 0) [] 0)
def qut(lf:Nat)(x1:(List DVal))(x2:(List DVal))(L4:Int->Option qct):Option qct:=(cond (Bool.not (ieqI (Int.ofNat x1.length) (Int.ofNat x2.length))) (some (false,())) (L4 (Int.ofNat 0)))
def qpt(lf:Nat)(x1:(List DVal))(x2:(List DVal))(L4:Int->Option qct)(p:Int):Option qct:=(cond (iltI p (Int.ofNat x1.length)) (match (jget x1 p) with|none=>none|some v0=>(match (jget x2 p) with|none=>none|some v1=>(cond (Bool.not (Bool.and (keqI v0.1 v1.1) (Bool.and (keqI v0.2 v1.2) true))) (some (false,())) (L4 (IntKind.i64.wrap (Int.add p (Int.ofNat 1))))))) (some (true,())))
abbrev gz10:Type:=ElA [(.list cVal),(.list cVal)]->Option qct
abbrev sz10(g:gz10):Sm:=⟨[(.list cVal),(.list cVal)],[(false,.bool)],g⟩
abbrev Ez10(g:gz10)(J:JT qct)(lf:Nat)(x1:(List DVal))(x2:(List DVal)):=qb1 Try.prog ttT.get qmi fi30.nt (qu2 _ lf) lf qj6 J fi30.body [] (qao (argV [(.list cVal),(.list cVal)] (x1,x2,())) 0 .leaf) S0 [] (qar ttT.get fi30 (sz10 g))
abbrev Bz10(g:gz10)(J:JT qct)(lf k:Nat)(ms:List Nat)(q:NRes):=qb9 Try.prog ttT.get qmi fi30.nt (qu2 _ lf) lf qj6 J k fi30.body [] ms q (qar ttT.get fi30 (sz10 g))
theorem zqc(g:gz10)(J:JT qct)(lf:Nat)(x1:(List DVal))(x2:(List DVal)):Ez10 g J lf x1 x2=qut lf x1 x2 (fun q=>J 4 [lf] (qg8 x1 x2 q)):=by kernel_rfl
theorem zgu(g:gz10)(J:JT qct)(lf:Nat)(x1:(List DVal))(x2:(List DVal))(m1:Nat)(p:Int):Bz10 g J lf 4 [m1] (qg8 x1 x2 p)=qpt lf x1 x2 (fun q=>J 4 [m1] (qg8 x1 x2 q)) p:=by kernel_rfl
theorem q5f:(regs fi30.body).Nodup:=by decide +kernel
theorem qv9:okC qmi qj6 q5u fi30.body none=true:=by kernel_rfl
def Az10(g:gz10)(lf:Nat):JT qct:=atN Try.prog ttT.get qmi fi30 (sz10 g) (qu2 _ lf) lf q5u
def qo8(lf:Nat)(x1:(List DVal))(x2:(List DVal)):Nat->(Int)->Option qct:=rounds fun K p=>qpt lf x1 x2 K p
theorem qxs(g:gz10)(lf:Nat)(x1:(List DVal))(x2:(List DVal)):∀(n:Nat) (p:Int),Az10 g lf 4 [n] (qg8 x1 x2 p)=qo8 lf x1 x2 n p
 | 0,p=>qbk 4 [0] rfl _
 | n+1,p=>by
  have ih:=qxs g lf x1 x2 n;refine(qbh (qaq 20 _) q5f qv9 4 [n+1] [n] rfl _).trans ((zgu g (Az10 g lf) lf x1 x2 n p).trans ?_);rw[(show (fun q=>Az10 g lf 4 [n] (qg8 x1 x2 q))=(fun q=>qo8 lf x1 x2 n q) from funext ih)];rfl
def Fz10(lf:Nat)(x1:(List DVal))(x2:(List DVal)):Option qct:=qut lf x1 x2 (fun q=>qo8 lf x1 x2 lf q)
theorem zjv(g:gz10)(lf:Nat)(x1:(List DVal))(x2:(List DVal)):Ez10 g (Az10 g lf) lf x1 x2=Fz10 lf x1 x2:=by
  refine(zqc g (Az10 g lf) lf x1 x2).trans ?_;rw[(show (fun q=>Az10 g lf 4 [lf] (qg8 x1 x2 q))=(fun q=>qo8 lf x1 x2 lf q) from funext fun q=>qxs g lf x1 x2 lf q)];rfl
theorem zhv:qa4 Try.prog q16:=trivial
theorem q7n{g:gz10}(hsm:SmOK Try.prog q52)(hg:∀(x:ElA [(.list cVal),(.list cVal)]) (y:qct),WfA [(.list cVal),(.list cVal)] x->g x=some y->∃lf,Fz10 lf x.1 x.2.1=some y):Con Try.prog 30 ⟨[(.list cVal),(.list cVal)],[(false,.bool)],g⟩ :=
 conV (st:=qj6) (fun lf x=>Fz10 lf x.1 x.2.1) cm3 zae zhv q5f qv9 (fun lf x=>zjv g lf x.1 x.2.1) hsm hg
def S.eqVal(a b:DVal):Bool:=keqI (a:Int × Int).1 (b:Int × Int).1&&(keqI (a:Int × Int).2 (b:Int × Int).2&&true)
def S.eqVals:List DVal->List DVal->Bool
 | [],[]=>true
 | a::x,b::y=>S.eqVal a b&&S.eqVals x y
 | _,_=>false
theorem q5t:∀{a b:List DVal},S.eqVals a b=true->a.length=b.length
 | [],[],_=>rfl
 | [],_::_,h=>by cases h
 | _::_,[],h=>by cases h
 | a::x,b::y,h=>by
  simp only[S.eqVals,jah] at h;simp[q5t h.2]
def qq8:Sm:=⟨[.list cVal,.list cVal],[(false,.bool)],fun x=>some (S.eqVals x.1 x.2.1,())⟩
theorem zj0(a b:List DVal)(ha:a.length<LF):Fz10 LF a b=some (S.eqVals a b,()):=by
 simp only[Fz10,qut];by_cases hl:a.length=b.length
 ·have h1:ieqI (Int.ofNat a.length) (Int.ofNat b.length)=true:=by rw[qaw];exact jak (by rw[hl])
  simp only[h1,jbf,jae];refine(qc6 (R:=qct) a (fun rest i=>some (S.eqVals rest (b.drop i),())) ha (fun K=>?_) (fun K i v rest r hk=>?_)).trans ?_
  ·simp only[qpt,qbd,jae];rw[hl,jd2];rfl
  ·have hi:i<b.length:=by rw[<- hl];exact r.lt
   have hj:jget b (Int.ofNat i)=some b[i]:=by rw[qc9];exact jac hi
   have hd:b.drop i=b[i]::b.drop (i+1):=jbv hi;simp only[qpt,r.ilt,jaa,r.get,hj,r.next];rw[hd];show (cond (Bool.not (S.eqVal v b[i])) (some (false,())) (K (Int.ofNat (i+1))))=some (S.eqVal v b[i]&&S.eqVals rest (b.drop (i+1)),());cases S.eqVal v b[i] with
   | false=>rfl
   | true=>exact hk
  ·rw[jcv]
 ·have h1:ieqI (Int.ofNat a.length) (Int.ofNat b.length)=false:=by rw[qaw];exact jai (fun e=>hl (jen e))
  simp only[h1,ja9,jaa];have:S.eqVals a b=false:=by
   cases he:S.eqVals a b with
   | false=>rfl
   | true=>exact absurd (q5t he) hl
  rw[this]
theorem qx6:Con Try.prog zix qq8:=q7n trivial fun x y hx h=>⟨LF,by
 obtain⟨a,b,_⟩:=x;exact(zj0 a b (qbx hx.1)).trans h⟩
def ql8:Nat->Option Nm:=fun k=>cond (Nat.beq k 4) (some ⟨[1,2,15,16,17],[],[],[],[],0,0,false⟩) (cond (Nat.beq k 999999) (some ⟨[],[],[],[],[],0,0,false⟩) none)
def ql2:Nat->Bool:=fun k=>cond (Nat.beq k 4) true (false)
def qto:=ql2
abbrev qcm:Type:=(Bool × Unit) × Unit
def que:List (Nat × Sm):=[(30,qq8)]
def qvy:List (Nat × Hx):=[]
def qsm(R:Type)(lf:Nat):ClK R:=qau Try.prog ttT.get ftT.get (fun _ _=>none) (smL que) (hxL qvy) lf 20 R
abbrev zca:Nat:=110
def qhh(x1:(List qaa))(x2:(List qaa))(p:Int):NRes:=(NRes.mk (.node none (.node (some (IV.lst qal x2)) (.node none (.node none (.node (some (IV.lst qal x1)) .leaf .leaf) .leaf) .leaf) (.node none (.node none (.node (some (IV.int .i64 p)) .leaf .leaf) .leaf) .leaf)) (.node (some (IV.fn 111 [])) (.node none (.node none (.node (some (IV.int .i64 (Int.ofNat x1.length))) .leaf .leaf) .leaf) .leaf) .leaf)) (IS.mk .leaf 0) [] 0)
def qsg(lf:Nat)(x1:(List qaa))(x2:(List qaa))(L4:Int->Option qcm):Option qcm:=(cond (Bool.not (ieqI (Int.ofNat x1.length) (Int.ofNat x2.length))) (some ((false,()),())) (L4 (Int.ofNat 0)))
def qp6(lf:Nat)(x1:(List qaa))(x2:(List qaa))(L4:Int->Option qcm)(p:Int):Option qcm:=(cond (iltI p (Int.ofNat x1.length)) (match (jget x1 p) with|none=>none|some v0=>(match (jget x2 p) with|none=>none|some v1=>(cond (keqS v0.1 v1.1) (cond (Bool.not (S.eqVals v0.2 v1.2)) (some ((false,()),())) (L4 (IntKind.i64.wrap (Int.add p (Int.ofNat 1))))) (some ((false,()),()))))) (some ((true,()),())))
abbrev gz11:Type:=ElP [.dat (.list qal),.dat (.list qal),.fn 111]->Option qcm
abbrev sz11(g:gz11):SmR:=⟨[.dat (.list qal),.dat (.list qal),.fn 111],[(false,.bool)],g⟩
abbrev Ez11(g:gz11)(J:JT qcm)(lf:Nat)(x1:(List qaa))(x2:(List qaa)):=qbl Try.prog ttT.get ql8 (mP [.dat (.list qal),.dat (.list qal),.fn 111]) qdp.nt (qsm _ lf) lf ql2 J qdp.body [] (qao (qag [.dat (.list qal),.dat (.list qal),.fn 111] idN 0 (x1,x2,())) 0 .leaf) (Sc [.dat (.list qal),.dat (.list qal),.fn 111] (x1,x2,())) [] (qce ttT.get qdp (sz11 g))
abbrev Bz11(g:gz11)(J:JT qcm)(lf k:Nat)(ms:List Nat)(q:NRes):=qba Try.prog ttT.get ql8 (mP [.dat (.list qal),.dat (.list qal),.fn 111]) qdp.nt (qsm _ lf) lf ql2 J k qdp.body [] ms q (qce ttT.get qdp (sz11 g))
theorem zl7(g:gz11)(J:JT qcm)(lf:Nat)(x1:(List qaa))(x2:(List qaa)):Ez11 g J lf x1 x2=qsg lf x1 x2 (fun q=>J 4 [lf] (qhh x1 x2 q)):=by kernel_rfl
theorem zls(g:gz11)(J:JT qcm)(lf:Nat)(x1:(List qaa))(x2:(List qaa))(m1:Nat)(p:Int):Bz11 g J lf 4 [m1] (qhh x1 x2 p)=qp6 lf x1 x2 (fun q=>J 4 [m1] (qhh x1 x2 q)) p:=by kernel_rfl
theorem q6o:(regs qdp.body).Nodup:=by decide +kernel
theorem q3b:okC ql8 ql2 qto qdp.body none=true:=by kernel_rfl
def Az11(g:gz11)(lf:Nat):JT qcm:=atQ Try.prog ttT.get ql8 qdp (sz11 g) (qsm _ lf) lf qto
def qnt(lf:Nat)(x1:(List qaa))(x2:(List qaa)):Nat->(Int)->Option qcm:=rounds fun K p=>qp6 lf x1 x2 K p
theorem q02(g:gz11)(lf:Nat)(x1:(List qaa))(x2:(List qaa)):∀(n:Nat) (p:Int),Az11 g lf 4 [n] (qhh x1 x2 p)=qnt lf x1 x2 n p
 | 0,p=>qvl 4 [0] rfl _
 | n+1,p=>by
  have ih:=q02 g lf x1 x2 n;refine(qrc rfl (qaq 20 _) q6o q3b 4 [n+1] [n] rfl _).trans ((zls g (Az11 g lf) lf x1 x2 n p).trans ?_);rw[(show (fun q=>Az11 g lf 4 [n] (qhh x1 x2 q))=(fun q=>qnt lf x1 x2 n q) from funext ih)];rfl
def Fz11(lf:Nat)(x1:(List qaa))(x2:(List qaa)):Option qcm:=qsg lf x1 x2 (fun q=>qnt lf x1 x2 lf q)
theorem zlp(g:gz11)(lf:Nat)(x1:(List qaa))(x2:(List qaa)):Ez11 g (Az11 g lf) lf x1 x2=Fz11 lf x1 x2:=by
  refine(zl7 g (Az11 g lf) lf x1 x2).trans ?_;rw[(show (fun q=>Az11 g lf 4 [lf] (qhh x1 x2 q))=(fun q=>qnt lf x1 x2 lf q) from funext fun q=>q02 g lf x1 x2 lf q)];rfl
theorem ziy:qa4 Try.prog qvy:=trivial
theorem zm7{g:gz11}(hsm:SmOK Try.prog que)(hg:∀(x:ElP [.dat (.list qal),.dat (.list qal),.fn 111]) (y:qcm),WfP [.dat (.list qal),.dat (.list qal),.fn 111] x->g x=some y->∃lf,Fz11 lf x.1 x.2.1=some y):ConR Try.prog 110 ⟨[.dat (.list qal),.dat (.list qal),.fn 111],[(false,.bool)],g⟩ :=
 conTR (nmf:=ql8) (sml:=que) (hxl:=qvy) (st:=ql2) (hd:=qto) 20 qcl ttOK ftOK hsm ziy zmr (by kernel_rfl) (fun x=>by kernel_rfl) q6o q3b fun x y z hx hy=>by
  obtain⟨lf,h⟩:=hg x (y,z) hx hy;exact⟨lf,(zlp g lf x.1 x.2.1).trans h⟩
def S.eqNode(a b:qaa):Bool:=keqS (a:ByteArray × List DVal).1 (b:ByteArray × List DVal).1&&S.eqVals (a:ByteArray × List DVal).2 (b:ByteArray × List DVal).2
def S.eqNodes:List qaa->List qaa->Bool
 | [],[]=>true
 | a::x,b::y=>S.eqNode a b&&S.eqNodes x y
 | _,_=>false
theorem qyl:∀{a b:List qaa},S.eqNodes a b=true->a.length=b.length
 | [],[],_=>rfl
 | [],_::_,h=>by cases h
 | _::_,[],h=>by cases h
 | a::x,b::y,h=>by
  simp only[S.eqNodes,jah] at h;simp[qyl h.2]
def qqc:SmR:=⟨[.dat (.list qal),.dat (.list qal),.fn 111],[(false,.bool)],fun x=>some ((S.eqNodes x.1 x.2.1,()),())⟩
theorem zg6(a b:List qaa)(ha:a.length<LF):Fz11 LF a b=some ((S.eqNodes a b,()),()):=by
 simp only[Fz11,qsg];by_cases hl:a.length=b.length
 ·have h1:ieqI (Int.ofNat a.length) (Int.ofNat b.length)=true:=by rw[qaw];exact jak (by rw[hl])
  simp only[h1,jbf,jae];refine(qc6 (R:=qcm) a (fun rest i=>some ((S.eqNodes rest (b.drop i),()),())) ha (fun K=>?_) (fun K i v rest r hk=>?_)).trans ?_
  ·simp only[qp6,qbd,jae];rw[hl,jd2];rfl
  ·have hi:i<b.length:=by rw[<- hl];exact r.lt
   have hj:jget b (Int.ofNat i)=some b[i]:=by rw[qc9];exact jac hi
   have hd:b.drop i=b[i]::b.drop (i+1):=jbv hi;simp only[qp6,r.ilt,jaa,r.get,hj,r.next];rw[hd];show _=some ((S.eqNode v b[i]&&S.eqNodes rest (b.drop (i+1)),()),());unfold S.eqNode;cases keqS (v:ByteArray × List DVal).1 (b[i]:ByteArray × List DVal).1 with
   | false=>rfl
   | true =>
    show (cond (Bool.not (S.eqVals (v:ByteArray × List DVal).2 (b[i]:ByteArray × List DVal).2)) (some ((false,()),())) (K (Int.ofNat (i+1))))=some (((true&&S.eqVals (v:ByteArray × List DVal).2 (b[i]:ByteArray × List DVal).2)&&S.eqNodes rest (b.drop (i+1)),()),());cases S.eqVals (v:ByteArray × List DVal).2 (b[i]:ByteArray × List DVal).2 with
    | false=>rfl
    | true=>exact hk
  ·rw[jcv]
 ·have h1:ieqI (Int.ofNat a.length) (Int.ofNat b.length)=false:=by rw[qaw];exact jai (fun e=>hl (jen e))
  simp only[h1,ja9,jaa];have:S.eqNodes a b=false:=by
   cases he:S.eqNodes a b with
   | false=>rfl
   | true=>exact absurd (qyl he) hl
  rw[this]
theorem zo9:ConR Try.prog zca qqc:=zm7 ⟨qx6,trivial⟩ fun x y hx h=>⟨LF,by
 obtain⟨a,b,_⟩:=x;exact(zg6 a b (qbx hx.1)).trans h⟩
def q49:List (Nat × Hx):=[(110,hxR qqc)]
abbrev qj3:Type:=Bool × Unit
abbrev zie:Nat:=72
def zk2(lf:Nat)(x1:qac)(x2:qac):Option qj3:=(cond (S.eqVals x1.2 x2.2) (some ((S.eqNodes x1.1 x2.1),())) (some (false,())))
def q2e(lf:Nat)(x1:qac)(x2:qac):Option qj3:=zk2 lf x1 x2
theorem zb4(hrz11:ConR Try.prog 110 qqc):qa4 Try.prog q49:=⟨qnv hrz11,trivial⟩
theorem znl{g:ElA [cGraph,cGraph]->Option qj3}(hsm:SmOK Try.prog [(30,qq8)])(hrz11:ConR Try.prog 110 qqc)(hg:∀(x:ElA [cGraph,cGraph]) (y:qj3),WfA [cGraph,cGraph] x->g x=some y->∃lf,q2e lf x.1 x.2.1=some y):Con Try.prog 72 ⟨[cGraph,cGraph],[(false,.bool)],g⟩ :=
 conU (fi:=fi72) (hxl:=q49) (fun lf x=>q2e lf x.1 x.2.1) cm3 zen (zb4 hrz11) hsm hg

def S.eqGraph(a b:qac):Bool:=S.eqVals (a:List qaa × List DVal).2 (b:List qaa × List DVal).2&&S.eqNodes (a:List qaa × List DVal).1 (b:List qaa × List DVal).1
def q6l:Sm:=⟨[cGraph,cGraph],[(false,.bool)],fun x=>some (S.eqGraph x.1 x.2.1,())⟩
theorem zbd:Con Try.prog zie q6l:=znl ⟨qx6,trivial⟩ zo9 fun x y hx h=>⟨0,by
 obtain⟨a,b,_⟩:=x;refine jd3 ?_ h;show (cond (S.eqVals (a:List qaa × List DVal).2 (b:List qaa × List DVal).2) (some ((S.eqNodes (a:List qaa × List DVal).1 (b:List qaa × List DVal).1),())) (some (false,())):Option qj3)=some (S.eqGraph a b,());unfold S.eqGraph;cases S.eqVals (a:List qaa × List DVal).2 (b:List qaa × List DVal).2<;>rfl⟩






def q18(nd:List qaa)(o:List Int):Prop:=∀a∈o,∀k∈S.refsL (S.nodeAt nd a:ByteArray × List DVal).2,k∈o
theorem q57{y:List qaa × List DVal}(hg:GF y):∀(f:Nat) (o:List Int) (i:Nat),OrdOK y.1 o->i<=o.length->y.1.length-i<f->(∀j (h:j<o.length),j<i->∀k∈S.refsL (S.nodeAt y.1 o[j]:ByteArray × List DVal).2,k∈o) ->
  OrdOK y.1 (S.walk y.1 f o i)/\q18 y.1 (S.walk y.1 f o i)/\∀k∈o,k∈S.walk y.1 f o i
 | 0,_,_,_,_,h,_=>by omega
 | f+1,o,i,ho,hi,h1,hc=>by
  simp only[S.walk];cases hk:o[i]? with
  | none =>
   have hie:o.length<=i:=List.getElem?_eq_none_iff.1 hk;refine⟨ho,fun a ha k hk2=>?_,fun k hk=>hk⟩;obtain⟨j,hj,rfl⟩:=jbs.1 ha;exact hc j hj (ja5 hj hie) k hk2
  | some k =>
   obtain⟨hi,hik⟩:=jav.1 hk;have hlen:=ho.len;obtain⟨k1,k2⟩:=ho.lt k (jbe hk);obtain⟨v,v1,v2,v3⟩:=qkv (l:=y.1) k1 k2;simp only[v1];have hnv:S.nodeAt y.1 k=v:=by unfold S.nodeAt;rw[v1];rfl
   obtain⟨t,ht⟩:=qos (S.refsL (v:ByteArray × List DVal).2) o;have hl2:=q67 (S.refsL (v:ByteArray × List DVal).2) o;obtain⟨r1,r2,r3⟩:=q57 hg f (S.meetL o (S.refsL (v:ByteArray × List DVal).2)) (i+1) (ho.meet (hg.ref v v3)) (by omega) (by omega) fun j hj hji k' hk'=>by
    have hjo:j<o.length:=by omega
    have e:(S.meetL o (S.refsL (v:ByteArray × List DVal).2))[j]=o[j]:=by
     simp only[ht];exact jb2 hjo
    rw[e] at hk';refine(qf3 _ _ _).2 ?_;by_cases hje:j<i
    ·exact .inl (hc j hjo hje k' hk')
    ·have:j=i:=by omega
     subst this;rw[hik,hnv] at hk';exact .inr hk'
   exact⟨r1,r2,fun a ha=>r3 a ((qf3 _ _ _).2 (.inl ha))⟩
theorem qsh{y:List qaa × List DVal}(hg:GF y):OrdOK y.1 (S.ord y)/\q18 y.1 (S.ord y)/\∀k∈S.refsL y.2,k∈S.ord y:=by
 have ho:OrdOK y.1 (S.meetL [] (S.refsL y.2)):=⟨qqr _ _ jeg,fun a ha=>by
  rcases(qf3 _ _ a).1 ha with h1|h1
  ·cases h1
  ·exact hg.rref a h1⟩
 obtain⟨r1,r2,r3⟩:=q57 hg (y.1.length+1) (S.meetL [] (S.refsL y.2)) 0 ho (jbk _) (by omega) (fun j h h'=>by omega);exact⟨r1,r2,fun k hk=>r3 k ((qf3 _ _ _).2 (.inr hk))⟩
theorem q85(π:Int->Int)(v:Int × Int):(S.mvV π v).1=v.1:=by
 unfold S.mvV;split<;>rfl
theorem qw2{n m:Nat}(h:n<=400)(h':m<=400){π:Int->Int}(v:Int × Int)(hb:v.1=4->0<=π v.2/\π v.2<Int.ofNat m)(hv:S.value v (Int.ofNat n)=true):S.value (S.mvV π v) (Int.ofNat m)=true:=by
 unfold S.mvV;by_cases h4:v.1=4
 ·rw[jaq h4];exact(qgp h' _).2 (.inr (.inr (.inr ⟨h4,hb h4⟩)))
 ·rw[jal h4];rcases(qgp h v).1 hv with e|e|e|⟨e,_⟩
  ·exact(qgp h' _).2 (.inl e)
  ·exact(qgp h' _).2 (.inr (.inl e))
  ·exact(qgp h' _).2 (.inr (.inr (.inl e)))
  ·exact absurd e h4
theorem q4k{l:List (Int × Int)}{v:Int × Int}(hv:v∈l)(h4:v.1=4):v.2∈S.refsL l:=by
 induction l with
 | nil=>cases hv
 | cons w l ih =>
  simp only[S.refsL];rcases jaz.1 hv with rfl|hv
  ·rw[jaq h4];exact jbh
  ·split
   ·exact ja7 _ (ih hv)
   ·exact ih hv
theorem q29{x:List qaa × List DVal}(hg:GF x){m:ByteArray × List DVal}(hm:m∈(S.canonG x:List qaa × List DVal).1):∃a∈S.ord x,∃w:ByteArray × List DVal,jget x.1 a=some w/\w∈x.1/\(∀k∈S.refsL w.2,k∈S.ord x)/\m=(w.1,w.2.map (S.mvV (S.piO (S.ord x)))):=by
 obtain⟨ho,hc,hr⟩:=qsh hg;obtain⟨a,ha,rfl⟩:=jcr.1 (show m∈(S.ord x).map (S.newNode x.1 (S.tab (S.ord x))) from hm);obtain⟨k1,k2⟩:=ho.lt a ha;obtain⟨w,w1,w2,w3⟩:=qkv (l:=x.1) k1 k2;have hnw:S.nodeAt x.1 a=w:=by unfold S.nodeAt;rw[w1];rfl
 have hcl:=hc a ha;rw[hnw] at hcl;refine⟨a,ha,w,w1,w3,hcl,?_⟩;unfold S.newNode;rw[hnw,qvr _ hcl]
theorem qx5{x:List qaa × List DVal}(hg:GF x):(S.canonG x:List qaa × List DVal).2=x.2.map (S.mvV (S.piO (S.ord x))):=qvr _ (qsh hg).2.2
theorem qu0{x:List qaa × List DVal}:(S.canonG x:List qaa × List DVal).1.length=(S.ord x).length:=by
 show ((S.ord x).map _).length=_;rw[jcb]
theorem qx1{o:List Int}{k:Int}(h:k∈o):0<=S.piO o k/\S.piO o k<Int.ofNat o.length:=by
 have h3:=List.idxOf_lt_length_of_mem h;refine⟨jcy _,?_⟩;show (o.idxOf k:Int)<(o.length:Int);omega
theorem zbh{x:List qaa × List DVal}(hx:S.formed x=0):S.formed (S.canonG x)=0:=by
 obtain⟨f1,f2,f3,f4,f5⟩:=qnm hx;have hg:=qtx hx;obtain⟨ho,hc,hr⟩:=qsh hg;have hlen:=ho.len;have h400:(S.ord x).length<=400:=jba hlen f1;refine q01 (by rw[qu0];exact h400) (by rw[qx5 hg,jcb];exact f2) (fun m hm=>?_) (fun m hm v hv=>?_) (fun v hv=>?_)
 ·obtain⟨a,ha,w,w1,w2,w3,rfl⟩:=q29 hg hm;have:=f3 w w2;show (List.map _ _).length<=30;rw[jcb];exact this
 ·obtain⟨a,ha,w,w1,w2,w3,rfl⟩:=q29 hg hm;obtain⟨u,hu,rfl⟩:=jcr.1 (show v∈List.map (S.mvV (S.piO (S.ord x))) w.2 from hv);rw[qu0];exact qw2 f1 h400 u (fun h4=>qx1 (w3 _ (q4k hu h4))) (f4 w w2 u hu)
 ·rw[qx5 hg] at hv;obtain⟨u,hu,rfl⟩:=jcr.1 hv;obtain⟨g1,g2⟩:=f5 u hu;refine⟨by rw[qu0];exact qw2 f1 h400 u (fun h4=>qx1 (hr _ (q4k hu h4))) g1,?_⟩;have hk:=q85 (S.piO (S.ord x)) u;unfold S.refers at g2 ⊢;rw[hk];exact g2
end Go.Proofs.Ytcnhjofpmpipfaa
end

section
namespace Go.Jx
open Go Go.Sx Go.RowKit
universe u

def mvV(S:IS)(v:IV):IV × IS:=match v with
 | .arr id=>match S.heap.get id with
  | some (.arr c l)=>(.arr S.next,(S.set id .dead).new (.arr c l))
  | _=>(.arr id,S)
 | v=>(v,S)
section
variable {P : Program} {tt : Nat -> Option TI} {ft : Nat -> Option FI}
end
end Go.Jx
end

noncomputable section
set_option maxRecDepth 100000
namespace Go.Proofs.Ytcnhjofpmpipfaa
open Go Go.Sx Go.RowKit Go.Jx
namespace S
def numU:Nat->Int->List Int
 | 0,u=>[u]
 | f+1,u=>if u<128 then [u] else (128+u % 128)::numU f (u / 128)
def num(n:Int):List Int:=numU 10 (if n<0 then -2*n-1 else 2*n)
def numOK(n:Int):Bool:=decide (-2000000000000<=n)&&decide (n<=2000000000000)
def sumStep(s v:Int):Int:=Int.tmod (IntKind.i64.wrap (Int.add (IntKind.i64.wrap (Int.mul (Int.ofNat 31) s)) (IntKind.i64.wrap v))) (Int.ofNat 2147483647)
def sumI(b:List Int):Int:=b.foldl sumStep 1
def sum4I(s:Int):List Int:=[IntKind.u8.wrap (Int.fdiv s (Int.ofNat 16777216)),IntKind.u8.wrap (Int.fdiv s (Int.ofNat 65536)),IntKind.u8.wrap (Int.fdiv s (Int.ofNat 256)),IntKind.u8.wrap s]
def sum4(b:List Int):List Int:=sum4I (sumI b)
def code(v:Int × Int):Int:=if v.1=3 then 0 else if v.1=4 then IntKind.i64.wrap (v.2+1) else v.2
def codes(l:List (Int × Int)):List Int:=l.flatMap fun v=>num (code v)
def encN(l:List qab)(n:ByteArray × List (Int × Int)):List Int:=num (S.form l n.1)++codes n.2
def enc(l:List qab)(g:List qaa × List DVal):List Int:=num (Int.ofNat g.1.length)++(g.1.flatMap (encN l)++(num (Int.ofNat g.2.length)++codes g.2))
def encB(l:List qab)(g:qac):List Int × Int :=
 if S.checkG l g=0 then (if 60000<(enc l (S.canonG g)).length+4 then ([],3) else (enc l (S.canonG g)++sum4 (enc l (S.canonG g)),0)) else ([],S.checkG l g)
end S
def q2m:Sm:=⟨[.int .i64],[(false,.list (.int .u8))],fun x=>cond (S.numOK x.1) (some (S.num x.1,())) none⟩
def qpz:SmR:=⟨[.ref (.sl (.int .u8))],[(true,.int .u8)],fun x=>match x.1 with
 | some b=>some ((S.sum4 b,()),(some b,()))
 | none=>none⟩
def q3u:Sm:=⟨[cVal],[(false,.int .i64)],fun x=>some (S.code x.1,())⟩
def q06:Sm:=⟨[.list (.int .u8)],[(false,.int .i64)],fun x=>some (S.sumI x.1,())⟩
def q0i:Sm:=⟨[.list (.int .u8)],[(false,.list (.int .u8))],fun x=>cond (Nat.ble (List.length (α:=Int) x.1+100) 140737488355328) (some (List.append (α:=Int) x.1 (S.sum4 x.1),())) none⟩
def q66:Sm:=⟨[.list cForm,cGraph],[(false,.list (.int .u8)),(false,.int .i64)],fun x=>some ((S.encB x.1 x.2.1).1,(S.encB x.1 x.2.1).2,())⟩
abbrev qoe:Type:=(List Int) × Unit
abbrev zav:Nat:=40
def q5d(lf:Nat)(x1:(List Int)):Option qoe:=(match x1 with|.nil  => none|.cons v0 v1=>(cond (Nat.ble (Nat.mul (Nat.add 0 x1.length) 1) 140737488355328) (some ((List.append [] x1),())) none))
def qts(lf:Nat)(x1:(List Int)):Option qoe:=q5d lf x1
theorem zmq{g:ElA [(.list (.int .u8))]->Option qoe}(hsm:SmOK Try.prog [])(hg:∀(x:ElA [(.list (.int .u8))]) (y:qoe),WfA [(.list (.int .u8))] x->g x=some y->∃lf,qts lf x.1=some y):Con Try.prog 40 ⟨[(.list (.int .u8))],[(true,(.int .u8))],g⟩ :=
 conU (fi:=fi40) (hxl:=[]) (fun lf x=>qts lf x.1) cm3 zon trivial hsm hg
def qkt:Nat->Option Nm:=fun k=>cond (Nat.beq k 3) (some ⟨[3,6,7,8],[],[],[],[],0,0,false⟩) (none)
def qjy:Nat->Bool:=fun k=>cond (Nat.beq k 3) true (false)
def qw3:=qjy
abbrev qch:Type:=(List Int) × Unit
def q0m:List (Nat × Sm):=[]
def qxc:List (Nat × Hx):=[]
def qtd(R:Type)(lf:Nat):ClK R:=qau Try.prog ttT.get ftT.get (nm1 66 qkt) (smL q0m) (hxL qxc) lf 20 R
abbrev zdr:Nat:=66
def qh5(x1:(List Int))(p:Int × Int):NRes:=(NRes.mk (.node none (.node none (.node (some (IV.int .i64 p.1)) (.node (some (IV.int .i64 (Int.ofNat x1.length))) .leaf .leaf) .leaf) .leaf) (.node none (.node none (.node (some (IV.int .i64 p.2)) .leaf .leaf) .leaf) (.node (some (IV.lst (TC.int .u8) x1)) .leaf .leaf))) (IS.mk .leaf 0) [] 0)
def qte(lf:Nat)(x1:(List Int))(L3:(Int × Int)->Option qch):Option qch:=(L3 ((Int.ofNat 1),(Int.ofNat 0)))
def qov(lf:Nat)(x1:(List Int))(L3:(Int × Int)->Option qch)(p:Int × Int):Option qch:=(cond (iltI p.2 (Int.ofNat x1.length)) (match (jget x1 p.2) with|none=>none|some v0=>(L3 ((Int.tmod (IntKind.i64.wrap (Int.add (IntKind.i64.wrap (Int.mul (Int.ofNat 31) p.1)) (IntKind.i64.wrap v0))) (Int.ofNat 2147483647)),(IntKind.i64.wrap (Int.add p.2 (Int.ofNat 1)))))) (some ((List.cons (IntKind.u8.wrap (Int.fdiv p.1 (Int.ofNat 16777216))) (List.cons (IntKind.u8.wrap (Int.fdiv p.1 (Int.ofNat 65536))) (List.cons (IntKind.u8.wrap (Int.fdiv p.1 (Int.ofNat 256))) [(IntKind.u8.wrap p.1)]))),())))
abbrev gz12:Type:=ElA [(.list (.int .u8))]->Option qch
abbrev sz12(g:gz12):Sm:=⟨[(.list (.int .u8))],[(false,(.list (.int .u8)))],g⟩
abbrev Ez12(g:gz12)(J:JT qch)(lf:Nat)(x1:(List Int)):=qb1 Try.prog ttT.get qkt fi66.nt (qtd _ lf) lf qjy J fi66.body [] (qao (argV [(.list (.int .u8))] (x1,())) 0 .leaf) S0 [] (qar ttT.get fi66 (sz12 g))
abbrev Bz12(g:gz12)(J:JT qch)(lf k:Nat)(ms:List Nat)(q:NRes):=qb9 Try.prog ttT.get qkt fi66.nt (qtd _ lf) lf qjy J k fi66.body [] ms q (qar ttT.get fi66 (sz12 g))
theorem zod(g:gz12)(J:JT qch)(lf:Nat)(x1:(List Int)):Ez12 g J lf x1=qte lf x1 (fun q=>J 3 [lf] (qh5 x1 q)):=by kernel_rfl
theorem zql(g:gz12)(J:JT qch)(lf:Nat)(x1:(List Int))(m1:Nat)(p:Int × Int):Bz12 g J lf 3 [m1] (qh5 x1 p)=qov lf x1 (fun q=>J 3 [m1] (qh5 x1 q)) p:=by kernel_rfl
theorem q7g:(regs fi66.body).Nodup:=by decide +kernel
theorem qyw:okC qkt qjy qw3 fi66.body none=true:=by kernel_rfl
def Az12(g:gz12)(lf:Nat):JT qch:=atN Try.prog ttT.get qkt fi66 (sz12 g) (qtd _ lf) lf qw3
def qly(lf:Nat)(x1:(List Int)):Nat->(Int × Int)->Option qch:=rounds fun K p=>qov lf x1 K p
theorem q3x(g:gz12)(lf:Nat)(x1:(List Int)):∀(n:Nat) (p:Int × Int),Az12 g lf 3 [n] (qh5 x1 p)=qly lf x1 n p
 | 0,p=>qbk 3 [0] rfl _
 | n+1,p=>by
  have ih:=q3x g lf x1 n;refine(qbh (qaq 20 _) q7g qyw 3 [n+1] [n] rfl _).trans ((zql g (Az12 g lf) lf x1 n p).trans ?_);rw[(show (fun q=>Az12 g lf 3 [n] (qh5 x1 q))=(fun q=>qly lf x1 n q) from funext ih)];rfl
def Fz12(lf:Nat)(x1:(List Int)):Option qch:=qte lf x1 (fun q=>qly lf x1 lf q)
theorem zda(g:gz12)(lf:Nat)(x1:(List Int)):Ez12 g (Az12 g lf) lf x1=Fz12 lf x1:=by
  refine(zod g (Az12 g lf) lf x1).trans ?_;rw[(show (fun q=>Az12 g lf 3 [lf] (qh5 x1 q))=(fun q=>qly lf x1 lf q) from funext fun q=>q3x g lf x1 lf q)];rfl
theorem zlg:qa4 Try.prog qxc:=trivial
theorem zjb{g:gz12}(hsm:SmOK Try.prog q0m)(hg:∀(x:ElA [(.list (.int .u8))]) (y:qch),WfA [(.list (.int .u8))] x->g x=some y->∃lf,Fz12 lf x.1=some y):Con Try.prog 66 ⟨[(.list (.int .u8))],[(false,(.list (.int .u8)))],g⟩ :=
 conV (st:=qjy) (fun lf x=>Fz12 lf x.1) cm3 qyr zlg q7g qyw (fun lf x=>zda g lf x.1) hsm hg
def qjq:Nat->Option Nm:=fun k=>cond (Nat.beq k 4) (some ⟨[0,1,12,13],[],[],[],[],0,0,false⟩) (none)
def qkw:Nat->Bool:=fun k=>cond (Nat.beq k 4) true (false)
def qx9:=qkw
abbrev qcp:Type:=Bool × Unit
def q1e:List (Nat × Sm):=[]
def q4u:List (Nat × Hx):=[]
def qvt(R:Type)(lf:Nat):ClK R:=qau Try.prog ttT.get ftT.get (nm1 42 qjq) (smL q1e) (hxL q4u) lf 20 R
abbrev zcf:Nat:=42
def qh1(x1:(List Int))(x2:(List Int))(p:Int):NRes:=(NRes.mk (.node (some (IV.lst (TC.int .u8) x1)) (.node (some (IV.lst (TC.int .u8) x2)) .leaf (.node none .leaf (.node (some (IV.int .i64 p)) .leaf .leaf))) (.node none (.node none .leaf (.node (some (IV.int .i64 (Int.ofNat x1.length))) .leaf .leaf)) .leaf)) (IS.mk .leaf 0) [] 0)
def qs7(lf:Nat)(x1:(List Int))(x2:(List Int))(L4:Int->Option qcp):Option qcp:=(cond (Bool.not (ieqI (Int.ofNat x1.length) (Int.ofNat x2.length))) (some (false,())) (L4 (Int.ofNat 0)))
def qqn(lf:Nat)(x1:(List Int))(x2:(List Int))(L4:Int->Option qcp)(p:Int):Option qcp:=(cond (iltI p (Int.ofNat x1.length)) (match (jget x1 p) with|none=>none|some v0=>(match (jget x2 p) with|none=>none|some v1=>(cond (Bool.not (ieqI v0 v1)) (some (false,())) (L4 (IntKind.i64.wrap (Int.add p (Int.ofNat 1))))))) (some (true,())))
abbrev gz13:Type:=ElA [(.list (.int .u8)),(.list (.int .u8))]->Option qcp
abbrev sz13(g:gz13):Sm:=⟨[(.list (.int .u8)),(.list (.int .u8))],[(false,.bool)],g⟩
abbrev Ez13(g:gz13)(J:JT qcp)(lf:Nat)(x1:(List Int))(x2:(List Int)):=qb1 Try.prog ttT.get qjq fi42.nt (qvt _ lf) lf qkw J fi42.body [] (qao (argV [(.list (.int .u8)),(.list (.int .u8))] (x1,x2,())) 0 .leaf) S0 [] (qar ttT.get fi42 (sz13 g))
abbrev Bz13(g:gz13)(J:JT qcp)(lf k:Nat)(ms:List Nat)(q:NRes):=qb9 Try.prog ttT.get qjq fi42.nt (qvt _ lf) lf qkw J k fi42.body [] ms q (qar ttT.get fi42 (sz13 g))
theorem zfn(g:gz13)(J:JT qcp)(lf:Nat)(x1:(List Int))(x2:(List Int)):Ez13 g J lf x1 x2=qs7 lf x1 x2 (fun q=>J 4 [lf] (qh1 x1 x2 q)):=by kernel_rfl
theorem zkh(g:gz13)(J:JT qcp)(lf:Nat)(x1:(List Int))(x2:(List Int))(m1:Nat)(p:Int):Bz13 g J lf 4 [m1] (qh1 x1 x2 p)=qqn lf x1 x2 (fun q=>J 4 [m1] (qh1 x1 x2 q)) p:=by kernel_rfl
theorem q6g:(regs fi42.body).Nodup:=by decide +kernel
theorem qw7:okC qjq qkw qx9 fi42.body none=true:=by kernel_rfl
def Az13(g:gz13)(lf:Nat):JT qcp:=atN Try.prog ttT.get qjq fi42 (sz13 g) (qvt _ lf) lf qx9
def qqb(lf:Nat)(x1:(List Int))(x2:(List Int)):Nat->(Int)->Option qcp:=rounds fun K p=>qqn lf x1 x2 K p
theorem q3v(g:gz13)(lf:Nat)(x1:(List Int))(x2:(List Int)):∀(n:Nat) (p:Int),Az13 g lf 4 [n] (qh1 x1 x2 p)=qqb lf x1 x2 n p
 | 0,p=>qbk 4 [0] rfl _
 | n+1,p=>by
  have ih:=q3v g lf x1 x2 n;refine(qbh (qaq 20 _) q6g qw7 4 [n+1] [n] rfl _).trans ((zkh g (Az13 g lf) lf x1 x2 n p).trans ?_);rw[(show (fun q=>Az13 g lf 4 [n] (qh1 x1 x2 q))=(fun q=>qqb lf x1 x2 n q) from funext ih)];rfl
def Fz13(lf:Nat)(x1:(List Int))(x2:(List Int)):Option qcp:=qs7 lf x1 x2 (fun q=>qqb lf x1 x2 lf q)
theorem zhx(g:gz13)(lf:Nat)(x1:(List Int))(x2:(List Int)):Ez13 g (Az13 g lf) lf x1 x2=Fz13 lf x1 x2:=by
  refine(zfn g (Az13 g lf) lf x1 x2).trans ?_;rw[(show (fun q=>Az13 g lf 4 [lf] (qh1 x1 x2 q))=(fun q=>qqb lf x1 x2 lf q) from funext fun q=>q3v g lf x1 x2 lf q)];rfl
theorem zba:qa4 Try.prog q4u:=trivial
theorem zht{g:gz13}(hsm:SmOK Try.prog q1e)(hg:∀(x:ElA [(.list (.int .u8)),(.list (.int .u8))]) (y:qcp),WfA [(.list (.int .u8)),(.list (.int .u8))] x->g x=some y->∃lf,Fz13 lf x.1 x.2.1=some y):Con Try.prog 42 ⟨[(.list (.int .u8)),(.list (.int .u8))],[(false,.bool)],g⟩ :=
 conV (st:=qkw) (fun lf x=>Fz13 lf x.1 x.2.1) cm3 zks zba q6g qw7 (fun lf x=>zhx g lf x.1 x.2.1) hsm hg
def qiv:Nat->Option Nm:=fun k=>cond (Nat.beq k 3) (some ⟨[0,3,4],[],[],[],[],0,0,false⟩) (none)
def qj5:Nat->Bool:=fun k=>cond (Nat.beq k 3) true (false)
def q2j:=qj5
abbrev qcu:Type:=Int × Unit
def qv5:List (Nat × Sm):=[]
def q3t:List (Nat × Hx):=[]
def qr6(R:Type)(lf:Nat):ClK R:=qau Try.prog ttT.get ftT.get (nm1 89 qiv) (smL qv5) (hxL q3t) lf 20 R
abbrev zfu:Nat:=89
def qg2(x1:(List Int))(p:Int × Int):NRes:=(NRes.mk (.node (some (IV.lst (TC.int .u8) x1)) (.node none (.node (some (IV.int .i64 p.1)) .leaf .leaf) .leaf) (.node none (.node (some (IV.int .i64 p.2)) .leaf .leaf) .leaf)) (IS.mk .leaf 0) [] 0)
def qup(lf:Nat)(x1:(List Int))(L3:(Int × Int)->Option qcu):Option qcu:=(L3 ((Int.ofNat 1),(Int.ofNat 0)))
def qod(lf:Nat)(x1:(List Int))(L3:(Int × Int)->Option qcu)(p:Int × Int):Option qcu:=(cond (iltI p.2 (Int.ofNat x1.length)) (match (jget x1 p.2) with|none=>none|some v0=>(L3 ((Int.tmod (IntKind.i64.wrap (Int.add (IntKind.i64.wrap (Int.mul (Int.ofNat 31) p.1)) (IntKind.i64.wrap v0))) (Int.ofNat 2147483647)),(IntKind.i64.wrap (Int.add p.2 (Int.ofNat 1)))))) (some (p.1,())))
abbrev gz14:Type:=ElA [(.list (.int .u8))]->Option qcu
abbrev sz14(g:gz14):Sm:=⟨[(.list (.int .u8))],[(false,(.int .i64))],g⟩
abbrev Ez14(g:gz14)(J:JT qcu)(lf:Nat)(x1:(List Int)):=qb1 Try.prog ttT.get qiv fi89.nt (qr6 _ lf) lf qj5 J fi89.body [] (qao (argV [(.list (.int .u8))] (x1,())) 0 .leaf) S0 [] (qar ttT.get fi89 (sz14 g))
abbrev Bz14(g:gz14)(J:JT qcu)(lf k:Nat)(ms:List Nat)(q:NRes):=qb9 Try.prog ttT.get qiv fi89.nt (qr6 _ lf) lf qj5 J k fi89.body [] ms q (qar ttT.get fi89 (sz14 g))
theorem zch(g:gz14)(J:JT qcu)(lf:Nat)(x1:(List Int)):Ez14 g J lf x1=qup lf x1 (fun q=>J 3 [lf] (qg2 x1 q)):=by kernel_rfl
theorem zn1(g:gz14)(J:JT qcu)(lf:Nat)(x1:(List Int))(m1:Nat)(p:Int × Int):Bz14 g J lf 3 [m1] (qg2 x1 p)=qod lf x1 (fun q=>J 3 [m1] (qg2 x1 q)) p:=by kernel_rfl
theorem q3o:(regs fi89.body).Nodup:=by decide +kernel
theorem q17:okC qiv qj5 q2j fi89.body none=true:=by kernel_rfl
def Az14(g:gz14)(lf:Nat):JT qcu:=atN Try.prog ttT.get qiv fi89 (sz14 g) (qr6 _ lf) lf q2j
def qlu(lf:Nat)(x1:(List Int)):Nat->(Int × Int)->Option qcu:=rounds fun K p=>qod lf x1 K p
theorem q3j(g:gz14)(lf:Nat)(x1:(List Int)):∀(n:Nat) (p:Int × Int),Az14 g lf 3 [n] (qg2 x1 p)=qlu lf x1 n p
 | 0,p=>qbk 3 [0] rfl _
 | n+1,p=>by
  have ih:=q3j g lf x1 n;refine(qbh (qaq 20 _) q3o q17 3 [n+1] [n] rfl _).trans ((zn1 g (Az14 g lf) lf x1 n p).trans ?_);rw[(show (fun q=>Az14 g lf 3 [n] (qg2 x1 q))=(fun q=>qlu lf x1 n q) from funext ih)];rfl
def Fz14(lf:Nat)(x1:(List Int)):Option qcu:=qup lf x1 (fun q=>qlu lf x1 lf q)
theorem zg3(g:gz14)(lf:Nat)(x1:(List Int)):Ez14 g (Az14 g lf) lf x1=Fz14 lf x1:=by
  refine(zch g (Az14 g lf) lf x1).trans ?_;rw[(show (fun q=>Az14 g lf 3 [lf] (qg2 x1 q))=(fun q=>qlu lf x1 lf q) from funext fun q=>q3j g lf x1 lf q)];rfl
theorem zi5:qa4 Try.prog q3t:=trivial
theorem zex{g:gz14}(hsm:SmOK Try.prog qv5)(hg:∀(x:ElA [(.list (.int .u8))]) (y:qcu),WfA [(.list (.int .u8))] x->g x=some y->∃lf,Fz14 lf x.1=some y):Con Try.prog 89 ⟨[(.list (.int .u8))],[(false,(.int .i64))],g⟩ :=
 conV (st:=qj5) (fun lf x=>Fz14 lf x.1) cm3 q71 zi5 q3o q17 (fun lf x=>zg3 g lf x.1) hsm hg
abbrev qn8:Type:=(List Int) × Unit
abbrev zic:Nat:=43
def qz1(lf:Nat)(x1:(List Int)):Option qn8:=(cond (Nat.ble (Nat.mul (Nat.add 0 x1.length) 1) 140737488355328) (cond (Nat.ble (Nat.mul (Nat.add (List.length (List.append [] x1)) 4) 1) 140737488355328) (some ((List.append (List.append [] x1) (List.cons (IntKind.u8.wrap (IntKind.i64.wrap (Int.tdiv (S.sumI x1) (Int.ofNat 16777216)))) (List.cons (IntKind.u8.wrap (Int.tmod (IntKind.i64.wrap (Int.tdiv (S.sumI x1) (Int.ofNat 65536))) (Int.ofNat 256))) (List.cons (IntKind.u8.wrap (Int.tmod (IntKind.i64.wrap (Int.tdiv (S.sumI x1) (Int.ofNat 256))) (Int.ofNat 256))) (List.cons (IntKind.u8.wrap (Int.tmod (S.sumI x1) (Int.ofNat 256))) []))))),())) none) none)
def qnn(lf:Nat)(x1:(List Int)):Option qn8:=qz1 lf x1
theorem zm4{g:ElA [(.list (.int .u8))]->Option qn8}(hsm:SmOK Try.prog [(89,q06)])(hg:∀(x:ElA [(.list (.int .u8))]) (y:qn8),WfA [(.list (.int .u8))] x->g x=some y->∃lf,qnn lf x.1=some y):Con Try.prog 43 ⟨[(.list (.int .u8))],[(false,(.list (.int .u8)))],g⟩ :=
 conU (fi:=fi43) (hxl:=[]) (fun lf x=>qnn lf x.1) cm3 zhk trivial hsm hg
def qkb:Nat->Option Nm:=fun k=>cond (Nat.beq k 9) (some ⟨[0,3,7,8,33,34,35],[],[(7,0,(.int .u8))],[],[],0,0,false⟩) (cond (Nat.beq k 13) (some ⟨[0,3,7,8,33,34,35,46,47,48],[],[(7,0,(.int .u8))],[],[],0,0,false⟩) (cond (Nat.beq k 20) (some ⟨[7,8,64,65,66],[],[(7,0,(.int .u8))],[],[],0,0,false⟩) (none)))
def qi4:Nat->Bool:=fun k=>cond (Nat.beq k 9) true (cond (Nat.beq k 13) true (cond (Nat.beq k 20) true (false)))
def q4p:=qi4
abbrev qa6:Type:=(List Int) × Int × Unit
def q4o:List (Nat × Sm):=[(18,q50),(62,spz9),(52,qjb),(64,q2m),(65,q3u)]
def qxr:List (Nat × Hx):=[(66,hxR qpz)]
def qsq(R:Type)(lf:Nat):ClK R:=qau Try.prog ttT.get ftT.get (nm1 20 qkb) (smL q4o) (hxL qxr) lf 20 R
abbrev zoo:Nat:=20
def qej(x1:(List qab))(x2:qac)(p:(List Int) × (List qaa) × (List DVal) × Int):NRes:=(NRes.mk (.node (some (IV.lst cForm x1)) (.node none (.node (some (IV.ptr 0 0)) (.node (some (IV.ptr 1 0)) .leaf .leaf) (.node none (.node none (.node (some (IV.int .i64 p.2.2.2)) .leaf .leaf) .leaf) .leaf)) (.node none (.node none (.node none (.node (some (IV.lst qal p.2.1)) .leaf .leaf) .leaf) .leaf) .leaf)) (.node none (.node none (.node (some (IV.fn 63 [(IV.ptr 1 0)])) .leaf .leaf) .leaf) (.node none (.node none (.node none (.node (some (IV.int .i64 (Int.ofNat p.2.1.length))) .leaf .leaf) .leaf) .leaf) .leaf))) (IS.mk (.node (some (IObj.row (List.cons (IV.lst qal p.2.1) [(IV.lst cVal p.2.2.1)]))) (.node (some (IObj.row [(IV.arr 2)])) .leaf .leaf) (.node (some (IObj.arr (TC.int .u8) p.1)) .leaf .leaf)) 3) [] 0)
def qhs(x1:(List qab))(x2:qac)(p:(List qaa) × (List DVal) × (List DVal) × (List Int) × Int × Int):NRes:=(NRes.mk (.node (some (IV.lst cForm x1)) (.node none (.node (some (IV.ptr 0 0)) (.node (some (IV.ptr 1 0)) (.node none .leaf (.node (some (IV.int .i64 (Int.ofNat p.2.2.1.length))) .leaf .leaf)) .leaf) (.node none (.node none (.node (some (IV.int .i64 p.2.2.2.2.2)) .leaf .leaf) .leaf) .leaf)) (.node none (.node none (.node none (.node (some (IV.lst qal p.1)) .leaf .leaf) .leaf) .leaf) .leaf)) (.node none (.node none (.node (some (IV.fn 63 [(IV.ptr 1 0)])) (.node none .leaf (.node (some (IV.int .i64 p.2.2.2.2.1)) .leaf .leaf)) .leaf) .leaf) (.node none (.node none (.node none (.node (some (IV.int .i64 (Int.ofNat p.1.length))) .leaf .leaf) .leaf) .leaf) (.node none .leaf (.node none (.node (some (IV.lst cVal p.2.2.1)) .leaf .leaf) .leaf))))) (IS.mk (.node (some (IObj.row (List.cons (IV.lst qal p.1) [(IV.lst cVal p.2.1)]))) (.node (some (IObj.row [(IV.arr 2)])) .leaf .leaf) (.node (some (IObj.arr (TC.int .u8) p.2.2.2.1)) .leaf .leaf)) 3) [] 0)
def qht(x1:(List qab))(x2:qac)(p:(List DVal) × (List Int) × Int):NRes:=(NRes.mk (.node none (.node none (.node none (.node (some (IV.ptr 0 0)) .leaf .leaf) .leaf) (.node none (.node none (.node none (.node none (.node (some (IV.int .i64 (Int.ofNat p.1.length))) .leaf .leaf) .leaf) .leaf) .leaf) .leaf)) (.node none (.node none (.node (some (IV.fn 63 [(IV.ptr 0 0)])) (.node none (.node none (.node (some (IV.lst cVal p.1)) .leaf .leaf) .leaf) .leaf) .leaf) .leaf) (.node none (.node none (.node none (.node none (.node (some (IV.int .i64 p.2.2)) .leaf .leaf) .leaf) .leaf) .leaf) .leaf))) (IS.mk (.node (some (IObj.row [(IV.arr 1)])) (.node (some (IObj.arr (TC.int .u8) p.2.1)) .leaf .leaf) .leaf) 2) [] 0)
def qpu(lf:Nat)(x1:(List qab))(x2:qac)(L9:((List Int) × (List qaa) × (List DVal) × Int)->Option qa6):Option qa6:=(cond (Bool.not (ieqI (S.checkG x1 (x2.1,x2.2)) (Int.ofNat 0))) (some ([],((S.checkG x1 (x2.1,x2.2)),()))) (match (S.canonO (x2.1,x2.2)) with|none=>none|some v0=>(match (cond (S.numOK (Int.ofNat v0.1.1.length)) (some ((S.num (Int.ofNat v0.1.1.length)),())) none) with|none=>none|some v1=>(cond (Nat.ble (Nat.mul (Nat.add 0 v1.1.length) 1) 140737488355328) (L9 (v1.1,v0.1.1,v0.1.2,(Int.ofNat 0))) none))))
def qjp(lf:Nat)(x1:(List qab))(x2:qac)(L13:((List qaa) × (List DVal) × (List DVal) × (List Int) × Int × Int)->Option qa6)(L20:((List DVal) × (List Int) × Int)->Option qa6)(p:(List Int) × (List qaa) × (List DVal) × Int):Option qa6:=(cond (iltI p.2.2.2 (Int.ofNat p.2.1.length)) (match (jget p.2.1 p.2.2.2) with|none=>none|some v0=>(match (cond (S.numOK (S.form x1 v0.1)) (some ((S.num (S.form x1 v0.1)),())) none) with|none=>none|some v1=>(cond (Nat.ble (Nat.mul (Nat.add p.1.length v1.1.length) 1) 140737488355328) (L13 (p.2.1,p.2.2.1,v0.2,(List.append p.1 v1.1),(Int.ofNat 0),p.2.2.2)) none))) (match (cond (S.numOK (Int.ofNat p.2.2.1.length)) (some ((S.num (Int.ofNat p.2.2.1.length)),())) none) with|none=>none|some v8=>(cond (Nat.ble (Nat.mul (Nat.add p.1.length v8.1.length) 1) 140737488355328) (L20 (p.2.2.1,(List.append p.1 v8.1),(Int.ofNat 0))) none)))
def qks(lf:Nat)(x1:(List qab))(x2:qac)(L13:((List qaa) × (List DVal) × (List DVal) × (List Int) × Int × Int)->Option qa6)(L9:((List Int) × (List qaa) × (List DVal) × Int)->Option qa6)(p:(List qaa) × (List DVal) × (List DVal) × (List Int) × Int × Int):Option qa6:=(cond (iltI p.2.2.2.2.1 (Int.ofNat p.2.2.1.length)) (match (jget p.2.2.1 p.2.2.2.2.1) with|none=>none|some v0=>(match (cond (S.numOK (S.code (v0.1,v0.2))) (some ((S.num (S.code (v0.1,v0.2))),())) none) with|none=>none|some v1=>(cond (Nat.ble (Nat.mul (Nat.add p.2.2.2.1.length v1.1.length) 1) 140737488355328) (L13 (p.1,p.2.1,p.2.2.1,(List.append p.2.2.2.1 v1.1),(IntKind.i64.wrap (Int.add p.2.2.2.2.1 (Int.ofNat 1))),p.2.2.2.2.2)) none))) (L9 (p.2.2.2.1,p.1,p.2.1,(IntKind.i64.wrap (Int.add p.2.2.2.2.2 (Int.ofNat 1))))))
def qlv(lf:Nat)(x1:(List qab))(x2:qac)(L20:((List DVal) × (List Int) × Int)->Option qa6)(p:(List DVal) × (List Int) × Int):Option qa6:=(cond (iltI p.2.2 (Int.ofNat p.1.length)) (match (jget p.1 p.2.2) with|none=>none|some v0=>(match (cond (S.numOK (S.code (v0.1,v0.2))) (some ((S.num (S.code (v0.1,v0.2))),())) none) with|none=>none|some v1=>(cond (Nat.ble (Nat.mul (Nat.add p.2.1.length v1.1.length) 1) 140737488355328) (L20 (p.1,(List.append p.2.1 v1.1),(IntKind.i64.wrap (Int.add p.2.2 (Int.ofNat 1))))) none))) (cond (Nat.ble (Nat.mul (Nat.add p.2.1.length (List.length (S.sum4 p.2.1))) 1) 140737488355328) (cond (iltI (Int.ofNat 60000) (Int.ofNat (List.length (List.append p.2.1 (S.sum4 p.2.1))))) (some ([],((Int.ofNat 3),()))) (some ((List.append p.2.1 (S.sum4 p.2.1)),((Int.ofNat 0),())))) none))
abbrev gz15:Type:=ElA [(.list cForm),cGraph]->Option qa6
abbrev sz15(g:gz15):Sm:=⟨[(.list cForm),cGraph],[(false,(.list (.int .u8))),(false,(.int .i64))],g⟩
abbrev Ez15(g:gz15)(J:JT qa6)(lf:Nat)(x1:(List qab))(x2:qac):=qb1 Try.prog ttT.get qkb fi20.nt (qsq _ lf) lf qi4 J fi20.body [] (qao (argV [(.list cForm),cGraph] (x1,x2,())) 0 .leaf) S0 [] (qar ttT.get fi20 (sz15 g))
abbrev Bz15(g:gz15)(J:JT qa6)(lf k:Nat)(ms:List Nat)(q:NRes):=qb9 Try.prog ttT.get qkb fi20.nt (qsq _ lf) lf qi4 J k fi20.body [] ms q (qar ttT.get fi20 (sz15 g))
theorem zjt(g:gz15)(J:JT qa6)(lf:Nat)(x1:(List qab))(x2:qac):Ez15 g J lf x1 x2=qpu lf x1 x2 (fun q=>J 9 [lf] (qej x1 x2 q)):=by kernel_rfl
theorem zkx(g:gz15)(J:JT qa6)(lf:Nat)(x1:(List qab))(x2:qac)(m1:Nat)(p:(List Int) × (List qaa) × (List DVal) × Int):Bz15 g J lf 9 [m1] (qej x1 x2 p)=qjp lf x1 x2 (fun q=>J 13 [m1,lf] (qhs x1 x2 q)) (fun q=>J 20 [lf] (qht x1 x2 q)) p:=by kernel_rfl
theorem zas(g:gz15)(J:JT qa6)(lf:Nat)(x1:(List qab))(x2:qac)(m1:Nat)(m2:Nat)(p:(List qaa) × (List DVal) × (List DVal) × (List Int) × Int × Int):Bz15 g J lf 13 [m1,m2] (qhs x1 x2 p)=qks lf x1 x2 (fun q=>J 13 [m1,m2] (qhs x1 x2 q)) (fun q=>J 9 [m1] (qej x1 x2 q)) p:=by kernel_rfl
theorem zhn(g:gz15)(J:JT qa6)(lf:Nat)(x1:(List qab))(x2:qac)(m1:Nat)(p:(List DVal) × (List Int) × Int):Bz15 g J lf 20 [m1] (qht x1 x2 p)=qlv lf x1 x2 (fun q=>J 20 [m1] (qht x1 x2 q)) p:=by kernel_rfl
theorem qpe:(regs fi20.body).Nodup:=by decide +kernel
theorem qox:okC qkb qi4 q4p fi20.body none=true:=by kernel_rfl
def Az15(g:gz15)(lf:Nat):JT qa6:=atN Try.prog ttT.get qkb fi20 (sz15 g) (qsq _ lf) lf q4p
def ql7(lf:Nat)(x1:(List qab))(x2:qac)(K9:((List Int) × (List qaa) × (List DVal) × Int)->Option qa6):Nat->((List qaa) × (List DVal) × (List DVal) × (List Int) × Int × Int)->Option qa6:=rounds fun K p=>qks lf x1 x2 K K9 p
theorem q5m(g:gz15)(lf:Nat)(x1:(List qab))(x2:qac)(m1:Nat):∀(n:Nat) (p:(List qaa) × (List DVal) × (List DVal) × (List Int) × Int × Int),Az15 g lf 13 [m1,n] (qhs x1 x2 p)=ql7 lf x1 x2 (fun q=>Az15 g lf 9 [m1] (qej x1 x2 q)) n p
 | 0,p=>qbk 13 [m1,0] rfl _
 | n+1,p=>by
  have ih:=q5m g lf x1 x2 m1 n;refine(qbh (qaq 20 _) qpe qox 13 [m1,n+1] [m1,n] rfl _).trans ((zas g (Az15 g lf) lf x1 x2 m1 n p).trans ?_);rw[(show (fun q=>Az15 g lf 13 [m1,n] (qhs x1 x2 q))=(fun q=>ql7 lf x1 x2 (fun q=>Az15 g lf 9 [m1] (qej x1 x2 q)) n q) from funext ih)];rfl
def qk1(lf:Nat)(x1:(List qab))(x2:qac):Nat->((List DVal) × (List Int) × Int)->Option qa6:=rounds fun K p=>qlv lf x1 x2 K p
theorem q4l(g:gz15)(lf:Nat)(x1:(List qab))(x2:qac):∀(n:Nat) (p:(List DVal) × (List Int) × Int),Az15 g lf 20 [n] (qht x1 x2 p)=qk1 lf x1 x2 n p
 | 0,p=>qbk 20 [0] rfl _
 | n+1,p=>by
  have ih:=q4l g lf x1 x2 n;refine(qbh (qaq 20 _) qpe qox 20 [n+1] [n] rfl _).trans ((zhn g (Az15 g lf) lf x1 x2 n p).trans ?_);rw[(show (fun q=>Az15 g lf 20 [n] (qht x1 x2 q))=(fun q=>qk1 lf x1 x2 n q) from funext ih)];rfl
def qm5(lf:Nat)(x1:(List qab))(x2:qac):Nat->((List Int) × (List qaa) × (List DVal) × Int)->Option qa6:=rounds fun K p=>qjp lf x1 x2 (fun q=>ql7 lf x1 x2 K lf q) (fun q=>qk1 lf x1 x2 lf q) p
theorem q1j(g:gz15)(lf:Nat)(x1:(List qab))(x2:qac):∀(n:Nat) (p:(List Int) × (List qaa) × (List DVal) × Int),Az15 g lf 9 [n] (qej x1 x2 p)=qm5 lf x1 x2 n p
 | 0,p=>qbk 9 [0] rfl _
 | n+1,p=>by
  have ih:=q1j g lf x1 x2 n;refine(qbh (qaq 20 _) qpe qox 9 [n+1] [n] rfl _).trans ((zkx g (Az15 g lf) lf x1 x2 n p).trans ?_);rw[(show (fun q=>Az15 g lf 13 [n,lf] (qhs x1 x2 q))=(fun q=>ql7 lf x1 x2 (fun q=>Az15 g lf 9 [n] (qej x1 x2 q)) lf q) from funext fun q=>q5m g lf x1 x2 n lf q),(show (fun q=>Az15 g lf 20 [lf] (qht x1 x2 q))=(fun q=>qk1 lf x1 x2 lf q) from funext fun q=>q4l g lf x1 x2 lf q),(show (fun q=>Az15 g lf 9 [n] (qej x1 x2 q))=(fun q=>qm5 lf x1 x2 n q) from funext ih)];rfl
def Fz15(lf:Nat)(x1:(List qab))(x2:qac):Option qa6:=qpu lf x1 x2 (fun q=>qm5 lf x1 x2 lf q)
theorem zhw(g:gz15)(lf:Nat)(x1:(List qab))(x2:qac):Ez15 g (Az15 g lf) lf x1 x2=Fz15 lf x1 x2:=by
  refine(zjt g (Az15 g lf) lf x1 x2).trans ?_;rw[(show (fun q=>Az15 g lf 9 [lf] (qej x1 x2 q))=(fun q=>qm5 lf x1 x2 lf q) from funext fun q=>q1j g lf x1 x2 lf q)];rfl
theorem q9z(hrz17:ConR Try.prog 66 qpz):qa4 Try.prog qxr:=⟨qnv hrz17,trivial⟩
theorem q8o{g:gz15}(hsm:SmOK Try.prog q4o)(hrz17:ConR Try.prog 66 qpz)(hg:∀(x:ElA [(.list cForm),cGraph]) (y:qa6),WfA [(.list cForm),cGraph] x->g x=some y->∃lf,Fz15 lf x.1 x.2.1=some y):Con Try.prog 20 ⟨[(.list cForm),cGraph],[(false,(.list (.int .u8))),(false,(.int .i64))],g⟩ :=
 conV (st:=qi4) (fun lf x=>Fz15 lf x.1 x.2.1) cm3 zdn (q9z hrz17) qpe qox (fun lf x=>zhw g lf x.1 x.2.1) hsm hg
def qjw:Nat->Option Nm:=fun k=>cond (Nat.beq k 5) (some ⟨[3,4],[(4,(.int .u8))],[],[],[],0,0,false⟩) (none)
def qjd:Nat->Bool:=fun k=>cond (Nat.beq k 5) true (false)
def qyp:=qjd
abbrev qc0:Type:=(List Int) × Unit
def qx2:List (Nat × Sm):=[]
def q1f:List (Nat × Hx):=[]
def qvq(R:Type)(lf:Nat):ClK R:=qau Try.prog ttT.get ftT.get (nm1 64 qjw) (smL qx2) (hxL q1f) lf 20 R
abbrev znx:Nat:=64
def qhv(x1:Int)(p:Int × (List Int)):NRes:=(NRes.mk (.node none (.node none (.node (some (IV.int .u64 p.1)) .leaf .leaf) .leaf) (.node none (.node (some (IV.arr 0)) .leaf .leaf) .leaf)) (IS.mk (.node (some (IObj.arr (TC.int .u8) p.2)) .leaf .leaf) 1) [] 0)
def qs3(lf:Nat)(x1:Int)(L5:(Int × (List Int))->Option qc0):Option qc0:=(cond (iltI x1 (Int.ofNat 0)) (L5 ((IntKind.wrap IntKind.u64 (IntKind.i64.wrap (Int.sub (IntKind.i64.wrap (Int.mul (Int.negSucc 1) x1)) (Int.ofNat 1)))),[])) (L5 ((IntKind.wrap IntKind.u64 (IntKind.i64.wrap (Int.mul (Int.ofNat 2) x1))),[])))
def qfd(lf:Nat)(x1:Int)(L5:(Int × (List Int))->Option qc0)(p:Int × (List Int)):Option qc0:=(cond (Bool.not (iltI p.1 (Int.ofNat 128))) (cond (Nat.ble (Nat.mul (Nat.add p.2.length 1) 1) 140737488355328) (L5 ((Int.fdiv p.1 (Int.ofNat 128)),(List.append p.2 (List.cons (Int.ofNat (Nat.mod (Nat.lor (Int.toNat (Int.emod (IntKind.u8.wrap p.1) (Int.ofNat 256))) 128) 256)) [])))) none) (cond (Nat.ble (Nat.mul (Nat.add p.2.length 1) 1) 140737488355328) (some ((List.append p.2 [(IntKind.u8.wrap p.1)]),())) none))
abbrev gz16:Type:=ElA [(.int .i64)]->Option qc0
abbrev sz16(g:gz16):Sm:=⟨[(.int .i64)],[(false,(.list (.int .u8)))],g⟩
abbrev Ez16(g:gz16)(J:JT qc0)(lf:Nat)(x1:Int):=qb1 Try.prog ttT.get qjw fi64.nt (qvq _ lf) lf qjd J fi64.body [] (qao (argV [(.int .i64)] (x1,())) 0 .leaf) S0 [] (qar ttT.get fi64 (sz16 g))
abbrev Bz16(g:gz16)(J:JT qc0)(lf k:Nat)(ms:List Nat)(q:NRes):=qb9 Try.prog ttT.get qjw fi64.nt (qvq _ lf) lf qjd J k fi64.body [] ms q (qar ttT.get fi64 (sz16 g))
theorem zcm(g:gz16)(J:JT qc0)(lf:Nat)(x1:Int):Ez16 g J lf x1=qs3 lf x1 (fun q=>J 5 [lf] (qhv x1 q)):=by kernel_rfl
theorem zgr(g:gz16)(J:JT qc0)(lf:Nat)(x1:Int)(m1:Nat)(p:Int × (List Int)):Bz16 g J lf 5 [m1] (qhv x1 p)=qfd lf x1 (fun q=>J 5 [m1] (qhv x1 q)) p:=by kernel_rfl
theorem qzf:(regs fi64.body).Nodup:=by decide +kernel
theorem qxv:okC qjw qjd qyp fi64.body none=true:=by kernel_rfl
def Az16(g:gz16)(lf:Nat):JT qc0:=atN Try.prog ttT.get qjw fi64 (sz16 g) (qvq _ lf) lf qyp
def qj2(lf:Nat)(x1:Int):Nat->(Int × (List Int))->Option qc0:=rounds fun K p=>qfd lf x1 K p
theorem q56(g:gz16)(lf:Nat)(x1:Int):∀(n:Nat) (p:Int × (List Int)),Az16 g lf 5 [n] (qhv x1 p)=qj2 lf x1 n p
 | 0,p=>qbk 5 [0] rfl _
 | n+1,p=>by
  have ih:=q56 g lf x1 n;refine(qbh (qaq 20 _) qzf qxv 5 [n+1] [n] rfl _).trans ((zgr g (Az16 g lf) lf x1 n p).trans ?_);rw[(show (fun q=>Az16 g lf 5 [n] (qhv x1 q))=(fun q=>qj2 lf x1 n q) from funext ih)];rfl
def Fz16(lf:Nat)(x1:Int):Option qc0:=qs3 lf x1 (fun q=>qj2 lf x1 lf q)
theorem zm3(g:gz16)(lf:Nat)(x1:Int):Ez16 g (Az16 g lf) lf x1=Fz16 lf x1:=by
  refine(zcm g (Az16 g lf) lf x1).trans ?_;rw[(show (fun q=>Az16 g lf 5 [lf] (qhv x1 q))=(fun q=>qj2 lf x1 lf q) from funext fun q=>q56 g lf x1 lf q)];rfl
theorem zaa:qa4 Try.prog q1f:=trivial
theorem zp5{g:gz16}(hsm:SmOK Try.prog qx2)(hg:∀(x:ElA [(.int .i64)]) (y:qc0),WfA [(.int .i64)] x->g x=some y->∃lf,Fz16 lf x.1=some y):Con Try.prog 64 ⟨[(.int .i64)],[(false,(.list (.int .u8)))],g⟩ :=
 conV (st:=qjd) (fun lf x=>Fz16 lf x.1) cm3 zgb zaa qzf qxv (fun lf x=>zm3 g lf x.1) hsm hg
abbrev qo5:Type:=Int × Unit
abbrev zff:Nat:=65
def q2n(lf:Nat)(x1:DVal):Option qo5:=(cond (ieqI x1.1 (Int.ofNat 3)) (some ((Int.ofNat 0),())) (cond (ieqI x1.1 (Int.ofNat 4)) (some ((IntKind.i64.wrap (Int.add x1.2 (Int.ofNat 1))),())) (some (x1.2,()))))
def qo6(lf:Nat)(x1:DVal):Option qo5:=q2n lf x1
theorem zhr{g:ElA [cVal]->Option qo5}(hsm:SmOK Try.prog [])(hg:∀(x:ElA [cVal]) (y:qo5),WfA [cVal] x->g x=some y->∃lf,qo6 lf x.1=some y):Con Try.prog 65 ⟨[cVal],[(false,(.int .i64))],g⟩ :=
 conU (fi:=fi65) (hxl:=[]) (fun lf x=>qo6 lf x.1) cm3 zk3 trivial hsm hg
def qlc:Nat->Option Nm:=fun k=>cond (Nat.beq k 3) (some ⟨[3,6,7,8],[],[],[],[],0,0,false⟩) (cond (Nat.beq k 999999) (some ⟨[],[],[],[],[],0,0,false⟩) none)
def qkr:Nat->Bool:=fun k=>cond (Nat.beq k 3) true (false)
def qsz:=qkr
abbrev qcc:Type:=((List Int) × Unit) × (Option (List Int)) × Unit
def qtl:List (Nat × Sm):=[]
def qsv:List (Nat × Hx):=[]
def qtg(R:Type)(lf:Nat):ClK R:=qau Try.prog ttT.get ftT.get (fun _ _=>none) (smL qtl) (hxL qsv) lf 20 R
abbrev zpe:Nat:=66
def qhd(x1:(List Int))(p:Int × Int):NRes:=(NRes.mk (.node none (.node none (.node (some (IV.int .i64 p.1)) (.node (some (IV.int .i64 (Int.ofNat x1.length))) .leaf .leaf) .leaf) .leaf) (.node none (.node none (.node (some (IV.int .i64 p.2)) .leaf .leaf) .leaf) (.node (some (IV.arr 0)) .leaf .leaf))) (IS.mk (.node (some (IObj.arr (TC.int .u8) x1)) .leaf .leaf) 1) [] 0)
def qub(lf:Nat)(x1:(List Int))(L3:(Int × Int)->Option qcc):Option qcc:=(L3 ((Int.ofNat 1),(Int.ofNat 0)))
def qor(lf:Nat)(x1:(List Int))(L3:(Int × Int)->Option qcc)(p:Int × Int):Option qcc:=(cond (iltI p.2 (Int.ofNat x1.length)) (match (jget x1 p.2) with|none=>none|some v0=>(match (GetElem?.getElem? x1 (Int.toNat p.2)) with|none=>none|some v1=>(L3 ((Int.tmod (IntKind.i64.wrap (Int.add (IntKind.i64.wrap (Int.mul (Int.ofNat 31) p.1)) (IntKind.i64.wrap v1))) (Int.ofNat 2147483647)),(IntKind.i64.wrap (Int.add p.2 (Int.ofNat 1))))))) (some (((List.cons (IntKind.u8.wrap (Int.fdiv p.1 (Int.ofNat 16777216))) (List.cons (IntKind.u8.wrap (Int.fdiv p.1 (Int.ofNat 65536))) (List.cons (IntKind.u8.wrap (Int.fdiv p.1 (Int.ofNat 256))) [(IntKind.u8.wrap p.1)]))),()),((some x1),()))))
abbrev gz17:Type:=ElP [.ref (.sl (.int .u8))]->Option qcc
abbrev sz17(g:gz17):SmR:=⟨[.ref (.sl (.int .u8))],[(true,(.int .u8))],g⟩
abbrev Ez17(g:gz17)(J:JT qcc)(lf:Nat)(x1:(List Int)):=qbl Try.prog ttT.get qlc (mP [.ref (.sl (.int .u8))]) fi66.nt (qtg _ lf) lf qkr J fi66.body [] (qao (qag [.ref (.sl (.int .u8))] idN 0 (some x1,())) 0 .leaf) (Sc [.ref (.sl (.int .u8))] (some x1,())) [] (qce ttT.get fi66 (sz17 g))
abbrev Bz17(g:gz17)(J:JT qcc)(lf k:Nat)(ms:List Nat)(q:NRes):=qba Try.prog ttT.get qlc (mP [.ref (.sl (.int .u8))]) fi66.nt (qtg _ lf) lf qkr J k fi66.body [] ms q (qce ttT.get fi66 (sz17 g))
theorem zfj(g:gz17)(J:JT qcc)(lf:Nat)(x1:(List Int)):Ez17 g J lf x1=qub lf x1 (fun q=>J 3 [lf] (qhd x1 q)):=by kernel_rfl
theorem ziv(g:gz17)(J:JT qcc)(lf:Nat)(x1:(List Int))(m1:Nat)(p:Int × Int):Bz17 g J lf 3 [m1] (qhd x1 p)=qor lf x1 (fun q=>J 3 [m1] (qhd x1 q)) p:=by kernel_rfl
theorem q3w:(regs fi66.body).Nodup:=by decide +kernel
theorem qzb:okC qlc qkr qsz fi66.body none=true:=by kernel_rfl
def Az17(g:gz17)(lf:Nat):JT qcc:=atQ Try.prog ttT.get qlc fi66 (sz17 g) (qtg _ lf) lf qsz
def qmh(lf:Nat)(x1:(List Int)):Nat->(Int × Int)->Option qcc:=rounds fun K p=>qor lf x1 K p
theorem q6r(g:gz17)(lf:Nat)(x1:(List Int)):∀(n:Nat) (p:Int × Int),Az17 g lf 3 [n] (qhd x1 p)=qmh lf x1 n p
 | 0,p=>qvl 3 [0] rfl _
 | n+1,p=>by
  have ih:=q6r g lf x1 n;refine(qrc rfl (qaq 20 _) q3w qzb 3 [n+1] [n] rfl _).trans ((ziv g (Az17 g lf) lf x1 n p).trans ?_);rw[(show (fun q=>Az17 g lf 3 [n] (qhd x1 q))=(fun q=>qmh lf x1 n q) from funext ih)];rfl
def Fz17(lf:Nat)(x1:(List Int)):Option qcc:=qub lf x1 (fun q=>qmh lf x1 lf q)
theorem zii(g:gz17)(lf:Nat)(x1:(List Int)):Ez17 g (Az17 g lf) lf x1=Fz17 lf x1:=by
  refine(zfj g (Az17 g lf) lf x1).trans ?_;rw[(show (fun q=>Az17 g lf 3 [lf] (qhd x1 q))=(fun q=>qmh lf x1 lf q) from funext fun q=>q6r g lf x1 lf q)];rfl
theorem zo8:qa4 Try.prog qsv:=trivial
theorem zib{g:gz17}(hsm:SmOK Try.prog qtl)(h0:∀(x:ElP [.ref (.sl (.int .u8))]) (y:qcc),g x=some y->∃(x1:(List Int)),x=(some x1,()))(hg:∀(x1:(List Int)) (y:qcc),WfP [.ref (.sl (.int .u8))] (some x1,())->g (some x1,())=some y->∃lf,Fz17 lf x1=some y):ConR Try.prog 66 ⟨[.ref (.sl (.int .u8))],[(true,(.int .u8))],g⟩ :=
 conTR (nmf:=qlc) (sml:=qtl) (hxl:=qsv) (st:=qkr) (hd:=qsz) 20 qcl ttOK ftOK hsm zo8 qyr (by kernel_rfl) (fun x=>by kernel_rfl) q3w qzb fun x y z hx hy=>by
  obtain⟨x1,rfl⟩:=h0 x (y,z) hy;obtain⟨lf,h⟩:=hg x1 (y,z) hx hy;exact⟨lf,(zii g lf x1).trans h⟩
theorem w64{n:Int}(h1:-4611686018427387904<=n)(h2:n<=4611686018427387904):IntKind.i64.wrap n=n:=(qdm _ _).2 ⟨by show (-9223372036854775808:Int)<=n;omega,by show n<=(9223372036854775807:Int);omega⟩
theorem wu64{n:Int}(h1:0<=n)(h2:n<=4611686018427387904):IntKind.u64.wrap n=n:=(qdm _ _).2 ⟨by show (0:Int)<=n;omega,by show n<=(18446744073709551615:Int);omega⟩
theorem w8(n:Int):IntKind.u8.wrap n=n % 256:=rfl
theorem zkm:∀k:Fin 256,(k.val ||| 128) % 256=128+k.val % 128:=by decide +kernel
theorem qei{m k:Nat}(h:m+k<=140737488355328):Nat.ble (Nat.mul (Nat.add m k) 1) 140737488355328=true:=jby (by show (m+k)*1<=_;omega)
theorem zpb{u:Int}(h:0<=u):Int.ofNat (Nat.mod (Nat.lor (Int.toNat (Int.emod (IntKind.u8.wrap u) (Int.ofNat 256))) 128) 256)=128+u % 128:=by
 have e:Int.emod (IntKind.u8.wrap u) (Int.ofNat 256)=u % 256:=by rw[w8];show (u % 256) % 256=_;omega
 rw[e];have hk:(u % 256).toNat<256:=by omega
 have:=zkm ⟨(u % 256).toNat,hk⟩;show (((((u % 256).toNat ||| 128) % 256:Nat)):Int)=_;simp only at this;rw[this];omega
theorem qu1{f:Nat}{u:Int}(h:u<128):S.numU f u=[u]:=by cases f with|zero=>rfl|succ f=>simp only[S.numU,jaq h]
theorem qr0{f:Nat}{u:Int}(h:¬u<128):S.numU (f+1) u=(128+u % 128)::S.numU f (u / 128):=by simp only[S.numU,jal h]
theorem qz5:∀(f:Nat) (u:Int),(S.numU f u).length<=f+1
 | 0,u=>by simp[S.numU]
 | f+1,u=>by
  have:=qz5 f (u / 128);by_cases h:u<128
  ·rw[qu1 h];simp
  ·rw[qr0 h];simp only[jbg];omega
theorem qfs(n:Int):(S.num n).length<=11:=qz5 10 _
theorem q2z{u:Int}{f:Nat}(h:u<128 ^ (f+1+1)):u / 128<128 ^ (f+1):=by
 rw[jex] at h;generalize (128:Int) ^ (f+1)=q at h ⊢;omega
theorem qtp(x1:Int):∀(f n:Nat) (u:Int) (out:List Int),0<=u->u<128 ^ (f+1)->f<n->out.length+f<=1000 ->
  rounds (fun K p=>qfd LF x1 K p) n (u,out)=some (out++S.numU f u,())
 | f,0,u,out,h0,h1,hn,hl=>by omega
 | f,n+1,u,out,h0,h1,hn,hl=>by
  have ih:=fun f'=>qtp x1 f' n (Int.fdiv u (Int.ofNat 128));show qfd LF x1 (rounds (fun K p=>qfd LF x1 K p) n) (u,out)=_;generalize rounds (fun K p=>qfd LF x1 K p) n=Z at ih ⊢;have hb:Nat.ble (Nat.mul (Nat.add out.length 1) 1) 140737488355328=true:=qei (by omega);have hd:Int.fdiv u (Int.ofNat 128)=u / 128:=jb5 u (by show (0:Int)<=128;omega);by_cases hu:u<128
  ·have h2:iltI u (Int.ofNat 128)=true:=by rw[qam];exact jak hu
   have h3:IntKind.u8.wrap u=u:=by rw[w8];omega
   simp only[qfd,h2,jbf,jae,hb,jaa,h3,qu1 hu];rfl
  ·have h2:iltI u (Int.ofNat 128)=false:=by rw[qam];exact jai hu
   cases f with
   | zero=>exact absurd (by simpa using h1) hu
   | succ f =>
    have:=ih f (out++[128+u % 128]) (by rw[hd];omega) (by rw[hd];exact q2z h1) (by omega) (by simp;omega);simp only[qfd,h2,ja9,jaa,hb,zpb h0];refine jd3 this ?_;rw[hd,qr0 hu,jbo];rfl
theorem zg0{n:Int}(h:S.numOK n=true):Fz16 LF n=some (S.num n,()):=by
 unfold S.numOK at h;simp only[jah,ja8] at h;obtain⟨h1,h2⟩:=h;have e1:Int.sub (IntKind.i64.wrap (Int.mul (Int.negSucc 1) n)) (Int.ofNat 1)=-2*n-1:=by
  rw[show Int.mul (Int.negSucc 1) n=-2*n from rfl,w64 (by omega) (by omega)];rfl
 have e2:Int.mul (Int.ofNat 2) n=2*n:=rfl;simp only[Fz16,qs3,qj2,e1,e2];by_cases hn:n<0
 ·have h3:iltI n (Int.ofNat 0)=true:=by rw[qam];exact jak hn
  rw[h3,jaa,w64 (n:=-2*n-1) (by omega) (by omega),wu64 (by omega) (by omega),qtp n 10 LF _ [] (by omega) (by omega) (by unfold LF;omega) (by simp)];simp only[S.num,jaq hn,jc7]
 ·have h3:iltI n (Int.ofNat 0)=false:=by rw[qam];exact jai hn
  rw[h3,jae,w64 (n:=2*n) (by omega) (by omega),wu64 (by omega) (by omega),qtp n 10 LF _ [] (by omega) (by omega) (by unfold LF;omega) (by simp)];simp only[S.num,jal hn,jc7]
theorem zqd:Con Try.prog znx q2m:=zp5 trivial fun x y hx h=>⟨LF,by
 obtain⟨n,_⟩:=x;have h:cond (S.numOK n) (some (S.num n,())) none=some y:=h;cases hk:S.numOK n with
 | false=>rw[hk] at h;cases h
 | true=>rw[hk] at h;exact(zg0 hk).trans h⟩
theorem zc9(lf:Nat)(v:Int × Int):qo6 lf v=some (S.code v,()):=by
 simp only[qo6,q2n,qaw,S.code];by_cases h3:v.1=3
 ·rw[jak (show v.1=Int.ofNat 3 from h3),jaq h3];rfl
 ·rw[jai (show ¬v.1=Int.ofNat 3 from h3),jal h3];by_cases h4:v.1=4
  ·rw[jak (show v.1=Int.ofNat 4 from h4),jaq h4];rfl
  ·rw[jai (show ¬v.1=Int.ofNat 4 from h4),jal h4];rfl
theorem zby:Con Try.prog zff q3u:=zhr trivial fun x y hx h=>⟨LF,(zc9 LF x.1).trans h⟩
theorem q9p(b:List Int)(hl:b.length<LF):Fz14 LF b=some (S.sumI b,()):=by
 simp only[Fz14,qup,qlu];refine range0 (α:=Int) (σ:=Int) (R:=qcu) b (fun i s=>(s,i)) (fun _ _=>True) (fun rest i s=>some (rest.foldl S.sumStep s,())) hl (fun K s hI=>?_) (fun K i v rest s hI r hk=>?_) 1 trivial
 ·simp only[qod,qbd,jae];rfl
 ·simp only[qod,r.ilt,jaa,r.get,r.next];exact hk _ trivial
theorem q9i:Con Try.prog zfu q06:=zex trivial fun x y hx h=>⟨LF,(q9p _ (qbx hx.1)).trans h⟩
theorem zow(b:List Int)(hl:b.length<LF):Fz17 LF b=some ((S.sum4 b,()),(some b,())):=by
 simp only[Fz17,qub,qmh];refine range0 (α:=Int) (σ:=Int) (R:=qcc) b (fun i s=>(s,i)) (fun _ _=>True) (fun rest i s=>some ((S.sum4I (rest.foldl S.sumStep s),()),(some b,()))) hl (fun K s hI=>?_) (fun K i v rest s hI r hk=>?_) 1 trivial
 ·simp only[qor,qbd,jae];rfl
 ·have e1:Int.toNat (Int.ofNat i)=i:=rfl;simp only[qor,r.ilt,jaa,r.get,e1,r.get?,r.next];exact hk _ trivial
theorem zj1:ConR Try.prog zpe qpz:=zib trivial (fun x y h=>by
 match x,h with
 | (some b,()),_=>exact⟨b,rfl⟩
 | (none,()),h=>cases h) fun b y hx h=>⟨LF,(zow b (by
  have h1:List.length (α:=Int) b*1<=140737488355328:=hx.1.1;unfold LF;omega)).trans h⟩
theorem qi0{s v:Int}(h1:0<=s)(h2:s<2147483647)(h3:0<=v)(h4:v<256):0<=S.sumStep s v/\S.sumStep s v<2147483647:=by
 have e:Int.mul (Int.ofNat 31) s=31*s:=rfl;have e2:Int.add (31*s) v=31*s+v:=rfl;unfold S.sumStep;rw[e,w64 (n:=31*s) (by omega) (by omega),w64 (n:=v) (by omega) (by omega),e2,w64 (n:=31*s+v) (by omega) (by omega),jb6 (by omega)];show 0<=(31*s+v) % 2147483647/\(31*s+v) % 2147483647<2147483647;omega
theorem qk7:∀(b:List Int) (s:Int),(∀v∈b,0<=v/\v<256)->0<=s->s<2147483647->0<=b.foldl S.sumStep s/\b.foldl S.sumStep s<2147483647
 | [],s,_,h1,h2=>⟨h1,h2⟩
 | v::b,s,hb,h1,h2=>by
  obtain⟨g1,g2⟩:=hb v (jbh ..);obtain⟨k1,k2⟩:=qi0 h1 h2 g1 g2;exact qk7 b _ (fun w hw=>hb w (ja7 _ hw)) k1 k2
theorem zor(lf:Nat)(b:List Int)(hl:b.length+100<=140737488355328)(hb:∀v∈b,0<=v/\v<256):qnn lf b=some (List.append b (S.sum4 b),()):=by
 obtain⟨h1,h2⟩:=qk7 b 1 hb (by omega) (by omega);have r1:Nat.ble (Nat.mul (Nat.add 0 b.length) 1) 140737488355328=true:=qei (by omega);have r2:Nat.ble (Nat.mul (Nat.add b.length 4) 1) 140737488355328=true:=qei (by omega);have ha:List.append ([]:List Int) b=b:=rfl;simp only[qnn,qz1,ha,r1,r2,jaa];have hs:S.sum4 b=S.sum4I (b.foldl S.sumStep 1):=rfl;have hi:S.sumI b=b.foldl S.sumStep 1:=rfl;rw[hs,hi];generalize b.foldl S.sumStep 1=s at h1 h2;have t1:Int.tdiv s (Int.ofNat 16777216)=s / 16777216:=jdx h1;have t2:Int.tdiv s (Int.ofNat 65536)=s / 65536:=jdx h1;have t3:Int.tdiv s (Int.ofNat 256)=s / 256:=jdx h1;have f1:Int.fdiv s (Int.ofNat 16777216)=s / 16777216:=jb5 s (by show (0:Int)<=16777216;omega);have f2:Int.fdiv s (Int.ofNat 65536)=s / 65536:=jb5 s (by show (0:Int)<=65536;omega);have f3:Int.fdiv s (Int.ofNat 256)=s / 256:=jb5 s (by show (0:Int)<=256;omega);have m2:Int.tmod (s / 65536) (Int.ofNat 256)=s / 65536 % 256:=jb6 (by omega);have m3:Int.tmod (s / 256) (Int.ofNat 256)=s / 256 % 256:=jb6 (by omega);have m4:Int.tmod s (Int.ofNat 256)=s % 256:=jb6 h1;rw[t1,t2,t3,w64 (n:=s / 16777216) (by omega) (by omega),w64 (n:=s / 65536) (by omega) (by omega),w64 (n:=s / 256) (by omega) (by omega),m2,m3,m4];unfold S.sum4I;rw[f1,f2,f3];simp only[w8];have q2:s / 65536 % 256 % 256=s / 65536 % 256:=by omega
 have q3:s / 256 % 256 % 256=s / 256 % 256:=by omega
 have q4:s % 256 % 256=s % 256:=by omega
 rw[q2,q3,q4]
theorem zbx:Con Try.prog zic q0i:=zm4 ⟨q9i,trivial⟩ fun x y hx h=>⟨LF,by
 obtain⟨b,_⟩:=x;have h:cond (Nat.ble (List.length (α:=Int) b+100) 140737488355328) (some (List.append (α:=Int) b (S.sum4 b),())) none=some y:=h;cases hk:Nat.ble (List.length (α:=Int) b+100) 140737488355328 with
 | false=>rw[hk] at h;cases h
 | true =>
  rw[hk] at h;refine(zor LF b (jam hk) fun v hv=>?_).trans h;have h8:IntKind.u8.wrap v=v:=(hx.1:_/\_).2 v hv;rw[w8] at h8;omega⟩
def q3r:Sm:=⟨[.list (.int .u8)],[(false,.list (.int .u8))],fun x=>some (S.sum4 x.1,())⟩
theorem zps(b:List Int)(hl:b.length<LF):Fz12 LF b=some (S.sum4 b,()):=by
 simp only[Fz12,qte,qly];refine range0 (α:=Int) (σ:=Int) (R:=qch) b (fun i s=>(s,i)) (fun _ _=>True) (fun rest i s=>some (S.sum4I (rest.foldl S.sumStep s),())) hl (fun K s hI=>?_) (fun K i v rest s hI r hk=>?_) 1 trivial
 ·simp only[qov,qbd,jae];rfl
 ·simp only[qov,r.ilt,jaa,r.get,r.next];exact hk _ trivial
theorem zpz:Con Try.prog zdr q3r:=zjb trivial fun x y hx h=>⟨LF,(zps x.1 (qbx hx.1)).trans h⟩
def S.eqB:List Int->List Int->Bool
 | [],[]=>true
 | a::x,b::y=>ieqI a b&&S.eqB x y
 | _,_=>false
theorem qjo:∀{a b:List Int},S.eqB a b=true↔a=b
 | [],[]=>by simp[S.eqB]
 | [],_::_=>by simp[S.eqB]
 | _::_,[]=>by simp[S.eqB]
 | a::x,b::y=>by simp[S.eqB,qaw,qjo (a:=x) (b:=y)]
def qtk:Sm:=⟨[.list (.int .u8),.list (.int .u8)],[(false,.bool)],fun x=>some (S.eqB x.1 x.2.1,())⟩
theorem zag(a b:List Int)(ha:a.length<LF):Fz13 LF a b=some (S.eqB a b,()):=by
 simp only[Fz13,qs7];by_cases hl:a.length=b.length
 ·have h1:ieqI (Int.ofNat a.length) (Int.ofNat b.length)=true:=by rw[qaw];exact jak (by rw[hl])
  simp only[h1,jbf,jae];refine(qc6 (R:=qcp) a (fun rest i=>some (S.eqB rest (b.drop i),())) ha (fun K=>?_) (fun K i v rest r hk=>?_)).trans ?_
  ·simp only[qqn,qbd,jae];rw[hl,jd2];rfl
  ·have hi:i<b.length:=by rw[<- hl];exact r.lt
   have hj:jget b (Int.ofNat i)=some b[i]:=by rw[qc9];exact jac hi
   have hd:b.drop i=b[i]::b.drop (i+1):=jbv hi;simp only[qqn,r.ilt,jaa,r.get,hj,r.next];rw[hd];show (cond (Bool.not (ieqI v b[i])) (some (false,())) (K (Int.ofNat (i+1))))=some (ieqI v b[i]&&S.eqB rest (b.drop (i+1)),());cases ieqI v b[i] with
   | false=>rfl
   | true=>exact hk
  ·rw[jcv]
 ·have h1:ieqI (Int.ofNat a.length) (Int.ofNat b.length)=false:=by rw[qaw];exact jai (fun e=>hl (jen e))
  simp only[h1,ja9,jaa];have:S.eqB a b=false:=by
   cases he:S.eqB a b with
   | false=>rfl
   | true=>exact absurd (by rw[qjo.1 he]) hl
  rw[this]
theorem q0h:Con Try.prog zcf qtk:=zht trivial fun x y hx h=>⟨LF,by
 obtain⟨a,b,_⟩:=x;exact(zag a b (qbx hx.1)).trans h⟩
end Go.Proofs.Ytcnhjofpmpipfaa
end

section
namespace Go.Jx
open Go Go.Sx Go.RowKit
universe u

def panV(pt:Nat)(pc:List TC)(x:ElA pc):IV:=.iface pt (.agg (argV pc x))
def rdA:(cs:List TC)->List IV->Option (ElA cs)
 | [],[]=>some ()
 | .int k::cs,.int k' n::vs=>cond (kbeq k k') (match rdA cs vs with
  | some x=>some (n,x)
  | none=>none) none
 | .bool::cs,.bool b::vs=>match rdA cs vs with
  | some x=>some (b,x)
  | none=>none
 | .str::cs,.str s::vs=>match rdA cs vs with
  | some x=>some (s,x)
  | none=>none
 | _,_=>none
theorem qna:∀(cs:List TC) {vs:List IV} {x:ElA cs},rdA cs vs=some x->vs=argV cs x/\vs.all qf2=true
 | [],vs,x,h=>by
  cases vs with
  | nil=>exact⟨rfl,rfl⟩
  | cons v vs=>simp [rdA] at h
 | .int k::cs,vs,x,h=>by
  cases vs with
  | nil=>simp [rdA] at h
  | cons v vs =>
  cases v<;>try (simp [rdA] at h;done)
  rename_i k' n;simp only[rdA] at h;cases hk:kbeq k k' with
  | false=>rw[hk] at h;cases h
  | true =>
  rw[hk,jaa] at h;split at h<;>cases h;rename_i y hy;obtain⟨e1,e2⟩:=qna cs hy;rw[<- qfp hk];exact⟨by show _=IV.int k n::argV cs y;rw[e1],by simp only[jch,e2,qf2,jcz]⟩
 | .bool::cs,vs,x,h=>by
  cases vs with
  | nil=>simp [rdA] at h
  | cons v vs =>
  cases v<;>try (simp [rdA] at h;done)
  rename_i b;simp only[rdA] at h;split at h<;>cases h;rename_i y hy;obtain⟨e1,e2⟩:=qna cs hy;exact⟨by show _=IV.bool b::argV cs y;rw[e1],by simp only[jch,e2,qf2,jcz]⟩
 | .str::cs,vs,x,h=>by
  cases vs with
  | nil=>simp [rdA] at h
  | cons v vs =>
  cases v<;>try (simp [rdA] at h;done)
  rename_i s;simp only[rdA] at h;split at h<;>cases h;rename_i y hy;obtain⟨e1,e2⟩:=qna cs hy;exact⟨by show _=IV.str s::argV cs y;rw[e1],by simp only[jch,e2,qf2,jcz]⟩
 | .list c::cs,vs,x,h=>by cases vs with
  | nil=>simp [rdA] at h
  | cons v vs=>cases v<;>simp [rdA] at h
 | .two a b::cs,vs,x,h=>by cases vs with
  | nil=>simp [rdA] at h
  | cons v vs=>cases v<;>simp [rdA] at h
def qvi(pt:Nat)(pc:List TC):IV->Option (ElA pc)
 | .iface t (.agg cs)=>cond (Nat.beq t pt) (rdA pc cs) none
 | _=>none
theorem zgo{pt:Nat}{pc:List TC}{v:IV}{x:ElA pc}(h:qvi pt pc v=some x):v=panV pt pc x/\qbo v=true:=by
 unfold qvi at h;split at h<;>try cases h
 rename_i t cs;cases hb:Nat.beq t pt with
 | false=>rw[hb] at h;cases h
 | true =>
 rw[hb,jaa] at h;obtain⟨e1,e2⟩:=qna pc h;unfold panV;rw[<- e1,jag hb];exact⟨rfl,e2⟩
structure SmP where
 ps:List PK
 rts:List (Bool × TC)
 pt:Nat
 pc:List TC
 f:ElP ps->Option (ElA pc ⊕ (ElR rts × ElP (refs ps)))
def SmP.r(s:SmP):SmR:=⟨s.ps,s.rts,fun x=>match s.f x with
 | some (.inr y)=>some y
 | _=>none⟩
def full(n:Nat):Nat:=2 ^ n-1
theorem q90{n id:Nat}(h:id<n):(full n).testBit id=true:=by unfold full;rw[jc8];simpa using h
def PanB(E:Env)(S:IS)(v:IV):Ending->World->Prop:=fun e w'=>∃u,e=.panicked [{ v:=u,recovered:=false }]/\VR (E.at_ w') v u/\qbo v=true/\Post T0 E S (E.at_ w') (kill (full S.next) S)
def RetO(s:SmP)(E:Env)(x:ElP s.ps)(o:ElA s.pc ⊕ (ElR s.rts × ElP (refs s.ps))):Ending->World->Prop:=match o with
 | .inl p=>PanB E (Sc s.ps x) (panV s.pt s.pc p)
 | .inr (y,z)=>RetB (mP s.ps) T0 E (Sc s.ps x) ⟨vB s.r (mP s.ps) y,ScB s.r y z,0,0⟩
structure ConP (P:Program) (f:Nat) (s:SmP):Prop where
 callable:qah P f
 calls:∀(E:Env) (x:ElP s.ps) (us:List Value) (o:ElA s.pc ⊕ (ElR s.rts × ElP (refs s.ps))),s.f x=some o->Pre T0 E (Sc s.ps x)->VRs E (qag s.ps idN 0 x) us ->
  CallsIn Fence.wide 0 P f us.toArray E.w (RetO s E x o)
theorem ConP.r{P:Program}{f:Nat}{s:SmP}(h:ConP P f s):ConR P f s.r:=by
 refine⟨h.callable,fun E x us y z hf p hv=>?_⟩;have hf:(match s.f x with|some (.inr y)=>some y|_=>none)=some (y,z):=hf;split at hf<;>cases hf;rename_i ho;exact h.calls E x us _ ho p hv

def cpP(s:SmP)(vs:List IV)(S:IS):Option Res :=
 match rdP s.ps S vs with
 | none=>none
 | some (x0,rows,subs,S1,w)=>cond (ndB (rows++subs)) (match fiP s.ps rows subs S1 x0 with
  | none=>none
  | some x=>match s.f x with
   | none=>none
   | some (.inr (y,z))=>some ⟨vB s.r S1.next y,qbs s.r S1.next rows subs y z S1,0,(w ||| qa1 (rows++subs)) ||| cond (Nat.blt 0 rows.length) 0 (2 ^ S1.next)⟩
   | some (.inl q)=>cond (qbo (panV s.pt s.pc q)) (some ⟨.pan (panV s.pt s.pc q),kill (qa1 (rows++subs)) S1,0,(w ||| qa1 (rows++subs)) ||| cond (Nat.blt 0 rows.length) 0 (2 ^ S1.next)⟩) none) none
def cpPK{R:Type}(s:SmP)(vs:List IV)(S:IS)(kk:Res->Option R):Option R :=
 match rdP s.ps S vs with
 | none=>none
 | some (x0,rows,subs,S1,w)=>cond (ndB (rows++subs)) (match fiP s.ps rows subs S1 x0 with
  | none=>none
  | some x=>match s.f x with
   | none=>none
   | some o=>match o with
    | .inr (y,z)=>kk ⟨vB s.r S1.next y,qbs s.r S1.next rows subs y z S1,0,(w ||| qa1 (rows++subs)) ||| cond (Nat.blt 0 rows.length) 0 (2 ^ S1.next)⟩
    | .inl q=>cond (qbo (panV s.pt s.pc q)) (kk ⟨.pan (panV s.pt s.pc q),kill (qa1 (rows++subs)) S1,0,(w ||| qa1 (rows++subs)) ||| cond (Nat.blt 0 rows.length) 0 (2 ^ S1.next)⟩) none) none
theorem zc3{R:Type}(s:SmP)(vs:List IV)(S:IS)(kk:Res->Option R):cpPK s vs S kk=ob (cpP s vs S) kk:=by
 simp only[cpPK,cpP];cases rdP s.ps S vs with
 | none=>rfl
 | some q =>
  obtain⟨x0,rows,subs,S1,w⟩:=q;simp only[qa3];cases fiP s.ps rows subs S1 x0 with
  | none=>rfl
  | some x =>
   simp only;cases s.f x with
   | none=>rfl
   | some o =>
    cases o with
    | inr q=>rfl
    | inl q=>simp only[qa3];rfl
def hxP(s:SmP):Hx:=⟨fun _ vs S=>cpP s vs S,fun _ _ vs S kk=>cpPK s vs S kk,fun _ _ _ _ vs S kk=>zc3 s vs S kk⟩
section
variable {P : Program} {T : TW} {E : Env} {S : IS}
theorem qv3{W:Nat->Prop}{S:IS}{m:Nat}{w':World}(p:Pre T E S)(hW:∀id,W id->T.w id)(hm:∀id,W id->E.A id->m.testBit id=true)(h1:w'.os=E.w.os)(h2:w'.tape=E.w.tape)(h3:w'.output=E.w.output)(h4:E.w.heap.size<=w'.heap.size)
  (h5:∀b,b<E.w.heap.size->(∀id,W id->E.A id->Live E S.H id->E.ρ id≠b)->w'.heap[b]?=E.w.heap[b]?):Post T E S (E.at_ w') (kill m S)/\Fresh E S (E.at_ w') :=
 kill_post (E:=E.at_ w') (H':=fun _=>some .dead) p hW hm ⟨h1,h2,h3,h4,h5,fun id h=>⟨h,rfl,rfl,rfl,rfl⟩,fun id h k=>absurd h k,(fun id _ _ h=>by obtain⟨_,o,h,k⟩:=h;cases h;cases k),fun b h=>Or.inl h,fun b h _=>Or.inl h⟩
theorem ziw{ps:List PK}{vs:List IV}{x0 x:ElP ps}{rows subs:List Nat}{S1:IS}{w:Nat}{us:List Value}(hrd:rdP ps S vs=some (x0,rows,subs,S1,w))(hb1:ndB (rows++subs)=true)(hfi:fiP ps rows subs S1 x0=some x)(p:Pre T E S)(hwr:tin T.w (w ||| qa1 (rows++subs)))(hv:VRs E vs us) :
  ∃E1,E1.w=E.w/\Post T E S E1 S1/\Fresh E S E1/\Pre T0 (renE 0 (rows++subs) E1) (Sc ps x)/\VRs (renE 0 (rows++subs) E1) (qag ps idN 0 x) us/\(∀k,k<(rows++subs).length->Live (renE 0 (rows++subs) E1) (Sc ps x).H k->Live E1 S1.H (ol 0 (rows++subs) k))/\(∀id∈rows++subs,T.w id/\E1.A id):=by
 obtain⟨g1,g2⟩:=qaj hwr;obtain⟨E1,e1,q1,f1,l1,l2,A2,b2,b3,hok⟩:=qlj ps hrd p g1 hv;have p1:=q1.pre p;obtain⟨_,c2,c3⟩:=qdh ps hfi l2;have hnd:=qg6 hb1;have hT:=qp7 g2;generalize hq:rows++subs=q at hnd hT;have hql:q.length=mP ps+nP ps:=by rw[<- hq,jao,l1,l2]
 have hnq:Nums (ol 0 q) 0 q:=fun j id hj=>by
  rw[ja1];unfold ol;rw[jal (by omega),jc4,jaj,hj];rfl
 have hnr:Nums (ol 0 q) 0 rows:=by rw[<- hq] at hnq ⊢;exact hnq.fst
 have hns:Nums (ol 0 q) (mP ps) subs:=by
  have:=hnq;rw[<- hq] at this;have:=this.snd
  rwa [ja1,l1,hq] at this
 have hTr:∀id∈rows,T.r id:=fun id hid=>T.sub _ (hT id (by rw[<- hq];exact jbx _ hid));have hrows:=qoa hfi l2 p1 hTr (b3 _ _ hns (.inr hnr));have hrk:∀k,k<mP ps->rows[k]?=some (ol 0 q k):=fun k hk=>by
  have h1:k<rows.length:=by omega
  rw[jac h1,<- hnr k _ (jac h1),ja1]
 have hsk:∀k,mP ps<=k->k<q.length->subs[k-mP ps]?=some (ol 0 q k):=fun k h1 h2=>by
  have h3:k-mP ps<subs.length:=by omega
  rw[jac h3,<- hns _ _ (jac h3),jer h1]
 have hrowA:∀k,k<mP ps->∃r nj xj,(∀ι,(qak ps ι (mP ps) x)[k]?=some (objK r ι nj xj))/\mP ps<=nj/\nj+nK r<=q.length/\E1.A (ol 0 q k)/\((objK r (ol 0 q) nj xj).blk=true->E1.hb (ol 0 q k)=true)/\OR E1 (ol 0 q k) (objK r (ol 0 q) nj xj)/\((objK r (ol 0 q) nj xj).live=true->∃o0,S1.H (ol 0 q k)=some o0/\o0.live=true)/\∀k'∈isK r,k'<mP ps:=fun k hk=>by
  have h1:k<(qak ps (ol 0 q) (mP ps) x).length:=by rw[qas];exact hk
  obtain⟨r,nj,xj,d1,d2,d3,d4,d5⟩:=qet ps (ol 0 q) (mP ps) x k _ (jac h1);obtain⟨id,i1,i2,i3,i4,i5⟩:=hrows k _ (d4 (ol 0 q));rw[hrk k hk] at i1;cases i1;exact⟨r,nj,xj,d4,d2,by omega,i2,i3,i4,i5,d5 _ hok⟩
 have hA:∀id∈q,E1.A id:=fun id hid=>by
  rw[<- hq] at hid;rcases jbb.1 hid with hid|hid
  ·obtain⟨k,hk,rfl⟩:=jbs.1 hid;obtain⟨_,_,_,_,_,_,i2,_,_⟩:=hrowA k (by omega);have:=hrk k (by omega);rw[jac hk,jax] at this;rw[this];exact i2
  ·exact A2 id hid
 have hnum:∀k,k<q.length->qb3 E1 (renE 0 q E1) (ol 0 q k) k:=fun k hk hA=>⟨⟨by omega,hA⟩,rfl,rfl,rfl,rfl⟩;have hobj:∀k o,k<q.length->E1.A (ol 0 q k)->(Sc ps x).H k=some o->ObjTo E1 S1 (renE 0 q E1) (ol 0 q k) k o:=fun k o hk hAk ho=>by
  unfold Sc at ho;rw[qe6] at ho;by_cases hkm:k<mP ps
  ·rw[jas (by rw[qas];exact hkm)] at ho;obtain⟨r,nj,xj,d1,d2,d3,d4,d5,d6,d7,d8⟩:=hrowA k hkm;rw[d1 idN] at ho;cases ho;exact⟨OR.objK_to (E:=E1) (E':=renE 0 q E1) (fun _ h=>h) rfl hAk (hnum k hk) (fun j a b=>hnum j (by omega)) (fun j hj=>hnum j (by have:=d8 j hj;omega)) d6,fun hl=>d7 (qjg.trans hl),fun hb=>d5 (qhz.trans hb)⟩
  ·rw[jau (by rw[qas];omega),qas] at ho;have hd:=qot _ _ _ (jbe ho);rw[c3,hsk k (by omega) hk] at ho;have hid:=(qbn hk).1;exact⟨OR.dat_to (E:=E1) (E':=renE 0 q E1) (fun _ h=>h) rfl hAk (hnum k hk) hd (p1.st.objs _ (T.sub _ (hT _ hid)) hAk _ ho),fun hl=>⟨_,ho,hl⟩,fun hbk=>p1.st.blk _ (T.sub _ (hT _ hid)) hAk _ ho hbk⟩
 have hpre:Pre T0 (renE 0 q E1) (Sc ps x):=Pre.re p1 hnd (fun id h=>T.sub _ (hT id h)) (by rw[qfy,hql]) hobj;have hargs:VRs (renE 0 q E1) (qag ps idN 0 x) us:=argsP_env (E:=E1) (E':=renE 0 q E1) (ρ:=ol 0 q) (fun _ h=>h) rfl ps (fun j a b=>hnum j (by omega)) (by rw[c2];exact b2 _ _ hnr);have hsb:∀k,k<q.length->Live (renE 0 q E1) (Sc ps x).H k->Live E1 S1.H (ol 0 q k):=fun k hk ⟨h0,o,h1,h2⟩=>⟨h0,(hobj k o hk (hA _ (qbn hk).1) h1).live h2⟩;exact⟨E1,e1,q1,f1,hpre,hargs,hsb,fun id h=>⟨hT id h,hA id h⟩⟩
theorem zlu{f:Nat}{s:SmP}(hc:ConP P f s){vs:List IV}{x0 x:ElP s.ps}{rows subs:List Nat}{S1:IS}{w:Nat}{us:List Value}{q:ElA s.pc}{r:Res}(hrd:rdP s.ps S vs=some (x0,rows,subs,S1,w))(hb1:ndB (rows++subs)=true)(hfi:fiP s.ps rows subs S1 x0=some x)(hf:s.f x=some (.inl q))
  (hr:r.S=kill (qa1 (rows++subs)) S1) (p:Pre T E S) (hwr:tin T.w (w ||| qa1 (rows++subs))) (hv:VRs E vs us):CallsIn Fence.wide 0 P f us.toArray E.w (RetP T E S r (panV s.pt s.pc q)):=by
 obtain⟨E1,e1,q1,f1,hpre,hargs,hsb,hq⟩:=ziw hrd hb1 hfi p hwr hv;have p1:=q1.pre p;have hcall:=hc.calls _ x us _ hf hpre hargs;rw[show (renE 0 (rows++subs) E1).w=E.w from e1] at hcall;refine hcall.mono fun e w' hR=>?_;obtain⟨u,rfl,k1,kf,k2⟩:=hR;have hs:=k2.stp;obtain⟨z1,z2⟩:=qv3 (W:=fun id=>id∈rows++subs) (m:=qa1 (rows++subs)) (w':=w') p1 (fun id h=>(hq id h).1) (fun id h _=>qml h) hs.os hs.tape hs.output hs.size (fun b hb h=>by
  refine hs.same b hb fun j _ hA hL e=>?_;have hj:j<(rows++subs).length:=by have:=hA.1;omega
  have:=hsb j hj hL;exact h (ol 0 (rows++subs) j) (qbn hj).1 hA.2 this e)
 exact⟨u,E1.at_ w',rfl,rfl,qio kf k1,by rw[hr];exact Post.trans p q1 f1 z1,by exact f1.trans z2 q1.le⟩
theorem zpv{f:Nat}{s:SmP}(hc:ConP P f s){vs:List IV}{r:Res}(h:cpP s vs S=some r){us:List Value}(p:Pre T E S)(hwr:tin T.w r.wr)(hv:VRs E vs us) :
  qah P f/\CallsIn Fence.wide 0 P f us.toArray E.w (RetX T E S r):=by
 refine⟨hc.callable,?_⟩;have h0:=h;unfold cpP at h;split at h
 ·cases h
 rename_i x0 rows subs S1 w hrd;cases hb1:ndB (rows++subs) with
 | false=>rw[hb1] at h;cases h
 | true =>
 rw[hb1,jaa] at h;split at h
 ·cases h
 rename_i x hfi;split at h
 ·cases h
 ·rename_i y z hf;refine(q5y (s:=s.r) hc.r (r:=r) ?_ p hwr hv).2.mono fun _ _=>RetX.of;unfold exR;rw[show rdP s.r.ps S vs=some (x0,rows,subs,S1,w) from hrd];simp only[hb1,jaa];rw[show fiP s.r.ps rows subs S1 x0=some x from hfi];simp only;rw[show s.r.f x=some (y,z) from by show (match s.f x with|some (.inr y)=>some y|_=>none)=_;rw[hf]];exact h
 ·rename_i q hf;cases hfl:qbo (panV s.pt s.pc q) with
  | false=>rw[hfl] at h;cases h
  | true =>
  rw[hfl,jaa] at h;cases h;exact(zlu hc hrd hb1 hfi hf rfl p (qaj hwr).1 hv).mono fun _ _ h=>h
theorem zjg{s:SmP}{vs:List IV}{S:IS}:FrO S (cpP s vs S):=fun r h=>by
 unfold cpP at h;split at h
 ·cases h
 rename_i x0 rows subs S1 w hrd;cases hb:ndB (rows++subs) with
 | false=>rw[hb] at h;cases h
 | true =>
 rw[hb,jaa] at h;split at h
 ·cases h
 have h1:=qmf _ hrd;split at h
 ·cases h
 ·rename_i y z hf;cases h;have h2:=(qpo subs S1).trans ((qmy rows (qak (refs s.ps) (nuB rows (mP s.ps) S1.next) (mP s.ps) z) _).trans (qma (newO s.r y z) _ 0));have h3:=h1.trans h2;rw[jd5,Nat.or_comm (qa1 subs),<- qom] at h3;have h4:=h3.trans (FrX.refl _ (cond (Nat.blt 0 rows.length) 0 (2 ^ S1.next)));exact h4
 ·rename_i q hf;cases hfl:qbo (panV s.pt s.pc q) with
  | false=>rw[hfl] at h;cases h
  | true =>
  rw[hfl,jaa] at h;cases h;have h2:FrX S1 (kill (qa1 (rows++subs)) S1) (qa1 (rows++subs)):=⟨by rw[qle];exact jar _,fun id hid hw=>by rw[qfc,jal (fun h=>by rw[hw] at h;cases h.2)]⟩;exact(h1.trans h2).trans (FrX.refl _ (cond (Nat.blt 0 rows.length) 0 (2 ^ S1.next)))
theorem zad{s:SmP}{vs:List IV}{S:IS}{r:Res}(h:cpP s vs S=some r)(hw:r.wr=0):False:=by
 unfold cpP at h;split at h
 ·cases h
 rename_i x0 rows subs S1 w hrd;cases hb:ndB (rows++subs) with
 | false=>rw[hb] at h;cases h
 | true =>
 rw[hb,jaa] at h;split at h
 ·cases h
 have key:(w ||| qa1 (rows++subs)) ||| cond (Nat.blt 0 rows.length) 0 (2 ^ S1.next)=0->False:=fun hw=>by
  have h2:qa1 (rows++subs)=0:=(or_zero (or_zero hw).1).2;cases rows with
  | nil =>
   have h3:2 ^ S1.next=0:=(or_zero hw).2
   have:=jec (n:=S1.next);omega
  | cons id rows =>
   have:=qml (l:=id::rows++subs) (id:=id) (by simp);rw[h2] at this;simp at this
 split at h
 ·cases h
 ·cases h;exact key hw
 ·cases hfl:qbo _ with
  | false=>rw[hfl] at h;cases h
  | true=>rw[hfl,jaa] at h;cases h;exact key hw
theorem zhq{f:Nat}{s:SmP}(hc:ConP P f s):HxOK P f (hxP s).f :=
 ⟨fun cl _ _ _ vs S r h T E us p _ hw hv=>zpv hc h p hw hv,fun cl _ vs S=>zjg,fun cl _ vs S r h hw _=>(zad h hw).elim⟩
end

def zlx{α β:Type}:Option β->Option (α ⊕ β)
 | none=>none
 | some b=>some (.inr b)
def qbw(tt:Nat->Option TI)(fi:FI)(s:SmP)(r:CRes):Option (ElA s.pc ⊕ (ElR s.rts × ElP (refs s.ps))):=match r.e with
 | .pan q=>match qd5 r.ds r.S with
  | none=>none
  | some _=>match qvi s.pt s.pc q with
   | none=>none
   | some x=>some (.inl x)
 | _=>zlx (qce tt fi s.r r)
section
variable {P : Program} {tt : Nat -> Option TI} {ft : Nat -> Option FI}
theorem zal{fi:FI}{f:Nat}{nm:Nat->Option Nm}{cl:Cl}{lf:Nat}{s:SmP}{x:ElP s.ps}{o:ElA s.pc ⊕ (ElR s.rts × ElP (refs s.ps))}{r1:CRes}(hm:P.follows .mixedOrders=true)(htt:TT P tt)
  (hfi:∃fn,P.funcs[f]?=some fn/\fn.body=some fi.body/\fn.ntmps=fi.nt/\fn.results=fi.res.toArray/\(fn.name == "runtime.NumGoroutine") = false/\qax fi.body=true) (hcl:ClOK P cl) (hfr:ClFr cl)
  (hb:Nat.ble (qag s.ps idN 0 x).length fi.nt=true) (hr1:qad P tt nm (mP s.ps) fi.nt cl lf none fi.body (qao (qag s.ps idN 0 x) 0 .leaf) (Sc s.ps x) []=some r1) (h:qbw tt fi s r1=some o)
  {E:Env} {us:List Value} (p:Pre T0 E (Sc s.ps x)) (hv:VRs E (qag s.ps idN 0 x) us) :
  CallsIn Fence.wide 0 P f us.toArray E.w (RetO s E x o):=by
 unfold qbw at h;split at h
 ·rename_i q he;split at h
  ·cases h
  rename_i mk hmk;obtain⟨S',wr⟩:=mk;split at h<;>cases h;rename_i px hpx;obtain⟨e1,e2⟩:=zgo hpx;obtain⟨fn,f1,f2,f3,f4,f5,f6⟩:=hfi;refine jd6 f1 f2 trivial ?_;refine qe3 (T:=T0) (E:=E) (S:=Sc s.ps x) (ds:=[]) (round:=none) (B:=mP s.ps) (fun _ _=>trivial) hm rfl hcl hfr htt fi.body f6 p (by rw[qfy];omega) (fun _ _=>trivial) ?_ (DS.nil (N:=E.w.heap.size) (jar _)) (fun _=>rfl) hr1 (fun _ _=>trivial) (fun _ _=>trivial) ?_
  ·have:=FR.enter (nt:=fi.nt) hv (jam hb);rw[f3];exact this
  intro E1 a1 x1 k0 k1 k2 kB;rw[he] at k0;obtain⟨u,rfl,k0⟩:=k0;have p1:=kB.pre (fun _ _=>trivial) p;have hlv:LeavesInM Fence.wide 0 P fn a1.tmps (PanB E (Sc s.ps x) q) a1.defers (.panicking [{ v:=u,recovered:=false }]) E1.w:=by
   refine qk8 (E0:=E) (S0':=Sc s.ps x) (B:=mP s.ps) (by simp) (jar _) (fun _ _=>trivial) p1 k2 kB hmk (fun _ _=>trivial) fun E2 hq p2 hv2=>?_;obtain⟨z1,z2⟩:=qv3 (T:=T0) (W:=fun _=>True) (m:=full (Sc s.ps x).next) (w':=E2.w) p (fun _ _=>trivial) (fun id _ hA=>q90 (p.bnd id hA)) hq.os hq.tape hq.output hq.size (fun b hb h=>hq.same b hb fun id ht hA hL=>h id trivial hA hL);exact⟨u,rfl,qio e2 (hv2 _ _ k0),e2,z1⟩
  rw[e1] at hlv;exact hlv
 ·rename_i hne;cases hq:qce tt fi s.r r1 with
  | none=>rw[hq] at h;cases h
  | some yz =>
   rw[hq] at h;cases h;obtain⟨y,z⟩:=yz;exact q47 (s:=s.r) hm htt hfi hcl hfr hb hr1 hq p hv
def atP(P:Program)(tt:Nat->Option TI)(nm:Nat->Option Nm)(fi:FI)(s:SmP)(clK:ClK (ElA s.pc ⊕ (ElR s.rts × ElP (refs s.ps))))(lf:Nat)(hd:Nat->Bool)(k:Nat)(ns:List Nat)(x:NRes):Option (ElA s.pc ⊕ (ElR s.rts × ElP (refs s.ps))) :=
 atNB P tt nm (mP s.ps) fi.nt fi.body clK lf hd (qbw tt fi s) k ns x
variable {nm : Nat -> Option Nm} {lf : Nat} {st hd : Nat -> Bool} {cl : Cl}
theorem qes(hz:frzF nm=true){fi:FI}{s:SmP}{clK:ClK (ElA s.pc ⊕ (ElR s.rts × ElP (refs s.ps)))}(h:ClEq cl clK)(hn:(regs fi.body).Nodup)(hl:okC nm st hd fi.body none=true)(k:Nat)(ns ns':List Nat)(hd':dn (hd k) ns=some ns')(x:NRes) :
  atP P tt nm fi s clK lf hd k ns x=qba P tt nm (mP s.ps) fi.nt clK lf st (atP P tt nm fi s clK lf hd) k fi.body [] ns' x (qbw tt fi s):=qr2 (q7j hz) h hn hl k ns ns' hd' x
theorem qo3{fi:FI}{s:SmP}{clK:ClK (ElA s.pc ⊕ (ElR s.rts × ElP (refs s.ps)))}(k:Nat)(ns:List Nat)(hd':dn (hd k) ns=none)(x:NRes):atP P tt nm fi s clK lf hd k ns x=none:=qvo k ns hd' x
theorem conTP{sml:List (Nat × Sm)}{hxl:List (Nat × Hx)}{f:Nat}{s:SmP}{fi:FI}{nmf:Nat->Option Nm}{st hd:Nat->Bool}(n:Nat)(hm:P.follows .mixedOrders=true)(htt:TT P tt)(hft:FT P ft)(hsm:SmOK P sml)
  (hhx:qa4 P hxl) (hC:qah P f) (h3:ft f=some fi) (h4:∀x,Nat.ble (qag s.ps idN 0 x).length fi.nt=true) (hn:(regs fi.body).Nodup) (hl:okC nmf st hd fi.body none=true)
  (hrun:∀(x:ElP s.ps) (o:ElA s.pc ⊕ (ElR s.rts × ElP (refs s.ps))),WfP s.ps x->s.f x=some o->∃lf,
   qbl P tt nmf (mP s.ps) fi.nt (qau P tt ft (fun _ _=>none) (smL sml) (hxL hxl) lf n (ElA s.pc ⊕ (ElR s.rts × ElP (refs s.ps)))) lf st
    (atNB P tt nmf (mP s.ps) fi.nt fi.body (qau P tt ft (fun _ _=>none) (smL sml) (hxL hxl) lf n (ElA s.pc ⊕ (ElR s.rts × ElP (refs s.ps)))) lf hd (qbw tt fi s)) fi.body [] (qao (qag s.ps idN 0 x) 0 .leaf) (Sc s.ps x) [] (qbw tt fi s)=some o)
  (hz:frzF nmf=true:=by rfl):ConP P f s:=by
 have hB0:mB nmf (mP s.ps)=0:=by unfold mB;rw[hz];rfl
 have hex:ExOK P (exH (smL sml) (hxL hxl)):=qtz (qn3 hsm) (qqd hhx);refine⟨hC,fun E x us o hy p hv=>?_⟩;obtain⟨lf,hr⟩:=hrun x o (q1m p hv) hy;rw[<- qrr hB0 (qaq n _) hn hl,qd2 (qaq n _)] at hr;cases hr1:qad P tt nmf (mP s.ps) fi.nt (qbz P tt ft (fun _ _=>none) (exH (smL sml) (hxL hxl)) lf n) lf none fi.body (qao (qag s.ps idN 0 x) 0 .leaf) (Sc s.ps x) [] with
 | none=>rw[hr1] at hr;cases hr
 | some r1 =>
  rw[hr1] at hr;exact zal hm htt (hft f fi h3) (qgk hm htt hft hex n) (qfm hex n) (h4 x) hr1 hr p hv
end
end Go.Jx
end

noncomputable section
set_option maxRecDepth 100000
namespace Go.Proofs.Ytcnhjofpmpipfaa
open Go Go.Sx Go.RowKit Go.Jx
def qer:Nat->Option Nm:=fun k=>cond (Nat.beq k 5) (some ⟨[0,1,2,4,5,9,10],[],[],[],[],0,0,false⟩) (cond (Nat.beq k 6) (some ⟨[0,1,2,4,5,9,10],[],[],[],[],0,0,false⟩) (cond (Nat.beq k 11) (some ⟨[0,1,4,9],[],[],[],[],0,0,false⟩) (cond (Nat.beq k 14) (some ⟨[0,1,4,12],[],[],[],[],0,0,false⟩) (cond (Nat.beq k 999999) (some ⟨[],[],[],[],[],0,0,false⟩) none))))
def qez:Nat->Bool:=fun k=>cond (Nat.beq k 5) true (cond (Nat.beq k 6) true (cond (Nat.beq k 11) true (cond (Nat.beq k 14) true (false))))
def qso:Nat->Bool:=fun k=>cond (Nat.beq k 5) true (false)
abbrev qav:Type:=(Int × Unit) ⊕ ((Int × Unit) × (Int × Unit) × (Int × Unit) × Unit × ((List Int) × Unit) × Unit)
def qvu:List (Nat × Sm):=[]
def qri:List (Nat × Hx):=[]
def qgm(R:Type)(lf:Nat):ClK R:=qau Try.prog ttT.get ftT.get (fun _ _=>none) (smL qvu) (hxL qri) lf 20 R
def qfj(x1:Int)(x2:Int)(x3:Int)(x4:Int)(x5:(List Int))(p:Int × Int × Int):NRes:=(NRes.mk (.node (some (IV.int .i64 x1)) (.node (some (IV.int .i64 x2)) .leaf (.node (some (IV.ptr 3 0)) (.node (some (IV.int .u64 p.1)) .leaf .leaf) .leaf)) (.node (some (IV.ptr 0 0)) (.node (some (IV.ptr 2 0)) .leaf .leaf) (.node none (.node (some (IV.int .i64 p.2.1)) .leaf .leaf) .leaf))) (IS.mk (.node (some (IObj.row [(IV.int .i64 p.2.2)])) (.node (some (IObj.row [(IV.int .i64 x3)])) (.node (some (IObj.row [(IV.lst (TC.int .u8) x5)])) .leaf .leaf) .leaf) (.node (some (IObj.row (List.cons (IV.fn 140 [(IV.ptr 1 0)]) []))) .leaf .leaf)) 4) [] 0)
def qqq(x1:Int)(x2:Int)(x3:Int)(x4:Int)(x5:(List Int))(p:Int × Int × Int):NRes:=(NRes.mk (.node (some (IV.int .i64 x1)) (.node (some (IV.int .i64 x2)) .leaf (.node (some (IV.ptr 3 0)) (.node (some (IV.int .u64 p.1)) .leaf .leaf) .leaf)) (.node (some (IV.ptr 0 0)) (.node (some (IV.ptr 2 0)) .leaf .leaf) (.node none (.node (some (IV.int .i64 p.2.1)) .leaf .leaf) .leaf))) (IS.mk (.node (some (IObj.row [(IV.int .i64 p.2.2)])) (.node (some (IObj.row [(IV.int .i64 x3)])) (.node (some (IObj.row [(IV.lst (TC.int .u8) x5)])) .leaf .leaf) .leaf) (.node (some (IObj.row (List.cons (IV.fn 140 [(IV.ptr 1 0)]) []))) .leaf .leaf)) 4) [] 0)
def qne(x1:Int)(x2:Int)(x3:Int)(x4:Int)(x5:(List Int))(p:Int × Int):NRes:=(NRes.mk (.node (some (IV.int .i64 x1)) (.node (some (IV.int .i64 x2)) .leaf (.node none (.node (some (IV.int .u64 p.1)) .leaf .leaf) .leaf)) (.node none (.node (some (IV.ptr 2 0)) .leaf .leaf) .leaf)) (IS.mk (.node (some (IObj.row [(IV.int .i64 p.2)])) (.node (some (IObj.row [(IV.int .i64 x3)])) (.node (some (IObj.row [(IV.lst (TC.int .u8) x5)])) .leaf .leaf) .leaf) (.node (some (IObj.row (List.cons (IV.fn 140 [(IV.ptr 1 0)]) []))) .leaf .leaf)) 4) [] 0)
def qnr(x1:Int)(x2:Int)(x3:Int)(x4:Int)(x5:(List Int))(p:Int × Int):NRes:=(NRes.mk (.node (some (IV.int .i64 x1)) (.node (some (IV.int .i64 x2)) .leaf .leaf) (.node none (.node (some (IV.ptr 2 0)) .leaf (.node (some (IV.int .i64 p.1)) .leaf .leaf)) .leaf)) (IS.mk (.node (some (IObj.row [(IV.int .i64 p.2)])) (.node (some (IObj.row [(IV.int .i64 x3)])) (.node (some (IObj.row [(IV.lst (TC.int .u8) x5)])) .leaf .leaf) .leaf) (.node (some (IObj.row (List.cons (IV.fn 140 [(IV.ptr 1 0)]) []))) .leaf .leaf)) 4) [] 0)
def qum(lf:Nat)(x1:Int)(x2:Int)(x3:Int)(x4:Int)(x5:(List Int))(L5:(Int × Int × Int)->Option qav):Option qav:=(L5 ((Int.ofNat 0),(Int.ofNat 0),x3))
def qgq(lf:Nat)(x1:Int)(x2:Int)(x3:Int)(x4:Int)(x5:(List Int))(L6:(Int × Int × Int)->Option qav)(p:Int × Int × Int):Option qav:=(cond (iltI p.2.2 (Int.ofNat x5.length)) (cond (Bool.not (iltI p.2.1 (Int.ofNat 8))) (some (Sum.inl (x3,()))) (L6 (p.1,p.2.1,p.2.2))) (some (Sum.inl (x3,()))))
def qqz(lf:Nat)(x1:Int)(x2:Int)(x3:Int)(x4:Int)(x5:(List Int))(L11:(Int × Int)->Option qav)(L5:(Int × Int × Int)->Option qav)(p:Int × Int × Int):Option qav:=(match (jget x5 p.2.2) with|none=>none|some v0=>(cond (iltI (IntKind.i64.wrap (Int.mul (Int.ofNat 7) p.2.1)) (Int.ofNat 0)) none (cond (iltI v0 (Int.ofNat 128)) (cond (ieqI p.2.1 (Int.ofNat 0)) (L11 ((ior IntKind.u64 p.1 (ishl IntKind.u64 (IntKind.wrap IntKind.u64 (iand IntKind.u8 v0 (Int.ofNat 127))) (IntKind.i64.wrap (Int.mul (Int.ofNat 7) p.2.1)))),(IntKind.i64.wrap (Int.add p.2.2 (Int.ofNat 1))))) (cond (Bool.not (iltI (Int.ofNat 0) v0)) (some (Sum.inl (x3,()))) (L11 ((ior IntKind.u64 p.1 (ishl IntKind.u64 (IntKind.wrap IntKind.u64 (iand IntKind.u8 v0 (Int.ofNat 127))) (IntKind.i64.wrap (Int.mul (Int.ofNat 7) p.2.1)))),(IntKind.i64.wrap (Int.add p.2.2 (Int.ofNat 1))))))) (L5 ((ior IntKind.u64 p.1 (ishl IntKind.u64 (IntKind.wrap IntKind.u64 (iand IntKind.u8 v0 (Int.ofNat 127))) (IntKind.i64.wrap (Int.mul (Int.ofNat 7) p.2.1)))),(IntKind.i64.wrap (Int.add p.2.1 (Int.ofNat 1))),(IntKind.i64.wrap (Int.add p.2.2 (Int.ofNat 1))))))))
def qun(lf:Nat)(x1:Int)(x2:Int)(x3:Int)(x4:Int)(x5:(List Int))(L14:(Int × Int)->Option qav)(p:Int × Int):Option qav:=(cond (ieqI (iand IntKind.u64 p.1 (Int.ofNat 1)) (Int.ofNat 1)) (L14 ((IntKind.i64.wrap (Int.sub (IntKind.i64.wrap (Int.sub (Int.ofNat 0) (IntKind.i64.wrap (Int.fdiv p.1 (Int.ofNat 2))))) (Int.ofNat 1))),p.2)) (L14 ((IntKind.i64.wrap (Int.fdiv p.1 (Int.ofNat 2))),p.2)))
def qsw(lf:Nat)(x1:Int)(x2:Int)(x3:Int)(x4:Int)(x5:(List Int))(p:Int × Int):Option qav:=(cond (Bool.not (iltI p.1 x1)) (cond (Bool.not (Bool.not (iltI x2 p.1))) (some (Sum.inl (x3,()))) (some (Sum.inr ((p.1,()),((p.2,()),((x3,()),((),((x5,()),())))))))) (some (Sum.inl (x3,()))))
theorem zcr(g:ElP [.dat (.int .i64),.dat (.int .i64),.ref (.box [.dat (.int .i64)]),.ref (.box [.dat (.int .i64)]),.ref (.clo 140 [1]),.ref (.box [.dat (.list (.int .u8))])]->Option qav)(J:Nat->List Nat->NRes->Option qav)(lf:Nat)(x1:Int)(x2:Int)(x3:Int)(x4:Int)(x5:(List Int)):qbl Try.prog ttT.get qer (mP [.dat (.int .i64),.dat (.int .i64),.ref (.box [.dat (.int .i64)]),.ref (.box [.dat (.int .i64)]),.ref (.clo 140 [1]),.ref (.box [.dat (.list (.int .u8))])]) qbm.nt (qgm _ lf) lf qez J qbm.body [] (qao (qag [.dat (.int .i64),.dat (.int .i64),.ref (.box [.dat (.int .i64)]),.ref (.box [.dat (.int .i64)]),.ref (.clo 140 [1]),.ref (.box [.dat (.list (.int .u8))])] idN 0 (x1,x2,(x3,()),(x4,()),(),(x5,()),())) 0 .leaf) (Sc [.dat (.int .i64),.dat (.int .i64),.ref (.box [.dat (.int .i64)]),.ref (.box [.dat (.int .i64)]),.ref (.clo 140 [1]),.ref (.box [.dat (.list (.int .u8))])] (x1,x2,(x3,()),(x4,()),(),(x5,()),())) [] (qbw ttT.get qbm ⟨[.dat (.int .i64),.dat (.int .i64),.ref (.box [.dat (.int .i64)]),.ref (.box [.dat (.int .i64)]),.ref (.clo 140 [1]),.ref (.box [.dat (.list (.int .u8))])],[(false,(.int .i64))],171,[(.int .i64)],g⟩)=qum lf x1 x2 x3 x4 x5 (fun q=>J 5 [lf] (qfj x1 x2 x3 x4 x5 q)):=by kernel_rfl
theorem zpw(g:ElP [.dat (.int .i64),.dat (.int .i64),.ref (.box [.dat (.int .i64)]),.ref (.box [.dat (.int .i64)]),.ref (.clo 140 [1]),.ref (.box [.dat (.list (.int .u8))])]->Option qav)(J:Nat->List Nat->NRes->Option qav)(lf:Nat)(x1:Int)(x2:Int)(x3:Int)(x4:Int)(x5:(List Int))(m1:Nat)(p:Int × Int × Int):qba Try.prog ttT.get qer (mP [.dat (.int .i64),.dat (.int .i64),.ref (.box [.dat (.int .i64)]),.ref (.box [.dat (.int .i64)]),.ref (.clo 140 [1]),.ref (.box [.dat (.list (.int .u8))])]) qbm.nt (qgm _ lf) lf qez J 5 qbm.body [] [m1] (qfj x1 x2 x3 x4 x5 p) (qbw ttT.get qbm ⟨[.dat (.int .i64),.dat (.int .i64),.ref (.box [.dat (.int .i64)]),.ref (.box [.dat (.int .i64)]),.ref (.clo 140 [1]),.ref (.box [.dat (.list (.int .u8))])],[(false,(.int .i64))],171,[(.int .i64)],g⟩)=qgq lf x1 x2 x3 x4 x5 (fun q=>J 6 [m1] (qqq x1 x2 x3 x4 x5 q)) p:=by kernel_rfl
theorem zgt(g:ElP [.dat (.int .i64),.dat (.int .i64),.ref (.box [.dat (.int .i64)]),.ref (.box [.dat (.int .i64)]),.ref (.clo 140 [1]),.ref (.box [.dat (.list (.int .u8))])]->Option qav)(J:Nat->List Nat->NRes->Option qav)(lf:Nat)(x1:Int)(x2:Int)(x3:Int)(x4:Int)(x5:(List Int))(m1:Nat)(p:Int × Int × Int):qba Try.prog ttT.get qer (mP [.dat (.int .i64),.dat (.int .i64),.ref (.box [.dat (.int .i64)]),.ref (.box [.dat (.int .i64)]),.ref (.clo 140 [1]),.ref (.box [.dat (.list (.int .u8))])]) qbm.nt (qgm _ lf) lf qez J 6 qbm.body [] [m1] (qqq x1 x2 x3 x4 x5 p) (qbw ttT.get qbm ⟨[.dat (.int .i64),.dat (.int .i64),.ref (.box [.dat (.int .i64)]),.ref (.box [.dat (.int .i64)]),.ref (.clo 140 [1]),.ref (.box [.dat (.list (.int .u8))])],[(false,(.int .i64))],171,[(.int .i64)],g⟩)=qqz lf x1 x2 x3 x4 x5 (fun q=>J 11 [] (qne x1 x2 x3 x4 x5 q)) (fun q=>J 5 [m1] (qfj x1 x2 x3 x4 x5 q)) p:=by kernel_rfl
theorem zkr(g:ElP [.dat (.int .i64),.dat (.int .i64),.ref (.box [.dat (.int .i64)]),.ref (.box [.dat (.int .i64)]),.ref (.clo 140 [1]),.ref (.box [.dat (.list (.int .u8))])]->Option qav)(J:Nat->List Nat->NRes->Option qav)(lf:Nat)(x1:Int)(x2:Int)(x3:Int)(x4:Int)(x5:(List Int))(p:Int × Int):qba Try.prog ttT.get qer (mP [.dat (.int .i64),.dat (.int .i64),.ref (.box [.dat (.int .i64)]),.ref (.box [.dat (.int .i64)]),.ref (.clo 140 [1]),.ref (.box [.dat (.list (.int .u8))])]) qbm.nt (qgm _ lf) lf qez J 11 qbm.body [] [] (qne x1 x2 x3 x4 x5 p) (qbw ttT.get qbm ⟨[.dat (.int .i64),.dat (.int .i64),.ref (.box [.dat (.int .i64)]),.ref (.box [.dat (.int .i64)]),.ref (.clo 140 [1]),.ref (.box [.dat (.list (.int .u8))])],[(false,(.int .i64))],171,[(.int .i64)],g⟩)=qun lf x1 x2 x3 x4 x5 (fun q=>J 14 [] (qnr x1 x2 x3 x4 x5 q)) p:=by kernel_rfl
theorem zj7(g:ElP [.dat (.int .i64),.dat (.int .i64),.ref (.box [.dat (.int .i64)]),.ref (.box [.dat (.int .i64)]),.ref (.clo 140 [1]),.ref (.box [.dat (.list (.int .u8))])]->Option qav)(J:Nat->List Nat->NRes->Option qav)(lf:Nat)(x1:Int)(x2:Int)(x3:Int)(x4:Int)(x5:(List Int))(p:Int × Int):qba Try.prog ttT.get qer (mP [.dat (.int .i64),.dat (.int .i64),.ref (.box [.dat (.int .i64)]),.ref (.box [.dat (.int .i64)]),.ref (.clo 140 [1]),.ref (.box [.dat (.list (.int .u8))])]) qbm.nt (qgm _ lf) lf qez J 14 qbm.body [] [] (qnr x1 x2 x3 x4 x5 p) (qbw ttT.get qbm ⟨[.dat (.int .i64),.dat (.int .i64),.ref (.box [.dat (.int .i64)]),.ref (.box [.dat (.int .i64)]),.ref (.clo 140 [1]),.ref (.box [.dat (.list (.int .u8))])],[(false,(.int .i64))],171,[(.int .i64)],g⟩)=qsw lf x1 x2 x3 x4 x5 p:=by kernel_rfl
theorem qkx:(regs qbm.body).Nodup:=by decide +kernel
theorem qip:okC qer qez qso qbm.body none=true:=by kernel_rfl
def Az18(g:ElP [.dat (.int .i64),.dat (.int .i64),.ref (.box [.dat (.int .i64)]),.ref (.box [.dat (.int .i64)]),.ref (.clo 140 [1]),.ref (.box [.dat (.list (.int .u8))])]->Option qav)(lf:Nat):Nat->List Nat->NRes->Option qav:=atP Try.prog ttT.get qer qbm ⟨[.dat (.int .i64),.dat (.int .i64),.ref (.box [.dat (.int .i64)]),.ref (.box [.dat (.int .i64)]),.ref (.clo 140 [1]),.ref (.box [.dat (.list (.int .u8))])],[(false,(.int .i64))],171,[(.int .i64)],g⟩ (qgm _ lf) lf qso
def qg1(lf:Nat)(x1:Int)(x2:Int)(x3:Int)(x4:Int)(x5:(List Int))(p:Int × Int):Option qav:=qsw lf x1 x2 x3 x4 x5 p
theorem zn0(g:ElP [.dat (.int .i64),.dat (.int .i64),.ref (.box [.dat (.int .i64)]),.ref (.box [.dat (.int .i64)]),.ref (.clo 140 [1]),.ref (.box [.dat (.list (.int .u8))])]->Option qav)(lf:Nat)(x1:Int)(x2:Int)(x3:Int)(x4:Int)(x5:(List Int))(p:Int × Int):Az18 g lf 14 [] (qnr x1 x2 x3 x4 x5 p)=qg1 lf x1 x2 x3 x4 x5 p:=by
  refine(qes rfl (qaq 20 _) qkx qip 14 [] [] rfl _).trans ((zj7 g (Az18 g lf) lf x1 x2 x3 x4 x5 p).trans ?_);rfl
def qft(lf:Nat)(x1:Int)(x2:Int)(x3:Int)(x4:Int)(x5:(List Int))(p:Int × Int):Option qav:=qun lf x1 x2 x3 x4 x5 (fun q=>qg1 lf x1 x2 x3 x4 x5 q) p
theorem q8d(g:ElP [.dat (.int .i64),.dat (.int .i64),.ref (.box [.dat (.int .i64)]),.ref (.box [.dat (.int .i64)]),.ref (.clo 140 [1]),.ref (.box [.dat (.list (.int .u8))])]->Option qav)(lf:Nat)(x1:Int)(x2:Int)(x3:Int)(x4:Int)(x5:(List Int))(p:Int × Int):Az18 g lf 11 [] (qne x1 x2 x3 x4 x5 p)=qft lf x1 x2 x3 x4 x5 p:=by
  refine(qes rfl (qaq 20 _) qkx qip 11 [] [] rfl _).trans ((zkr g (Az18 g lf) lf x1 x2 x3 x4 x5 p).trans ?_);rw[(show (fun q=>Az18 g lf 14 [] (qnr x1 x2 x3 x4 x5 q))=(fun q=>qg1 lf x1 x2 x3 x4 x5 q) from funext fun q=>zn0 g lf x1 x2 x3 x4 x5 q)];rfl
def qe4(lf:Nat)(x1:Int)(x2:Int)(x3:Int)(x4:Int)(x5:(List Int))(K5:(Int × Int × Int)->Option qav)(p:Int × Int × Int):Option qav:=qqz lf x1 x2 x3 x4 x5 (fun q=>qft lf x1 x2 x3 x4 x5 q) K5 p
theorem q8x(g:ElP [.dat (.int .i64),.dat (.int .i64),.ref (.box [.dat (.int .i64)]),.ref (.box [.dat (.int .i64)]),.ref (.clo 140 [1]),.ref (.box [.dat (.list (.int .u8))])]->Option qav)(lf:Nat)(x1:Int)(x2:Int)(x3:Int)(x4:Int)(x5:(List Int))(m1:Nat)(p:Int × Int × Int):Az18 g lf 6 [m1] (qqq x1 x2 x3 x4 x5 p)=qe4 lf x1 x2 x3 x4 x5 (fun q=>Az18 g lf 5 [m1] (qfj x1 x2 x3 x4 x5 q)) p:=by
  refine(qes rfl (qaq 20 _) qkx qip 6 [m1] [m1] rfl _).trans ((zgt g (Az18 g lf) lf x1 x2 x3 x4 x5 m1 p).trans ?_);rw[(show (fun q=>Az18 g lf 11 [] (qne x1 x2 x3 x4 x5 q))=(fun q=>qft lf x1 x2 x3 x4 x5 q) from funext fun q=>q8d g lf x1 x2 x3 x4 x5 q)];rfl
def qkp(lf:Nat)(x1:Int)(x2:Int)(x3:Int)(x4:Int)(x5:(List Int)):Nat->(Int × Int × Int)->Option qav:=rounds fun K p=>qgq lf x1 x2 x3 x4 x5 (fun q=>qe4 lf x1 x2 x3 x4 x5 K q) p
theorem qzh(g:ElP [.dat (.int .i64),.dat (.int .i64),.ref (.box [.dat (.int .i64)]),.ref (.box [.dat (.int .i64)]),.ref (.clo 140 [1]),.ref (.box [.dat (.list (.int .u8))])]->Option qav)(lf:Nat)(x1:Int)(x2:Int)(x3:Int)(x4:Int)(x5:(List Int)):∀(n:Nat) (p:Int × Int × Int),Az18 g lf 5 [n] (qfj x1 x2 x3 x4 x5 p)=qkp lf x1 x2 x3 x4 x5 n p
 | 0,p=>qo3 5 [0] rfl _
 | n+1,p=>by
  have ih:=qzh g lf x1 x2 x3 x4 x5 n;refine(qes rfl (qaq 20 _) qkx qip 5 [n+1] [n] rfl _).trans ((zpw g (Az18 g lf) lf x1 x2 x3 x4 x5 n p).trans ?_);rw[(show (fun q=>Az18 g lf 6 [n] (qqq x1 x2 x3 x4 x5 q))=(fun q=>qe4 lf x1 x2 x3 x4 x5 (fun q=>Az18 g lf 5 [n] (qfj x1 x2 x3 x4 x5 q)) q) from funext fun q=>q8x g lf x1 x2 x3 x4 x5 n q),(show (fun q=>Az18 g lf 5 [n] (qfj x1 x2 x3 x4 x5 q))=(fun q=>qkp lf x1 x2 x3 x4 x5 n q) from funext ih)];rfl
def Fz18(lf:Nat)(x1:Int)(x2:Int)(x3:Int)(x4:Int)(x5:(List Int)):Option qav:=qum lf x1 x2 x3 x4 x5 (fun q=>qkp lf x1 x2 x3 x4 x5 lf q)
theorem q7t(g:ElP [.dat (.int .i64),.dat (.int .i64),.ref (.box [.dat (.int .i64)]),.ref (.box [.dat (.int .i64)]),.ref (.clo 140 [1]),.ref (.box [.dat (.list (.int .u8))])]->Option qav)(lf:Nat)(x1:Int)(x2:Int)(x3:Int)(x4:Int)(x5:(List Int)):qbl Try.prog ttT.get qer (mP [.dat (.int .i64),.dat (.int .i64),.ref (.box [.dat (.int .i64)]),.ref (.box [.dat (.int .i64)]),.ref (.clo 140 [1]),.ref (.box [.dat (.list (.int .u8))])]) qbm.nt (qgm _ lf) lf qez (Az18 g lf) qbm.body [] (qao (qag [.dat (.int .i64),.dat (.int .i64),.ref (.box [.dat (.int .i64)]),.ref (.box [.dat (.int .i64)]),.ref (.clo 140 [1]),.ref (.box [.dat (.list (.int .u8))])] idN 0 (x1,x2,(x3,()),(x4,()),(),(x5,()),())) 0 .leaf) (Sc [.dat (.int .i64),.dat (.int .i64),.ref (.box [.dat (.int .i64)]),.ref (.box [.dat (.int .i64)]),.ref (.clo 140 [1]),.ref (.box [.dat (.list (.int .u8))])] (x1,x2,(x3,()),(x4,()),(),(x5,()),())) [] (qbw ttT.get qbm ⟨[.dat (.int .i64),.dat (.int .i64),.ref (.box [.dat (.int .i64)]),.ref (.box [.dat (.int .i64)]),.ref (.clo 140 [1]),.ref (.box [.dat (.list (.int .u8))])],[(false,(.int .i64))],171,[(.int .i64)],g⟩)=Fz18 lf x1 x2 x3 x4 x5:=by
  refine(zcr g (Az18 g lf) lf x1 x2 x3 x4 x5).trans ?_;rw[(show (fun q=>Az18 g lf 5 [lf] (qfj x1 x2 x3 x4 x5 q))=(fun q=>qkp lf x1 x2 x3 x4 x5 lf q) from funext fun q=>qzh g lf x1 x2 x3 x4 x5 lf q)];rfl
theorem zpu:qa4 Try.prog qri:=trivial
theorem zm6{g:ElP [.dat (.int .i64),.dat (.int .i64),.ref (.box [.dat (.int .i64)]),.ref (.box [.dat (.int .i64)]),.ref (.clo 140 [1]),.ref (.box [.dat (.list (.int .u8))])]->Option qav}(hsm:SmOK Try.prog qvu)(hg:∀(x:ElP [.dat (.int .i64),.dat (.int .i64),.ref (.box [.dat (.int .i64)]),.ref (.box [.dat (.int .i64)]),.ref (.clo 140 [1]),.ref (.box [.dat (.list (.int .u8))])]) (y:qav),WfP [.dat (.int .i64),.dat (.int .i64),.ref (.box [.dat (.int .i64)]),.ref (.box [.dat (.int .i64)]),.ref (.clo 140 [1]),.ref (.box [.dat (.list (.int .u8))])] x->g x=some y->∃lf,Fz18 lf x.1 x.2.1 x.2.2.1.1 x.2.2.2.1.1 x.2.2.2.2.2.1.1=some y):ConP Try.prog 141 ⟨[.dat (.int .i64),.dat (.int .i64),.ref (.box [.dat (.int .i64)]),.ref (.box [.dat (.int .i64)]),.ref (.clo 140 [1]),.ref (.box [.dat (.list (.int .u8))])],[(false,(.int .i64))],171,[(.int .i64)],g⟩ :=
 conTP (nmf:=qer) (sml:=qvu) (hxl:=qri) (st:=qez) (hd:=qso) 20 qcl ttOK ftOK hsm zpu zdk (by kernel_rfl) (fun x=>by kernel_rfl) qkx qip fun x y hx hy=>by
  obtain⟨lf,h⟩:=hg x y hx hy;exact⟨lf,(q7t g lf x.1 x.2.1 x.2.2.1.1 x.2.2.2.1.1 x.2.2.2.2.2.1.1).trans h⟩
namespace S
def rdU:Bool->Nat->List Int->Option (Int × List Int)
 | _,0,_=>none
 | _,_+1,[]=>none
 | f,n+1,c::r=>if c<128 then (if f=true\/0<c then some (c,r) else none) else match rdU false n r with
  | some (u,r')=>some (c % 128+128*u,r')
  | none=>none
def unz(u:Int):Int:=if u % 2=1 then -(u / 2)-1 else u / 2
def rd(lo hi:Int)(l:List Int):Option (Int × List Int):=match rdU true 8 l with
 | some (u,r)=>if lo<=unz u/\unz u<=hi then some (unz u,r) else none
 | none=>none
end S
theorem q0n:∀(n:Nat) (f:Bool) (l:List Int) (u:Int) (r:List Int),S.rdU f n l=some (u,r)->(∀c∈l,0<=c/\c<=255)->(∃p,l=p++r/\0<p.length)/\0<=u/\u<128 ^ n
 | 0,f,l,u,r,h,hb=>by simp[S.rdU] at h
 | n+1,f,[],u,r,h,hb=>by simp[S.rdU] at h
 | n+1,f,c::l,u,r,h,hb=>by
  have hc:=hb c (by simp);have hp:(0:Int)<128 ^ n:=Int.pow_pos (by omega);unfold S.rdU at h;split at h
  ·split at h<;>cases h;exact⟨⟨[c],rfl,by simp⟩,hc.1,by rw[jex];omega⟩
  ·split at h<;>cases h;rename_i u' hu;obtain⟨⟨p,e,hp'⟩,h1,h2⟩:=q0n n false l u' r hu fun x hx=>hb x (by simp[hx]);refine⟨⟨c::p,by rw[e];rfl,by simp⟩,by omega,?_⟩;rw[jex];generalize (128:Int) ^ n=q at h2 hp ⊢;omega
def qn9:SmP:=⟨[.dat (.int .i64),.dat (.int .i64),.ref (.box [.dat (.int .i64)]),.ref (.box [.dat (.int .i64)]),.ref (.clo 140 [1]),.ref (.box [.dat (.list (.int .u8))])],[(false,(.int .i64))],171,[(.int .i64)],fun x =>
 cond (Bool.not (iltI x.2.2.1.1 0)&&Bool.not (iltI (Int.ofNat (List.length (α:=Int) x.2.2.2.2.2.1.1)) x.2.2.1.1)) (match S.rd x.1 x.2.1 (List.drop (α:=Int) x.2.2.1.1.toNat x.2.2.2.2.2.1.1) with
  | none=>some (Sum.inl (x.2.2.1.1,()))
  | some q=>some (Sum.inr ((q.1,()),((Int.ofNat (List.length (α:=Int) x.2.2.2.2.2.1.1-List.length (α:=Int) q.2),()),((x.2.2.1.1,()),((),((x.2.2.2.2.2.1.1,()),()))))))) none⟩
theorem zmo:∀c:Fin 256,(c.val &&& 127)=c.val % 128:=by decide +kernel
theorem and7{c:Int}(h0:0<=c)(h1:c<=255):iand .u8 c (Int.ofNat 127)=c % 128:=by
 obtain⟨n,rfl⟩:∃n:Nat,c=n:=⟨c.toNat,by omega⟩;have hn:n<256:=by omega
 have:=zmo ⟨n,hn⟩;simp only at this;have e:(BitVec.ofInt 8 (n:Int) &&& BitVec.ofInt 8 127).toNat=n % 128:=by
  rw[BitVec.toNat_and,jde,jde];have e1:((n:Int) % ((2 ^ 8:Nat):Int)).toNat=n:=by omega
  have e2:((127:Int) % ((2 ^ 8:Nat):Int)).toNat=127:=by decide
  rw[e1,e2,this]
 show IntKind.u8.wrap (((BitVec.ofInt 8 (n:Int) &&& BitVec.ofInt 8 127).toNat:Nat):Int)=_;rw[e,w8];omega
theorem and1{u:Int}(h0:0<=u)(h1:u<18446744073709551616):iand .u64 u (Int.ofNat 1)=u % 2:=by
 obtain⟨n,rfl⟩:∃n:Nat,u=n:=⟨u.toNat,by omega⟩;have e:(BitVec.ofInt 64 (n:Int) &&& BitVec.ofInt 64 1).toNat=n % 2:=by
  rw[BitVec.toNat_and,jde,jde];have e1:((n:Int) % ((2 ^ 64:Nat):Int)).toNat=n:=by omega
  have e2:((1:Int) % ((2 ^ 64:Nat):Int)).toNat=1:=by decide
  rw[e1,e2,Nat.and_one_is_mod]
 show IntKind.u64.wrap (((BitVec.ofInt 64 (n:Int) &&& BitVec.ofInt 64 1).toNat:Nat):Int)=_;rw[e,wu64 (by omega) (by omega)];omega
theorem orsh{u c:Int}{k:Nat}(hk:k<8)(h0:0<=u)(h1:u<128 ^ k)(hc:0<=c)(hc1:c<128):ior .u64 u (ishl .u64 c (Int.ofNat (7*k)))=u+c*128 ^ k:=by
 obtain⟨n,rfl⟩:∃n:Nat,u=n:=⟨u.toNat,by omega⟩;obtain⟨m,rfl⟩:∃m:Nat,c=m:=⟨c.toNat,by omega⟩;have hp:(128:Int) ^ k=((2 ^ (7*k):Nat):Int):=by rw[Nat.pow_mul];push_cast;rfl
 rw[hp] at h1 ⊢;have hn:n<2 ^ (7*k):=by omega
 have hq:2 ^ (7*k)<=562949953421312:=by
  have:=Nat.pow_le_pow_right (n:=2) (by omega) (show 7*k<=49 by omega);exact this
 have hm:m*2 ^ (7*k)<=127*562949953421312:=Nat.mul_le_mul (by omega) hq;have hm2:(m:Int)*((2 ^ (7*k):Nat):Int)=((m*2 ^ (7*k):Nat):Int):=by push_cast;rfl
 have e0:ishl .u64 (m:Int) (Int.ofNat (7*k))=((m*2 ^ (7*k):Nat):Int):=by
  show IntKind.u64.wrap ((m:Int)*2 ^ (min (Int.toNat (Int.ofNat (7*k))) 64))=_;rw[show Int.toNat (Int.ofNat (7*k))=7*k from rfl,Nat.min_eq_left (by omega),show (2:Int) ^ (7*k)=((2 ^ (7*k):Nat):Int) by push_cast;rfl,hm2,wu64 (by omega) (by omega)]
 rw[e0,hm2];have e:(BitVec.ofInt 64 (n:Int) ||| BitVec.ofInt 64 ((m*2 ^ (7*k):Nat):Int)).toNat=n+m*2 ^ (7*k):=by
  rw[BitVec.toNat_or,jde,jde];generalize hz:m*2 ^ (7*k)=z at hm ⊢;have e1:((n:Int) % ((2 ^ 64:Nat):Int)).toNat=n:=by omega
  have e2:((z:Int) % ((2 ^ 64:Nat):Int)).toNat=z:=by omega
  rw[e1,e2,<- hz,Nat.or_comm,jet,<- Nat.two_pow_add_eq_or_of_lt hn];omega
 show IntKind.u64.wrap (((BitVec.ofInt 64 (n:Int) ||| BitVec.ofInt 64 ((m*2 ^ (7*k):Nat):Int)).toNat:Nat):Int)=_;rw[e,wu64 (by omega) (by omega)];push_cast;rfl
section
variable {x1 x2 a : Int} {x4 : Int} {b : List Int}
theorem q37(hb:∀c∈b,0<=c/\c<=255)(hl:b.length<=140737488355328)(L11:(Int × Int)->Option qav)(hL:L11=fun q=>qft LF x1 x2 a x4 b q):∀(n k:Nat) (u at_:Int) (lf:Nat),k+n=8->n<lf->0<=u->u<128 ^ k->0<=at_->at_<=b.length ->
  rounds (fun K p=>qgq LF x1 x2 a x4 b (fun q=>qe4 LF x1 x2 a x4 b K q) p) lf (u,Int.ofNat k,at_)=(match S.rdU (Nat.beq k 0) n (b.drop at_.toNat) with
   | some (v,r)=>L11 (u+v*128 ^ k,Int.ofNat (b.length-r.length))
   | none=>some (Sum.inl (a,())))
 | n,k,u,at_,0,hk,hn,h0,h1,ha,ha2=>by omega
 | n,k,u,at_,lf+1,hk,hn,h0,h1,ha,ha2=>by
  have ih:=fun n' k' u' at'=>q37 hb hl L11 hL n' k' u' at' lf;show qgq LF x1 x2 a x4 b (fun q=>qe4 LF x1 x2 a x4 b (rounds (fun K p=>qgq LF x1 x2 a x4 b (fun q=>qe4 LF x1 x2 a x4 b K q) p) lf) q) _=_;generalize rounds (fun K p=>qgq LF x1 x2 a x4 b (fun q=>qe4 LF x1 x2 a x4 b K q) p) lf=Z at ih ⊢;simp only[qgq,qam];by_cases hlt:at_<(b.length:Int)
  ·have hlt':at_<Int.ofNat b.length:=hlt;rw[jak hlt',jaa];cases n with
   | zero =>
    have:¬(Int.ofNat k<Int.ofNat 8):=by show ¬((k:Int)<8);omega
    rw[jai this];rfl
   | succ n =>
    have h8:Int.ofNat k<Int.ofNat 8:=by show (k:Int)<8;omega
    rw[jak h8,jbf,jae];obtain⟨i,rfl⟩:∃i:Nat,at_=i:=⟨at_.toNat,by omega⟩;have hi:i<b.length:=by omega
    have hget:jget b (i:Int)=some b[i]:=by rw[show ((i:Nat):Int)=Int.ofNat i from rfl,qc9,jac hi]
    have hd:b.drop (Int.toNat (i:Int))=b[i]::b.drop (i+1):=by rw[jct];exact jbv hi
    have hc:=hb b[i] (ja4 hi);simp only[qe4,<- hL,qqz,hget,hd];generalize b[i]=c at hc ⊢;have e7:IntKind.i64.wrap (Int.mul (Int.ofNat 7) (Int.ofNat k))=Int.ofNat (7*k):=by
     rw[show Int.mul (Int.ofNat 7) (Int.ofNat k)=((7*k:Nat):Int) by push_cast;rfl,w64 (by omega) (by omega)];rfl
    have e8:iltI (Int.ofNat (7*k)) (Int.ofNat 0)=false:=by rw[qam];exact jai (by show ¬(((7*k:Nat):Int)<0);omega)
    have e9:IntKind.u64.wrap (iand .u8 c (Int.ofNat 127))=c % 128:=by rw[and7 hc.1 hc.2,wu64 (by omega) (by omega)]
    have e10:=orsh (u:=u) (c:=c % 128) (k:=k) (by omega) h0 h1 (by omega) (by omega);have e11:IntKind.i64.wrap (Int.add ((i:Nat):Int) (Int.ofNat 1))=((i+1:Nat):Int):=by
     rw[show Int.add ((i:Nat):Int) (Int.ofNat 1)=((i+1:Nat):Int) from rfl,w64 (by omega) (by omega)]
    have e12:IntKind.i64.wrap (Int.add (Int.ofNat k) (Int.ofNat 1))=Int.ofNat (k+1):=by
     rw[show Int.add (Int.ofNat k) (Int.ofNat 1)=((k+1:Nat):Int) from rfl,w64 (by omega) (by omega)];rfl
    rw[e7,e9,e10,e11,e12];simp only[qam,qaw];rw[jai (show ¬(Int.ofNat (7*k)<Int.ofNat 0) by show ¬(((7*k:Nat):Int)<0);omega),jae];unfold S.rdU;by_cases h128:c<128
    ·rw[jak (show c<Int.ofNat 128 from h128),jaa,jaq h128];have hcm:c % 128=c:=by omega
     rw[hcm];have hat:((i+1:Nat):Int)=Int.ofNat (b.length-(b.drop (i+1)).length):=by
      rw[jem];show ((i+1:Nat):Int)=((b.length-(b.length-(i+1)):Nat):Int);omega
     cases k with
     | zero =>
      rw[jak (show Int.ofNat 0=Int.ofNat 0 from rfl),jaa,jaq (.inl rfl),hat]
     | succ k =>
      rw[jai (show ¬(Int.ofNat (k+1)=Int.ofNat 0) by intro h;cases h),jae];by_cases hz:0<c
      ·rw[jak (show Int.ofNat 0<c from hz),jbf,jae,jaq (.inr hz),hat]
      ·rw[jai (show ¬Int.ofNat 0<c from hz),ja9,jaa,jal (by rintro(h|h);cases h;exact hz h)]
    ·rw[jai (show ¬c<Int.ofNat 128 from h128),jae,jal h128];have hp:(0:Int)<128 ^ k:=Int.pow_pos (by omega);have:=ih n (k+1) (u+c % 128*128 ^ k) ((i+1:Nat):Int) (by omega) (by omega) (by
      have:=Int.mul_nonneg (show 0<=c % 128 by omega) (jev hp);omega) (by
      rw[jex];have:=Int.mul_le_mul_of_nonneg_right (show c % 128<=127 by omega) (jev hp);omega) (by omega) (by omega)
     refine this.trans ?_;rw[jct];have ef:Nat.beq (k+1) 0=false:=rfl;rw[ef];cases hr:S.rdU false n (b.drop (i+1)) with
     | none=>rfl
     | some q =>
      obtain⟨v,r⟩:=q;simp only;congr 2;rw[jex];rw[Int.add_mul,Int.mul_comm 128 v,Int.mul_assoc v 128,Int.mul_comm 128 (128 ^ k)];omega
  ·have hlt':¬at_<Int.ofNat b.length:=hlt;rw[jai hlt',jae];have:b.drop at_.toNat=[]:=List.drop_eq_nil_of_le (by omega);rw[this];cases n<;>rfl
theorem zi4(hb:∀c∈b,0<=c/\c<=255)(hl:b.length<=140737488355328)(ha:0<=a)(ha2:a<=b.length):Fz18 LF x1 x2 a x4 b=(match S.rdU true 8 (b.drop a.toNat) with
  | some (v,r)=>qft LF x1 x2 a x4 b (Int.ofNat 0+v*128 ^ 0,Int.ofNat (b.length-r.length))
  | none=>some (Sum.inl (a,()))):=by
 simp only[Fz18,qum,qkp];generalize hL:LF=L;have h8:8<L:=by rw[<- hL];unfold LF;omega
 subst hL;exact q37 (x1:=x1) (x2:=x2) (a:=a) (x4:=x4) hb hl (fun q=>qft LF x1 x2 a x4 b q) rfl 8 0 (Int.ofNat 0) a LF rfl h8 (jcq _) (by rw[Int.pow_zero];exact Int.one_pos) ha ha2
theorem zgj(n:Int)(r:List Int):qg1 LF x1 x2 a x4 b (n,Int.ofNat (b.length-r.length))=(match (if x1<=n/\n<=x2 then some (n,r) else none:Option (Int × List Int)) with
  | none=>some (Sum.inl (a,()))
  | some q=>some (Sum.inr ((q.1,()),((Int.ofNat (b.length-q.2.length),()),((a,()),((),((b,()),()))))))):=by
 simp only[qg1,qsw,qam,Bool.not_not];by_cases h1:n<x1
 ·rw[jak h1,jbf,jae,jal (by omega)]
 ·rw[jai h1,ja9,jaa];by_cases h2:x2<n
  ·rw[jak h2,jaa,jal (by omega)]
  ·rw[jai h2,jae,jaq (by omega)]
theorem zp6{v:Int}(r:List Int)(hv0:0<=v)(hv1:v<72057594037927936):qft LF x1 x2 a x4 b (v,Int.ofNat (b.length-r.length))=qg1 LF x1 x2 a x4 b (S.unz v,Int.ofNat (b.length-r.length)):=by
 have h2:IntKind.i64.wrap (Int.fdiv v (Int.ofNat 2))=v / 2:=by
  rw[show Int.fdiv v (Int.ofNat 2)=v / 2 from jb5 v (by show (0:Int)<=2;omega),w64 (by omega) (by omega)]
 simp only[qft,qun,qaw,and1 hv0 (show v<18446744073709551616 by omega),h2];unfold S.unz;by_cases hm:v % 2=1
 ·rw[jak (show v % 2=Int.ofNat 1 from hm),jaa,jaq hm];have e1:IntKind.i64.wrap (Int.sub (IntKind.i64.wrap (Int.sub (Int.ofNat 0) (v / 2))) (Int.ofNat 1))=-(v / 2)-1:=by
   have:Int.sub (Int.ofNat 0) (v / 2)=-(v / 2):=by show (0:Int)-v / 2=_;omega
   rw[this,w64 (n:=-(v / 2)) (by omega) (by omega)];show IntKind.i64.wrap (-(v / 2)-1)=_;rw[w64 (by omega) (by omega)]
  rw[e1]
 ·rw[jai (show ¬v % 2=Int.ofNat 1 from hm),jae,jal hm]
theorem zd7(hb:∀c∈b,0<=c/\c<=255)(hl:b.length<=140737488355328)(ha:0<=a)(ha2:a<=b.length):Fz18 LF x1 x2 a x4 b=(match S.rd x1 x2 (b.drop a.toNat) with
  | none=>some (Sum.inl (a,()))
  | some q=>some (Sum.inr ((q.1,()),((Int.ofNat (b.length-q.2.length),()),((a,()),((),((b,()),()))))))):=by
 refine(zi4 hb hl ha ha2).trans ?_;unfold S.rd;have hs:=q0n 8 true (b.drop a.toNat);generalize S.rdU true 8 (b.drop a.toNat)=o at hs ⊢;cases o with
 | none=>rfl
 | some q =>
  obtain⟨v,r⟩:=q;obtain⟨_,hv0,hv1⟩:=hs v r rfl fun c hc=>hb c (List.mem_of_mem_drop hc);have e8:(128:Int) ^ 8=72057594037927936:=by decide +kernel
  rw[e8] at hv1;have hvv:Int.ofNat 0+v*128 ^ 0=v:=by rw[Int.pow_zero,Int.mul_one];exact Int.zero_add v
  simp only[hvv];rw[zp6 r hv0 hv1,zgj]
end
theorem zjp:ConP Try.prog 141 qn9:=zm6 trivial fun x y hx h=>⟨LF,by
 obtain⟨x1,x2,⟨(a:Int),_⟩,⟨x4,_⟩,_,⟨(b:List Int),_⟩,_⟩:=x;obtain⟨_,_,_,_,_,⟨hwb,_⟩,_⟩:=hx;have hb:∀c,c∈b->0<=c/\c<=255:=fun (c:Int) hc=>(qdm .u8 c).1 (hwb.2 c hc);have hl:b.length<=140737488355328:=by have:=hwb.1;rwa [show Jx.bsz (.int .u8)=1 from rfl,jef] at this
 have h:cond (Bool.not (iltI a 0)&&Bool.not (iltI (Int.ofNat b.length) a)) (match S.rd x1 x2 (b.drop a.toNat) with
  | none=>some (Sum.inl (a,()))
  | some q=>some (Sum.inr ((q.1,()),((Int.ofNat (b.length-q.2.length),()),((a,()),((),((b,()),()))))))) none=some y:=h
 rw[qam,qam] at h;by_cases h1:a<0
 ·rw[jak h1] at h;cases h
 ·by_cases h2:Int.ofNat b.length<a
  ·rw[jak h2,jbf,Bool.and_false] at h;cases h
  ·rw[jai h1,jai h2] at h;have h2:¬((b.length:Int)<a):=h2;exact(zd7 (x1:=x1) (x2:=x2) (a:=a) (x4:=x4) (b:=b) hb hl (by omega) (by omega)).trans h⟩
def qdx:Nat->Option Nm:=fun k=>cond (Nat.beq k 8) (some ⟨[0,3,4,5,6,7,8,9,10,11,21,22],[],[(10,0,qal)],[],[],0,0,false⟩) (cond (Nat.beq k 12) (some ⟨[0,3,4,5,6,7,8,9,10,11,13,21,22,36,37,38],[],[(10,0,qal),(13,1,cVal)],[],[],0,0,false⟩) (cond (Nat.beq k 16) (some ⟨[0,3,4,5,6,7,8,9,10,11,13,21,22,36,37,38,43],[],[(10,0,qal),(13,1,cVal)],[],[],0,0,false⟩) (cond (Nat.beq k 21) (some ⟨[0,3,4,5,6,7,8,9,10,11,13,21,22],[],[(10,0,qal)],[],[],0,0,false⟩) (cond (Nat.beq k 24) (some ⟨[3,4,5,6,7,9,10,11,81,82],[],[(10,1,cVal)],[],[],0,0,false⟩) (cond (Nat.beq k 999999) (some ⟨[],[],[],[],[],0,0,false⟩) none)))))
def qeg:Nat->Bool:=fun k=>cond (Nat.beq k 8) true (cond (Nat.beq k 12) true (cond (Nat.beq k 16) true (cond (Nat.beq k 21) true (cond (Nat.beq k 24) true (false)))))
def qu7:Nat->Bool:=fun k=>cond (Nat.beq k 8) true (cond (Nat.beq k 12) true (cond (Nat.beq k 24) true (false)))
abbrev qan:Type:=(Int × Unit) ⊕ ((qac × Unit) × Unit)
def qtn:List (Nat × Sm):=[]
def qvz:List (Nat × Hx):=[(141,hxP qn9)]
def qfu(R:Type)(lf:Nat):ClK R:=qau Try.prog ttT.get ftT.get (fun _ _=>none) (smL qtn) (hxL qvz) lf 20 R
def qc4(x1:(List qab))(x2:(List Int))(p:Int × Int × Int × (List Int) × Int × (List qaa)):NRes:=(NRes.mk (.node (some (IV.lst cForm x1)) (.node none (.node (some (IV.ptr 0 0)) (.node (some (IV.ptr 4 0)) .leaf .leaf) (.node (some (IV.int .i64 p.1)) .leaf .leaf)) (.node (some (IV.ptr 2 0)) (.node (some (IV.fn 142 [(IV.ptr 5 0)])) .leaf .leaf) (.node none (.node (some (IV.int .i64 p.1)) .leaf .leaf) .leaf))) (.node none (.node (some (IV.ptr 1 0)) (.node (some (IV.ptr 5 0)) .leaf .leaf) .leaf) (.node (some (IV.ptr 3 0)) (.node (some (IV.ptr 6 0)) .leaf .leaf) (.node none (.node (some (IV.int .i64 p.2.2.2.2.1)) .leaf .leaf) .leaf)))) (IS.mk (.node (some (IObj.row [(IV.lst (TC.int .u8) p.2.2.2.1)])) (.node (some (IObj.row (List.cons IV.nilsl [IV.nilsl]))) (.node (some (IObj.row [(IV.int .i64 p.2.2.1)])) (.node (some (IObj.arr qal p.2.2.2.2.2)) .leaf .leaf) .leaf) (.node (some (IObj.row (List.cons (IV.fn 141 (List.cons (IV.ptr 2 0) (List.cons (IV.ptr 3 0) (List.cons (IV.ptr 4 0) [(IV.ptr 0 0)])))) []))) .leaf .leaf)) (.node (some (IObj.row [(IV.int .i64 p.2.1)])) (.node (some (IObj.row (List.cons (IV.fn 140 [(IV.ptr 3 0)]) []))) .leaf .leaf) (.node (some (IObj.row (List.cons (IV.arr 7) [IV.nilsl]))) .leaf .leaf))) 8) [] 0)
def qex(x1:(List qab))(x2:(List Int))(p:Int × (List DCol) × ByteArray × Int × Int × (List Int) × Int × (List DVal) × Int × (List qaa)):NRes:=(NRes.mk (.node (some (IV.lst cForm x1)) (.node none (.node (some (IV.ptr 0 0)) (.node (some (IV.ptr 4 0)) .leaf .leaf) (.node (some (IV.int .i64 p.1)) .leaf .leaf)) (.node (some (IV.ptr 2 0)) (.node (some (IV.fn 142 [(IV.ptr 5 0)])) .leaf .leaf) (.node (some (IV.ptr 7 0)) (.node (some (IV.int .i64 p.1)) (.node (some (IV.int .i64 (Int.ofNat p.2.1.length))) .leaf .leaf) .leaf) .leaf))) (.node none (.node (some (IV.ptr 1 0)) (.node (some (IV.ptr 5 0)) .leaf .leaf) (.node none (.node none (.node (some (IV.lst cCol p.2.1)) .leaf .leaf) .leaf) .leaf)) (.node (some (IV.ptr 3 0)) (.node (some (IV.ptr 6 0)) .leaf .leaf) (.node none (.node (some (IV.int .i64 p.2.2.2.2.2.2.2.2.1)) (.node (some (IV.int .i64 p.2.2.2.2.2.2.1)) .leaf .leaf) .leaf) .leaf)))) (IS.mk (.node (some (IObj.row [(IV.lst (TC.int .u8) p.2.2.2.2.2.1)])) (.node (some (IObj.row (List.cons IV.nilsl [IV.nilsl]))) (.node (some (IObj.row [(IV.int .i64 p.2.2.2.2.1)])) (.node (some (IObj.row (List.cons (IV.str p.2.2.1) [(IV.arr 9)]))) .leaf .leaf) .leaf) (.node (some (IObj.row (List.cons (IV.fn 141 (List.cons (IV.ptr 2 0) (List.cons (IV.ptr 3 0) (List.cons (IV.ptr 4 0) [(IV.ptr 0 0)])))) []))) (.node (some (IObj.arr cVal p.2.2.2.2.2.2.2.1)) .leaf .leaf) .leaf)) (.node (some (IObj.row [(IV.int .i64 p.2.2.2.1)])) (.node (some (IObj.row (List.cons (IV.fn 140 [(IV.ptr 3 0)]) []))) (.node (some (IObj.arr qal p.2.2.2.2.2.2.2.2.2)) .leaf .leaf) .leaf) (.node (some (IObj.row (List.cons (IV.arr 8) [IV.nilsl]))) .leaf .leaf))) 10) [] 0)
def qoj(x1:(List qab))(x2:(List Int))(p:Int × Int × (List DCol) × (List Int) × ByteArray × Int × Int × Int × (List DVal) × Int × (List qaa)):NRes:=(NRes.mk (.node (some (IV.lst cForm x1)) (.node none (.node (some (IV.ptr 0 0)) (.node (some (IV.ptr 4 0)) .leaf .leaf) (.node (some (IV.int .i64 p.2.1)) .leaf (.node none (.node (some (IV.int .i64 p.2.2.2.2.2.2.1)) .leaf .leaf) .leaf))) (.node (some (IV.ptr 2 0)) (.node (some (IV.fn 142 [(IV.ptr 5 0)])) .leaf .leaf) (.node (some (IV.ptr 7 0)) (.node (some (IV.int .i64 p.2.1)) (.node (some (IV.int .i64 (Int.ofNat p.2.2.1.length))) .leaf .leaf) .leaf) .leaf))) (.node none (.node (some (IV.ptr 1 0)) (.node (some (IV.ptr 5 0)) .leaf .leaf) (.node none (.node none (.node (some (IV.lst cCol p.2.2.1)) .leaf .leaf) .leaf) .leaf)) (.node (some (IV.ptr 3 0)) (.node (some (IV.ptr 6 0)) .leaf .leaf) (.node none (.node (some (IV.int .i64 p.2.2.2.2.2.2.2.2.2.1)) (.node (some (IV.int .i64 p.2.2.2.2.2.2.2.1)) .leaf .leaf) .leaf) .leaf)))) (IS.mk (.node (some (IObj.row [(IV.lst (TC.int .u8) p.2.2.2.1)])) (.node (some (IObj.row (List.cons IV.nilsl [IV.nilsl]))) (.node (some (IObj.row [(IV.int .i64 p.2.2.2.2.2.1)])) (.node (some (IObj.row (List.cons (IV.str p.2.2.2.2.1) [(IV.arr 9)]))) .leaf .leaf) .leaf) (.node (some (IObj.row (List.cons (IV.fn 141 (List.cons (IV.ptr 2 0) (List.cons (IV.ptr 3 0) (List.cons (IV.ptr 4 0) [(IV.ptr 0 0)])))) []))) (.node (some (IObj.arr cVal p.2.2.2.2.2.2.2.2.1)) .leaf .leaf) .leaf)) (.node (some (IObj.row [(IV.int .i64 p.1)])) (.node (some (IObj.row (List.cons (IV.fn 140 [(IV.ptr 3 0)]) []))) (.node (some (IObj.arr qal p.2.2.2.2.2.2.2.2.2.2)) .leaf .leaf) .leaf) (.node (some (IObj.row (List.cons (IV.arr 8) [IV.nilsl]))) .leaf .leaf))) 10) [] 0)
def qnq(x1:(List qab))(x2:(List Int))(p:Int × Int × (List Int) × Int × ByteArray × (List DVal) × Int × (List qaa)):NRes:=(NRes.mk (.node (some (IV.lst cForm x1)) (.node none (.node (some (IV.ptr 0 0)) (.node (some (IV.ptr 4 0)) .leaf .leaf) (.node (some (IV.int .i64 p.2.1)) .leaf .leaf)) (.node (some (IV.ptr 2 0)) (.node (some (IV.fn 142 [(IV.ptr 5 0)])) .leaf .leaf) (.node (some (IV.ptr 7 0)) (.node (some (IV.int .i64 p.2.1)) .leaf .leaf) .leaf))) (.node none (.node (some (IV.ptr 1 0)) (.node (some (IV.ptr 5 0)) .leaf .leaf) .leaf) (.node (some (IV.ptr 3 0)) (.node (some (IV.ptr 6 0)) .leaf .leaf) (.node none (.node (some (IV.int .i64 p.2.2.2.2.2.2.1)) .leaf .leaf) .leaf)))) (IS.mk (.node (some (IObj.row [(IV.lst (TC.int .u8) p.2.2.1)])) (.node (some (IObj.row (List.cons IV.nilsl [IV.nilsl]))) (.node (some (IObj.row [(IV.int .i64 p.2.2.2.1)])) (.node (some (IObj.row (List.cons (IV.str p.2.2.2.2.1) [(IV.arr 9)]))) .leaf .leaf) .leaf) (.node (some (IObj.row (List.cons (IV.fn 141 (List.cons (IV.ptr 2 0) (List.cons (IV.ptr 3 0) (List.cons (IV.ptr 4 0) [(IV.ptr 0 0)])))) []))) (.node (some (IObj.arr cVal p.2.2.2.2.2.1)) .leaf .leaf) .leaf)) (.node (some (IObj.row [(IV.int .i64 p.1)])) (.node (some (IObj.row (List.cons (IV.fn 140 [(IV.ptr 3 0)]) []))) (.node (some (IObj.arr qal p.2.2.2.2.2.2.2)) .leaf .leaf) .leaf) (.node (some (IObj.row (List.cons (IV.arr 8) [IV.nilsl]))) .leaf .leaf))) 10) [] 0)
def qie(x1:(List qab))(x2:(List Int))(p:Int × Int × Int × Int × (List Int) × (List qaa) × Int × (List DVal)):NRes:=(NRes.mk (.node none (.node none (.node (some (IV.ptr 0 0)) (.node (some (IV.ptr 4 0)) .leaf .leaf) (.node (some (IV.int .i64 p.1)) .leaf .leaf)) (.node (some (IV.ptr 2 0)) (.node (some (IV.fn 142 [(IV.ptr 5 0)])) (.node none .leaf (.node none (.node (some (IV.int .i64 p.2.1)) .leaf .leaf) .leaf)) .leaf) .leaf)) (.node none (.node (some (IV.ptr 1 0)) .leaf .leaf) (.node (some (IV.ptr 3 0)) (.node (some (IV.ptr 6 0)) (.node none .leaf (.node none (.node (some (IV.int .i64 p.2.2.2.2.2.2.1)) .leaf .leaf) .leaf)) .leaf) .leaf))) (IS.mk (.node (some (IObj.row [(IV.lst (TC.int .u8) p.2.2.2.2.1)])) (.node (some (IObj.row (List.cons IV.nilsl [IV.nilsl]))) (.node (some (IObj.row [(IV.int .i64 p.2.2.2.1)])) (.node (some (IObj.arr qal p.2.2.2.2.2.1)) .leaf .leaf) .leaf) (.node (some (IObj.row (List.cons (IV.fn 141 (List.cons (IV.ptr 2 0) (List.cons (IV.ptr 3 0) (List.cons (IV.ptr 4 0) [(IV.ptr 0 0)])))) []))) .leaf .leaf)) (.node (some (IObj.row [(IV.int .i64 p.2.2.1)])) (.node (some (IObj.row (List.cons (IV.fn 140 [(IV.ptr 3 0)]) []))) (.node (some (IObj.arr cVal p.2.2.2.2.2.2.2)) .leaf .leaf) .leaf) (.node (some (IObj.row (List.cons (IV.arr 7) [(IV.arr 8)]))) .leaf .leaf))) 9) [] 0)
def qrl(lf:Nat)(x1:(List qab))(x2:(List Int))(L8:(Int × Int × Int × (List Int) × Int × (List qaa))->Option qan):Option qan:=(match (cond (Bool.not (iltI (Int.ofNat x2.length) (Int.ofNat 0))) (match (S.rd (Int.ofNat 0) (Int.ofNat 400) (List.drop 0 x2)) with|.none  => (some (Sum.inl ((Int.ofNat 0),())))|some v0=>(some (Sum.inr ((v0.1,()),(((Int.ofNat (Nat.sub x2.length v0.2.length)),()),(((Int.ofNat 0),()),((),((x2,()),())))))))) none) with|none=>none|some v1=>(match v1 with|.inl v2=>(some (Sum.inl (v2.1,())))|.inr v3=>(L8 (v3.1.1,v3.2.1.1,v3.2.2.1.1,v3.2.2.2.2.1.1,(Int.ofNat 0),[]))))
def qew(lf:Nat)(x1:(List qab))(x2:(List Int))(L12:(Int × (List DCol) × ByteArray × Int × Int × (List Int) × Int × (List DVal) × Int × (List qaa))->Option qan)(L24:(Int × Int × Int × Int × (List Int) × (List qaa) × Int × (List DVal))->Option qan)(p:Int × Int × Int × (List Int) × Int × (List qaa)):Option qan:=(cond (iltI p.2.2.2.2.1 p.1) (match (cond (Bool.and (Bool.not (iltI p.2.1 (Int.ofNat 0))) (Bool.not (iltI (Int.ofNat p.2.2.2.1.length) p.2.1))) (match (S.rd (Int.ofNat 0) (IntKind.i64.wrap (Int.sub (Int.ofNat x1.length) (Int.ofNat 1))) (List.drop (Int.toNat p.2.1) p.2.2.2.1)) with|.none  => (some (Sum.inl (p.2.1,())))|some v0=>(some (Sum.inr ((v0.1,()),(((Int.ofNat (Nat.sub p.2.2.2.1.length v0.2.length)),()),((p.2.1,()),((),((p.2.2.2.1,()),())))))))) none) with|none=>none|some v1=>(match v1 with|.inl v2=>(some (Sum.inl (v2.1,())))|.inr v3=>(match (jget x1 v3.1.1) with|none=>none|some v4=>(L12 (p.1,v4.2,v4.1,v3.2.1.1,v3.2.2.1.1,v3.2.2.2.2.1.1,(Int.ofNat 0),[],p.2.2.2.2.1,p.2.2.2.2.2))))) (match (cond (Bool.and (Bool.not (iltI p.2.1 (Int.ofNat 0))) (Bool.not (iltI (Int.ofNat p.2.2.2.1.length) p.2.1))) (match (S.rd (Int.ofNat 0) (Int.ofNat 60) (List.drop (Int.toNat p.2.1) p.2.2.2.1)) with|.none  => (some (Sum.inl (p.2.1,())))|some v7=>(some (Sum.inr ((v7.1,()),(((Int.ofNat (Nat.sub p.2.2.2.1.length v7.2.length)),()),((p.2.1,()),((),((p.2.2.2.1,()),())))))))) none) with|none=>none|some v8=>(match v8 with|.inl v9=>(some (Sum.inl (v9.1,())))|.inr v10=>(L24 (p.1,v10.1.1,v10.2.1.1,v10.2.2.1.1,v10.2.2.2.2.1.1,p.2.2.2.2.2,(Int.ofNat 0),[])))))
def qc2(lf:Nat)(x1:(List qab))(x2:(List Int))(L16:(Int × Int × (List DCol) × (List Int) × ByteArray × Int × Int × Int × (List DVal) × Int × (List qaa))->Option qan)(L21:(Int × Int × (List Int) × Int × ByteArray × (List DVal) × Int × (List qaa))->Option qan)(p:Int × (List DCol) × ByteArray × Int × Int × (List Int) × Int × (List DVal) × Int × (List qaa)):Option qan:=(cond (iltI p.2.2.2.2.2.2.1 (Int.ofNat p.2.1.length)) (match (jget p.2.1 p.2.2.2.2.2.2.1) with|none=>none|some v0=>(L16 (p.2.2.2.1,p.1,p.2.1,p.2.2.2.2.2.1,p.2.2.1,p.2.2.2.2.1,v0.2.1,p.2.2.2.2.2.2.1,p.2.2.2.2.2.2.2.1,p.2.2.2.2.2.2.2.2.1,p.2.2.2.2.2.2.2.2.2))) (L21 (p.2.2.2.1,p.1,p.2.2.2.2.2.1,p.2.2.2.2.1,p.2.2.1,p.2.2.2.2.2.2.2.1,p.2.2.2.2.2.2.2.2.1,p.2.2.2.2.2.2.2.2.2)))
def qrz(lf:Nat)(x1:(List qab))(x2:(List Int))(L12:(Int × (List DCol) × ByteArray × Int × Int × (List Int) × Int × (List DVal) × Int × (List qaa))->Option qan)(p:Int × Int × (List DCol) × (List Int) × ByteArray × Int × Int × Int × (List DVal) × Int × (List qaa)):Option qan:=(cond (ieqI p.2.2.2.2.2.2.1 (Int.ofNat 1)) (match (cond (Bool.and (Bool.not (iltI p.1 (Int.ofNat 0))) (Bool.not (iltI (Int.ofNat p.2.2.2.1.length) p.1))) (match (S.rd (Int.negSucc 1099511627775) (Int.ofNat 1099511627776) (List.drop (Int.toNat p.1) p.2.2.2.1)) with|.none  => (some (Sum.inl (p.1,())))|some v0=>(some (Sum.inr ((v0.1,()),(((Int.ofNat (Nat.sub p.2.2.2.1.length v0.2.length)),()),((p.1,()),((),((p.2.2.2.1,()),())))))))) none) with|none=>none|some v1=>(match v1 with|.inl v2=>(some (Sum.inl (v2.1,())))|.inr v3=>(cond (Nat.ble (Nat.mul (Nat.add p.2.2.2.2.2.2.2.2.1.length 1) 16) 140737488355328) (L12 (p.2.1,p.2.2.1,p.2.2.2.2.1,v3.2.1.1,v3.2.2.1.1,v3.2.2.2.2.1.1,(IntKind.i64.wrap (Int.add p.2.2.2.2.2.2.2.1 (Int.ofNat 1))),(List.append p.2.2.2.2.2.2.2.2.1 [((Int.ofNat 1),v3.1.1)]),p.2.2.2.2.2.2.2.2.2.1,p.2.2.2.2.2.2.2.2.2.2)) none))) (cond (ieqI p.2.2.2.2.2.2.1 (Int.ofNat 2)) (match (cond (Bool.and (Bool.not (iltI p.1 (Int.ofNat 0))) (Bool.not (iltI (Int.ofNat p.2.2.2.1.length) p.1))) (match (S.rd (Int.ofNat 0) (Int.ofNat 1) (List.drop (Int.toNat p.1) p.2.2.2.1)) with|.none  => (some (Sum.inl (p.1,())))|some v31=>(some (Sum.inr ((v31.1,()),(((Int.ofNat (Nat.sub p.2.2.2.1.length v31.2.length)),()),((p.1,()),((),((p.2.2.2.1,()),())))))))) none) with|none=>none|some v32=>(match v32 with|.inl v33=>(some (Sum.inl (v33.1,())))|.inr v34=>(cond (Nat.ble (Nat.mul (Nat.add p.2.2.2.2.2.2.2.2.1.length 1) 16) 140737488355328) (L12 (p.2.1,p.2.2.1,p.2.2.2.2.1,v34.2.1.1,v34.2.2.1.1,v34.2.2.2.2.1.1,(IntKind.i64.wrap (Int.add p.2.2.2.2.2.2.2.1 (Int.ofNat 1))),(List.append p.2.2.2.2.2.2.2.2.1 [((Int.ofNat 2),v34.1.1)]),p.2.2.2.2.2.2.2.2.2.1,p.2.2.2.2.2.2.2.2.2.2)) none))) (match (cond (Bool.and (Bool.not (iltI p.1 (Int.ofNat 0))) (Bool.not (iltI (Int.ofNat p.2.2.2.1.length) p.1))) (match (S.rd (Int.ofNat 0) p.2.1 (List.drop (Int.toNat p.1) p.2.2.2.1)) with|.none  => (some (Sum.inl (p.1,())))|some v36=>(some (Sum.inr ((v36.1,()),(((Int.ofNat (Nat.sub p.2.2.2.1.length v36.2.length)),()),((p.1,()),((),((p.2.2.2.1,()),())))))))) none) with|none=>none|some v37=>(match v37 with|.inl v38=>(some (Sum.inl (v38.1,())))|.inr v39=>(cond (iltI (Int.ofNat 0) v39.1.1) (cond (Nat.ble (Nat.mul (Nat.add p.2.2.2.2.2.2.2.2.1.length 1) 16) 140737488355328) (L12 (p.2.1,p.2.2.1,p.2.2.2.2.1,v39.2.1.1,v39.2.2.1.1,v39.2.2.2.2.1.1,(IntKind.i64.wrap (Int.add p.2.2.2.2.2.2.2.1 (Int.ofNat 1))),(List.append p.2.2.2.2.2.2.2.2.1 (List.cons ((Int.ofNat 4),(IntKind.i64.wrap (Int.sub v39.1.1 (Int.ofNat 1)))) [])),p.2.2.2.2.2.2.2.2.2.1,p.2.2.2.2.2.2.2.2.2.2)) none) (cond (Nat.ble (Nat.mul (Nat.add p.2.2.2.2.2.2.2.2.1.length 1) 16) 140737488355328) (L12 (p.2.1,p.2.2.1,p.2.2.2.2.1,v39.2.1.1,v39.2.2.1.1,v39.2.2.2.2.1.1,(IntKind.i64.wrap (Int.add p.2.2.2.2.2.2.2.1 (Int.ofNat 1))),(List.append p.2.2.2.2.2.2.2.2.1 [((Int.ofNat 3),(Int.ofNat 0))]),p.2.2.2.2.2.2.2.2.2.1,p.2.2.2.2.2.2.2.2.2.2)) none))))))
def qru(lf:Nat)(x1:(List qab))(x2:(List Int))(L8:(Int × Int × Int × (List Int) × Int × (List qaa))->Option qan)(p:Int × Int × (List Int) × Int × ByteArray × (List DVal) × Int × (List qaa)):Option qan:=(cond (Nat.ble (Nat.mul (Nat.add p.2.2.2.2.2.2.2.length 1) 40) 140737488355328) (L8 (p.2.1,p.1,p.2.2.2.1,p.2.2.1,(IntKind.i64.wrap (Int.add p.2.2.2.2.2.2.1 (Int.ofNat 1))),(List.append p.2.2.2.2.2.2.2 [(p.2.2.2.2.1,p.2.2.2.2.2.1)]))) none)
def qfe(lf:Nat)(x1:(List qab))(x2:(List Int))(L24:(Int × Int × Int × Int × (List Int) × (List qaa) × Int × (List DVal))->Option qan)(p:Int × Int × Int × Int × (List Int) × (List qaa) × Int × (List DVal)):Option qan:=(cond (iltI p.2.2.2.2.2.2.1 p.2.1) (match (cond (Bool.and (Bool.not (iltI p.2.2.1 (Int.ofNat 0))) (Bool.not (iltI (Int.ofNat p.2.2.2.2.1.length) p.2.2.1))) (match (S.rd (Int.ofNat 0) p.1 (List.drop (Int.toNat p.2.2.1) p.2.2.2.2.1)) with|.none  => (some (Sum.inl (p.2.2.1,())))|some v0=>(some (Sum.inr ((v0.1,()),(((Int.ofNat (Nat.sub p.2.2.2.2.1.length v0.2.length)),()),((p.2.2.1,()),((),((p.2.2.2.2.1,()),())))))))) none) with|none=>none|some v1=>(match v1 with|.inl v2=>(some (Sum.inl (v2.1,())))|.inr v3=>(cond (iltI (Int.ofNat 0) v3.1.1) (cond (Nat.ble (Nat.mul (Nat.add p.2.2.2.2.2.2.2.length 1) 16) 140737488355328) (L24 (p.1,p.2.1,v3.2.1.1,v3.2.2.1.1,v3.2.2.2.2.1.1,p.2.2.2.2.2.1,(IntKind.i64.wrap (Int.add p.2.2.2.2.2.2.1 (Int.ofNat 1))),(List.append p.2.2.2.2.2.2.2 (List.cons ((Int.ofNat 4),(IntKind.i64.wrap (Int.sub v3.1.1 (Int.ofNat 1)))) [])))) none) (cond (Nat.ble (Nat.mul (Nat.add p.2.2.2.2.2.2.2.length 1) 16) 140737488355328) (L24 (p.1,p.2.1,v3.2.1.1,v3.2.2.1.1,v3.2.2.2.2.1.1,p.2.2.2.2.2.1,(IntKind.i64.wrap (Int.add p.2.2.2.2.2.2.1 (Int.ofNat 1))),(List.append p.2.2.2.2.2.2.2 [((Int.ofNat 3),(Int.ofNat 0))]))) none)))) (cond (Bool.not (ieqI p.2.2.1 (Int.ofNat p.2.2.2.2.1.length))) (some (Sum.inl (p.2.2.1,()))) (some (Sum.inr (((p.2.2.2.2.2.1,p.2.2.2.2.2.2.2),()),())))))
theorem zjc(g:ElP [.dat (.list cForm),.dat (.list (.int .u8))]->Option qan)(J:Nat->List Nat->NRes->Option qan)(lf:Nat)(x1:(List qab))(x2:(List Int)):qbl Try.prog ttT.get qdx (mP [.dat (.list cForm),.dat (.list (.int .u8))]) qbc.nt (qfu _ lf) lf qeg J qbc.body [] (qao (qag [.dat (.list cForm),.dat (.list (.int .u8))] idN 0 (x1,x2,())) 0 .leaf) (Sc [.dat (.list cForm),.dat (.list (.int .u8))] (x1,x2,())) [] (qbw ttT.get qbc ⟨[.dat (.list cForm),.dat (.list (.int .u8))],[(false,cGraph)],171,[(.int .i64)],g⟩)=qrl lf x1 x2 (fun q=>J 8 [lf] (qc4 x1 x2 q)):=by kernel_rfl
theorem zbc(g:ElP [.dat (.list cForm),.dat (.list (.int .u8))]->Option qan)(J:Nat->List Nat->NRes->Option qan)(lf:Nat)(x1:(List qab))(x2:(List Int))(m1:Nat)(p:Int × Int × Int × (List Int) × Int × (List qaa)):qba Try.prog ttT.get qdx (mP [.dat (.list cForm),.dat (.list (.int .u8))]) qbc.nt (qfu _ lf) lf qeg J 8 qbc.body [] [m1] (qc4 x1 x2 p) (qbw ttT.get qbc ⟨[.dat (.list cForm),.dat (.list (.int .u8))],[(false,cGraph)],171,[(.int .i64)],g⟩)=qew lf x1 x2 (fun q=>J 12 [m1,lf] (qex x1 x2 q)) (fun q=>J 24 [lf] (qie x1 x2 q)) p:=by kernel_rfl
theorem zgn(g:ElP [.dat (.list cForm),.dat (.list (.int .u8))]->Option qan)(J:Nat->List Nat->NRes->Option qan)(lf:Nat)(x1:(List qab))(x2:(List Int))(m1:Nat)(m2:Nat)(p:Int × (List DCol) × ByteArray × Int × Int × (List Int) × Int × (List DVal) × Int × (List qaa)):qba Try.prog ttT.get qdx (mP [.dat (.list cForm),.dat (.list (.int .u8))]) qbc.nt (qfu _ lf) lf qeg J 12 qbc.body [] [m1,m2] (qex x1 x2 p) (qbw ttT.get qbc ⟨[.dat (.list cForm),.dat (.list (.int .u8))],[(false,cGraph)],171,[(.int .i64)],g⟩)=qc2 lf x1 x2 (fun q=>J 16 [m1,m2] (qoj x1 x2 q)) (fun q=>J 21 [m1] (qnq x1 x2 q)) p:=by kernel_rfl
theorem zj8(g:ElP [.dat (.list cForm),.dat (.list (.int .u8))]->Option qan)(J:Nat->List Nat->NRes->Option qan)(lf:Nat)(x1:(List qab))(x2:(List Int))(m1:Nat)(m2:Nat)(p:Int × Int × (List DCol) × (List Int) × ByteArray × Int × Int × Int × (List DVal) × Int × (List qaa)):qba Try.prog ttT.get qdx (mP [.dat (.list cForm),.dat (.list (.int .u8))]) qbc.nt (qfu _ lf) lf qeg J 16 qbc.body [] [m1,m2] (qoj x1 x2 p) (qbw ttT.get qbc ⟨[.dat (.list cForm),.dat (.list (.int .u8))],[(false,cGraph)],171,[(.int .i64)],g⟩)=qrz lf x1 x2 (fun q=>J 12 [m1,m2] (qex x1 x2 q)) p:=by kernel_rfl
theorem zjz(g:ElP [.dat (.list cForm),.dat (.list (.int .u8))]->Option qan)(J:Nat->List Nat->NRes->Option qan)(lf:Nat)(x1:(List qab))(x2:(List Int))(m1:Nat)(p:Int × Int × (List Int) × Int × ByteArray × (List DVal) × Int × (List qaa)):qba Try.prog ttT.get qdx (mP [.dat (.list cForm),.dat (.list (.int .u8))]) qbc.nt (qfu _ lf) lf qeg J 21 qbc.body [] [m1] (qnq x1 x2 p) (qbw ttT.get qbc ⟨[.dat (.list cForm),.dat (.list (.int .u8))],[(false,cGraph)],171,[(.int .i64)],g⟩)=qru lf x1 x2 (fun q=>J 8 [m1] (qc4 x1 x2 q)) p:=by kernel_rfl
theorem zpi(g:ElP [.dat (.list cForm),.dat (.list (.int .u8))]->Option qan)(J:Nat->List Nat->NRes->Option qan)(lf:Nat)(x1:(List qab))(x2:(List Int))(m1:Nat)(p:Int × Int × Int × Int × (List Int) × (List qaa) × Int × (List DVal)):qba Try.prog ttT.get qdx (mP [.dat (.list cForm),.dat (.list (.int .u8))]) qbc.nt (qfu _ lf) lf qeg J 24 qbc.body [] [m1] (qie x1 x2 p) (qbw ttT.get qbc ⟨[.dat (.list cForm),.dat (.list (.int .u8))],[(false,cGraph)],171,[(.int .i64)],g⟩)=qfe lf x1 x2 (fun q=>J 24 [m1] (qie x1 x2 q)) p:=by kernel_rfl
theorem qh8:(regs qbc.body).Nodup:=by decide +kernel
theorem qhm:okC qdx qeg qu7 qbc.body none=true:=by kernel_rfl
def Az19(g:ElP [.dat (.list cForm),.dat (.list (.int .u8))]->Option qan)(lf:Nat):Nat->List Nat->NRes->Option qan:=atP Try.prog ttT.get qdx qbc ⟨[.dat (.list cForm),.dat (.list (.int .u8))],[(false,cGraph)],171,[(.int .i64)],g⟩ (qfu _ lf) lf qu7
def qci(lf:Nat)(x1:(List qab))(x2:(List Int))(K8:(Int × Int × Int × (List Int) × Int × (List qaa))->Option qan)(K12:(Int × (List DCol) × ByteArray × Int × Int × (List Int) × Int × (List DVal) × Int × (List qaa))->Option qan)(p:Int × Int × (List DCol) × (List Int) × ByteArray × Int × Int × Int × (List DVal) × Int × (List qaa)):Option qan:=qrz lf x1 x2 K12 p
theorem zoc(g:ElP [.dat (.list cForm),.dat (.list (.int .u8))]->Option qan)(lf:Nat)(x1:(List qab))(x2:(List Int))(m1:Nat)(m2:Nat)(p:Int × Int × (List DCol) × (List Int) × ByteArray × Int × Int × Int × (List DVal) × Int × (List qaa)):Az19 g lf 16 [m1,m2] (qoj x1 x2 p)=qci lf x1 x2 (fun q=>Az19 g lf 8 [m1] (qc4 x1 x2 q)) (fun q=>Az19 g lf 12 [m1,m2] (qex x1 x2 q)) p:=by
  refine(qes rfl (qaq 20 _) qh8 qhm 16 [m1,m2] [m1,m2] rfl _).trans ((zj8 g (Az19 g lf) lf x1 x2 m1 m2 p).trans ?_);rfl
def qcd(lf:Nat)(x1:(List qab))(x2:(List Int))(K8:(Int × Int × Int × (List Int) × Int × (List qaa))->Option qan)(p:Int × Int × (List Int) × Int × ByteArray × (List DVal) × Int × (List qaa)):Option qan:=qru lf x1 x2 K8 p
theorem ze0(g:ElP [.dat (.list cForm),.dat (.list (.int .u8))]->Option qan)(lf:Nat)(x1:(List qab))(x2:(List Int))(m1:Nat)(p:Int × Int × (List Int) × Int × ByteArray × (List DVal) × Int × (List qaa)):Az19 g lf 21 [m1] (qnq x1 x2 p)=qcd lf x1 x2 (fun q=>Az19 g lf 8 [m1] (qc4 x1 x2 q)) p:=by
  refine(qes rfl (qaq 20 _) qh8 qhm 21 [m1] [m1] rfl _).trans ((zjz g (Az19 g lf) lf x1 x2 m1 p).trans ?_);rfl
def qdr(lf:Nat)(x1:(List qab))(x2:(List Int))(K8:(Int × Int × Int × (List Int) × Int × (List qaa))->Option qan):Nat->(Int × (List DCol) × ByteArray × Int × Int × (List Int) × Int × (List DVal) × Int × (List qaa))->Option qan:=rounds fun K p=>qc2 lf x1 x2 (fun q=>qci lf x1 x2 K8 K q) (fun q=>qcd lf x1 x2 K8 q) p
theorem q6j(g:ElP [.dat (.list cForm),.dat (.list (.int .u8))]->Option qan)(lf:Nat)(x1:(List qab))(x2:(List Int))(m1:Nat):∀(n:Nat) (p:Int × (List DCol) × ByteArray × Int × Int × (List Int) × Int × (List DVal) × Int × (List qaa)),Az19 g lf 12 [m1,n] (qex x1 x2 p)=qdr lf x1 x2 (fun q=>Az19 g lf 8 [m1] (qc4 x1 x2 q)) n p
 | 0,p=>qo3 12 [m1,0] rfl _
 | n+1,p=>by
  have ih:=q6j g lf x1 x2 m1 n;refine(qes rfl (qaq 20 _) qh8 qhm 12 [m1,n+1] [m1,n] rfl _).trans ((zgn g (Az19 g lf) lf x1 x2 m1 n p).trans ?_);rw[(show (fun q=>Az19 g lf 16 [m1,n] (qoj x1 x2 q))=(fun q=>qci lf x1 x2 (fun q=>Az19 g lf 8 [m1] (qc4 x1 x2 q)) (fun q=>Az19 g lf 12 [m1,n] (qex x1 x2 q)) q) from funext fun q=>zoc g lf x1 x2 m1 n q),(show (fun q=>Az19 g lf 21 [m1] (qnq x1 x2 q))=(fun q=>qcd lf x1 x2 (fun q=>Az19 g lf 8 [m1] (qc4 x1 x2 q)) q) from funext fun q=>ze0 g lf x1 x2 m1 q),(show (fun q=>Az19 g lf 12 [m1,n] (qex x1 x2 q))=(fun q=>qdr lf x1 x2 (fun q=>Az19 g lf 8 [m1] (qc4 x1 x2 q)) n q) from funext ih)];rfl
def qev(lf:Nat)(x1:(List qab))(x2:(List Int)):Nat->(Int × Int × Int × Int × (List Int) × (List qaa) × Int × (List DVal))->Option qan:=rounds fun K p=>qfe lf x1 x2 K p
theorem q2o(g:ElP [.dat (.list cForm),.dat (.list (.int .u8))]->Option qan)(lf:Nat)(x1:(List qab))(x2:(List Int)):∀(n:Nat) (p:Int × Int × Int × Int × (List Int) × (List qaa) × Int × (List DVal)),Az19 g lf 24 [n] (qie x1 x2 p)=qev lf x1 x2 n p
 | 0,p=>qo3 24 [0] rfl _
 | n+1,p=>by
  have ih:=q2o g lf x1 x2 n;refine(qes rfl (qaq 20 _) qh8 qhm 24 [n+1] [n] rfl _).trans ((zpi g (Az19 g lf) lf x1 x2 n p).trans ?_);rw[(show (fun q=>Az19 g lf 24 [n] (qie x1 x2 q))=(fun q=>qev lf x1 x2 n q) from funext ih)];rfl
def qiz(lf:Nat)(x1:(List qab))(x2:(List Int)):Nat->(Int × Int × Int × (List Int) × Int × (List qaa))->Option qan:=rounds fun K p=>qew lf x1 x2 (fun q=>qdr lf x1 x2 K lf q) (fun q=>qev lf x1 x2 lf q) p
theorem q0a(g:ElP [.dat (.list cForm),.dat (.list (.int .u8))]->Option qan)(lf:Nat)(x1:(List qab))(x2:(List Int)):∀(n:Nat) (p:Int × Int × Int × (List Int) × Int × (List qaa)),Az19 g lf 8 [n] (qc4 x1 x2 p)=qiz lf x1 x2 n p
 | 0,p=>qo3 8 [0] rfl _
 | n+1,p=>by
  have ih:=q0a g lf x1 x2 n;refine(qes rfl (qaq 20 _) qh8 qhm 8 [n+1] [n] rfl _).trans ((zbc g (Az19 g lf) lf x1 x2 n p).trans ?_);rw[(show (fun q=>Az19 g lf 12 [n,lf] (qex x1 x2 q))=(fun q=>qdr lf x1 x2 (fun q=>Az19 g lf 8 [n] (qc4 x1 x2 q)) lf q) from funext fun q=>q6j g lf x1 x2 n lf q),(show (fun q=>Az19 g lf 24 [lf] (qie x1 x2 q))=(fun q=>qev lf x1 x2 lf q) from funext fun q=>q2o g lf x1 x2 lf q),(show (fun q=>Az19 g lf 8 [n] (qc4 x1 x2 q))=(fun q=>qiz lf x1 x2 n q) from funext ih)];rfl
def Fz19(lf:Nat)(x1:(List qab))(x2:(List Int)):Option qan:=qrl lf x1 x2 (fun q=>qiz lf x1 x2 lf q)
theorem zle(g:ElP [.dat (.list cForm),.dat (.list (.int .u8))]->Option qan)(lf:Nat)(x1:(List qab))(x2:(List Int)):qbl Try.prog ttT.get qdx (mP [.dat (.list cForm),.dat (.list (.int .u8))]) qbc.nt (qfu _ lf) lf qeg (Az19 g lf) qbc.body [] (qao (qag [.dat (.list cForm),.dat (.list (.int .u8))] idN 0 (x1,x2,())) 0 .leaf) (Sc [.dat (.list cForm),.dat (.list (.int .u8))] (x1,x2,())) [] (qbw ttT.get qbc ⟨[.dat (.list cForm),.dat (.list (.int .u8))],[(false,cGraph)],171,[(.int .i64)],g⟩)=Fz19 lf x1 x2:=by
  refine(zjc g (Az19 g lf) lf x1 x2).trans ?_;rw[(show (fun q=>Az19 g lf 8 [lf] (qc4 x1 x2 q))=(fun q=>qiz lf x1 x2 lf q) from funext fun q=>q0a g lf x1 x2 lf q)];rfl
theorem zee(hp_p_decode_2:ConP Try.prog 141 qn9):qa4 Try.prog qvz:=⟨zhq hp_p_decode_2,trivial⟩
theorem zk5{g:ElP [.dat (.list cForm),.dat (.list (.int .u8))]->Option qan}(hsm:SmOK Try.prog qtn)(hp_p_decode_2:ConP Try.prog 141 qn9)(hg:∀(x:ElP [.dat (.list cForm),.dat (.list (.int .u8))]) (y:qan),WfP [.dat (.list cForm),.dat (.list (.int .u8))] x->g x=some y->∃lf,Fz19 lf x.1 x.2.1=some y):ConP Try.prog 120 ⟨[.dat (.list cForm),.dat (.list (.int .u8))],[(false,cGraph)],171,[(.int .i64)],g⟩ :=
 conTP (nmf:=qdx) (sml:=qtn) (hxl:=qvz) (st:=qeg) (hd:=qu7) 20 qcl ttOK ftOK hsm (zee hp_p_decode_2) zn7 (by kernel_rfl) (fun x=>by kernel_rfl) qh8 qhm fun x y hx hy=>by
  obtain⟨lf,h⟩:=hg x y hx hy;exact⟨lf,(zle g lf x.1 x.2.1).trans h⟩
namespace S
def rdV(m:Int)(k:Int)(l:List Int):Option (DVal × List Int) :=
 if k=1 then (match rd (-1099511627776) 1099511627776 l with|some (n,r)=>some ((1,n),r)|none=>none)
 else if k=2 then (match rd 0 1 l with|some (n,r)=>some ((2,n),r)|none=>none)
 else match rd 0 m l with|some (n,r)=>some (if 0<n then (4,n-1) else (3,0),r)|none=>none
def decVs(N:Nat)(m:Int):List DCol->List Int->Int ⊕ (List DVal × List Int)
 | [],l=>.inr ([],l)
 | c::cs,l=>match rdV m c.2.1 l with
  | none=>.inl (Int.ofNat (N-l.length))
  | some (v,r)=>match decVs N m cs r with
   | .inl e=>.inl e
   | .inr (vs,r')=>.inr (v::vs,r')
def decNs(N:Nat)(F:List qab)(m:Int):Nat->List Int->Int ⊕ (List qaa × List Int)
 | 0,l=>.inr ([],l)
 | k+1,l=>match rd 0 (Int.ofNat F.length-1) l with
  | none=>.inl (Int.ofNat (N-l.length))
  | some (i,r)=>match F[i.toNat]? with
   | none=>.inl 0
   | some f=>match decVs N m f.2 r with
    | .inl e=>.inl e
    | .inr (vs,r')=>match decNs N F m k r' with
     | .inl e=>.inl e
     | .inr (ns,r'')=>.inr ((f.1,vs)::ns,r'')
def decRs(N:Nat)(m:Int):Nat->List Int->Int ⊕ (List DVal × List Int)
 | 0,l=>.inr ([],l)
 | k+1,l=>match rdV m 0 l with
  | none=>.inl (Int.ofNat (N-l.length))
  | some (v,r)=>match decRs N m k r with
   | .inl e=>.inl e
   | .inr (vs,r')=>.inr (v::vs,r')
def dec(F:List qab)(b:List Int):Int ⊕ qac :=
 match rd 0 400 b with
 | none=>.inl (Int.ofNat (b.length-b.length))
 | some (m,l)=>match decNs b.length F m m.toNat l with
  | .inl e=>.inl e
  | .inr (ns,l)=>match rd 0 60 l with
   | none=>.inl (Int.ofNat (b.length-l.length))
   | some (k,l)=>match decRs b.length m k.toNat l with
    | .inl e=>.inl e
    | .inr (rs,l)=>if l=[] then .inr (ns,rs) else .inl (Int.ofNat (b.length-l.length))
end S
def zf0:SmP:=⟨[.dat (.list cForm),.dat (.list (.int .u8))],[(false,cGraph)],171,[(.int .i64)],fun x=>match S.dec x.1 x.2.1 with
 | .inl e=>some (Sum.inl (e,()))
 | .inr g=>some (Sum.inr ((g,()),()))⟩
theorem qc3{lo hi n:Int}{l r:List Int}(h:S.rd lo hi l=some (n,r)):r <:+ l/\lo<=n/\n<=hi:=by
 unfold S.rd at h;split at h<;>try cases h
 split at h<;>cases h;rename_i u hc hu;refine⟨?_,hc⟩;have:∀(n:Nat) (f:Bool) (l:List Int) (u:Int) (r:List Int),S.rdU f n l=some (u,r)->r <:+ l:=by
  intro n;induction n with
  | zero=>intro f l u r h;simp [S.rdU] at h
  | succ n ih =>
   intro f l u r h;cases l with
   | nil=>simp [S.rdU] at h
   | cons c l =>
    unfold S.rdU at h;split at h
    ·split at h<;>cases h;exact List.suffix_cons _ _
    ·split at h<;>cases h;rename_i hu;exact(ih _ _ _ _ hu).trans (List.suffix_cons _ _)
 exact this _ _ _ _ _ hu
theorem qmw{b l:List Int}(h:l <:+ b):List.drop (Int.toNat (Int.ofNat (b.length-l.length))) b=l:=by
 obtain⟨p,rfl⟩:=h;show List.drop ((p++l).length-l.length) (p++l)=l;rw[jao,Nat.add_sub_cancel,List.drop_left]
theorem qn5{b l:List Int}:iltI (Int.ofNat (b.length-l.length)) (Int.ofNat 0)=false:=by rw[qam];exact jai (by show ¬(((b.length-l.length:Nat):Int)<0);omega)
theorem qqp{b l:List Int}:iltI (Int.ofNat b.length) (Int.ofNat (b.length-l.length))=false:=by rw[qam];exact jai (by show ¬((b.length:Int)<((b.length-l.length:Nat):Int));omega)
theorem qzi{m:Nat}(h:m<=3600000000000):Nat.ble (Nat.mul (Nat.add m 1) 16) 140737488355328=true:=jby (by show (m+1)*16<=_;omega)
theorem zeh{m:Nat}(h:m<=1000000000000):Nat.ble (Nat.mul (Nat.add m 1) 40) 140737488355328=true:=jby (by show (m+1)*40<=_;omega)
theorem qu5{k:Nat}(h:k<=1000000000000000):IntKind.i64.wrap (Int.add (Int.ofNat k) (Int.ofNat 1))=Int.ofNat (k+1):=by
 rw[show Int.add (Int.ofNat k) (Int.ofNat 1)=((k+1:Nat):Int) from rfl,w64 (by omega) (by omega)];rfl
section
variable {F : List qab} {b : List Int}
theorem zhh(K8:(Int × Int × Int × (List Int) × Int × (List qaa))->Option qan)(K:(Int × (List DCol) × ByteArray × Int × Int × (List Int) × Int × (List DVal) × Int × (List qaa))->Option qan){l:List Int}(hs:l <:+ b)(m:Int)(hm0:0<=m)(hm:m<=400)(cs:List DCol)(nm:ByteArray)(be kd:Int)(j:Nat)(vs:List DVal)(i0:Int)(ns:List qaa)(hv:vs.length<=3600000000000)(hj:j<=1000000000000000) :
  qci LF F b K8 K (Int.ofNat (b.length-l.length),m,cs,b,nm,be,kd,Int.ofNat j,vs,i0,ns)=(match S.rdV m kd l with
   | none=>some (Sum.inl (Int.ofNat (b.length-l.length),()))
   | some (v,r)=>K (m,cs,nm,Int.ofNat (b.length-r.length),Int.ofNat (b.length-l.length),b,Int.ofNat (j+1),vs++[v],i0,ns)):=by
 simp only[qci,qrz,qn5,qqp,qmw hs,ja9,je4,jaa,qzi hv,qu5 hj,qaw];unfold S.rdV;by_cases h1:kd=1
 ·rw[jak (show kd=Int.ofNat 1 from h1),jaa,jaq h1];rw[show S.rd (Int.negSucc 1099511627775) (Int.ofNat 1099511627776) l=S.rd (-1099511627776) 1099511627776 l from rfl];cases hr:S.rd (-1099511627776) 1099511627776 l with
  | none=>rfl
  | some q=>rfl
 ·rw[jai (show ¬kd=Int.ofNat 1 from h1),jae,jal h1];by_cases h2:kd=2
  ·rw[jak (show kd=Int.ofNat 2 from h2),jaa,jaq h2];rw[show S.rd (Int.ofNat 0) (Int.ofNat 1) l=S.rd 0 1 l from rfl];cases hr:S.rd 0 1 l with
   | none=>rfl
   | some q=>rfl
  ·rw[jai (show ¬kd=Int.ofNat 2 from h2),jae,jal h2];rw[show S.rd (Int.ofNat 0) m l=S.rd 0 m l from rfl];cases hr:S.rd 0 m l with
   | none=>rfl
   | some q =>
    obtain⟨n,r⟩:=q;obtain⟨_,hn0,hn1⟩:=qc3 hr;simp only[qam];by_cases hn:0<n
    ·rw[jak (show Int.ofNat 0<n from hn),jaa,jaq hn,show Int.sub n (Int.ofNat 1)=n-1 from rfl,w64 (by omega) (by omega)];rfl
    ·rw[jai (show ¬Int.ofNat 0<n from hn),jae,jal hn];rfl
theorem zl8{m k:Int}{l r:List Int}{v:DVal}(h:S.rdV m k l=some (v,r)):r <:+ l:=by
 unfold S.rdV at h;split at h
 ·split at h<;>cases h;rename_i hr;exact(qc3 hr).1
 ·split at h
  ·split at h<;>cases h;rename_i hr;exact(qc3 hr).1
  ·split at h<;>cases h;rename_i hr;exact(qc3 hr).1
theorem zlf(K8:(Int × Int × Int × (List Int) × Int × (List qaa))->Option qan)(m:Int)(hm0:0<=m)(hm:m<=400)(nm:ByteArray)(i0:Int)(ns:List qaa)(cs:List DCol)(hc:cs.length<=3600000000000){l:List Int}(hs:l <:+ b)(be:Int) :
  (∃e,S.decVs b.length m cs l=.inl e/\qdr LF F b K8 LF (m,cs,nm,Int.ofNat (b.length-l.length),be,b,Int.ofNat 0,[],i0,ns)=some (Sum.inl (e,()))) \/
  ∃vs r be',S.decVs b.length m cs l=.inr (vs,r)/\r <:+ b/\qdr LF F b K8 LF (m,cs,nm,Int.ofNat (b.length-l.length),be,b,Int.ofNat 0,[],i0,ns)=qcd LF F b K8 (Int.ofNat (b.length-r.length),m,b,be',nm,vs,i0,ns):=by
 have key:∀(rest done:List DCol),cs=done++rest->∀(n:Nat) (l:List Int) (be:Int) (vs:List DVal),l <:+ b->rest.length<n->vs.length=done.length ->
   (∃e,S.decVs b.length m rest l=.inl e/\rounds (fun K p=>qc2 LF F b (fun q=>qci LF F b K8 K q) (fun q=>qcd LF F b K8 q) p) n (m,cs,nm,Int.ofNat (b.length-l.length),be,b,Int.ofNat done.length,vs,i0,ns)=some (Sum.inl (e,()))) \/
   ∃vs' r be',S.decVs b.length m rest l=.inr (vs',r)/\r <:+ b/\rounds (fun K p=>qc2 LF F b (fun q=>qci LF F b K8 K q) (fun q=>qcd LF F b K8 q) p) n (m,cs,nm,Int.ofNat (b.length-l.length),be,b,Int.ofNat done.length,vs,i0,ns)=qcd LF F b K8 (Int.ofNat (b.length-r.length),m,b,be',nm,vs++vs',i0,ns):=by
  intro rest;induction rest with
  | nil =>
   intro done hd n l be vs hs hn hv;cases n with
   | zero=>simp at hn
   | succ n =>
    right;refine⟨[],l,be,rfl,hs,?_⟩;show qc2 LF F b (fun q=>qci LF F b K8 (rounds (fun K p=>qc2 LF F b (fun q=>qci LF F b K8 K q) (fun q=>qcd LF F b K8 q) p) n) q) (fun q=>qcd LF F b K8 q) _=_;generalize rounds (fun K p=>qc2 LF F b (fun q=>qci LF F b K8 K q) (fun q=>qcd LF F b K8 q) p) n=Z;rw[jbp] at hd;subst hd;simp only[qc2,qbd,jae,jbp]
  | cons c rest ih =>
   intro done hd n l be vs hs hn hv;cases n with
   | zero=>simp at hn
   | succ n =>
    have hlen:cs.length=done.length+(rest.length+1):=by rw[hd];simp
    have ih:=fun l' be' vs' h1 h3=>ih (done++[c]) (by rw[hd];simp) n l' be' vs' h1 (by simp at hn;omega) h3;rw[show (Int.ofNat (done++[c]).length)=Int.ofNat (done.length+1) by simp] at ih;have hunf:rounds (fun K p=>qc2 LF F b (fun q=>qci LF F b K8 K q) (fun q=>qcd LF F b K8 q) p) (n+1) (m,cs,nm,Int.ofNat (b.length-l.length),be,b,Int.ofNat done.length,vs,i0,ns)=qc2 LF F b (fun q=>qci LF F b K8 (rounds (fun K p=>qc2 LF F b (fun q=>qci LF F b K8 K q) (fun q=>qcd LF F b K8 q) p) n) q) (fun q=>qcd LF F b K8 q) (m,cs,nm,Int.ofNat (b.length-l.length),be,b,Int.ofNat done.length,vs,i0,ns):=rfl;rw[hunf];generalize rounds (fun K p=>qc2 LF F b (fun q=>qci LF F b K8 K q) (fun q=>qcd LF F b K8 q) p) n=Z at ih ⊢;have hlt:iltI (Int.ofNat done.length) (Int.ofNat cs.length)=true:=by rw[qam];exact jak (by show ((done.length:Nat):Int)<((cs.length:Nat):Int);omega)
    have hget:jget cs (Int.ofNat done.length)=some c:=by rw[qc9,hd];simp
    simp only[qc2,hlt,jaa,hget];rw[zhh K8 Z hs m hm0 hm cs nm be c.2.1 done.length vs i0 ns (by omega) (by omega)];cases hr:S.rdV m c.2.1 l with
    | none =>
     left;exact⟨_,by simp only[S.decVs,hr],rfl⟩
    | some q =>
     obtain⟨v,r⟩:=q;have hs':=(zl8 hr).trans hs;rcases ih r (Int.ofNat (b.length-l.length)) (vs++[v]) hs' (by simp[hv]) with ⟨e,h1,h2⟩|⟨vs',r',be',h1,h2,h3⟩
     ·left;exact⟨e,by simp only[S.decVs,hr,h1],h2⟩
     ·right;exact⟨v::vs',r',be',by simp only[S.decVs,hr,h1],h2,by refine h3.trans ?_;rw[jbo];rfl⟩
 have:=key cs [] rfl LF l be [] hs (by unfold LF;omega) rfl;simp only[qdr];simpa only [jc7,jcw] using this
end
section
variable {F : List qab} {b : List Int}
def finR(N:Nat)(ns:List qaa)(rs:List DVal):Int ⊕ (List DVal × List Int)->Option qan
 | .inl e=>some (Sum.inl (e,()))
 | .inr (vs,r)=>if r=[] then some (Sum.inr (((ns,rs++vs),()),())) else some (Sum.inl (Int.ofNat (N-r.length),()))
theorem qy5(m:Int)(hm0:0<=m)(hm:m<=400)(ns:List qaa)(cnt:Nat)(hcnt:cnt<=60):∀(k n j:Nat) (l:List Int) (be:Int) (rs:List DVal),j+k=cnt->k<n->l <:+ b->rs.length<=j ->
  rounds (fun K p=>qfe LF F b K p) n (m,Int.ofNat cnt,Int.ofNat (b.length-l.length),be,b,ns,Int.ofNat j,rs)=finR b.length ns rs (S.decRs b.length m k l)
 | k,0,j,l,be,rs,h1,h2,h3,h4=>by omega
 | k,n+1,j,l,be,rs,h1,h2,h3,h4=>by
  have ih:=fun k'=>qy5 m hm0 hm ns cnt hcnt k' n;show qfe LF F b (rounds (fun K p=>qfe LF F b K p) n) _=_;generalize rounds (fun K p=>qfe LF F b K p) n=Z at ih ⊢;cases k with
  | zero =>
   have e:iltI (Int.ofNat j) (Int.ofNat cnt)=false:=by rw[qam];exact jai (by show ¬((j:Int)<(cnt:Int));omega)
   simp only[qfe,e,jae,S.decRs,finR,qaw,jbp];have hl:=h3.length_le;by_cases hz:l=[]
   ·subst hz;rw[jak (by simp),jaq rfl];rfl
   ·have:0<l.length:=List.length_pos_iff.2 hz;rw[jai (by show ¬(((b.length-l.length:Nat):Int)=(b.length:Int));omega),jal hz];rfl
  | succ k =>
   have e:iltI (Int.ofNat j) (Int.ofNat cnt)=true:=by rw[qam];exact jak (by show ((j:Int)<(cnt:Int));omega)
   simp only[qfe,e,jaa,qn5,qqp,qmw h3,ja9,je4,qzi (m:=rs.length) (by omega),qu5 (k:=j) (by omega)];rw[show S.rd (Int.ofNat 0) m l=S.rd 0 m l from rfl];have hV:S.rdV m 0 l=(match S.rd 0 m l with|some (n,r)=>some (if 0<n then (4,n-1) else (3,0),r)|none=>none):=rfl;cases hr:S.rd 0 m l with
   | none =>
    rw[hr] at hV;simp only[S.decRs,hV];rfl
   | some q =>
    obtain⟨v,r⟩:=q;rw[hr] at hV;obtain⟨hs,hn0,hn1⟩:=qc3 hr;simp only[S.decRs,hV,qam]
    have key:∀(w:DVal),Z (m,Int.ofNat cnt,Int.ofNat (b.length-r.length),Int.ofNat (b.length-l.length),b,ns,Int.ofNat (j+1),rs++[w])=finR b.length ns rs (match S.decRs b.length m k r with
      | .inl e=>.inl e
      | .inr (vs,r')=>.inr (w::vs,r')):=fun w=>by
     rw[ih k (j+1) r (Int.ofNat (b.length-l.length)) (rs++[w]) (by omega) (by omega) (hs.trans h3) (by simp;omega)];cases S.decRs b.length m k r with
     | inl e=>rfl
     | inr q=>simp only[finR,jbo];rfl
    by_cases hn:0<v
    ·rw[jak (show Int.ofNat 0<v from hn),jaa,jaq hn,show Int.sub v (Int.ofNat 1)=v-1 from rfl,w64 (by omega) (by omega)];exact key _
    ·rw[jai (show ¬Int.ofNat 0<v from hn),jae,jal hn];exact key _
def finN(N:Nat)(m:Int)(ns:List qaa):Int ⊕ (List qaa × List Int)->Option qan
 | .inl e=>some (Sum.inl (e,()))
 | .inr (vs,r)=>match S.rd 0 60 r with
  | none=>some (Sum.inl (Int.ofNat (N-r.length),()))
  | some (k,r')=>finR N (ns++vs) [] (S.decRs N m k.toNat r')
theorem dec8(hF:∀f∈F,f.2.length<=3600000000000)(hFl:F.length<=3600000000000)(M:Nat)(hM:M<=400):∀(k n i:Nat) (l:List Int) (be:Int) (ns:List qaa),i+k=M->k<n->l <:+ b->ns.length<=i ->
  rounds (fun K p=>qew LF F b (fun q=>qdr LF F b K LF q) (fun q=>qev LF F b LF q) p) n (Int.ofNat M,Int.ofNat (b.length-l.length),be,b,Int.ofNat i,ns)=finN b.length (Int.ofNat M) ns (S.decNs b.length F (Int.ofNat M) k l)
 | k,0,i,l,be,ns,h1,h2,h3,h4=>by omega
 | k,n+1,i,l,be,ns,h1,h2,h3,h4=>by
  have ih:=fun k'=>dec8 hF hFl M hM k' n;show qew LF F b (fun q=>qdr LF F b (rounds (fun K p=>qew LF F b (fun q=>qdr LF F b K LF q) (fun q=>qev LF F b LF q) p) n) LF q) (fun q=>qev LF F b LF q) _=_;generalize rounds (fun K p=>qew LF F b (fun q=>qdr LF F b K LF q) (fun q=>qev LF F b LF q) p) n=Z at ih ⊢;cases k with
  | zero =>
   have e:iltI (Int.ofNat i) (Int.ofNat M)=false:=by rw[qam];exact jai (by show ¬((i:Int)<(M:Int));omega)
   simp only[qew,e,jae,qn5,qqp,qmw h3,ja9,je4,jaa,S.decNs,finN,jbp];rw[show S.rd (Int.ofNat 0) (Int.ofNat 60) l=S.rd 0 60 l from rfl];cases hr:S.rd 0 60 l with
   | none=>rfl
   | some q =>
    obtain⟨v,r⟩:=q;obtain⟨hs,hn0,hn1⟩:=qc3 hr;obtain⟨c,rfl⟩:∃c:Nat,v=Int.ofNat c:=⟨v.toNat,by show v=((v.toNat:Nat):Int);omega⟩;have hc:c<=60:=by have:(c:Int)<=60:=hn1;omega
    have:=qy5 (F:=F) (b:=b) (Int.ofNat M) (jcy M) (by show (M:Int)<=400;omega) ns c hc c LF 0 r (Int.ofNat (b.length-l.length)) [] (by omega) (by unfold LF;omega) (hs.trans h3) (by simp);simp only[qev];exact this
  | succ k =>
   have e:iltI (Int.ofNat i) (Int.ofNat M)=true:=by rw[qam];exact jak (by show ((i:Int)<(M:Int));omega)
   have ew:IntKind.i64.wrap (Int.sub (Int.ofNat F.length) (Int.ofNat 1))=Int.ofNat F.length-1:=w64 (by show -4611686018427387904<=(F.length:Int)-1;omega) (by show (F.length:Int)-1<=4611686018427387904;omega);simp only[qew,e,jaa,qn5,qqp,qmw h3,ja9,je4,ew];rw[show S.rd (Int.ofNat 0) (Int.ofNat F.length-1) l=S.rd 0 (Int.ofNat F.length-1) l from rfl];simp only[S.decNs];cases hr:S.rd 0 (Int.ofNat F.length-1) l with
   | none=>rfl
   | some q =>
    obtain⟨v,r⟩:=q;obtain⟨hs,hn0,hn1⟩:=qc3 hr;have hn1:v<=(F.length:Int)-1:=hn1;have hg:jget F v=F[v.toNat]?:=by unfold jget;rw[jaq hn0]
    have hlt:v.toNat<F.length:=by omega
    simp only[hg,jac hlt];have hmem:F[v.toNat]∈F:=ja4 hlt;generalize F[v.toNat]=f at hmem ⊢;rcases zlf (F:=F) (b:=b) Z (Int.ofNat M) (jcy M) (by show (M:Int)<=400;omega) f.1 (Int.ofNat i) ns f.2 (hF f hmem) (hs.trans h3) (Int.ofNat (b.length-l.length)) with ⟨e,g1,g2⟩|⟨vs,r',be',g1,g2,g3⟩
    ·rw[g1];exact g2
    ·rw[g1];refine jd3 g3 ?_;simp only[qcd,qru,zeh (m:=ns.length) (by omega),jaa,qu5 (k:=i) (by omega)];have:=ih k (i+1) r' be' (ns++[(f.1,vs)]) (by omega) (by omega) g2 (by simp;omega);refine this.trans ?_;cases S.decNs b.length F (Int.ofNat M) k r' with
     | inl e=>rfl
     | inr q=>simp only[finN,jbo];rfl
theorem q80(hF:∀f∈F,f.2.length<=3600000000000)(hFl:F.length<=3600000000000):Fz19 LF F b=(match S.dec F b with
  | .inl e=>some (Sum.inl (e,()))
  | .inr g=>some (Sum.inr ((g,()),()))):=by
 simp only[Fz19,qrl];have e0:iltI (Int.ofNat b.length) (Int.ofNat 0)=false:=by rw[qam];exact jai (by show ¬((b.length:Int)<0);omega)
 rw[e0,ja9,jaa,jcv,show S.rd (Int.ofNat 0) (Int.ofNat 400) b=S.rd 0 400 b from rfl];unfold S.dec;cases hr:S.rd 0 400 b with
 | none=>simp only[jek]
 | some q =>
  obtain⟨v,r⟩:=q;obtain⟨hs,hn0,hn1⟩:=qc3 hr;obtain⟨M,rfl⟩:∃c:Nat,v=Int.ofNat c:=⟨v.toNat,by show v=((v.toNat:Nat):Int);omega⟩;have hM:M<=400:=by have:(M:Int)<=400:=hn1;omega
  have:=dec8 (F:=F) (b:=b) hF hFl M hM M LF 0 r (Int.ofNat 0) [] (by omega) (by unfold LF;omega) hs (by simp);simp only[qiz];refine jd3 this ?_;rw[show Int.toNat (Int.ofNat M)=M from rfl];cases S.decNs b.length F (Int.ofNat M) M r with
  | inl e=>rfl
  | inr q =>
   obtain⟨ns,l⟩:=q;simp only[finN,jc7];cases S.rd 0 60 l with
   | none=>rfl
   | some q =>
    obtain⟨k,l2⟩:=q;simp only;cases S.decRs b.length (Int.ofNat M) k.toNat l2 with
    | inl e=>rfl
    | inr q =>
     obtain⟨rs,l3⟩:=q;simp only[finR,jc7];by_cases hz:l3=[]
     ·rw[jaq hz,jaq hz]
     ·rw[jal hz,jal hz]
end
theorem q0c:ConP Try.prog 120 zf0:=zk5 trivial zjp fun x y hx h=>⟨LF,by
 obtain⟨(F:List qab),(b:List Int),_⟩:=x;obtain⟨hwF,hwb,_⟩:=hx;have hFl:F.length<=3600000000000:=by have:=hwF.1;rw[show Jx.bsz cForm=40 from rfl] at this;have:F.length*40<=140737488355328:=this;omega
 have hF:∀f,f∈F->f.2.length<=3600000000000:=fun f hf=>by
  have:=(hwF.2 f hf).2.1;rw[show Jx.bsz cCol=40 from rfl] at this;have:f.2.length*40<=140737488355328:=this;omega
 exact(q80 (F:=F) (b:=b) hF hFl).trans h⟩
end Go.Proofs.Ytcnhjofpmpipfaa
end

section
set_option maxRecDepth 100000
set_option maxHeartbeats 4000000
namespace Go.Proofs.Ytcnhjofpmpipfaa
open Go Go.Sx Go.RowKit Go.Jx
def w3(w:World):World:=((w.alloc (.cells #[.slice none 0 0,.slice none 0 0] 26)).alloc (.cells #[.int .i64 0] 3)).alloc (.cells #[.bool false] 4)
theorem zje(p q r:Addr)(w:World) :
  CallsD Try.prog 119 #[.pointer (some p),.pointer (some q),.pointer (some r)] .returning w fun e u' w'=>e=.returned (.tuple #[])/\u'=.returning/\w'=w:=by
 refine callsD_of_wpS Try.func119 rfl fun c₀ cs hu=>?_;apply wpS_seq;apply wpS_region;simp[wpOpsS,go_sem,recoverD,hu,Try.ntmps119,Exit.thenS];apply wpS_seq;apply wpS_region;simp[wpOpsS,go_sem,Exit.thenS];refine wpS_cond (t:=false) (by simp[Act.eval,Array.replicate]) ?_;simp only[ja6,jbj];refine wpS_of_wp (wp_skip ?_);cases c₀
 simp_all [bodyPostS,results,Try.results119,Exit.thenS]
structure Bx3 (n:Nat) (w:World):Prop where
 c00:w.cell? { block:=n,off:=0 }=some (.slice none 0 0)
 c01:w.cell? { block:=n,off:=1 }=some (.slice none 0 0)
 c1:w.cell? { block:=n+1,off:=0 }=some (.int .i64 0)
 c2:w.cell? { block:=n+1+1,off:=0 }=some (.bool false)
 f00:w.frozen? { block:=n,off:=0 }=false
 f01:w.frozen? { block:=n,off:=1 }=false
 f1:w.frozen? { block:=n+1,off:=0 }=false
 f2:w.frozen? { block:=n+1+1,off:=0 }=false
 h0:w.heap[n]?=some (.cells #[.slice none 0 0,.slice none 0 0] 26)
 h1:w.heap[n+1]?=some (.cells #[.int .i64 0] 3)
 h2:w.heap[n+1+1]?=some (.cells #[.bool false] 4)
theorem Bx3.of{n:Nat}{w:World}(h0:w.heap[n]?=some (.cells #[.slice none 0 0,.slice none 0 0] 26))(h1:w.heap[n+1]?=some (.cells #[.int .i64 0] 3))(h2:w.heap[n+1+1]?=some (.cells #[.bool false] 4)):Bx3 n w:=by
 constructor<;>simp [World.cell?,World.frozen?,h0,h1,h2]
theorem Bx3.alloc{n:Nat}{w:World}(h:Bx3 n w)(o:Obj):Bx3 n (w.alloc o):=by
 obtain⟨_,_,_,_,_,_,_,_,h0,h1,h2⟩:=h;have l0:n<w.heap.size:=qat h0;have l1:n+1<w.heap.size:=qat h1;have l2:n+1+1<w.heap.size:=qat h2;refine Bx3.of ?_ ?_ ?_
 ·rw[<- h0];simp only[World.alloc,jb7];rw[jal (by omega)]
 ·rw[<- h1];simp only[World.alloc,jb7];rw[jal (by omega)]
 ·rw[<- h2];simp only[World.alloc,jb7];rw[jal (by omega)]
def retW(n:Nat)(a1 a2:Option Addr)(l1 c1 l2 c2:Nat)(w1:World):World :=
 (((w1.setCell { block:=n,off:=0 } (.slice a1 l1 c1)).setCell { block:=n,off:=1 } (.slice a2 l2 c2)).setCell { block:=n+1,off:=0 } (.int .i64 0)).setCell { block:=n+1+1,off:=0 } (.bool true)
theorem q33{n:Nat}{W:World}{x y u v:Value}{tmps:Array Value}(h:(tmps[4]?.getD undef=.pointer (some ⟨n,0,none⟩)/\tmps[5]?.getD undef=.pointer (some ⟨n+1,0,none⟩)/\tmps[6]?.getD undef=.pointer (some ⟨n+1+1,0,none⟩))/\W.cell? { block:=n,off:=0 }=some x/\W.cell? { block:=n,off:=1 }=some y/\W.cell? { block:=n+1,off:=0 }=some u/\W.cell? { block:=n+1+1,off:=0 }=some v) :
  (results Try.f87 tmps).run Try.prog W=.ok (.tuple #[.agg #[x,y],u,v]) W:=by
 obtain⟨⟨t4,t5,t6⟩,h1,h2,h3,h4⟩:=h;simp[results,Try.results87,go_sem,t4,t5,t6,h1,h2,h3,h4]
theorem zb2{n:Nat}{a1 a2:Option Addr}{l1 c1 l2 c2:Nat}{w1:World}(h:Bx3 n w1):(retW n a1 a2 l1 c1 l2 c2 w1).cell? { block:=n,off:=0 }=some (.slice a1 l1 c1)/\(retW n a1 a2 l1 c1 l2 c2 w1).cell? { block:=n,off:=1 }=some (.slice a2 l2 c2)/\(retW n a1 a2 l1 c1 l2 c2 w1).cell? { block:=n+1,off:=0 }=some (.int .i64 0)/\(retW n a1 a2 l1 c1 l2 c2 w1).cell? { block:=n+1+1,off:=0 }=some (.bool true):=by
 obtain⟨_,_,_,_,_,_,_,_,h0,h1,h2⟩:=h;have n1:¬n=n+1+1:=by omega
 have n2:¬n+1+1=n:=by omega
 refine⟨?_,?_,?_,?_⟩<;>simp [retW,World.cell?,World.setCell,jb3,h0,h1,h2,n1,n2]
theorem zf7(ul ub:Value)(w:World)(Q:Option Addr->Nat->Nat->Option Addr->Nat->Nat->World->Prop)(h:Calls Try.prog 120 #[ul,ub] (w3 w) fun e w'=>∃a1 l1 c1 a2 l2 c2,e=.returned (.agg #[.slice a1 l1 c1,.slice a2 l2 c2])/\Q a1 l1 c1 a2 l2 c2 w')
 (h0:∀a1 l1 c1 a2 l2 c2 w',Q a1 l1 c1 a2 l2 c2 w'->Bx3 w.heap.size w'):Calls Try.prog 87 #[ul,ub] w fun e w'=>∃a1 l1 c1 a2 l2 c2 w1,Q a1 l1 c1 a2 l2 c2 w1/\e=.returned (.tuple #[.agg #[.slice a1 l1 c1,.slice a2 l2 c2],.int .i64 0,.bool true])/\w'=retW w.heap.size a1 a2 l1 c1 l2 c2 w1:=by
 go_enter_defers Try.func87,Try.ntmps87
 go_wp2_with (go_at_call 120;refine h.mono ?_;rintro e w' ⟨a1,l1,c1,a2,l2,c2,rfl,hq⟩;obtain⟨k00,k01,k1,k2,f00,f01,f1,f2,_,_,_⟩:=h0 _ _ _ _ _ _ w' hq)
 refine leaves_cons (f:=119) (args:=#[.pointer (some ⟨w.heap.size,0,none⟩),.pointer (some ⟨w.heap.size+1,0,none⟩),.pointer (some ⟨w.heap.size+1+1,0,none⟩)]) (by simp) (by simp[go_sem]) ?_;refine(zje ⟨w.heap.size,0,none⟩ ⟨w.heap.size+1,0,none⟩ ⟨w.heap.size+1+1,0,none⟩ _).mono ?_;rintro e u' w'' ⟨rfl,rfl,rfl⟩;exact⟨_,q33 ⟨⟨rfl,rfl,rfl⟩,zb2 (w1:=w') (h0 _ _ _ _ _ _ w' hq)⟩,_,_,_,_,_,_,w',hq,rfl,rfl⟩
def panW(n:Nat)(k:Int)(w:World):World :=
 (((((w.alloc (.cells #[.int .i64 k] 171)).setCell { block:=n,off:=0 } (.slice none 0 0)).setCell { block:=n,off:=1 } (.slice none 0 0)).setCell { block:=n+1,off:=0 } (.int .i64 k)).setCell { block:=n+1+1,off:=0 } (.bool false)).drew
theorem zeg{n:Nat}{k:Int}{w:World}(h:Bx3 n w):(panW n k w).cell? { block:=n,off:=0 }=some (.slice none 0 0)/\(panW n k w).cell? { block:=n,off:=1 }=some (.slice none 0 0)/\(panW n k w).cell? { block:=n+1,off:=0 }=some (.int .i64 k)/\(panW n k w).cell? { block:=n+1+1,off:=0 }=some (.bool false):=by
 have hb1:=h.alloc (.cells #[.int .i64 k] 171);unfold panW;generalize w.alloc (.cells #[.int .i64 k] 171)=W at hb1 ⊢;obtain⟨_,_,_,_,_,_,_,_,h0,h1,h2⟩:=hb1;have n1:¬n=n+1+1:=by omega
 have n2:¬n+1+1=n:=by omega
 refine⟨?_,?_,?_,?_⟩<;>simp [World.cell?,World.drew,World.setCell,jb3,h0,h1,h2,n1,n2]
theorem zqh(n:Nat)(k:Int)(w:World)(hb:Bx3 n w) :
  CallsD Try.prog 119 #[.pointer (some ⟨n,0,none⟩),.pointer (some ⟨n+1,0,none⟩),.pointer (some ⟨n+1+1,0,none⟩)] (.panicking [{ v:=.iface 171 (.agg #[.int .i64 k]),recovered:=false }]) w fun e u' w'=>e=.returned (.tuple #[])/\u'=.panicking [{ v:=.iface 171 (.agg #[.int .i64 k]),recovered:=true }]/\w'=panW n k w:=by
 have hb1:=hb.alloc (.cells #[.int .i64 k] 171);obtain⟨k00,k01,k1,k2,f00,f01,f1,f2,h0,h1,h2⟩:=hb1;have hlt:n+1+1<w.heap.size:=qat hb.h2;refine callsD_of_wpS Try.func119 rfl fun c₀ cs hu=>?_;apply wpS_seq;apply wpS_region;simp[wpOpsS,go_sem,recoverD,hu,Try.ntmps119,Exit.thenS];refine wpS_of_wp ?_
 have ht:(#[Value.pointer (some { block:=n,off:=0 }),Value.pointer (some { block:=n+1,off:=0 }),Value.pointer (some { block:=n+1+1,off:=0 })] ++
     ((Array.replicate 17 undef).setIfInBounds 3 (Value.iface 171 (Value.agg #[Value.int IntKind.i64 k]))).setIfInBounds 0 (Value.iface 171 (Value.agg #[Value.int IntKind.i64 k])))=#[.pointer (some ⟨n,0,none⟩),.pointer (some ⟨n+1,0,none⟩),.pointer (some ⟨n+1+1,0,none⟩),.iface 171 (.agg #[.int .i64 k]),undef,undef,.iface 171 (.agg #[.int .i64 k]),undef,undef,undef,undef,undef,undef,undef,undef,undef,undef,undef,undef,undef]:=by kernel_rfl
 rw[ht];clear ht;have hta:∀w:World,(Instr.typeAssert (Value.iface 171 (Value.agg #[Value.int IntKind.i64 k])) 20 171 true).run Try.prog w=.ok (.tuple #[.agg #[.int .i64 k],.bool true]) w:=fun _=>by kernel_rfl
 go_wp2
 go_region
 exact⟨rfl,_,rfl,_,by simp[results,Try.results119,jad],rfl,rfl,rfl⟩
theorem ziq(ul ub:Value)(k:Int)(w:World)(Q:World->Prop)(h:Calls Try.prog 120 #[ul,ub] (w3 w) fun e w'=>e=.panicked [{ v:=.iface 171 (.agg #[.int .i64 k]),recovered:=false }]/\Q w')
 (h0:∀w',Q w'->Bx3 w.heap.size w'):Calls Try.prog 87 #[ul,ub] w fun e w'=>∃w1,Q w1/\e=.returned (.tuple #[.agg #[.slice none 0 0,.slice none 0 0],.int .i64 k,.bool false])/\w'=panW w.heap.size k w1:=by
 go_enter_defers Try.func87,Try.ntmps87
 go_wp2_with (go_at_call 120;refine h.mono ?_;rintro e w' ⟨rfl,hq⟩)

 refine leaves_cons (f:=119) (args:=#[.pointer (some ⟨w.heap.size,0,none⟩),.pointer (some ⟨w.heap.size+1,0,none⟩),.pointer (some ⟨w.heap.size+1+1,0,none⟩)]) (by simp) (by simp[go_sem]) ?_;refine(zqh w.heap.size k _ (h0 _ hq)).mono ?_;rintro e u' w'' ⟨rfl,rfl,rfl⟩;refine⟨_,q33 ⟨⟨rfl,rfl,rfl⟩,zeg (h0 _ hq)⟩,_,hq,rfl,rfl⟩
def qyf:Sm:=⟨[.list cForm,.list (.int .u8)],[(false,cGraph),(false,.int .i64),(false,.bool)],fun x=>match S.dec x.1 x.2.1 with
 | .inl e=>some (([],[]),e,false,())
 | .inr g=>some (g,Int.ofNat 0,true,())⟩
theorem qw5{E:Env}{c:TC}{l:List (El c)}{u:Value}(h:VR E (.lst c l) u):∃a n cap,u=.slice a n cap:=by
 cases h with
 | lst0 h=>exact⟨_,_,_,rfl⟩
 | lst us h1 h2 h3 hb hh hc hu=>exact⟨_,_,_,rfl⟩
theorem zoh(w:World):Upd [] w (w3 w):=((Upd.push w _).trans (Upd.push _ _)).trans (Upd.push _ _)
theorem q58(w:World):(w3 w).heap.size=w.heap.size+3:=by simp only[w3,World.alloc,jes]
theorem q1v{w w1:World}(h:∀b,b<(w3 w).heap.size->w1.heap[b]?=(w3 w).heap[b]?):Bx3 w.heap.size w1:=by
 have hs:=q58 w;refine Bx3.of ?_ ?_ ?_
 ·rw[h _ (by omega)];simp only[w3,World.alloc,jb7,jes];rw[jal (by omega),jal (by omega),jaq trivial]
 ·rw[h _ (by omega)];simp only[w3,World.alloc,jb7,jes];rw[jal (by omega),jaq trivial]
 ·rw[h _ (by omega)];simp only[w3,World.alloc,jb7,jes];rw[jaq trivial]
theorem qfl(w:World)(b o:Nat)(v:Value):Upd [b] w (w.setCell { block:=b,off:=o } v):=by
 refine⟨rfl,rfl,rfl,by simp[World.setCell],fun x hx hm=>?_⟩;simp only[World.setCell,jb3];rw[jal];simp at hm;omega
theorem zcq{n:Nat}{a1 a2:Option Addr}{l1 c1 l2 c2:Nat}{w1:World}:Upd [n,n+1,n+1+1] w1 (retW n a1 a2 l1 c1 l2 c2 w1):=by
 unfold retW;exact(((qfl _ n _ _).mono (by simp)).trans ((qfl _ n _ _).mono (by simp))).trans (((qfl _ (n+1) _ _).mono (by simp)).trans ((qfl _ (n+1+1) _ _).mono (by simp)))
theorem q89{n:Nat}{k:Int}{w1:World}:Upd [n,n+1,n+1+1] w1 (panW n k w1):=by
 unfold panW;refine Upd.trans ?_ (Upd.drew _ _);exact((Upd.push _ _).mono (by simp)).trans ((((qfl _ n _ _).mono (by simp)).trans ((qfl _ n _ _).mono (by simp))).trans (((qfl _ (n+1) _ _).mono (by simp)).trans ((qfl _ (n+1+1) _ _).mono (by simp))))
theorem agg1{E:Env}{t:Nat}{k:IntKind}{n:Int}{u:Value}(h:VR E (.iface t (.agg [.int k n])) u):u=.iface t (.agg #[.int k n])/\k.wrap n=n:=by
 cases h with
 | iface h =>
  cases h with
  | agg hl hh =>
   rename_i us;match us,hl with
   | [a],_ =>
    have:=hh 0 (by simp) (by simp);cases this with
    | int _ _ hw=>exact⟨rfl,hw⟩
theorem agg2{E:Env}{c d:TC}{l:List (El c)}{m:List (El d)}{u:Value}(h:VR E (.agg [.lst c l,.lst d m]) u):∃a1 l1 c1 a2 l2 c2,u=.agg #[.slice a1 l1 c1,.slice a2 l2 c2]:=by
 cases h with
 | agg hl hh =>
  rename_i us;match us,hl with
  | [a,b],_ =>
   obtain⟨a1,l1,c1,rfl⟩:=qw5 (hh 0 (by simp) (by simp));obtain⟨a2,l2,c2,rfl⟩:=qw5 (hh 1 (by simp) (by simp));exact⟨_,_,_,_,_,_,rfl⟩
theorem q2f{M M':List Nat}{w w':World}{r:Res}{u:Value}(hr:r.S=S0)(hos:w'.os=w.os)(ht:w'.tape=w.tape)(ho:w'.output=w.output)(hsz:w.heap.size<=w'.heap.size)(hs:∀b,b<w.heap.size->w'.heap[b]?=w.heap[b]?)
  (hm:∀b∈M',b∈M\/w.heap.size<=b) (hM:∀b∈M,b<w.heap.size->b∈M') (hlo:∀b∈M',b<w'.heap.size) (hv:VR (EM M' w') r.v u):RetE T0 (EM M w) S0 r (.returned u) w':=by
 refine⟨u,EM M' w',rfl,rfl,hv,?_,⟨fun id h=>h.elim⟩⟩;rw[hr];exact⟨⟨fun id _ h=>h.elim,fun id _ h=>h.elim,fun id _ h=>h.elim,fun i j _ _ h=>h.elim,hlo⟩,⟨hos,ht,ho,hsz,fun b hb _=>hs b hb,fun id h=>h.elim,fun id h=>h.elim,fun id _ h=>h.elim,hm,fun b hb hl=>.inl (hM b hb hl)⟩,fun id h=>h.elim,jar _⟩
theorem zfw:Con Try.prog 87 qyf:=by
 refine⟨⟨_,Try.func87,by kernel_rfl,by kernel_rfl⟩,fun M w x us y hf hM hG hv=>?_⟩;obtain⟨(F:List qab),(b:List Int),⟨⟩⟩:=x
 have hf:(match S.dec F b with
  | .inl e=>some (([],[]),e,false,())
  | .inr g=>some (g,Int.ofNat 0,true,()):Option ((List qaa × List DVal) × Int × Bool × Unit))=some y:=hf
 obtain⟨ul,us1,rfl,a1,a2⟩:=VRs.inv (v:=.lst cForm F) (cs:=[.lst (.int .u8) b]) hv;obtain⟨ub,us2,rfl,b1,b2⟩:=VRs.inv (v:=.lst (.int .u8) b) (cs:=[]) a2;obtain rfl:us2=[]:=jbm.1 b2.1.symm;have hs3:=q58 w;have u3:=zoh w;have tr3:Tr M w (w.heap.size::(w.heap.size+1)::(w.heap.size+1+1)::M) (w3 w):=⟨fun b hb hm=>⟨by simp only[jaz];rintro(h|h|h|h);omega;omega;omega;exact hm h,u3.same b hb (by simp)⟩⟩;have le3:(EM M w).Le (EM (w.heap.size::(w.heap.size+1)::(w.heap.size+1+1)::M) (w3 w)):=⟨fun id h=>h.elim,tr3⟩;have p3:Pre T0 (EM (w.heap.size::(w.heap.size+1)::(w.heap.size+1+1)::M) (w3 w)) S0:=preM (by
  intro b hb;simp only[jaz] at hb;rcases hb with h|h|h|h
  ·omega
  ·omega
  ·omega
  ·have:=hM b h;omega) (hG.mono tr3)
 have hv3:VRs (EM (w.heap.size::(w.heap.size+1)::(w.heap.size+1+1)::M) (w3 w)) [.lst cForm F,.lst (.int .u8) b] [ul,ub]:=hv.mono le3;cases hd:S.dec F b with
 | inl e =>
  rw[hd] at hf;cases hf;have hcall:=q0c.calls _ (F,b,()) [ul,ub] (.inl (e,())) (by show (match S.dec F b with|.inl e=>some (Sum.inl (e,()))|.inr g=>some (Sum.inr ((g,()),())):Option qan)=_;rw[hd];rfl) p3 hv3;refine jc6.2 ((ziq ul ub e w (fun w1=>IntKind.i64.wrap e=e/\(w1.os=(w3 w).os/\w1.tape=(w3 w).tape/\w1.output=(w3 w).output/\(w3 w).heap.size<=w1.heap.size)/\∀b,b<(w3 w).heap.size->w1.heap[b]?=(w3 w).heap[b]?) ((jc6.1 hcall).mono ?_) fun w1 h=>q1v h.2.2).mono ?_)
  ·rintro e1 w1 ⟨u,rfl,k1,k2,k3⟩;obtain⟨hu,hw⟩:=agg1 k1;subst hu;exact⟨rfl,hw,⟨k3.stp.os,k3.stp.tape,k3.stp.output,k3.stp.size⟩,fun b hb=>k3.stp.same b hb fun id _ h=>h.elim⟩
  ·rintro e1 w2 ⟨w1,⟨hwr,⟨q1,q2,q3,q4⟩,q5⟩,rfl,rfl⟩;have hu:=q89 (n:=w.heap.size) (k:=e) (w1:=w1);refine q2f (M':=M) rfl (hu.os.trans (q1.trans u3.os)) (hu.tape.trans (q2.trans u3.tape)) (hu.output.trans (q3.trans u3.output)) (by have:=hu.size;omega) (fun b hb=>?_) (fun b hb=>.inl hb) (fun b hb _=>hb) (fun b hb=>by have:=hM b hb;have:=hu.size;omega) ?_
   ·rw[hu.same b (by omega) (by simp;omega),q5 b (by omega),u3.same b hb (by simp)]
   ·have hk:IntKind.i64.wrap e=e:=hwr;refine .tup (cs:=[.agg [.lst qal [],.lst cVal []],.int .i64 e,.bool false]) (us:=[.agg #[.slice none 0 0,.slice none 0 0],.int .i64 e,.bool false]) rfl ?_;have h1:VRs (EM M (panW w.heap.size e w1)) [.agg [.lst qal [],.lst cVal []],.int .i64 e,.bool false] [.agg #[.slice none 0 0,.slice none 0 0],.int .i64 e,.bool false] :=
     VRs.cons (.agg (us:=[.slice none 0 0,.slice none 0 0]) rfl (VRs.cons (.lst0 (by omega)) (VRs.cons (.lst0 (by omega)) VRs.nil)).2) (VRs.cons (.int _ _ hk) (VRs.cons (.bool _) VRs.nil))
    exact h1.2
 | inr g =>
  rw[hd] at hf;cases hf;have hcall:=q0c.calls _ (F,b,()) [ul,ub] (.inr ((g,()),())) (by show (match S.dec F b with|.inl e=>some (Sum.inl (e,()))|.inr g=>some (Sum.inr ((g,()),())):Option qan)=_;rw[hd];rfl) p3 hv3
  refine jc6.2 ((zf7 ul ub w (fun a1 l1 c1 a2 l2 c2 w1=>(w1.os=(w3 w).os/\w1.tape=(w3 w).tape/\w1.output=(w3 w).output/\(w3 w).heap.size<=w1.heap.size)/\(∀b,b<(w3 w).heap.size->w1.heap[b]?=(w3 w).heap[b]?) /\
   ∃m:List Nat,(∀b∈m,b∈w.heap.size::(w.heap.size+1)::(w.heap.size+1+1)::M\/(w3 w).heap.size<=b)/\(∀b∈w.heap.size::(w.heap.size+1)::(w.heap.size+1+1)::M,b∈m)/\(∀b∈m,b<w1.heap.size)/\VR (EM m w1) (asIV cGraph g) (.agg #[.slice a1 l1 c1,.slice a2 l2 c2])) ((jc6.1 hcall).mono ?_) fun _ _ _ _ _ _ w1 h=>q1v h.2.1).mono ?_)
  ·rintro e1 w1 ⟨u,E',rfl,rfl,k1,k2⟩;have k1:VR E' (asIV cGraph g) u:=k1;obtain⟨a1,l1,c1,a2,l2,c2,rfl⟩:=agg2 k1;refine⟨a1,l1,c1,a2,l2,c2,rfl,⟨k2.os,k2.tape,k2.output,k2.size⟩,fun b hb=>k2.same b hb fun id _ h=>h.elim,E'.m,k2.memo,fun b hb=>?_,k2.st.lo,qek (E:=E') (E':=EM E'.m E'.w) (c:=cGraph) (fun _ h=>h) rfl k1⟩;have hbs:b<(w3 w).heap.size:=p3.st.lo b hb;rcases k2.mem b hb hbs with h|⟨id,_,h,_⟩
   ·exact h
   ·exact h.elim
  ·rintro e1 w2 ⟨a1,l1,c1,a2,l2,c2,w1,⟨⟨q1,q2,q3,q4⟩,q5,m,m1,m2,m3,m4⟩,rfl,rfl⟩;have hu:=zcq (n:=w.heap.size) (a1:=a1) (a2:=a2) (l1:=l1) (c1:=c1) (l2:=l2) (c2:=c2) (w1:=w1);refine q2f (M':=m) rfl (hu.os.trans (q1.trans u3.os)) (hu.tape.trans (q2.trans u3.tape)) (hu.output.trans (q3.trans u3.output)) (by have:=hu.size;omega) (fun b hb=>?_) (fun b hb=>?_) (fun b hb _=>m2 b (by simp[hb])) (fun b hb=>by have:=m3 b hb;have:=hu.size;omega) ?_
   ·rw[hu.same b (by omega) (by simp;omega),q5 b (by omega),u3.same b hb (by simp)]
   ·rcases m1 b hb with h|h
    ·simp only[jaz] at h;rcases h with h|h|h|h
     ·right;omega
     ·right;omega
     ·right;omega
     ·exact .inl h
    ·right;omega
   ·have hle:(EM m w1).Le (EM m (retW w.heap.size a1 a2 l1 c1 l2 c2 w1)):=⟨fun id h=>h.elim,⟨fun b hb hm=>⟨hm,hu.same b hb fun hmem=>hm (m2 b (by simp only[jaz,jdp,or_false] at hmem ⊢;rcases hmem with h|h|h<;>simp [h]))⟩⟩⟩;have hg:VR (EM m (retW w.heap.size a1 a2 l1 c1 l2 c2 w1)) (asIV cGraph g) (.agg #[.slice a1 l1 c1,.slice a2 l2 c2]):=m4.mono hle;refine .tup (cs:=[asIV cGraph g,.int .i64 (Int.ofNat 0),.bool true]) (us:=[.agg #[.slice a1 l1 c1,.slice a2 l2 c2],.int .i64 0,.bool true]) rfl ?_;have h1:VRs (EM m (retW w.heap.size a1 a2 l1 c1 l2 c2 w1)) [asIV cGraph g,.int .i64 (Int.ofNat 0),.bool true] [.agg #[.slice a1 l1 c1,.slice a2 l2 c2],.int .i64 0,.bool true] :=
     VRs.cons hg (VRs.cons (.int _ _ (by decide)) (VRs.cons (.bool _) VRs.nil))
    exact h1.2
end Go.Proofs.Ytcnhjofpmpipfaa
end

noncomputable section
set_option maxRecDepth 100000
namespace Go.Proofs.Ytcnhjofpmpipfaa
open Go Go.Sx Go.RowKit Go.Jx
abbrev qou:Type:=qac × Int × Int × Unit
abbrev q88:Nat:=41
def qzu(lf:Nat)(x1:(List qab))(x2:(List Int)):Option qou:=(cond (Bool.not (ieqI (S.checkForms x1) (Int.ofNat 0))) (some (([],[]),((Int.ofNat 0),((S.checkForms x1),())))) (cond (iltI (Int.ofNat 60000) (Int.ofNat x2.length)) (some (([],[]),((Int.ofNat 0),((Int.ofNat 3),())))) (cond (iltI (IntKind.i64.wrap (Int.sub (Int.ofNat x2.length) (Int.ofNat 4))) (Int.ofNat 0)) (some (([],[]),((Int.ofNat 0),((Int.ofNat 15),())))) (cond (lchk (IntKind.i64.wrap (Int.sub (Int.ofNat x2.length) (Int.ofNat 4))) (Int.ofNat x2.length) (Int.ofNat x2.length) (Int.ofNat x2.length)) (cond (lchk (Int.ofNat 0) (IntKind.i64.wrap (Int.sub (Int.ofNat x2.length) (Int.ofNat 4))) (Int.ofNat x2.length) (Int.ofNat x2.length)) (cond (Bool.not (S.eqB (lsub x2 (IntKind.i64.wrap (Int.sub (Int.ofNat x2.length) (Int.ofNat 4))) (Int.ofNat x2.length)) (S.sum4 (lsub x2 (Int.ofNat 0) (IntKind.i64.wrap (Int.sub (Int.ofNat x2.length) (Int.ofNat 4))))))) (some (([],[]),((Int.ofNat 0),((Int.ofNat 15),())))) (cond (lchk (Int.ofNat 0) (IntKind.i64.wrap (Int.sub (Int.ofNat x2.length) (Int.ofNat 4))) (Int.ofNat x2.length) (Int.ofNat x2.length)) (match (match (S.dec x1 (lsub x2 (Int.ofNat 0) (IntKind.i64.wrap (Int.sub (Int.ofNat x2.length) (Int.ofNat 4))))) with|.inl v0=>(some (([],[]),(v0,(false,()))))|.inr v1=>(some (v1,((Int.ofNat 0),(true,()))))) with|none=>none|some v2=>(cond (Bool.not v2.2.2.1) (some (([],[]),(v2.2.1,((Int.ofNat 2),())))) (match (cond (S.typedPre x1 (v2.1.1,v2.1.2)) (some ((S.typed x1 (v2.1.1,v2.1.2) v2.1.1),())) none) with|none=>none|some v3=>(cond (Bool.not v3.1) (some (([],[]),((Int.ofNat 0),((Int.ofNat 8),())))) (match (S.canonO (v2.1.1,v2.1.2)) with|none=>none|some v4=>(cond (Bool.not (S.eqGraph (v4.1.1,v4.1.2) (v2.1.1,v2.1.2))) (some (([],[]),((Int.ofNat 0),((Int.ofNat 2),())))) (some ((v2.1.1,v2.1.2),((Int.ofNat 0),((Int.ofNat 0),())))))))))) none)) none) none))))
def qmj(lf:Nat)(x1:(List qab))(x2:(List Int)):Option qou:=qzu lf x1 x2
theorem q9b{g:ElA [(.list cForm),(.list (.int .u8))]->Option qou}(hsm:SmOK Try.prog [(16,spz4),(66,q3r),(42,qtk),(87,qyf),(88,spz6),(62,spz9),(72,q6l)])(hg:∀(x:ElA [(.list cForm),(.list (.int .u8))]) (y:qou),WfA [(.list cForm),(.list (.int .u8))] x->g x=some y->∃lf,qmj lf x.1 x.2.1=some y):Con Try.prog 41 ⟨[(.list cForm),(.list (.int .u8))],[(false,cGraph),(false,(.int .i64)),(false,(.int .i64))],g⟩ :=
 conU (fi:=fi41) (hxl:=[]) (fun lf x=>qmj lf x.1 x.2.1) cm3 zpg trivial hsm hg
namespace S
end S
namespace S
def fewForms(l:List qab):Bool :=
 l.all (fun f=>decide (f.1.size<=30/\(f.2.length<=6\/30<f.2.length)/\f.2.length<=40)&&f.2.all fun c=>decide (c.1.size<=30/\c.2.2.size<=30))&&decide (l.length<=6\/24<l.length/\l.length<=30)
def few(g:qac):Bool :=
 g.1.all (fun n=>decide ((n.2.length<=8\/30<n.2.length)/\n.2.length<=40))&&decide ((g.1.length<=30\/400<g.1.length/\g.1.length<=410)/\(g.2.length<=10\/60<g.2.length/\g.2.length<=70))
end S
def qxq:Sm:=⟨[.list cForm],[(false,.bool)],fun x=>some (S.fewForms x.1,())⟩
def q2s:Sm:=⟨[cGraph],[(false,.bool)],fun x=>some (S.few x.1,())⟩
def qgw:Sm:=⟨[],[(false,.bool)],fun _=>some (true,())⟩
namespace S
end S
end Go.Proofs.Ytcnhjofpmpipfaa
end

section
set_option maxRecDepth 100000
namespace Go.Sx
open Go
section
variable {P : Program} {ops : Array Oper} {Q : Exit -> Act -> World -> Prop} {n : Nat} {σ : Nat -> Value} {w : World} {rest : List Oper} {d : Nat} {ty : TypeId} {pos : String} {aft : Array Edge} {g : Option (Nat × Bool)}
end
end Go.Sx
namespace Go.Proofs.Ytcnhjofpmpipfaa
open Go Go.Sx Go.RowKit Go.Jx
end Go.Proofs.Ytcnhjofpmpipfaa
end

noncomputable section
set_option maxRecDepth 100000
namespace Go.Proofs.Ytcnhjofpmpipfaa
open Go Go.Sx Go.RowKit Go.Jx


section
variable {g : List qaa × List DVal}
end
section
variable {g : List qaa × List DVal}
end
structure EncG (l:List qab) (G:List qaa × List DVal):Prop where
 l24:l.length<=24
 n4:G.1.length<=400
 r6:G.2.length<=60
 vs:∀n∈G.1,List.length (α:=Int × Int) (n:ByteArray × List (Int × Int)).2<=30
 ok:∀n∈G.1,∀v∈(n:ByteArray × List (Int × Int)).2,S.numOK (S.code v)=true
 rok:∀v∈G.2,S.numOK (S.code (v:Int × Int))=true
theorem zmn{α:Type}(p:α->Bool)(l:List α):-1<=S.idx p l/\S.idx p l<Int.ofNat l.length+1:=by
 unfold S.idx;cases h:l.findIdx? p with
 | none=>exact⟨by simp,by show (-1:Int)<(l.length:Int)+1;omega⟩
 | some j =>
  have hj:j<l.length:=(jdd.1 h).1;exact⟨by show (-1:Int)<=(j:Int);omega,by show (j:Int)<(l.length:Int)+1;omega⟩
theorem qhi{n:Int}(h1:-2000000000000<=n)(h2:n<=2000000000000):S.numOK n=true:=by unfold S.numOK;rw[jak h1,jak h2];rfl
theorem q2c{l:List qab}(hl:l.length<=24)(n:ByteArray):S.numOK (S.form l n)=true:=by
 obtain⟨h1,h2⟩:=zmn (fun f:qab=>keqS f.1 n) l;have h2:S.form l n<(l.length:Int)+1:=h2;exact qhi (by show _<=S.form l n;have:-1<=S.form l n:=h1;omega) (by omega)
theorem qmp{n:Nat}(h:n<=400):S.numOK (Int.ofNat n)=true:=qhi (by show _<=(n:Int);omega) (by show (n:Int)<=_;omega)
theorem q0r{m:Nat}(hm:m<=400){v:Int × Int}(h:S.value v (Int.ofNat m)=true):S.numOK (S.code v)=true:=by
 have h:=(qgp hm v).1 h;unfold S.code;by_cases h3:v.1=3
 ·rw[jaq h3];exact qhi (by omega) (by omega)
 ·rw[jal h3];by_cases h4:v.1=4
  ·rw[jaq h4];have:0<=v.2/\v.2<400:=by
    rcases h with ⟨a,_⟩|⟨a,_⟩|⟨a,_⟩|⟨a,b,c⟩
    ·have a:v.1=1:=a;omega
    ·have a:v.1=2:=a;omega
    ·have a:v.1=3:=a;omega
    ·have b:0<=v.2:=b;have c:v.2<(m:Int):=c;omega
   rw[w64 (n:=v.2+1) (by omega) (by omega)];exact qhi (by omega) (by omega)
  ·rw[jal h4];rcases h with ⟨a,b,c⟩|⟨a,b,c⟩|⟨a,b⟩|⟨a,b,c⟩
   ·have b:-1099511627776<=v.2:=b;have c:v.2<=1099511627776:=c;exact qhi (by omega) (by omega)
   ·have b:0<=v.2:=b;have c:v.2<=1:=c;exact qhi (by omega) (by omega)
   ·exact absurd a h3
   ·exact absurd a h4
theorem qwg{l:List qab}{g:qac}(h:S.checkG l g=0):S.formed g=0/\EncG l (S.canonG g):=by
 unfold S.checkG at h;by_cases hc:S.checkForms l=0
 ·rw[jal (by simpa using hc)] at h;have hf:=((zfv l g).1 h).formed;have hF:=q0f hc;obtain⟨f1,f2,f3,f4,f5⟩:=qnm (zbh (x:=g) hf);exact⟨hf,hF.len,f1,f2,f3,fun n hn v hv=>q0r f1 (f4 n hn v hv),fun v hv=>q0r f1 (f5 v hv).1⟩
 ·rw[jaq hc] at h;exact absurd h hc
theorem qsj(v:Int × Int)(l:List (Int × Int)):S.codes (v::l)=S.num (S.code v)++S.codes l:=rfl
theorem qq0:∀l:List (Int × Int),(S.codes l).length<=11*l.length
 | []=>jar _
 | v::l=>by
  have:=qq0 l;have:=qfs (S.code v);rw[qsj,jao,jbg];omega
section
variable {l : List qab} {x2 : qac} {G : List qaa × List DVal}
theorem zm1(K9:((List Int) × (List qaa) × (List DVal) × Int)->Option qa6)(vs:List (Int × Int))(hv:vs.length<=400)(hok:∀v∈vs,S.numOK (S.code v)=true)(nd:List qaa)(rs:List DVal)(i0:Int)(out:List Int)(ho:out.length<=1000000) :
  rounds (fun K p=>qks LF l x2 K K9 p) LF (nd,rs,vs,out,Int.ofNat 0,i0)=K9 (out++S.codes vs,nd,rs,IntKind.i64.wrap (Int.add i0 (Int.ofNat 1))):=by
 refine range0 (α:=Int × Int) (σ:=List Int) (R:=qa6) vs (fun k s=>(nd,rs,vs,s,k,i0)) (fun i s=>s.length<=1000000+11*i)
  (fun rest i s=>K9 (s++S.codes rest,nd,rs,IntKind.i64.wrap (Int.add i0 (Int.ofNat 1)))) (by unfold LF;omega) (fun K s hI=>?_) (fun K i v rest s hI r hk=>?_) out (by omega)
 ·simp only[qks,qbd,jae];rw[show S.codes []=[] from rfl,jbp]
 ·have h1:=r.ilt;have h2:=r.get;have hlt:=r.lt;have hn:=qfs (S.code v);have hb:Nat.ble (Nat.mul (Nat.add s.length (List.length (S.num (S.code v)))) 1) 140737488355328=true:=qei (by omega);have hc:S.numOK (S.code (v.1,v.2))=true:=hok v r.mem;have hb2:Nat.ble (Nat.mul (Nat.add s.length (List.length (S.num (S.code (v.1,v.2))))) 1) 140737488355328=true:=hb;simp only[qks,h1,jaa,h2,hc,hb2,r.next];have:=hk (s.append (S.num (S.code v))) (by show (s++_).length<=_;rw[jao];omega);refine jd3 this ?_;rw[qsj,<- jbo];rfl
theorem zbz(hg:EncG l G)(out:List Int)(ho:out.length<=1000000) :
  rounds (fun K p=>qlv LF l x2 K p) LF (G.2,out,Int.ofNat 0) =
   (if 60000<(out++S.codes G.2).length+4 then some ([],(Int.ofNat 3,())) else some ((out++S.codes G.2)++S.sum4 (out++S.codes G.2),(Int.ofNat 0,()))):=by
 have hr6:=hg.r6;refine range0 (α:=Int × Int) (σ:=List Int) (R:=qa6) G.2 (fun k s=>(G.2,s,k)) (fun i s=>s.length<=1000000+11*i)
  (fun rest i s=>if 60000<(s++S.codes rest).length+4 then some ([],(Int.ofNat 3,())) else some ((s++S.codes rest)++S.sum4 (s++S.codes rest),(Int.ofNat 0,()))) (by unfold LF;omega) (fun K s hI=>?_) (fun K i v rest s hI r hk=>?_) out (by omega)
 ·have e4:(S.sum4 s).length=4:=rfl;have hb:Nat.ble (Nat.mul (Nat.add s.length (List.length (S.sum4 s))) 1) 140737488355328=true:=qei (by rw[e4];omega);have hl:(List.append s (S.sum4 s)).length=s.length+4:=by show (s++_).length=_;rw[jao,e4]
  have e:s++S.codes []=s:=by rw[show S.codes []=[] from rfl,jbp]
  simp only[qlv,qbd,jae,hb,jaa,e,hl];by_cases h6:60000<s.length+4
  ·rw[show iltI (Int.ofNat 60000) (Int.ofNat (s.length+4))=true by rw[qam];exact jak (by show (60000:Int)<((s.length+4:Nat):Int);omega),jaa,jaq h6]
  ·rw[show iltI (Int.ofNat 60000) (Int.ofNat (s.length+4))=false by rw[qam];exact jai (by show ¬(60000:Int)<((s.length+4:Nat):Int);omega),jae,jal h6];rfl
 ·have h1:=r.ilt;have h2:=r.get;have hlt:=r.lt;have hn:=qfs (S.code v);have hc:S.numOK (S.code (v.1,v.2))=true:=hg.rok v r.mem;have hb2:Nat.ble (Nat.mul (Nat.add s.length (List.length (S.num (S.code (v.1,v.2))))) 1) 140737488355328=true:=qei (by show s.length+(S.num (S.code v)).length<=_;omega);simp only[qlv,h1,jaa,h2,hc,hb2,r.next];have:=hk (s.append (S.num (S.code v))) (by show (s++_).length<=_;rw[jao];omega);refine jd3 this ?_;have e:List.append s (S.num (S.code v))++S.codes rest=s++S.codes (v::rest):=by rw[qsj,<- jbo];rfl
  rw[e]
theorem zmt(hg:EncG l G)(L20:((List DVal) × (List Int) × Int)->Option qa6)(out:List Int)(ho:out.length<=100) :
  rounds (fun K p=>qjp LF l x2 (fun q=>ql7 LF l x2 K LF q) L20 p) LF (out,G.1,G.2,Int.ofNat 0)=L20 (G.2,out++(G.1.flatMap (S.encN l)++S.num (Int.ofNat G.2.length)),Int.ofNat 0):=by
 have hn4:=hg.n4;refine range0 (α:=ByteArray × List (Int × Int)) (σ:=List Int) (R:=qa6) G.1 (fun k s=>(s,G.1,G.2,k)) (fun i s=>s.length<=100+400*i)
  (fun rest i s=>L20 (G.2,s++(rest.flatMap (S.encN l)++S.num (Int.ofNat G.2.length)),Int.ofNat 0)) (by unfold LF;omega) (fun K s hI=>?_) (fun K i v rest s hI r hk=>?_) out (by omega)
 ·have hn:=qfs (Int.ofNat G.2.length);have hr6:=hg.r6;have hc:=qmp (n:=G.2.length) (by omega);have hb:Nat.ble (Nat.mul (Nat.add s.length (List.length (S.num (Int.ofNat G.2.length)))) 1) 140737488355328=true:=qei (by omega);simp only[qjp,qbd,jae,hc,jaa,hb,List.flatMap_nil,jc7];rfl
 ·have h1:=r.ilt;have h2:=r.get;have hlt:=r.lt;have hn:=qfs (S.form l v.1);have hv:=hg.vs v r.mem;have hc:=q2c hg.l24 v.1;have hb:Nat.ble (Nat.mul (Nat.add s.length (List.length (S.num (S.form l v.1)))) 1) 140737488355328=true:=qei (by omega);have hin:=zm1 (l:=l) (x2:=x2) K v.2 (by omega) (hg.ok v r.mem) G.1 G.2 (Int.ofNat i) (s++S.num (S.form l v.1)) (by rw[jao];omega);have hcl:=qq0 v.2;simp only[qjp,h1,jaa,h2,hc,hb];refine jd3 hin ?_;rw[r.next];have:=hk ((s++S.num (S.form l v.1))++S.codes v.2) (by rw[jao,jao];omega);refine jd3 this ?_;have e:(s++S.num (S.form l v.1))++S.codes v.2++(rest.flatMap (S.encN l)++S.num (Int.ofNat G.2.length))=s++((v::rest).flatMap (S.encN l)++S.num (Int.ofNat G.2.length)):=by
   rw[List.flatMap_cons];simp only[S.encN,jbo]
  rw[e]
end
theorem q7e{l:List qab}:∀(ns:List qaa),(∀n∈ns,List.length (α:=Int × Int) (n:ByteArray × List (Int × Int)).2<=30)->(ns.flatMap (S.encN l)).length<=400*ns.length
 | [],_=>by simp
 | n::ns,h=>by
  have:=q7e (l:=l) ns fun m hm=>h m (ja7 _ hm);have h30:List.length (α:=Int × Int) (n:ByteArray × List (Int × Int)).2<=30:=h n (jbh ..);have h1:=qfs (S.form l (n:ByteArray × List (Int × Int)).1);have h2:=qq0 (n:ByteArray × List (Int × Int)).2;rw[List.flatMap_cons,jao];simp only[S.encN,jao,jbg];omega
theorem zop(l:List qab)(g:qac):Fz15 LF l g=some ((S.encB l g).1,(S.encB l g).2,()):=by
 have eta:((g:List qaa × List DVal).1,(g:List qaa × List DVal).2)=g:=rfl;by_cases h:S.checkG l g=0
 ·obtain⟨hf,hE⟩:=qwg h;obtain⟨hc,_⟩:=q5q (qtx hf);have hn4:=hE.n4;have hr6:=hE.r6;have k1:ieqI (S.checkG l g) (Int.ofNat 0)=true:=by rw[qaw];exact jak h
  have hk:=qmp (n:=(S.canonG g:List qaa × List DVal).1.length) hn4;have hnl:=qfs (Int.ofNat (S.canonG g:List qaa × List DVal).1.length);have hb:Nat.ble (Nat.mul (Nat.add 0 (List.length (S.num (Int.ofNat (S.canonG g:List qaa × List DVal).1.length)))) 1) 140737488355328=true:=qei (by omega);have hfl:=q7e (l:=l) (S.canonG g:List qaa × List DVal).1 hE.vs;have e9:=zmt (x2:=g) hE (fun q=>qk1 LF l g LF q) (S.num (Int.ofNat (S.canonG g:List qaa × List DVal).1.length)) (by omega);have hnr:=qfs (Int.ofNat (S.canonG g:List qaa × List DVal).2.length);have e20:=zbz (x2:=g) hE (S.num (Int.ofNat (S.canonG g:List qaa × List DVal).1.length)++((S.canonG g:List qaa × List DVal).1.flatMap (S.encN l)++S.num (Int.ofNat (S.canonG g:List qaa × List DVal).2.length))) (by rw[jao,jao];omega);have ee:S.num (Int.ofNat (S.canonG g:List qaa × List DVal).1.length)++((S.canonG g:List qaa × List DVal).1.flatMap (S.encN l)++S.num (Int.ofNat (S.canonG g:List qaa × List DVal).2.length))++S.codes (S.canonG g:List qaa × List DVal).2=S.enc l (S.canonG g):=by
   unfold S.enc;simp only[jbo]
  rw[ee] at e20;simp only[Fz15,qpu,eta,k1,jbf,jae,hc,hk,jaa,hb];refine(e9.trans e20).trans ?_;unfold S.encB;rw[jaq h];by_cases h6:60000<(S.enc l (S.canonG g)).length+4
  ·rw[jaq h6,jaq h6];rfl
  ·rw[jal h6,jal h6];rfl
 ·have k1:ieqI (S.checkG l g) (Int.ofNat 0)=false:=by rw[qaw];exact jai h
  simp only[Fz15,qpu,eta,k1,ja9,jaa];unfold S.encB;rw[jal h]
theorem zok:Con Try.prog zoo q66:=q8o ⟨zgk,q0y,qp8,zqd,zby,trivial⟩ zj1 fun x y hx h=>⟨LF,(zop x.1 x.2.1).trans h⟩
section
variable {l : List qab} {x2 : qac} {G : List qaa × List DVal}
end
section
variable {a b : List (ByteArray × List (Int × Int)) × List (Int × Int)}
end
def qj0:Nat->Option Nm:=fun k=>cond (Nat.beq k 2) (some ⟨[0,3],[],[],[],[],0,0,false⟩) (cond (Nat.beq k 8) (some ⟨[0,3,4,5],[],[],[],[],0,0,false⟩) (none))
def qji:Nat->Bool:=fun k=>cond (Nat.beq k 2) true (cond (Nat.beq k 8) true (false))
def q0d:=qji
abbrev qbp:Type:=Bool × Unit
def qz8:List (Nat × Sm):=[]
def q0t:List (Nat × Hx):=[]
def qtr(R:Type)(lf:Nat):ClK R:=qau Try.prog ttT.get ftT.get (nm1 13 qj0) (smL qz8) (hxL q0t) lf 20 R
abbrev zeq:Nat:=13
def qec(x1:(List qab))(p:Int):NRes:=(NRes.mk (.node (some (IV.lst cForm x1)) (.node none (.node (some (IV.int .i64 p)) .leaf .leaf) .leaf) .leaf) (IS.mk .leaf 0) [] 0)
def qgy(x1:(List qab))(p:Int × Int × Int):NRes:=(NRes.mk (.node (some (IV.lst cForm x1)) (.node none (.node (some (IV.int .i64 p.2.2)) .leaf .leaf) (.node (some (IV.int .i64 p.2.1)) .leaf .leaf)) (.node none (.node (some (IV.int .i64 p.1)) .leaf .leaf) .leaf)) (IS.mk .leaf 0) [] 0)
def qrk(lf:Nat)(x1:(List qab))(L2:Int->Option qbp):Option qbp:=(L2 (Int.ofNat 0))
def qqs(lf:Nat)(x1:(List qab))(L8:(Int × Int × Int)->Option qbp)(p:Int):Option qbp:=(cond (iltI p (Int.ofNat x1.length)) (match (jget x1 p) with|none=>none|some v0=>(match (jget x1 p) with|none=>none|some v1=>(cond (iltI (Int.ofNat 30) (Int.ofNat v1.1.size)) (some (false,())) (cond (iltI (Int.ofNat 6) (Int.ofNat v0.2.length)) (cond (Bool.not (iltI (Int.ofNat 30) (Int.ofNat v0.2.length))) (some (false,())) (cond (iltI (Int.ofNat 40) (Int.ofNat v0.2.length)) (some (false,())) (L8 ((Int.ofNat v0.2.length),(Int.ofNat 0),p)))) (cond (iltI (Int.ofNat 40) (Int.ofNat v0.2.length)) (some (false,())) (L8 ((Int.ofNat v0.2.length),(Int.ofNat 0),p))))))) (cond (Bool.not (iltI (Int.ofNat 6) (Int.ofNat x1.length))) (some (true,())) (cond (iltI (Int.ofNat 24) (Int.ofNat x1.length)) (some ((Bool.not (iltI (Int.ofNat 30) (Int.ofNat x1.length))),())) (some (false,())))))
def qo2(lf:Nat)(x1:(List qab))(L8:(Int × Int × Int)->Option qbp)(L2:Int->Option qbp)(p:Int × Int × Int):Option qbp:=(cond (iltI p.2.1 p.1) (match (jget x1 p.2.2) with|none=>none|some v0=>(match (jget v0.2 p.2.1) with|none=>none|some v1=>(cond (iltI (Int.ofNat 30) (Int.ofNat v1.1.size)) (some (false,())) (match (jget x1 p.2.2) with|none=>none|some v2=>(match (jget v2.2 p.2.1) with|none=>none|some v3=>(cond (iltI (Int.ofNat 30) (Int.ofNat v3.2.2.size)) (some (false,())) (L8 (p.1,(IntKind.i64.wrap (Int.add p.2.1 (Int.ofNat 1))),p.2.2)))))))) (L2 (IntKind.i64.wrap (Int.add p.2.2 (Int.ofNat 1)))))
abbrev gz20:Type:=ElA [(.list cForm)]->Option qbp
abbrev sz20(g:gz20):Sm:=⟨[(.list cForm)],[(false,.bool)],g⟩
abbrev Ez20(g:gz20)(J:JT qbp)(lf:Nat)(x1:(List qab)):=qb1 Try.prog ttT.get qj0 fi13.nt (qtr _ lf) lf qji J fi13.body [] (qao (argV [(.list cForm)] (x1,())) 0 .leaf) S0 [] (qar ttT.get fi13 (sz20 g))
abbrev Bz20(g:gz20)(J:JT qbp)(lf k:Nat)(ms:List Nat)(q:NRes):=qb9 Try.prog ttT.get qj0 fi13.nt (qtr _ lf) lf qji J k fi13.body [] ms q (qar ttT.get fi13 (sz20 g))
theorem zej(g:gz20)(J:JT qbp)(lf:Nat)(x1:(List qab)):Ez20 g J lf x1=qrk lf x1 (fun q=>J 2 [lf] (qec x1 q)):=by kernel_rfl
theorem zl1(g:gz20)(J:JT qbp)(lf:Nat)(x1:(List qab))(m1:Nat)(p:Int):Bz20 g J lf 2 [m1] (qec x1 p)=qqs lf x1 (fun q=>J 8 [m1,lf] (qgy x1 q)) p:=by kernel_rfl
theorem q7v(g:gz20)(J:JT qbp)(lf:Nat)(x1:(List qab))(m1:Nat)(m2:Nat)(p:Int × Int × Int):Bz20 g J lf 8 [m1,m2] (qgy x1 p)=qo2 lf x1 (fun q=>J 8 [m1,m2] (qgy x1 q)) (fun q=>J 2 [m1] (qec x1 q)) p:=by kernel_rfl
theorem qt1:(regs fi13.body).Nodup:=by decide +kernel
theorem qsa:okC qj0 qji q0d fi13.body none=true:=by kernel_rfl
def Az20(g:gz20)(lf:Nat):JT qbp:=atN Try.prog ttT.get qj0 fi13 (sz20 g) (qtr _ lf) lf q0d
def qir(lf:Nat)(x1:(List qab))(K2:Int->Option qbp):Nat->(Int × Int × Int)->Option qbp:=rounds fun K p=>qo2 lf x1 K K2 p
theorem qxy(g:gz20)(lf:Nat)(x1:(List qab))(m1:Nat):∀(n:Nat) (p:Int × Int × Int),Az20 g lf 8 [m1,n] (qgy x1 p)=qir lf x1 (fun q=>Az20 g lf 2 [m1] (qec x1 q)) n p
 | 0,p=>qbk 8 [m1,0] rfl _
 | n+1,p=>by
  have ih:=qxy g lf x1 m1 n;refine(qbh (qaq 20 _) qt1 qsa 8 [m1,n+1] [m1,n] rfl _).trans ((q7v g (Az20 g lf) lf x1 m1 n p).trans ?_);rw[(show (fun q=>Az20 g lf 8 [m1,n] (qgy x1 q))=(fun q=>qir lf x1 (fun q=>Az20 g lf 2 [m1] (qec x1 q)) n q) from funext ih)];rfl
def qnh(lf:Nat)(x1:(List qab)):Nat->(Int)->Option qbp:=rounds fun K p=>qqs lf x1 (fun q=>qir lf x1 K lf q) p
theorem q08(g:gz20)(lf:Nat)(x1:(List qab)):∀(n:Nat) (p:Int),Az20 g lf 2 [n] (qec x1 p)=qnh lf x1 n p
 | 0,p=>qbk 2 [0] rfl _
 | n+1,p=>by
  have ih:=q08 g lf x1 n;refine(qbh (qaq 20 _) qt1 qsa 2 [n+1] [n] rfl _).trans ((zl1 g (Az20 g lf) lf x1 n p).trans ?_);rw[(show (fun q=>Az20 g lf 8 [n,lf] (qgy x1 q))=(fun q=>qir lf x1 (fun q=>Az20 g lf 2 [n] (qec x1 q)) lf q) from funext fun q=>qxy g lf x1 n lf q),(show (fun q=>Az20 g lf 2 [n] (qec x1 q))=(fun q=>qnh lf x1 n q) from funext ih)];rfl
def Fz20(lf:Nat)(x1:(List qab)):Option qbp:=qrk lf x1 (fun q=>qnh lf x1 lf q)
theorem q9f(g:gz20)(lf:Nat)(x1:(List qab)):Ez20 g (Az20 g lf) lf x1=Fz20 lf x1:=by
  refine(zej g (Az20 g lf) lf x1).trans ?_;rw[(show (fun q=>Az20 g lf 2 [lf] (qec x1 q))=(fun q=>qnh lf x1 lf q) from funext fun q=>q08 g lf x1 lf q)];rfl
theorem zbt:qa4 Try.prog q0t:=trivial
theorem zao{g:gz20}(hsm:SmOK Try.prog qz8)(hg:∀(x:ElA [(.list cForm)]) (y:qbp),WfA [(.list cForm)] x->g x=some y->∃lf,Fz20 lf x.1=some y):Con Try.prog 13 ⟨[(.list cForm)],[(false,.bool)],g⟩ :=
 conV (st:=qji) (fun lf x=>Fz20 lf x.1) cm3 zj2 zbt qt1 qsa (fun lf x=>q9f g lf x.1) hsm hg
def qi2:Nat->Option Nm:=fun k=>cond (Nat.beq k 3) (some ⟨[1,3,4],[],[],[],[],0,0,false⟩) (none)
def qk4:Nat->Bool:=fun k=>cond (Nat.beq k 3) true (false)
def qwe:=qk4
abbrev qcj:Type:=Bool × Unit
def q3h:List (Nat × Sm):=[]
def qyo:List (Nat × Hx):=[]
def qsx(R:Type)(lf:Nat):ClK R:=qau Try.prog ttT.get ftT.get (nm1 14 qi2) (smL q3h) (hxL qyo) lf 20 R
abbrev zij:Nat:=14
def qg9(x1:qac)(p:Int):NRes:=(NRes.mk (.node none (.node (some (IV.ptr 0 0)) (.node (some (IV.int .i64 (Int.ofNat x1.1.length))) .leaf .leaf) .leaf) (.node none (.node (some (IV.int .i64 p)) .leaf .leaf) .leaf)) (IS.mk (.node (some (IObj.row (List.cons (IV.lst qal x1.1) [(IV.lst cVal x1.2)]))) .leaf .leaf) 1) [] 0)
def qr7(lf:Nat)(x1:qac)(L3:Int->Option qcj):Option qcj:=(L3 (Int.ofNat 0))
def qnc(lf:Nat)(x1:qac)(L3:Int->Option qcj)(p:Int):Option qcj:=(cond (iltI p (Int.ofNat x1.1.length)) (match (jget x1.1 p) with|none=>none|some v0=>(cond (iltI (Int.ofNat 8) (Int.ofNat v0.2.length)) (cond (Bool.not (iltI (Int.ofNat 30) (Int.ofNat v0.2.length))) (some (false,())) (cond (iltI (Int.ofNat 40) (Int.ofNat v0.2.length)) (some (false,())) (L3 (IntKind.i64.wrap (Int.add p (Int.ofNat 1)))))) (cond (iltI (Int.ofNat 40) (Int.ofNat v0.2.length)) (some (false,())) (L3 (IntKind.i64.wrap (Int.add p (Int.ofNat 1))))))) (cond (Bool.not (iltI (Int.ofNat 30) (Int.ofNat x1.1.length))) (cond (Bool.not (iltI (Int.ofNat 10) (Int.ofNat x1.2.length))) (some (true,())) (cond (iltI (Int.ofNat 60) (Int.ofNat x1.2.length)) (some ((Bool.not (iltI (Int.ofNat 70) (Int.ofNat x1.2.length))),())) (some (false,())))) (cond (iltI (Int.ofNat 400) (Int.ofNat x1.1.length)) (cond (Bool.not (iltI (Int.ofNat 410) (Int.ofNat x1.1.length))) (cond (Bool.not (iltI (Int.ofNat 10) (Int.ofNat x1.2.length))) (some (true,())) (cond (iltI (Int.ofNat 60) (Int.ofNat x1.2.length)) (some ((Bool.not (iltI (Int.ofNat 70) (Int.ofNat x1.2.length))),())) (some (false,())))) (some (false,()))) (some (false,())))))
abbrev gz21:Type:=ElA [cGraph]->Option qcj
abbrev sz21(g:gz21):Sm:=⟨[cGraph],[(false,.bool)],g⟩
abbrev Ez21(g:gz21)(J:JT qcj)(lf:Nat)(x1:qac):=qb1 Try.prog ttT.get qi2 fi14.nt (qsx _ lf) lf qk4 J fi14.body [] (qao (argV [cGraph] (x1,())) 0 .leaf) S0 [] (qar ttT.get fi14 (sz21 g))
abbrev Bz21(g:gz21)(J:JT qcj)(lf k:Nat)(ms:List Nat)(q:NRes):=qb9 Try.prog ttT.get qi2 fi14.nt (qsx _ lf) lf qk4 J k fi14.body [] ms q (qar ttT.get fi14 (sz21 g))
theorem q8l(g:gz21)(J:JT qcj)(lf:Nat)(x1:qac):Ez21 g J lf x1=qr7 lf x1 (fun q=>J 3 [lf] (qg9 x1 q)):=by kernel_rfl
theorem zh5(g:gz21)(J:JT qcj)(lf:Nat)(x1:qac)(m1:Nat)(p:Int):Bz21 g J lf 3 [m1] (qg9 x1 p)=qnc lf x1 (fun q=>J 3 [m1] (qg9 x1 q)) p:=by kernel_rfl
theorem q4t:(regs fi14.body).Nodup:=by decide +kernel
theorem q41:okC qi2 qk4 qwe fi14.body none=true:=by kernel_rfl
def Az21(g:gz21)(lf:Nat):JT qcj:=atN Try.prog ttT.get qi2 fi14 (sz21 g) (qsx _ lf) lf qwe
def qqg(lf:Nat)(x1:qac):Nat->(Int)->Option qcj:=rounds fun K p=>qnc lf x1 K p
theorem q1n(g:gz21)(lf:Nat)(x1:qac):∀(n:Nat) (p:Int),Az21 g lf 3 [n] (qg9 x1 p)=qqg lf x1 n p
 | 0,p=>qbk 3 [0] rfl _
 | n+1,p=>by
  have ih:=q1n g lf x1 n;refine(qbh (qaq 20 _) q4t q41 3 [n+1] [n] rfl _).trans ((zh5 g (Az21 g lf) lf x1 n p).trans ?_);rw[(show (fun q=>Az21 g lf 3 [n] (qg9 x1 q))=(fun q=>qqg lf x1 n q) from funext ih)];rfl
def Fz21(lf:Nat)(x1:qac):Option qcj:=qr7 lf x1 (fun q=>qqg lf x1 lf q)
theorem q75(g:gz21)(lf:Nat)(x1:qac):Ez21 g (Az21 g lf) lf x1=Fz21 lf x1:=by
  refine(q8l g (Az21 g lf) lf x1).trans ?_;rw[(show (fun q=>Az21 g lf 3 [lf] (qg9 x1 q))=(fun q=>qqg lf x1 lf q) from funext fun q=>q1n g lf x1 lf q)];rfl
theorem zbp:qa4 Try.prog qyo:=trivial
theorem zdd{g:gz21}(hsm:SmOK Try.prog q3h)(hg:∀(x:ElA [cGraph]) (y:qcj),WfA [cGraph] x->g x=some y->∃lf,Fz21 lf x.1=some y):Con Try.prog 14 ⟨[cGraph],[(false,.bool)],g⟩ :=
 conV (st:=qk4) (fun lf x=>Fz21 lf x.1) cm3 zpt zbp q4t q41 (fun lf x=>q75 g lf x.1) hsm hg


theorem zk6(g:qac)(hl:g.1.length<LF):Fz21 LF g=some (S.few g,()):=by
 simp only[Fz21,qr7,S.few];refine qc6 (R:=qcj) g.1 (fun rest i=>some (rest.all (fun n=>decide ((n.2.length<=8\/30<n.2.length)/\n.2.length<=40))&&decide ((g.1.length<=30\/400<g.1.length/\g.1.length<=410)/\(g.2.length<=10\/60<g.2.length/\g.2.length<=70)),())) hl (fun K=>?_) (fun K i v rest r h=>?_)
 ·simp only[qnc,qbd,jae,qib,List.all_nil,jdb];generalize g.1.length=n;generalize g.2.length=k;by_cases a1:30<n<;>by_cases a2:400<n<;>by_cases a3:410<n<;>by_cases b1:10<k<;>by_cases b2:60<k<;>by_cases b3:70<k<;>simp [a1,a2,a3,b1,b2,b3]<;>omega
 ·simp only[qnc,r.ilt,r.get,r.next,h,jaa,qib,jch];generalize v.2.length=n;generalize (rest.all fun n=>decide ((n.2.length<=8\/30<n.2.length)/\n.2.length<=40))=w;by_cases a1:8<n
  ·rw[jak a1,jaa];by_cases a2:30<n
   ·rw[jak a2,jbf,jae];by_cases a3:40<n
    ·have e:decide ((n<=8\/30<n)/\n<=40)=false:=jai (by omega);rw[e,jak a3];rfl
    ·have e:decide ((n<=8\/30<n)/\n<=40)=true:=jak (by omega);rw[e,jai a3];cases w<;>rfl
   ·have e:decide ((n<=8\/30<n)/\n<=40)=false:=jai (by omega);rw[e,jai a2];rfl
  ·rw[jai a1,jae];have e:decide ((n<=8\/30<n)/\n<=40)=true:=jak (by omega);have a3:¬40<n:=by omega
   rw[e,jai a3];cases w<;>rfl
theorem zpm:Con Try.prog zij q2s:=zdd trivial fun x y hx h=>⟨LF,(zk6 _ (qbx hx.1.1)).trans h⟩
theorem zoi(l:List qab)(K2:Int->Option qbp)(i:Nat)(f:qab)(hf:jget l (Int.ofNat i)=some f)(hl:f.2.length<LF) :
  qir LF l K2 LF (Int.ofNat f.2.length,Int.ofNat 0,Int.ofNat i)=cond (f.2.all fun c=>decide (c.1.size<=30/\c.2.2.size<=30)) (K2 (IntKind.i64.wrap (Int.add (Int.ofNat i) (Int.ofNat 1)))) (some (false,())):=by
 refine range0 (σ:=Unit) (R:=qbp) f.2 (fun k _=>(Int.ofNat f.2.length,k,Int.ofNat i)) (fun _ _=>True) (fun rest k _=>cond (rest.all fun c=>decide (c.1.size<=30/\c.2.2.size<=30)) (K2 (IntKind.i64.wrap (Int.add (Int.ofNat i) (Int.ofNat 1)))) (some (false,()))) hl (fun K s _=>?_) (fun K k c rest s _ r h=>?_) () trivial
 ·simp only[qo2,qbd,jae,List.all_nil,jaa]
 ·have h:=h () trivial;simp only[qo2,hf,r.ilt,r.get,r.next,h,jaa,qib,jch];by_cases a1:30<c.1.size
  ·have e:decide (c.1.size<=30/\c.2.2.size<=30)=false:=jai (by omega);rw[e,jak a1];rfl
  by_cases a2:30<c.2.2.size
  ·have e:decide (c.1.size<=30/\c.2.2.size<=30)=false:=jai (by omega);rw[e,jai a1,jak a2];rfl
  ·have e:decide (c.1.size<=30/\c.2.2.size<=30)=true:=jak (by omega);rw[e,jai a1,jai a2,jdb];rfl
theorem zek(l:List qab)(hl:l.length<LF)(hw:∀f∈l,f.2.length<LF):Fz20 LF l=some (S.fewForms l,()):=by
 simp only[Fz20,qrk,S.fewForms];refine qc6 (R:=qbp) l (fun rest i=>some (rest.all (fun f=>decide (f.1.size<=30/\(f.2.length<=6\/30<f.2.length)/\f.2.length<=40)&&f.2.all fun c=>decide (c.1.size<=30/\c.2.2.size<=30))&&decide (l.length<=6\/24<l.length/\l.length<=30),())) hl (fun K=>?_) (fun K i v rest r h=>?_)
 ·simp only[qqs,qbd,jae,qib,List.all_nil,jdb];by_cases h8:6<l.length<;>by_cases h24:24<l.length<;>by_cases h30:30<l.length<;>simp [h8,h24,h30]<;>omega
 ·have hin:=zoi l K i v r.get (hw v r.mem);rw[r.next,h] at hin;simp only[qqs,r.ilt,r.get,jaa,qib,jch];simp only[hin];generalize (v.2.all fun c=>decide (c.1.size<=30/\c.2.2.size<=30))=w;generalize v.2.length=n;generalize v.1.size=m;by_cases a0:30<m
  ·have e:decide (m<=30/\(n<=6\/30<n)/\n<=40)=false:=jai (by omega);rw[e,jak a0];rfl
  rw[jai a0,jae];by_cases a1:6<n
  ·rw[jak a1,jaa];by_cases a2:30<n
   ·rw[jak a2,jbf,jae];by_cases a3:40<n
    ·have e:decide (m<=30/\(n<=6\/30<n)/\n<=40)=false:=jai (by omega);rw[e,jak a3];rfl
    ·have e:decide (m<=30/\(n<=6\/30<n)/\n<=40)=true:=jak (by omega);rw[e,jai a3];cases w<;>rfl
   ·have e:decide (m<=30/\(n<=6\/30<n)/\n<=40)=false:=jai (by omega);rw[e,jai a2];rfl
  ·rw[jai a1,jae];have e:decide (m<=30/\(n<=6\/30<n)/\n<=40)=true:=jak (by omega);have a3:¬40<n:=by omega
   rw[e,jai a3];cases w<;>rfl
theorem zqo:Con Try.prog zeq qxq:=zao trivial fun x y hx h=>⟨LF,(zek _ (qbx hx.1) fun f hf=>qbx (hx.1.2 f hf).2).trans h⟩
section
variable {a b : List (ByteArray × List (Int × Int)) × List (Int × Int)}
end
section
variable {g a b : List qaa × List DVal}
end
theorem qxd{m k:Int}{l r:List Int}{v:DVal}(hm0:0<=m)(hm:m<=400)(h:S.rdV m k l=some (v,r)):S.value v m=true/\(v.1=4->0<=v.2/\v.2<m)/\(¬k=1->¬k=2->S.refers v=true):=by
 have hw:IntKind.i64.wrap (Int.sub m (Int.ofNat 1))=m-1:=w64 (n:=m-1) (by omega) (by omega);unfold S.rdV at h;split at h
 ·rename_i hk;split at h<;>cases h;rename_i n hr;obtain⟨_,h1,h2⟩:=qc3 hr;refine⟨?_,fun h=>absurd (show (1:Int)=4 from h) (by decide),fun h=>absurd hk h⟩;show S.within n (-1099511627776) 1099511627776=true;unfold S.within;rw[jak h1,jak h2];rfl
 ·split at h
  ·rename_i hk;split at h<;>cases h;rename_i n hr;obtain⟨_,h1,h2⟩:=qc3 hr;refine⟨?_,fun h=>absurd (show (2:Int)=4 from h) (by decide),fun _ h=>absurd hk h⟩;show S.within n 0 1=true;unfold S.within;rw[jak h1,jak h2];rfl
  ·split at h<;>cases h;rename_i n hr;obtain⟨_,h1,h2⟩:=qc3 hr;by_cases hn:0<n
   ·rw[jaq hn];refine⟨?_,fun _=>⟨by show 0<=n-1;omega,by show n-1<m;omega⟩,fun _ _=>rfl⟩;show S.within (n-1) 0 (IntKind.i64.wrap (Int.sub m (Int.ofNat 1)))=true;rw[hw];unfold S.within;rw[jak (by omega),jak (by omega)];rfl
   ·rw[jal hn];exact⟨rfl,fun h=>absurd (show (3:Int)=4 from h) (by decide),fun _ _=>rfl⟩
theorem q2k{N:Nat}{m:Int}(hm0:0<=m)(hm:m<=400):∀(cs:List DCol) (l r:List Int) (vs:List DVal),S.decVs N m cs l=.inr (vs,r)->vs.length=cs.length/\∀v∈vs,S.value v m=true/\(v.1=4->0<=v.2/\v.2<m)
 | [],l,r,vs,h=>by cases h;exact⟨rfl,fun v hv=>by cases hv⟩
 | c::cs,l,r,vs,h=>by
  unfold S.decVs at h;split at h
  ·cases h
  rename_i v r1 h1;split at h
  ·cases h
  rename_i vs2 r2 h2;cases h;obtain⟨k1,k2⟩:=q2k hm0 hm cs _ _ _ h2;obtain⟨g1,g2,_⟩:=qxd hm0 hm h1;refine⟨by simp[k1],fun w hw=>?_⟩;rcases jaz.1 hw with rfl|hw
  ·exact⟨g1,g2⟩
  ·exact k2 w hw
theorem qxw{N:Nat}{F:List qab}{m:Int}(hm0:0<=m)(hm:m<=400):∀(k:Nat) (l r:List Int) (ns:List qaa),S.decNs N F m k l=.inr (ns,r)->ns.length=k/\∀n∈ns,∃f∈F,n.1=f.1/\n.2.length=f.2.length/\∀v∈n.2,S.value v m=true/\(v.1=4->0<=v.2/\v.2<m)
 | 0,l,r,ns,h=>by cases h;exact⟨rfl,fun n hn=>by cases hn⟩
 | k+1,l,r,ns,h=>by
  unfold S.decNs at h;split at h
  ·cases h
  rename_i i r1 h1;split at h
  ·cases h
  rename_i f hf;split at h
  ·cases h
  rename_i vs r2 h2;split at h
  ·cases h
  rename_i ns2 r3 h3;cases h;obtain⟨k1,k2⟩:=qxw hm0 hm k _ _ _ h3;obtain⟨g1,g2⟩:=q2k hm0 hm f.2 _ _ _ h2;refine⟨by simp[k1],fun n hn=>?_⟩;rcases jaz.1 hn with rfl|hn
  ·exact⟨f,jbe hf,rfl,g1,g2⟩
  ·exact k2 n hn
theorem qxf{N:Nat}{m:Int}(hm0:0<=m)(hm:m<=400):∀(k:Nat) (l r:List Int) (vs:List DVal),S.decRs N m k l=.inr (vs,r)->vs.length=k/\∀v∈vs,S.value v m=true/\S.refers v=true
 | 0,l,r,vs,h=>by cases h;exact⟨rfl,fun n hn=>by cases hn⟩
 | k+1,l,r,vs,h=>by
  unfold S.decRs at h;split at h
  ·cases h
  rename_i v r1 h1;split at h
  ·cases h
  rename_i vs2 r3 h3;cases h;obtain⟨k1,k2⟩:=qxf hm0 hm k _ _ _ h3;obtain⟨g1,_,g4⟩:=qxd hm0 hm h1;refine⟨by simp[k1],fun n hn=>?_⟩;rcases jaz.1 hn with rfl|hn
  ·exact⟨g1,g4 (by decide) (by decide)⟩
  ·exact k2 n hn
theorem zat{F:List qab}{b:List Int}{g:List qaa × List DVal}(hF:S.checkForms F=0)(h:S.dec F b=.inr g):S.formed g=0/\S.typedPre F g=true:=by
 have hfo:=q0f hF;unfold S.dec at h;split at h
 ·cases h
 rename_i m l0 h0;obtain⟨_,m0,m1⟩:=qc3 h0;split at h
 ·cases h
 rename_i ns l1 h1;split at h
 ·cases h
 rename_i k l2 h2;obtain⟨_,k0,k1⟩:=qc3 h2;split at h
 ·cases h
 rename_i rs l3 h3;split at h<;>cases h;obtain⟨n1,n2⟩:=qxw m0 m1 _ _ _ _ h1;obtain⟨r1,r2⟩:=qxf m0 m1 _ _ _ _ h3;have hm:Int.ofNat ns.length=m:=by rw[n1];show ((m.toNat:Nat):Int)=m;omega
 constructor
 ·refine q01 (g:=(ns,rs)) (by show ns.length<=400;omega) (by show rs.length<=60;omega) (fun n hn=>?_) (fun n hn v hv=>?_) fun v hv=>?_
  ·obtain⟨f,hf,e1,e2,e3⟩:=n2 n hn;rw[e2];exact(hfo.cols f hf).len
  ·obtain⟨f,hf,e1,e2,e3⟩:=n2 n hn;show S.value v (Int.ofNat ns.length)=true;rw[hm];exact(e3 v hv).1
  ·show S.value v (Int.ofNat ns.length)=true/\_;rw[hm];exact r2 v hv
 ·unfold S.typedPre;rw[ja3];intro n hn;obtain⟨f,hf,e1,e2,e3⟩:=n2 n hn;rw[jah];refine⟨jak (q9c hf (by show keqS f.1 n.1=true;rw[e1];exact jak rfl)),ja3.2 fun v hv=>jak fun h4=>?_⟩;have:=(e3 v hv).2 h4;refine⟨this.1,?_⟩;show v.2<((ns.length:Nat):Int);have hm':((ns.length:Nat):Int)=m:=hm;omega
namespace S
def Dec(F:List qab)(b:List Int):(List qaa × List DVal) × Int × Int :=
 if ¬checkForms F=0 then (([],[]),0,checkForms F)
 else if 60000<b.length then (([],[]),0,3)
 else if b.length<4 then (([],[]),0,15)
 else if ¬b.drop (b.length-4)=sum4 (b.take (b.length-4)) then (([],[]),0,15)
 else match dec F (b.take (b.length-4)) with
  | .inl e=>(([],[]),e,2)
  | .inr g=>if typed F g g.1=false then (([],[]),0,8) else if eqGraph (canonG g) g=false then (([],[]),0,2) else (g,0,0)
end S
def q0k:Sm:=⟨[.list cForm,.list (.int .u8)],[(false,cGraph),(false,.int .i64),(false,.int .i64)],fun x=>some ((S.Dec x.1 x.2.1).1,(S.Dec x.1 x.2.1).2.1,(S.Dec x.1 x.2.1).2.2,())⟩
theorem zcp(lf:Nat)(F:List qab)(b:List Int)(hl:b.length<=140737488355328):qmj lf F b=some ((S.Dec F b).1,(S.Dec F b).2.1,(S.Dec F b).2.2,()):=by
 have ha:IntKind.i64.wrap (Int.sub (Int.ofNat b.length) (Int.ofNat 4))=(b.length:Int)-4:=w64 (n:=(b.length:Int)-4) (by omega) (by omega);unfold qmj qzu S.Dec;simp only[ha,qaw,qam];by_cases h0:S.checkForms F=0
 ·rw[jal (fun h=>h h0),jak (show S.checkForms F=Int.ofNat 0 from h0),jbf,jae];by_cases h1:60000<b.length
  ·rw[jaq h1,jak (by show (60000:Int)<(b.length:Int);omega),jaa];rfl
  ·rw[jal h1,jai (by show ¬(60000:Int)<(b.length:Int);omega),jae];by_cases h2:b.length<4
   ·rw[jaq h2,jak (by show (b.length:Int)-4<0;omega),jaa];rfl
   ·rw[jal h2,jai (by show ¬(b.length:Int)-4<0;omega),jae];have hz:(b.length:Int)-4=Int.ofNat (b.length-4):=by show _=((b.length-4:Nat):Int);omega
    have c1:lchk ((b.length:Int)-4) (Int.ofNat b.length) (Int.ofNat b.length) (Int.ofNat b.length)=true:=qed.2 ⟨by omega,by show _<=(b.length:Int);omega,jcq _,jcq _⟩;have c2:lchk (Int.ofNat 0) ((b.length:Int)-4) (Int.ofNat b.length) (Int.ofNat b.length)=true:=qed.2 ⟨jcq _,by show (0:Int)<=_;omega,by show _<=(b.length:Int);omega,jcq _⟩;have s1:lsub b ((b.length:Int)-4) (Int.ofNat b.length)=b.drop (b.length-4):=by
     rw[hz];show (b.take b.length).drop (b.length-4)=_;rw[List.take_length]
    have s2:lsub b (Int.ofNat 0) ((b.length:Int)-4)=b.take (b.length-4):=by
     rw[hz];show (b.take (b.length-4)).drop 0=_;rw[jcv]
    simp only[c1,c2,s1,s2,jaa];by_cases h3:b.drop (b.length-4)=S.sum4 (b.take (b.length-4))
    ·rw[jal (fun h=>h h3),qjo.2 h3,jbf,jae];cases hd:S.dec F (b.take (b.length-4)) with
     | inl e=>rfl
     | inr g =>
      obtain⟨hf,ht⟩:=zat (g:=g) h0 hd;have hc:=(q5q (qtx hf)).1;have hc:S.canonO ((g:List qaa × List DVal).1,(g:List qaa × List DVal).2)=some (S.canonG g,S.numsG g,()):=hc;have ht:S.typedPre F ((g:List qaa × List DVal).1,(g:List qaa × List DVal).2)=true:=ht;simp only[jbf,jae,ht,jaa,hc];cases hty:S.typed F g (g:List qaa × List DVal).1 with
      | false=>rfl
      | true =>
       simp only[jbf,jae];rw[jal (by simp)];cases heq:S.eqGraph (S.canonG g) g with
       | false=>rfl
       | true=>rfl
    ·have:S.eqB (b.drop (b.length-4)) (S.sum4 (b.take (b.length-4)))=false:=by
      cases he:S.eqB (b.drop (b.length-4)) (S.sum4 (b.take (b.length-4))) with
      | false=>rfl
      | true=>exact absurd (qjo.1 he) h3
     rw[jaq h3,this];rfl
 ·rw[jaq h0,jai (show ¬S.checkForms F=Int.ofNat 0 from h0)];rfl
theorem zlm:Con Try.prog q88 q0k:=q9b ⟨q5w,zpz,q0h,zfw,qv6,q0y,zbd,trivial⟩ fun x y hx h=>⟨0,by
 obtain⟨(F:List qab),(b:List Int),_⟩:=x;have hl:b.length<=140737488355328:=by have:=hx.2.1.1;rwa [show Jx.bsz (.int .u8)=1 from rfl,jef] at this
 exact(zcp 0 F b hl).trans h⟩
def q2h:Sm:=⟨[.list (.int .u8)],[(true,.int .u8)],fun x=>match x.1 with
 | []=>none
 | v::l=>some (x.1,())⟩
theorem zhj:Con Try.prog zav q2h:=zmq trivial fun x y hx h=>⟨0,by
 obtain⟨l,_⟩:=x;have hb:=hx.1.1;cases l with
 | nil=>cases h
 | cons v l =>
  cases h;simp only[qts,q5d];exact jd3 (jb9 (fun b=>cond b (some (v::l,())) none) (jby (jba (jdc (jb9 (fun z=>Nat.mul z 1) (ja1 _))) hb))) rfl⟩
abbrev qqu:Type:=Bool × Unit
abbrev qx8:Nat:=11
def q4w(lf:Nat)(x1:(List qab))(x2:qac)(x3:Int)(x4:Int)(x5:Int):Option qqu:=(cond (Bool.not (S.fewForms x1)) (some (true,())) (cond (Bool.not (S.few (x2.1,x2.2))) (some (true,())) (cond (ieqI x4 (Int.ofNat 0)) (some (true,())) (cond (Bool.not (ieqI (S.encB x1 (x2.1,x2.2)).2 (Int.ofNat 0))) (some (true,())) (cond (iltI (Int.ofNat (List.length (S.encB x1 (x2.1,x2.2)).1)) (Int.ofNat 4)) (some (false,())) (match (match (S.encB x1 (x2.1,x2.2)).1 with|.nil  => none|.cons v0 v1=>(some ((S.encB x1 (x2.1,x2.2)).1,()))) with|none=>none|some v2=>(cond (ieqI (Int.ofNat v2.1.length) (Int.ofNat 0)) none (match (jget v2.1 (Int.tmod (IntKind.i64.wrap x3) (Int.ofNat v2.1.length))) with|none=>none|some v3=>(match (GetElem?.getElem? v2.1 (Int.toNat (Int.tmod (IntKind.i64.wrap x3) (Int.ofNat v2.1.length)))) with|none=>none|some v4=>(match (jget v2.1 (Int.tmod (IntKind.i64.wrap x3) (Int.ofNat v2.1.length))) with|none=>none|some v5=>(match (GetElem?.getElem? v2.1 (Int.toNat (Int.tmod (IntKind.i64.wrap x3) (Int.ofNat v2.1.length)))) with|none=>none|some v6=>(cond (ieqI (S.Dec x1 (List.set v2.1 (Int.toNat (Int.tmod (IntKind.i64.wrap x3) (Int.ofNat v2.1.length))) (IntKind.u8.wrap (Int.add v4 x4)))).2.2 (Int.ofNat 0)) (some (false,())) (cond (ieqI (Int.ofNat (List.length (S.encB x1 (x2.1,x2.2)).1)) (Int.ofNat 0)) none (cond (lchk (Int.ofNat 0) (IntKind.i64.wrap (Int.sub (IntKind.i64.wrap (Int.sub (Int.ofNat (List.length (S.encB x1 (x2.1,x2.2)).1)) (Int.ofNat 1))) (Int.tmod (IntKind.i64.wrap x5) (Int.ofNat (List.length (S.encB x1 (x2.1,x2.2)).1))))) (Int.ofNat (List.length (S.encB x1 (x2.1,x2.2)).1)) (Int.ofNat (List.length (S.encB x1 (x2.1,x2.2)).1))) (cond (Bool.not (ieqI (S.Dec x1 (lsub (S.encB x1 (x2.1,x2.2)).1 (Int.ofNat 0) (IntKind.i64.wrap (Int.sub (IntKind.i64.wrap (Int.sub (Int.ofNat (List.length (S.encB x1 (x2.1,x2.2)).1)) (Int.ofNat 1))) (Int.tmod (IntKind.i64.wrap x5) (Int.ofNat (List.length (S.encB x1 (x2.1,x2.2)).1))))))).2.2 (Int.ofNat 0))) (some (true,())) (cond (lchk (Int.ofNat 0) (imax (Int.ofNat 0) (IntKind.i64.wrap (Int.sub (Int.ofNat (List.length (lsub (S.encB x1 (x2.1,x2.2)).1 (Int.ofNat 0) (IntKind.i64.wrap (Int.sub (IntKind.i64.wrap (Int.sub (Int.ofNat (List.length (S.encB x1 (x2.1,x2.2)).1)) (Int.ofNat 1))) (Int.tmod (IntKind.i64.wrap x5) (Int.ofNat (List.length (S.encB x1 (x2.1,x2.2)).1)))))))) (Int.ofNat 4)))) (Int.ofNat (List.length (lsub (S.encB x1 (x2.1,x2.2)).1 (Int.ofNat 0) (IntKind.i64.wrap (Int.sub (IntKind.i64.wrap (Int.sub (Int.ofNat (List.length (S.encB x1 (x2.1,x2.2)).1)) (Int.ofNat 1))) (Int.tmod (IntKind.i64.wrap x5) (Int.ofNat (List.length (S.encB x1 (x2.1,x2.2)).1)))))))) (Int.ofNat (List.length (lsub (S.encB x1 (x2.1,x2.2)).1 (Int.ofNat 0) (IntKind.i64.wrap (Int.sub (IntKind.i64.wrap (Int.sub (Int.ofNat (List.length (S.encB x1 (x2.1,x2.2)).1)) (Int.ofNat 1))) (Int.tmod (IntKind.i64.wrap x5) (Int.ofNat (List.length (S.encB x1 (x2.1,x2.2)).1))))))))) (match (cond (Nat.ble (Nat.add (List.length (lsub (lsub (S.encB x1 (x2.1,x2.2)).1 (Int.ofNat 0) (IntKind.i64.wrap (Int.sub (IntKind.i64.wrap (Int.sub (Int.ofNat (List.length (S.encB x1 (x2.1,x2.2)).1)) (Int.ofNat 1))) (Int.tmod (IntKind.i64.wrap x5) (Int.ofNat (List.length (S.encB x1 (x2.1,x2.2)).1)))))) (Int.ofNat 0) (imax (Int.ofNat 0) (IntKind.i64.wrap (Int.sub (Int.ofNat (List.length (lsub (S.encB x1 (x2.1,x2.2)).1 (Int.ofNat 0) (IntKind.i64.wrap (Int.sub (IntKind.i64.wrap (Int.sub (Int.ofNat (List.length (S.encB x1 (x2.1,x2.2)).1)) (Int.ofNat 1))) (Int.tmod (IntKind.i64.wrap x5) (Int.ofNat (List.length (S.encB x1 (x2.1,x2.2)).1)))))))) (Int.ofNat 4)))))) 100) 140737488355328) (some ((List.append (lsub (lsub (S.encB x1 (x2.1,x2.2)).1 (Int.ofNat 0) (IntKind.i64.wrap (Int.sub (IntKind.i64.wrap (Int.sub (Int.ofNat (List.length (S.encB x1 (x2.1,x2.2)).1)) (Int.ofNat 1))) (Int.tmod (IntKind.i64.wrap x5) (Int.ofNat (List.length (S.encB x1 (x2.1,x2.2)).1)))))) (Int.ofNat 0) (imax (Int.ofNat 0) (IntKind.i64.wrap (Int.sub (Int.ofNat (List.length (lsub (S.encB x1 (x2.1,x2.2)).1 (Int.ofNat 0) (IntKind.i64.wrap (Int.sub (IntKind.i64.wrap (Int.sub (Int.ofNat (List.length (S.encB x1 (x2.1,x2.2)).1)) (Int.ofNat 1))) (Int.tmod (IntKind.i64.wrap x5) (Int.ofNat (List.length (S.encB x1 (x2.1,x2.2)).1)))))))) (Int.ofNat 4))))) (S.sum4 (lsub (lsub (S.encB x1 (x2.1,x2.2)).1 (Int.ofNat 0) (IntKind.i64.wrap (Int.sub (IntKind.i64.wrap (Int.sub (Int.ofNat (List.length (S.encB x1 (x2.1,x2.2)).1)) (Int.ofNat 1))) (Int.tmod (IntKind.i64.wrap x5) (Int.ofNat (List.length (S.encB x1 (x2.1,x2.2)).1)))))) (Int.ofNat 0) (imax (Int.ofNat 0) (IntKind.i64.wrap (Int.sub (Int.ofNat (List.length (lsub (S.encB x1 (x2.1,x2.2)).1 (Int.ofNat 0) (IntKind.i64.wrap (Int.sub (IntKind.i64.wrap (Int.sub (Int.ofNat (List.length (S.encB x1 (x2.1,x2.2)).1)) (Int.ofNat 1))) (Int.tmod (IntKind.i64.wrap x5) (Int.ofNat (List.length (S.encB x1 (x2.1,x2.2)).1)))))))) (Int.ofNat 4))))))),())) none) with|none=>none|some v7=>(some ((S.eqB v7.1 (lsub (S.encB x1 (x2.1,x2.2)).1 (Int.ofNat 0) (IntKind.i64.wrap (Int.sub (IntKind.i64.wrap (Int.sub (Int.ofNat (List.length (S.encB x1 (x2.1,x2.2)).1)) (Int.ofNat 1))) (Int.tmod (IntKind.i64.wrap x5) (Int.ofNat (List.length (S.encB x1 (x2.1,x2.2)).1))))))),()))) none)) none))))))))))))))
def qmr(lf:Nat)(x1:(List qab))(x2:qac)(x3:Int)(x4:Int)(x5:Int):Option qqu:=q4w lf x1 x2 x3 x4 x5
theorem zlr{g:ElA [(.list cForm),cGraph,(.int .u16),(.int .u8),(.int .u16)]->Option qqu}(hsm:SmOK Try.prog [(13,qxq),(14,q2s),(15,qgw),(20,q66),(40,q2h),(41,q0k),(43,q0i),(42,qtk)])(hg:∀(x:ElA [(.list cForm),cGraph,(.int .u16),(.int .u8),(.int .u16)]) (y:qqu),WfA [(.list cForm),cGraph,(.int .u16),(.int .u8),(.int .u16)] x->g x=some y->∃lf,qmr lf x.1 x.2.1 x.2.2.1 x.2.2.2.1 x.2.2.2.2.1=some y):Con Try.prog 11 ⟨[(.list cForm),cGraph,(.int .u16),(.int .u8),(.int .u16)],[(false,.bool)],g⟩ :=
 conU (fi:=fi11) (hxl:=[]) (fun lf x=>qmr lf x.1 x.2.1 x.2.2.1 x.2.2.2.1 x.2.2.2.2.1) cm3 zgl trivial hsm hg
def Byt(l:List Int):Prop:=∀v∈l,0<=v/\v<256
theorem Byt.app{a b:List Int}(h:Byt a)(k:Byt b):Byt (a++b):=fun v hv=>(jbb.1 hv).elim (h v) (k v)
theorem qrb:∀(f:Nat) (u:Int),0<=u->u<128 ^ (f+1)->Byt (S.numU f u)
 | 0,u,h0,h1=>fun v hv=>by
  have hv:v=u:=by simpa [S.numU] using hv
  subst hv;have:v<128:=by simpa using h1
  omega
 | f+1,u,h0,h1=>fun v hv=>by
  by_cases hu:u<128
  ·rw[qu1 hu] at hv;have hv:v=u:=by simpa using hv
   omega
  ·rw[qr0 hu] at hv;rcases jaz.1 hv with rfl|hv
   ·omega
   ·exact qrb f (u / 128) (by omega) (q2z h1) v hv
theorem qoy{n:Int}(h:S.numOK n=true):Byt (S.num n):=by
 unfold S.numOK at h;simp only[jah,ja8] at h;have e:(128:Int) ^ (10+1)=151115727451828646838272:=by decide +kernel
 unfold S.num;by_cases hn:n<0
 ·rw[jaq hn];exact qrb 10 _ (by omega) (by rw[e];omega)
 ·rw[jal hn];exact qrb 10 _ (by omega) (by rw[e];omega)
theorem q1i{l:List (Int × Int)}(h:∀v∈l,S.numOK (S.code v)=true):Byt (S.codes l):=fun v hv=>by
 unfold S.codes at hv;rw[List.mem_flatMap] at hv;obtain⟨w,hw,hv⟩:=hv;exact qoy (h w hw) v hv
theorem zpd{l:List qab}{G:List qaa × List DVal}(hE:EncG l G):Byt (S.enc l G):=by
 unfold S.enc;refine(qoy (qmp hE.n4)).app (Byt.app (fun v hv=>?_) ((qoy (qmp (by have:=hE.r6;omega))).app (q1i hE.rok)));rw[List.mem_flatMap] at hv;obtain⟨n,hn,hv⟩:=hv;unfold S.encN at hv;exact((qoy (q2c hE.l24 n.1)).app (q1i (hE.ok n hn))) v hv
theorem qm4{s v:Int}(h1:0<=s)(h2:s<2147483647)(h3:0<=v)(h4:v<256):S.sumStep s v=(31*s+v) % 2147483647:=by
 have e:Int.mul (Int.ofNat 31) s=31*s:=rfl;have e2:Int.add (31*s) v=31*s+v:=rfl;unfold S.sumStep;rw[e,w64 (n:=31*s) (by omega) (by omega),w64 (n:=v) (by omega) (by omega),e2,w64 (n:=31*s+v) (by omega) (by omega),jb6 (by omega)];rfl
theorem q5l:∀(b:List Int) (s t:Int),Byt b->0<=s->s<2147483647->0<=t->t<2147483647->b.foldl S.sumStep s=b.foldl S.sumStep t->s=t
 | [],s,t,_,_,_,_,_,h=>h
 | v::b,s,t,hb,s0,s1,t0,t1,h=>by
  obtain⟨g1,g2⟩:=hb v (jbh ..);obtain⟨k1,k2⟩:=qi0 s0 s1 g1 g2;obtain⟨l1,l2⟩:=qi0 t0 t1 g1 g2;have:=q5l b _ _ (fun w hw=>hb w (ja7 _ hw)) k1 k2 l1 l2 h;rw[qm4 s0 s1 g1 g2,qm4 t0 t1 g1 g2] at this;omega
theorem zh6{a b:List Int}{x y:Int}(ha:Byt a)(hb:Byt b)(hx:0<=x/\x<256)(hy:0<=y/\y<256)(hxy:¬x=y):¬S.sumI (a++x::b)=S.sumI (a++y::b):=by
 intro h;unfold S.sumI at h;rw[List.foldl_append,List.foldl_append,jeb,jeb] at h;obtain⟨s0,s1⟩:=qk7 a 1 ha (by omega) (by omega);generalize a.foldl S.sumStep 1=s at h s0 s1;obtain⟨k1,k2⟩:=qi0 s0 s1 hx.1 hx.2;obtain⟨l1,l2⟩:=qi0 s0 s1 hy.1 hy.2;have:=q5l b _ _ hb k1 k2 l1 l2 h;rw[qm4 s0 s1 hx.1 hx.2,qm4 s0 s1 hy.1 hy.2] at this;omega
theorem zlh{s t:Int}(s0:0<=s)(s1:s<2147483647)(t0:0<=t)(t1:t<2147483647)(h:S.sum4I s=S.sum4I t):s=t:=by
 unfold S.sum4I at h;simp only[jc0,w8,and_true] at h;obtain⟨h1,h2,h3,h4⟩:=h;have f:∀(a:Int) (n:Nat),Int.fdiv a (Int.ofNat n)=a / (n:Int):=fun a n=>jb5 a (jcy n);rw[f,f] at h1 h2 h3;omega
theorem zml(s:Int):Byt (S.sum4I s):=fun v hv=>by
 unfold S.sum4I at hv;simp only[jaz,jdp,or_false,w8] at hv;rcases hv with rfl|rfl|rfl|rfl<;>omega
theorem zbk{F:List qab}{E:List Int}(hE:Byt E){i:Nat}{x y:Int}(hi:(E++S.sum4 E)[i]?=some x)(hy:0<=y/\y<256)(hxy:¬x=y):¬(S.Dec F ((E++S.sum4 E).set i y)).2.2=0:=by
 have hl4:(S.sum4 E).length=4:=rfl;have hlen:((E++S.sum4 E).set i y).length-4=E.length:=by rw[jcm,jao,hl4];omega
 have hlen2:((E++S.sum4 E).set i y).length=E.length+4:=by rw[jcm,jao,hl4]
 unfold S.Dec;rw[hlen,hlen2];by_cases h0:S.checkForms F=0
 ·rw[jal (fun h=>h h0)];by_cases h1:60000<E.length+4
  ·rw[jaq h1];show ¬(3:Int)=0;decide
  ·rw[jal h1,jal (by omega)];have hne:¬((E++S.sum4 E).set i y).drop E.length=S.sum4 (((E++S.sum4 E).set i y).take E.length):=by
    intro h;by_cases hlt:i<E.length
    ·rw[List.set_append_left _ _ hlt,List.drop_left' (by rw[jcm]),List.take_left' (by rw[jcm])] at h;rw[jas hlt] at hi;obtain⟨a,b,rfl,rfl⟩:∃a b,E=a++x::b/\i=a.length:=by
      have hx:E[i]=x:=by rw[jac hlt] at hi;exact jbn hi
      refine⟨E.take i,E.drop (i+1),?_,by rw[jdl];omega⟩;rw[<- hx,<- jbv hlt,jcg]
     rw[jel _ _ (jar _),jek,List.set_cons_zero] at h;have ha:Byt a:=fun v hv=>hE v (by simp[hv]);have hb:Byt b:=fun v hv=>hE v (by simp[hv]);have hx:0<=x/\x<256:=hE x (by simp);have hE2:Byt (a++y::b):=ha.app fun v hv=>by
      rcases jaz.1 hv with rfl|hv
      ·exact hy
      ·exact hb v hv
     obtain⟨s0,s1⟩:=qk7 _ 1 hE (by omega) (by omega);obtain⟨t0,t1⟩:=qk7 _ 1 hE2 (by omega) (by omega);exact zh6 ha hb hx hy hxy (zlh s0 s1 t0 t1 h)
    ·rw[jel _ _ (by omega),List.drop_left,List.take_left] at h;rw[jau (by omega)] at hi;have h5:=jb9 (fun l:List Int=>l[i-E.length]?) h;have hlt2:i-E.length<(S.sum4 E).length:=(jav.1 hi).1;simp only[List.getElem?_set_self hlt2,hi] at h5;exact hxy (jbn h5).symm
   rw[jaq hne];show ¬(15:Int)=0;decide
 ·rw[jaq h0];exact h0
theorem zf6{F:List qab}{b:List Int}(h:(S.Dec F b).2.2=0):4<=b.length/\b.take (b.length-4)++S.sum4 (b.take (b.length-4))=b:=by
 unfold S.Dec at h;by_cases h0:S.checkForms F=0
 ·rw[jal (fun h=>h h0)] at h;by_cases h1:60000<b.length
  ·rw[jaq h1] at h;exact absurd (show (3:Int)=0 from h) (by decide)
  ·rw[jal h1] at h;by_cases h2:b.length<4
   ·rw[jaq h2] at h;exact absurd (show (15:Int)=0 from h) (by decide)
   ·rw[jal h2] at h;by_cases h3:b.drop (b.length-4)=S.sum4 (b.take (b.length-4))
    ·exact⟨by omega,by rw[<- h3];exact jcg _ _⟩
    ·rw[jaq h3] at h;exact absurd (show (15:Int)=0 from h) (by decide)
 ·rw[jaq h0] at h;exact absurd h h0


theorem zk9{l:List qab}{g:List qaa × List DVal}(h:(S.encB l g).2=0):∃E:List Int,(S.encB l g).1=E++S.sum4 E/\Byt E/\E.length+4<=60000:=by
 unfold S.encB at h ⊢;by_cases h0:S.checkG l g=0
 ·rw[jaq h0] at h ⊢;by_cases h1:60000<(S.enc l (S.canonG g)).length+4
  ·rw[jaq h1] at h;exact absurd (show (3:Int)=0 from h) (by decide)
  ·rw[jal h1] at h ⊢;exact⟨_,rfl,zpd (qwg h0).2,by omega⟩
 ·rw[jal h0] at h;exact absurd h h0
theorem za0(lf:Nat)(l:List qab)(g:List qaa × List DVal)(x3 x4 x5:Int)(h3:0<=x3/\x3<=65535)(h4:0<=x4/\x4<=255)(h5:0<=x5/\x5<=65535):qmr lf l g x3 x4 x5=some (true,()):=by
 simp only[qmr,q4w];have eta:(g.1,g.2)=g:=rfl;rw[eta];cases S.fewForms l with
 | false=>rfl
 | true =>
 cases S.few g with
 | false=>rfl
 | true =>
 simp only[jbf,jae,qaw];by_cases hx4:x4=0
 ·rw[jak (show x4=Int.ofNat 0 from hx4),jaa]
 rw[jai (show ¬x4=Int.ofNat 0 from hx4),jae];by_cases he:(S.encB l g).2=0
 case neg=>rw[jai (show ¬(S.encB l g).2=Int.ofNat 0 from he)];rfl
 rw[jak (show (S.encB l g).2=Int.ofNat 0 from he),jbf,jae];obtain⟨E,hB,hE,hlE⟩:=zk9 he;have hlen:(S.encB l g).1.length=E.length+4:=by rw[hB,jao];rfl
 have hset:∀i y x,(S.encB l g).1[i]?=some x->0<=y/\y<256->¬x=y->¬(S.Dec l ((S.encB l g).1.set i y)).2.2=0:=fun i y x h1 h2 h3=>by
  rw[hB] at h1 ⊢;exact zbk hE h1 h2 h3
 have hbyt:Byt (S.encB l g).1:=by rw[hB];exact hE.app (zml _)
 generalize (S.encB l g).1=B at hlen hset hbyt ⊢;rw[qam,jai (show ¬Int.ofNat B.length<Int.ofNat 4 by show ¬(B.length:Int)<4;omega),jae];cases B with
 | nil=>simp at hlen
 | cons c r =>
 simp only;generalize c::r=B at hlen hset hbyt ⊢;have hN:¬Int.ofNat B.length=Int.ofNat 0:=by show ¬(B.length:Int)=0;omega
 rw[jai hN];simp only[jae];have w3:IntKind.i64.wrap x3=x3:=w64 (by omega) (by omega);have w5:IntKind.i64.wrap x5=x5:=w64 (by omega) (by omega);have t3:Int.tmod x3 (Int.ofNat B.length)=Int.ofNat (x3.toNat % B.length):=by
  rw[jb6 h3.1];show x3 % (B.length:Int)=((x3.toNat % B.length:Nat):Int);rw[Int.natCast_emod];congr 1;omega
 have t5:Int.tmod x5 (Int.ofNat B.length)=Int.ofNat (x5.toNat % B.length):=by
  rw[jb6 h5.1];show x5 % (B.length:Int)=((x5.toNat % B.length:Nat):Int);rw[Int.natCast_emod];congr 1;omega
 have hi:x3.toNat % B.length<B.length:=jed _ (by omega);have hk:x5.toNat % B.length<B.length:=jed _ (by omega);rw[w3,w5,t3,t5];generalize x3.toNat % B.length=i at hi ⊢;generalize x5.toNat % B.length=k at hk ⊢;have g1:jget B (Int.ofNat i)=some B[i]:=by rw[qc9];exact jac hi
 have g2:B[Int.toNat (Int.ofNat i)]?=some B[i]:=jac hi;have hx:=hbyt B[i] (ja4 hi);have wy:IntKind.u8.wrap (Int.add B[i] x4)=(B[i]+x4) % 256:=w8 _;have hne:=hset i ((B[i]+x4) % 256) B[i] (jac hi) (by omega) (by omega);have wK:IntKind.i64.wrap (Int.sub (IntKind.i64.wrap (Int.sub (Int.ofNat B.length) (Int.ofNat 1))) (Int.ofNat k))=Int.ofNat (B.length-1-k):=by
  rw[show Int.sub (Int.ofNat B.length) (Int.ofNat 1)=(B.length:Int)-1 from rfl,w64 (n:=(B.length:Int)-1) (by omega) (by omega)];rw[show Int.sub ((B.length:Int)-1) (Int.ofNat k)=(B.length:Int)-1-(k:Int) from rfl,w64 (by omega) (by omega)];show _=((B.length-1-k:Nat):Int);omega
 simp only[g1,g2,wy,wK];rw[show Int.toNat (Int.ofNat i)=i from rfl];rw[jai (show ¬(S.Dec l (B.set i ((B[i]+x4) % 256))).2.2=Int.ofNat 0 from hne),jae];have c1:lchk (Int.ofNat 0) (Int.ofNat (B.length-1-k)) (Int.ofNat B.length) (Int.ofNat B.length)=true:=qed.2 ⟨jcq _,by show (0:Int)<=((B.length-1-k:Nat):Int);omega,by show ((B.length-1-k:Nat):Int)<=(B.length:Int);omega,jcq _⟩;have s1:lsub B (Int.ofNat 0) (Int.ofNat (B.length-1-k))=B.take (B.length-1-k):=by
  show (B.take (B.length-1-k)).drop 0=_;rw[jcv]
 simp only[c1,s1,jaa];have hsl:(B.take (B.length-1-k)).length<=60000:=by rw[jdl];omega
 generalize B.take (B.length-1-k)=b at hsl ⊢;by_cases hd:(S.Dec l b).2.2=0
 case neg=>rw[jai (show ¬(S.Dec l b).2.2=Int.ofNat 0 from hd)];rfl
 rw[jak (show (S.Dec l b).2.2=Int.ofNat 0 from hd),jbf,jae];obtain⟨b4,hb⟩:=zf6 hd;have wM:imax (Int.ofNat 0) (IntKind.i64.wrap (Int.sub (Int.ofNat b.length) (Int.ofNat 4)))=Int.ofNat (b.length-4):=by
  rw[show Int.sub (Int.ofNat b.length) (Int.ofNat 4)=(b.length:Int)-4 from rfl,w64 (n:=(b.length:Int)-4) (by omega) (by omega)];rw[show (b.length:Int)-4=Int.ofNat (b.length-4) by show _=((b.length-4:Nat):Int);omega];unfold imax;rw[qam];by_cases hz:Int.ofNat 0<Int.ofNat (b.length-4)
  ·rw[jak hz];rfl
  ·have:b.length-4=0:=by have:¬(0:Int)<((b.length-4:Nat):Int):=hz;omega
   rw[jai hz,this];rfl
 have c2:lchk (Int.ofNat 0) (Int.ofNat (b.length-4)) (Int.ofNat b.length) (Int.ofNat b.length)=true:=qed.2 ⟨jcq _,by show (0:Int)<=((b.length-4:Nat):Int);omega,by show ((b.length-4:Nat):Int)<=(b.length:Int);omega,jcq _⟩;have s2:lsub b (Int.ofNat 0) (Int.ofNat (b.length-4))=b.take (b.length-4):=by
  show (b.take (b.length-4)).drop 0=_;rw[jcv]
 have hr:Nat.ble (Nat.add (b.take (b.length-4)).length 100) 140737488355328=true:=jby (by rw[jdl];show min (b.length-4) b.length+100<=_;omega);have happ:List.append (b.take (b.length-4)) (S.sum4 (b.take (b.length-4)))=b:=hb;simp only[wM,c2,s2,jaa,hr,happ];rw[qjo.2 rfl]
theorem zcg(hs:Con Try.prog 15 qgw):Con Try.prog qx8 ⟨[.list cForm,cGraph,.int .u16,.int .u8,.int .u16],[(false,.bool)],fun _=>some (true,())⟩ :=
 zlr ⟨zqo,zpm,hs,zok,zhj,zlm,zbx,q0h,trivial⟩ fun x y hx h=>⟨LF,by
  obtain⟨l,g,(x3:Int),(x4:Int),(x5:Int),_⟩:=x;obtain⟨_,_,k3,k4,k5,_⟩:=hx;have k3:=(qdm .u16 x3).1 k3;have k4:=(qdm .u8 x4).1 k4;have k5:=(qdm .u16 x5).1 k5;exact(za0 LF l g x3 x4 x5 k3 k4 k5).trans h⟩
def exN:Ex:=fun _=>none
def isR(o:Option Res):Bool:=match o with
 | some r=>(match runR qgw r with
  | some y=>y.1
  | none=>false)
 | none=>false
theorem zqa{o:Option Res}(h:isR o=true):∃r,o=some r/\runR qgw r=some (true,()):=by
 cases o with
 | none=>cases h
 | some r =>
  refine⟨r,rfl,?_⟩;unfold isR at h;cases hr:runR qgw r with
  | none=>simp only[hr] at h;cases h
  | some y =>
   simp only[hr] at h;exact jb9 some (Prod.ext h rfl)
theorem zpn:isR (qbz Try.prog ttT.get ftT.get (fun _ _=>none) exN 1000 100 (.fn 15) [] S0)=true:=by kernel_rfl
theorem zjr:ExOK Try.prog exN:=⟨fun _ _ h=>(nomatch h),fun _ _ h=>(nomatch h),fun _ _ h=>(nomatch h)⟩
theorem zgw:Con Try.prog 15 qgw:=zo1 (lf:=1000) qcl ttOK ftOK zjr zlq fun x y h=>by
 obtain⟨r,h1,h2⟩:=zqa zpn;exact⟨100,1000,r,h1,h2.trans h⟩
theorem rd81:RdT Try.prog (.int .u16) 81:=qrw Try.underlying81 (by kernel_rfl) (by kernel_rfl)
theorem con_PackTorn:Con Try.prog qx8 ⟨[.list cForm,cGraph,.int .u16,.int .u8,.int .u16],[(false,.bool)],fun _=>some (true,())⟩:=zcg zgw
end Go.Proofs.Ytcnhjofpmpipfaa
end
