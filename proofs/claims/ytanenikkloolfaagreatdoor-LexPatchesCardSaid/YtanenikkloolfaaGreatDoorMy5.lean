/- Texts: Xg3, Xp5, Xp6, Xp7, Xp8, Xp9, Xp10, Xg5, Xp11, Xp12, Xp13, Xp14, Xp15, Xp16, Xr3, Xr4, Xr5, Xg7, Xg8, Xt1, Xt2, Xr6, Xsp7, Xsp8, Xg9, Xp18, Xg10, Xt3, Xt4, Xt5, Xt6, Xp19, Xhg, Xg14, Xl9, Xt7. -/
import Derived.Test.YtanenikkloolfaaGreatDoorMy4
set_option linter.unusedVariables false
noncomputable section
set_option maxRecDepth 100000
namespace Go.Proofs.YtanenikkloolfaaGreatDoor
open Go Go.Sx Go.RowKit Go.Jx
def nmz17:Nat->Option Nm:=fun k=>cond (Nat.beq k 11) (some ⟨[0,1,2,3,9,10],[(9,.str)],[],[],[],0,0,false⟩) (none)
def stz17:Nat->Bool:=fun k=>cond (Nat.beq k 11) true (false)
def hdz17:=stz17
abbrev Rtz17:Type:=(List ByteArray) × Unit
def qln:List (Nat × Sm):=[(54,qkx),(82,qlo)]
def qop:List (Nat × Hx):=[]
def clz17 (R:Type) (lf:Nat):ClK R:=qah Tryz.prog ttT.get ftT.get (nm1 63 nmz17) (smL qln) (hxL qop) lf 20 R
abbrev idz17:Nat:=63
def qe6 (x1:ByteArray) (x2:ByteArray) (x3:Int) (x4:Int) (p:Int × (List ByteArray) × ByteArray × Int):NRes:=(NRes.mk (.node (some (IV.str p.2.2.1)) (.node (some (IV.str x2)) (.node (some (IV.int .i64 p.1)) .leaf .leaf) (.node none (.node (some (IV.arr 0)) .leaf .leaf) .leaf)) (.node (some (IV.int .i64 x3)) .leaf (.node none (.node (some (IV.int .i64 p.2.2.2)) .leaf .leaf) .leaf))) (IS.mk (.node (some (IObj.arr TC.str p.2.1)) .leaf .leaf) 1) [] 0)
def qp6 (lf:Nat) (x1:ByteArray) (x2:ByteArray) (x3:Int) (x4:Int) (L11:(Int × (List ByteArray) × ByteArray × Int)->Option Rtz17):Option Rtz17:=(cond (ieqI x4 (Int.ofNat 0)) (some ([],())) (cond (keqS x2 (S.lit [])) none (cond (iltI x4 (Int.ofNat 0)) (match (cond (keqS x2 (S.lit (List.cons 10 []))) (some ((S.countB (qaa x1) (Int.ofNat 10)),())) none) with|.none  => none|.some v0=>(cond (iltI (imin (IntKind.i64.wrap (Int.add v0.1 (Int.ofNat 1))) (IntKind.i64.wrap (Int.ofNat (Nat.add (ByteArray.size x1) 1)))) (Int.ofNat 0)) none (cond (Nat.ble (Nat.mul (Int.toNat (imin (IntKind.i64.wrap (Int.add v0.1 (Int.ofNat 1))) (IntKind.i64.wrap (Int.ofNat (Nat.add (ByteArray.size x1) 1))))) 16) 140737488355328) (L11 ((IntKind.i64.wrap (Int.sub (imin (IntKind.i64.wrap (Int.add v0.1 (Int.ofNat 1))) (IntKind.i64.wrap (Int.ofNat (Nat.add (ByteArray.size x1) 1)))) (Int.ofNat 1))),(S.rep (imin (IntKind.i64.wrap (Int.add v0.1 (Int.ofNat 1))) (IntKind.i64.wrap (Int.ofNat (Nat.add (ByteArray.size x1) 1)))) (S.lit [])),x1,(Int.ofNat 0))) none))) (cond (iltI (imin x4 (IntKind.i64.wrap (Int.ofNat (Nat.add (ByteArray.size x1) 1)))) (Int.ofNat 0)) none (cond (Nat.ble (Nat.mul (Int.toNat (imin x4 (IntKind.i64.wrap (Int.ofNat (Nat.add (ByteArray.size x1) 1))))) 16) 140737488355328) (L11 ((IntKind.i64.wrap (Int.sub (imin x4 (IntKind.i64.wrap (Int.ofNat (Nat.add (ByteArray.size x1) 1)))) (Int.ofNat 1))),(S.rep (imin x4 (IntKind.i64.wrap (Int.ofNat (Nat.add (ByteArray.size x1) 1)))) (S.lit [])),x1,(Int.ofNat 0))) none)))))
def qdn (lf:Nat) (x1:ByteArray) (x2:ByteArray) (x3:Int) (x4:Int) (L11:(Int × (List ByteArray) × ByteArray × Int)->Option Rtz17) (p:Int × (List ByteArray) × ByteArray × Int):Option Rtz17:=(cond (iltI p.2.2.2 p.1) (match (cond (keqS x2 (S.lit (List.cons 10 []))) (some ((S.indexB (qaa p.2.2.1) (Int.ofNat 10)),())) none) with|.none  => none|.some v0=>(cond (iltI v0.1 (Int.ofNat 0)) (match (jget p.2.1 p.2.2.2) with|.none  => none|.some v1=>(match (GetElem?.getElem? p.2.1 (Int.toNat p.2.2.2)) with|.none  => none|.some v2=>(cond (ieqI (IntKind.i64.wrap (Int.add p.2.2.2 (Int.ofNat 1))) (Int.ofNat (List.length (List.set p.2.1 (Int.toNat p.2.2.2) p.2.2.1)))) (some ((List.set p.2.1 (Int.toNat p.2.2.2) p.2.2.1),())) none))) (cond (lchk (Int.ofNat 0) (IntKind.i64.wrap (Int.add v0.1 x3)) (Int.ofNat (ByteArray.size p.2.2.1)) (Int.ofNat (ByteArray.size p.2.2.1))) (match (jget p.2.1 p.2.2.2) with|.none  => none|.some v3=>(match (GetElem?.getElem? p.2.1 (Int.toNat p.2.2.2)) with|.none  => none|.some v4=>(cond (lchk (IntKind.i64.wrap (Int.add v0.1 (Int.ofNat (ByteArray.size x2)))) (Int.ofNat (ByteArray.size p.2.2.1)) (Int.ofNat (ByteArray.size p.2.2.1)) (Int.ofNat (ByteArray.size p.2.2.1))) (L11 (p.1,(List.set p.2.1 (Int.toNat p.2.2.2) (ByteArray.extract p.2.2.1 0 (Int.toNat (IntKind.i64.wrap (Int.add v0.1 x3))))),(ByteArray.extract p.2.2.1 (Int.toNat (IntKind.i64.wrap (Int.add v0.1 (Int.ofNat (ByteArray.size x2))))) (Int.toNat (Int.ofNat (ByteArray.size p.2.2.1)))),(IntKind.i64.wrap (Int.add p.2.2.2 (Int.ofNat 1))))) none))) none))) (match (jget p.2.1 p.2.2.2) with|.none  => none|.some v90=>(match (GetElem?.getElem? p.2.1 (Int.toNat p.2.2.2)) with|.none  => none|.some v91=>(cond (ieqI (IntKind.i64.wrap (Int.add p.2.2.2 (Int.ofNat 1))) (Int.ofNat (List.length (List.set p.2.1 (Int.toNat p.2.2.2) p.2.2.1)))) (some ((List.set p.2.1 (Int.toNat p.2.2.2) p.2.2.1),())) none))))
abbrev gz17:Type:=ElA [.str,.str,(.int .i64),(.int .i64)]->Option Rtz17
abbrev sz17 (g:gz17):Sm:=⟨[.str,.str,(.int .i64),(.int .i64)],[(true,.str)],g⟩
abbrev Ez17 (g:gz17) (J:JT Rtz17) (lf:Nat) (x1:ByteArray) (x2:ByteArray) (x3:Int) (x4:Int):=qao Tryz.prog ttT.get nmz17 fi63.nt (clz17 _ lf) lf stz17 J fi63.body [] (argGo (argV [.str,.str,(.int .i64),(.int .i64)] (x1,x2,x3,x4,())) 0 .leaf) S0 [] (lastK ttT.get fi63 (sz17 g))
abbrev Bz17 (g:gz17) (J:JT Rtz17) (lf k:Nat) (ms:List Nat) (q:NRes):=qaz Tryz.prog ttT.get nmz17 fi63.nt (clz17 _ lf) lf stz17 J k fi63.body [] ms q (lastK ttT.get fi63 (sz17 g))
theorem inz17 (g:gz17) (J:JT Rtz17) (lf:Nat) (x1:ByteArray) (x2:ByteArray) (x3:Int) (x4:Int):Ez17 g J lf x1 x2 x3 x4=qp6 lf x1 x2 x3 x4 (fun q=>J 11 [lf] (qe6 x1 x2 x3 x4 q)):=by kernel_rfl
theorem qzp (g:gz17) (J:JT Rtz17) (lf:Nat) (x1:ByteArray) (x2:ByteArray) (x3:Int) (x4:Int) (m1:Nat) (p:Int × (List ByteArray) × ByteArray × Int):Bz17 g J lf 11 [m1] (qe6 x1 x2 x3 x4 p)=qdn lf x1 x2 x3 x4 (fun q=>J 11 [m1] (qe6 x1 x2 x3 x4 q)) p:=by kernel_rfl
theorem ndz17:(regs fi63.body).Nodup:=by decide +kernel
theorem okz17:okC nmz17 stz17 hdz17 fi63.body none=true:=by kernel_rfl
def Az17 (g:gz17) (lf:Nat):JT Rtz17:=atN Tryz.prog ttT.get nmz17 fi63 (sz17 g) (clz17 _ lf) lf hdz17
def qiz (lf:Nat) (x1:ByteArray) (x2:ByteArray) (x3:Int) (x4:Int):Nat->(Int × (List ByteArray) × ByteArray × Int)->Option Rtz17:=rounds fun K p=>qdn lf x1 x2 x3 x4 K p
theorem qv6 (g:gz17) (lf:Nat) (x1:ByteArray) (x2:ByteArray) (x3:Int) (x4:Int):∀(n:Nat) (p:Int × (List ByteArray) × ByteArray × Int),Az17 g lf 11 [n] (qe6 x1 x2 x3 x4 p)=qiz lf x1 x2 x3 x4 n p
 | 0,p=>qa2 11 [0] rfl _
 | n+1,p=>by
   have ih:=qv6 g lf x1 x2 x3 x4 n
   refine(qav (qam 20 _) ndz17 okz17 11 [n+1] [n] rfl _).trans ((qzp g (Az17 g lf) lf x1 x2 x3 x4 n p).trans ?_)
   rw[(show (fun q=>Az17 g lf 11 [n] (qe6 x1 x2 x3 x4 q))=(fun q=>qiz lf x1 x2 x3 x4 n q) from funext ih)]
   rfl
def Fz17 (lf:Nat) (x1:ByteArray) (x2:ByteArray) (x3:Int) (x4:Int):Option Rtz17:=qp6 lf x1 x2 x3 x4 (fun q=>qiz lf x1 x2 x3 x4 lf q)
theorem runz17 (g:gz17) (lf:Nat) (x1:ByteArray) (x2:ByteArray) (x3:Int) (x4:Int):Ez17 g (Az17 g lf) lf x1 x2 x3 x4=Fz17 lf x1 x2 x3 x4:=by
   refine(inz17 g (Az17 g lf) lf x1 x2 x3 x4).trans ?_
   rw[(show (fun q=>Az17 g lf 11 [lf] (qe6 x1 x2 x3 x4 q))=(fun q=>qiz lf x1 x2 x3 x4 lf q) from funext fun q=>qv6 g lf x1 x2 x3 x4 lf q)]
   rfl
theorem hxsz17:HxsOK Tryz.prog qop:=trivial
theorem mkz17 {g:gz17} (hsm:SmOK Tryz.prog qln) (hg:∀(x:ElA [.str,.str,(.int .i64),(.int .i64)]) (y:Rtz17),WfA [.str,.str,(.int .i64),(.int .i64)] x->g x=some y->∃lf,Fz17 lf x.1 x.2.1 x.2.2.1 x.2.2.2.1=some y):Con Tryz.prog 63 ⟨[.str,.str,(.int .i64),(.int .i64)],[(true,.str)],g⟩ :=
 conT (nmf:=nmz17) (sml:=qln) (hxl:=qop) (st:=stz17) (hd:=hdz17) 20 mixed ttOK ftOK hsm hxsz17 cal63 rfl rfl (by kernel_rfl) (fun x=>by kernel_rfl) ndz17 okz17 fun x y hx hy=>by
   obtain⟨lf,h⟩:=hg x y hx hy
   exact⟨lf,(runz17 g lf x.1 x.2.1 x.2.2.1 x.2.2.2.1).trans h⟩
def nmz18:Nat->Option Nm:=fun k=>cond (Nat.beq k 4) (some ⟨[0,3,4,5],[(3,.str)],[],[],[],0,0,false⟩) (none)
def stz18:Nat->Bool:=fun k=>cond (Nat.beq k 4) true (false)
def hdz18:=stz18
abbrev Rtz18:Type:=(List ByteArray) × Unit
def qnw:List (Nat × Sm):=[]
def qqr:List (Nat × Hx):=[]
def clz18 (R:Type) (lf:Nat):ClK R:=qah Tryz.prog ttT.get ftT.get (nm1 38 nmz18) (smL qnw) (hxL qqr) lf 20 R
abbrev idz18:Nat:=38
def qfs (x1:ByteArray) (p:Int × Int × (List ByteArray)):NRes:=(NRes.mk (.node (some (IV.str x1)) (.node none (.node (some (IV.arr 0)) .leaf .leaf) (.node (some (IV.int .i64 p.1)) .leaf .leaf)) (.node none (.node (some (IV.int .i64 p.2.1)) .leaf .leaf) .leaf)) (IS.mk (.node (some (IObj.arr TC.str p.2.2)) .leaf .leaf) 1) [] 0)
def qvh (lf:Nat) (x1:ByteArray) (L4:(Int × Int × (List ByteArray))->Option Rtz18):Option Rtz18:=(L4 ((Int.ofNat 0),(Int.ofNat 0),[]))
def qjh (lf:Nat) (x1:ByteArray) (L4:(Int × Int × (List ByteArray))->Option Rtz18) (p:Int × Int × (List ByteArray)):Option Rtz18:=(cond (iltI p.1 (Int.ofNat (ByteArray.size x1))) (match (jget (qaa x1) p.1) with|.none  => none|.some v0=>(cond (ieqI v0 (Int.ofNat 10)) (cond (lchk p.2.1 p.1 (Int.ofNat (ByteArray.size x1)) (Int.ofNat (ByteArray.size x1))) (cond (Nat.ble (Nat.mul (Nat.add (List.length p.2.2) 1) 16) 140737488355328) (L4 ((IntKind.i64.wrap (Int.add p.1 (Int.ofNat 1))),(IntKind.i64.wrap (Int.add p.1 (Int.ofNat 1))),(List.append p.2.2 (List.cons (ByteArray.extract x1 (Int.toNat p.2.1) (Int.toNat p.1)) [])))) none) none) (L4 ((IntKind.i64.wrap (Int.add p.1 (Int.ofNat 1))),p.2.1,p.2.2)))) (cond (lchk p.2.1 (Int.ofNat (ByteArray.size x1)) (Int.ofNat (ByteArray.size x1)) (Int.ofNat (ByteArray.size x1))) (cond (Nat.ble (Nat.mul (Nat.add (List.length p.2.2) 1) 16) 140737488355328) (some ((List.append p.2.2 (List.cons (ByteArray.extract x1 (Int.toNat p.2.1) (Int.toNat (Int.ofNat (ByteArray.size x1)))) [])),())) none) none))
abbrev gz18:Type:=ElA [.str]->Option Rtz18
abbrev sz18 (g:gz18):Sm:=⟨[.str],[(true,.str)],g⟩
abbrev Ez18 (g:gz18) (J:JT Rtz18) (lf:Nat) (x1:ByteArray):=qao Tryz.prog ttT.get nmz18 fi38.nt (clz18 _ lf) lf stz18 J fi38.body [] (argGo (argV [.str] (x1,())) 0 .leaf) S0 [] (lastK ttT.get fi38 (sz18 g))
abbrev Bz18 (g:gz18) (J:JT Rtz18) (lf k:Nat) (ms:List Nat) (q:NRes):=qaz Tryz.prog ttT.get nmz18 fi38.nt (clz18 _ lf) lf stz18 J k fi38.body [] ms q (lastK ttT.get fi38 (sz18 g))
theorem inz18 (g:gz18) (J:JT Rtz18) (lf:Nat) (x1:ByteArray):Ez18 g J lf x1=qvh lf x1 (fun q=>J 4 [lf] (qfs x1 q)):=by kernel_rfl
theorem stz18_4 (g:gz18) (J:JT Rtz18) (lf:Nat) (x1:ByteArray) (m1:Nat) (p:Int × Int × (List ByteArray)):Bz18 g J lf 4 [m1] (qfs x1 p)=qjh lf x1 (fun q=>J 4 [m1] (qfs x1 q)) p:=by kernel_rfl
theorem ndz18:(regs fi38.body).Nodup:=by decide +kernel
theorem okz18:okC nmz18 stz18 hdz18 fi38.body none=true:=by kernel_rfl
def Az18 (g:gz18) (lf:Nat):JT Rtz18:=atN Tryz.prog ttT.get nmz18 fi38 (sz18 g) (clz18 _ lf) lf hdz18
def qke (lf:Nat) (x1:ByteArray):Nat->(Int × Int × (List ByteArray))->Option Rtz18:=rounds fun K p=>qjh lf x1 K p
theorem quy (g:gz18) (lf:Nat) (x1:ByteArray):∀(n:Nat) (p:Int × Int × (List ByteArray)),Az18 g lf 4 [n] (qfs x1 p)=qke lf x1 n p
 | 0,p=>qa2 4 [0] rfl _
 | n+1,p=>by
   have ih:=quy g lf x1 n
   refine(qav (qam 20 _) ndz18 okz18 4 [n+1] [n] rfl _).trans ((stz18_4 g (Az18 g lf) lf x1 n p).trans ?_)
   rw[(show (fun q=>Az18 g lf 4 [n] (qfs x1 q))=(fun q=>qke lf x1 n q) from funext ih)]
   rfl
def Fz18 (lf:Nat) (x1:ByteArray):Option Rtz18:=qvh lf x1 (fun q=>qke lf x1 lf q)
theorem runz18 (g:gz18) (lf:Nat) (x1:ByteArray):Ez18 g (Az18 g lf) lf x1=Fz18 lf x1:=by
   refine(inz18 g (Az18 g lf) lf x1).trans ?_
   rw[(show (fun q=>Az18 g lf 4 [lf] (qfs x1 q))=(fun q=>qke lf x1 lf q) from funext fun q=>quy g lf x1 lf q)]
   rfl
theorem hxsz18:HxsOK Tryz.prog qqr:=trivial
theorem mkz18 {g:gz18} (hsm:SmOK Tryz.prog qnw) (hg:∀(x:ElA [.str]) (y:Rtz18),WfA [.str] x->g x=some y->∃lf,Fz18 lf x.1=some y):Con Tryz.prog 38 ⟨[.str],[(true,.str)],g⟩ :=
 conT (nmf:=nmz18) (sml:=qnw) (hxl:=qqr) (st:=stz18) (hd:=hdz18) 20 mixed ttOK ftOK hsm hxsz18 cal38 rfl rfl (by kernel_rfl) (fun x=>by kernel_rfl) ndz18 okz18 fun x y hx hy=>by
   obtain⟨lf,h⟩:=hg x y hx hy
   exact⟨lf,(runz18 g lf x.1).trans h⟩
def nmz19:Nat->Option Nm:=fun k=>cond (Nat.beq k 2) (some ⟨[0,1,5],[],[],[],[],0,0,false⟩) (none)
def stz19:Nat->Bool:=fun k=>cond (Nat.beq k 2) true (false)
def hdz19:=stz19
abbrev Rtz19:Type:=Int × Unit
def qqj:List (Nat × Sm):=[]
def qpw:List (Nat × Hx):=[]
def clz19 (R:Type) (lf:Nat):ClK R:=qah Tryz.prog ttT.get ftT.get (nm1 87 nmz19) (smL qqj) (hxL qpw) lf 20 R
abbrev idz19:Nat:=87
def qeh (x1:ByteArray) (x2:Int) (p:Int):NRes:=(NRes.mk (.node (some (IV.str x1)) (.node (some (IV.int .u8 x2)) .leaf (.node (some (IV.int .i64 p)) .leaf .leaf)) .leaf) (IS.mk .leaf 0) [] 0)
def qsj (lf:Nat) (x1:ByteArray) (x2:Int) (L2:Int->Option Rtz19):Option Rtz19:=(L2 (IntKind.i64.wrap (Int.sub (Int.ofNat (ByteArray.size x1)) (Int.ofNat 1))))
def qhf (lf:Nat) (x1:ByteArray) (x2:Int) (L2:Int->Option Rtz19) (p:Int):Option Rtz19:=(cond (Bool.not (iltI p (Int.ofNat 0))) (match (jget (qaa x1) p) with|.none  => none|.some v0=>(cond (ieqI v0 x2) (some (p,())) (L2 (IntKind.i64.wrap (Int.sub p (Int.ofNat 1)))))) (some ((Int.negSucc 0),())))
abbrev gz19:Type:=ElA [.str,(.int .u8)]->Option Rtz19
abbrev sz19 (g:gz19):Sm:=⟨[.str,(.int .u8)],[(false,(.int .i64))],g⟩
abbrev Ez19 (g:gz19) (J:JT Rtz19) (lf:Nat) (x1:ByteArray) (x2:Int):=qao Tryz.prog ttT.get nmz19 fi87.nt (clz19 _ lf) lf stz19 J fi87.body [] (argGo (argV [.str,(.int .u8)] (x1,x2,())) 0 .leaf) S0 [] (lastK ttT.get fi87 (sz19 g))
abbrev Bz19 (g:gz19) (J:JT Rtz19) (lf k:Nat) (ms:List Nat) (q:NRes):=qaz Tryz.prog ttT.get nmz19 fi87.nt (clz19 _ lf) lf stz19 J k fi87.body [] ms q (lastK ttT.get fi87 (sz19 g))
theorem inz19 (g:gz19) (J:JT Rtz19) (lf:Nat) (x1:ByteArray) (x2:Int):Ez19 g J lf x1 x2=qsj lf x1 x2 (fun q=>J 2 [lf] (qeh x1 x2 q)):=by kernel_rfl
theorem stz19_2 (g:gz19) (J:JT Rtz19) (lf:Nat) (x1:ByteArray) (x2:Int) (m1:Nat) (p:Int):Bz19 g J lf 2 [m1] (qeh x1 x2 p)=qhf lf x1 x2 (fun q=>J 2 [m1] (qeh x1 x2 q)) p:=by kernel_rfl
theorem ndz19:(regs fi87.body).Nodup:=by decide +kernel
theorem okz19:okC nmz19 stz19 hdz19 fi87.body none=true:=by kernel_rfl
def Az19 (g:gz19) (lf:Nat):JT Rtz19:=atN Tryz.prog ttT.get nmz19 fi87 (sz19 g) (clz19 _ lf) lf hdz19
def qgw (lf:Nat) (x1:ByteArray) (x2:Int):Nat->(Int)->Option Rtz19:=rounds fun K p=>qhf lf x1 x2 K p
theorem qvp (g:gz19) (lf:Nat) (x1:ByteArray) (x2:Int):∀(n:Nat) (p:Int),Az19 g lf 2 [n] (qeh x1 x2 p)=qgw lf x1 x2 n p
 | 0,p=>qa2 2 [0] rfl _
 | n+1,p=>by
   have ih:=qvp g lf x1 x2 n
   refine(qav (qam 20 _) ndz19 okz19 2 [n+1] [n] rfl _).trans ((stz19_2 g (Az19 g lf) lf x1 x2 n p).trans ?_)
   rw[(show (fun q=>Az19 g lf 2 [n] (qeh x1 x2 q))=(fun q=>qgw lf x1 x2 n q) from funext ih)]
   rfl
def Fz19 (lf:Nat) (x1:ByteArray) (x2:Int):Option Rtz19:=qsj lf x1 x2 (fun q=>qgw lf x1 x2 lf q)
theorem runz19 (g:gz19) (lf:Nat) (x1:ByteArray) (x2:Int):Ez19 g (Az19 g lf) lf x1 x2=Fz19 lf x1 x2:=by
   refine(inz19 g (Az19 g lf) lf x1 x2).trans ?_
   rw[(show (fun q=>Az19 g lf 2 [lf] (qeh x1 x2 q))=(fun q=>qgw lf x1 x2 lf q) from funext fun q=>qvp g lf x1 x2 lf q)]
   rfl
theorem hxsz19:HxsOK Tryz.prog qpw:=trivial
theorem mkz19 {g:gz19} (hsm:SmOK Tryz.prog qqj) (hg:∀(x:ElA [.str,(.int .u8)]) (y:Rtz19),WfA [.str,(.int .u8)] x->g x=some y->∃lf,Fz19 lf x.1 x.2.1=some y):Con Tryz.prog 87 ⟨[.str,(.int .u8)],[(false,(.int .i64))],g⟩ :=
 conT (nmf:=nmz19) (sml:=qqj) (hxl:=qpw) (st:=stz19) (hd:=hdz19) 20 mixed ttOK ftOK hsm hxsz19 cal87 rfl rfl (by kernel_rfl) (fun x=>by kernel_rfl) ndz19 okz19 fun x y hx hy=>by
   obtain⟨lf,h⟩:=hg x y hx hy
   exact⟨lf,(runz19 g lf x.1 x.2.1).trans h⟩
def nmz20:Nat->Option Nm:=fun k=>cond (Nat.beq k 3) (some ⟨[0,1,4,5,6],[],[],[],[],0,0,false⟩) (none)
def stz20:Nat->Bool:=fun k=>cond (Nat.beq k 3) true (false)
def hdz20:=stz20
abbrev Rtz20:Type:=qai × Unit
def qlx:List (Nat × Sm):=[]
def qmb:List (Nat × Hx):=[]
def clz20 (R:Type) (lf:Nat):ClK R:=qah Tryz.prog ttT.get ftT.get (nm1 37 nmz20) (smL qlx) (hxL qmb) lf 20 R
abbrev idz20:Nat:=37
def qfe (x1:ByteArray) (x2:Int) (p:Int × Int × Int):NRes:=(NRes.mk (.node (some (IV.str x1)) (.node (some (IV.int .i64 x2)) .leaf (.node (some (IV.ptr 1 0)) .leaf .leaf)) (.node none (.node (some (IV.ptr 0 0)) .leaf .leaf) (.node (some (IV.int .i64 p.1)) .leaf .leaf))) (IS.mk (.node (some (IObj.row (List.cons (IV.int .i64 (Int.ofNat 0)) (List.cons (IV.int .i64 (Int.ofNat 0)) [])))) (.node (some (IObj.row (List.cons (IV.int .i64 p.2.2) (List.cons (IV.int .i64 p.2.1) [])))) .leaf .leaf) .leaf) 2) [] 0)
def qzf (lf:Nat) (x1:ByteArray) (x2:Int) (L3:(Int × Int × Int)->Option Rtz20):Option Rtz20:=(L3 ((Int.ofNat 0),(Int.ofNat 1),(Int.ofNat 1)))
def qk6 (lf:Nat) (x1:ByteArray) (x2:Int) (L3:(Int × Int × Int)->Option Rtz20) (p:Int × Int × Int):Option Rtz20:=(cond (iltI p.1 x2) (match (jget (qaa x1) p.1) with|.none  => none|.some v0=>(cond (ieqI v0 (Int.ofNat 10)) (L3 ((IntKind.i64.wrap (Int.add p.1 (Int.ofNat 1))),(Int.ofNat 1),(IntKind.i64.wrap (Int.add p.2.2 (Int.ofNat 1))))) (L3 ((IntKind.i64.wrap (Int.add p.1 (Int.ofNat 1))),(IntKind.i64.wrap (Int.add p.2.1 (Int.ofNat 1))),p.2.2)))) (some ((p.2.2,p.2.1),())))
abbrev gz20:Type:=ElA [.str,(.int .i64)]->Option Rtz20
abbrev sz20 (g:gz20):Sm:=⟨[.str,(.int .i64)],[(false,qal)],g⟩
abbrev Ez20 (g:gz20) (J:JT Rtz20) (lf:Nat) (x1:ByteArray) (x2:Int):=qao Tryz.prog ttT.get nmz20 fi37.nt (clz20 _ lf) lf stz20 J fi37.body [] (argGo (argV [.str,(.int .i64)] (x1,x2,())) 0 .leaf) S0 [] (lastK ttT.get fi37 (sz20 g))
abbrev Bz20 (g:gz20) (J:JT Rtz20) (lf k:Nat) (ms:List Nat) (q:NRes):=qaz Tryz.prog ttT.get nmz20 fi37.nt (clz20 _ lf) lf stz20 J k fi37.body [] ms q (lastK ttT.get fi37 (sz20 g))
theorem inz20 (g:gz20) (J:JT Rtz20) (lf:Nat) (x1:ByteArray) (x2:Int):Ez20 g J lf x1 x2=qzf lf x1 x2 (fun q=>J 3 [lf] (qfe x1 x2 q)):=by kernel_rfl
theorem stz20_3 (g:gz20) (J:JT Rtz20) (lf:Nat) (x1:ByteArray) (x2:Int) (m1:Nat) (p:Int × Int × Int):Bz20 g J lf 3 [m1] (qfe x1 x2 p)=qk6 lf x1 x2 (fun q=>J 3 [m1] (qfe x1 x2 q)) p:=by kernel_rfl
theorem ndz20:(regs fi37.body).Nodup:=by decide +kernel
theorem okz20:okC nmz20 stz20 hdz20 fi37.body none=true:=by kernel_rfl
def Az20 (g:gz20) (lf:Nat):JT Rtz20:=atN Tryz.prog ttT.get nmz20 fi37 (sz20 g) (clz20 _ lf) lf hdz20
def qka (lf:Nat) (x1:ByteArray) (x2:Int):Nat->(Int × Int × Int)->Option Rtz20:=rounds fun K p=>qk6 lf x1 x2 K p
theorem qvj (g:gz20) (lf:Nat) (x1:ByteArray) (x2:Int):∀(n:Nat) (p:Int × Int × Int),Az20 g lf 3 [n] (qfe x1 x2 p)=qka lf x1 x2 n p
 | 0,p=>qa2 3 [0] rfl _
 | n+1,p=>by
   have ih:=qvj g lf x1 x2 n
   refine(qav (qam 20 _) ndz20 okz20 3 [n+1] [n] rfl _).trans ((stz20_3 g (Az20 g lf) lf x1 x2 n p).trans ?_)
   rw[(show (fun q=>Az20 g lf 3 [n] (qfe x1 x2 q))=(fun q=>qka lf x1 x2 n q) from funext ih)]
   rfl
def Fz20 (lf:Nat) (x1:ByteArray) (x2:Int):Option Rtz20:=qzf lf x1 x2 (fun q=>qka lf x1 x2 lf q)
theorem runz20 (g:gz20) (lf:Nat) (x1:ByteArray) (x2:Int):Ez20 g (Az20 g lf) lf x1 x2=Fz20 lf x1 x2:=by
   refine(inz20 g (Az20 g lf) lf x1 x2).trans ?_
   rw[(show (fun q=>Az20 g lf 3 [lf] (qfe x1 x2 q))=(fun q=>qka lf x1 x2 lf q) from funext fun q=>qvj g lf x1 x2 lf q)]
   rfl
theorem hxsz20:HxsOK Tryz.prog qmb:=trivial
theorem mkz20 {g:gz20} (hsm:SmOK Tryz.prog qlx) (hg:∀(x:ElA [.str,(.int .i64)]) (y:Rtz20),WfA [.str,(.int .i64)] x->g x=some y->∃lf,Fz20 lf x.1 x.2.1=some y):Con Tryz.prog 37 ⟨[.str,(.int .i64)],[(false,qal)],g⟩ :=
 conT (nmf:=nmz20) (sml:=qlx) (hxl:=qmb) (st:=stz20) (hd:=hdz20) 20 mixed ttOK ftOK hsm hxsz20 cal37 rfl rfl (by kernel_rfl) (fun x=>by kernel_rfl) ndz20 okz20 fun x y hx hy=>by
   obtain⟨lf,h⟩:=hg x y hx hy
   exact⟨lf,(runz20 g lf x.1 x.2.1).trans h⟩
def nmz21:Nat->Option Nm:=fun k=>none
def stz21:Nat->Bool:=fun k=>false
def hdz21:=stz21
abbrev Rtz21:Type:=qai × Int × Unit
def qpg:List (Nat × Sm):=[(54,qkx),(61,qmt)]
def qqb:List (Nat × Hx):=[]
def clz21 (R:Type) (lf:Nat):ClK R:=qah Tryz.prog ttT.get ftT.get (nm1 30 nmz21) (smL qpg) (hxL qqb) lf 20 R
abbrev idz21:Nat:=30
def qmd (lf:Nat) (x1:ByteArray) (x2:Int):Option Rtz21:=(cond (iltI x2 (Int.ofNat 0)) (some (((Int.ofNat 0),(Int.ofNat 0)),((Int.ofNat 1),()))) (cond (iltI (Int.ofNat (ByteArray.size x1)) x2) (some (((Int.ofNat 0),(Int.ofNat 0)),((Int.ofNat 1),()))) (cond (lchk (Int.ofNat 0) x2 (Int.ofNat (ByteArray.size x1)) (Int.ofNat (ByteArray.size x1))) (match (cond Bool.true (some ((S.countB (qaa (ByteArray.extract x1 0 (Int.toNat x2))) (Int.ofNat 10)),())) none) with|.none  => none|.some v0=>(some (((IntKind.i64.wrap (Int.add (Int.ofNat 1) v0.1)),(IntKind.i64.wrap (Int.sub x2 (S.lastB (qaa (ByteArray.extract x1 0 (Int.toNat x2))) (Int.ofNat 10))))),((Int.ofNat 0),())))) none)))
abbrev gz21:Type:=ElA [.str,(.int .i64)]->Option Rtz21
abbrev sz21 (g:gz21):Sm:=⟨[.str,(.int .i64)],[(false,qal),(false,(.int .i64))],g⟩
abbrev Ez21 (g:gz21) (J:JT Rtz21) (lf:Nat) (x1:ByteArray) (x2:Int):=qao Tryz.prog ttT.get nmz21 fi30.nt (clz21 _ lf) lf stz21 J fi30.body [] (argGo (argV [.str,(.int .i64)] (x1,x2,())) 0 .leaf) S0 [] (lastK ttT.get fi30 (sz21 g))
theorem inz21 (g:gz21) (J:JT Rtz21) (lf:Nat) (x1:ByteArray) (x2:Int):Ez21 g J lf x1 x2=qmd lf x1 x2:=by kernel_rfl
theorem ndz21:(regs fi30.body).Nodup:=by decide +kernel
theorem okz21:okC nmz21 stz21 hdz21 fi30.body none=true:=by kernel_rfl
def Az21 (g:gz21) (lf:Nat):JT Rtz21:=atN Tryz.prog ttT.get nmz21 fi30 (sz21 g) (clz21 _ lf) lf hdz21
def Fz21 (lf:Nat) (x1:ByteArray) (x2:Int):Option Rtz21:=qmd lf x1 x2
theorem runz21 (g:gz21) (lf:Nat) (x1:ByteArray) (x2:Int):Ez21 g (Az21 g lf) lf x1 x2=Fz21 lf x1 x2:=by
   refine(inz21 g (Az21 g lf) lf x1 x2).trans ?_
   rfl
theorem hxsz21:HxsOK Tryz.prog qqb:=trivial
theorem mkz21 {g:gz21} (hsm:SmOK Tryz.prog qpg) (hg:∀(x:ElA [.str,(.int .i64)]) (y:Rtz21),WfA [.str,(.int .i64)] x->g x=some y->∃lf,Fz21 lf x.1 x.2.1=some y):Con Tryz.prog 30 ⟨[.str,(.int .i64)],[(false,qal),(false,(.int .i64))],g⟩ :=
 conT (nmf:=nmz21) (sml:=qpg) (hxl:=qqb) (st:=stz21) (hd:=hdz21) 20 mixed ttOK ftOK hsm hxsz21 cal30 rfl rfl (by kernel_rfl) (fun x=>by kernel_rfl) ndz21 okz21 fun x y hx hy=>by
   obtain⟨lf,h⟩:=hg x y hx hy
   exact⟨lf,(runz21 g lf x.1 x.2.1).trans h⟩
def nmz22:Nat->Option Nm:=fun k=>none
def stz22:Nat->Bool:=fun k=>false
def hdz22:=stz22
abbrev Rtz22:Type:=ByteArray × Int × Unit
def qoy:List (Nat × Sm):=[]
def qmp:List (Nat × Hx):=[]
def clz22 (R:Type) (lf:Nat):ClK R:=qah Tryz.prog ttT.get ftT.get (nm1 28 nmz22) (smL qoy) (hxL qmp) lf 20 R
abbrev idz22:Nat:=28
def qsl (lf:Nat) (x1:ByteArray) (x2:qag):Option Rtz22:=(cond (iltI x2.1 (Int.ofNat 0)) (some ((S.lit []),((Int.ofNat 1),()))) (cond (iltI x2.2.1 x2.1) (some ((S.lit []),((Int.ofNat 1),()))) (cond (iltI (Int.ofNat (ByteArray.size x1)) x2.2.1) (some ((S.lit []),((Int.ofNat 1),()))) (cond (iltI (Int.ofNat 20000) (IntKind.i64.wrap (Int.add (IntKind.i64.wrap (Int.sub (Int.ofNat (ByteArray.size x1)) (IntKind.i64.wrap (Int.sub x2.2.1 x2.1)))) (Int.ofNat (ByteArray.size x2.2.2))))) (some ((S.lit []),((Int.ofNat 3),()))) (cond (lchk (Int.ofNat 0) x2.1 (Int.ofNat (ByteArray.size x1)) (Int.ofNat (ByteArray.size x1))) (cond (Nat.ble (Nat.succ (Nat.add (ByteArray.size (ByteArray.extract x1 0 (Int.toNat x2.1))) (ByteArray.size x2.2.2))) 9223372036854775808) (cond (lchk x2.2.1 (Int.ofNat (ByteArray.size x1)) (Int.ofNat (ByteArray.size x1)) (Int.ofNat (ByteArray.size x1))) (cond (Nat.ble (Nat.succ (Nat.add (ByteArray.size (ByteArray.append (ByteArray.extract x1 0 (Int.toNat x2.1)) x2.2.2)) (ByteArray.size (ByteArray.extract x1 (Int.toNat x2.2.1) (Int.toNat (Int.ofNat (ByteArray.size x1))))))) 9223372036854775808) (some ((ByteArray.append (ByteArray.append (ByteArray.extract x1 0 (Int.toNat x2.1)) x2.2.2) (ByteArray.extract x1 (Int.toNat x2.2.1) (Int.toNat (Int.ofNat (ByteArray.size x1))))),((Int.ofNat 0),()))) none) none) none) none)))))
abbrev gz22:Type:=ElA [.str,cChange]->Option Rtz22
abbrev sz22 (g:gz22):Sm:=⟨[.str,cChange],[(false,.str),(false,(.int .i64))],g⟩
abbrev Ez22 (g:gz22) (J:JT Rtz22) (lf:Nat) (x1:ByteArray) (x2:qag):=qao Tryz.prog ttT.get nmz22 fi28.nt (clz22 _ lf) lf stz22 J fi28.body [] (argGo (argV [.str,cChange] (x1,x2,())) 0 .leaf) S0 [] (lastK ttT.get fi28 (sz22 g))
theorem inz22 (g:gz22) (J:JT Rtz22) (lf:Nat) (x1:ByteArray) (x2:qag):Ez22 g J lf x1 x2=qsl lf x1 x2:=by kernel_rfl
theorem ndz22:(regs fi28.body).Nodup:=by decide +kernel
theorem okz22:okC nmz22 stz22 hdz22 fi28.body none=true:=by kernel_rfl
def Az22 (g:gz22) (lf:Nat):JT Rtz22:=atN Tryz.prog ttT.get nmz22 fi28 (sz22 g) (clz22 _ lf) lf hdz22
def Fz22 (lf:Nat) (x1:ByteArray) (x2:qag):Option Rtz22:=qsl lf x1 x2
theorem runz22 (g:gz22) (lf:Nat) (x1:ByteArray) (x2:qag):Ez22 g (Az22 g lf) lf x1 x2=Fz22 lf x1 x2:=by
   refine(inz22 g (Az22 g lf) lf x1 x2).trans ?_
   rfl
theorem hxsz22:HxsOK Tryz.prog qmp:=trivial
theorem mkz22 {g:gz22} (hsm:SmOK Tryz.prog qoy) (hg:∀(x:ElA [.str,cChange]) (y:Rtz22),WfA [.str,cChange] x->g x=some y->∃lf,Fz22 lf x.1 x.2.1=some y):Con Tryz.prog 28 ⟨[.str,cChange],[(false,.str),(false,(.int .i64))],g⟩ :=
 conT (nmf:=nmz22) (sml:=qoy) (hxl:=qmp) (st:=stz22) (hd:=hdz22) 20 mixed ttOK ftOK hsm hxsz22 cal28 rfl rfl (by kernel_rfl) (fun x=>by kernel_rfl) ndz22 okz22 fun x y hx hy=>by
   obtain⟨lf,h⟩:=hg x y hx hy
   exact⟨lf,(runz22 g lf x.1 x.2.1).trans h⟩
def nmz23:Nat->Option Nm:=fun k=>none
def stz23:Nat->Bool:=fun k=>false
def hdz23:=stz23
abbrev Rtz23:Type:=q2t × Unit
def qon:List (Nat × Sm):=[]
def qm4:List (Nat × Hx):=[]
def clz23 (R:Type) (lf:Nat):ClK R:=qah Tryz.prog ttT.get ftT.get (nm1 35 nmz23) (smL qon) (hxL qm4) lf 20 R
abbrev idz23:Nat:=35
def qt7 (lf:Nat) (x1:ByteArray) (x2:qag):Option Rtz23:=(cond (iltI x2.1 (Int.ofNat 0)) (some (((S.lit []),(Int.ofNat 1)),())) (cond (iltI x2.2.1 x2.1) (some (((S.lit []),(Int.ofNat 1)),())) (cond (iltI (Int.ofNat (ByteArray.size x1)) x2.2.1) (some (((S.lit []),(Int.ofNat 1)),())) (cond (iltI (Int.ofNat 20000) (IntKind.i64.wrap (Int.add (IntKind.i64.wrap (Int.sub (Int.ofNat (ByteArray.size x1)) (IntKind.i64.wrap (Int.sub x2.2.1 x2.1)))) (Int.ofNat (ByteArray.size x2.2.2))))) (some (((S.lit []),(Int.ofNat 3)),())) (cond (lchk (Int.ofNat 0) x2.1 (Int.ofNat (ByteArray.size x1)) (Int.ofNat (ByteArray.size x1))) (cond (Nat.ble (Nat.succ (Nat.add (ByteArray.size (ByteArray.extract x1 0 (Int.toNat x2.1))) (ByteArray.size x2.2.2))) 9223372036854775808) (cond (lchk x2.2.1 (Int.ofNat (ByteArray.size x1)) (Int.ofNat (ByteArray.size x1)) (Int.ofNat (ByteArray.size x1))) (cond (Nat.ble (Nat.succ (Nat.add (ByteArray.size (ByteArray.append (ByteArray.extract x1 0 (Int.toNat x2.1)) x2.2.2)) (ByteArray.size (ByteArray.extract x1 (Int.toNat x2.2.1) (Int.toNat (Int.ofNat (ByteArray.size x1))))))) 9223372036854775808) (some (((ByteArray.append (ByteArray.append (ByteArray.extract x1 0 (Int.toNat x2.1)) x2.2.2) (ByteArray.extract x1 (Int.toNat x2.2.1) (Int.toNat (Int.ofNat (ByteArray.size x1))))),(Int.ofNat 0)),())) none) none) none) none)))))
abbrev gz23:Type:=ElA [.str,cChange]->Option Rtz23
abbrev sz23 (g:gz23):Sm:=⟨[.str,cChange],[(false,qmj)],g⟩
abbrev Ez23 (g:gz23) (J:JT Rtz23) (lf:Nat) (x1:ByteArray) (x2:qag):=qao Tryz.prog ttT.get nmz23 fi35.nt (clz23 _ lf) lf stz23 J fi35.body [] (argGo (argV [.str,cChange] (x1,x2,())) 0 .leaf) S0 [] (lastK ttT.get fi35 (sz23 g))
theorem inz23 (g:gz23) (J:JT Rtz23) (lf:Nat) (x1:ByteArray) (x2:qag):Ez23 g J lf x1 x2=qt7 lf x1 x2:=by kernel_rfl
theorem ndz23:(regs fi35.body).Nodup:=by decide +kernel
theorem okz23:okC nmz23 stz23 hdz23 fi35.body none=true:=by kernel_rfl
def Az23 (g:gz23) (lf:Nat):JT Rtz23:=atN Tryz.prog ttT.get nmz23 fi35 (sz23 g) (clz23 _ lf) lf hdz23
def Fz23 (lf:Nat) (x1:ByteArray) (x2:qag):Option Rtz23:=qt7 lf x1 x2
theorem runz23 (g:gz23) (lf:Nat) (x1:ByteArray) (x2:qag):Ez23 g (Az23 g lf) lf x1 x2=Fz23 lf x1 x2:=by
   refine(inz23 g (Az23 g lf) lf x1 x2).trans ?_
   rfl
theorem hxsz23:HxsOK Tryz.prog qm4:=trivial
theorem mkz23 {g:gz23} (hsm:SmOK Tryz.prog qon) (hg:∀(x:ElA [.str,cChange]) (y:Rtz23),WfA [.str,cChange] x->g x=some y->∃lf,Fz23 lf x.1 x.2.1=some y):Con Tryz.prog 35 ⟨[.str,cChange],[(false,qmj)],g⟩ :=
 conT (nmf:=nmz23) (sml:=qon) (hxl:=qm4) (st:=stz23) (hd:=hdz23) 20 mixed ttOK ftOK hsm hxsz23 cal35 rfl rfl (by kernel_rfl) (fun x=>by kernel_rfl) ndz23 okz23 fun x y hx hy=>by
   obtain⟨lf,h⟩:=hg x y hx hy
   exact⟨lf,(runz23 g lf x.1 x.2.1).trans h⟩
def nmz24:Nat->Option Nm:=fun k=>cond (Nat.beq k 6) (some ⟨[7,47,48,49],[],[],[],[],0,0,false⟩) (none)
def stz24:Nat->Bool:=fun k=>cond (Nat.beq k 6) true (false)
def hdz24:=stz24
abbrev Rtz24:Type:=Int × Int × Unit
def qo0:List (Nat × Sm):=[(32,qik)]
def qn3:List (Nat × Hx):=[]
def clz24 (R:Type) (lf:Nat):ClK R:=qah Tryz.prog ttT.get ftT.get (nm1 24 nmz24) (smL qo0) (hxL qn3) lf 20 R
abbrev idz24:Nat:=24
def qe4 (x1:ByteArray) (x2:qkm) (p:(List ByteArray) × Int × Int):NRes:=(NRes.mk (.node none (.node none (.node none (.node (some (IV.int .i64 p.2.1)) (.node none .leaf (.node (some (IV.lst TC.str p.1)) .leaf .leaf)) .leaf) .leaf) (.node none (.node none (.node none .leaf (.node (some (IV.int .i64 p.2.2)) .leaf .leaf)) .leaf) .leaf)) (.node none (.node none (.node none (.node none .leaf (.node (some (IV.int .i64 (Int.ofNat (List.length p.1)))) .leaf .leaf)) .leaf) .leaf) .leaf)) (IS.mk .leaf 0) [] 0)
def qqa (lf:Nat) (x1:ByteArray) (x2:qai) (L6:((List ByteArray) × Int × Int)->Option Rtz24):Option Rtz24:=(match (cond (Bool.and Bool.true (S.fits x1)) (some ((S.lines x1),())) none) with|.none  => none|.some v0=>(cond (iltI x2.1 (Int.ofNat 1)) (some ((Int.ofNat 0),((Int.ofNat 1),()))) (cond (iltI (Int.ofNat (List.length v0.1)) x2.1) (some ((Int.ofNat 0),((Int.ofNat 1),()))) (cond (iltI x2.2 (Int.ofNat 1)) (some ((Int.ofNat 0),((Int.ofNat 1),()))) (match (jget v0.1 (IntKind.i64.wrap (Int.sub x2.1 (Int.ofNat 1)))) with|.none  => none|.some v1=>(match (GetElem?.getElem? v0.1 (Int.toNat (IntKind.i64.wrap (Int.sub x2.1 (Int.ofNat 1))))) with|.none  => none|.some v2=>(cond (iltI (IntKind.i64.wrap (Int.ofNat (Nat.add (ByteArray.size v2) 1))) x2.2) (some ((Int.ofNat 0),((Int.ofNat 1),()))) (cond (lchk (Int.ofNat 0) (IntKind.i64.wrap (Int.sub x2.1 (Int.ofNat 1))) (Int.ofNat (List.length v0.1)) (Int.ofNat (List.length v0.1))) (L6 ((lsub v0.1 (Int.ofNat 0) (IntKind.i64.wrap (Int.sub x2.1 (Int.ofNat 1)))),(IntKind.i64.wrap (Int.sub x2.2 (Int.ofNat 1))),(Int.ofNat 0))) none))))))))
def qib (lf:Nat) (x1:ByteArray) (x2:qai) (L6:((List ByteArray) × Int × Int)->Option Rtz24) (p:(List ByteArray) × Int × Int):Option Rtz24:=(cond (iltI p.2.2 (Int.ofNat (List.length p.1))) (match (jget p.1 p.2.2) with|.none  => none|.some v0=>(L6 (p.1,(IntKind.i64.wrap (Int.add p.2.1 (IntKind.i64.wrap (Int.ofNat (Nat.add (ByteArray.size v0) 1))))),(IntKind.i64.wrap (Int.add p.2.2 (Int.ofNat 1)))))) (some (p.2.1,((Int.ofNat 0),()))))
abbrev gz24:Type:=ElA [.str,qal]->Option Rtz24
abbrev sz24 (g:gz24):Sm:=⟨[.str,qal],[(false,(.int .i64)),(false,(.int .i64))],g⟩
abbrev Ez24 (g:gz24) (J:JT Rtz24) (lf:Nat) (x1:ByteArray) (x2:qai):=qao Tryz.prog ttT.get nmz24 fi24.nt (clz24 _ lf) lf stz24 J fi24.body [] (argGo (argV [.str,qal] (x1,x2,())) 0 .leaf) S0 [] (lastK ttT.get fi24 (sz24 g))
abbrev Bz24 (g:gz24) (J:JT Rtz24) (lf k:Nat) (ms:List Nat) (q:NRes):=qaz Tryz.prog ttT.get nmz24 fi24.nt (clz24 _ lf) lf stz24 J k fi24.body [] ms q (lastK ttT.get fi24 (sz24 g))
theorem inz24 (g:gz24) (J:JT Rtz24) (lf:Nat) (x1:ByteArray) (x2:qai):Ez24 g J lf x1 x2=qqa lf x1 x2 (fun q=>J 6 [lf] (qe4 x1 x2 q)):=by kernel_rfl
theorem stz24_6 (g:gz24) (J:JT Rtz24) (lf:Nat) (x1:ByteArray) (x2:qai) (m1:Nat) (p:(List ByteArray) × Int × Int):Bz24 g J lf 6 [m1] (qe4 x1 x2 p)=qib lf x1 x2 (fun q=>J 6 [m1] (qe4 x1 x2 q)) p:=by kernel_rfl
theorem ndz24:(regs fi24.body).Nodup:=by decide +kernel
theorem okz24:okC nmz24 stz24 hdz24 fi24.body none=true:=by kernel_rfl
def Az24 (g:gz24) (lf:Nat):JT Rtz24:=atN Tryz.prog ttT.get nmz24 fi24 (sz24 g) (clz24 _ lf) lf hdz24
def qhr (lf:Nat) (x1:ByteArray) (x2:qai):Nat->((List ByteArray) × Int × Int)->Option Rtz24:=rounds fun K p=>qib lf x1 x2 K p
theorem quf (g:gz24) (lf:Nat) (x1:ByteArray) (x2:qai):∀(n:Nat) (p:(List ByteArray) × Int × Int),Az24 g lf 6 [n] (qe4 x1 x2 p)=qhr lf x1 x2 n p
 | 0,p=>qa2 6 [0] rfl _
 | n+1,p=>by
   have ih:=quf g lf x1 x2 n
   refine(qav (qam 20 _) ndz24 okz24 6 [n+1] [n] rfl _).trans ((stz24_6 g (Az24 g lf) lf x1 x2 n p).trans ?_)
   rw[(show (fun q=>Az24 g lf 6 [n] (qe4 x1 x2 q))=(fun q=>qhr lf x1 x2 n q) from funext ih)]
   rfl
def Fz24 (lf:Nat) (x1:ByteArray) (x2:qai):Option Rtz24:=qqa lf x1 x2 (fun q=>qhr lf x1 x2 lf q)
theorem runz24 (g:gz24) (lf:Nat) (x1:ByteArray) (x2:qai):Ez24 g (Az24 g lf) lf x1 x2=Fz24 lf x1 x2:=by
   refine(inz24 g (Az24 g lf) lf x1 x2).trans ?_
   rw[(show (fun q=>Az24 g lf 6 [lf] (qe4 x1 x2 q))=(fun q=>qhr lf x1 x2 lf q) from funext fun q=>quf g lf x1 x2 lf q)]
   rfl
theorem hxsz24:HxsOK Tryz.prog qn3:=trivial
theorem mkz24 {g:gz24} (hsm:SmOK Tryz.prog qo0) (hg:∀(x:ElA [.str,qal]) (y:Rtz24),WfA [.str,qal] x->g x=some y->∃lf,Fz24 lf x.1 x.2.1=some y):Con Tryz.prog 24 ⟨[.str,qal],[(false,(.int .i64)),(false,(.int .i64))],g⟩ :=
 conT (nmf:=nmz24) (sml:=qo0) (hxl:=qn3) (st:=stz24) (hd:=hdz24) 20 mixed ttOK ftOK hsm hxsz24 cal24 rfl rfl (by kernel_rfl) (fun x=>by kernel_rfl) ndz24 okz24 fun x y hx hy=>by
   obtain⟨lf,h⟩:=hg x y hx hy
   exact⟨lf,(runz24 g lf x.1 x.2.1).trans h⟩
def nmz25:Nat->Option Nm:=fun k=>cond (Nat.beq k 6) (some ⟨[3,4,5,6,7],[],[],[],[],0,0,false⟩) (none)
def stz25:Nat->Bool:=fun k=>cond (Nat.beq k 6) true (false)
def hdz25:=stz25
abbrev Rtz25:Type:=qkm × Unit
def qrf:List (Nat × Sm):=[(38,spz18)]
def qp5:List (Nat × Hx):=[]
def clz25 (R:Type) (lf:Nat):ClK R:=qah Tryz.prog ttT.get ftT.get (nm1 64 nmz25) (smL qrf) (hxL qp5) lf 20 R
abbrev idz25:Nat:=64
def qel (x1:ByteArray) (x2:qkm) (p:(List ByteArray) × Int × Int):NRes:=(NRes.mk (.node none (.node none (.node (some (IV.ptr 0 0)) (.node (some (IV.int .i64 p.2.1)) .leaf .leaf) .leaf) (.node (some (IV.arr 2)) .leaf .leaf)) (.node none (.node (some (IV.ptr 1 0)) .leaf .leaf) (.node (some (IV.int .i64 p.2.2)) .leaf .leaf))) (IS.mk (.node (some (IObj.row (List.cons (IV.int .i64 x2.1) (List.cons (IV.int .i64 x2.2) [])))) (.node (some (IObj.row (List.cons (IV.int .i64 (Int.ofNat 0)) (List.cons (IV.int .i64 (Int.ofNat 0)) [])))) .leaf .leaf) (.node (some (IObj.arr TC.str p.1)) .leaf .leaf)) 3) [] 0)
def qo5 (lf:Nat) (x1:ByteArray) (x2:qai) (L6:((List ByteArray) × Int × Int)->Option Rtz25):Option Rtz25:=(match (cond (S.fits x1) (some ((S.lines x1),())) none) with|.none  => none|.some v0=>(cond (iltI x2.1 (Int.ofNat 1)) (some (((Int.ofNat 0),(Int.ofNat 1)),())) (cond (iltI (Int.ofNat (List.length v0.1)) x2.1) (some (((Int.ofNat 0),(Int.ofNat 1)),())) (cond (iltI x2.2 (Int.ofNat 1)) (some (((Int.ofNat 0),(Int.ofNat 1)),())) (match (jget v0.1 (imax (Int.ofNat 0) (IntKind.i64.wrap (Int.sub x2.1 (Int.ofNat 1))))) with|.none  => none|.some v1=>(match (GetElem?.getElem? v0.1 (Int.toNat (imax (Int.ofNat 0) (IntKind.i64.wrap (Int.sub x2.1 (Int.ofNat 1)))))) with|.none  => none|.some v2=>(cond (iltI (IntKind.i64.wrap (Int.ofNat (Nat.add (ByteArray.size v2) 1))) x2.2) (some (((Int.ofNat 0),(Int.ofNat 1)),())) (L6 (v0.1,(Int.ofNat 0),(IntKind.i64.wrap (Int.sub x2.2 (Int.ofNat 1))))))))))))
def qjn (lf:Nat) (x1:ByteArray) (x2:qai) (L6:((List ByteArray) × Int × Int)->Option Rtz25) (p:(List ByteArray) × Int × Int):Option Rtz25:=(cond (iltI p.2.1 (IntKind.i64.wrap (Int.sub x2.1 (Int.ofNat 1)))) (match (jget p.1 p.2.1) with|.none  => none|.some v0=>(match (GetElem?.getElem? p.1 (Int.toNat p.2.1)) with|.none  => none|.some v1=>(L6 (p.1,(IntKind.i64.wrap (Int.add p.2.1 (Int.ofNat 1))),(IntKind.i64.wrap (Int.add (IntKind.i64.wrap (Int.add p.2.2 (Int.ofNat (ByteArray.size v1)))) (Int.ofNat 1))))))) (some ((p.2.2,(Int.ofNat 0)),())))
abbrev gz25:Type:=ElA [.str,qal]->Option Rtz25
abbrev sz25 (g:gz25):Sm:=⟨[.str,qal],[(false,qe8)],g⟩
abbrev Ez25 (g:gz25) (J:JT Rtz25) (lf:Nat) (x1:ByteArray) (x2:qai):=qao Tryz.prog ttT.get nmz25 fi64.nt (clz25 _ lf) lf stz25 J fi64.body [] (argGo (argV [.str,qal] (x1,x2,())) 0 .leaf) S0 [] (lastK ttT.get fi64 (sz25 g))
abbrev Bz25 (g:gz25) (J:JT Rtz25) (lf k:Nat) (ms:List Nat) (q:NRes):=qaz Tryz.prog ttT.get nmz25 fi64.nt (clz25 _ lf) lf stz25 J k fi64.body [] ms q (lastK ttT.get fi64 (sz25 g))
theorem inz25 (g:gz25) (J:JT Rtz25) (lf:Nat) (x1:ByteArray) (x2:qai):Ez25 g J lf x1 x2=qo5 lf x1 x2 (fun q=>J 6 [lf] (qel x1 x2 q)):=by kernel_rfl
theorem stz25_6 (g:gz25) (J:JT Rtz25) (lf:Nat) (x1:ByteArray) (x2:qai) (m1:Nat) (p:(List ByteArray) × Int × Int):Bz25 g J lf 6 [m1] (qel x1 x2 p)=qjn lf x1 x2 (fun q=>J 6 [m1] (qel x1 x2 q)) p:=by kernel_rfl
theorem ndz25:(regs fi64.body).Nodup:=by decide +kernel
theorem okz25:okC nmz25 stz25 hdz25 fi64.body none=true:=by kernel_rfl
def Az25 (g:gz25) (lf:Nat):JT Rtz25:=atN Tryz.prog ttT.get nmz25 fi64 (sz25 g) (clz25 _ lf) lf hdz25
def qgm (lf:Nat) (x1:ByteArray) (x2:qai):Nat->((List ByteArray) × Int × Int)->Option Rtz25:=rounds fun K p=>qjn lf x1 x2 K p
theorem qwu (g:gz25) (lf:Nat) (x1:ByteArray) (x2:qai):∀(n:Nat) (p:(List ByteArray) × Int × Int),Az25 g lf 6 [n] (qel x1 x2 p)=qgm lf x1 x2 n p
 | 0,p=>qa2 6 [0] rfl _
 | n+1,p=>by
   have ih:=qwu g lf x1 x2 n
   refine(qav (qam 20 _) ndz25 okz25 6 [n+1] [n] rfl _).trans ((stz25_6 g (Az25 g lf) lf x1 x2 n p).trans ?_)
   rw[(show (fun q=>Az25 g lf 6 [n] (qel x1 x2 q))=(fun q=>qgm lf x1 x2 n q) from funext ih)]
   rfl
def Fz25 (lf:Nat) (x1:ByteArray) (x2:qai):Option Rtz25:=qo5 lf x1 x2 (fun q=>qgm lf x1 x2 lf q)
theorem runz25 (g:gz25) (lf:Nat) (x1:ByteArray) (x2:qai):Ez25 g (Az25 g lf) lf x1 x2=Fz25 lf x1 x2:=by
   refine(inz25 g (Az25 g lf) lf x1 x2).trans ?_
   rw[(show (fun q=>Az25 g lf 6 [lf] (qel x1 x2 q))=(fun q=>qgm lf x1 x2 lf q) from funext fun q=>qwu g lf x1 x2 lf q)]
   rfl
theorem hxsz25:HxsOK Tryz.prog qp5:=trivial
theorem mkz25 {g:gz25} (hsm:SmOK Tryz.prog qrf) (hg:∀(x:ElA [.str,qal]) (y:Rtz25),WfA [.str,qal] x->g x=some y->∃lf,Fz25 lf x.1 x.2.1=some y):Con Tryz.prog 64 ⟨[.str,qal],[(false,qe8)],g⟩ :=
 conT (nmf:=nmz25) (sml:=qrf) (hxl:=qp5) (st:=stz25) (hd:=hdz25) 20 mixed ttOK ftOK hsm hxsz25 cal64 rfl rfl (by kernel_rfl) (fun x=>by kernel_rfl) ndz25 okz25 fun x y hx hy=>by
   obtain⟨lf,h⟩:=hg x y hx hy
   exact⟨lf,(runz25 g lf x.1 x.2.1).trans h⟩
theorem qpi (l:List Int):∃x xs,S.splitL l=x::xs:=by
 cases l with
 | nil=>exact⟨[],[],rfl⟩
 | cons b r =>
   unfold S.splitL
   split
   · exact⟨_,_,rfl⟩
   · split<;>exact⟨_,_,rfl⟩
theorem qda (r:List Int):S.splitL (10::r)=[]::S.splitL r:=by
 conv=>lhs;unfold S.splitL
 rw[if_pos rfl]
theorem qcf {b:Int} (h:¬b=10) (r:List Int):∃x xs,S.splitL r=x::xs/\S.splitL (b::r)=(b::x)::xs:=by
 obtain⟨x,xs,e⟩:=qpi r
 refine⟨x,xs,e,?_⟩
 conv=>lhs;unfold S.splitL
 rw[if_neg h,e]
theorem qcl (l:List Int):(S.splitL l).length=l.count 10+1:=by
 induction l with
 | nil=>rfl
 | cons b r ih =>
   by_cases h:b=10
   · subst h
     rw[qda,List.length_cons,ih,List.count_cons_self]
   · obtain⟨x,xs,e1,e2⟩:=qcf h r
     rw[e2,List.length_cons,List.count_cons_of_ne (fun e=>h e),<- ih,e1,List.length_cons]
theorem qza {a:List Int} (h:∀b∈a,¬b=10) (r:List Int):S.splitL (a++10::r)=a::S.splitL r:=by
 induction a with
 | nil=>exact qda r
 | cons b a ih =>
   have ih:=ih fun x hx=>h x (List.mem_cons_of_mem _ hx)
   obtain⟨x,xs,e1,e2⟩:=qcf (h b List.mem_cons_self) (a++10::r)
   rw[List.cons_append,e2]
   rw[ih] at e1
   cases e1
   rfl
theorem qmh {a:List Int} (h:∀b∈a,¬b=10):S.splitL a=[a]:=by
 induction a with
 | nil=>rfl
 | cons b a ih =>
   have ih:=ih fun x hx=>h x (List.mem_cons_of_mem _ hx)
   obtain⟨x,xs,e1,e2⟩:=qcf (h b List.mem_cons_self) a
   rw[e2]
   rw[ih] at e1
   cases e1
   rfl
theorem q05 {l:List Int} (h:0<l.count 10):∃pre post,l=pre++10::post/\(∀b∈pre,¬b=10)/\S.indexB l 10=Int.ofNat pre.length:=by
 unfold S.indexB Go.Jx.S.idx
 induction l with
 | nil=>simp at h
 | cons b r ih =>
   by_cases hb:b=10
   · subst hb
     exact⟨[],r,rfl,by simp,by simp[List.findIdx?_cons]⟩
   · rw[List.count_cons_of_ne (fun e=>hb e)] at h
     obtain⟨pre,post,e1,e2,e3⟩:=ih h
     refine⟨b::pre,post,by rw[e1];rfl,fun x hx=>?_,?_⟩
     · rcases List.mem_cons.1 hx with rfl|hx
       · exact hb
       · exact e2 x hx
     · rw[List.findIdx?_cons,decide_eq_false hb]
       simp only[Bool.false_eq_true,if_false]
       revert e3
       cases List.findIdx? (fun x=>decide (x=10)) r with
       | none=>intro e3;exact absurd (show (-1:Int)=((pre.length:Nat):Int) from e3) (by omega)
       | some j =>
         intro e3
         simp only[Option.map_some]
         have:j=pre.length:=Int.ofNat.inj e3
         rw[this];rfl
theorem qif {s:ByteArray} {a b:Nat} {l:List Int} (h:(qaa s).extract a b=l):strOf l=s.extract a b:=by
 rw[<- h,<- qk7,qct]
theorem qbg {s:ByteArray} (h:S.fits s=true):s.size<=1000000:=Nat.le_of_ble_eq_true h
theorem Fz18_eq (s:ByteArray) (hs:s.size<=1000000):Fz18 LF s=some (S.lines s,()):=by
 have hl:(qaa s).length=s.size:=qae s
 refine(range0 (σ:=Nat × List ByteArray) (R:=Rtz18) (qaa s) (fun i q=>(i,Int.ofNat q.1,q.2)) (fun i q=>q.1<=i/\q.2.length<=i/\∀b∈((qaa s).drop q.1).take (i-q.1),¬b=10)
   (fun rest _ q=>some (q.2++(S.splitL ((qaa s).drop q.1)).map strOf,())) (by rw[hl];unfold LF;omega) (fun K q hq=>?_) (fun K i v rest q hq r h=>?_) (0,[]) ⟨Nat.le_refl _,Nat.zero_le _,by simp⟩).trans ?_
 · obtain⟨f,out⟩:=q
   obtain⟨h1,h2,h3⟩:=hq
   rw[hl] at h1 h2 h3
   simp only at h1 h2 h3
   rw[hl]
   simp only[qjh,qa1,cond_false]
   have hc:lchk (Int.ofNat f) (Int.ofNat s.size) (Int.ofNat s.size) (Int.ofNat s.size)=true:=by simp[lchk];omega
   rw[hc,cond_true,show Nat.ble (Nat.mul (Nat.add out.length 1) 16) 140737488355328=true from Nat.ble_eq_true_of_le (by show (out.length+1)*16<=_;omega),cond_true]
   have ht:((qaa s).drop f).take (s.size-f)=(qaa s).drop f:=List.take_of_length_le (by rw[List.length_drop,hl];omega)
   rw[ht] at h3
   rw[qmh h3]
   show some (out++[s.extract f s.size],())=_
   rw[List.map_cons,List.map_nil,qif (s:=s) (a:=f) (b:=s.size) (by rw[List.extract_eq_take_drop];exact ht)]
 · obtain⟨f,out⟩:=q
   obtain⟨h1,h2,h3⟩:=hq
   simp only at h1 h2 h3
   have hi:=r.lt
   rw[hl] at hi
   have hlt:iltI (Int.ofNat i) (Int.ofNat s.size)=true:=by have:=r.ilt;rwa [hl] at this
   simp only[qjh,hlt,r.get,r.next,cond_true,qa6]
   simp only[oL]
   by_cases hv:v=10
   · subst hv
     have hc:lchk (Int.ofNat f) (Int.ofNat i) (Int.ofNat s.size) (Int.ofNat s.size)=true:=by simp[lchk];omega
     rw[decide_eq_true rfl,cond_true,hc,cond_true,show Nat.ble (Nat.mul (Nat.add out.length 1) 16) 140737488355328=true from Nat.ble_eq_true_of_le (by show (out.length+1)*16<=_;omega),cond_true]
     refine(h (i+1,out++[s.extract f i]) ⟨Nat.le_refl _,by simp only[List.length_append,List.length_cons,List.length_nil];omega,by simp⟩).trans ?_
     have hd:(qaa s).drop f=((qaa s).drop f).take (i-f)++10::(qaa s).drop (i+1):=by
       conv=>lhs;rw[<- List.take_append_drop (i-f) ((qaa s).drop f)]
       rw[List.drop_drop,show f+(i-f)=i by omega,r.drop,r.tail]
     conv=>rhs;rw[hd]
     rw[qza h3,List.map_cons,qif (s:=s) (a:=f) (b:=i) (by rw[List.extract_eq_take_drop])]
     show some ((out++[s.extract f i])++_,())=some (out++(_::_),())
     rw[List.append_assoc];rfl
   · rw[decide_eq_false hv,cond_false]
     refine h (f,out) ⟨Nat.le_succ_of_le h1,Nat.le_succ_of_le h2,?_⟩
     intro b hb
     have e:((qaa s).drop f).take (i+1-f)=((qaa s).drop f).take (i-f)++[v]:=by
       rw[show i+1-f=(i-f)+1 by omega,List.take_add_one]
       have:((qaa s).drop f)[i-f]?=some v:=by rw[List.getElem?_drop,show f+(i-f)=i by omega];exact r.get?
       rw[this];rfl
     rw[e] at hb
     rcases List.mem_append.1 hb with hb|hb
     · exact h3 b hb
     · rw[List.mem_singleton.1 hb];exact hv
 · simp only[List.nil_append,List.drop_zero];rfl
theorem qa5 {α:Type} {b:Bool} {x y:α} (h:cond b (some x) none=some y):b=true/\x=y:=by
 cases b with
 | true=>exact⟨rfl,Option.some.inj h⟩
 | false=>cases h
theorem qsq:Con Tryz.prog idz18 spz18:=mkz18 trivial fun x y hx h=>⟨LF,by
 obtain⟨h1,h2⟩:=qa5 (show cond (S.fits x.1) (some (S.lines x.1,())) none=some y from h)
 exact(Fz18_eq x.1 (qbg h1)).trans (congrArg some h2)⟩
theorem qwh {a b:Int} (h:ieqI a b=true):a=b:=by rw[qa6] at h;exact of_decide_eq_true h
theorem qhh {a b:ByteArray} (h:keqS a b=true):a=b:=of_decide_eq_true h
theorem q37 (s:ByteArray):qah Tryz.prog ttT.get ftT.get (fun _ _=>none) (smL [(128,qip)]) (hxL []) 30 20 _ (.fn 82) (argV [.str,.str] (s,S.lit [10],())) S0 (runR qlo)=cond (keqS (S.lit [10]) s) (some (0,())) (some (S.indexB (qaa s) 10,())):=by kernel_rfl
theorem q3p (s:ByteArray):(cond (keqS (S.lit [10]) s) (some ((0:Int),())) (some (S.indexB (qaa s) 10,())))=some (S.indexB (qaa s) 10,()):=by
 cases h:keqS (S.lit [10]) s with
 | false=>rfl
 | true=>rw[<- qhh h];rfl
theorem q42:Con Tryz.prog 82 qlo :=
 conK (nm:=fun _ _=>none) (sm:=smL [(128,qip)]) (hx:=hxL []) mixed ttOK ftOK (qby ⟨qs9,trivial⟩) (qb4 trivial) cal82 fun x y hx h=>⟨20,30,by
   obtain⟨s,t,u⟩:=x
   obtain⟨h1,h2⟩:=qa5 (show cond (keqS t (S.lit [10])) (some (S.indexB (qaa s) 10,())) none=some y from h)
   have ht:t=S.lit [10]:=qhh h1
   subst ht
   exact((q37 s).trans (q3p s)).trans (congrArg some h2)⟩
theorem qa3 {n:Nat} (h:n<9223372036854775808):IntKind.i64.wrap (Int.ofNat n)=Int.ofNat n:=qas (by show -_<=(n:Int)/\(n:Int)<_;omega)
theorem q4g {α:Type} {l:List α} {i:Nat} {x:α} (h:l.length=i+1):l.set i x=l.take i++[x]:=by
 rw[List.set_eq_take_append_cons_drop,if_pos (by omega),List.drop_eq_nil_of_le (by omega)]
theorem take_set {α:Type} {l:List α} {i:Nat} {x:α} (h:i<l.length):(l.set i x).take (i+1)=l.take i++[x]:=by
 rw[List.set_eq_take_append_cons_drop,if_pos h,List.take_append,List.length_take,Nat.min_eq_left (by omega),List.take_take,Nat.min_eq_right (by omega),show i+1-i=1 by omega]
 rfl
theorem qhi {α:Type} {l:List α} {i:Nat} (h:i<l.length):jget l (Int.ofNat i)=some l[i]:=qbb.trans (List.getElem?_eq_getElem h)
theorem qxt (s0:ByteArray):∀(k:Nat) (s:ByteArray) (i:Nat) (a:List ByteArray) (m:Nat),(S.splitL (qaa s)).length=k+1->a.length=i+k+1->s.size<=1000000->i+k<=1000000->k<m ->
   rounds (fun K p=>qdn LF s0 (S.lit [10]) (Int.ofNat 0) (Int.negSucc 0) K p) m (Int.ofNat (i+k),a,s,Int.ofNat i)=some (a.take i++(S.splitL (qaa s)).map strOf,())
 | k,s,i,a,0,_,_,_,_,h=>by omega
 | 0,s,i,a,m+1,h1,h2,h3,h4,_=>by
   show qdn LF s0 (S.lit [10]) (Int.ofNat 0) (Int.negSucc 0) _ _=_
   have hn:∀b∈qaa s,¬b=10:=by
     rw[qcl] at h1
     intro b hb e
     subst e
     have:=List.count_pos_iff.2 hb
     omega
   have hi:i<a.length:=by omega
   simp only[qdn,Nat.add_zero,qa1,cond_false,qhi hi]
   rw[show a[Int.toNat (Int.ofNat i)]?=some a[i] from List.getElem?_eq_getElem hi]
   simp only[List.length_set]
   rw[qhw (by unfold LF;omega),qla,decide_eq_true (by omega),cond_true,qmh hn]
   show some (a.set i s,())=_
   rw[q4g (by omega),List.map_cons,List.map_nil,qct]
 | k+1,s,i,a,m+1,h1,h2,h3,h4,hm=>by
   show qdn LF s0 (S.lit [10]) (Int.ofNat 0) (Int.negSucc 0) _ _=_
   have hc:0<(qaa s).count 10:=by rw[qcl] at h1;omega
   obtain⟨pre,post,e1,e2,e3⟩:=q05 hc
   have hsz:pre.length+(1+post.length)=s.size:=by rw[<- qae s,e1];simp;omega
   have hi:i<a.length:=by omega
   have hidx:S.indexB (qaa s) (Int.ofNat 10)=Int.ofNat pre.length:=e3
   simp only[qdn]
   rw[ilt_t (show Int.ofNat i<Int.ofNat (i+(k+1)) by show (i:Int)<((i+(k+1):Nat):Int);omega),cond_true,show keqS (S.lit [10]) (S.lit (List.cons 10 []))=true from decide_eq_true rfl]
   simp only[cond_true,hidx,qhi hi]
   rw[show a[Int.toNat (Int.ofNat i)]?=some a[i] from List.getElem?_eq_getElem hi]
   have w0:IntKind.i64.wrap (Int.add (Int.ofNat pre.length) (Int.ofNat 0))=Int.ofNat pre.length:=by
     rw[show Int.add (Int.ofNat pre.length) (Int.ofNat 0)=Int.ofNat pre.length from rfl];exact qa3 (by omega)
   have w1:IntKind.i64.wrap (Int.add (Int.ofNat pre.length) (Int.ofNat (ByteArray.size (S.lit [10]))))=Int.ofNat (pre.length+1):=by
     rw[show Int.add (Int.ofNat pre.length) (Int.ofNat (ByteArray.size (S.lit [10])))=Int.ofNat (pre.length+1) from rfl];exact qa3 (by omega)
   rw[ilt_f (show ¬Int.ofNat pre.length<Int.ofNat 0 by show ¬((pre.length:Nat):Int)<0;omega),cond_false,w0,w1,qjv (by omega),cond_true]
   simp only
   rw[show lchk (Int.ofNat (pre.length+1)) (Int.ofNat s.size) (Int.ofNat s.size) (Int.ofNat s.size)=true by simp[lchk];omega,cond_true,qhw (by unfold LF;omega)]
   have hd:qaa (s.extract (pre.length+1) s.size)=post:=by
     rw[qkp _ _ _ (Nat.le_refl _),e1]
     simp
   have ht:s.extract 0 pre.length=strOf pre:=by
     rw[<- qct (s.extract 0 pre.length),qha,e1];simp
   have hsp:S.splitL (qaa s)=pre::S.splitL post:=by rw[e1];exact qza e2 post
   have ih:=qxt s0 k (s.extract (pre.length+1) s.size) (i+1) (a.set i (s.extract 0 pre.length)) m (by rw[hd];rw[hsp] at h1;simpa using h1) (by rw[List.length_set];omega) (by rw[ByteArray.size_extract];omega) (by omega) (by omega)
   rw[show i+1+k=i+(k+1) by omega] at ih
   refine ih.trans ?_
   rw[take_set hi,hd,hsp,List.map_cons,ht,List.append_assoc];rfl
theorem Fz17_eq (s:ByteArray) (hs:s.size<=1000000):Fz17 LF s (S.lit [10]) (Int.ofNat 0) (Int.negSucc 0)=some (S.lines s,()):=by
 have hle:(qaa s).count 10<=s.size:=by have:=List.count_le_length (a:=(10:Int)) (l:=qaa s);rwa [qae] at this
 have hc:S.countB (qaa s) (Int.ofNat 10)=Int.ofNat ((qaa s).count 10):=rfl
 simp only[Fz17,qp6]
 rw[show ieqI (Int.negSucc 0) (Int.ofNat 0)=false from rfl,cond_false,show keqS (S.lit [10]) (S.lit [])=false by decide +kernel,cond_false,show iltI (Int.negSucc 0) (Int.ofNat 0)=true from rfl,cond_true,show keqS (S.lit [10]) (S.lit (List.cons 10 []))=true from decide_eq_true rfl]
 simp only[cond_true,hc]
 have w0:IntKind.i64.wrap (Int.add (Int.ofNat ((qaa s).count 10)) (Int.ofNat 1))=Int.ofNat ((qaa s).count 10+1):=qhw (by unfold LF;omega)
 have w1:IntKind.i64.wrap (Int.ofNat (Nat.add s.size 1))=Int.ofNat (s.size+1):=qa3 (by show s.size+1<_;omega)
 have w2:imin (Int.ofNat ((qaa s).count 10+1)) (Int.ofNat (s.size+1))=Int.ofNat ((qaa s).count 10+1):=by
   unfold imin
   rw[qbl,decide_eq_false (by omega),cond_false]
 rw[w0,w1,w2,ilt_f (show ¬Int.ofNat ((qaa s).count 10+1)<Int.ofNat 0 by show ¬(((qaa s).count 10+1:Nat):Int)<0;omega),cond_false,
   show Nat.ble (Nat.mul (Int.toNat (Int.ofNat ((qaa s).count 10+1))) 16) 140737488355328=true from Nat.ble_eq_true_of_le (by show ((qaa s).count 10+1)*16<=_;omega),cond_true]
 have w3:IntKind.i64.wrap (Int.sub (Int.ofNat ((qaa s).count 10+1)) (Int.ofNat 1))=Int.ofNat (0+(qaa s).count 10):=by
   rw[show Int.sub (Int.ofNat ((qaa s).count 10+1)) (Int.ofNat 1)=Int.ofNat (0+(qaa s).count 10) by show (((qaa s).count 10+1:Nat):Int)-1=((0+(qaa s).count 10:Nat):Int);omega]
   exact qa3 (by omega)
 rw[w3]
 have:=qxt s ((qaa s).count 10) s 0 (S.rep (Int.ofNat ((qaa s).count 10+1)) (S.lit [])) LF (qcl _) (by unfold S.rep;simp) hs (by omega) (by unfold LF;omega)
 exact this.trans rfl
theorem conz17:Con Tryz.prog idz17 spz17:=mkz17 ⟨qlq,q42,trivial⟩ fun x y hx h=>⟨LF,by
 obtain⟨s,t,a,b,u⟩:=x
 obtain⟨h1,h2⟩:=qa5 (show cond (keqS t (S.lit [10])&&(ieqI a 0&&(ieqI b (-1)&&S.fits s))) (some (S.lines s,())) none=some y from h)
 simp only[Bool.and_eq_true] at h1
 obtain⟨g1,g2,g3,g4⟩:=h1
 have e1:t=S.lit [10]:=qhh g1
 have e2:a=Int.ofNat 0:=qwh g2
 have e3:b=Int.negSucc 0:=qwh g3
 subst e1 e2 e3
 exact(Fz17_eq s (qbg g4)).trans (congrArg some h2)⟩
theorem q2c (s:ByteArray):qah Tryz.prog ttT.get ftT.get (fun _ _=>none) (smL [(63,spz17)]) (hxL []) 30 20 _ (.fn 32) (argV [.str,.str] (s,S.lit [10],())) S0 (runR qik)=(match (cond (Bool.and Bool.true (S.fits s)) (some (S.lines s,())) none:Option (List ByteArray × Unit)) with|.none=>none|.some v=>some (v.1,())):=by kernel_rfl
theorem qty:Con Tryz.prog 32 qik :=
 conK (nm:=fun _ _=>none) (sm:=smL [(63,spz17)]) (hx:=hxL []) mixed ttOK ftOK (qby ⟨conz17,trivial⟩) (qb4 trivial) cal32 fun x y hx h=>⟨20,30,by
   obtain⟨s,t,u⟩:=x
   obtain⟨h1,h2⟩:=qa5 (show cond (keqS t (S.lit [10])&&S.fits s) (some (S.lines s,())) none=some y from h)
   simp only[Bool.and_eq_true] at h1
   have ht:t=S.lit [10]:=qhh h1.1
   subst ht
   refine(q2c s).trans ?_
   rw[h1.2];exact congrArg some h2⟩
theorem qx2 (c b:Int):∀(l:List Int) (i:Nat) (r:Int),S.lastGo c (l++[b]) i r=if b=c then Int.ofNat (i+l.length) else S.lastGo c l i r
 | [],i,r=>rfl
 | x::l,i,r=>by
   show S.lastGo c (l++[b]) (i+1) _=_
   rw[qx2 c b l (i+1) _]
   simp only[List.length_cons]
   rw[show i+1+l.length=i+(l.length+1) by omega]
   rfl
theorem q07 (l:List Int) (b c:Int):S.lastB (l++[b]) c=if b=c then Int.ofNat l.length else S.lastB l c:=by
 unfold S.lastB
 rw[qx2,Nat.zero_add]
theorem quu (s:ByteArray) (c:Int) (hs:s.size<9223372036854775808):∀(k m:Nat),k<=s.size->k<m ->
   rounds (fun K p=>qhf LF s c K p) m (Int.ofNat k-1)=some (S.lastB ((qaa s).take k) c,())
 | k,0,_,h=>by omega
 | 0,m+1,_,_=>rfl
 | k+1,m+1,hk,hm=>by
   show qhf LF s c _ _=_
   have e:Int.ofNat (k+1)-1=Int.ofNat k:=by show ((k+1:Nat):Int)-1=((k:Nat):Int);omega
   have hl:k<(qaa s).length:=by rw[qae];omega
   rw[e]
   simp only[qhf,qhi hl]
   rw[ilt_f (show ¬Int.ofNat k<Int.ofNat 0 by show ¬((k:Nat):Int)<0;omega),Bool.not_false,cond_true,qa6,List.take_succ_eq_append_getElem hl,q07]
   by_cases h:(qaa s)[k]=c
   · rw[decide_eq_true h,cond_true,if_pos h,List.length_take,Nat.min_eq_left (by omega)]
   · rw[decide_eq_false h,cond_false,if_neg h]
     have w:IntKind.i64.wrap (Int.sub (Int.ofNat k) (Int.ofNat 1))=Int.ofNat k-1:=by
       rw[show Int.sub (Int.ofNat k) (Int.ofNat 1)=Int.ofNat k-1 from rfl]
       exact qas (by show -_<=((k:Nat):Int)-1/\((k:Nat):Int)-1<_;omega)
     rw[w]
     exact quu s c hs k m (by omega) (by omega)
theorem q20 (s:ByteArray) (c:Int) (hs:s.size<9223372036854775808):Fz19 LF s c=some (S.lastB (qaa s) c,()):=by
 show qgw LF s c LF (IntKind.i64.wrap (Int.sub (Int.ofNat s.size) (Int.ofNat 1)))=_
 rw[show Int.sub (Int.ofNat s.size) (Int.ofNat 1)=Int.ofNat s.size-1 from rfl,qas (a:=Int.ofNat s.size-1) (by show -_<=((s.size:Nat):Int)-1/\((s.size:Nat):Int)-1<_;omega)]
 refine(quu s c hs s.size LF (Nat.le_refl _) hs).trans ?_
 rw[List.take_of_length_le (by rw[qae];exact Nat.le_refl _)]
theorem conz19:Con Tryz.prog idz19 spz19:=mkz19 trivial fun x y hx h=>⟨LF,(q20 x.1 x.2.1 hx.1).trans h⟩
theorem q4o:Con Tryz.prog 61 qmt :=
 conK (nm:=fun _ _=>none) (sm:=smL [(87,spz19)]) (hx:=hxL []) mixed ttOK ftOK (qby ⟨conz19,trivial⟩) (qb4 trivial) cal61 fun x y hx h=>⟨20,30,by
   obtain⟨s,c,u⟩:=x
   exact(show qah Tryz.prog ttT.get ftT.get (fun _ _=>none) (smL [(87,spz19)]) (hxL []) 30 20 _ (.fn 61) (argV [.str,.int .u8] (s,c,u)) S0 (runR qmt)=some (S.lastB (qaa s) c,()) by kernel_rfl).trans h⟩
theorem qnq:∀(l:List Int) (n:Int) (i:Nat) (r:Int),S.placeGo l n (Int.ofNat i-r)=(n+Int.ofNat (l.count 10),Int.ofNat (i+l.length)-S.lastGo 10 l i r)
 | [],n,i,r=>by simp[S.placeGo,S.lastGo]
 | b::l,n,i,r=>by
   unfold S.placeGo S.lastGo
   by_cases h:b=10
   · subst h
     rw[if_pos rfl,if_pos rfl]
     have:=qnq l (n+1) (i+1) (Int.ofNat i)
     rw[show Int.ofNat (i+1)-Int.ofNat i=1 by show ((i+1:Nat):Int)-(i:Int)=1;omega] at this
     rw[this,List.count_cons_self,List.length_cons,show i+1+l.length=i+(l.length+1) by omega]
     refine Prod.ext ?_ rfl
     show n+1+((l.count 10:Nat):Int)=n+((l.count 10+1:Nat):Int)
     omega
   · rw[if_neg h,if_neg h]
     have:=qnq l n (i+1) r
     rw[show Int.ofNat (i+1)-r=Int.ofNat i-r+1 by show ((i+1:Nat):Int)-r=(i:Int)-r+1;omega] at this
     rw[this,List.count_cons_of_ne (fun e=>h e),List.length_cons,show i+1+l.length=i+(l.length+1) by omega]
theorem q26 (l:List Int):S.placeGo l 1 1=(1+S.countB l 10,Int.ofNat l.length-S.lastB l 10):=by
 have:=qnq l 1 0 (-1)
 rw[Nat.zero_add] at this
 exact this
theorem q6g (l:List Int) (c:Int):-1<=S.lastB l c/\S.lastB l c<Int.ofNat l.length\/S.lastB l c=-1:=by
 have h:∀(l:List Int) (i:Nat) (r:Int),S.lastGo c l i r=r\/(Int.ofNat i<=S.lastGo c l i r/\S.lastGo c l i r<Int.ofNat (i+l.length)):=by
   intro l
   induction l with
   | nil=>intro i r;exact .inl rfl
   | cons b l ih =>
     intro i r
     unfold S.lastGo
     rcases ih (i+1) (if b=c then Int.ofNat i else r) with e|⟨e1,e2⟩
     · rw[e]
       by_cases hb:b=c
       · rw[if_pos hb];refine .inr ⟨Int.le_refl _,?_⟩
         show (i:Int)<((i+(b::l).length:Nat):Int)
         simp only[List.length_cons];omega
       · rw[if_neg hb];exact .inl rfl
     · refine .inr ⟨?_,?_⟩
       · have e1:((i+1:Nat):Int)<=_:=e1
         show (i:Int)<=_
         omega
       · have e2:_<((i+1+l.length:Nat):Int):=e2
         show _<((i+(b::l).length:Nat):Int)
         simp only[List.length_cons];omega
 rcases h l 0 (-1) with e|⟨e1,e2⟩
 · exact .inr e
 · rw[Nat.zero_add] at e2
   have e1:(0:Int)<=S.lastB l c:=e1
   exact .inl ⟨by omega,e2⟩
theorem Fz20_eq (s:ByteArray) (n:Nat) (hs:s.size<=1000000) (hn:n<=s.size):Fz20 LF s (Int.ofNat n)=some (S.placeGo ((qaa s).take n) 1 1,()):=by
 have hlen:((qaa s).take n).length=n:=by rw[List.length_take,qae];omega
 refine range0 (σ:=Int × Int) (R:=Rtz20) ((qaa s).take n) (fun i q=>(i,q.1,q.2)) (fun i q=>1<=q.1/\q.1<=i+1/\1<=q.2/\q.2<=i+1) (fun rest _ q=>some (S.placeGo rest q.2 q.1,())) (by rw[hlen];unfold LF;omega) (fun K q hq=>?_) (fun K i v rest q hq r h=>?_) (1,1) (by simp)
 · rw[hlen]
   simp only[qk6,qa1];rfl
 · have hi:=r.lt
   rw[hlen] at hi
   have hlt:iltI (Int.ofNat i) (Int.ofNat n)=true:=by have:=r.ilt;rwa [hlen] at this
   have hg:jget (qaa s) (Int.ofNat i)=some v:=by
     have:=r.get?
     rw[List.getElem?_take,if_pos hi] at this
     exact qbb.trans this
   simp only[qk6,hlt,hg,r.next,cond_true,qa6]
   obtain⟨h1,h2,h3,h4⟩:=hq
   unfold S.placeGo
   by_cases hv:v=10
   · subst hv
     have w:IntKind.i64.wrap (Int.add q.2 (Int.ofNat 1))=q.2+1:=by rw[show Int.add q.2 (Int.ofNat 1)=q.2+1 from rfl];exact qas (by omega)
     rw[show decide ((10:Int)=Int.ofNat 10)=true from rfl,cond_true,if_pos rfl,w]
     exact h (1,q.2+1) ⟨Int.le_refl _,by show (1:Int)<=((i+1:Nat):Int)+1;omega,by show 1<=q.2+1;omega,by show q.2+1<=((i+1:Nat):Int)+1;omega⟩
   · have w:IntKind.i64.wrap (Int.add q.1 (Int.ofNat 1))=q.1+1:=by rw[show Int.add q.1 (Int.ofNat 1)=q.1+1 from rfl];exact qas (by omega)
     rw[show decide (v=Int.ofNat 10)=false from decide_eq_false hv,cond_false,if_neg hv,w]
     exact h (q.1+1,q.2) ⟨by show 1<=q.1+1;omega,by show q.1+1<=((i+1:Nat):Int)+1;omega,h3,by show q.2<=((i+1:Nat):Int)+1;omega⟩
theorem qqe {s:ByteArray} {n:Int} (h0:¬n<0) (h1:¬Int.ofNat s.size<n):∃k:Nat,n=Int.ofNat k/\k<=s.size:=by
 have h1:¬(s.size:Int)<n:=h1
 exact⟨n.toNat,by show n=((n.toNat:Nat):Int);omega,by omega⟩
theorem conz20:Con Tryz.prog idz20 spz20:=mkz20 trivial fun x y hx h=>⟨LF,by
 obtain⟨h1,h2⟩:=qa5 (show cond (S.fits x.1&&(!iltI x.2.1 0&&!iltI (Int.ofNat (ByteArray.size x.1)) x.2.1)) (some (S.placeGo ((qaa x.1).take x.2.1.toNat) 1 1,())) none=some y from h)
 rw[Bool.and_eq_true] at h1
 obtain⟨g1,g2⟩:=run_pre' h1.2
 obtain⟨k,e,hk⟩:=g2
 refine Eq.trans ?_ (congrArg some h2)
 refine(congrArg (Fz20 LF x.1) e).trans ((Fz20_eq x.1 k (qbg h1.1) hk).trans ?_)
 rw[show x.2.1.toNat=k from (congrArg Int.toNat e)]⟩
where
 run_pre' {s:ByteArray} {a:Int} (h:(!iltI a 0&&!iltI (Int.ofNat s.size) a)=true):True/\∃k:Nat,a=Int.ofNat k/\k<=s.size:=by
   rw[qa0,qa0] at h
   simp only[Bool.and_eq_true,Bool.not_eq_true',decide_eq_false_iff_not] at h
   exact⟨trivial,qqe h.1 h.2⟩
theorem Fz21_eq (lf:Nat) (s:ByteArray) (n:Int) (hs:S.fits s=true):Fz21 lf s n=some ((S.placeOf s n).1,(S.placeOf s n).2,()):=by
 have hsz:=qbg hs
 simp only[Fz21,qmd,S.placeOf]
 by_cases h0:n<0
 · rw[ilt_t (show n<Int.ofNat 0 from h0),cond_true,if_pos (.inl h0)];rfl
 · by_cases h1:Int.ofNat s.size<n
   · rw[ilt_f (show ¬n<Int.ofNat 0 from h0),cond_false,ilt_t h1,cond_true,if_pos (.inr h1)];rfl
   · obtain⟨k,rfl,hk⟩:=qqe h0 h1
     rw[ilt_f (show ¬Int.ofNat k<Int.ofNat 0 from h0),cond_false,ilt_f h1,cond_false,if_neg (by intro h;rcases h with h|h<;>contradiction),qjv hk,cond_true,cond_true]
     have hb:qaa (s.extract 0 (Int.toNat (Int.ofNat k)))=(qaa s).take k:=qha s k
     have hlen:((qaa s).take k).length=k:=by rw[List.length_take,qae];omega
     rw[hb,q26,show Int.toNat (Int.ofNat k)=k from rfl]
     have hc:S.countB ((qaa s).take k) 10=((((qaa s).take k).count 10:Nat):Int):=rfl
     have hcl:((qaa s).take k).count 10<=k:=by have:=List.count_le_length (a:=(10:Int)) (l:=(qaa s).take k);omega
     have hr:=q6g ((qaa s).take k) 10
     rw[hlen] at hr
     have hr:-1<=S.lastB ((qaa s).take k) 10/\S.lastB ((qaa s).take k) 10<=(k:Int):=by
       rcases hr with ⟨a,b⟩|a
       · have b:_<(k:Int):=b
         omega
       · omega
     have w1:IntKind.i64.wrap (Int.add (Int.ofNat 1) (S.countB ((qaa s).take k) (Int.ofNat 10)))=1+S.countB ((qaa s).take k) 10:=by
       rw[show Int.add (Int.ofNat 1) (S.countB ((qaa s).take k) (Int.ofNat 10))=1+S.countB ((qaa s).take k) 10 from rfl]
       exact qas (by rw[hc];omega)
     have w2:IntKind.i64.wrap (Int.sub (Int.ofNat k) (S.lastB ((qaa s).take k) (Int.ofNat 10)))=Int.ofNat k-S.lastB ((qaa s).take k) 10:=by
       rw[show Int.sub (Int.ofNat k) (S.lastB ((qaa s).take k) (Int.ofNat 10))=Int.ofNat k-S.lastB ((qaa s).take k) 10 from rfl]
       exact qas (by show _<=(k:Int)-_/\(k:Int)-_<_;omega)
     simp only[w1,w2,hlen]
     rfl
theorem conz21:Con Tryz.prog idz21 spz21:=mkz21 ⟨qlq,q4o,trivial⟩ fun x y hx h=>⟨0,by
 obtain⟨h1,h2⟩:=qa5 (show cond (S.fits x.1) (some ((S.placeOf x.1 x.2.1).1,(S.placeOf x.1 x.2.1).2,())) none=some y from h)
 exact(Fz21_eq 0 x.1 x.2.1 h1).trans (congrArg some h2)⟩
theorem qw1 {α:Type} (s:ByteArray) (a b:Int) (t:ByteArray) (hs:S.fits s=true) (ht:S.fits t=true) (X1 X3:Option α) (f:ByteArray->Option α) :
   (cond (iltI a (Int.ofNat 0)) X1 (cond (iltI b a) X1 (cond (iltI (Int.ofNat s.size) b) X1 (cond (iltI (Int.ofNat 20000) (IntKind.i64.wrap (Int.add (IntKind.i64.wrap (Int.sub (Int.ofNat s.size) (IntKind.i64.wrap (Int.sub b a)))) (Int.ofNat t.size)))) X3
     (cond (lchk (Int.ofNat 0) a (Int.ofNat s.size) (Int.ofNat s.size)) (cond (Nat.ble (Nat.succ (Nat.add (ByteArray.size (ByteArray.extract s 0 (Int.toNat a))) t.size)) 9223372036854775808)
       (cond (lchk b (Int.ofNat s.size) (Int.ofNat s.size) (Int.ofNat s.size)) (cond (Nat.ble (Nat.succ (Nat.add (ByteArray.size (ByteArray.append (ByteArray.extract s 0 (Int.toNat a)) t)) (ByteArray.size (ByteArray.extract s (Int.toNat b) (Int.toNat (Int.ofNat s.size)))))) 9223372036854775808)
         (f (ByteArray.append (ByteArray.append (ByteArray.extract s 0 (Int.toNat a)) t) (ByteArray.extract s (Int.toNat b) (Int.toNat (Int.ofNat s.size))))) none) none) none) none)))))
   = if a<0\/b<a\/Int.ofNat s.size<b then X1 else if 20000<Int.ofNat s.size-(b-a)+Int.ofNat t.size then X3 else f (s.extract 0 a.toNat++t++s.extract b.toNat s.size):=by
 have h1:=qbg hs
 have h2:=qbg ht
 by_cases c1:a<0
 · rw[ilt_t (show a<Int.ofNat 0 from c1),cond_true,if_pos (.inl c1)]
 rw[ilt_f (show ¬a<Int.ofNat 0 from c1),cond_false]
 by_cases c2:b<a
 · rw[ilt_t c2,cond_true,if_pos (.inr (.inl c2))]
 rw[ilt_f c2,cond_false]
 by_cases c3:Int.ofNat s.size<b
 · rw[ilt_t c3,cond_true,if_pos (.inr (.inr c3))]
 rw[ilt_f c3,cond_false,if_neg (by intro h;rcases h with h|h|h<;>contradiction)]
 have c3':¬((s.size:Nat):Int)<b:=c3
 have w:IntKind.i64.wrap (Int.add (IntKind.i64.wrap (Int.sub (Int.ofNat s.size) (IntKind.i64.wrap (Int.sub b a)))) (Int.ofNat t.size))=Int.ofNat s.size-(b-a)+Int.ofNat t.size:=by
   rw[show Int.sub b a=b-a from rfl,qas (a:=b-a) (by omega),show Int.sub (Int.ofNat s.size) (b-a)=Int.ofNat s.size-(b-a) from rfl,qas (a:=Int.ofNat s.size-(b-a)) (by show -_<=(s.size:Int)-(b-a)/\(s.size:Int)-(b-a)<_;omega)]
   exact qas (by show -_<=(s.size:Int)-(b-a)+(t.size:Int)/\(s.size:Int)-(b-a)+(t.size:Int)<_;omega)
 rw[w]
 by_cases c4:20000<Int.ofNat s.size-(b-a)+Int.ofNat t.size
 · rw[ilt_t (show Int.ofNat 20000<_ from c4),cond_true,if_pos c4]
 rw[ilt_f (show ¬Int.ofNat 20000<_ from c4),cond_false,if_neg c4]
 have l1:lchk (Int.ofNat 0) a (Int.ofNat s.size) (Int.ofNat s.size)=true:=by simp[lchk];omega
 have l2:lchk b (Int.ofNat s.size) (Int.ofNat s.size) (Int.ofNat s.size)=true:=by simp[lchk];omega
 have e1:(s.extract 0 (Int.toNat a)).size<=s.size:=by rw[ByteArray.size_extract];omega
 have e2:(s.extract (Int.toNat b) (Int.toNat (Int.ofNat s.size))).size<=s.size:=by rw[ByteArray.size_extract];show min s.size _-_<=_;omega
 have e3:(ByteArray.append (s.extract 0 (Int.toNat a)) t).size=(s.extract 0 (Int.toNat a)).size+t.size:=ByteArray.size_append
 rw[l1,cond_true,l2,show Nat.ble (Nat.succ (Nat.add (ByteArray.size (ByteArray.extract s 0 (Int.toNat a))) t.size)) 9223372036854775808=true from Nat.ble_eq_true_of_le (by show _+t.size+1<=_;omega),cond_true,cond_true,e3,
   show Nat.ble (Nat.succ (Nat.add ((s.extract 0 (Int.toNat a)).size+t.size) (ByteArray.size (ByteArray.extract s (Int.toNat b) (Int.toNat (Int.ofNat s.size)))))) 9223372036854775808=true from Nat.ble_eq_true_of_le (by show _+t.size+_+1<=_;omega),cond_true]
 rfl
theorem Fz22_eq (lf:Nat) (s:ByteArray) (c:qag) (hs:S.fits s=true) (ht:S.fits c.2.2=true):Fz22 lf s c=some ((S.edit s c).1,(S.edit s c).2,()):=by
 refine(qw1 s c.1 c.2.1 c.2.2 hs ht (some ((S.lit []),((Int.ofNat 1),()))) (some ((S.lit []),((Int.ofNat 3),()))) (fun x=>some (x,((Int.ofNat 0),())))).trans ?_
 unfold S.edit
 split
 · rfl
 split<;>rfl
theorem conz22:Con Tryz.prog idz22 spz22:=mkz22 trivial fun x y hx h=>⟨0,by
 obtain⟨h1,h2⟩:=qa5 (show cond (S.fits x.1&&S.fits x.2.1.2.2) (some ((S.edit x.1 x.2.1).1,(S.edit x.1 x.2.1).2,())) none=some y from h)
 rw[Bool.and_eq_true] at h1
 exact(Fz22_eq 0 x.1 x.2.1 h1.1 h1.2).trans (congrArg some h2)⟩
theorem Fz23_eq (lf:Nat) (s:ByteArray) (c:qag) (hs:S.fits s=true) (ht:S.fits c.2.2=true):Fz23 lf s c=some (S.edit s c,()):=by
 refine(qw1 s c.1 c.2.1 c.2.2 hs ht (some (((S.lit []),(Int.ofNat 1)),())) (some (((S.lit []),(Int.ofNat 3)),())) (fun x=>some ((x,(Int.ofNat 0)),()))).trans ?_
 unfold S.edit
 split
 · rfl
 split<;>rfl
theorem conz23:Con Tryz.prog idz23 spz23:=mkz23 trivial fun x y hx h=>⟨0,by
 obtain⟨h1,h2⟩:=qa5 (show cond (S.fits x.1&&S.fits x.2.1.2.2) (some (S.edit x.1 x.2.1,())) none=some y from h)
 rw[Bool.and_eq_true] at h1
 exact(Fz23_eq 0 x.1 x.2.1 h1.1 h1.2).trans (congrArg some h2)⟩
theorem qq5 (s:ByteArray):(S.lines s).length=(S.splitL (qaa s)).length:=List.length_map _
theorem qw6 (s:ByteArray):(S.lines s).length<=s.size+1:=by
 rw[qq5,qcl]
 have:=List.count_le_length (a:=(10:Int)) (l:=qaa s)
 rw[qae] at this
 omega
theorem qiv:∀(l:List Int) (x:List Int),x∈S.splitL l->(∀b∈x,b∈l)/\x.length<=l.length
 | [],x,h=>by
   have:x=[]:=by simpa [S.splitL] using h
   subst this;simp
 | b::r,x,h=>by
   by_cases hb:b=10
   · subst hb
     rw[qda] at h
     rcases List.mem_cons.1 h with rfl|h
     · simp
     · obtain⟨h1,h2⟩:=qiv r x h
       exact⟨fun c hc=>List.mem_cons_of_mem _ (h1 c hc),by simp;omega⟩
   · obtain⟨y,ys,e1,e2⟩:=qcf hb r
     rw[e2] at h
     rcases List.mem_cons.1 h with rfl|h
     · obtain⟨h1,h2⟩:=qiv r y (by rw[e1];exact List.mem_cons_self)
       refine⟨fun c hc=>?_,by simp;omega⟩
       rcases List.mem_cons.1 hc with rfl|hc
       · exact List.mem_cons_self
       · exact List.mem_cons_of_mem _ (h1 c hc)
     · obtain⟨h1,h2⟩:=qiv r x (by rw[e1];exact List.mem_cons_of_mem _ h)
       exact⟨fun c hc=>List.mem_cons_of_mem _ (h1 c hc),by simp;omega⟩
theorem qrw {s:ByteArray} {x:List Int} (h:x∈S.splitL (qaa s)):qaa (strOf x)=x/\(strOf x).size=x.length/\x.length<=s.size:=by
 obtain⟨h1,h2⟩:=qiv _ x h
 have e:qaa (strOf x)=x:=qid fun b hb=>qew (h1 b hb)
 refine⟨e,?_,by rw[<- qae s];exact h2⟩
 rw[<- qae,e]
def sumS (l:List ByteArray):Int:=S.sumLen (l.map qaa)
theorem qt1 (s:ByteArray) (l:List ByteArray):sumS (s::l)=Int.ofNat s.size+1+sumS l:=by
 unfold sumS
 rw[List.map_cons]
 show Int.ofNat (qaa s).length+1+_=_
 rw[qae]
theorem qqk (s:ByteArray):(S.lines s).map qaa=S.splitL (qaa s):=by
 unfold S.lines
 rw[List.map_map]
 conv=>rhs;rw[<- List.map_id (S.splitL (qaa s))]
 exact List.map_congr_left fun x hx=>(qrw hx).1
theorem qd1 {s t:ByteArray} (h:t∈S.lines s):t.size<=s.size:=by
 obtain⟨x,hx,rfl⟩:=List.mem_map.1 h
 obtain⟨_,h2,h3⟩:=qrw hx
 omega
theorem q6q (s:ByteArray) (k:Nat):sumS ((S.lines s).take k)=S.sumLen ((S.splitL (qaa s)).take k):=by
 unfold sumS
 rw[List.map_take,qqk]
theorem line_at {s:ByteArray} {k:Nat} (h:k<(S.lines s).length):(S.splitL (qaa s))[k]?=some (qaa (S.lines s)[k]):=by
 rw[<- qqk,List.getElem?_map,List.getElem?_eq_getElem h];rfl
theorem qzk (s:ByteArray) (p:Int × Int) (k:Nat) (hk:p.1=Int.ofNat k+1) (h:k<(S.lines s).length):S.offset s p=if p.2<1 then (0,1) else if Int.ofNat (S.lines s)[k].size+1<p.2 then (0,1) else (p.2-1+sumS ((S.lines s).take k),0):=by
 unfold S.offset S.offsetL
 have e:(p.1-1).toNat=k:=by rw[hk];show ((k:Int)+1-1).toNat=k;omega
 have hl:k<(S.splitL (qaa s)).length:=by rw[<- qq5];exact h
 rw[e,line_at h,q6q]
 by_cases c:p.2<1
 · rw[if_pos (.inr (.inr c)),if_pos c]
 · rw[if_neg c,if_neg (by rw[hk];intro h;rcases h with h|h|h;exact absurd (show (k:Int)+1<1 from h) (by omega);exact absurd (show (((S.splitL (qaa s)).length:Nat):Int)<(k:Int)+1 from h) (by omega);exact c h)]
   simp only[qae]
theorem qk3 (s:ByteArray) (p:Int × Int) (h:p.1<1\/Int.ofNat (S.lines s).length<p.1):S.offset s p=(0,1):=by
 unfold S.offset S.offsetL
 rw[qq5] at h
 rw[if_pos (by rcases h with h|h;exact .inl h;exact .inr (.inl h))]
theorem sum_x (x1:ByteArray) (x2:qai) (l:List ByteArray) (n0:Int) (h0:0<=n0/\n0<=1000001) (hl:l.length<=1000001) (hs:∀t∈l,t.size<=1000000):qhr LF x1 x2 LF (l,n0,Int.ofNat 0)=some (n0+sumS l,Int.ofNat 0,()):=by
 refine range0 (σ:=Int) (R:=Rtz24) l (fun i q=>(l,q,i)) (fun i q=>0<=q/\q<=((1000001*(i+1):Nat):Int)) (fun rest _ q=>some (q+sumS rest,Int.ofNat 0,())) (by unfold LF;omega) (fun K q hq=>?_) (fun K i v rest q hq r h=>?_) n0 (by simpa using h0)
 · simp only[qib,qa1,cond_false]
   show some (q,_,())=some (q+0,_,())
   rw[Int.add_zero]
 · have hi:=r.lt
   have hv:=hs v r.mem
   simp only[qib,r.ilt,r.get,r.next,cond_true]
   have w1:IntKind.i64.wrap (Int.ofNat (Nat.add v.size 1))=Int.ofNat (v.size+1):=qa3 (by show v.size+1<_;omega)
   have w2:IntKind.i64.wrap (Int.add q (Int.ofNat (v.size+1)))=q+Int.ofNat (v.size+1):=by
     rw[show Int.add q (Int.ofNat (v.size+1))=q+Int.ofNat (v.size+1) from rfl]
     exact qas (by show -_<=q+((v.size+1:Nat):Int)/\q+((v.size+1:Nat):Int)<_;omega)
   rw[w1,w2,h _ (by show 0<=q+((v.size+1:Nat):Int)/\q+((v.size+1:Nat):Int)<=_;omega),qt1]
   rw[show q+Int.ofNat (v.size+1)+sumS rest=q+(Int.ofNat v.size+1+sumS rest) by show q+((v.size+1:Nat):Int)+_=q+((v.size:Int)+1+_);omega]
theorem Fz24_eq (s:ByteArray) (p:qai) (hs:S.fits s=true):Fz24 LF s p=some ((S.offset s p).1,(S.offset s p).2,()):=by
 have hsz:=qbg hs
 have hll:=qw6 s
 simp only[Fz24,qqa,hs,Bool.and_true,cond_true]
 by_cases c1:p.1<1
 · rw[ilt_t (show p.1<Int.ofNat 1 from c1),cond_true,qk3 s p (.inl c1)];rfl
 rw[ilt_f (show ¬p.1<Int.ofNat 1 from c1),cond_false]
 by_cases c2:Int.ofNat (S.lines s).length<p.1
 · rw[ilt_t c2,cond_true,qk3 s p (.inr c2)];rfl
 rw[ilt_f c2,cond_false]
 obtain⟨k,hk⟩:∃k:Nat,p.1=Int.ofNat k+1:=⟨(p.1-1).toNat,by show p.1=(((p.1-1).toNat:Nat):Int)+1;omega⟩
 have hk':p.1=(k:Int)+1:=hk
 have c2':¬(((S.lines s).length:Nat):Int)<p.1:=c2
 have hkl:k<(S.lines s).length:=by omega
 have w1:IntKind.i64.wrap (Int.sub p.1 (Int.ofNat 1))=Int.ofNat k:=by
   rw[show Int.sub p.1 (Int.ofNat 1)=Int.ofNat k by rw[hk];show (k:Int)+1-1=k;omega]
   exact qa3 (by omega)
 rw[qzk s p k hk hkl]
 by_cases c3:p.2<1
 · rw[ilt_t (show p.2<Int.ofNat 1 from c3),cond_true,if_pos c3];rfl
 rw[ilt_f (show ¬p.2<Int.ofNat 1 from c3),cond_false,if_neg c3]
 have hm:(S.lines s)[k]∈S.lines s:=List.getElem_mem hkl
 have hle:=qd1 hm
 have w2:IntKind.i64.wrap (Int.ofNat (Nat.add (S.lines s)[k].size 1))=Int.ofNat (S.lines s)[k].size+1:=qa3 (by show (S.lines s)[k].size+1<_;omega)
 simp only[w1,qhi hkl]
 rw[show (S.lines s)[Int.toNat (Int.ofNat k)]?=some (S.lines s)[k] from List.getElem?_eq_getElem hkl]
 simp only[w2]
 by_cases c4:Int.ofNat (S.lines s)[k].size+1<p.2
 · rw[ilt_t c4,cond_true,if_pos c4];rfl
 have c4':¬(((S.lines s)[k].size:Nat):Int)+1<p.2:=c4
 rw[ilt_f c4,cond_false,if_neg c4,qjv (by omega),cond_true]
 have w3:IntKind.i64.wrap (Int.sub p.2 (Int.ofNat 1))=p.2-1:=by
   rw[show Int.sub p.2 (Int.ofNat 1)=p.2-1 from rfl]
   exact qas (by omega)
 rw[w3,show lsub (S.lines s) (Int.ofNat 0) (Int.ofNat k)=(S.lines s).take k from rfl]
 exact sum_x s p _ _ (by omega) (by rw[List.length_take];omega) fun t ht=>Nat.le_trans (qd1 (List.mem_of_mem_take ht)) hsz
theorem conz24:Con Tryz.prog idz24 spz24:=mkz24 ⟨qty,trivial⟩ fun x y hx h=>⟨LF,by
 obtain⟨h1,h2⟩:=qa5 (show cond (S.fits x.1) (some ((S.offset x.1 x.2.1).1,(S.offset x.1 x.2.1).2,())) none=some y from h)
 exact(Fz24_eq x.1 x.2.1 h1).trans (congrArg some h2)⟩
theorem sum_q (x1:ByteArray) (x2:qai) (a l b:List ByteArray) (n0:Int) (k:Nat) (ha:a=l++b) (hk:l.length=k) (h2:x2.1=Int.ofNat k+1) (h0:0<=n0/\n0<=1000001) (hl:l.length<=1000001) (hs:∀t∈l,t.size<=1000000):qgm LF x1 x2 LF (a,Int.ofNat 0,n0)=some ((n0+sumS l,Int.ofNat 0),()):=by
 have w0:IntKind.i64.wrap (Int.sub x2.1 (Int.ofNat 1))=Int.ofNat l.length:=by
   rw[show Int.sub x2.1 (Int.ofNat 1)=Int.ofNat l.length by rw[h2,hk];show (k:Int)+1-1=k;omega]
   exact qa3 (by omega)
 refine range0 (σ:=Int) (R:=Rtz25) l (fun i q=>(a,i,q)) (fun i q=>0<=q/\q<=((1000001*(i+1):Nat):Int)) (fun rest _ q=>some ((q+sumS rest,Int.ofNat 0),())) (by unfold LF;omega) (fun K q hq=>?_) (fun K i v rest q hq r h=>?_) n0 (by simpa using h0)
 · simp only[qjn,w0,qa1,cond_false]
   show some ((q,_),())=some ((q+0,_),())
   rw[Int.add_zero]
 · have hi:=r.lt
   have hv:=hs v r.mem
   have hg:a[i]?=some v:=by rw[ha,List.getElem?_append_left hi];exact r.get?
   simp only[qjn,w0,r.ilt,r.next,cond_true]
   rw[show jget a (Int.ofNat i)=some v from qbb.trans hg,show a[Int.toNat (Int.ofNat i)]?=some v from hg]
   simp only
   have w1:IntKind.i64.wrap (Int.add q (Int.ofNat v.size))=q+Int.ofNat v.size:=by
     rw[show Int.add q (Int.ofNat v.size)=q+Int.ofNat v.size from rfl]
     exact qas (by show -_<=q+((v.size:Nat):Int)/\q+((v.size:Nat):Int)<_;omega)
   have w2:IntKind.i64.wrap (Int.add (q+Int.ofNat v.size) (Int.ofNat 1))=q+Int.ofNat v.size+1:=by
     rw[show Int.add (q+Int.ofNat v.size) (Int.ofNat 1)=q+Int.ofNat v.size+1 from rfl]
     exact qas (by show -_<=q+((v.size:Nat):Int)+1/\q+((v.size:Nat):Int)+1<_;omega)
   rw[w1,w2,h _ (by show 0<=q+((v.size:Nat):Int)+1/\q+((v.size:Nat):Int)+1<=_;omega),qt1]
   rw[show q+Int.ofNat v.size+1+sumS rest=q+(Int.ofNat v.size+1+sumS rest) by omega]
theorem Fz25_eq (s:ByteArray) (p:qai) (hs:S.fits s=true):Fz25 LF s p=some (S.offset s p,()):=by
 have hsz:=qbg hs
 have hll:=qw6 s
 simp only[Fz25,qo5,hs,cond_true]
 by_cases c1:p.1<1
 · rw[ilt_t (show p.1<Int.ofNat 1 from c1),cond_true,qk3 s p (.inl c1)];rfl
 rw[ilt_f (show ¬p.1<Int.ofNat 1 from c1),cond_false]
 by_cases c2:Int.ofNat (S.lines s).length<p.1
 · rw[ilt_t c2,cond_true,qk3 s p (.inr c2)];rfl
 rw[ilt_f c2,cond_false]
 obtain⟨k,hk⟩:∃k:Nat,p.1=Int.ofNat k+1:=⟨(p.1-1).toNat,by show p.1=(((p.1-1).toNat:Nat):Int)+1;omega⟩
 have hk':p.1=(k:Int)+1:=hk
 have c2':¬(((S.lines s).length:Nat):Int)<p.1:=c2
 have hkl:k<(S.lines s).length:=by omega
 have w1:IntKind.i64.wrap (Int.sub p.1 (Int.ofNat 1))=Int.ofNat k:=by
   rw[show Int.sub p.1 (Int.ofNat 1)=Int.ofNat k by rw[hk];show (k:Int)+1-1=k;omega]
   exact qa3 (by omega)
 rw[qzk s p k hk hkl]
 by_cases c3:p.2<1
 · rw[ilt_t (show p.2<Int.ofNat 1 from c3),cond_true,if_pos c3];rfl
 rw[ilt_f (show ¬p.2<Int.ofNat 1 from c3),cond_false,if_neg c3]
 have hm:(S.lines s)[k]∈S.lines s:=List.getElem_mem hkl
 have hle:=qd1 hm
 have w2:IntKind.i64.wrap (Int.ofNat (Nat.add (S.lines s)[k].size 1))=Int.ofNat (S.lines s)[k].size+1:=qa3 (by show (S.lines s)[k].size+1<_;omega)
 have w0:imax (Int.ofNat 0) (Int.ofNat k)=Int.ofNat k:=by
   unfold imax
   rw[qbl]
   by_cases hk0:0<k
   · rw[decide_eq_true hk0];rfl
   · rw[show k=0 by omega];rfl
 simp only[w1,w0,qhi hkl]
 rw[show (S.lines s)[Int.toNat (Int.ofNat k)]?=some (S.lines s)[k] from List.getElem?_eq_getElem hkl]
 simp only[w2]
 by_cases c4:Int.ofNat (S.lines s)[k].size+1<p.2
 · rw[ilt_t c4,cond_true,if_pos c4];rfl
 have c4':¬(((S.lines s)[k].size:Nat):Int)+1<p.2:=c4
 rw[ilt_f c4,cond_false,if_neg c4]
 have w3:IntKind.i64.wrap (Int.sub p.2 (Int.ofNat 1))=p.2-1:=by
   rw[show Int.sub p.2 (Int.ofNat 1)=p.2-1 from rfl]
   exact qas (by omega)
 rw[w3]
 exact sum_q s p _ ((S.lines s).take k) ((S.lines s).drop k) _ k (List.take_append_drop k _).symm (by rw[List.length_take];omega) hk (by omega) (by rw[List.length_take];omega) fun t ht=>Nat.le_trans (qd1 (List.mem_of_mem_take ht)) hsz
theorem conz25:Con Tryz.prog idz25 spz25:=mkz25 ⟨qsq,trivial⟩ fun x y hx h=>⟨LF,by
 obtain⟨h1,h2⟩:=qa5 (show cond (S.fits x.1) (some (S.offset x.1 x.2.1,())) none=some y from h)
 exact(Fz25_eq x.1 x.2.1 h1).trans (congrArg some h2)⟩

def nmz26:Nat->Option Nm:=fun k=>none
def stz26:Nat->Bool:=fun k=>false
def hdz26:=stz26
abbrev Rtz26:Type:=Bool × Unit
def qmx:List (Nat × Sm):=[]
def qqy:List (Nat × Hx):=[]
def clz26 (R:Type) (lf:Nat):ClK R:=qah Tryz.prog ttT.get ftT.get (nm1 67 nmz26) (smL qmx) (hxL qqy) lf 20 R
abbrev idz26:Nat:=67
def qnk (lf:Nat) (x1:Int):Option Rtz26:=(cond (Bool.not (iltI x1 (Int.ofNat 97))) (cond (Bool.not (iltI (Int.ofNat 122) x1)) (some (Bool.true,())) (cond (Bool.not (iltI x1 (Int.ofNat 65))) (cond (Bool.not (iltI (Int.ofNat 90) x1)) (some (Bool.true,())) (cond (Bool.not (iltI x1 (Int.ofNat 48))) (cond (Bool.not (iltI (Int.ofNat 57) x1)) (some (Bool.true,())) (some ((ieqI x1 (Int.ofNat 95)),()))) (some ((ieqI x1 (Int.ofNat 95)),())))) (cond (Bool.not (iltI x1 (Int.ofNat 48))) (cond (Bool.not (iltI (Int.ofNat 57) x1)) (some (Bool.true,())) (some ((ieqI x1 (Int.ofNat 95)),()))) (some ((ieqI x1 (Int.ofNat 95)),()))))) (cond (Bool.not (iltI x1 (Int.ofNat 65))) (cond (Bool.not (iltI (Int.ofNat 90) x1)) (some (Bool.true,())) (cond (Bool.not (iltI x1 (Int.ofNat 48))) (cond (Bool.not (iltI (Int.ofNat 57) x1)) (some (Bool.true,())) (some ((ieqI x1 (Int.ofNat 95)),()))) (some ((ieqI x1 (Int.ofNat 95)),())))) (cond (Bool.not (iltI x1 (Int.ofNat 48))) (cond (Bool.not (iltI (Int.ofNat 57) x1)) (some (Bool.true,())) (some ((ieqI x1 (Int.ofNat 95)),()))) (some ((ieqI x1 (Int.ofNat 95)),())))))
abbrev gz26:Type:=ElA [(.int .u8)]->Option Rtz26
abbrev sz26 (g:gz26):Sm:=⟨[(.int .u8)],[(false,.bool)],g⟩
abbrev Ez26 (g:gz26) (J:JT Rtz26) (lf:Nat) (x1:Int):=qao Tryz.prog ttT.get nmz26 fi67.nt (clz26 _ lf) lf stz26 J fi67.body [] (argGo (argV [(.int .u8)] (x1,())) 0 .leaf) S0 [] (lastK ttT.get fi67 (sz26 g))
theorem inz26 (g:gz26) (J:JT Rtz26) (lf:Nat) (x1:Int):Ez26 g J lf x1=qnk lf x1:=by kernel_rfl
theorem ndz26:(regs fi67.body).Nodup:=by decide +kernel
theorem okz26:okC nmz26 stz26 hdz26 fi67.body none=true:=by kernel_rfl
def Az26 (g:gz26) (lf:Nat):JT Rtz26:=atN Tryz.prog ttT.get nmz26 fi67 (sz26 g) (clz26 _ lf) lf hdz26
def Fz26 (lf:Nat) (x1:Int):Option Rtz26:=qnk lf x1
theorem runz26 (g:gz26) (lf:Nat) (x1:Int):Ez26 g (Az26 g lf) lf x1=Fz26 lf x1:=by
   refine(inz26 g (Az26 g lf) lf x1).trans ?_
   rfl
theorem hxsz26:HxsOK Tryz.prog qqy:=trivial
theorem mkz26 {g:gz26} (hsm:SmOK Tryz.prog qmx) (hg:∀(x:ElA [(.int .u8)]) (y:Rtz26),WfA [(.int .u8)] x->g x=some y->∃lf,Fz26 lf x.1=some y):Con Tryz.prog 67 ⟨[(.int .u8)],[(false,.bool)],g⟩ :=
 conT (nmf:=nmz26) (sml:=qmx) (hxl:=qqy) (st:=stz26) (hd:=hdz26) 20 mixed ttOK ftOK hsm hxsz26 cal67 rfl rfl (by kernel_rfl) (fun x=>by kernel_rfl) ndz26 okz26 fun x y hx hy=>by
   obtain⟨lf,h⟩:=hg x y hx hy
   exact⟨lf,(runz26 g lf x.1).trans h⟩
def nmz27:Nat->Option Nm:=fun k=>cond (Nat.beq k 2) (some ⟨[0,1,6],[],[],[],[],0,0,false⟩) (none)
def stz27:Nat->Bool:=fun k=>cond (Nat.beq k 2) true (false)
def hdz27:=stz27
abbrev Rtz27:Type:=Int × Int × Unit
def qnt:List (Nat × Sm):=[]
def qok:List (Nat × Hx):=[]
def clz27 (R:Type) (lf:Nat):ClK R:=qah Tryz.prog ttT.get ftT.get (nm1 65 nmz27) (smL qnt) (hxL qok) lf 20 R
abbrev idz27:Nat:=65
def qfi (x1:ByteArray) (x2:Int) (p:Int):NRes:=(NRes.mk (.node (some (IV.str x1)) (.node (some (IV.int .i64 x2)) .leaf .leaf) (.node none .leaf (.node (some (IV.int .i64 p)) .leaf .leaf))) (IS.mk .leaf 0) [] 0)
def qux (lf:Nat) (x1:ByteArray) (x2:Int) (L2:Int->Option Rtz27):Option Rtz27:=(L2 (Int.ofNat 2))
def qdw (lf:Nat) (x1:ByteArray) (x2:Int) (L2:Int->Option Rtz27) (p:Int):Option Rtz27:=(cond (iltI (IntKind.i64.wrap (Int.add x2 p)) (Int.ofNat (ByteArray.size x1))) (match (jget (qaa x1) (IntKind.i64.wrap (Int.add x2 p))) with|.none  => none|.some v0=>(cond (Bool.not (ieqI v0 (Int.ofNat 10))) (match (jget (qaa x1) (IntKind.i64.wrap (Int.add x2 p))) with|.none  => none|.some v1=>(cond (iltI v1 (Int.ofNat 32)) (some ((Int.negSucc 0),((IntKind.i64.wrap (Int.add x2 p)),()))) (match (jget (qaa x1) (IntKind.i64.wrap (Int.add x2 p))) with|.none  => none|.some v2=>(cond (iltI (Int.ofNat 126) v2) (some ((Int.negSucc 0),((IntKind.i64.wrap (Int.add x2 p)),()))) (L2 (IntKind.i64.wrap (Int.add p (Int.ofNat 1)))))))) (some (p,((Int.ofNat 0),()))))) (some (p,((Int.ofNat 0),()))))
abbrev gz27:Type:=ElA [.str,(.int .i64)]->Option Rtz27
abbrev sz27 (g:gz27):Sm:=⟨[.str,(.int .i64)],[(false,(.int .i64)),(false,(.int .i64))],g⟩
abbrev Ez27 (g:gz27) (J:JT Rtz27) (lf:Nat) (x1:ByteArray) (x2:Int):=qao Tryz.prog ttT.get nmz27 fi65.nt (clz27 _ lf) lf stz27 J fi65.body [] (argGo (argV [.str,(.int .i64)] (x1,x2,())) 0 .leaf) S0 [] (lastK ttT.get fi65 (sz27 g))
abbrev Bz27 (g:gz27) (J:JT Rtz27) (lf k:Nat) (ms:List Nat) (q:NRes):=qaz Tryz.prog ttT.get nmz27 fi65.nt (clz27 _ lf) lf stz27 J k fi65.body [] ms q (lastK ttT.get fi65 (sz27 g))
theorem inz27 (g:gz27) (J:JT Rtz27) (lf:Nat) (x1:ByteArray) (x2:Int):Ez27 g J lf x1 x2=qux lf x1 x2 (fun q=>J 2 [lf] (qfi x1 x2 q)):=by kernel_rfl
theorem stz27_2 (g:gz27) (J:JT Rtz27) (lf:Nat) (x1:ByteArray) (x2:Int) (m1:Nat) (p:Int):Bz27 g J lf 2 [m1] (qfi x1 x2 p)=qdw lf x1 x2 (fun q=>J 2 [m1] (qfi x1 x2 q)) p:=by kernel_rfl
theorem ndz27:(regs fi65.body).Nodup:=by decide +kernel
theorem okz27:okC nmz27 stz27 hdz27 fi65.body none=true:=by kernel_rfl
def Az27 (g:gz27) (lf:Nat):JT Rtz27:=atN Tryz.prog ttT.get nmz27 fi65 (sz27 g) (clz27 _ lf) lf hdz27
def qja (lf:Nat) (x1:ByteArray) (x2:Int):Nat->(Int)->Option Rtz27:=rounds fun K p=>qdw lf x1 x2 K p
theorem qup (g:gz27) (lf:Nat) (x1:ByteArray) (x2:Int):∀(n:Nat) (p:Int),Az27 g lf 2 [n] (qfi x1 x2 p)=qja lf x1 x2 n p
 | 0,p=>qa2 2 [0] rfl _
 | n+1,p=>by
   have ih:=qup g lf x1 x2 n
   refine(qav (qam 20 _) ndz27 okz27 2 [n+1] [n] rfl _).trans ((stz27_2 g (Az27 g lf) lf x1 x2 n p).trans ?_)
   rw[(show (fun q=>Az27 g lf 2 [n] (qfi x1 x2 q))=(fun q=>qja lf x1 x2 n q) from funext ih)]
   rfl
def Fz27 (lf:Nat) (x1:ByteArray) (x2:Int):Option Rtz27:=qux lf x1 x2 (fun q=>qja lf x1 x2 lf q)
theorem runz27 (g:gz27) (lf:Nat) (x1:ByteArray) (x2:Int):Ez27 g (Az27 g lf) lf x1 x2=Fz27 lf x1 x2:=by
   refine(inz27 g (Az27 g lf) lf x1 x2).trans ?_
   rw[(show (fun q=>Az27 g lf 2 [lf] (qfi x1 x2 q))=(fun q=>qja lf x1 x2 lf q) from funext fun q=>qup g lf x1 x2 lf q)]
   rfl
theorem hxsz27:HxsOK Tryz.prog qok:=trivial
theorem mkz27 {g:gz27} (hsm:SmOK Tryz.prog qnt) (hg:∀(x:ElA [.str,(.int .i64)]) (y:Rtz27),WfA [.str,(.int .i64)] x->g x=some y->∃lf,Fz27 lf x.1 x.2.1=some y):Con Tryz.prog 65 ⟨[.str,(.int .i64)],[(false,(.int .i64)),(false,(.int .i64))],g⟩ :=
 conT (nmf:=nmz27) (sml:=qnt) (hxl:=qok) (st:=stz27) (hd:=hdz27) 20 mixed ttOK ftOK hsm hxsz27 cal65 rfl rfl (by kernel_rfl) (fun x=>by kernel_rfl) ndz27 okz27 fun x y hx hy=>by
   obtain⟨lf,h⟩:=hg x y hx hy
   exact⟨lf,(runz27 g lf x.1 x.2.1).trans h⟩
def nmz28:Nat->Option Nm:=fun k=>cond (Nat.beq k 3) (some ⟨[0,1,5,6],[],[],[],[],0,0,false⟩) (none)
def stz28:Nat->Bool:=fun k=>cond (Nat.beq k 3) true (false)
def hdz28:=stz28
abbrev Rtz28:Type:=ByteArray × Unit
def qls:List (Nat × Sm):=[(95,qou)]
def qpl:List (Nat × Hx):=[]
def clz28 (R:Type) (lf:Nat):ClK R:=qah Tryz.prog ttT.get ftT.get (nm1 66 nmz28) (smL qls) (hxL qpl) lf 20 R
abbrev idz28:Nat:=66
def qfw (x1:ByteArray) (x2:Int) (p:Int):NRes:=(NRes.mk (.node (some (IV.str x1)) (.node (some (IV.int .i64 x2)) .leaf (.node (some (IV.arr 0)) .leaf .leaf)) (.node none .leaf (.node (some (IV.int .i64 p)) .leaf .leaf))) (IS.mk (.node (some (IObj.arr TC.str S.signs)) .leaf .leaf) 1) [] 0)
def qtv (lf:Nat) (x1:ByteArray) (x2:Int) (L3:Int->Option Rtz28):Option Rtz28:=(L3 (Int.ofNat 0))
def qoq (lf:Nat) (x1:ByteArray) (x2:Int) (L3:Int->Option Rtz28) (p:Int):Option Rtz28:=(cond (iltI p (Int.ofNat 22)) (match (jget S.signs p) with|.none  => none|.some v0=>(match (GetElem?.getElem? S.signs (Int.toNat p)) with|.none  => none|.some v1=>(cond (Bool.not (iltI (Int.ofNat (ByteArray.size x1)) (IntKind.i64.wrap (Int.add x2 (Int.ofNat (ByteArray.size v1)))))) (cond (lchk x2 (IntKind.i64.wrap (Int.add x2 (Int.ofNat (ByteArray.size v1)))) (Int.ofNat (ByteArray.size x1)) (Int.ofNat (ByteArray.size x1))) (match (jget S.signs p) with|.none  => none|.some v2=>(match (GetElem?.getElem? S.signs (Int.toNat p)) with|.none  => none|.some v3=>(cond (keqS (ByteArray.extract x1 (Int.toNat x2) (Int.toNat (IntKind.i64.wrap (Int.add x2 (Int.ofNat (ByteArray.size v1)))))) v3) (match (jget S.signs p) with|.none  => none|.some v4=>(match (GetElem?.getElem? S.signs (Int.toNat p)) with|.none  => none|.some v5=>(some (v5,())))) (L3 (IntKind.i64.wrap (Int.add p (Int.ofNat 1))))))) none) (L3 (IntKind.i64.wrap (Int.add p (Int.ofNat 1))))))) (some ((S.lit []),())))
abbrev gz28:Type:=ElA [.str,(.int .i64)]->Option Rtz28
abbrev sz28 (g:gz28):Sm:=⟨[.str,(.int .i64)],[(false,.str)],g⟩
abbrev Ez28 (g:gz28) (J:JT Rtz28) (lf:Nat) (x1:ByteArray) (x2:Int):=qao Tryz.prog ttT.get nmz28 fi66.nt (clz28 _ lf) lf stz28 J fi66.body [] (argGo (argV [.str,(.int .i64)] (x1,x2,())) 0 .leaf) S0 [] (lastK ttT.get fi66 (sz28 g))
abbrev Bz28 (g:gz28) (J:JT Rtz28) (lf k:Nat) (ms:List Nat) (q:NRes):=qaz Tryz.prog ttT.get nmz28 fi66.nt (clz28 _ lf) lf stz28 J k fi66.body [] ms q (lastK ttT.get fi66 (sz28 g))
theorem inz28 (g:gz28) (J:JT Rtz28) (lf:Nat) (x1:ByteArray) (x2:Int):Ez28 g J lf x1 x2=qtv lf x1 x2 (fun q=>J 3 [lf] (qfw x1 x2 q)):=by kernel_rfl
theorem stz28_3 (g:gz28) (J:JT Rtz28) (lf:Nat) (x1:ByteArray) (x2:Int) (m1:Nat) (p:Int):Bz28 g J lf 3 [m1] (qfw x1 x2 p)=qoq lf x1 x2 (fun q=>J 3 [m1] (qfw x1 x2 q)) p:=by kernel_rfl
theorem ndz28:(regs fi66.body).Nodup:=by decide +kernel
theorem okz28:okC nmz28 stz28 hdz28 fi66.body none=true:=by kernel_rfl
def Az28 (g:gz28) (lf:Nat):JT Rtz28:=atN Tryz.prog ttT.get nmz28 fi66 (sz28 g) (clz28 _ lf) lf hdz28
def qkk (lf:Nat) (x1:ByteArray) (x2:Int):Nat->(Int)->Option Rtz28:=rounds fun K p=>qoq lf x1 x2 K p
theorem qv8 (g:gz28) (lf:Nat) (x1:ByteArray) (x2:Int):∀(n:Nat) (p:Int),Az28 g lf 3 [n] (qfw x1 x2 p)=qkk lf x1 x2 n p
 | 0,p=>qa2 3 [0] rfl _
 | n+1,p=>by
   have ih:=qv8 g lf x1 x2 n
   refine(qav (qam 20 _) ndz28 okz28 3 [n+1] [n] rfl _).trans ((stz28_3 g (Az28 g lf) lf x1 x2 n p).trans ?_)
   rw[(show (fun q=>Az28 g lf 3 [n] (qfw x1 x2 q))=(fun q=>qkk lf x1 x2 n q) from funext ih)]
   rfl
def Fz28 (lf:Nat) (x1:ByteArray) (x2:Int):Option Rtz28:=qtv lf x1 x2 (fun q=>qkk lf x1 x2 lf q)
theorem runz28 (g:gz28) (lf:Nat) (x1:ByteArray) (x2:Int):Ez28 g (Az28 g lf) lf x1 x2=Fz28 lf x1 x2:=by
   refine(inz28 g (Az28 g lf) lf x1 x2).trans ?_
   rw[(show (fun q=>Az28 g lf 3 [lf] (qfw x1 x2 q))=(fun q=>qkk lf x1 x2 lf q) from funext fun q=>qv8 g lf x1 x2 lf q)]
   rfl
theorem hxsz28:HxsOK Tryz.prog qpl:=trivial
theorem mkz28 {g:gz28} (hsm:SmOK Tryz.prog qls) (hg:∀(x:ElA [.str,(.int .i64)]) (y:Rtz28),WfA [.str,(.int .i64)] x->g x=some y->∃lf,Fz28 lf x.1 x.2.1=some y):Con Tryz.prog 66 ⟨[.str,(.int .i64)],[(false,.str)],g⟩ :=
 conT (nmf:=nmz28) (sml:=qls) (hxl:=qpl) (st:=stz28) (hd:=hdz28) 20 mixed ttOK ftOK hsm hxsz28 cal66 rfl rfl (by kernel_rfl) (fun x=>by kernel_rfl) ndz28 okz28 fun x y hx hy=>by
   obtain⟨lf,h⟩:=hg x y hx hy
   exact⟨lf,(runz28 g lf x.1 x.2.1).trans h⟩
def nmz29:Nat->Option Nm:=fun k=>cond (Nat.beq k 5) (some ⟨[0,2,3,4,5,6],[],[(3,0,cToken),(3,1,cToken)],[],[],0,0,false⟩) (cond (Nat.beq k 10) (some ⟨[0,2,3,4,5,6,7],[],[],[],[],0,0,false⟩) (cond (Nat.beq k 18) (some ⟨[0,2,3,4,5,6,7],[],[],[],[],0,0,false⟩) (cond (Nat.beq k 21) (some ⟨[0,2,3,4,5,6,7,10],[],[],[],[],0,0,false⟩) (none))))
def stz29:Nat->Bool:=fun k=>cond (Nat.beq k 5) true (cond (Nat.beq k 10) true (cond (Nat.beq k 18) true (cond (Nat.beq k 21) true (false))))
def hdz29:Nat->Bool:=fun k=>cond (Nat.beq k 5) true (false)
abbrev Rtz29:Type:=qfj × Unit
def qpr:List (Nat × Sm):=[(65,spz27),(66,spz28),(68,spz6),(69,spz9),(67,spz26)]
def qpo:List (Nat × Hx):=[]
def clz29 (R:Type) (lf:Nat):ClK R:=qah Tryz.prog ttT.get ftT.get (nm1 39 nmz29) (smL qpr) (hxL qpo) lf 20 R
abbrev idz29:Nat:=39
def qbr (x1:ByteArray) (p:Int × Int × Int × (List qab) × (List qab)):NRes:=(NRes.mk (.node (some (IV.str x1)) (.node none (.node (some (IV.ptr 1 0)) .leaf .leaf) (.node (some (IV.int .i64 p.1)) .leaf .leaf)) (.node (some (IV.ptr 0 0)) (.node (some (IV.int .i64 p.2.1)) .leaf .leaf) (.node (some (IV.int .i64 p.2.2.1)) .leaf .leaf))) (IS.mk (.node (some (IObj.row (List.cons IV.nilsl (List.cons IV.nilsl (List.cons (IV.int .i64 (Int.ofNat 0)) (List.cons (IV.int .i64 (Int.ofNat 0)) (List.cons (IV.int .i64 (Int.ofNat 0)) []))))))) (.node (some (IObj.row (List.cons (IV.arr 2) (List.cons (IV.arr 3) (List.cons (IV.int .i64 (Int.ofNat 0)) (List.cons (IV.int .i64 (Int.ofNat 0)) (List.cons (IV.int .i64 (Int.ofNat 0)) []))))))) (.node (some (IObj.arr cToken p.2.2.2.1)) .leaf .leaf) .leaf) (.node (some (IObj.arr cToken p.2.2.2.2)) .leaf .leaf)) 4) [] 0)
def qje (x1:ByteArray) (p:Int × Int × Int × Int × Int × (List qab) × (List qab)):NRes:=(NRes.mk (.node (some (IV.str x1)) (.node none (.node (some (IV.ptr 1 0)) (.node (some (IV.ptr 2 0)) .leaf .leaf) .leaf) (.node (some (IV.int .i64 p.1)) .leaf .leaf)) (.node (some (IV.ptr 0 0)) (.node (some (IV.int .i64 p.2.1)) .leaf .leaf) (.node (some (IV.int .i64 p.2.2.1)) .leaf .leaf))) (IS.mk (.node (some (IObj.row (List.cons IV.nilsl (List.cons IV.nilsl (List.cons (IV.int .i64 (Int.ofNat 0)) (List.cons (IV.int .i64 (Int.ofNat 0)) (List.cons (IV.int .i64 (Int.ofNat 0)) []))))))) (.node (some (IObj.row (List.cons (IV.arr 3) (List.cons (IV.arr 4) (List.cons (IV.int .i64 (Int.ofNat 0)) (List.cons (IV.int .i64 (Int.ofNat 0)) (List.cons (IV.int .i64 (Int.ofNat 0)) []))))))) (.node (some (IObj.arr cToken p.2.2.2.2.2.2)) .leaf .leaf) .leaf) (.node (some (IObj.row (List.cons (IV.int .i64 p.2.2.2.1) (List.cons (IV.int .i64 p.2.2.2.2.1) [])))) (.node (some (IObj.arr cToken p.2.2.2.2.2.1)) .leaf .leaf) .leaf)) 5) [] 0)
def qic (x1:ByteArray) (p:Int × Int × Int × Int × Int × (List qab) × (List qab)):NRes:=(NRes.mk (.node (some (IV.str x1)) (.node none (.node (some (IV.ptr 1 0)) (.node (some (IV.ptr 2 0)) .leaf .leaf) .leaf) (.node (some (IV.int .i64 p.2.1)) .leaf .leaf)) (.node (some (IV.ptr 0 0)) (.node (some (IV.int .i64 p.1)) .leaf .leaf) (.node (some (IV.int .i64 p.2.2.1)) .leaf .leaf))) (IS.mk (.node (some (IObj.row (List.cons IV.nilsl (List.cons IV.nilsl (List.cons (IV.int .i64 (Int.ofNat 0)) (List.cons (IV.int .i64 (Int.ofNat 0)) (List.cons (IV.int .i64 (Int.ofNat 0)) []))))))) (.node (some (IObj.row (List.cons (IV.arr 3) (List.cons (IV.arr 4) (List.cons (IV.int .i64 (Int.ofNat 0)) (List.cons (IV.int .i64 (Int.ofNat 0)) (List.cons (IV.int .i64 (Int.ofNat 0)) []))))))) (.node (some (IObj.arr cToken p.2.2.2.2.2.2)) .leaf .leaf) .leaf) (.node (some (IObj.row (List.cons (IV.int .i64 p.2.2.2.1) (List.cons (IV.int .i64 p.2.2.2.2.1) [])))) (.node (some (IObj.arr cToken p.2.2.2.2.2.1)) .leaf .leaf) .leaf)) 5) [] 0)
def qi8 (x1:ByteArray) (p:(List qab) × Int × Int × Int × Int × Int × ByteArray × (List qab)):NRes:=(NRes.mk (.node (some (IV.str x1)) (.node none (.node (some (IV.ptr 1 0)) (.node (some (IV.ptr 2 0)) .leaf .leaf) .leaf) (.node (some (IV.int .i64 p.2.1)) .leaf .leaf)) (.node (some (IV.ptr 0 0)) (.node (some (IV.int .i64 p.2.2.1)) .leaf .leaf) (.node (some (IV.int .i64 p.2.2.2.1)) (.node (some (IV.str p.2.2.2.2.2.2.1)) .leaf .leaf) .leaf))) (IS.mk (.node (some (IObj.row (List.cons IV.nilsl (List.cons IV.nilsl (List.cons (IV.int .i64 (Int.ofNat 0)) (List.cons (IV.int .i64 (Int.ofNat 0)) (List.cons (IV.int .i64 (Int.ofNat 0)) []))))))) (.node (some (IObj.row (List.cons (IV.arr 3) (List.cons (IV.arr 4) (List.cons (IV.int .i64 (Int.ofNat 0)) (List.cons (IV.int .i64 (Int.ofNat 0)) (List.cons (IV.int .i64 (Int.ofNat 0)) []))))))) (.node (some (IObj.arr cToken p.2.2.2.2.2.2.2)) .leaf .leaf) .leaf) (.node (some (IObj.row (List.cons (IV.int .i64 p.2.2.2.2.1) (List.cons (IV.int .i64 p.2.2.2.2.2.1) [])))) (.node (some (IObj.arr cToken p.1)) .leaf .leaf) .leaf)) 5) [] 0)
def qr9 (lf:Nat) (x1:ByteArray) (L5:(Int × Int × Int × (List qab) × (List qab))->Option Rtz29):Option Rtz29:=(L5 ((Int.ofNat 0),(Int.ofNat 1),(Int.ofNat 0),[],[]))
def qc0 (lf:Nat) (x1:ByteArray) (L10:(Int × Int × Int × Int × Int × (List qab) × (List qab))->Option Rtz29) (p:Int × Int × Int × (List qab) × (List qab)):Option Rtz29:=(cond (iltI p.2.2.1 (Int.ofNat (ByteArray.size x1))) (match (jget (qaa x1) p.2.2.1) with|.none  => none|.some v0=>(cond (ieqI v0 (Int.ofNat 10)) (L10 ((IntKind.i64.wrap (Int.add p.2.2.1 (Int.ofNat 1))),(IntKind.i64.wrap (Int.add p.2.1 (Int.ofNat 1))),p.2.2.1,p.2.1,(IntKind.i64.wrap (Int.add (IntKind.i64.wrap (Int.sub p.2.2.1 p.1)) (Int.ofNat 1))),p.2.2.2.1,p.2.2.2.2)) (L10 (p.1,p.2.1,p.2.2.1,p.2.1,(IntKind.i64.wrap (Int.add (IntKind.i64.wrap (Int.sub p.2.2.1 p.1)) (Int.ofNat 1))),p.2.2.2.1,p.2.2.2.2)))) (some ((p.2.2.2.2,(p.2.2.2.1,(((Int.ofNat 0),(Int.ofNat 0)),(Int.ofNat 0)))),())))
def qdm (lf:Nat) (x1:ByteArray) (L5:(Int × Int × Int × (List qab) × (List qab))->Option Rtz29) (L18:(Int × Int × Int × Int × Int × (List qab) × (List qab))->Option Rtz29) (p:Int × Int × Int × Int × Int × (List qab) × (List qab)):Option Rtz29:=(match (jget (qaa x1) p.2.2.1) with|.none  => none|.some v0=>(cond (ieqI v0 (Int.ofNat 10)) (L5 (p.1,p.2.1,(IntKind.i64.wrap (Int.add p.2.2.1 (Int.ofNat 1))),p.2.2.2.2.2.1,p.2.2.2.2.2.2)) (match (jget (qaa x1) p.2.2.1) with|.none  => none|.some v24=>(cond (ieqI v24 (Int.ofNat 32)) (L5 (p.1,p.2.1,(IntKind.i64.wrap (Int.add p.2.2.1 (Int.ofNat 1))),p.2.2.2.2.2.1,p.2.2.2.2.2.2)) (match (jget (qaa x1) p.2.2.1) with|.none  => none|.some v25=>(cond (ieqI v25 (Int.ofNat 45)) (cond (iltI (IntKind.i64.wrap (Int.add p.2.2.1 (Int.ofNat 1))) (Int.ofNat (ByteArray.size x1))) (match (jget (qaa x1) (IntKind.i64.wrap (Int.add p.2.2.1 (Int.ofNat 1)))) with|.none  => none|.some v26=>(cond (ieqI v26 (Int.ofNat 45)) (match (cond (S.two x1 p.2.2.1) (some ((S.note x1 (Int.toNat p.2.2.1)).1,((S.note x1 (Int.toNat p.2.2.1)).2,()))) none) with|.none  => none|.some v27=>(cond (iltI v27.1 (Int.ofNat 0)) (some (([],([],((p.2.1,(IntKind.i64.wrap (Int.add (IntKind.i64.wrap (Int.sub v27.2.1 p.1)) (Int.ofNat 1)))),(Int.ofNat 2)))),())) (cond (lchk p.2.2.1 (IntKind.i64.wrap (Int.add p.2.2.1 v27.1)) (Int.ofNat (ByteArray.size x1)) (Int.ofNat (ByteArray.size x1))) (cond (Nat.ble (Nat.mul (Nat.add (List.length p.2.2.2.2.2.1) 1) 40) 140737488355328) (L5 (p.1,p.2.1,(IntKind.i64.wrap (Int.add p.2.2.1 v27.1)),(List.append p.2.2.2.2.2.1 (List.cons ((Int.ofNat 6),((ByteArray.extract x1 (Int.toNat p.2.2.1) (Int.toNat (IntKind.i64.wrap (Int.add p.2.2.1 v27.1)))),(p.2.2.2.1,p.2.2.2.2.1))) [])),p.2.2.2.2.2.2)) none) none))) (L18 (p.2.1,p.1,p.2.2.1,p.2.2.2.1,p.2.2.2.2.1,p.2.2.2.2.2.1,p.2.2.2.2.2.2)))) (L18 (p.2.1,p.1,p.2.2.1,p.2.2.2.1,p.2.2.2.2.1,p.2.2.2.2.2.1,p.2.2.2.2.2.2))) (L18 (p.2.1,p.1,p.2.2.1,p.2.2.2.1,p.2.2.2.2.1,p.2.2.2.2.2.1,p.2.2.2.2.2.2))))))))
def qhb (lf:Nat) (x1:ByteArray) (L21:((List qab) × Int × Int × Int × Int × Int × ByteArray × (List qab))->Option Rtz29) (p:Int × Int × Int × Int × Int × (List qab) × (List qab)):Option Rtz29:=(match (cond (Bool.and (S.fits x1) (Bool.and (Bool.not (iltI p.2.2.1 (Int.ofNat 0))) (Bool.not (iltI (Int.ofNat (ByteArray.size x1)) p.2.2.1)))) (some ((S.signL (List.drop (Int.toNat p.2.2.1) (qaa x1))),())) none) with|.none  => none|.some v0=>(match (jget (qaa x1) p.2.2.1) with|.none  => none|.some v1=>(cond (S.isPart v1) (match (cond (Bool.and (Bool.not (iltI p.2.2.1 (Int.ofNat 0))) (Bool.not (iltI (Int.ofNat (ByteArray.size x1)) p.2.2.1))) (some ((Int.ofNat (S.runL (List.drop (Int.toNat p.2.2.1) (qaa x1)))),())) none) with|.none  => none|.some v2=>(cond (lchk p.2.2.1 (IntKind.i64.wrap (Int.add p.2.2.1 v2.1)) (Int.ofNat (ByteArray.size x1)) (Int.ofNat (ByteArray.size x1))) (L21 (p.2.2.2.2.2.1,p.2.1,p.1,p.2.2.1,p.2.2.2.1,p.2.2.2.2.1,(ByteArray.extract x1 (Int.toNat p.2.2.1) (Int.toNat (IntKind.i64.wrap (Int.add p.2.2.1 v2.1)))),p.2.2.2.2.2.2)) none)) (L21 (p.2.2.2.2.2.1,p.2.1,p.1,p.2.2.1,p.2.2.2.1,p.2.2.2.2.1,v0.1,p.2.2.2.2.2.2)))))
def qht (lf:Nat) (x1:ByteArray) (L5:(Int × Int × Int × (List qab) × (List qab))->Option Rtz29) (p:(List qab) × Int × Int × Int × Int × Int × ByteArray × (List qab)):Option Rtz29:=(cond (Bool.not (ieqI (S.shape p.2.2.2.2.2.2.1).2 (Int.ofNat 0))) (some (([],([],((p.2.2.2.2.1,p.2.2.2.2.2.1),(S.shape p.2.2.2.2.2.2.1).2))),())) (cond (Nat.ble (Nat.mul (Nat.add (List.length p.2.2.2.2.2.2.2) 1) 40) 140737488355328) (L5 (p.2.1,p.2.2.1,(IntKind.i64.wrap (Int.add p.2.2.2.1 (Int.ofNat (ByteArray.size p.2.2.2.2.2.2.1)))),p.1,(List.append p.2.2.2.2.2.2.2 (List.cons ((S.shape p.2.2.2.2.2.2.1).1,(p.2.2.2.2.2.2.1,(p.2.2.2.2.1,p.2.2.2.2.2.1))) [])))) none))
abbrev gz29:Type:=ElA [.str]->Option Rtz29
abbrev sz29 (g:gz29):Sm:=⟨[.str],[(false,qf0)],g⟩
abbrev Ez29 (g:gz29) (J:JT Rtz29) (lf:Nat) (x1:ByteArray):=qao Tryz.prog ttT.get nmz29 fi39.nt (clz29 _ lf) lf stz29 J fi39.body [] (argGo (argV [.str] (x1,())) 0 .leaf) S0 [] (lastK ttT.get fi39 (sz29 g))
abbrev Bz29 (g:gz29) (J:JT Rtz29) (lf k:Nat) (ms:List Nat) (q:NRes):=qaz Tryz.prog ttT.get nmz29 fi39.nt (clz29 _ lf) lf stz29 J k fi39.body [] ms q (lastK ttT.get fi39 (sz29 g))
theorem inz29 (g:gz29) (J:JT Rtz29) (lf:Nat) (x1:ByteArray):Ez29 g J lf x1=qr9 lf x1 (fun q=>J 5 [lf] (qbr x1 q)):=by kernel_rfl
theorem stz29_5 (g:gz29) (J:JT Rtz29) (lf:Nat) (x1:ByteArray) (m1:Nat) (p:Int × Int × Int × (List qab) × (List qab)):Bz29 g J lf 5 [m1] (qbr x1 p)=qc0 lf x1 (fun q=>J 10 [m1] (qje x1 q)) p:=by kernel_rfl
theorem q49 (g:gz29) (J:JT Rtz29) (lf:Nat) (x1:ByteArray) (m1:Nat) (p:Int × Int × Int × Int × Int × (List qab) × (List qab)):Bz29 g J lf 10 [m1] (qje x1 p)=qdm lf x1 (fun q=>J 5 [m1] (qbr x1 q)) (fun q=>J 18 [m1] (qic x1 q)) p:=by kernel_rfl
theorem q2m (g:gz29) (J:JT Rtz29) (lf:Nat) (x1:ByteArray) (m1:Nat) (p:Int × Int × Int × Int × Int × (List qab) × (List qab)):Bz29 g J lf 18 [m1] (qic x1 p)=qhb lf x1 (fun q=>J 21 [m1] (qi8 x1 q)) p:=by kernel_rfl
theorem q04 (g:gz29) (J:JT Rtz29) (lf:Nat) (x1:ByteArray) (m1:Nat) (p:(List qab) × Int × Int × Int × Int × Int × ByteArray × (List qab)):Bz29 g J lf 21 [m1] (qi8 x1 p)=qht lf x1 (fun q=>J 5 [m1] (qbr x1 q)) p:=by kernel_rfl
theorem ndz29:(regs fi39.body).Nodup:=by decide +kernel
theorem okz29:okC nmz29 stz29 hdz29 fi39.body none=true:=by kernel_rfl
def Az29 (g:gz29) (lf:Nat):JT Rtz29:=atN Tryz.prog ttT.get nmz29 fi39 (sz29 g) (clz29 _ lf) lf hdz29
def qf7 (lf:Nat) (x1:ByteArray) (K5:(Int × Int × Int × (List qab) × (List qab))->Option Rtz29) (p:(List qab) × Int × Int × Int × Int × Int × ByteArray × (List qab)):Option Rtz29:=qht lf x1 K5 p
theorem q0b (g:gz29) (lf:Nat) (x1:ByteArray) (m1:Nat) (p:(List qab) × Int × Int × Int × Int × Int × ByteArray × (List qab)):Az29 g lf 21 [m1] (qi8 x1 p)=qf7 lf x1 (fun q=>Az29 g lf 5 [m1] (qbr x1 q)) p:=by
   refine(qav (qam 20 _) ndz29 okz29 21 [m1] [m1] rfl _).trans ((q04 g (Az29 g lf) lf x1 m1 p).trans ?_)
   rfl
def qd2 (lf:Nat) (x1:ByteArray) (K5:(Int × Int × Int × (List qab) × (List qab))->Option Rtz29) (p:Int × Int × Int × Int × Int × (List qab) × (List qab)):Option Rtz29:=qhb lf x1 (fun q=>qf7 lf x1 K5 q) p
theorem q19 (g:gz29) (lf:Nat) (x1:ByteArray) (m1:Nat) (p:Int × Int × Int × Int × Int × (List qab) × (List qab)):Az29 g lf 18 [m1] (qic x1 p)=qd2 lf x1 (fun q=>Az29 g lf 5 [m1] (qbr x1 q)) p:=by
   refine(qav (qam 20 _) ndz29 okz29 18 [m1] [m1] rfl _).trans ((q2m g (Az29 g lf) lf x1 m1 p).trans ?_)
   rw[(show (fun q=>Az29 g lf 21 [m1] (qi8 x1 q))=(fun q=>qf7 lf x1 (fun q=>Az29 g lf 5 [m1] (qbr x1 q)) q) from funext fun q=>q0b g lf x1 m1 q)]
   rfl
def qbx (lf:Nat) (x1:ByteArray) (K5:(Int × Int × Int × (List qab) × (List qab))->Option Rtz29) (p:Int × Int × Int × Int × Int × (List qab) × (List qab)):Option Rtz29:=qdm lf x1 K5 (fun q=>qd2 lf x1 K5 q) p
theorem q1q (g:gz29) (lf:Nat) (x1:ByteArray) (m1:Nat) (p:Int × Int × Int × Int × Int × (List qab) × (List qab)):Az29 g lf 10 [m1] (qje x1 p)=qbx lf x1 (fun q=>Az29 g lf 5 [m1] (qbr x1 q)) p:=by
   refine(qav (qam 20 _) ndz29 okz29 10 [m1] [m1] rfl _).trans ((q49 g (Az29 g lf) lf x1 m1 p).trans ?_)
   rw[(show (fun q=>Az29 g lf 18 [m1] (qic x1 q))=(fun q=>qd2 lf x1 (fun q=>Az29 g lf 5 [m1] (qbr x1 q)) q) from funext fun q=>q19 g lf x1 m1 q)]
   rfl
def qcb (lf:Nat) (x1:ByteArray):Nat->(Int × Int × Int × (List qab) × (List qab))->Option Rtz29:=rounds fun K p=>qc0 lf x1 (fun q=>qbx lf x1 K q) p
theorem qtq (g:gz29) (lf:Nat) (x1:ByteArray):∀(n:Nat) (p:Int × Int × Int × (List qab) × (List qab)),Az29 g lf 5 [n] (qbr x1 p)=qcb lf x1 n p
 | 0,p=>qa2 5 [0] rfl _
 | n+1,p=>by
   have ih:=qtq g lf x1 n
   refine(qav (qam 20 _) ndz29 okz29 5 [n+1] [n] rfl _).trans ((stz29_5 g (Az29 g lf) lf x1 n p).trans ?_)
   rw[(show (fun q=>Az29 g lf 10 [n] (qje x1 q))=(fun q=>qbx lf x1 (fun q=>Az29 g lf 5 [n] (qbr x1 q)) q) from funext fun q=>q1q g lf x1 n q),(show (fun q=>Az29 g lf 5 [n] (qbr x1 q))=(fun q=>qcb lf x1 n q) from funext ih)]
   rfl
def Fz29 (lf:Nat) (x1:ByteArray):Option Rtz29:=qr9 lf x1 (fun q=>qcb lf x1 lf q)
theorem runz29 (g:gz29) (lf:Nat) (x1:ByteArray):Ez29 g (Az29 g lf) lf x1=Fz29 lf x1:=by
   refine(inz29 g (Az29 g lf) lf x1).trans ?_
   rw[(show (fun q=>Az29 g lf 5 [lf] (qbr x1 q))=(fun q=>qcb lf x1 lf q) from funext fun q=>qtq g lf x1 lf q)]
   rfl
theorem hxsz29:HxsOK Tryz.prog qpo:=trivial
theorem mkz29 {g:gz29} (hsm:SmOK Tryz.prog qpr) (hg:∀(x:ElA [.str]) (y:Rtz29),WfA [.str] x->g x=some y->∃lf,Fz29 lf x.1=some y):Con Tryz.prog 39 ⟨[.str],[(false,qf0)],g⟩ :=
 conT (nmf:=nmz29) (sml:=qpr) (hxl:=qpo) (st:=stz29) (hd:=hdz29) 20 mixed ttOK ftOK hsm hxsz29 cal39 rfl rfl (by kernel_rfl) (fun x=>by kernel_rfl) ndz29 okz29 fun x y hx hy=>by
   obtain⟨lf,h⟩:=hg x y hx hy
   exact⟨lf,(runz29 g lf x.1).trans h⟩
def nmz30:Nat->Option Nm:=fun k=>none
def stz30:Nat->Bool:=fun k=>false
def hdz30:=stz30
abbrev Rtz30:Type:=qfj × Unit
def qoe:List (Nat × Sm):=[(39,spz29)]
def qoc:List (Nat × Hx):=[]
def clz30 (R:Type) (lf:Nat):ClK R:=qah Tryz.prog ttT.get ftT.get (nm1 10 nmz30) (smL qoe) (hxL qoc) lf 20 R
abbrev idz30:Nat:=10
def qpu (lf:Nat) (x1:ByteArray):Option Rtz30:=(cond (iltI (Int.ofNat 20000) (Int.ofNat (ByteArray.size x1))) (some (([],([],(((Int.ofNat 0),(Int.ofNat 0)),(Int.ofNat 3)))),())) (match (cond (S.fits x1) (some ((S.readG x1),())) none) with|.none  => none|.some v0=>(cond (ieqI v0.1.2.2.2 (Int.ofNat 0)) (cond (iltI (Int.ofNat 6000) (Int.ofNat (List.length v0.1.1))) (some (([],([],(((Int.ofNat 0),(Int.ofNat 0)),(Int.ofNat 3)))),())) (some ((v0.1.1,(v0.1.2.1,((v0.1.2.2.1.1,v0.1.2.2.1.2),v0.1.2.2.2))),()))) (some ((v0.1.1,(v0.1.2.1,((v0.1.2.2.1.1,v0.1.2.2.1.2),v0.1.2.2.2))),())))))
abbrev gz30:Type:=ElA [.str]->Option Rtz30
abbrev sz30 (g:gz30):Sm:=⟨[.str],[(false,qf0)],g⟩
abbrev Ez30 (g:gz30) (J:JT Rtz30) (lf:Nat) (x1:ByteArray):=qao Tryz.prog ttT.get nmz30 fi10.nt (clz30 _ lf) lf stz30 J fi10.body [] (argGo (argV [.str] (x1,())) 0 .leaf) S0 [] (lastK ttT.get fi10 (sz30 g))
theorem inz30 (g:gz30) (J:JT Rtz30) (lf:Nat) (x1:ByteArray):Ez30 g J lf x1=qpu lf x1:=by kernel_rfl
theorem ndz30:(regs fi10.body).Nodup:=by decide +kernel
theorem okz30:okC nmz30 stz30 hdz30 fi10.body none=true:=by kernel_rfl
def Az30 (g:gz30) (lf:Nat):JT Rtz30:=atN Tryz.prog ttT.get nmz30 fi10 (sz30 g) (clz30 _ lf) lf hdz30
def Fz30 (lf:Nat) (x1:ByteArray):Option Rtz30:=qpu lf x1
theorem runz30 (g:gz30) (lf:Nat) (x1:ByteArray):Ez30 g (Az30 g lf) lf x1=Fz30 lf x1:=by
   refine(inz30 g (Az30 g lf) lf x1).trans ?_
   rfl
theorem hxsz30:HxsOK Tryz.prog qoc:=trivial
theorem mkz30 {g:gz30} (hsm:SmOK Tryz.prog qoe) (hg:∀(x:ElA [.str]) (y:Rtz30),WfA [.str] x->g x=some y->∃lf,Fz30 lf x.1=some y):Con Tryz.prog 10 ⟨[.str],[(false,qf0)],g⟩ :=
 conT (nmf:=nmz30) (sml:=qoe) (hxl:=qoc) (st:=stz30) (hd:=hdz30) 20 mixed ttOK ftOK hsm hxsz30 cal10 rfl rfl (by kernel_rfl) (fun x=>by kernel_rfl) ndz30 okz30 fun x y hx hy=>by
   obtain⟨lf,h⟩:=hg x y hx hy
   exact⟨lf,(runz30 g lf x.1).trans h⟩
theorem q5p:Con Tryz.prog 95 qou :=
 conK (nm:=fun _ _=>none) (sm:=smL []) (hx:=hxL []) mixed ttOK ftOK (qby trivial) (qb4 trivial) cal95 fun x y hx h=>⟨20,1000,Eq.trans (show qah Tryz.prog ttT.get ftT.get (fun _ _=>none) (smL []) (hxL []) 1000 20 _ (.fn 95) [] S0 (runR qou)=some (S.signs,()) by kernel_rfl) h⟩
theorem Fz26_eq (lf:Nat) (b:Int):Fz26 lf b=some (S.isPart b,()):=by
 have e2:∀x y:Int,decide (y<=x)=!decide (x<y):=fun x y=>by
   by_cases h:x<y
   · rw[decide_eq_true h,decide_eq_false (by omega)];rfl
   · rw[decide_eq_false h,decide_eq_true (by omega)];rfl
 simp only[Fz26,qnk,S.isPart,S.isSmall,S.isCap,S.isDig,qa0,qa6,e2,show (Int.ofNat 97:Int)=97 from rfl,show (Int.ofNat 122:Int)=122 from rfl,show (Int.ofNat 65:Int)=65 from rfl,show (Int.ofNat 90:Int)=90 from rfl,show (Int.ofNat 48:Int)=48 from rfl,show (Int.ofNat 57:Int)=57 from rfl,show (Int.ofNat 95:Int)=95 from rfl]
 cases decide (b<97)<;>cases decide (122<b)<;>cases decide (b<65)<;>cases decide (90<b)<;>cases decide (b<48)<;>cases decide (57<b)<;>cases decide (b=95)<;>rfl
theorem qxj:Con Tryz.prog idz26 spz26:=mkz26 trivial fun x y hx h=>⟨0,(Fz26_eq 0 x.1).trans h⟩
theorem qxi (s:ByteArray) (a:Nat) (hs:s.size<=9223372036854775807):∀(rest:List Int) (n m:Nat),(qaa s).drop (a+n)=rest->a+n<=s.size->rest.length<m ->
   rounds (fun K p=>qdw LF s (Int.ofNat a) K p) m (Int.ofNat n)=some (cond (S.noteGo rest n).1 (Int.ofNat (S.noteGo rest n).2,0,()) (-1,Int.ofNat (a+(S.noteGo rest n).2),()))
 | rest,n,0,_,_,h=>by omega
 | [],n,m+1,hd,hn,_=>by
   show qdw LF s (Int.ofNat a) _ _=_
   have hl:s.size<=a+n:=by rw[<- qae s];exact List.drop_eq_nil_iff.1 hd
   have w:IntKind.i64.wrap (Int.add (Int.ofNat a) (Int.ofNat n))=Int.ofNat (a+n):=qa3 (n:=a+n) (by omega)
   simp only[qdw,w,qbl]
   rw[decide_eq_false (by omega)]
   rfl
 | b::rest,n,m+1,hd,hn,hm=>by
   show qdw LF s (Int.ofNat a) _ _=_
   have hl:a+n<s.size:=by
     rw[<- qae s]
     by_cases h:a+n<(qaa s).length
     · exact h
     · rw[List.drop_eq_nil_of_le (by omega)] at hd;cases hd
   have hg:(qaa s)[a+n]?=some b:=by
     have:=congrArg (fun l=>l[0]?) hd
     simpa [List.getElem?_drop] using this
   have hd':(qaa s).drop (a+(n+1))=rest:=by
     rw[<- Nat.add_assoc,<- List.drop_drop,hd];rfl
   have w:IntKind.i64.wrap (Int.add (Int.ofNat a) (Int.ofNat n))=Int.ofNat (a+n):=qa3 (n:=a+n) (by omega)
   simp only[qdw,w,ilt_t (show Int.ofNat (a+n)<Int.ofNat s.size by show ((a+n:Nat):Int)<(s.size:Int);omega),show jget (qaa s) (Int.ofNat (a+n))=some b from qbb.trans hg]
   rw[cond_true]
   unfold S.noteGo
   by_cases c1:b=10
   · rw[ieq_t (show b=Int.ofNat 10 from c1),if_pos c1];rfl
   rw[ieq_f (show ¬b=Int.ofNat 10 from c1),if_neg c1,Bool.not_false,cond_true]
   by_cases c2:b<32
   · rw[ilt_t (show b<Int.ofNat 32 from c2),if_pos (.inl c2)];rfl
   rw[ilt_f (show ¬b<Int.ofNat 32 from c2),cond_false]
   by_cases c3:126<b
   · rw[ilt_t (show Int.ofNat 126<b from c3),if_pos (.inr c3)];rfl
   rw[ilt_f (show ¬Int.ofNat 126<b from c3),cond_false,if_neg (by intro h;rcases h with h|h<;>contradiction)]
   have w1:IntKind.i64.wrap (Int.add (Int.ofNat n) (Int.ofNat 1))=Int.ofNat (n+1):=qa3 (n:=n+1) (by omega)
   rw[w1]
   exact qxi s a hs rest (n+1) m hd' (by omega) (by simpa using hm)
theorem two_nat {s:ByteArray} {a:Int} (h:S.two s a=true):∃k:Nat,a=Int.ofNat k/\k+2<=s.size:=by
 unfold S.two at h
 rw[Bool.and_eq_true,decide_eq_true_iff,decide_eq_true_iff] at h
 obtain⟨h1,h2⟩:=h
 have h2:a+2<=(s.size:Int):=h2
 exact⟨a.toNat,by show a=((a.toNat:Nat):Int);omega,by omega⟩
theorem qxo:Con Tryz.prog idz27 spz27:=mkz27 trivial fun x y hx h=>⟨LF,by
 obtain⟨h1,h2⟩:=qa5 (show cond (S.two x.1 x.2.1) (some ((S.note x.1 x.2.1.toNat).1,(S.note x.1 x.2.1.toNat).2,())) none=some y from h)
 obtain⟨k,e,hk⟩:=two_nat h1
 have hsz:x.1.size<9223372036854775808:=hx.1
 refine Eq.trans ?_ (congrArg some h2)
 rw[show x.2.1.toNat=k from congrArg Int.toNat e]
 have hlen:((qaa x.1).drop (k+2)).length<LF:=by
   have:=qae x.1
   rw[List.length_drop,this]
   unfold LF;omega
 refine(congrArg (Fz27 LF x.1) e).trans ((qxi x.1 k (by omega) _ 2 LF rfl hk hlen).trans ?_)
 unfold S.note
 cases (S.noteGo ((qaa x.1).drop (k+2)) 2).1<;>rfl⟩
theorem qpt {x:ByteArray} (h:x∈S.signs):1<=x.size/\x.size<=2:=by
 have:S.signs.all (fun x=>decide (1<=x.size/\x.size<=2))=true:=by decide +kernel
 exact of_decide_eq_true (List.all_eq_true.1 this x h)
theorem q0m (s x:ByteArray) (a:Nat) (h:a+x.size<=s.size):keqS (s.extract a (a+x.size)) x=(qaa x).isPrefixOf ((qaa s).drop a):=by
 have e:qaa (s.extract a (a+x.size))=((qaa s).drop a).take x.size:=by
   rw[qk7,List.extract_eq_take_drop,show a+x.size-a=x.size by omega]
 by_cases c:s.extract a (a+x.size)=x
 · rw[show keqS (s.extract a (a+x.size)) x=true from decide_eq_true c]
   rw[c] at e
   symm
   rw[List.isPrefixOf_iff_prefix,e]
   exact List.take_prefix _ _
 · rw[show keqS (s.extract a (a+x.size)) x=false from decide_eq_false c]
   symm
   rw[Bool.eq_false_iff]
   intro h2
   rw[List.isPrefixOf_iff_prefix] at h2
   apply c
   apply qpk
   rw[e,<- qae x]
   exact(List.prefix_iff_eq_take.1 h2).symm
theorem q1s (s x:ByteArray) (a:Nat) (ha:a<=s.size) (h:¬a+x.size<=s.size):(qaa x).isPrefixOf ((qaa s).drop a)=false:=by
 rw[Bool.eq_false_iff]
 intro h2
 rw[List.isPrefixOf_iff_prefix] at h2
 have:=h2.length_le
 rw[qae,List.length_drop,qae] at this
 omega
theorem Fz28_eq (s:ByteArray) (a:Nat) (hs:s.size<=9223372036854775000) (ha:a<=s.size):Fz28 LF s (Int.ofNat a)=some (S.signL ((qaa s).drop a),()):=by
 refine(qdk (R:=Rtz28) S.signs (fun rest i=>some ((match rest.find? (fun x=>(qaa x).isPrefixOf ((qaa s).drop a)) with|some x=>x|none=>S.lit []),())) (by decide +kernel) (fun K=>?_) (fun K i v rest r h=>?_)).trans rfl
 · rfl
 · have hv:=qpt r.mem
   have hlt:iltI (Int.ofNat i) (Int.ofNat 22)=true:=r.ilt
   have hg:S.signs[Int.toNat (Int.ofNat i)]?=some v:=r.get?
   have w:IntKind.i64.wrap (Int.add (Int.ofNat a) (Int.ofNat v.size))=Int.ofNat (a+v.size):=qa3 (n:=a+v.size) (by omega)
   simp only[qoq,hlt,r.get,hg,w,r.next,cond_true,qbl,List.find?_cons,h]
   by_cases c:s.size<a+v.size
   · rw[decide_eq_true c,q1s s v a ha (by omega)];rfl
   · rw[decide_eq_false c,Bool.not_false,cond_true,show lchk (Int.ofNat a) (Int.ofNat (a+v.size)) (Int.ofNat s.size) (Int.ofNat s.size)=true by simp[lchk];omega,cond_true,show Int.toNat (Int.ofNat a)=a from rfl,show Int.toNat (Int.ofNat (a+v.size))=a+v.size from rfl,q0m s v a (by omega)]
     cases (qaa v).isPrefixOf ((qaa s).drop a)<;>rfl
theorem at_nat {s:ByteArray} {a:Int} (h:(!iltI a 0&&!iltI (Int.ofNat s.size) a)=true):∃k:Nat,a=Int.ofNat k/\k<=s.size:=by
 rw[qa0,qa0] at h
 simp only[Bool.and_eq_true,Bool.not_eq_true',decide_eq_false_iff_not] at h
 exact qqe h.1 h.2
theorem qr5:Con Tryz.prog idz28 spz28:=mkz28 ⟨q5p,trivial⟩ fun x y hx h=>⟨LF,by
 obtain⟨h1,h2⟩:=qa5 (show cond (S.fits x.1&&(!iltI x.2.1 0&&!iltI (Int.ofNat (ByteArray.size x.1)) x.2.1)) (some (S.signL ((qaa x.1).drop x.2.1.toNat),())) none=some y from h)
 rw[Bool.and_eq_true] at h1
 obtain⟨k,e,hk⟩:=at_nat h1.2
 refine Eq.trans ?_ (congrArg some h2)
 rw[show x.2.1.toNat=k from congrArg Int.toNat e]
 exact(congrArg (Fz28 LF x.1) e).trans (Fz28_eq x.1 k (Nat.le_trans (qbg h1.1) (by decide)) hk)⟩
def neL (b:Int):Bool:=!decide (b=10)
theorem qyz:∀(d cur:List Int) (more:List (List Int)),S.splitL d=cur::more->cur=d.takeWhile neL
 | [],cur,more,h=>by
   have h:([[]]:List (List Int))=cur::more:=h
   cases h;rfl
 | b::r,cur,more,h=>by
   by_cases hb:b=10
   · subst hb
     rw[qda] at h
     cases h;rfl
   · obtain⟨x,xs,e1,e2⟩:=qcf hb r
     rw[e2] at h
     cases h
     rw[List.takeWhile_cons,show neL b=true by unfold neL;rw[decide_eq_false hb];rfl,if_pos rfl,qyz r x more e1]
theorem qwe:∀(n:Nat) (d cur:List Int) (more:List (List Int)),S.splitL d=cur::more->n<=cur.length->S.splitL (d.drop n)=cur.drop n::more
 | 0,d,cur,more,h,_=>h
 | n+1,[],cur,more,h,hn=>by
   have h:([[]]:List (List Int))=cur::more:=h
   cases h
   simp at hn
 | n+1,b::r,cur,more,h,hn=>by
   by_cases hb:b=10
   · subst hb
     rw[qda] at h
     cases h
     simp at hn
   · obtain⟨x,xs,e1,e2⟩:=qcf hb r
     rw[e2] at h
     cases h
     simp only[List.drop_succ_cons]
     exact qwe n r x more e1 (by simpa using hn)
theorem part_ne {b:Int} (h:S.isPart b=true):neL b=true:=by
 unfold neL
 by_cases e:b=10
 · subst e;exact absurd h (by decide +kernel)
 · rw[decide_eq_false e];rfl
theorem qmf:∀d:List Int,S.runL (d.takeWhile neL)=S.runL d
 | []=>rfl
 | b::r=>by
   unfold S.runL
   by_cases hp:S.isPart b=true
   · rw[List.takeWhile_cons,part_ne hp,if_pos rfl,List.takeWhile_cons,List.takeWhile_cons,hp,if_pos rfl,if_pos rfl,List.length_cons,List.length_cons]
     exact congrArg Nat.succ (qmf r)
   · have hp':S.isPart b=false:=by simpa using hp
     by_cases hn:neL b=true
     · rw[List.takeWhile_cons,hn,if_pos rfl,List.takeWhile_cons,List.takeWhile_cons,hp'];rfl
     · rw[List.takeWhile_cons (p:=neL),if_neg hn,List.takeWhile_cons,hp'];rfl
theorem qmo:∀(d:List Int) (n:Nat),S.noteGo (d.takeWhile neL) n=S.noteGo d n
 | [],n=>rfl
 | b::r,n=>by
   by_cases e:b=10
   · subst e
     rw[List.takeWhile_cons,show neL 10=false from rfl]
     simp[S.noteGo]
   · rw[List.takeWhile_cons,show neL b=true by unfold neL;rw[decide_eq_false e];rfl,if_pos rfl]
     unfold S.noteGo
     rw[if_neg e,if_neg e,qmo r (n+1)]
theorem qmw:∀(x d:List Int),(∀b∈x,¬b=10)->x.isPrefixOf (d.takeWhile neL)=x.isPrefixOf d
 | [],d,_=>by simp
 | a::x,[],_=>rfl
 | a::x,b::r,h=>by
   have ha:=h a List.mem_cons_self
   have ih:=qmw x r fun c hc=>h c (List.mem_cons_of_mem _ hc)
   by_cases e:b=10
   · subst e
     rw[List.takeWhile_cons,show neL 10=false from rfl]
     show false=((a==10)&&_)
     rw[show (a==10)=false from beq_false_of_ne ha];rfl
   · rw[List.takeWhile_cons,show neL b=true by unfold neL;rw[decide_eq_false e];rfl,if_pos rfl]
     show ((a==b)&&_)=((a==b)&&_)
     rw[ih]
theorem q43:∀x∈S.signs,∀b∈qaa x,¬b=10:=by
 have:S.signs.all (fun x=>(qaa x).all fun b=>!decide (b=10))=true:=by decide +kernel
 intro x hx b hb e
 have:=List.all_eq_true.1 (List.all_eq_true.1 this x hx) b hb
 rw[decide_eq_true e] at this
 cases this
theorem qr3 {α:Type} {p q:α->Bool}:∀{l:List α},(∀x∈l,p x=q x)->l.find? p=l.find? q
 | [],_=>rfl
 | a::l,h=>by
   rw[List.find?_cons,List.find?_cons,h a List.mem_cons_self,qr3 fun x hx=>h x (List.mem_cons_of_mem _ hx)]
theorem qw7 (d:List Int):S.signL (d.takeWhile neL)=S.signL d:=by
 unfold S.signL
 rw[qr3 fun x hx=>qmw (qaa x) d (q43 x hx)]
theorem qg4 (d:List Int):S.runL d<=d.length:=(List.takeWhile_prefix (p:=S.isPart)).length_le
theorem qee (d:List Int):S.signL d=S.lit []\/(S.signL d∈S.signs/\qaa (S.signL d)=d.take (S.signL d).size/\(S.signL d).size<=d.length):=by
 unfold S.signL
 cases h:S.signs.find? (fun x=>(qaa x).isPrefixOf d) with
 | none=>exact .inl rfl
 | some x =>
   have h1:=List.mem_of_find?_eq_some h
   have h2:=List.find?_some h
   rw[List.isPrefixOf_iff_prefix] at h2
   refine .inr ⟨h1,?_,?_⟩
   · simp only
     rw[<- qae x];exact List.prefix_iff_eq_take.1 h2
   · simp only
     rw[<- qae x];exact h2.length_le
theorem qny:∀(d:List Int) (n:Nat),n<=(S.noteGo d n).2/\(S.noteGo d n).2<=n+d.length
 | [],n=>by simp[S.noteGo]
 | b::r,n=>by
   unfold S.noteGo
   split
   · simp
   split
   · simp
   have:=qny r (n+1)
   simp only[List.length_cons];omega
theorem q14 {x:ByteArray} (h:x∈S.signs):S.shape x=(5,0):=by
 unfold S.shape
 rw[if_pos]
 exact List.any_eq_true.2 ⟨x,h,decide_eq_true rfl⟩
theorem q34:S.shape (S.lit [])=(0,2):=by decide +kernel
theorem q4l (s:ByteArray):¬(S.word s).1=6:=by
 unfold S.word
 split
 · decide
 split
 · decide
 split
 · decide
 split
 · decide
 split<;>decide
theorem q39 (s:ByteArray):¬(S.shape s).1=6:=by
 unfold S.shape
 split
 · decide
 split
 · decide
 split
 · decide
 split
 · decide
 split
 · split
   · decide
   · show ¬(0:Int)=6;decide
 exact q4l s
def fin (N L:List qab) (q:List (Int × ByteArray × Nat) × Option (Nat × Int)) (more:List (List Int)) (n:Int):qfj:=match q.2 with
 | some (c,e)=>([],[],(n,Int.ofNat c),e)
 | none=>if (S.readL more (n+1)).2.2=0 then (L++(S.at_ n q.1++(S.readL more (n+1)).1).filter S.isTok,N++(S.at_ n q.1++(S.readL more (n+1)).1).filter S.isNote,(0,0),0) else ([],[],(S.readL more (n+1)).2.1,(S.readL more (n+1)).2.2)
theorem qcg:∀(f:Nat) (l:List Int) (c:Nat) (x:Nat × Int),(S.pcs f l c).2=some x->¬x.2=0
 | 0,_,_,x,h=>by cases h
 | f+1,[],_,x,h=>by cases h
 | f+1,b::r,c,x,h=>by
   unfold S.pcs at h
   split at h
   · exact qcg f r (c+1) x h
   split at h
   · exact qcg f _ _ x h
   · rename_i h2
     cases h
     exact h2
theorem q15 (N L:List qab) (l:List Int) (more:List (List Int)) (n:Int):fin N L ([],none) (l::more) n=fin N L (S.pcs (l.length+1) l 1) more (n+1):=by
 have e0:S.readL (l::more) (n+1)=(match (S.pcs (l.length+1) l 1).2 with
   | some (c,e)=>([],(n+1,Int.ofNat c),e)
   | none=>if (S.readL more (n+1+1)).2.2=0 then (S.at_ (n+1) (S.pcs (l.length+1) l 1).1++(S.readL more (n+1+1)).1,(0,0),0) else S.readL more (n+1+1)):=rfl
 have e1:fin N L ([],none) (l::more) n=if (S.readL (l::more) (n+1)).2.2=0 then (L++(S.readL (l::more) (n+1)).1.filter S.isTok,N++(S.readL (l::more) (n+1)).1.filter S.isNote,(0,0),0) else ([],[],(S.readL (l::more) (n+1)).2.1,(S.readL (l::more) (n+1)).2.2):=rfl
 rw[e1]
 unfold fin
 cases h:(S.pcs (l.length+1) l 1).2 with
 | none =>
   rw[h] at e0
   simp only at e0
   by_cases c:(S.readL more (n+1+1)).2.2=0
   · rw[if_pos c] at e0
     rw[e0,if_pos rfl]
     simp only
     rw[if_pos c]
   · rw[if_neg c] at e0
     rw[e0,if_neg c]
     simp only
     rw[if_neg c]
 | some x =>
   obtain⟨a,e⟩:=x
   have he:=qcg _ _ _ _ h
   rw[h] at e0
   simp only at e0 he
   rw[e0,if_neg he]
theorem fin_tok (N L:List qab) (k:Int) (t:ByteArray) (c:Nat) (q:List (Int × ByteArray × Nat) × Option (Nat × Int)) (more:List (List Int)) (n:Int) (hk:¬k=6):fin N L ((k,t,c)::q.1,q.2) more n=fin N (L++[(k,t,n,Int.ofNat c)]) q more n:=by
 have h1:S.isTok (k,t,n,Int.ofNat c)=true:=by show (!decide (k=6))=true;rw[decide_eq_false hk];rfl
 have h2:S.isNote (k,t,n,Int.ofNat c)=false:=decide_eq_false hk
 unfold fin
 simp only
 cases q.2 with
 | some x=>rfl
 | none =>
   simp only[S.at_,List.map_cons,List.cons_append,List.filter_cons,h1,h2]
   simp
theorem q4m (N L:List qab) (t:ByteArray) (c:Nat) (q:List (Int × ByteArray × Nat) × Option (Nat × Int)) (more:List (List Int)) (n:Int):fin N L ((6,t,c)::q.1,q.2) more n=fin (N++[(6,t,n,Int.ofNat c)]) L q more n:=by
 have h1:S.isTok (6,t,n,Int.ofNat c)=false:=rfl
 have h2:S.isNote (6,t,n,Int.ofNat c)=true:=rfl
 unfold fin
 simp only
 cases q.2 with
 | some x=>rfl
 | none =>
   simp only[S.at_,List.map_cons,List.cons_append,List.filter_cons,h1,h2]
   simp
abbrev KR:Type:=(Int × Int × Int × (List qab) × (List qab))->Option Rtz29
theorem g21 (s:ByteArray) (K:KR) (begin line pl pc:Int) (i:Nat) (N L:List qab) (t:ByteArray) (hi:i+t.size<=1000000) (hL:L.length<=1000000) :
   qf7 LF s K (N,begin,line,Int.ofNat i,pl,pc,t,L)=if (S.shape t).2=0 then K (begin,line,Int.ofNat (i+t.size),N,L++[((S.shape t).1,t,pl,pc)]) else some (([],[],(pl,pc),(S.shape t).2),()):=by
 have w:IntKind.i64.wrap (Int.add (Int.ofNat i) (Int.ofNat t.size))=Int.ofNat (i+t.size):=qa3 (n:=i+t.size) (by omega)
 have b1:Nat.ble (Nat.mul (Nat.add L.length 1) 40) 140737488355328=true:=Nat.ble_eq_true_of_le (by show (L.length+1)*40<=_;omega)
 simp only[qf7,qht,w,b1,cond_true]
 by_cases h:(S.shape t).2=0
 · rw[ieq_t (show (S.shape t).2=Int.ofNat 0 from h),if_pos h];rfl
 · rw[ieq_f (show ¬(S.shape t).2=Int.ofNat 0 from h),if_neg h];rfl
def stepR (K:KR) (begin line:Int) (i c:Nat) (N L:List qab) (cur:List Int):Option Rtz29 :=
 if (S.tok cur).2.2.1=0 then (if (S.tok cur).2.1=6 then K (begin,line,Int.ofNat (i+(S.tok cur).1),N++[(6,strOf (cur.take (S.tok cur).1),line,Int.ofNat c)],L) else K (begin,line,Int.ofNat (i+(S.tok cur).1),N,L++[((S.tok cur).2.1,strOf (cur.take (S.tok cur).1),line,Int.ofNat c)]))
 else some (([],[],(line,Int.ofNat (c+(S.tok cur).2.2.2)),(S.tok cur).2.2.1),())
theorem qsg (d:List Int) {n:Nat} (h:n<=(d.takeWhile neL).length):(d.takeWhile neL).take n=d.take n:=by
 have e:=List.prefix_iff_eq_take.1 (List.takeWhile_prefix (p:=neL) (l:=d))
 rw[e,List.take_take,Nat.min_eq_left h]
theorem g18 (s:ByteArray) (K:KR) (begin line:Int) (i c:Nat) (N L:List qab) (b:Int) (d:List Int) (hs:S.fits s=true) (hd:(qaa s).drop i=b::d) (hi:i<s.size) (hL:L.length<=1000000) (h2:[45,45].isPrefixOf (b::d)=false) :
   qd2 LF s K (line,begin,Int.ofNat i,line,Int.ofNat c,N,L)=stepR K begin line i c N L ((b::d).takeWhile neL):=by
 have hsz:=qbg hs
 have hdl:(b::d).length=s.size-i:=by rw[<- hd,List.length_drop,qae]
 have hg:(qaa s)[i]?=some b:=by
   have:=congrArg (fun l=>l[0]?) hd
   simpa [List.getElem?_drop] using this
 have h2':[45,45].isPrefixOf ((b::d).takeWhile neL)=false:=by
   rw[qmw [45,45] (b::d) (by decide)];exact h2
 simp only[qd2,qhb,hs,show jget (qaa s) (Int.ofNat i)=some b from qbb.trans hg,show Int.toNat (Int.ofNat i)=i from rfl,hd]
 have g1:iltI (Int.ofNat i) (Int.ofNat 0)=false:=ilt_f (by show ¬(i:Int)<0;omega)
 have g2:iltI (Int.ofNat s.size) (Int.ofNat i)=false:=ilt_f (by show ¬(s.size:Int)<(i:Int);omega)
 simp only[g1,g2,Bool.not_false,Bool.and_true,cond_true]
 unfold stepR S.tok
 rw[h2']
 simp only[Bool.false_eq_true,if_false]
 rw[qmf]
 by_cases hp:S.isPart b=true
 · have hr:0<S.runL (b::d):=by
     unfold S.runL
     rw[List.takeWhile_cons,hp,if_pos rfl,List.length_cons];omega
   have hle:=qg4 (b::d)
   have hle2:S.runL (b::d)<=((b::d).takeWhile neL).length:=by rw[<- qmf];exact qg4 _
   rw[hp,cond_true,if_pos hr,qsg _ hle2]
   have w:IntKind.i64.wrap (Int.add (Int.ofNat i) (Int.ofNat (S.runL (b::d))))=Int.ofNat (i+S.runL (b::d)):=qa3 (n:=i+S.runL (b::d)) (by omega)
   simp only[w]
   have e:s.extract i (i+S.runL (b::d))=strOf ((b::d).take (S.runL (b::d))):=by
     symm
     refine qif ?_
     rw[List.extract_eq_take_drop,hd,show i+S.runL (b::d)-i=S.runL (b::d) by omega]
   have el:(s.extract i (i+S.runL (b::d))).size=S.runL (b::d):=by rw[ByteArray.size_extract];omega
   rw[show lchk (Int.ofNat i) (Int.ofNat (i+S.runL (b::d))) (Int.ofNat s.size) (Int.ofNat s.size)=true by simp[lchk];omega,cond_true,show Int.toNat (Int.ofNat (i+S.runL (b::d)))=i+S.runL (b::d) from rfl,
     g21 s K begin line line (Int.ofNat c) i N L _ (by rw[el];omega) hL,el,e]
   by_cases h0:(S.shape (strOf ((b::d).take (S.runL (b::d))))).2=0
   · rw[if_pos h0,if_pos h0,if_neg (q39 _)]
   · rw[if_neg h0,if_neg h0];rfl
 · have hp':S.isPart b=false:=by simpa using hp
   have hr:¬0<S.runL (b::d):=by
     unfold S.runL
     rw[List.takeWhile_cons,hp'];simp
   rw[hp',cond_false,if_neg hr,qw7]
   have hpre:=qee ((b::d).takeWhile neL)
   rw[qw7] at hpre
   rcases hpre with e|⟨e1,e2,e3⟩
   · rw[e]
     have z:(S.lit []).size=0:=rfl
     rw[g21 s K begin line line (Int.ofNat c) i N L _ (by rw[z];omega) hL,q34,if_neg (by decide),if_pos z,if_neg (by decide)]
     rfl
   · have hsg:=qpt e1
     have hle3:(S.signL (b::d)).size<=(b::d).length:=Nat.le_trans e3 (List.takeWhile_prefix (p:=neL)).length_le
     rw[g21 s K begin line line (Int.ofNat c) i N L _ (by omega) hL,q14 e1,if_pos rfl,show (if (S.signL (b::d)).size=0 then ((0:Nat),(0:Int),(2:Int),(0:Nat)) else ((S.signL (b::d)).size,5,0,0))=((S.signL (b::d)).size,5,0,0) from if_neg (by omega),if_pos rfl,if_neg (show ¬(5:Int)=6 by decide),<- e2,qct]
theorem g10 (s:ByteArray) (K:KR) (begin i:Nat) (line:Int) (N L:List qab) (b:Int) (d:List Int) (hs:S.fits s=true) (hd:(qaa s).drop i=b::d) (hi:i<s.size) (hbi:begin<=i) (hL:L.length<=1000000) (hN:N.length<=1000000) (h10:¬b=10) (h32:¬b=32) :
   qbx LF s K (Int.ofNat begin,line,Int.ofNat i,line,Int.ofNat (i-begin+1),N,L)=stepR K (Int.ofNat begin) line i (i-begin+1) N L ((b::d).takeWhile neL):=by
 have hsz:=qbg hs
 have hdl:(b::d).length=s.size-i:=by rw[<- hd,List.length_drop,qae]
 have hg:(qaa s)[i]?=some b:=by
   have:=congrArg (fun l=>l[0]?) hd
   simpa [List.getElem?_drop] using this
 have hd1:(qaa s).drop (i+1)=d:=by rw[<- List.drop_drop,hd];rfl
 have w1:IntKind.i64.wrap (Int.add (Int.ofNat i) (Int.ofNat 1))=Int.ofNat (i+1):=qa3 (n:=i+1) (by omega)
 simp only[qbx,qdm,show jget (qaa s) (Int.ofNat i)=some b from qbb.trans hg,w1]
 rw[ieq_f (show ¬b=Int.ofNat 10 from h10),cond_false,ieq_f (show ¬b=Int.ofNat 32 from h32),cond_false]
 by_cases h45:b=45
 · subst h45
   rw[ieq_t (show (45:Int)=Int.ofNat 45 from rfl),cond_true]
   cases d with
   | nil =>
     have:s.size=i+1:=by simp at hdl;omega
     rw[ilt_f (show ¬Int.ofNat (i+1)<Int.ofNat s.size by rw[this];exact Int.lt_irrefl _),cond_false]
     exact g18 s K _ line i _ N L 45 [] hs hd hi hL rfl
   | cons a d =>
     have hl:i+1<s.size:=by simp at hdl;omega
     have hg1:(qaa s)[i+1]?=some a:=by
       have:=congrArg (fun l=>l[0]?) hd1
       simpa [List.getElem?_drop] using this
     rw[ilt_t (show Int.ofNat (i+1)<Int.ofNat s.size by show ((i+1:Nat):Int)<(s.size:Int);omega),cond_true]
     simp only[show jget (qaa s) (Int.ofNat (i+1))=some a from qbb.trans hg1]
     by_cases ha:a=45
     · subst ha
       rw[ieq_t (show (45:Int)=Int.ofNat 45 from rfl),cond_true]
       have htwo:S.two s (Int.ofNat i)=true:=by
         unfold S.two
         rw[Bool.and_eq_true,decide_eq_true_iff,decide_eq_true_iff]
         exact⟨by show (0:Int)<=(i:Int);omega,by show (i:Int)+2<=(s.size:Int);omega⟩
       have hd2:(qaa s).drop (i+2)=d:=by rw[show i+2=(i+1)+1 from rfl,<- List.drop_drop,hd1];rfl
       have hcur:(45::45::d:List Int).takeWhile neL=45::45::d.takeWhile neL:=rfl
       have htok:S.tok (45::45::d.takeWhile neL)=cond (S.noteGo d 2).1 ((S.noteGo d 2).2,6,0,0) (0,0,2,(S.noteGo d 2).2):=by
         unfold S.tok
         rw[if_pos (show [45,45].isPrefixOf (45::45::d.takeWhile neL)=true by simp[List.isPrefixOf]),show (45::45::d.takeWhile neL:List Int).drop 2=d.takeWhile neL from rfl,qmo]
       have hnb:=qny (d.takeWhile neL) 2
       rw[qmo] at hnb
       have hdd:(d.takeWhile neL).length<=d.length:=(List.takeWhile_prefix (p:=neL)).length_le
       have hdl2:d.length+2=s.size-i:=by simp at hdl;omega
       simp only[htwo,cond_true]
       unfold S.note
       rw[show Int.toNat (Int.ofNat i)=i from rfl,hd2]
       rw[hcur]
       unfold stepR
       rw[htok]
       cases hok:(S.noteGo d 2).1 with
       | true =>
         simp only[cond_true]
         have w2:IntKind.i64.wrap (Int.add (Int.ofNat i) (Int.ofNat (S.noteGo d 2).2))=Int.ofNat (i+(S.noteGo d 2).2):=qa3 (n:=i+(S.noteGo d 2).2) (by omega)
         have b1:Nat.ble (Nat.mul (Nat.add N.length 1) 40) 140737488355328=true:=Nat.ble_eq_true_of_le (by show (N.length+1)*40<=_;omega)
         rw[ilt_f (show ¬Int.ofNat (S.noteGo d 2).2<Int.ofNat 0 by show ¬((S.noteGo d 2).2:Int)<0;omega),cond_false,w2,show lchk (Int.ofNat i) (Int.ofNat (i+(S.noteGo d 2).2)) (Int.ofNat s.size) (Int.ofNat s.size)=true by simp[lchk];omega,cond_true,b1,cond_true,if_pos trivial,if_pos trivial,show Int.toNat (Int.ofNat (i+(S.noteGo d 2).2))=i+(S.noteGo d 2).2 from rfl]
         have e:s.extract i (i+(S.noteGo d 2).2)=strOf ((45::45::d.takeWhile neL:List Int).take (S.noteGo d 2).2):=by
           symm
           refine qif ?_
           rw[List.extract_eq_take_drop,hd,show i+(S.noteGo d 2).2-i=(S.noteGo d 2).2 by omega,<- hcur,qsg _ (by rw[hcur];simp only[List.length_cons];omega)]
         rw[e];rfl
       | false =>
         simp only[cond_false]
         have w3:IntKind.i64.wrap (Int.add (IntKind.i64.wrap (Int.sub (Int.ofNat (i+(S.noteGo d 2).2)) (Int.ofNat begin))) (Int.ofNat 1))=Int.ofNat (i-begin+1+(S.noteGo d 2).2):=by
           rw[show Int.sub (Int.ofNat (i+(S.noteGo d 2).2)) (Int.ofNat begin)=Int.ofNat (i-begin+(S.noteGo d 2).2) by show ((i+(S.noteGo d 2).2:Nat):Int)-(begin:Int)=((i-begin+(S.noteGo d 2).2:Nat):Int);omega,qa3 (n:=i-begin+(S.noteGo d 2).2) (by omega),show Int.add (Int.ofNat (i-begin+(S.noteGo d 2).2)) (Int.ofNat 1)=Int.ofNat (i-begin+1+(S.noteGo d 2).2) by show ((i-begin+(S.noteGo d 2).2:Nat):Int)+1=((i-begin+1+(S.noteGo d 2).2:Nat):Int);omega]
           exact qa3 (by omega)
         rw[show iltI (-1) (Int.ofNat 0)=true from rfl,cond_true,w3,if_neg (by decide)]
         rfl
     · rw[ieq_f (show ¬a=Int.ofNat 45 from ha),cond_false]
       refine g18 s K _ line i _ N L 45 (a::d) hs hd hi hL ?_
       show ((45:Int)==45&&((45:Int)==a&&_))=false
       rw[show ((45:Int)==a)=false from beq_false_of_ne fun e=>ha e.symm];rfl
 · rw[ieq_f (show ¬b=Int.ofNat 45 from h45),cond_false]
   refine g18 s K _ line i _ N L b d hs hd hi hL ?_
   show ((45:Int)==b&&_)=false
   rw[show ((45:Int)==b)=false from beq_false_of_ne fun e=>h45 e.symm];rfl
theorem qlr {r:List Int} (h:(S.tok r).2.2.1=0) (hr:0<r.length):1<=(S.tok r).1/\(S.tok r).1<=r.length:=by
 unfold S.tok at h ⊢
 split
 · rename_i h1
   rw[if_pos h1] at h
   have hp:=(List.isPrefixOf_iff_prefix.1 h1).length_le
   have hp:2<=r.length:=hp
   have:=qny (r.drop 2) 2
   rw[List.length_drop] at this
   cases hc:(S.noteGo (r.drop 2) 2).1 with
   | true=>rw[cond_true];simp only;omega
   | false=>rw[hc] at h;cases h
 · rename_i h1
   rw[if_neg h1] at h
   split
   · rename_i h2
     exact⟨h2,qg4 r⟩
   · rename_i h2
     rw[if_neg h2] at h
     split
     · rename_i h3
       rw[if_pos h3] at h
       cases h
     · rename_i h3
       rcases qee r with e|⟨_,_,e⟩
       · rw[e] at h3;exact absurd rfl h3
       · simp only;omega
theorem qg0 (s:ByteArray) (hs:S.fits s=true):∀(m f begin i:Nat) (line:Nat) (N L:List qab) (cur:List Int) (more:List (List Int)),S.splitL ((qaa s).drop i)=cur::more->begin<=i->i<=s.size->line<=i+1->N.length<=i->L.length<=i->cur.length<f->s.size-i<m ->
   qcb LF s m (Int.ofNat begin,Int.ofNat line,Int.ofNat i,N,L)=some (fin N L (S.pcs f cur (i-begin+1)) more (Int.ofNat line),())
 | 0,f,begin,i,line,N,L,cur,more,_,_,_,_,_,_,_,h=>by omega
 | m+1,0,begin,i,line,N,L,cur,more,_,_,_,_,_,_,h,_=>by omega
 | m+1,f+1,begin,i,line,N,L,cur,more,hsp,hbi,hi,hline,hN,hL,hf,hm=>by
   have hsz:=qbg hs
   show qc0 LF s (fun q=>qbx LF s (qcb LF s m) q) _=_
   have wc:IntKind.i64.wrap (Int.add (IntKind.i64.wrap (Int.sub (Int.ofNat i) (Int.ofNat begin))) (Int.ofNat 1))=Int.ofNat (i-begin+1):=by
     rw[show Int.sub (Int.ofNat i) (Int.ofNat begin)=Int.ofNat (i-begin) by show (i:Int)-(begin:Int)=((i-begin:Nat):Int);omega,qa3 (n:=i-begin) (by omega)]
     exact qa3 (n:=i-begin+1) (by omega)
   by_cases he:i=s.size
   · have hnil:(qaa s).drop i=[]:=List.drop_eq_nil_of_le (by rw[qae];omega)
     rw[hnil] at hsp
     have hsp:([[]]:List (List Int))=cur::more:=hsp
     cases hsp
     simp only[qc0]
     rw[ilt_f (show ¬Int.ofNat i<Int.ofNat s.size by rw[he];exact Int.lt_irrefl _),cond_false]
     show some ((L,N,(0,0),0),())=some ((L++[],N++[],(0,0),0),())
     rw[List.append_nil,List.append_nil]
   · have hlt:i<s.size:=by omega
     obtain⟨b,hb⟩:∃b,(qaa s)[i]?=some b:=⟨_,qdj hlt⟩
     have hd:(qaa s).drop i=b::(qaa s).drop (i+1):=by
       obtain⟨h1,h2⟩:=List.getElem?_eq_some_iff.1 hb
       rw[List.drop_eq_getElem_cons h1,h2]
     have w1:IntKind.i64.wrap (Int.add (Int.ofNat i) (Int.ofNat 1))=Int.ofNat (i+1):=qa3 (n:=i+1) (by omega)
     have w2:IntKind.i64.wrap (Int.add (Int.ofNat line) (Int.ofNat 1))=Int.ofNat (line+1):=qa3 (n:=line+1) (by omega)
     have hj:jget (qaa s) (Int.ofNat i)=some b:=qbb.trans hb
     simp only[qc0,wc,w1,w2,hj]
     rw[ilt_t (show Int.ofNat i<Int.ofNat s.size by show (i:Int)<(s.size:Int);omega),cond_true]
     rw[hd] at hsp
     by_cases h10:b=10
     · subst h10
       rw[qda] at hsp
       rw[ieq_t (show (10:Int)=Int.ofNat 10 from rfl),cond_true]
       obtain⟨c2,m2,e2⟩:=qpi ((qaa s).drop (i+1))
       injection hsp with e3 e4
       subst e3
       rw[e2] at e4
       subst e4
       simp only[qbx,qdm,hj,w1]
       rw[ieq_t (show (10:Int)=Int.ofNat 10 from rfl),cond_true]
       rw[qg0 s hs m (c2.length+1) (i+1) (i+1) (line+1) N L c2 m2 e2 (Nat.le_refl _) hlt (by omega) (by omega) (by omega) (Nat.lt_succ_self _) (by omega)]
       rw[show i+1-(i+1)+1=1 by omega]
       exact congrArg (fun x=>some (x,())) (q15 N L c2 m2 (Int.ofNat line)).symm
     · rw[ieq_f (show ¬b=Int.ofNat 10 from h10),cond_false]
       obtain⟨x,xs,e1,e2⟩:=qcf h10 ((qaa s).drop (i+1))
       rw[e2] at hsp
       injection hsp with e3 e4
       subst e3 e4
       by_cases h32:b=32
       · subst h32
         simp only[qbx,qdm,hj,w1]
         rw[ieq_f (show ¬(32:Int)=Int.ofNat 10 by decide),cond_false,ieq_t (show (32:Int)=Int.ofNat 32 from rfl),cond_true]
         rw[qg0 s hs m f begin (i+1) line N L x xs e1 (by omega) hlt (by omega) (by omega) (by omega) (by simpa using hf) (by omega)]
         rw[show i+1-begin+1=i-begin+1+1 by omega]
         have hp:S.pcs (f+1) (32::x) (i-begin+1)=S.pcs f x (i-begin+1+1):=by
           conv=>lhs;unfold S.pcs
           rw[if_pos rfl]
         rw[hp]
       · rw[g10 s _ begin i (Int.ofNat line) N L b _ hs hd hlt hbi (by omega) (by omega) h10 h32]
         have hcur:(b::(qaa s).drop (i+1)).takeWhile neL=b::x:=(qyz _ _ _ e2).symm
         rw[hcur]
         have hp:S.pcs (f+1) (b::x) (i-begin+1)=if (S.tok (b::x)).2.2.1=0 then (((S.tok (b::x)).2.1,strOf ((b::x).take (S.tok (b::x)).1),i-begin+1)::(S.pcs f ((b::x).drop (S.tok (b::x)).1) (i-begin+1+(S.tok (b::x)).1)).1,(S.pcs f ((b::x).drop (S.tok (b::x)).1) (i-begin+1+(S.tok (b::x)).1)).2) else ([],some (i-begin+1+(S.tok (b::x)).2.2.2,(S.tok (b::x)).2.2.1)):=by
           conv=>lhs;unfold S.pcs
           rw[if_neg h32]
         rw[hp]
         unfold stepR
         by_cases h0:(S.tok (b::x)).2.2.1=0
         · rw[if_pos h0,if_pos h0]
           obtain⟨t1,t2⟩:=qlr h0 (by simp)
           have hxl:(b::x).length<=s.size-i:=by
             rw[<- hcur]
             have:=(List.takeWhile_prefix (p:=neL) (l:=b::(qaa s).drop (i+1))).length_le
             rw[<- hd,List.length_drop,qae] at this
             rw[<- hd];exact this
           have hsp2:S.splitL ((qaa s).drop (i+(S.tok (b::x)).1))=(b::x).drop (S.tok (b::x)).1::xs:=by
             rw[<- List.drop_drop,hd]
             exact qwe _ _ _ _ e2 t2
           have hfl:((b::x).drop (S.tok (b::x)).1).length<f:=by rw[List.length_drop];omega
           have ha:i+(S.tok (b::x)).1-begin+1=i-begin+1+(S.tok (b::x)).1:=by omega
           by_cases h6:(S.tok (b::x)).2.1=6
           · rw[if_pos h6,qg0 s hs m f begin (i+(S.tok (b::x)).1) line _ L _ xs hsp2 (by omega) (by omega) (by omega) (by rw[List.length_append];simp only[List.length_cons,List.length_nil];omega) (by omega) hfl (by omega),ha,h6,q4m]
           · rw[if_neg h6,qg0 s hs m f begin (i+(S.tok (b::x)).1) line N _ _ xs hsp2 (by omega) (by omega) (by omega) (by omega) (by rw[List.length_append];simp only[List.length_cons,List.length_nil];omega) hfl (by omega),ha,fin_tok _ _ _ _ _ _ _ _ h6]
         · rw[if_neg h0,if_neg h0];rfl
theorem qwj (s:ByteArray) (hs:S.fits s=true):Fz29 LF s=some (S.readG s,()):=by
 have hsz:=qbg hs
 obtain⟨x,xs,e⟩:=qpi (qaa s)
 have:=qg0 s hs LF (x.length+1) 0 0 1 [] [] x xs e (Nat.le_refl _) (Nat.zero_le _) (Nat.le_refl _) (Nat.le_refl _) (Nat.le_refl _) (Nat.lt_succ_self _) (by unfold LF;omega)
 refine this.trans ?_
 have e2:S.readL (x::xs) 1=(match (S.pcs (x.length+1) x 1).2 with
   | some (c,e)=>([],(1,Int.ofNat c),e)
   | none=>if (S.readL xs (1+1)).2.2=0 then (S.at_ 1 (S.pcs (x.length+1) x 1).1++(S.readL xs (1+1)).1,(0,0),0) else S.readL xs (1+1)):=rfl
 have e3:S.readG s=S.lexed (S.readL (x::xs) 1):=by unfold S.readG;rw[e]
 rw[e3]
 unfold fin S.lexed
 rw[show (0:Nat)-0+1=1 from rfl,show Int.ofNat 1=(1:Int) from rfl]
 cases h:(S.pcs (x.length+1) x 1).2 with
 | none =>
   rw[h] at e2
   simp only at e2
   by_cases c:(S.readL xs (1+1)).2.2=0
   · rw[if_pos c] at e2
     rw[e2,if_pos rfl]
     simp only
     rw[if_pos c];rfl
   · rw[if_neg c] at e2
     rw[e2,if_neg c]
     simp only
     rw[if_neg c]
 | some y =>
   obtain⟨a,er⟩:=y
   have he:=qcg _ _ _ _ h
   rw[h] at e2
   simp only at e2 he
   rw[e2,if_neg he]
theorem conz29:Con Tryz.prog idz29 spz29:=mkz29 ⟨qxo,qr5,conz6,conz9,qxj,trivial⟩ fun x y hx h=>⟨LF,by
 obtain⟨h1,h2⟩:=qa5 (show cond (S.fits x.1) (some (S.readG x.1,())) none=some y from h)
 exact(qwj x.1 h1).trans (congrArg some h2)⟩
theorem Fz30_eq (lf:Nat) (s:ByteArray) (hs:S.fits s=true):Fz30 lf s=some (S.tokens s,()):=by
 simp only[Fz30,qpu,hs,cond_true,qbl,S.tokens]
 by_cases h1:20000<s.size
 · rw[decide_eq_true h1,cond_true,if_pos h1];rfl
 · rw[decide_eq_false h1,cond_false,if_neg h1]
   by_cases h2:(S.readG s).2.2.2=0
   · rw[ieq_t (show (S.readG s).2.2.2=Int.ofNat 0 from h2),cond_true]
     by_cases h3:6000<(S.readG s).1.length
     · rw[decide_eq_true h3,cond_true,if_pos ⟨h2,h3⟩];rfl
     · rw[decide_eq_false h3,cond_false,if_neg fun h=>h3 h.2]
   · rw[ieq_f (show ¬(S.readG s).2.2.2=Int.ofNat 0 from h2),cond_false,if_neg fun h=>h2 h.1]
theorem conz30:Con Tryz.prog idz30 spz30:=mkz30 ⟨conz29,trivial⟩ fun x y hx h=>⟨0,by
 obtain⟨h1,h2⟩:=qa5 (show cond (S.fits x.1) (some (S.tokens x.1,())) none=some y from h)
 exact(Fz30_eq 0 x.1 h1).trans (congrArg some h2)⟩
theorem qta:∀(r:List Int) (n:Nat),(∀b∈r,¬b=10)->S.noteGo r n=match r.findIdx? S.badB with|none=>(true,n+r.length)|some i=>(false,n+i)
 | [],n,_=>rfl
 | b::r,n,h=>by
   have ih:=qta r (n+1) fun c hc=>h c (List.mem_cons_of_mem _ hc)
   unfold S.noteGo
   rw[if_neg (h b List.mem_cons_self),List.findIdx?_cons]
   by_cases hb:b<32\/126<b
   · have:S.badB b=true:=by unfold S.badB;rw[Bool.or_eq_true,decide_eq_true_iff,decide_eq_true_iff];exact hb
     rw[if_pos hb,this,if_pos rfl];rfl
   · have:S.badB b=false:=by
       rw[Bool.eq_false_iff];intro e
       unfold S.badB at e
       rw[Bool.or_eq_true,decide_eq_true_iff,decide_eq_true_iff] at e
       exact hb e
     rw[if_neg hb,this,ih]
     simp only[Bool.false_eq_true,if_false]
     cases List.findIdx? S.badB r with
     | none=>simp only[Option.map_none,List.length_cons];rw[show n+1+r.length=n+(r.length+1) by omega]
     | some i=>simp only[Option.map_some];rw[show n+1+i=n+(i+1) by omega]
theorem note2 (r:List Int) (h:[45,45].isPrefixOf r=true) (hn:∀b∈r,¬b=10):S.noteGo (r.drop 2) 2=match r.findIdx? S.badB with|none=>(true,r.length)|some i=>(false,i):=by
 obtain⟨t,rfl⟩:=List.isPrefixOf_iff_prefix.1 h
 show S.noteGo t 2=_
 rw[qta t 2 fun b hb=>hn b (List.mem_append_right _ hb)]
 show _=match (45::45::t:List Int).findIdx? S.badB with|none=>(true,_)|some i=>(false,i)
 rw[List.findIdx?_cons,List.findIdx?_cons,show S.badB 45=false from rfl]
 simp only[Bool.false_eq_true,if_false]
 cases List.findIdx? S.badB t with
 | none=>simp only[Option.map_none];rw[show 2+t.length=([45,45]++t:List Int).length by simp;omega]
 | some i=>simp only[Option.map_some];rw[show 2+i=i+1+1 by omega]
theorem q0h (r:List Int) (hr:∀b∈r,0<=b/\b<256) (h:r[0]?=some 95):S.shape (strOf (r.take (S.runL r)))=(0,2):=by
 cases r with
 | nil=>cases h
 | cons a r =>
   obtain rfl:a=95:=by simpa using h
   have hrun:S.runL (95::r)=S.runL r+1:=rfl
   have ht:(95::r:List Int).take (S.runL (95::r))=95::r.take (S.runL r):=by rw[hrun];rfl
   have hb:qaa (strOf ((95::r:List Int).take (S.runL (95::r))))=95::r.take (S.runL r):=by
     rw[qid fun b hb=>hr b (List.mem_of_mem_take hb),ht]
   have hns:S.has S.signs (strOf ((95::r:List Int).take (S.runL (95::r))))=false:=by
     rw[Bool.eq_false_iff]
     intro e
     obtain⟨x,hx,he⟩:=List.any_eq_true.1 e
     have:S.signs.all (fun x=>!decide ((qaa x)[0]?=some 95))=true:=by decide +kernel
     have h1:=List.all_eq_true.1 this x hx
     rw[show x=_ from qhh he,hb] at h1
     cases h1
   unfold S.shape
   rw[hns,hb]
   simp only[Bool.false_eq_true,if_false,List.getElem?_cons_zero]
   split
   · rfl
   · rfl
theorem q38 (r:List Int) (a:Nat) (hr:∀b∈r,0<=b/\b<256) (hn:∀b∈r,¬b=10):((S.pieceX r a).1.2.2=(S.tok r).2.2.1)/\(S.pieceX r a).1.2.1=Int.ofNat (a+(S.tok r).2.2.2)/\((S.tok r).2.2.1=0->(S.pieceX r a).1.1=((S.tok r).2.1,strOf (r.take (S.tok r).1),0,0)/\(S.pieceX r a).2=(S.tok r).1):=by
 unfold S.pieceX S.tok
 by_cases h1:[45,45].isPrefixOf r=true
 · rw[if_pos h1,if_pos h1,note2 r h1 hn]
   cases List.findIdx? S.badB r with
   | none=>exact⟨rfl,rfl,fun _=>⟨by show (6,strOf r,0,0)=(6,strOf (r.take r.length),0,0);rw[List.take_length],rfl⟩⟩
   | some i=>exact⟨rfl,rfl,fun h=>absurd (show (2:Int)=0 from h) (by decide)⟩
 · rw[if_neg h1,if_neg h1]
   by_cases h2:0<S.runL r
   · rw[if_pos h2]
     by_cases h3:r[0]?=some 95
     · have hsg:(S.signL r).size=0:=by
         rcases qee r with e|⟨e1,e2,e3⟩
         · rw[e];rfl
         · have hs:=qpt e1
           have:S.signs.all (fun x=>!decide ((qaa x)[0]?=some 95))=true:=by decide +kernel
           have h4:=List.all_eq_true.1 this _ e1
           rw[e2,List.getElem?_take,if_pos (by omega),h3] at h4
           cases h4
       rw[if_neg (fun h=>h.2 h3),if_pos hsg,q0h r hr h3]
       exact⟨rfl,rfl,fun h=>absurd (show (2:Int)=0 from h) (by decide)⟩
     · rw[if_pos ⟨h2,h3⟩]
       exact⟨rfl,rfl,fun _=>⟨rfl,rfl⟩⟩
   · rw[if_neg (fun h=>h2 h.1),if_neg h2]
     by_cases h4:(S.signL r).size=0
     · rw[if_pos h4,if_pos h4]
       exact⟨rfl,rfl,fun h=>absurd (show (2:Int)=0 from h) (by decide)⟩
     · rw[if_neg h4,if_neg h4]
       refine⟨rfl,rfl,fun _=>⟨?_,rfl⟩⟩
       rcases qee r with e|⟨e1,e2,e3⟩
       · rw[e] at h4;exact absurd rfl h4
       · show (5,S.signL r,0,0)=(5,strOf (r.take (S.signL r).size),0,0)
         rw[<- e2,qct]
theorem tok_off {r:List Int} (h:(S.tok r).2.2.1=0):(S.tok r).2.2.2=0:=by
 unfold S.tok at h ⊢
 split
 · rename_i h1
   rw[if_pos h1] at h
   cases hc:(S.noteGo (r.drop 2) 2).1 with
   | true=>rfl
   | false=>rw[hc] at h;cases h
 split
 · rfl
 split<;>rfl
theorem qkw (w:Int->Bool) (n:Int):∀(f:Nat) (r:List Int) (a:Nat) (acc:List qab),(∀b∈r,0<=b/\b<256)->(∀b∈r,¬b=10) ->
   S.rdGo w n (S.piecesGo f r a) acc=match (S.pcs f r (a+1)).2 with
     | some (c,e)=>([],some ((n,Int.ofNat c),e))
     | none=>(acc++(S.at_ n (S.pcs f r (a+1)).1).filter (fun t=>w t.1),none)
 | 0,r,a,acc,_,_=>by simp[S.piecesGo,S.rdGo,S.pcs,S.at_]
 | f+1,[],a,acc,_,_=>by simp[S.piecesGo,S.rdGo,S.pcs,S.at_]
 | f+1,b::r,a,acc,hr,hn=>by
   obtain⟨p1,p2,p3⟩:=q38 (b::r) a hr hn
   have hp:S.pcs (f+1) (b::r) (a+1)=if b=32 then S.pcs f r (a+1+1) else if (S.tok (b::r)).2.2.1=0 then (((S.tok (b::r)).2.1,strOf ((b::r).take (S.tok (b::r)).1),a+1)::(S.pcs f ((b::r).drop (S.tok (b::r)).1) (a+1+(S.tok (b::r)).1)).1,(S.pcs f ((b::r).drop (S.tok (b::r)).1) (a+1+(S.tok (b::r)).1)).2) else ([],some (a+1+(S.tok (b::r)).2.2.2,(S.tok (b::r)).2.2.1)):=rfl
   have hq:S.piecesGo (f+1) (b::r) a=if b=32 then S.piecesGo f r (a+1) else if (S.pieceX (b::r) a).1.2.2=0 then (S.pieceX (b::r) a).1::S.piecesGo f ((b::r).drop (S.pieceX (b::r) a).2) (a+(S.pieceX (b::r) a).2) else [(S.pieceX (b::r) a).1]:=rfl
   rw[hp,hq]
   by_cases h32:b=32
   · rw[if_pos h32,if_pos h32]
     exact qkw w n f r (a+1) acc (fun c hc=>hr c (List.mem_cons_of_mem _ hc)) (fun c hc=>hn c (List.mem_cons_of_mem _ hc))
   · rw[if_neg h32,if_neg h32]
     by_cases h0:(S.tok (b::r)).2.2.1=0
     · obtain⟨e1,e2⟩:=p3 h0
       have h0':(S.pieceX (b::r) a).1.2.2=0:=p1.trans h0
       rw[if_pos h0,if_pos h0']
       have hrd:∀(p:qa7) l ac,p.2.2=0->S.rdGo w n (p::l) ac=S.rdGo w n l (cond (w p.1.1) (ac++[(p.1.1,p.1.2.1,n,1+p.2.1)]) ac):=fun p l ac h=>by
         show (if p.2.2=0 then _ else _)=_
         rw[if_pos h]
       rw[hrd _ _ _ h0',e2,qkw w n f _ (a+(S.tok (b::r)).1) _ (fun c hc=>hr c (List.mem_of_mem_drop hc)) (fun c hc=>hn c (List.mem_of_mem_drop hc)),show a+(S.tok (b::r)).1+1=a+1+(S.tok (b::r)).1 by omega]
       cases (S.pcs f ((b::r).drop (S.tok (b::r)).1) (a+1+(S.tok (b::r)).1)).2 with
       | some x=>rfl
       | none =>
         simp only
         rw[p2,e1]
         have hz:(S.tok (b::r)).2.2.2=0:=tok_off h0
         rw[hz]
         have hcol:1+Int.ofNat (a+0)=Int.ofNat (a+1):=by show 1+((a+0:Nat):Int)=((a+1:Nat):Int);omega
         rw[hcol]
         simp only[S.at_,List.map_cons,List.filter_cons]
         cases w (S.tok (b::r)).2.1<;>simp
     · have h0':¬(S.pieceX (b::r) a).1.2.2=0:=fun h=>h0 (p1.symm.trans h)
       rw[if_neg h0,if_neg h0']
       have hrd:S.rdGo w n [(S.pieceX (b::r) a).1] acc=([],some ((n,1+(S.pieceX (b::r) a).1.2.1),(S.pieceX (b::r) a).1.2.2)):=by
         show (if (S.pieceX (b::r) a).1.2.2=0 then _ else _)=_
         rw[if_neg h0']
       rw[hrd,p1,p2]
       have hcol:1+Int.ofNat (a+(S.tok (b::r)).2.2.2)=Int.ofNat (a+1+(S.tok (b::r)).2.2.2):=by show 1+((a+_:Nat):Int)=((a+1+_:Nat):Int);omega
       rw[hcol]
theorem qoj {b:Int} {r:List Int} {a:Nat} (h:(S.pieceX (b::r) a).1.2.2=0):1<=(S.pieceX (b::r) a).2:=by
 revert h
 unfold S.pieceX
 split
 · intro _
   cases List.findIdx? S.badB (b::r)<;>simp
 split
 · rename_i h2;intro _;exact h2.1
 split
 · intro h;exact absurd (show (2:Int)=0 from h) (by decide)
 · rename_i h;intro _;simp only;omega
theorem qkq:∀(n f g:Nat) (r:List Int) (a:Nat),r.length<=n->r.length<f->r.length<g->S.piecesGo f r a=S.piecesGo g r a
 | _,0,_,_,_,_,h,_=>by omega
 | _,_,0,_,_,_,_,h=>by omega
 | n,f+1,g+1,[],a,_,_,_=>rfl
 | 0,f+1,g+1,b::r,a,h,_,_=>by simp at h
 | n+1,f+1,g+1,b::r,a,h,hf,hg=>by
   simp only[List.length_cons] at h hf hg
   show (if b=32 then S.piecesGo f r (a+1) else if (S.pieceX (b::r) a).1.2.2=0 then (S.pieceX (b::r) a).1::S.piecesGo f ((b::r).drop (S.pieceX (b::r) a).2) (a+(S.pieceX (b::r) a).2) else [(S.pieceX (b::r) a).1])=(if b=32 then S.piecesGo g r (a+1) else if (S.pieceX (b::r) a).1.2.2=0 then (S.pieceX (b::r) a).1::S.piecesGo g ((b::r).drop (S.pieceX (b::r) a).2) (a+(S.pieceX (b::r) a).2) else [(S.pieceX (b::r) a).1])
   by_cases h32:b=32
   · rw[if_pos h32,if_pos h32]
     exact qkq n f g r (a+1) (by omega) (by omega) (by omega)
   · rw[if_neg h32,if_neg h32]
     by_cases h0:(S.pieceX (b::r) a).1.2.2=0
     · have:=qoj h0
       rw[if_pos h0,if_pos h0,qkq n f g ((b::r).drop (S.pieceX (b::r) a).2) (a+(S.pieceX (b::r) a).2) (by rw[List.length_drop,List.length_cons];omega) (by rw[List.length_drop,List.length_cons];omega) (by rw[List.length_drop,List.length_cons];omega)]
     · rw[if_neg h0,if_neg h0]
def qyr (x:qa7):Value:=.agg #[.int .i64 x.1.1,.string x.1.2.1,.int .i64 x.1.2.2.1,.int .i64 x.1.2.2.2,.int .i64 x.2.1,.int .i64 x.2.2]
def leftP (s:ByteArray) (a:Nat):List qa7:=S.piecesGo (s.size+1) ((qaa s).drop a) a
theorem q0e (s:ByteArray) {a:Nat} (h:s.size<=a):leftP s a=[]:=by
 unfold leftP
 rw[List.drop_eq_nil_of_le (by rw[qae];exact h)];rfl
theorem qy4 (s:ByteArray) {a:Nat} {b:Int} {r:List Int} (hd:(qaa s).drop a=b::r):leftP s a=if b=32 then leftP s (a+1) else if (S.pieceX (b::r) a).1.2.2=0 then (S.pieceX (b::r) a).1::leftP s (a+(S.pieceX (b::r) a).2) else [(S.pieceX (b::r) a).1]:=by
 have hlen:r.length+1<=s.size:=by
   have:=congrArg List.length hd
   rw[List.length_drop,qae,List.length_cons] at this
   omega
 have e1:(qaa s).drop (a+1)=r:=by rw[<- List.drop_drop,hd];rfl
 have e2:(qaa s).drop (a+(S.pieceX (b::r) a).2)=(b::r).drop (S.pieceX (b::r) a).2:=by rw[<- List.drop_drop,hd]
 unfold leftP
 rw[hd,e1,e2]
 show (if b=32 then S.piecesGo s.size r (a+1) else if (S.pieceX (b::r) a).1.2.2=0 then (S.pieceX (b::r) a).1::S.piecesGo s.size ((b::r).drop (S.pieceX (b::r) a).2) (a+(S.pieceX (b::r) a).2) else [(S.pieceX (b::r) a).1])=_
 rw[qkq r.length s.size (s.size+1) r (a+1) (Nat.le_refl _) (by omega) (by omega)]
 by_cases h0:(S.pieceX (b::r) a).1.2.2=0
 · have:=qoj h0
   rw[qkq r.length s.size (s.size+1) ((b::r).drop (S.pieceX (b::r) a).2) (a+(S.pieceX (b::r) a).2) (by rw[List.length_drop,List.length_cons];omega) (by rw[List.length_drop,List.length_cons];omega) (by rw[List.length_drop,List.length_cons];omega)]
 · rw[if_neg h0,if_neg h0]
theorem qwi {r:List Int} {a:Nat} (h:(S.pieceX r a).1.2.2=0):(S.pieceX r a).2<=r.length:=by
 revert h
 unfold S.pieceX
 split
 · cases List.findIdx? S.badB r<;>simp
 split
 · intro _;exact qg4 r
 split
 · intro h;exact absurd (show (2:Int)=0 from h) (by decide)
 · rename_i h
   intro _
   rcases qee r with e|⟨_,_,e⟩
   · rw[e] at h;exact absurd rfl h
   · exact e
def qf4 (x:qa7):List Value:=[.int .i64 x.1.1,.string x.1.2.1,.int .i64 x.1.2.2.1,.int .i64 x.1.2.2.2,.int .i64 x.2.1,.int .i64 x.2.2]
theorem qhd {s:ByteArray} {a n:Nat} {b:Int} {x:qa7} (hd:(qaa s).drop a=b::(qaa s).drop (a+1)) (h32:¬b=32) (hx:S.pieceX ((qaa s).drop a) a=(x,n)) :
   leftP s a=(if x.2.2=0 then x::leftP s (a+n) else [x])/\(x.2.2=0->1<=n/\a+n<=s.size):=by
 have hl:((qaa s).drop a).length=s.size-a:=by rw[List.length_drop,qae]
 have hp:0<((qaa s).drop a).length:=by rw[hd];simp
 constructor
 · rw[qy4 s hd,if_neg h32,<- hd,hx]
 · intro h0
   have e:(S.pieceX ((qaa s).drop a) a).1.2.2=0:=by rw[hx];exact h0
   have h1:=qwi e
   rw[hd] at e
   have h2:=qoj e
   rw[<- hd,hx] at h2
   rw[hx] at h1
   simp only at h1 h2
   omega
theorem qpn:Fld Tryz.prog 49 0 0:=Fld.mk (F := ⟨"Kind", 3,0, false, "", "", 0⟩) ty49 rfl ty3
theorem qgz:Fld Tryz.prog 49 1 1:=Fld.mk (F := ⟨"Text", 9,1, false, "", "", 8⟩) ty49 rfl ty9
theorem qde:Fld Tryz.prog 108 0 0:=Fld.mk (F := ⟨"Token", 49,0, true, "", "", 0⟩) ty108 rfl ty49
theorem qp3:Fld Tryz.prog 108 2 5:=Fld.mk (F := ⟨"err", 29,5, false, "", "cosigner/lex", 48⟩) ty108 rfl ty29
section
attribute [local irreducible] Go.wpList Go.wpQuiet Go.Code.wp
theorem it110S {b:Nat} {s:ByteArray} {cs0:List Value} (hs:s.size<9223372036854775807):IterS Tryz.prog 88 [.pointer (some ⟨b,0,none⟩)] (fun A=>Box A b (.string s::cs0)/\Gl [] A) (fun(x:qa7) u=>u=qyr x) (S.pieces s):=by
 intro l J K W hJ hKu hR hy h0
 have hM:∀{p A},J p A->Box A b (.string s::cs0)/\Gl [] A:=fun h=>hR _ _ h
 refine callsIn_wide.2 (Calls.mono (R:=Ret fun v B=>v=.tuple #[]/\(J (S.pieces s) B\/K B)) ?_ (fun e B h=>by cases e<;>first|exact⟨by rw[h.1],h.2⟩|exact h.elim))
 refine(enter (l:=[.func (.yield l) #[] #[],.pointer (some ⟨b,0,none⟩)]) Tryz.func88 rfl Tryz.ntmps88 rfl ?_)
 refine c_seq fun K1 hK1=>?_
 refine c_reg ?_
 refine qbp (v:=.int .i64 0) rfl rfl rfl ?_
 refine wpList_nil ?_
 refine hK1 _ _ ?_
 refine wp_block ?_
 refine c_loop (X:=Nat × List qa7) ((List.range 91).drop 2) (fun x=>[(3,.int .i64 (x.1:Int))]) (fun x w1=>x.1<=s.size/\S.pieces s=x.2++leftP s x.1/\J x.2 w1) (fun x=>s.size-x.1) (0,[]) ⟨rfl,trivial⟩ ⟨Nat.zero_le _,rfl,h0⟩ ?_
 rintro⟨at_,pre⟩ τ w1 ⟨hk,hsp,hj⟩
 refine c_seq fun K2 hK2=>?_
 refine c_seq fun K3 hK3=>?_
 refine c_reg ?_
 refine qaw (v:=.int .i64 (at_:Int)) rfl rfl rfl ?_
 refine qgb (v:=.string s) ty9 rfl rfl rfl rfl (hM hj).1 rfl ?_
 refine qof ty9.und rfl rfl rfl ?_
 refine op_lss rfl rfl rfl rfl ?_
 refine wpList_nil ?_
 refine hK3 _ _ ?_
 refine c_if rfl rfl (fun hb=>?_) (fun hb=>?_)
 · refine wp_skip ?_
   refine hK2 _ _ ?_
   have hlt:at_<s.size:=by omega
   refine wp_block ?_
   refine c_seq fun K4 hK4=>?_
   refine c_reg ?_
   refine qgb (v:=.string s) ty9 rfl rfl rfl rfl (hM hj).1 rfl ?_
   refine qaw (v:=.int .i64 (at_:Int)) rfl rfl rfl ?_
   refine q2p ty9.und rfl rfl rfl rfl hk ?_
   refine qbp (v:=.string (s.extract at_ s.size)) rfl rfl rfl ?_
   refine wpList_nil ?_
   refine hK4 _ _ ?_
   have szs116:Szs Tryz.prog 108 [(0,4),(4,1),(5,1)]:=qy0 ttOK (ty:=108) rfl rfl rfl
   refine c_seq fun K5 hK5=>?_
   refine c_reg ?_
   refine qaw (v:=.int .i64 (at_:Int)) rfl rfl rfl ?_
   refine qsd (r:=[.int .i64 0,.string ⟨#[]⟩,.int .i64 0,.int .i64 0,.int .i64 (at_:Int),.int .i64 0]) ty108 szs116 rfl rfl rfl rfl rfl ?_
   refine q32 (zs:=[.int .i64 0,.string ⟨#[]⟩,.int .i64 0,.int .i64 0,.int .i64 0,.int .i64 0]) ty108 rfl rfl fun β w2 hβ u2 hz2 hx2=>?_
   refine qcc (v:=.agg #[.int .i64 0,.string ⟨#[]⟩,.int .i64 0,.int .i64 0,.int .i64 (at_:Int),.int .i64 0]) (cs':=[.int .i64 0,.string ⟨#[]⟩,.int .i64 0,.int .i64 0,.int .i64 (at_:Int),.int .i64 0]) ty108 rfl rfl rfl rfl hx2 rfl rfl rfl fun w3 u3 hz3 hx3=>?_
   refine wpList_nil ?_
   refine hK5 _ _ ?_
   have hext:∀{w4:World},Upd [β] w2 w4->Upd [] w1 w4:=fun u4=>⟨u4.os.trans u2.os,u4.tape.trans u2.tape,u4.output.trans u2.output,Nat.le_trans u2.size u4.size,fun x hx hn=>(u4.same x (Nat.lt_of_lt_of_le hx u2.size) (by simp;omega)).trans (u2.same x hx (by simp))⟩
   have hj3:J pre w3:=hJ _ _ _ hj (hext u3)
   have hsz:(s.extract at_ s.size).size<9223372036854775808:=by rw[ByteArray.size_extract];omega
   refine c_seq fun K6 hK6=>?_
   refine c_reg ?_
   refine qaw (v:=.string (s.extract at_ s.size)) rfl rfl rfl ?_
   refine qgf (l:=[.tmp 17]) (args:=[.string (s.extract at_ s.size)]) cal89 rfl rfl rfl (qzz w3 (hM hj3).2 _ hsz) ?_
   rintro _ w4 ⟨rfl,u4⟩
   refine qbp (v:=.int .i64 (Int.ofNat (S.runL (qaa (s.extract at_ s.size))))) rfl rfl rfl ?_
   refine wpList_nil ?_
   refine hK6 _ _ ?_
   have hj4:J pre w4:=hJ _ _ _ hj3 u4
   have hrs:0<(s.extract at_ s.size).size:=by rw[ByteArray.size_extract];omega
   obtain⟨b0,hd,hb0⟩:∃b0,(qaa s).drop at_=b0::(qaa s).drop (at_+1)/\((qcd (s.extract at_ s.size) 0).toNat:Int)=b0:=by
     have h1:at_<(qaa s).length:=by rw[qae];exact hlt
     refine⟨_,List.drop_eq_getElem_cons h1,?_⟩
     have h2:(qaa (s.extract at_ s.size))[0]?=some (qaa s)[at_]:=by
       rw[qkp s at_ s.size (Nat.le_refl _),List.getElem?_drop];exact List.getElem?_eq_getElem h1
     rw[qdj hrs] at h2
     have h3:=Option.some.inj h2
     rw[<- h3]
     unfold qcd
     rw[List.getD_eq_getElem?_getD,List.getElem?_eq_getElem (by simpa using hrs)]
     rfl
   have hru:qaa (s.extract at_ s.size)=(qaa s).drop at_:=qkp s at_ s.size (Nat.le_refl _)
   have szs116':Szs Tryz.prog 108 [(0,4),(4,1),(5,1)]:=szs116
   refine c_cut ((List.range 91).drop 6) (fun x:qa7 × Nat=>[(6,.int .i64 (x.2:Int))]) (fun x w5=>(Upd [] w1 w5/\Box w5 β (qf4 x.1))/\leftP s at_=(if x.1.2.2=0 then x.1::leftP s (at_+x.2) else [x.1])/\(x.1.2.2=0->1<=x.2/\at_+x.2<=s.size)) ?_ ?_
   refine wp_block ?_
   refine c_seq fun K8 hK8=>?_
   refine c_reg ?_
   refine qaw (v:=.string (s.extract at_ s.size)) rfl rfl rfl ?_
   refine qrp (j:=0) ty9.und rfl rfl rfl rfl hrs ?_
   refine op_eq rfl rfl rfl rfl ?_
   refine qbp rfl rfl rfl ?_
   refine wpList_nil ?_
   refine hK8 _ _ ?_
   refine c_if rfl rfl (fun h32=>?_) (fun h32=>?_)
   · refine c_seq fun K9 hK9=>?_
     refine c_reg ?_
     refine qaw (v:=.int .i64 (at_:Int)) rfl rfl rfl ?_
     refine qo7 rfl rfl rfl rfl (by omega) ?_
     refine qbp (v:=.int .i64 ((at_:Int)+1)) rfl rfl rfl ?_
     refine wpList_nil ?_
     refine hK9 _ _ ?_
     refine wp_exit ?_
     have hl:leftP s at_=leftP s (at_+1):=by rw[qy4 s hd,if_pos (hb0.symm.trans h32)]
     exact⟨(at_+1,pre),by show s.size-(at_+1)<s.size-at_;omega,⟨hlt,by rw[<- hl];exact hsp,hj4⟩,_,rfl,(by repeat first|exact agree.refl _ _|refine agree.upd rfl ?_|refine agree.upds rfl ?_|refine agree.mix rfl ?_),rfl,trivial⟩
   · have h32':¬((qcd (s.extract at_ s.size) 0).toNat:Int)=32:=h32
     have hb32:¬b0=32:=fun e=>h32 (hb0.trans e)
     have hu4:Upd [] w1 w4:=(hext u3).trans u4
     have hgl4:Gl [] w4:=(hM hj4).2
     have hx4:Box w4 β [.int .i64 0,.string ⟨#[]⟩,.int .i64 0,.int .i64 0,.int .i64 (at_:Int),.int .i64 0]:=hx3.mono0 u4
     have hβ1:w1.heap.size<=β:=by omega
     have hupd:∀{v5 v6:World},Upd [] w1 v5->Upd [β] v5 v6->Upd [] w1 v6:=fun u5 u6=>⟨u6.os.trans u5.os,u6.tape.trans u5.tape,u6.output.trans u5.output,Nat.le_trans u5.size u6.size,fun x hx hn=>(u6.same x (Nat.lt_of_lt_of_le hx u5.size) (by simp;omega)).trans (u5.same x hx (by simp))⟩
     refine c_seq fun K9 hK9=>?_
     refine c_reg ?_
     refine qaw (v:=.string (s.extract at_ s.size)) rfl rfl rfl ?_
     refine qgf (l:=[.tmp 39,.const (.string ⟨#[45,45]⟩)]) (args:=[.string (s.extract at_ s.size),.string ⟨#[45,45]⟩]) cal90 rfl rfl rfl (q4d w4 hgl4 _ _ hsz (by decide)) ?_
     rintro _ w5 ⟨rfl,u5⟩
     have hx5:=hx4.mono0 u5
     have hu5:Upd [] w1 w5:=hu4.trans u5
     have hgl5:Gl [] w5:=(hM (hJ _ _ _ hj4 u5)).2
     refine qbp (v:=.bool (S.isPre (s.extract at_ s.size) ⟨#[45,45]⟩)) rfl rfl rfl ?_
     refine wpList_nil ?_
     refine hK9 _ _ ?_
     have hpe:S.isPre (s.extract at_ s.size) ⟨#[45,45]⟩=[45,45].isPrefixOf ((qaa s).drop at_):=by
       unfold S.isPre
       rw[hru];rfl
     refine c_if (p:=[45,45].isPrefixOf ((qaa s).drop at_)=true) rfl (by show Value.bool (S.isPre _ _)=_;rw[hpe,Bool.decide_eq_true]) (fun hp=>?_) (fun hp=>?_)
     · -- a comment
       refine c_seq fun K10 hK10=>?_
       refine c_reg ?_
       refine qaw (v:=.string (s.extract at_ s.size)) rfl rfl rfl ?_
       refine qbd qde rfl rfl rfl ?_
       refine qbd qpn rfl rfl rfl ?_
       refine qcc (v:=.int .i64 6) (cs':=[.int .i64 6,.string ⟨#[]⟩,.int .i64 0,.int .i64 0,.int .i64 (at_:Int),.int .i64 0]) ty3 rfl rfl rfl rfl hx5 rfl rfl rfl fun w6 u6 hz6 hx6=>?_
       refine qbd qde rfl rfl rfl ?_
       refine qbd qgz rfl rfl rfl ?_
       refine qcc (v:=.string (s.extract at_ s.size)) (cs':=[.int .i64 6,.string (s.extract at_ s.size),.int .i64 0,.int .i64 0,.int .i64 (at_:Int),.int .i64 0]) ty9 rfl rfl rfl rfl hx6 rfl rfl rfl fun w7 u7 hz7 hx7=>?_
       refine wpList_nil ?_
       refine hK10 _ _ ?_
       have hu7:Upd [] w1 w7:=hupd (hupd hu5 u6) u7
       have hgl7:Gl [] w7:=(hM (hJ _ _ _ hj hu7)).2
       refine c_seq fun K11 hK11=>?_
       refine c_reg ?_
       refine qaw (v:=.string (s.extract at_ s.size)) rfl rfl rfl ?_
       refine qof ty9.und rfl rfl rfl ?_
       refine qbp rfl rfl rfl ?_
       refine wpList_nil ?_
       refine hK11 _ _ ?_
       refine c_seq fun K12 hK12=>?_
       refine c_reg ?_
       refine qaw (v:=.string (s.extract at_ s.size)) rfl rfl rfl ?_
       refine qgf (l:=[.tmp 48,.func 92]) (args:=[.string (s.extract at_ s.size),.func (.func 92) #[] #[]]) cal91 rfl rfl rfl (q3k w7 hgl7 _ hsz) ?_
       rintro _ w8 ⟨rfl,u8⟩
       have hx8:=hx7.mono0 u8
       have hu8:Upd [] w1 w8:=hu7.trans u8
       refine qbp rfl rfl rfl ?_
       refine wpList_nil ?_
       refine hK12 _ _ ?_
       refine c_seq fun K13 hK13=>?_
       refine c_reg ?_
       refine qaw rfl rfl rfl ?_
       refine op_geq rfl rfl rfl rfl ?_
       refine wpList_nil ?_
       refine hK13 _ _ ?_
       have hnl:((s.extract at_ s.size).size:Nat)=((qaa s).drop at_).length:=by rw[<- hru,qae]
       refine c_if rfl rfl (fun hi=>?_) (fun hi=>?_)
       · obtain⟨i,hi1⟩:∃i,((qaa s).drop at_).findIdx? S.badB=some i:=by
           cases hf:((qaa s).drop at_).findIdx? S.badB with
           | some i=>exact⟨i,rfl⟩
           | none =>
             have hi:(0:Int)<=Go.Jx.S.idx S.badB (qaa (s.extract at_ s.size)):=hi
             rw[hru] at hi
             unfold Go.Jx.S.idx at hi
             rw[hf] at hi
             exact absurd hi (by decide)
         have hii:Go.Jx.S.idx S.badB (qaa (s.extract at_ s.size))=(i:Int):=by
           rw[hru]
           unfold Go.Jx.S.idx
           rw[hi1];rfl
         have hil:i<((qaa s).drop at_).length:=(List.findIdx?_eq_some_iff_findIdx_eq.1 hi1).1
         rw[List.length_drop,qae] at hil
         refine c_reg ?_
         refine qaw (v:=.int .i64 (at_:Int)) rfl rfl rfl ?_
         refine qaw (v:=.int .i64 (i:Int)) rfl rfl (congrArg (Value.int .i64) hii) ?_
         refine qo7 rfl rfl rfl rfl (by omega) ?_
         refine qsd (r:=[.int .i64 0,.string ⟨#[]⟩,.int .i64 0,.int .i64 0,.int .i64 ((at_:Int)+(i:Int)),.int .i64 2]) ty108 szs116 rfl rfl rfl rfl rfl ?_
         refine qcc (v:=.agg #[.int .i64 0,.string ⟨#[]⟩,.int .i64 0,.int .i64 0,.int .i64 ((at_:Int)+(i:Int)),.int .i64 2]) (cs':=qf4 ((0,S.lit [],0,0),Int.ofNat (at_+i),2)) ty108 rfl rfl rfl rfl hx8 rfl rfl rfl fun w9 u9 hz9 hx9=>?_
         refine wpList_nil ?_
         have hpx:S.pieceX ((qaa s).drop at_) at_=(((0,S.lit [],0,0),Int.ofNat (at_+i),2),((qaa s).drop at_).length):=by
           unfold S.pieceX
           rw[if_pos hp,hi1]
         exact⟨(((0,S.lit [],0,0),Int.ofNat (at_+i),2),((qaa s).drop at_).length),⟨⟨hupd hu8 u9,hx9⟩,qhd hd hb32 hpx⟩,_,rfl,(by repeat first|exact agree.refl _ _|refine agree.upd rfl ?_|refine agree.upds rfl ?_|refine agree.mix rfl ?_),congrArg (fun m:Nat=>Value.int .i64 (m:Int)) hnl,trivial⟩
       · have hf:((qaa s).drop at_).findIdx? S.badB=none:=by
           cases hf:((qaa s).drop at_).findIdx? S.badB with
           | none=>rfl
           | some i =>
             refine absurd ?_ hi
             show (0:Int)<=Go.Jx.S.idx S.badB (qaa (s.extract at_ s.size))
             rw[hru]
             unfold Go.Jx.S.idx
             rw[hf]
             exact Int.natCast_nonneg i
         refine wp_skip ?_
         have hstr:strOf ((qaa s).drop at_)=s.extract at_ s.size:=by rw[<- hru,qct]
         have hpx:S.pieceX ((qaa s).drop at_) at_=(((6,s.extract at_ s.size,0,0),Int.ofNat at_,0),((qaa s).drop at_).length):=by
           unfold S.pieceX
           rw[if_pos hp,hf,hstr]
         exact⟨(((6,s.extract at_ s.size,0,0),Int.ofNat at_,0),((qaa s).drop at_).length),⟨⟨hu8,hx8⟩,qhd hd hb32 hpx⟩,_,rfl,(by repeat first|exact agree.refl _ _|refine agree.upd rfl ?_|refine agree.upds rfl ?_|refine agree.mix rfl ?_),congrArg (fun m:Nat=>Value.int .i64 (m:Int)) hnl,trivial⟩
     · -- no comment
       have hrun:S.runL (qaa (s.extract at_ s.size))=S.runL ((qaa s).drop at_):=by rw[hru]
       have h95:(((qaa s).drop at_)[0]?=some 95)↔((qcd (s.extract at_ s.size) 0).toNat:Int)=95:=by
         rw[hd,hb0];simp
       by_cases c17:0<S.runL ((qaa s).drop at_)/\¬((qaa s).drop at_)[0]?=some 95
       · refine c_seq fun K10 hK10=>?_
         refine c_reg ?_
         refine qaw (v:=.int .i64 (Int.ofNat (S.runL (qaa (s.extract at_ s.size))))) rfl rfl rfl ?_
         refine qvy rfl rfl rfl rfl ?_
         refine qaw (v:=.bool true) rfl rfl (congrArg Value.bool (decide_eq_true (by rw[hrun];show (0:Int)<((S.runL _:Nat):Int);omega))) ?_
         refine qaw (v:=.string (s.extract at_ s.size)) rfl rfl rfl ?_
         refine qrp (j:=0) ty9.und rfl rfl rfl rfl hrs ?_
         refine qmv rfl rfl rfl rfl ?_
         refine qov (v:=.bool true) rfl rfl rfl (congrArg Value.bool (decide_eq_true (fun e=>c17.2 (h95.2 e)))) ?_
         refine qbp (v:=.bool true) rfl rfl rfl ?_
         refine wpList_nil ?_
         refine hK10 _ _ ?_
         refine c_ifT rfl rfl ?_
         refine c_seq fun K11 hK11=>?_
         refine c_reg ?_
         have hrl:S.runL (qaa (s.extract at_ s.size))<=(s.extract at_ s.size).size:=by have h:=qg4 (qaa (s.extract at_ s.size));rw[qae] at h;exact h
         refine qaw (v:=.string (s.extract at_ s.size)) rfl rfl rfl ?_
         refine qaw (v:=.int .i64 ((S.runL (qaa (s.extract at_ s.size)):Nat):Int)) rfl rfl rfl ?_
         refine q2i (k:=S.runL (qaa (s.extract at_ s.size))) ty9.und rfl rfl rfl rfl hrl ?_
         refine qbd qde rfl rfl rfl ?_
         refine qbd qgz rfl rfl rfl ?_
         obtain⟨tx,htx⟩:∃tx,tx=(s.extract at_ s.size).extract 0 (S.runL (qaa (s.extract at_ s.size))):=⟨_,rfl⟩
         refine qcc (v:=.string tx) (cs':=[.int .i64 0,.string tx,.int .i64 0,.int .i64 0,.int .i64 (at_:Int),.int .i64 0]) ty9 rfl rfl rfl (congrArg Value.string htx.symm) hx5 rfl rfl rfl fun w6 u6 hz6 hx6=>?_
         refine wpList_nil ?_
         refine hK11 _ _ ?_
         have hu6:Upd [] w1 w6:=hupd hu5 u6
         have htz:tx.size<9223372036854775808:=by rw[htx,ByteArray.size_extract];omega
         have hts:strOf (((qaa s).drop at_).take (S.runL ((qaa s).drop at_)))=tx:=by
           rw[htx,<- hru,<- qha,qct]
         refine c_reg ?_
         refine qbd qde rfl rfl rfl ?_
         refine qbd qgz rfl rfl rfl ?_
         refine qgb (v:=.string tx) ty9 rfl rfl rfl rfl hx6 rfl ?_
         refine qgf (l:=[.tmp 72]) (args:=[.string tx]) cal73 rfl rfl rfl (q5s w6 (hM (hJ _ _ _ hj hu6)).2 tx htz) ?_
         rintro _ w7 ⟨rfl,u7⟩
         have hx7:=hx6.mono0 u7
         refine qaw rfl rfl rfl ?_
         refine qwy (v:=.int .i64 (S.shape tx).1) rfl rfl rfl rfl ?_
         refine qwy (v:=.int .i64 (S.shape tx).2) rfl rfl rfl rfl ?_
         refine qbd qde rfl rfl rfl ?_
         refine qbd qpn rfl rfl rfl ?_
         refine qcc (v:=.int .i64 (S.shape tx).1) (cs':=[.int .i64 (S.shape tx).1,.string tx,.int .i64 0,.int .i64 0,.int .i64 (at_:Int),.int .i64 0]) ty3 rfl rfl rfl rfl hx7 rfl rfl rfl fun w8 u8 hz8 hx8=>?_
         refine qbd qp3 rfl rfl rfl ?_
         refine qcc (v:=.int .i64 (S.shape tx).2) (cs':=qf4 (((S.shape tx).1,tx,0,0),Int.ofNat at_,(S.shape tx).2)) ty29 rfl rfl rfl rfl hx8 rfl rfl rfl fun w9 u9 hz9 hx9=>?_
         refine wpList_nil ?_
         have hpx:S.pieceX ((qaa s).drop at_) at_=((((S.shape tx).1,tx,0,0),Int.ofNat at_,(S.shape tx).2),S.runL ((qaa s).drop at_)):=by
           unfold S.pieceX
           rw[if_neg hp,if_pos c17,hts]
         exact⟨((((S.shape tx).1,tx,0,0),Int.ofNat at_,(S.shape tx).2),S.runL ((qaa s).drop at_)),⟨⟨hupd (hupd (hu6.trans u7) u8) u9,hx9⟩,qhd hd hb32 hpx⟩,_,rfl,(by repeat first|exact agree.refl _ _|refine agree.upd rfl ?_|refine agree.upds rfl ?_|refine agree.mix rfl ?_),congrArg (fun m:Nat=>Value.int .i64 (m:Int)) hrun,trivial⟩
       · refine c_cut [56,57,58,59,60,61,62,63] (fun _:Unit=>[(56,.bool false)]) (fun _ w'=>w5=w') ?_ ?_
         · refine c_reg ?_
           refine qaw (v:=.int .i64 (Int.ofNat (S.runL (qaa (s.extract at_ s.size))))) rfl rfl rfl ?_
           refine qvy rfl rfl rfl rfl ?_
           by_cases hr0:0<S.runL ((qaa s).drop at_)
           · have h9:((qcd (s.extract at_ s.size) 0).toNat:Int)=95:=by
               by_cases e:((qaa s).drop at_)[0]?=some 95
               · exact h95.1 e
               · exact absurd ⟨hr0,e⟩ c17
             refine qaw (v:=.bool true) rfl rfl (congrArg Value.bool (decide_eq_true (by rw[hrun];show (0:Int)<((S.runL _:Nat):Int);omega))) ?_
             refine qaw (v:=.string (s.extract at_ s.size)) rfl rfl rfl ?_
             refine qrp (j:=0) ty9.und rfl rfl rfl rfl hrs ?_
             refine qmv rfl rfl rfl rfl ?_
             refine qov (v:=.bool false) rfl rfl rfl (congrArg Value.bool (decide_eq_false (fun e=>e h9))) ?_
             refine qbp (v:=.bool false) rfl rfl rfl ?_
             refine wpList_nil ?_
             exact⟨(),rfl,_,rfl,(by repeat first|exact agree.refl _ _|refine agree.upd rfl ?_|refine agree.upds rfl ?_|refine agree.mix rfl ?_),rfl,trivial⟩
           · refine qaw (v:=.bool false) rfl rfl (congrArg Value.bool (decide_eq_false (by rw[hrun];show ¬(0:Int)<((S.runL _:Nat):Int);omega))) ?_
             refine qfz rfl ?_
             refine qfz rfl ?_
             refine qfz rfl ?_
             refine qw8 (v:=.bool false) rfl rfl rfl rfl ?_
             refine qbp (v:=.bool false) rfl rfl rfl ?_
             refine wpList_nil ?_
             exact⟨(),rfl,_,rfl,(by repeat first|exact agree.refl _ _|refine agree.upd rfl ?_|refine agree.upds rfl ?_|refine agree.mix rfl ?_),rfl,trivial⟩
         · rintro _ τ5 v5 hv5
           subst v5
           refine c_ifF rfl rfl ?_
           refine c_seq fun K11 hK11=>?_
           refine c_reg ?_
           refine qaw (v:=.string (s.extract at_ s.size)) rfl rfl rfl ?_
           refine qgf (l:=[.tmp 19]) (args:=[.string (s.extract at_ s.size)]) cal93 rfl rfl rfl (q4k w5 hgl5 _ hsz) ?_
           rintro _ w6 ⟨rfl,u6⟩
           have hx6:=hx5.mono0 u6
           obtain⟨tx,htx0⟩:∃tx,tx=S.signL (qaa (s.extract at_ s.size)):=⟨_,rfl⟩
           have htx:tx=S.signL ((qaa s).drop at_):=by rw[htx0,hru]
           refine qbd qde rfl rfl rfl ?_
           refine qbd qpn rfl rfl rfl ?_
           refine qcc (v:=.int .i64 5) (cs':=[.int .i64 5,.string ⟨#[]⟩,.int .i64 0,.int .i64 0,.int .i64 (at_:Int),.int .i64 0]) ty3 rfl rfl rfl rfl hx6 rfl rfl rfl fun w7 u7 hz7 hx7=>?_
           refine qbd qde rfl rfl rfl ?_
           refine qbd qgz rfl rfl rfl ?_
           refine qcc (v:=.string tx) (cs':=[.int .i64 5,.string tx,.int .i64 0,.int .i64 0,.int .i64 (at_:Int),.int .i64 0]) ty9 rfl rfl rfl (congrArg Value.string htx0.symm) hx7 rfl rfl rfl fun w8 u8 hz8 hx8=>?_
           refine wpList_nil ?_
           refine hK11 _ _ ?_
           have hu8:Upd [] w1 w8:=hupd (hupd (hu5.trans u6) u7) u8
           refine c_seq fun K12 hK12=>?_
           refine c_reg ?_
           refine qbd qde rfl rfl rfl ?_
           refine qbd qgz rfl rfl rfl ?_
           refine qgb (v:=.string tx) ty9 rfl rfl rfl rfl hx8 rfl ?_
           refine qof ty9.und rfl rfl rfl ?_
           refine qbp rfl rfl rfl ?_
           refine wpList_nil ?_
           refine hK12 _ _ ?_
           refine c_seq fun K13 hK13=>?_
           refine c_reg ?_
           refine qaw rfl rfl rfl ?_
           refine op_eq rfl rfl rfl rfl ?_
           refine wpList_nil ?_
           refine hK13 _ _ ?_
           refine c_if rfl rfl (fun hz=>?_) (fun hz=>?_)
           · have hz:((tx.size:Nat):Int)=0:=hz
             have hz0:tx.size=0:=by omega
             have htl:tx=S.lit []:=by
               apply ByteArray.ext
               exact Array.eq_empty_of_size_eq_zero hz0
             refine c_reg ?_
             refine qbd qp3 rfl rfl rfl ?_
             refine qcc (v:=.int .i64 2) (cs':=qf4 ((5,tx,0,0),Int.ofNat at_,2)) ty29 rfl rfl rfl rfl hx8 rfl rfl rfl fun w9 u9 hz9 hx9=>?_
             refine wpList_nil ?_
             have hpx:S.pieceX ((qaa s).drop at_) at_=(((5,tx,0,0),Int.ofNat at_,2),0):=by
               unfold S.pieceX
               rw[if_neg hp,if_neg c17,<- htx,if_pos hz0,htl]
             exact⟨(((5,tx,0,0),Int.ofNat at_,2),0),⟨⟨hupd hu8 u9,hx9⟩,qhd hd hb32 hpx⟩,_,rfl,(by repeat first|exact agree.refl _ _|refine agree.upd rfl ?_|refine agree.upds rfl ?_|refine agree.mix rfl ?_),congrArg (fun m:Nat=>Value.int .i64 (m:Int)) hz0,trivial⟩
           · have hz:¬((tx.size:Nat):Int)=0:=hz
             refine wp_skip ?_
             have hpx:S.pieceX ((qaa s).drop at_) at_=(((5,tx,0,0),Int.ofNat at_,0),tx.size):=by
               unfold S.pieceX
               rw[if_neg hp,if_neg c17,<- htx,if_neg (by omega)]
             exact⟨(((5,tx,0,0),Int.ofNat at_,0),tx.size),⟨⟨hu8,hx8⟩,qhd hd hb32 hpx⟩,_,rfl,(by repeat first|exact agree.refl _ _|refine agree.upd rfl ?_|refine agree.upds rfl ?_|refine agree.mix rfl ?_),rfl,trivial⟩
   · rintro⟨x,n⟩ τ5 w5 ⟨⟨hu5,hx5⟩,hlp,hn⟩
     have hj5:J pre w5:=hJ _ _ _ hj hu5
     have hsp2:S.pieces s=pre++x::(if x.2.2=0 then leftP s (at_+n) else []):=by
       rw[hsp,hlp]
       split<;>rfl
     refine c_seq fun K7 hK7=>?_
     refine c_seq fun K8 hK8=>?_
     refine(wpIn_wide (n:=0)).1 (wpIn_region_lit (in_take 2 rfl ?lo rfl ?_))
     case lo=>rintro⟨_,_,h⟩;exact(show False from h)
     dsimp only [List.take_succ_cons,List.take_zero,List.drop_succ_cons,List.drop_zero]
     refine qaw (v:=.func (.yield l) #[] #[]) rfl rfl rfl ?_
     refine q6w (ds:=qf4 x) ty108 rfl rfl rfl rfl hx5 rfl rfl ?_
     refine wpList_nil ?_
     refine q33 ?_
     refine q5w rfl rfl rfl rfl rfl (hy _ _ _ w1 _ _ hsp2 hj hu5 (by exact rfl)) ?_
     rintro e w6 ⟨hfr,⟨rfl,hj6⟩|⟨rfl,hk6⟩⟩
     · have hx6:Box w6 β (qf4 x):=by
         obtain⟨t6,ht6⟩:=hx5
         exact⟨t6,(hfr β (by omega) (qaq ht6)).trans ht6⟩
       refine⟨_,rfl,qvm rfl ?lo rfl ?_⟩
       case lo=>rintro⟨_,_,h⟩;exact(show False from h)
       refine qyc rfl rfl rfl ?_
       refine qaw (v:=.bool false) rfl rfl rfl ?_
       refine qbd qp3 rfl rfl rfl ?_
       refine qgb (v:=.int .i64 x.2.2) ty29 rfl rfl rfl rfl hx6 rfl ?_
       refine qmv rfl rfl rfl rfl ?_
       refine qw8 (v:=.bool (decide (x.2.2≠0))) rfl rfl rfl rfl ?_
       refine wpList_nil ?_
       refine hK8 _ _ ?_
       refine c_if rfl rfl (fun he=>?_) (fun he=>?_)
       · rw[if_neg he] at hsp2
         rw[<- hsp2] at hj6
         refine wp_ret ?_
         exact ret0 Tryz.results88 ⟨rfl,.inl hj6⟩
       · have he:x.2.2=0:=Decidable.not_not.1 he
         obtain⟨n1,n2⟩:=hn he
         rw[if_pos he] at hsp2
         refine wp_skip ?_
         refine hK7 _ _ ?_
         refine c_reg ?_
         refine qaw (v:=.int .i64 (at_:Int)) rfl rfl rfl ?_
         refine qaw (v:=.int .i64 (n:Int)) rfl rfl rfl ?_
         refine qo7 rfl rfl rfl rfl (by omega) ?_
         refine qbp (v:=.int .i64 ((at_+n:Nat):Int)) rfl rfl (congrArg (Value.int .i64) (by omega)) ?_
         refine wpList_nil ?_
         exact⟨(at_+n,pre++[x]),by show s.size-(at_+n)<s.size-at_;omega,⟨n2,by show S.pieces s=(pre++[x])++leftP s (at_+n);rw[hsp2,List.append_assoc];rfl,hj6⟩,_,rfl,(by repeat first|exact agree.refl _ _|refine agree.upd rfl ?_|refine agree.upds rfl ?_|refine agree.mix rfl ?_),rfl,trivial⟩
     · refine⟨_,rfl,qvm rfl ?lo rfl ?_⟩
       case lo=>rintro⟨_,_,h⟩;exact(show False from h)
       refine qyc rfl rfl rfl ?_
       refine qaw (v:=.bool true) rfl rfl rfl ?_
       refine qfz rfl ?_
       refine qfz rfl ?_
       refine qfz rfl ?_
       refine qov (v:=.bool true) rfl rfl rfl rfl ?_
       refine wpList_nil ?_
       refine hK8 _ _ ?_
       refine c_ifT rfl rfl ?_
       refine wp_ret ?_
       exact ret0 Tryz.results88 ⟨rfl,.inr hk6⟩
 · refine wp_exit ?_
   have e:pre=S.pieces s:=by
     rw[hsp,q0e s (by omega),List.append_nil]
   rw[e] at hj
   exact ret0n Tryz.results88 ⟨rfl,.inl hj⟩
end
theorem qwk:∀(l:List Int) (n:Int),(S.numGo l n).2=0\/(S.numGo l n).2=3
 | [],n=>.inl rfl
 | b::r,n=>by
   unfold S.numGo
   split
   · exact .inr rfl
   · exact qwk r _
def sml6 (p:Int × Int):Bool:=decide (0<=p.1)&&decide (p.1<=6)&&(decide (0<=p.2)&&decide (p.2<=6))
theorem qzq (s:ByteArray):sml6 (S.word s)=true:=by
 unfold S.word
 split
 · rfl
 split
 · rfl
 split
 · rfl
 split
 · rfl
 split<;>rfl
theorem q3g (s:ByteArray):sml6 (S.shape s)=true:=by
 unfold S.shape
 split
 · rfl
 split
 · rfl
 split
 · rfl
 split
 · rfl
 split
 · split
   · rfl
   · have:(S.number s).2=0\/(S.number s).2=2\/(S.number s).2=3:=by
       unfold S.number
       split
       · exact .inr (.inl rfl)
       split
       · exact .inr (.inl rfl)
       · exact(qwk _ _).imp id .inr
     rcases this with e|e|e<;>(rw[e];rfl)
 · exact qzq s
theorem q4r {p:Int × Int} (h:sml6 p=true):(0<=p.1/\p.1<=6)/\(0<=p.2/\p.2<=6):=by
 unfold sml6 at h
 simp only[Bool.and_eq_true,decide_eq_true_iff] at h
 exact h
def okP (N:Nat) (x:qa7):Prop:=(0<=x.1.1/\x.1.1<=6)/\x.1.2.1.size<=N/\x.1.2.2=(0,0)/\(0<=x.2.1/\x.2.1<=N)/\(0<=x.2.2/\x.2.2<=6)
theorem qjf (l:List Int):(strOf l).size=l.length:=by
 unfold strOf
 simp[ByteArray.size]
theorem qt8 (r:List Int) (a N:Nat) (h:a+r.length<=N):okP N (S.pieceX r a).1:=by
 unfold S.pieceX
 have hz:(S.lit []).size=0:=rfl
 split
 · cases hf:List.findIdx? S.badB r with
   | none=>exact⟨(show (0:Int)<=6/\(6:Int)<=6 by decide),by rw[qjf];omega,rfl,⟨by exact Int.natCast_nonneg a,by show (a:Int)<=N;omega⟩,(show (0:Int)<=0/\(0:Int)<=6 by decide)⟩
   | some i =>
     have hi:i<r.length:=(List.findIdx?_eq_some_iff_findIdx_eq.1 hf).1
     exact⟨(show (0:Int)<=0/\(0:Int)<=6 by decide),by show (S.lit []).size<=N;omega,rfl,⟨by exact Int.natCast_nonneg (a+i),by show ((a+i:Nat):Int)<=N;omega⟩,(show (0:Int)<=2/\(2:Int)<=6 by decide)⟩
 split
 · obtain⟨h1,h2⟩:=q4r (q3g (strOf (r.take (S.runL r))))
   exact⟨h1,by rw[qjf,List.length_take];omega,rfl,⟨by exact Int.natCast_nonneg a,by show (a:Int)<=N;omega⟩,h2⟩
 split
 · exact⟨(show (0:Int)<=5/\(5:Int)<=6 by decide),by show (S.lit []).size<=N;omega,rfl,⟨by exact Int.natCast_nonneg a,by show (a:Int)<=N;omega⟩,(show (0:Int)<=2/\(2:Int)<=6 by decide)⟩
 · refine⟨(show (0:Int)<=5/\(5:Int)<=6 by decide),?_,rfl,⟨by exact Int.natCast_nonneg a,by show (a:Int)<=N;omega⟩,(show (0:Int)<=0/\(0:Int)<=6 by decide)⟩
   show (S.signL r).size<=N
   rcases qee r with e|⟨_,_,e⟩
   · rw[e];exact Nat.zero_le _
   · omega
theorem qh3 (N:Nat):∀(f:Nat) (r:List Int) (a:Nat),a+r.length<=N->∀x∈S.piecesGo f r a,okP N x
 | 0,r,a,_,x,hx=>by cases hx
 | f+1,[],a,_,x,hx=>by cases hx
 | f+1,b::r,a,h,x,hx=>by
   have e:S.piecesGo (f+1) (b::r) a=if b=32 then S.piecesGo f r (a+1) else if (S.pieceX (b::r) a).1.2.2=0 then (S.pieceX (b::r) a).1::S.piecesGo f ((b::r).drop (S.pieceX (b::r) a).2) (a+(S.pieceX (b::r) a).2) else [(S.pieceX (b::r) a).1]:=rfl
   have h':=h
   rw[List.length_cons] at h'
   rw[e] at hx
   split at hx
   · exact qh3 N f r (a+1) (by omega) x hx
   split at hx
   · rename_i h0
     rcases List.mem_cons.1 hx with rfl|hx
     · exact qt8 _ _ _ h
     · have:=qwi h0
       rw[List.length_cons] at this
       exact qh3 N f _ _ (by rw[List.length_drop,List.length_cons];omega) x hx
   · rw[List.mem_singleton.1 hx]
     exact qt8 _ _ _ h
theorem q0a {N:Nat} {x:qa7} (h:okP N x) (hN:N<9223372036854775808) (E:Env):VR E (asIV cLexPiece x) (qyr x):=by
 obtain⟨⟨a1,a2⟩,b,c,⟨d1,d2⟩,e1,e2⟩:=h
 have hw:∀n:Int,0<=n->n<9223372036854775808->VR E (.int .i64 n) (.int .i64 n):=fun n h1 h2=>.int _ _ (qas ⟨by omega,h2⟩)
 have hc1:x.1.2.2.1=0:=by rw[c]
 have hc2:x.1.2.2.2=0:=by rw[c]
 have k:VRs E [.int .i64 x.1.1,.str x.1.2.1,.int .i64 x.1.2.2.1,.int .i64 x.1.2.2.2,.int .i64 x.2.1,.int .i64 x.2.2] [.int .i64 x.1.1,.string x.1.2.1,.int .i64 x.1.2.2.1,.int .i64 x.1.2.2.2,.int .i64 x.2.1,.int .i64 x.2.2] :=
   .cons (hw _ a1 (by omega)) (.cons (.str _ (by omega)) (.cons (hw _ (by omega) (by omega)) (.cons (hw _ (by omega) (by omega)) (.cons (hw _ d1 (by omega)) (.cons (hw _ e1 (by omega)) .nil)))))
 exact VR.agg k.1 k.2
def qqx:SmI:=⟨[.ref (.box [.dat .str])],cLexPiece,fun x=>cond (Nat.blt (ByteArray.size x.1.1) 9223372036854775807) (some (S.pieces x.1.1)) none⟩
theorem qvx:ConI Tryz.prog 88 qqx:=by
 refine⟨cal88,rfl,rfl,fun E x us rows l hl hgl hrd=>?_⟩
 obtain⟨⟨s,_⟩,_⟩:=x
 obtain⟨hs,rfl⟩:=qa5 (show cond (Nat.blt (ByteArray.size s) 9223372036854775807) (some (S.pieces s)) none=some l from hl)
 have hs:s.size<9223372036854775807:=Nat.le_of_ble_eq_true hs
 obtain⟨h1,h2⟩:=hrd
 obtain⟨i,i1,i2,i3,i4⟩:=h2 0 _ rfl
 have i4:OR E i (.row [.str s]):=i4
 obtain⟨cells,t,k1,k2,k3,k4⟩:=i4
 have ha:=h1 (fun k=>rows.getD k 0) 0 (fun j id hj=>by show rows.getD (0+j) 0=id;rw[Nat.zero_add,List.getD_eq_getElem?_getD,hj];rfl)
 obtain⟨u,us',rfl,a1,a2⟩:=VRs.inv (v:=.ptr (rows.getD 0 0) 0) (cs:=[]) ha
 obtain rfl:us'=[]:=List.length_eq_zero_iff.1 a2.1.symm
 have e0:rows.getD 0 0=i:=by rw[List.getD_eq_getElem?_getD,i1];rfl
 rw[e0] at a1
 have hu:u=.pointer (some ⟨E.ρ i,0,none⟩):=by cases a1;rfl
 subst hu
 obtain⟨h0,r0,hc0⟩:∃h0 r0,cells.toList=h0::r0:=by
   cases hc:cells.toList with
   | nil=>have:=congrArg List.length hc;simp at this;simp [this] at k3
   | cons h r=>exact⟨h,r,rfl⟩
 have hv:VR E (.str s) h0:=by
   have:=k4.2 0 (by simp) (by simp[hc0])
   simpa [hc0] using this
 obtain rfl:=qxz hv
 have hin:=List.mem_of_getElem? i1
 refine fun l J K W q1 q2 q3 q4 q5=>it110S (b:=E.ρ i) (s:=s) (cs0:=r0) hs l J K W q1 q2 (fun p A hp=>?_) (fun pre x post A0 A u e j0 ua hu=>q4 pre x post A0 A u e j0 ua fun E'=>?_) q5
 · obtain⟨r1,r2⟩:=q3 p A hp
   refine⟨⟨t,?_⟩,(hgl.mono r1.tr).sub fun b hb=>by cases hb⟩
   rw[r2 i hin,k1,<- hc0]
 · rw[hu]
   refine q0a (N:=s.size) (qh3 s.size (s.size+1) (qaa s) 0 (Nat.le_of_eq ((Nat.zero_add _).trans (qae s))) x ?_) (by omega) E'
   show x∈S.pieces s
   rw[e]
   exact List.mem_append_right _ List.mem_cons_self
def nmz31:Nat->Option Nm:=fun k=>cond (Nat.beq k 3) (some ⟨[4,5,6,7,8,9,12,13,14,15,22,23,24,25,26,27,28,29,30,31,32,33,34,35,36,37,38,39,40,41,42,43,44,45,46,47,48,49],[],[(6,0,cToken),(9,0,cToken)],[],[],0,0,false⟩) (cond (Nat.beq k 999999) (some ⟨[],[],[],[],[],0,0,false⟩) none)
def stz31:Nat->Bool:=fun k=>cond (Nat.beq k 3) true (false)
def hdz31:=stz31
abbrev Rtz31:Type:=((List qab) × qai × Int × Unit) × Unit
def qob:List (Nat × Sm):=[]
def qnp:List (Nat × Hx):=[(88,itRx Tryz.prog ttT.get qqx ⟨[4,5,6,7,8,9,10],[.ref (.box [.dat (.int .i64)]),.ref (.box [.fn 33]),.ref (.box [.arr cToken]),.ref (.box [.dat qal]),.ref (.box [.dat (.int .i64)]),.ref (.box [.arr cToken]),.ref (.box [.dat (.int .i64)])],nmTop⟩ 0)]
def clz31 (R:Type) (lf:Nat):ClK R:=qah Tryz.prog ttT.get ftT.get (fun _ _=>none) (smL qob) (hxL qnp) lf 20 R
abbrev idz31:Nat:=31
def qfq (x1:(List ByteArray)) (x2:Int) (p:Int × Int × Int × Int × (List qab) × Int × (List qab)):NRes:=(NRes.mk (.node none (.node none (.node none (.node (some (IV.ptr 3 0)) (.node (some (IV.int .i64 p.1)) (.node (some IV.unk) .leaf .leaf) (.node (some IV.unk) .leaf .leaf)) (.node (some IV.unk) (.node (some IV.unk) .leaf .leaf) .leaf)) (.node none (.node none (.node (some IV.unk) .leaf .leaf) .leaf) (.node (some IV.unk) (.node (some IV.unk) .leaf .leaf) .leaf))) (.node (some (IV.ptr 1 0)) (.node (some (IV.ptr 5 0)) (.node none (.node (some IV.unk) .leaf .leaf) (.node (some IV.unk) .leaf .leaf)) (.node (some IV.unk) (.node (some IV.unk) .leaf .leaf) .leaf)) (.node (some (IV.lst TC.str x1)) (.node none (.node (some IV.unk) .leaf .leaf) .leaf) (.node (some IV.unk) (.node (some IV.unk) .leaf .leaf) .leaf)))) (.node none (.node (some (IV.ptr 0 0)) (.node (some (IV.ptr 4 0)) (.node none (.node (some IV.unk) .leaf .leaf) (.node (some IV.unk) .leaf .leaf)) (.node (some IV.unk) (.node (some IV.unk) .leaf .leaf) .leaf)) (.node (some IV.unk) (.node none (.node (some IV.unk) .leaf .leaf) .leaf) (.node (some IV.unk) (.node (some IV.unk) .leaf .leaf) .leaf))) (.node (some (IV.ptr 2 0)) (.node none (.node none (.node (some IV.unk) .leaf .leaf) .leaf) (.node (some IV.unk) (.node (some IV.unk) .leaf .leaf) .leaf)) (.node (some (IV.int .i64 (Int.ofNat (List.length x1)))) (.node (some IV.unk) (.node (some IV.unk) .leaf .leaf) .leaf) (.node (some IV.unk) (.node (some IV.unk) .leaf .leaf) .leaf))))) (IS.mk (.node (some (IObj.row (List.cons (IV.int .i64 p.2.1) []))) (.node (some (IObj.row (List.cons (IV.fn 33 []) []))) (.node (some (IObj.row (List.cons (IV.int .i64 p.2.2.1) (List.cons (IV.int .i64 p.2.2.2.1) [])))) (.node (some (IObj.arr cToken p.2.2.2.2.1)) .leaf .leaf) .leaf) (.node (some (IObj.row (List.cons (IV.arr 7) []))) .leaf .leaf)) (.node (some (IObj.row (List.cons (IV.arr 6) []))) (.node (some (IObj.row (List.cons (IV.int .i64 p.2.2.2.2.2.1) []))) .leaf .leaf) (.node (some (IObj.arr cToken p.2.2.2.2.2.2)) .leaf .leaf))) 8) [] 0)
def qto (lf:Nat) (x1:(List ByteArray)) (x2:Int) (L3:(Int × Int × Int × Int × (List qab) × Int × (List qab))->Option Rtz31):Option Rtz31:=(L3 ((Int.ofNat 0),x2,(Int.ofNat 0),(Int.ofNat 0),[],(Int.ofNat 0),[]))
def qgy (lf:Nat) (x1:(List ByteArray)) (x2:Int) (L3:(Int × Int × Int × Int × (List qab) × Int × (List qab))->Option Rtz31) (p:Int × Int × Int × Int × (List qab) × Int × (List qab)):Option Rtz31:=(cond (iltI p.1 (Int.ofNat (List.length x1))) (match (jget x1 p.1) with|.none  => none|.some v0=>(match (cond (Nat.ble (Nat.succ (ByteArray.size v0)) 9223372036854775807) (some (S.pieces v0)) (none:Option (List (El Go.Proofs.YtanenikkloolfaaGreatDoor.cLexPiece)))) with|.none  => none|.some v1=>(match (foldR (fun v2 v3=>(cond (Bool.not (ieqI v3.2.2 (Int.ofNat 0))) (some (((v2.1.1,()),(((),()),(([],()),((((IntKind.i64.wrap (Int.add v2.1.1 v2.2.2.2.2.2.2.1.1)),(IntKind.i64.wrap (Int.add (Int.ofNat 1) v3.2.1))),()),((v3.2.2,()),((v2.2.2.2.2.2.1.1,()),((v2.2.2.2.2.2.2.1.1,()),()))))))),Bool.true)) (cond (Bool.not (ieqI v3.1.1 (Int.ofNat 6))) (cond (Nat.ble (Nat.mul (Nat.add (List.length v2.2.2.2.2.2.1.1) 1) 40) 140737488355328) (some (((v2.1.1,()),(((),()),((v2.2.2.1.1,()),(((v2.2.2.2.1.1.1,v2.2.2.2.1.1.2),()),((v2.2.2.2.2.1.1,()),(((List.append v2.2.2.2.2.2.1.1 (List.cons (v3.1.1,(v3.1.2.1,((IntKind.i64.wrap (Int.add v2.1.1 v2.2.2.2.2.2.2.1.1)),(IntKind.i64.wrap (Int.add (Int.ofNat 1) v3.2.1))))) [])),()),((v2.2.2.2.2.2.2.1.1,()),()))))))),Bool.false)) none) (some (((v2.1.1,()),(((),()),((v2.2.2.1.1,()),(((v2.2.2.2.1.1.1,v2.2.2.2.1.1.2),()),((v2.2.2.2.2.1.1,()),((v2.2.2.2.2.2.1.1,()),((v2.2.2.2.2.2.2.1.1,()),()))))))),Bool.false))))) v1 ((p.2.1,()),(((),()),((p.2.2.2.2.2.2,()),(((p.2.2.1,p.2.2.2.1),()),((p.2.2.2.2.2.1,()),((p.2.2.2.2.1,()),((p.1,()),())))))))) with|.none  => none|.some v4=>(cond v4.2 (some ((v4.1.2.2.1.1,((v4.1.2.2.2.1.1.1,v4.1.2.2.2.1.1.2),(v4.1.2.2.2.2.1.1,()))),())) (L3 ((IntKind.i64.wrap (Int.add p.1 (Int.ofNat 1))),v4.1.1.1,v4.1.2.2.2.1.1.1,v4.1.2.2.2.1.1.2,v4.1.2.2.2.2.2.1.1,v4.1.2.2.2.2.1.1,v4.1.2.2.1.1)))))) (some ((p.2.2.2.2.1,(((Int.ofNat 0),(Int.ofNat 0)),((Int.ofNat 0),()))),())))
abbrev gz31:Type:=ElP [.dat (.list .str),.dat (.int .i64),.fn 33]->Option Rtz31
abbrev sz31 (g:gz31):SmR:=⟨[.dat (.list .str),.dat (.int .i64),.fn 33],[(true,cToken),(false,qal),(false,(.int .i64))],g⟩
abbrev Ez31 (g:gz31) (J:JT Rtz31) (lf:Nat) (x1:(List ByteArray)) (x2:Int):=qa8 Tryz.prog ttT.get nmz31 (mP [.dat (.list .str),.dat (.int .i64),.fn 33]) fi31.nt (clz31 _ lf) lf stz31 J fi31.body [] (argGo (argsP [.dat (.list .str),.dat (.int .i64),.fn 33] idN 0 (x1,x2,())) 0 .leaf) (Sc [.dat (.list .str),.dat (.int .i64),.fn 33] (x1,x2,())) [] (lastQ ttT.get fi31 (sz31 g))
abbrev Bz31 (g:gz31) (J:JT Rtz31) (lf k:Nat) (ms:List Nat) (q:NRes):=qa9 Tryz.prog ttT.get nmz31 (mP [.dat (.list .str),.dat (.int .i64),.fn 33]) fi31.nt (clz31 _ lf) lf stz31 J k fi31.body [] ms q (lastQ ttT.get fi31 (sz31 g))
theorem inz31 (g:gz31) (J:JT Rtz31) (lf:Nat) (x1:(List ByteArray)) (x2:Int):Ez31 g J lf x1 x2=qto lf x1 x2 (fun q=>J 3 [lf] (qfq x1 x2 q)):=by kernel_rfl
theorem stz31_3 (g:gz31) (J:JT Rtz31) (lf:Nat) (x1:(List ByteArray)) (x2:Int) (m1:Nat) (p:Int × Int × Int × Int × (List qab) × Int × (List qab)):Bz31 g J lf 3 [m1] (qfq x1 x2 p)=qgy lf x1 x2 (fun q=>J 3 [m1] (qfq x1 x2 q)) p:=by kernel_rfl
theorem ndz31:(regs fi31.body).Nodup:=by decide +kernel
theorem okz31:okC nmz31 stz31 hdz31 fi31.body none=true:=by kernel_rfl
def Az31 (g:gz31) (lf:Nat):JT Rtz31:=atQ Tryz.prog ttT.get nmz31 fi31 (sz31 g) (clz31 _ lf) lf hdz31
def qf9 (lf:Nat) (x1:(List ByteArray)) (x2:Int):Nat->(Int × Int × Int × Int × (List qab) × Int × (List qab))->Option Rtz31:=rounds fun K p=>qgy lf x1 x2 K p
theorem qsh (g:gz31) (lf:Nat) (x1:(List ByteArray)) (x2:Int):∀(n:Nat) (p:Int × Int × Int × Int × (List qab) × Int × (List qab)),Az31 g lf 3 [n] (qfq x1 x2 p)=qf9 lf x1 x2 n p
 | 0,p=>qhk 3 [0] rfl _
 | n+1,p=>by
   have ih:=qsh g lf x1 x2 n
   refine(qgh rfl (qam 20 _) ndz31 okz31 3 [n+1] [n] rfl _).trans ((stz31_3 g (Az31 g lf) lf x1 x2 n p).trans ?_)
   rw[(show (fun q=>Az31 g lf 3 [n] (qfq x1 x2 q))=(fun q=>qf9 lf x1 x2 n q) from funext ih)]
   rfl
def Fz31 (lf:Nat) (x1:(List ByteArray)) (x2:Int):Option Rtz31:=qto lf x1 x2 (fun q=>qf9 lf x1 x2 lf q)
theorem runz31 (g:gz31) (lf:Nat) (x1:(List ByteArray)) (x2:Int):Ez31 g (Az31 g lf) lf x1 x2=Fz31 lf x1 x2:=by
   refine(inz31 g (Az31 g lf) lf x1 x2).trans ?_
   rw[(show (fun q=>Az31 g lf 3 [lf] (qfq x1 x2 q))=(fun q=>qf9 lf x1 x2 lf q) from funext fun q=>qsh g lf x1 x2 lf q)]
   rfl
theorem hxsz31:HxsOK Tryz.prog qnp:=⟨qsk mixed ttOK _ 0 qvx,trivial⟩
theorem mkz31 {g:gz31} (hsm:SmOK Tryz.prog qob) (hg:∀(x:ElP [.dat (.list .str),.dat (.int .i64),.fn 33]) (y:Rtz31),WfP [.dat (.list .str),.dat (.int .i64),.fn 33] x->g x=some y->∃lf,Fz31 lf x.1 x.2.1=some y):ConR Tryz.prog 31 ⟨[.dat (.list .str),.dat (.int .i64),.fn 33],[(true,cToken),(false,qal),(false,(.int .i64))],g⟩ :=
 conTR (nmf:=nmz31) (sml:=qob) (hxl:=qnp) (st:=stz31) (hd:=hdz31) 20 mixed ttOK ftOK hsm hxsz31 cal31 (by kernel_rfl) (fun x=>by kernel_rfl) ndz31 okz31 fun x y z hx hy=>by
   obtain⟨lf,h⟩:=hg x (y,z) hx hy
   exact⟨lf,(runz31 g lf x.1 x.2.1).trans h⟩
def nmz32:Nat->Option Nm:=fun k=>cond (Nat.beq k 3) (some ⟨[4,5,6,7,8,9,12,13,14,15,22,23,24,25,26,27,28,29,30,31,32,33,34,35,36,37,38,39,40,41,42,43,44,45,46,47,48,49],[],[(6,0,cToken),(9,0,cToken)],[],[],0,0,false⟩) (cond (Nat.beq k 999999) (some ⟨[],[],[],[],[],0,0,false⟩) none)
def stz32:Nat->Bool:=fun k=>cond (Nat.beq k 3) true (false)
def hdz32:=stz32
abbrev Rtz32:Type:=((List qab) × qai × Int × Unit) × Unit
def qmy:List (Nat × Sm):=[]
def ql8:List (Nat × Hx):=[(88,itRx Tryz.prog ttT.get qqx ⟨[4,5,6,7,8,9,10],[.ref (.box [.dat (.int .i64)]),.ref (.box [.fn 74]),.ref (.box [.arr cToken]),.ref (.box [.dat qal]),.ref (.box [.dat (.int .i64)]),.ref (.box [.arr cToken]),.ref (.box [.dat (.int .i64)])],nmTop⟩ 0)]
def clz32 (R:Type) (lf:Nat):ClK R:=qah Tryz.prog ttT.get ftT.get (fun _ _=>none) (smL qmy) (hxL ql8) lf 20 R
abbrev idz32:Nat:=31
def qe1 (x1:(List ByteArray)) (x2:Int) (p:Int × Int × Int × Int × (List qab) × Int × (List qab)):NRes:=(NRes.mk (.node none (.node none (.node none (.node (some (IV.ptr 3 0)) (.node (some (IV.int .i64 p.1)) (.node (some IV.unk) .leaf .leaf) (.node (some IV.unk) .leaf .leaf)) (.node (some IV.unk) (.node (some IV.unk) .leaf .leaf) .leaf)) (.node none (.node none (.node (some IV.unk) .leaf .leaf) .leaf) (.node (some IV.unk) (.node (some IV.unk) .leaf .leaf) .leaf))) (.node (some (IV.ptr 1 0)) (.node (some (IV.ptr 5 0)) (.node none (.node (some IV.unk) .leaf .leaf) (.node (some IV.unk) .leaf .leaf)) (.node (some IV.unk) (.node (some IV.unk) .leaf .leaf) .leaf)) (.node (some (IV.lst TC.str x1)) (.node none (.node (some IV.unk) .leaf .leaf) .leaf) (.node (some IV.unk) (.node (some IV.unk) .leaf .leaf) .leaf)))) (.node none (.node (some (IV.ptr 0 0)) (.node (some (IV.ptr 4 0)) (.node none (.node (some IV.unk) .leaf .leaf) (.node (some IV.unk) .leaf .leaf)) (.node (some IV.unk) (.node (some IV.unk) .leaf .leaf) .leaf)) (.node (some IV.unk) (.node none (.node (some IV.unk) .leaf .leaf) .leaf) (.node (some IV.unk) (.node (some IV.unk) .leaf .leaf) .leaf))) (.node (some (IV.ptr 2 0)) (.node none (.node none (.node (some IV.unk) .leaf .leaf) .leaf) (.node (some IV.unk) (.node (some IV.unk) .leaf .leaf) .leaf)) (.node (some (IV.int .i64 (Int.ofNat (List.length x1)))) (.node (some IV.unk) (.node (some IV.unk) .leaf .leaf) .leaf) (.node (some IV.unk) (.node (some IV.unk) .leaf .leaf) .leaf))))) (IS.mk (.node (some (IObj.row (List.cons (IV.int .i64 p.2.1) []))) (.node (some (IObj.row (List.cons (IV.fn 74 []) []))) (.node (some (IObj.row (List.cons (IV.int .i64 p.2.2.1) (List.cons (IV.int .i64 p.2.2.2.1) [])))) (.node (some (IObj.arr cToken p.2.2.2.2.1)) .leaf .leaf) .leaf) (.node (some (IObj.row (List.cons (IV.arr 7) []))) .leaf .leaf)) (.node (some (IObj.row (List.cons (IV.arr 6) []))) (.node (some (IObj.row (List.cons (IV.int .i64 p.2.2.2.2.2.1) []))) .leaf .leaf) (.node (some (IObj.arr cToken p.2.2.2.2.2.2)) .leaf .leaf))) 8) [] 0)
def qte (lf:Nat) (x1:(List ByteArray)) (x2:Int) (L3:(Int × Int × Int × Int × (List qab) × Int × (List qab))->Option Rtz32):Option Rtz32:=(L3 ((Int.ofNat 0),x2,(Int.ofNat 0),(Int.ofNat 0),[],(Int.ofNat 0),[]))
def qg9 (lf:Nat) (x1:(List ByteArray)) (x2:Int) (L3:(Int × Int × Int × Int × (List qab) × Int × (List qab))->Option Rtz32) (p:Int × Int × Int × Int × (List qab) × Int × (List qab)):Option Rtz32:=(cond (iltI p.1 (Int.ofNat (List.length x1))) (match (jget x1 p.1) with|.none  => none|.some v0=>(match (cond (Nat.ble (Nat.succ (ByteArray.size v0)) 9223372036854775807) (some (S.pieces v0)) (none:Option (List (El Go.Proofs.YtanenikkloolfaaGreatDoor.cLexPiece)))) with|.none  => none|.some v1=>(match (foldR (fun v2 v3=>(cond (Bool.not (ieqI v3.2.2 (Int.ofNat 0))) (some (((v2.1.1,()),(((),()),(([],()),((((IntKind.i64.wrap (Int.add v2.1.1 v2.2.2.2.2.2.2.1.1)),(IntKind.i64.wrap (Int.add (Int.ofNat 1) v3.2.1))),()),((v3.2.2,()),((v2.2.2.2.2.2.1.1,()),((v2.2.2.2.2.2.2.1.1,()),()))))))),Bool.true)) (cond (ieqI v3.1.1 (Int.ofNat 6)) (cond (Nat.ble (Nat.mul (Nat.add (List.length v2.2.2.2.2.2.1.1) 1) 40) 140737488355328) (some (((v2.1.1,()),(((),()),((v2.2.2.1.1,()),(((v2.2.2.2.1.1.1,v2.2.2.2.1.1.2),()),((v2.2.2.2.2.1.1,()),(((List.append v2.2.2.2.2.2.1.1 (List.cons (v3.1.1,(v3.1.2.1,((IntKind.i64.wrap (Int.add v2.1.1 v2.2.2.2.2.2.2.1.1)),(IntKind.i64.wrap (Int.add (Int.ofNat 1) v3.2.1))))) [])),()),((v2.2.2.2.2.2.2.1.1,()),()))))))),Bool.false)) none) (some (((v2.1.1,()),(((),()),((v2.2.2.1.1,()),(((v2.2.2.2.1.1.1,v2.2.2.2.1.1.2),()),((v2.2.2.2.2.1.1,()),((v2.2.2.2.2.2.1.1,()),((v2.2.2.2.2.2.2.1.1,()),()))))))),Bool.false))))) v1 ((p.2.1,()),(((),()),((p.2.2.2.2.2.2,()),(((p.2.2.1,p.2.2.2.1),()),((p.2.2.2.2.2.1,()),((p.2.2.2.2.1,()),((p.1,()),())))))))) with|.none  => none|.some v4=>(cond v4.2 (some ((v4.1.2.2.1.1,((v4.1.2.2.2.1.1.1,v4.1.2.2.2.1.1.2),(v4.1.2.2.2.2.1.1,()))),())) (L3 ((IntKind.i64.wrap (Int.add p.1 (Int.ofNat 1))),v4.1.1.1,v4.1.2.2.2.1.1.1,v4.1.2.2.2.1.1.2,v4.1.2.2.2.2.2.1.1,v4.1.2.2.2.2.1.1,v4.1.2.2.1.1)))))) (some ((p.2.2.2.2.1,(((Int.ofNat 0),(Int.ofNat 0)),((Int.ofNat 0),()))),())))
abbrev gz32:Type:=ElP [.dat (.list .str),.dat (.int .i64),.fn 74]->Option Rtz32
abbrev sz32 (g:gz32):SmR:=⟨[.dat (.list .str),.dat (.int .i64),.fn 74],[(true,cToken),(false,qal),(false,(.int .i64))],g⟩
abbrev Ez32 (g:gz32) (J:JT Rtz32) (lf:Nat) (x1:(List ByteArray)) (x2:Int):=qa8 Tryz.prog ttT.get nmz32 (mP [.dat (.list .str),.dat (.int .i64),.fn 74]) fi31.nt (clz32 _ lf) lf stz32 J fi31.body [] (argGo (argsP [.dat (.list .str),.dat (.int .i64),.fn 74] idN 0 (x1,x2,())) 0 .leaf) (Sc [.dat (.list .str),.dat (.int .i64),.fn 74] (x1,x2,())) [] (lastQ ttT.get fi31 (sz32 g))
abbrev Bz32 (g:gz32) (J:JT Rtz32) (lf k:Nat) (ms:List Nat) (q:NRes):=qa9 Tryz.prog ttT.get nmz32 (mP [.dat (.list .str),.dat (.int .i64),.fn 74]) fi31.nt (clz32 _ lf) lf stz32 J k fi31.body [] ms q (lastQ ttT.get fi31 (sz32 g))
theorem inz32 (g:gz32) (J:JT Rtz32) (lf:Nat) (x1:(List ByteArray)) (x2:Int):Ez32 g J lf x1 x2=qte lf x1 x2 (fun q=>J 3 [lf] (qe1 x1 x2 q)):=by kernel_rfl
theorem stz32_3 (g:gz32) (J:JT Rtz32) (lf:Nat) (x1:(List ByteArray)) (x2:Int) (m1:Nat) (p:Int × Int × Int × Int × (List qab) × Int × (List qab)):Bz32 g J lf 3 [m1] (qe1 x1 x2 p)=qg9 lf x1 x2 (fun q=>J 3 [m1] (qe1 x1 x2 q)) p:=by kernel_rfl
theorem ndz32:(regs fi31.body).Nodup:=by decide +kernel
theorem okz32:okC nmz32 stz32 hdz32 fi31.body none=true:=by kernel_rfl
def Az32 (g:gz32) (lf:Nat):JT Rtz32:=atQ Tryz.prog ttT.get nmz32 fi31 (sz32 g) (clz32 _ lf) lf hdz32
def qg6 (lf:Nat) (x1:(List ByteArray)) (x2:Int):Nat->(Int × Int × Int × Int × (List qab) × Int × (List qab))->Option Rtz32:=rounds fun K p=>qg9 lf x1 x2 K p
theorem qx8 (g:gz32) (lf:Nat) (x1:(List ByteArray)) (x2:Int):∀(n:Nat) (p:Int × Int × Int × Int × (List qab) × Int × (List qab)),Az32 g lf 3 [n] (qe1 x1 x2 p)=qg6 lf x1 x2 n p
 | 0,p=>qhk 3 [0] rfl _
 | n+1,p=>by
   have ih:=qx8 g lf x1 x2 n
   refine(qgh rfl (qam 20 _) ndz32 okz32 3 [n+1] [n] rfl _).trans ((stz32_3 g (Az32 g lf) lf x1 x2 n p).trans ?_)
   rw[(show (fun q=>Az32 g lf 3 [n] (qe1 x1 x2 q))=(fun q=>qg6 lf x1 x2 n q) from funext ih)]
   rfl
def Fz32 (lf:Nat) (x1:(List ByteArray)) (x2:Int):Option Rtz32:=qte lf x1 x2 (fun q=>qg6 lf x1 x2 lf q)
theorem runz32 (g:gz32) (lf:Nat) (x1:(List ByteArray)) (x2:Int):Ez32 g (Az32 g lf) lf x1 x2=Fz32 lf x1 x2:=by
   refine(inz32 g (Az32 g lf) lf x1 x2).trans ?_
   rw[(show (fun q=>Az32 g lf 3 [lf] (qe1 x1 x2 q))=(fun q=>qg6 lf x1 x2 lf q) from funext fun q=>qx8 g lf x1 x2 lf q)]
   rfl
theorem hxsz32:HxsOK Tryz.prog ql8:=⟨qsk mixed ttOK _ 0 qvx,trivial⟩
theorem mkz32 {g:gz32} (hsm:SmOK Tryz.prog qmy) (hg:∀(x:ElP [.dat (.list .str),.dat (.int .i64),.fn 74]) (y:Rtz32),WfP [.dat (.list .str),.dat (.int .i64),.fn 74] x->g x=some y->∃lf,Fz32 lf x.1 x.2.1=some y):ConR Tryz.prog 31 ⟨[.dat (.list .str),.dat (.int .i64),.fn 74],[(true,cToken),(false,qal),(false,(.int .i64))],g⟩ :=
 conTR (nmf:=nmz32) (sml:=qmy) (hxl:=ql8) (st:=stz32) (hd:=hdz32) 20 mixed ttOK ftOK hsm hxsz32 cal31 (by kernel_rfl) (fun x=>by kernel_rfl) ndz32 okz32 fun x y z hx hy=>by
   obtain⟨lf,h⟩:=hg x (y,z) hx hy
   exact⟨lf,(runz32 g lf x.1 x.2.1).trans h⟩
theorem qb9 (x:List Int) (l:List (List Int)):S.sumLen (x::l)=(x.length:Int)+1+S.sumLen l:=rfl
theorem q0w (r:List Int) (n c:Int):S.placeGo (10::r) n c=S.placeGo r (n+1) 1:=rfl
theorem place_b {b:Int} (h:¬b=10) (r:List Int) (n c:Int):S.placeGo (b::r) n c=S.placeGo r n (c+1):=by
 show (if b=10 then _ else _)=_
 rw[if_neg h]
theorem qi5:∀(d:List Int) (k:Nat) (x:List Int),(S.splitL d)[k]?=some x->∃(o:Nat) (t:List Int),S.sumLen ((S.splitL d).take k)=(o:Int)/\d.drop o=x++t/\o+x.length<=d.length
 | [],k,x,h=>by
   cases k with
   | zero =>
     have h:([[]]:List (List Int))[0]?=some x:=h
     obtain rfl:([]:List Int)=x:=by simpa using h
     exact⟨0,[],rfl,rfl,Nat.le_refl _⟩
   | succ k =>
     have h:([[]]:List (List Int))[k+1]?=some x:=h
     simp at h
 | b::r,k,x,h=>by
   by_cases hb:b=10
   · subst hb
     rw[qda] at h ⊢
     cases k with
     | zero =>
       obtain rfl:([]:List Int)=x:=by simpa using h
       exact⟨0,10::r,rfl,rfl,by simp⟩
     | succ k =>
       obtain⟨o,t,h1,h2,h3⟩:=qi5 r k x (by simpa using h)
       refine⟨o+1,t,?_,by simpa using h2,by simp only[List.length_cons];omega⟩
       rw[List.take_succ_cons,qb9]
       simp only[List.length_nil]
       omega
   · obtain⟨y,ys,e1,e2⟩:=qcf hb r
     rw[e2] at h ⊢
     cases k with
     | zero =>
       obtain rfl:b::y=x:=by simpa using h
       obtain⟨o,t,h1,h2,h3⟩:=qi5 r 0 y (by rw[e1];rfl)
       have h1:(0:Int)=(o:Int):=h1
       obtain rfl:o=0:=by omega
       have h2:r=y++t:=h2
       refine⟨0,t,rfl,?_,by simp only[List.length_cons];omega⟩
       show b::r=b::(y++t)
       rw[<- h2]
     | succ k =>
       obtain⟨o,t,h1,h2,h3⟩:=qi5 r (k+1) x (by rw[e1];simpa using h)
       rw[e1,List.take_succ_cons,qb9] at h1
       refine⟨o+1,t,?_,by simpa using h2,by simp only[List.length_cons];omega⟩
       rw[List.take_succ_cons,qb9,List.length_cons]
       omega
theorem qgu {s:ByteArray} {k j:Nat} {x:List Int} (h:(S.splitL (qaa s))[k]?=some x) (hj:j<=x.length):S.offset s (1+(k:Int),1+(j:Int))=((j:Int)+S.sumLen ((S.splitL (qaa s)).take k),0):=by
 have hk:=(List.getElem?_eq_some_iff.1 h).1
 unfold S.offset S.offsetL
 rw[if_neg (by simp only[Int.ofNat_eq_natCast];omega)]
 have e:((1+(k:Int),1+(j:Int)).1-1).toNat=k:=by simp only;omega
 rw[e,h]
 simp only
 rw[if_neg (by simp only[Int.ofNat_eq_natCast];omega)]
 refine Prod.ext ?_ rfl
 simp only
 omega
def stand (s:ByteArray):List qab->Nat->Prop
 | [],_=>True
 | t::l,m=>∃o:Nat,S.offset s t.2.2=(Int.ofNat o,0)/\m<=o/\o+t.2.1.size<=s.size/\qaa t.2.1=((qaa s).drop o).take t.2.1.size/\0<t.2.1.size/\stand s l (o+t.2.1.size)
theorem qdx {s:ByteArray}:∀{l:List qab} {m m':Nat},stand s l m->m'<=m->stand s l m'
 | [],_,_,_,_=>trivial
 | t::l,m,m',⟨o,h1,h2,h3,h4,h5,h6⟩,h=>⟨o,h1,by omega,h3,h4,h5,h6⟩
theorem qig {s:ByteArray} (p:qab->Bool):∀{l:List qab} {m:Nat},stand s l m->stand s (l.filter p) m
 | [],_,_=>trivial
 | t::l,m,⟨o,h1,h2,h3,h4,h5,h6⟩=>by
   rw[List.filter_cons]
   split
   · exact⟨o,h1,h2,h3,h4,h5,qig p h6⟩
   · exact qdx (qig p h6) (by omega)
theorem qm8 {s:ByteArray}:∀{l:List qab} {m:Nat},stand s l m->m<=s.size->m+l.length<=s.size
 | [],m,_,hm=>by simpa using hm
 | t::l,m,⟨o,h1,h2,h3,h4,h5,h6⟩,hm=>by
   have:=qm8 h6 h3
   simp only[List.length_cons];omega
theorem qqn {s:ByteArray} {k o:Nat} {x t:List Int} (hx:(S.splitL (qaa s))[k]?=some x) (ho:S.sumLen ((S.splitL (qaa s)).take k)=(o:Int)) (hd:(qaa s).drop o=x++t) (hs:o+x.length<=s.size) {L:List qab} (hL:stand s L (o+x.length)) :
   ∀(f a:Nat),a<=x.length->stand s (S.at_ (1+(k:Int)) (S.pcs f (x.drop a) (a+1)).1++L) (o+a)
 | 0,a,ha=>qdx hL (by omega)
 | f+1,a,ha=>by
   cases hr:x.drop a with
   | nil=>exact qdx hL (by omega)
   | cons b r =>
     have hlen:r.length+1+a=x.length:=by
       have:=congrArg List.length hr
       rw[List.length_drop,List.length_cons] at this
       omega
     have hr1:x.drop (a+1)=r:=by rw[<- List.drop_drop,hr];rfl
     have hp:S.pcs (f+1) (b::r) (a+1)=if b=32 then S.pcs f r (a+1+1) else if (S.tok (b::r)).2.2.1=0 then (((S.tok (b::r)).2.1,strOf ((b::r).take (S.tok (b::r)).1),a+1)::(S.pcs f ((b::r).drop (S.tok (b::r)).1) (a+1+(S.tok (b::r)).1)).1,(S.pcs f ((b::r).drop (S.tok (b::r)).1) (a+1+(S.tok (b::r)).1)).2) else ([],some (a+1+(S.tok (b::r)).2.2.2,(S.tok (b::r)).2.2.1)):=rfl
     rw[hp]
     by_cases h32:b=32
     · rw[if_pos h32,<- hr1]
       exact qdx (qqn hx ho hd hs hL f (a+1) (by omega)) (by omega)
     · rw[if_neg h32]
       by_cases h0:(S.tok (b::r)).2.2.1=0
       · rw[if_pos h0]
         obtain⟨t1,t2⟩:=qlr h0 (by simp)
         rw[List.length_cons] at t2
         have hdr:(qaa s).drop (o+a)=(b::r)++t:=by
           rw[<- List.drop_drop,hd,List.drop_append_of_le_length ha,hr]
         have hbs:∀c∈(b::r).take (S.tok (b::r)).1,0<=c/\c<256:=fun c hc=>by
           have:c∈(qaa s).drop (o+a):=by rw[hdr];exact List.mem_append_left _ (List.mem_of_mem_take hc)
           exact qew (List.mem_of_mem_drop this)
         have hsz:(strOf ((b::r).take (S.tok (b::r)).1)).size=(S.tok (b::r)).1:=by
           rw[<- qae,qid hbs,List.length_take,List.length_cons];omega
         have hrd:(b::r).drop (S.tok (b::r)).1=x.drop (a+(S.tok (b::r)).1):=by rw[<- List.drop_drop,hr]
         refine⟨o+a,?_,Nat.le_refl _,?_,?_,?_,?_⟩
         · show S.offset s (1+(k:Int),Int.ofNat (a+1))=_
           have:=qgu (s:=s) (j:=a) hx ha
           rw[show (Int.ofNat (a+1))=1+(a:Int) by show ((a+1:Nat):Int)=_;omega,this,ho]
           refine Prod.ext ?_ rfl
           show (a:Int)+(o:Int)=((o+a:Nat):Int)
           omega
         · show o+a+(strOf _).size<=_
           rw[hsz];omega
         · show qaa (strOf _)=((qaa s).drop (o+a)).take (strOf _).size
           rw[hsz,qid hbs,hdr,List.take_append_of_le_length (by rw[List.length_cons];omega)]
         · show 0<(strOf _).size
           rw[hsz];omega
         · show stand s (S.at_ (1+(k:Int)) (S.pcs f ((b::r).drop (S.tok (b::r)).1) (a+1+(S.tok (b::r)).1)).1++L) (o+a+(strOf _).size)
           rw[hsz,hrd,show a+1+(S.tok (b::r)).1=a+(S.tok (b::r)).1+1 by omega,show o+a+(S.tok (b::r)).1=o+(a+(S.tok (b::r)).1) by omega]
           exact qqn hx ho hd hs hL f (a+(S.tok (b::r)).1) (by omega)
       · rw[if_neg h0]
         exact qdx hL (by omega)
theorem qcy (x:List Int) (ls:List (List Int)) (n:Int):S.readL (x::ls) n=(match (S.pcs (x.length+1) x 1).2 with
   | some (c,e)=>([],(n,Int.ofNat c),e)
   | none=>if (S.readL ls (n+1)).2.2=0 then (S.at_ n (S.pcs (x.length+1) x 1).1++(S.readL ls (n+1)).1,(0,0),0) else S.readL ls (n+1)):=rfl
theorem qwc (s:ByteArray):∀(ls:List (List Int)) (k o:Nat),(S.splitL (qaa s)).drop k=ls->S.sumLen ((S.splitL (qaa s)).take k)=(o:Int)->stand s (S.readL ls (1+(k:Int))).1 o
 | [],k,o,_,_=>trivial
 | x::ls,k,o,hls,ho=>by
   have hx:(S.splitL (qaa s))[k]?=some x:=by rw[<- List.head?_drop,hls];rfl
   have hls':(S.splitL (qaa s)).drop (k+1)=ls:=by rw[<- List.drop_drop,hls];rfl
   obtain⟨o',t,h1,h2,h3⟩:=qi5 _ _ _ hx
   obtain rfl:o'=o:=by rw[ho] at h1;omega
   have hsum:S.sumLen ((S.splitL (qaa s)).take (k+1))=((o'+x.length+1:Nat):Int):=by
     have:∀(l:List (List Int)) (y:List Int),S.sumLen (l++[y])=S.sumLen l+(y.length:Int)+1:=by
       intro l y
       induction l with
       | nil=>show (y.length:Int)+1+0=0+(y.length:Int)+1;omega
       | cons a l ih=>rw[List.cons_append,qb9,qb9,ih];omega
     rw[List.take_add_one,hx]
     show S.sumLen (_++[x])=_
     rw[this,ho];omega
   have ih:=qwc s ls (k+1) (o'+x.length+1) hls' hsum
   rw[show (1:Int)+((k+1:Nat):Int)=1+(k:Int)+1 by omega] at ih
   rw[qcy]
   split
   · trivial
   · split
     · have:=qqn hx ho h2 (by rw[qae] at h3;exact h3) (qdx ih (by omega)) (x.length+1) 0 (Nat.zero_le _)
       exact this
     · exact qdx ih (by omega)
theorem qxu (s:ByteArray):stand s (S.readL (S.splitL (qaa s)) 1).1 0:=qwc s _ 0 0 rfl rfl
theorem q09 (s:ByteArray):stand s (S.readG s).1 0/\stand s (S.readG s).2.1 0:=by
 unfold S.readG S.lexed
 split
 · exact⟨qig _ (qxu s),qig _ (qxu s)⟩
 · exact⟨trivial,trivial⟩
theorem q47 (s:ByteArray):(S.readG s).1.length<=s.size/\(S.readG s).2.1.length<=s.size:=by
 obtain⟨h1,h2⟩:=q09 s
 have:=qm8 h1 (Nat.zero_le _)
 have:=qm8 h2 (Nat.zero_le _)
 omega
theorem qli:∀(A:List (List Int)) (n:Int),¬(S.readL A n).2.2=0->(S.readL A n).1=[]
 | [],n,h=>rfl
 | x::A,n,h=>by
   rw[qcy] at h ⊢
   split at h
   · rfl
   · split at h
     · exact absurd rfl h
     · rename_i h1
       rw[if_neg h1]
       exact qli A (n+1) h
theorem qr8:∀(A:List (List Int)) (n:Int),(S.readL A n).2.2=0->(S.readL A n).2.1=(0,0)
 | [],n,h=>rfl
 | x::A,n,h=>by
   rw[qcy] at h ⊢
   split at h
   · rename_i h1
     exact absurd h (qcg _ _ _ _ h1)
   · split at h
     · rename_i h1
       rw[if_pos h1]
     · rename_i h1
       exact absurd h h1
theorem qky:∀(d:List Int) (x:List Int) (b:Int),x∈S.splitL d->b∈x->b∈d/\¬b=10
 | [],x,b,hx,hb=>by
   have hx:x∈([[]]:List (List Int)):=hx
   rw[List.mem_singleton.1 hx] at hb
   cases hb
 | c::d,x,b,hx,hb=>by
   by_cases hc:c=10
   · subst hc
     rw[qda] at hx
     rcases List.mem_cons.1 hx with rfl|hx
     · cases hb
     · obtain⟨h1,h2⟩:=qky d x b hx hb
       exact⟨List.mem_cons_of_mem _ h1,h2⟩
   · obtain⟨y,ys,e1,e2⟩:=qcf hc d
     rw[e2] at hx
     rcases List.mem_cons.1 hx with rfl|hx
     · rcases List.mem_cons.1 hb with rfl|hb
       · exact⟨List.mem_cons_self,hc⟩
       · obtain⟨h1,h2⟩:=qky d y b (by rw[e1];exact List.mem_cons_self) hb
         exact⟨List.mem_cons_of_mem _ h1,h2⟩
     · obtain⟨h1,h2⟩:=qky d x b (by rw[e1];exact List.mem_cons_of_mem _ hx) hb
       exact⟨List.mem_cons_of_mem _ h1,h2⟩
noncomputable section
namespace S
def okL (ls:List ByteArray) (n:Int):Bool:=Nat.ble ls.length 1000001&&(ls.all (fun s=>Nat.ble s.size 1000000&&(qaa s).all fun b=>!decide (b=10))&&(decide (0<=n)&&decide (n<=1000001)))
def readX (w:Int->Bool) (ls:List ByteArray) (n:Int):List qab × qai × Int:=((readL (ls.map qaa) n).1.filter (fun t=>w t.1),(readL (ls.map qaa) n).2)
def wTok (k:Int):Bool:=!decide (k=6)
def wNote (k:Int):Bool:=decide (k=6)
end S
abbrev DRd:Type:=(Int × Unit) × (Unit × Unit) × (List qab × Unit) × (qai × Unit) × (Int × Unit) × (List qab × Unit) × (Int × Unit) × Unit
def rdD (first:Int) (out:List qab) (i:Int) (pl:qai) (e:Int):DRd:=((first,()),(((),()),(([],()),(((pl.1,pl.2),()),((e,()),((out,()),((i,()),())))))))
def Gtok:DRd->qa7->Option (DRd × Bool):=(fun v2 v3=>(cond (Bool.not (ieqI v3.2.2 (Int.ofNat 0))) (some (((v2.1.1,()),(((),()),(([],()),((((Go.IntKind.wrap Go.IntKind.i64 (Int.add v2.1.1 v2.2.2.2.2.2.2.1.1)),(Go.IntKind.wrap Go.IntKind.i64 (Int.add (Int.ofNat 1) v3.2.1))),()),((v3.2.2,()),((v2.2.2.2.2.2.1.1,()),((v2.2.2.2.2.2.2.1.1,()),()))))))),Bool.true)) (cond (Bool.not (ieqI v3.1.1 (Int.ofNat 6))) (cond (Nat.ble (Nat.mul (Nat.add (List.length v2.2.2.2.2.2.1.1) 1) 40) 140737488355328) (some (((v2.1.1,()),(((),()),((v2.2.2.1.1,()),(((v2.2.2.2.1.1.1,v2.2.2.2.1.1.2),()),((v2.2.2.2.2.1.1,()),(((List.append v2.2.2.2.2.2.1.1 (List.cons (v3.1.1,(v3.1.2.1,((Go.IntKind.wrap Go.IntKind.i64 (Int.add v2.1.1 v2.2.2.2.2.2.2.1.1)),(Go.IntKind.wrap Go.IntKind.i64 (Int.add (Int.ofNat 1) v3.2.1))))) [])),()),((v2.2.2.2.2.2.2.1.1,()),()))))))),Bool.false)) none) (some (((v2.1.1,()),(((),()),((v2.2.2.1.1,()),(((v2.2.2.2.1.1.1,v2.2.2.2.1.1.2),()),((v2.2.2.2.2.1.1,()),((v2.2.2.2.2.2.1.1,()),((v2.2.2.2.2.2.2.1.1,()),()))))))),Bool.false)))))
def Gnote:DRd->qa7->Option (DRd × Bool):=(fun v2 v3=>(cond (Bool.not (ieqI v3.2.2 (Int.ofNat 0))) (some (((v2.1.1,()),(((),()),(([],()),((((Go.IntKind.wrap Go.IntKind.i64 (Int.add v2.1.1 v2.2.2.2.2.2.2.1.1)),(Go.IntKind.wrap Go.IntKind.i64 (Int.add (Int.ofNat 1) v3.2.1))),()),((v3.2.2,()),((v2.2.2.2.2.2.1.1,()),((v2.2.2.2.2.2.2.1.1,()),()))))))),Bool.true)) (cond (ieqI v3.1.1 (Int.ofNat 6)) (cond (Nat.ble (Nat.mul (Nat.add (List.length v2.2.2.2.2.2.1.1) 1) 40) 140737488355328) (some (((v2.1.1,()),(((),()),((v2.2.2.1.1,()),(((v2.2.2.2.1.1.1,v2.2.2.2.1.1.2),()),((v2.2.2.2.2.1.1,()),(((List.append v2.2.2.2.2.2.1.1 (List.cons (v3.1.1,(v3.1.2.1,((Go.IntKind.wrap Go.IntKind.i64 (Int.add v2.1.1 v2.2.2.2.2.2.2.1.1)),(Go.IntKind.wrap Go.IntKind.i64 (Int.add (Int.ofNat 1) v3.2.1))))) [])),()),((v2.2.2.2.2.2.2.1.1,()),()))))))),Bool.false)) none) (some (((v2.1.1,()),(((),()),((v2.2.2.1.1,()),(((v2.2.2.2.1.1.1,v2.2.2.2.1.1.2),()),((v2.2.2.2.2.1.1,()),((v2.2.2.2.2.2.1.1,()),((v2.2.2.2.2.2.2.1.1,()),()))))))),Bool.false)))))
end
theorem qkg {ls:List ByteArray} {n:Int} (h:S.okL ls n=true):ls.length<=1000001/\(∀s∈ls,s.size<=1000000/\∀b∈qaa s,¬b=10)/\0<=n/\n<=1000001:=by
 unfold S.okL at h
 simp only[Bool.and_eq_true,decide_eq_true_iff,List.all_eq_true,Bool.not_eq_true',decide_eq_false_iff_not] at h
 exact⟨Nat.le_of_ble_eq_true h.1,fun s hs=>⟨Nat.le_of_ble_eq_true (h.2.1 s hs).1,(h.2.1 s hs).2⟩,h.2.2⟩
theorem qoa {G:DRd->qa7->Option (DRd × Bool)} {w:Int->Bool} {first i n:Int} {N M:Nat}
   (hG:∀(out:List qab) (p:qa7),out.length<M->okP N p->G (rdD first out i (0,0) 0) p=if p.2.2=0 then some (rdD first (cond (w p.1.1) (out++[(p.1.1,p.1.2.1,n,1+p.2.1)]) out) i (0,0) 0,false) else some (rdD first out i (n,1+p.2.1) p.2.2,true)) :
   ∀(ps:List qa7) (out:List qab),out.length+ps.length<=M->(∀p∈ps,okP N p) ->
     ((S.rdGo w n ps out).2=none->foldR G ps (rdD first out i (0,0) 0)=some (rdD first (S.rdGo w n ps out).1 i (0,0) 0,false)/\(S.rdGo w n ps out).1.length<=out.length+ps.length) /\
     (∀pl e,(S.rdGo w n ps out).2=some (pl,e)->∃out',foldR G ps (rdD first out i (0,0) 0)=some (rdD first out' i pl e,true))
 | [],out,_,_=>⟨fun _=>⟨rfl,Nat.le_add_right _ _⟩,fun pl e h=>by cases h⟩
 | p::ps,out,hM,hp=>by
   rw[List.length_cons] at hM
   have hg:=hG out p (by omega) (hp p List.mem_cons_self)
   have hr:S.rdGo w n (p::ps) out=if p.2.2=0 then S.rdGo w n ps (cond (w p.1.1) (out++[(p.1.1,p.1.2.1,n,1+p.2.1)]) out) else ([],some ((n,1+p.2.1),p.2.2)):=rfl
   rw[hr]
   unfold foldR
   rw[hg]
   by_cases h0:p.2.2=0
   · rw[if_pos h0,if_pos h0]
     have hl:(cond (w p.1.1) (out++[(p.1.1,p.1.2.1,n,1+p.2.1)]) out).length<=out.length+1:=by
       cases w p.1.1<;>simp
     obtain⟨a1,a2⟩:=qoa hG ps (cond (w p.1.1) (out++[(p.1.1,p.1.2.1,n,1+p.2.1)]) out) (by omega) (fun q hq=>hp q (List.mem_cons_of_mem _ hq))
     refine⟨fun h=>?_,a2⟩
     obtain⟨b1,b2⟩:=a1 h
     exact⟨b1,by rw[List.length_cons];omega⟩
   · rw[if_neg h0,if_neg h0]
     refine⟨fun h=>(by cases h),fun pl e h=>?_⟩
     cases h
     exact⟨out,rfl⟩
theorem qkh:∀(f:Nat) (r:List Int) (a:Nat),(S.piecesGo f r a).length<=f
 | 0,_,_=>Nat.le_refl _
 | f+1,[],_=>Nat.zero_le _
 | f+1,b::r,a=>by
   have e:S.piecesGo (f+1) (b::r) a=if b=32 then S.piecesGo f r (a+1) else if (S.pieceX (b::r) a).1.2.2=0 then (S.pieceX (b::r) a).1::S.piecesGo f ((b::r).drop (S.pieceX (b::r) a).2) (a+(S.pieceX (b::r) a).2) else [(S.pieceX (b::r) a).1]:=rfl
   rw[e]
   split
   · exact Nat.le_succ_of_le (qkh f _ _)
   split
   · rw[List.length_cons];exact Nat.succ_le_succ (qkh f _ _)
   · simp
theorem qcj {a b:Int} (h:-9223372036854775808<=a+b/\a+b<9223372036854775808):IntKind.i64.wrap (Int.add a b)=a+b:=qas h
theorem Gtok_eq (first i n:Int) (N:Nat) (hn:n=first+i) (h:0<=n/\n<=4000000) (hN:N<=1000000) (out:List qab) (p:qa7) (ho:out.length<1100000000000) (hp:okP N p):Gtok (rdD first out i (0,0) 0) p=if p.2.2=0 then some (rdD first (cond (S.wTok p.1.1) (out++[(p.1.1,p.1.2.1,n,1+p.2.1)]) out) i (0,0) 0,false) else some (rdD first out i (n,1+p.2.1) p.2.2,true):=by
 obtain⟨_,_,_,⟨d1,d2⟩,_⟩:=hp
 have w1:IntKind.i64.wrap (Int.add first i)=n:=by rw[hn];exact qcj (by omega)
 have w2:IntKind.i64.wrap (Int.add (Int.ofNat 1) p.2.1)=1+p.2.1:=qcj (by show -9223372036854775808<=(1:Int)+p.2.1/\(1:Int)+p.2.1<_;omega)
 have hr:Nat.ble (Nat.mul (Nat.add out.length 1) 40) 140737488355328=true:=Nat.ble_eq_true_of_le (by show (out.length+1)*40<=_;omega)
 simp only[Gtok,rdD,w1,w2,hr,cond_true,S.wTok,qa6]
 by_cases h0:p.2.2=0
 · rw[decide_eq_true (show p.2.2=Int.ofNat 0 from h0),if_pos h0]
   simp only[Bool.not_true,cond_false]
   by_cases h6:p.1.1=6
   · rw[decide_eq_true (show p.1.1=Int.ofNat 6 from h6),decide_eq_true h6];rfl
   · rw[decide_eq_false (show ¬p.1.1=Int.ofNat 6 from h6),decide_eq_false h6];rfl
 · rw[decide_eq_false (show ¬p.2.2=Int.ofNat 0 from h0),if_neg h0];rfl
theorem tokL_go (ls:List ByteArray) (n:Int) (hl:ls.length<=1000001) (hs:∀s∈ls,s.size<=1000000/\∀b∈qaa s,¬b=10) (hn:0<=n/\n<=1000001) :
   Fz31 LF ls n=some (((S.readX S.wTok ls n).1,(S.readX S.wTok ls n).2.1,(S.readX S.wTok ls n).2.2,()),()):=by
 have key:qf9 LF ls n LF (Int.ofNat 0,n,Int.ofNat 0,Int.ofNat 0,[],Int.ofNat 0,[])=(if (S.readL (ls.map qaa) (n+(0:Nat))).2.2=0 then some (([]++(S.readL (ls.map qaa) (n+(0:Nat))).1.filter (fun t=>S.wTok t.1),(0,0),0,()),()) else some (([],(S.readL (ls.map qaa) (n+(0:Nat))).2.1,(S.readL (ls.map qaa) (n+(0:Nat))).2.2,()),())):=by
   refine range0 (σ:=List qab) (R:=Rtz31) ls (fun i q=>(i,n,Int.ofNat 0,Int.ofNat 0,q,Int.ofNat 0,[])) (fun i q=>q.length<=i*1000001) (fun rest i q=>if (S.readL (rest.map qaa) (n+(i:Nat))).2.2=0 then some ((q++(S.readL (rest.map qaa) (n+(i:Nat))).1.filter (fun t=>S.wTok t.1),(0,0),0,()),()) else some (([],(S.readL (rest.map qaa) (n+(i:Nat))).2.1,(S.readL (rest.map qaa) (n+(i:Nat))).2.2,()),())) (by unfold LF;omega) (fun K q hq=>?_) (fun K i v rest q hq r h=>?_) [] (Nat.zero_le _)
   · simp only[qgy,qa1,cond_false,List.map_nil]
     show some ((q,(0,0),0,()),())=if (0:Int)=0 then some ((q++[],(0,0),0,()),()) else _
     rw[if_pos rfl,List.append_nil]
   · obtain⟨hv,hnl⟩:=hs v r.mem
     have hi:=r.lt
     have hb:Nat.ble (Nat.succ v.size) 9223372036854775807=true:=Nat.ble_eq_true_of_le (by omega)
     have hc:(cond (Nat.ble (Nat.succ v.size) 9223372036854775807) (some (S.pieces v)) (none:Option (List (El cLexPiece))))=some (S.pieces v):=by rw[hb];rfl
     have hpl:(S.pieces v).length<=v.size+1:=qkh _ _ _
     have hlen:q.length+(S.pieces v).length<=(i+1)*1000001:=by
       have:(i+1)*1000001=i*1000001+1000001:=Nat.succ_mul _ _
       omega
     have hM:(i+1)*1000001<=1000001*1000001:=Nat.mul_le_mul_right _ (by omega)
     have hgo:=qoa (G:=Gtok) (w:=S.wTok) (first:=n) (i:=Int.ofNat i) (n:=n+(i:Nat)) (N:=v.size) (M:=1100000000000) (fun out p ho hp=>Gtok_eq n (Int.ofNat i) (n+(i:Nat)) v.size rfl (by omega) hv out p ho hp) (S.pieces v) q (by omega) (qh3 v.size _ _ 0 (by rw[qae];omega))
     have hrd:=qkw S.wTok (n+(i:Nat)) (v.size+1) (qaa v) 0 q (fun b hb=>qew hb) hnl
     have e0:S.pieces v=S.piecesGo (v.size+1) (qaa v) 0:=rfl
     rw[<- e0] at hrd
     have ec:S.readL ((v::rest).map qaa) (n+(i:Nat))=_:=qcy (qaa v) (rest.map qaa) (n+(i:Nat))
     rw[qae] at ec
     rw[ec]
     have step:qgy LF ls n K (Int.ofNat i,n,Int.ofNat 0,Int.ofNat 0,q,Int.ofNat 0,[])=match foldR Gtok (S.pieces v) (rdD n q (Int.ofNat i) (0,0) 0) with
         | none=>none
         | some v4=>cond v4.2 (some ((v4.1.2.2.1.1,((v4.1.2.2.2.1.1.1,v4.1.2.2.2.1.1.2),(v4.1.2.2.2.2.1.1,()))),())) (K (Int.ofNat (i+1),v4.1.1.1,v4.1.2.2.2.1.1.1,v4.1.2.2.2.1.1.2,v4.1.2.2.2.2.2.1.1,v4.1.2.2.2.2.1.1,v4.1.2.2.1.1)):=by
       simp only[qgy,r.ilt,r.get,r.next,cond_true,hc]
       rfl
     rw[step]
     cases hp:(S.pcs (v.size+1) (qaa v) (0+1)).2 with
     | some x =>
       obtain⟨c,e⟩:=x
       have he:=qcg _ _ _ _ hp
       rw[hp] at hrd
       obtain⟨out',ho⟩:=hgo.2 _ _ (by rw[hrd])
       rw[ho]
       simp only[rdD,cond_true]
       rw[if_neg he]
     | none =>
       rw[hp] at hrd
       obtain⟨g1,g2⟩:=hgo.1 (by rw[hrd])
       rw[hrd] at g1 g2
       simp only at g1 g2
       rw[g1]
       simp only[rdD,cond_false]
       refine(h _ (by omega)).trans ?_
       rw[show n+(i:Int)+1=n+((i+1:Nat):Int) by omega]
       by_cases hz:(S.readL (rest.map qaa) (n+((i+1:Nat):Int))).2.2=0
       · rw[if_pos hz,if_pos hz,if_pos rfl]
         simp only[List.filter_append,List.append_assoc]
       · rw[if_neg hz,if_neg hz,if_neg hz]
 refine key.trans ?_
 rw[show n+((0:Nat):Int)=n by omega,List.nil_append]
 unfold S.readX
 by_cases hz:(S.readL (ls.map qaa) n).2.2=0
 · rw[if_pos hz,qr8 _ _ hz,hz]
 · rw[if_neg hz,qli _ _ hz];rfl
def spz31:SmR:=⟨[.dat (.list .str),.dat (.int .i64),.fn 33],[(true,cToken),(false,qal),(false,.int .i64)],fun x=>cond (S.okL x.1 x.2.1) (some (((S.readX S.wTok x.1 x.2.1).1,(S.readX S.wTok x.1 x.2.1).2.1,(S.readX S.wTok x.1 x.2.1).2.2,()),())) none⟩
theorem conz31:ConR Tryz.prog idz31 spz31:=mkz31 trivial fun x y hx h=>⟨LF,by
 obtain⟨h1,h2⟩:=qa5 (show cond (S.okL x.1 x.2.1) (some (((S.readX S.wTok x.1 x.2.1).1,(S.readX S.wTok x.1 x.2.1).2.1,(S.readX S.wTok x.1 x.2.1).2.2,()),())) none=some y from h)
 obtain⟨a1,a2,a3⟩:=qkg h1
 exact(tokL_go x.1 x.2.1 a1 a2 a3).trans (congrArg some h2)⟩
theorem q4y (first i n:Int) (N:Nat) (hn:n=first+i) (h:0<=n/\n<=4000000) (hN:N<=1000000) (out:List qab) (p:qa7) (ho:out.length<1100000000000) (hp:okP N p):Gnote (rdD first out i (0,0) 0) p=if p.2.2=0 then some (rdD first (cond (S.wNote p.1.1) (out++[(p.1.1,p.1.2.1,n,1+p.2.1)]) out) i (0,0) 0,false) else some (rdD first out i (n,1+p.2.1) p.2.2,true):=by
 obtain⟨_,_,_,⟨d1,d2⟩,_⟩:=hp
 have w1:IntKind.i64.wrap (Int.add first i)=n:=by rw[hn];exact qcj (by omega)
 have w2:IntKind.i64.wrap (Int.add (Int.ofNat 1) p.2.1)=1+p.2.1:=qcj (by show -9223372036854775808<=(1:Int)+p.2.1/\(1:Int)+p.2.1<_;omega)
 have hr:Nat.ble (Nat.mul (Nat.add out.length 1) 40) 140737488355328=true:=Nat.ble_eq_true_of_le (by show (out.length+1)*40<=_;omega)
 simp only[Gnote,rdD,w1,w2,hr,cond_true,S.wNote,qa6]
 by_cases h0:p.2.2=0
 · rw[decide_eq_true (show p.2.2=Int.ofNat 0 from h0),if_pos h0]
   simp only[Bool.not_true,cond_false]
   by_cases h6:p.1.1=6
   · rw[decide_eq_true (show p.1.1=Int.ofNat 6 from h6),decide_eq_true h6];rfl
   · rw[decide_eq_false (show ¬p.1.1=Int.ofNat 6 from h6),decide_eq_false h6];rfl
 · rw[decide_eq_false (show ¬p.2.2=Int.ofNat 0 from h0),if_neg h0];rfl
theorem qz8 (ls:List ByteArray) (n:Int) (hl:ls.length<=1000001) (hs:∀s∈ls,s.size<=1000000/\∀b∈qaa s,¬b=10) (hn:0<=n/\n<=1000001) :
   Fz32 LF ls n=some (((S.readX S.wNote ls n).1,(S.readX S.wNote ls n).2.1,(S.readX S.wNote ls n).2.2,()),()):=by
 have key:qg6 LF ls n LF (Int.ofNat 0,n,Int.ofNat 0,Int.ofNat 0,[],Int.ofNat 0,[])=(if (S.readL (ls.map qaa) (n+(0:Nat))).2.2=0 then some (([]++(S.readL (ls.map qaa) (n+(0:Nat))).1.filter (fun t=>S.wNote t.1),(0,0),0,()),()) else some (([],(S.readL (ls.map qaa) (n+(0:Nat))).2.1,(S.readL (ls.map qaa) (n+(0:Nat))).2.2,()),())):=by
   refine range0 (σ:=List qab) (R:=Rtz32) ls (fun i q=>(i,n,Int.ofNat 0,Int.ofNat 0,q,Int.ofNat 0,[])) (fun i q=>q.length<=i*1000001) (fun rest i q=>if (S.readL (rest.map qaa) (n+(i:Nat))).2.2=0 then some ((q++(S.readL (rest.map qaa) (n+(i:Nat))).1.filter (fun t=>S.wNote t.1),(0,0),0,()),()) else some (([],(S.readL (rest.map qaa) (n+(i:Nat))).2.1,(S.readL (rest.map qaa) (n+(i:Nat))).2.2,()),())) (by unfold LF;omega) (fun K q hq=>?_) (fun K i v rest q hq r h=>?_) [] (Nat.zero_le _)
   · simp only[qg9,qa1,cond_false,List.map_nil]
     show some ((q,(0,0),0,()),())=if (0:Int)=0 then some ((q++[],(0,0),0,()),()) else _
     rw[if_pos rfl,List.append_nil]
   · obtain⟨hv,hnl⟩:=hs v r.mem
     have hi:=r.lt
     have hb:Nat.ble (Nat.succ v.size) 9223372036854775807=true:=Nat.ble_eq_true_of_le (by omega)
     have hc:(cond (Nat.ble (Nat.succ v.size) 9223372036854775807) (some (S.pieces v)) (none:Option (List (El cLexPiece))))=some (S.pieces v):=by rw[hb];rfl
     have hpl:(S.pieces v).length<=v.size+1:=qkh _ _ _
     have hlen:q.length+(S.pieces v).length<=(i+1)*1000001:=by
       have:(i+1)*1000001=i*1000001+1000001:=Nat.succ_mul _ _
       omega
     have hM:(i+1)*1000001<=1000001*1000001:=Nat.mul_le_mul_right _ (by omega)
     have hgo:=qoa (G:=Gnote) (w:=S.wNote) (first:=n) (i:=Int.ofNat i) (n:=n+(i:Nat)) (N:=v.size) (M:=1100000000000) (fun out p ho hp=>q4y n (Int.ofNat i) (n+(i:Nat)) v.size rfl (by omega) hv out p ho hp) (S.pieces v) q (by omega) (qh3 v.size _ _ 0 (by rw[qae];omega))
     have hrd:=qkw S.wNote (n+(i:Nat)) (v.size+1) (qaa v) 0 q (fun b hb=>qew hb) hnl
     have e0:S.pieces v=S.piecesGo (v.size+1) (qaa v) 0:=rfl
     rw[<- e0] at hrd
     have ec:S.readL ((v::rest).map qaa) (n+(i:Nat))=_:=qcy (qaa v) (rest.map qaa) (n+(i:Nat))
     rw[qae] at ec
     rw[ec]
     have step:qg9 LF ls n K (Int.ofNat i,n,Int.ofNat 0,Int.ofNat 0,q,Int.ofNat 0,[])=match foldR Gnote (S.pieces v) (rdD n q (Int.ofNat i) (0,0) 0) with
         | none=>none
         | some v4=>cond v4.2 (some ((v4.1.2.2.1.1,((v4.1.2.2.2.1.1.1,v4.1.2.2.2.1.1.2),(v4.1.2.2.2.2.1.1,()))),())) (K (Int.ofNat (i+1),v4.1.1.1,v4.1.2.2.2.1.1.1,v4.1.2.2.2.1.1.2,v4.1.2.2.2.2.2.1.1,v4.1.2.2.2.2.1.1,v4.1.2.2.1.1)):=by
       simp only[qg9,r.ilt,r.get,r.next,cond_true,hc]
       rfl
     rw[step]
     cases hp:(S.pcs (v.size+1) (qaa v) (0+1)).2 with
     | some x =>
       obtain⟨c,e⟩:=x
       have he:=qcg _ _ _ _ hp
       rw[hp] at hrd
       obtain⟨out',ho⟩:=hgo.2 _ _ (by rw[hrd])
       rw[ho]
       simp only[rdD,cond_true]
       rw[if_neg he]
     | none =>
       rw[hp] at hrd
       obtain⟨g1,g2⟩:=hgo.1 (by rw[hrd])
       rw[hrd] at g1 g2
       simp only at g1 g2
       rw[g1]
       simp only[rdD,cond_false]
       refine(h _ (by omega)).trans ?_
       rw[show n+(i:Int)+1=n+((i+1:Nat):Int) by omega]
       by_cases hz:(S.readL (rest.map qaa) (n+((i+1:Nat):Int))).2.2=0
       · rw[if_pos hz,if_pos hz,if_pos rfl]
         simp only[List.filter_append,List.append_assoc]
       · rw[if_neg hz,if_neg hz,if_neg hz]
 refine key.trans ?_
 rw[show n+((0:Nat):Int)=n by omega,List.nil_append]
 unfold S.readX
 by_cases hz:(S.readL (ls.map qaa) n).2.2=0
 · rw[if_pos hz,qr8 _ _ hz,hz]
 · rw[if_neg hz,qli _ _ hz];rfl
def spz32:SmR:=⟨[.dat (.list .str),.dat (.int .i64),.fn 74],[(true,cToken),(false,qal),(false,.int .i64)],fun x=>cond (S.okL x.1 x.2.1) (some (((S.readX S.wNote x.1 x.2.1).1,(S.readX S.wNote x.1 x.2.1).2.1,(S.readX S.wNote x.1 x.2.1).2.2,()),())) none⟩
theorem conz32:ConR Tryz.prog idz32 spz32:=mkz32 trivial fun x y hx h=>⟨LF,by
 obtain⟨h1,h2⟩:=qa5 (show cond (S.okL x.1 x.2.1) (some (((S.readX S.wNote x.1 x.2.1).1,(S.readX S.wNote x.1 x.2.1).2.1,(S.readX S.wNote x.1 x.2.1).2.2,()),())) none=some y from h)
 obtain⟨a1,a2,a3⟩:=qkg h1
 exact(qz8 x.1 x.2.1 a1 a2 a3).trans (congrArg some h2)⟩
namespace S
def small (t:qab):Bool:=Nat.ble t.2.1.size 400000
def put (bl:qab->qab->Bool) (l:List qab):ByteArray × Int :=
 if 6000<l.length then (S.lit [],3)
 else if l.any (fun t=>!right t) then (S.lit [],1)
 else if 20000<(putB bl l).length then (S.lit [],3)
 else (strOf (putB bl l),0)
def same (a b:ByteArray):Bool × Int :=
 if (tokens a).2.2.2=0 then (if (tokens b).2.2.2=0 then (sameK (tokens a).1 (tokens b).1,0) else (false,(tokens b).2.2.2)) else (false,(tokens a).2.2.2)
end S
def spz34:Sm:=⟨[.list (.list cToken)],[(true,cToken)],fun x=>cond (Nat.ble (x.1.flatten).length 1000000000) (some (x.1.flatten,())) none⟩
namespace S
def cmpI (a b:Int):Int:=if a<b then -1 else if b<a then 1 else 0
def comparePl (a b:qai):Int:=if cmpI a.1 b.1=0 then cmpI a.2 b.2 else cmpI a.1 b.1
def orderedGo (s:ByteArray):Option qai->List qab->Bool
 | _,[]=>true
 | pv,t::l=>decide ((offset s t.2.2).2=0)&&((match pv with|none=>true|some p=>!(decide (p=t.2.2))&&!(decide (0<comparePl p t.2.2)))&&orderedGo s (some t.2.2) l)
def ordered (s:ByteArray) (l:List qab):Bool:=orderedGo s none l
def aheadL (l:List qab) (a:Int):List qab:=l.filter fun t=>decide (t.2.2.1<a)
def behindL (l:List qab) (a b k:Int):List qab:=(l.filter fun t=>!decide (t.2.2.1<a)&&decide (b<t.2.2.1)).map fun t=>(t.1,t.2.1,t.2.2.1+k,t.2.2.2)
def linesAt (s:ByteArray) (a b:Int):List ByteArray:=((lines s).take b.toNat).drop (a-1).toNat
def patch (l:List qab) (s:ByteArray) (c:qag):List qab × Int × qai × Int :=
 if (edit s c).2=0 then
   if ordered s l then
     if (readX wTok (linesAt (edit s c).1 (placeOf s c.1).1.1 (placeOf (edit s c).1 (c.1+Int.ofNat c.2.2.size)).1.1) (placeOf s c.1).1.1).2.2=0 then
       if 6000<(aheadL l (placeOf s c.1).1.1++((readX wTok (linesAt (edit s c).1 (placeOf s c.1).1.1 (placeOf (edit s c).1 (c.1+Int.ofNat c.2.2.size)).1.1) (placeOf s c.1).1.1).1++behindL l (placeOf s c.1).1.1 (placeOf s c.2.1).1.1 ((placeOf (edit s c).1 (c.1+Int.ofNat c.2.2.size)).1.1-(placeOf s c.2.1).1.1))).length then ([],0,(0,0),3)
       else (aheadL l (placeOf s c.1).1.1++((readX wTok (linesAt (edit s c).1 (placeOf s c.1).1.1 (placeOf (edit s c).1 (c.1+Int.ofNat c.2.2.size)).1.1) (placeOf s c.1).1.1).1++behindL l (placeOf s c.1).1.1 (placeOf s c.2.1).1.1 ((placeOf (edit s c).1 (c.1+Int.ofNat c.2.2.size)).1.1-(placeOf s c.2.1).1.1)),Int.ofNat (readX wTok (linesAt (edit s c).1 (placeOf s c.1).1.1 (placeOf (edit s c).1 (c.1+Int.ofNat c.2.2.size)).1.1) (placeOf s c.1).1.1).1.length,(0,0),0)
     else ([],0,(readX wTok (linesAt (edit s c).1 (placeOf s c.1).1.1 (placeOf (edit s c).1 (c.1+Int.ofNat c.2.2.size)).1.1) (placeOf s c.1).1.1).2.1,(readX wTok (linesAt (edit s c).1 (placeOf s c.1).1.1 (placeOf (edit s c).1 (c.1+Int.ofNat c.2.2.size)).1.1) (placeOf s c.1).1.1).2.2)
   else ([],0,(0,0),1)
 else ([],0,(0,0),(edit s c).2)
end S
def S.orI:List Int->Int
 | []=>0
 | a::l=>if a=0 then S.orI l else a
def spz35:Sm:=⟨[.int .i64,.int .i64],[(false,.int .i64)],fun x=>some (S.cmpI x.1 x.2.1,())⟩
def spz36:Sm:=⟨[.list (.int .i64)],[(false,.int .i64)],fun x=>some (S.orI x.1,())⟩
def spz37:Sm:=⟨[qal,qal],[(false,.int .i64)],fun x=>some (S.comparePl x.1 x.2.1,())⟩
def spz38:Sm:=⟨[.list cToken,.str,cChange],[(true,cToken),(false,.int .i64),(false,qal),(false,.int .i64)],fun x=>cond (S.fits x.2.1&&(S.fits x.2.2.1.2.2&&Nat.ble x.1.length 1000000)) (some ((S.patch x.1 x.2.1 x.2.2.1).1,(S.patch x.1 x.2.1 x.2.2.1).2.1,(S.patch x.1 x.2.1 x.2.2.1).2.2.1,(S.patch x.1 x.2.1 x.2.2.1).2.2.2,())) none⟩
def nmz33:Nat->Option Nm:=fun k=>cond (Nat.beq k 4) (some ⟨[0,1,5],[],[],[],[],0,0,false⟩) (none)
def stz33:Nat->Bool:=fun k=>cond (Nat.beq k 4) true (false)
def hdz33:=stz33
abbrev Rtz33:Type:=Bool × Unit
def qo6:List (Nat × Sm):=[]
def qmc:List (Nat × Hx):=[]
def clz33 (R:Type) (lf:Nat):ClK R:=qah Tryz.prog ttT.get ftT.get (nm1 11 nmz33) (smL qo6) (hxL qmc) lf 20 R
abbrev idz33:Nat:=11
def qfg (x1:(List qab)) (x2:(List qab)) (p:Int):NRes:=(NRes.mk (.node (some (IV.lst cToken x1)) (.node (some (IV.lst cToken x2)) .leaf (.node (some (IV.int .i64 p)) .leaf .leaf)) .leaf) (IS.mk .leaf 0) [] 0)
def qpj (lf:Nat) (x1:(List qab)) (x2:(List qab)) (L4:Int->Option Rtz33):Option Rtz33:=(cond (Bool.not (ieqI (Int.ofNat (List.length x1)) (Int.ofNat (List.length x2)))) (some (Bool.false,())) (L4 (Int.ofNat 0)))
def qk0 (lf:Nat) (x1:(List qab)) (x2:(List qab)) (L4:Int->Option Rtz33) (p:Int):Option Rtz33:=(cond (iltI p (Int.ofNat (List.length x1))) (match (jget x1 p) with|.none  => none|.some v0=>(match (jget x2 p) with|.none  => none|.some v1=>(cond (Bool.not (Bool.and (keqI v0.1 v1.1) (Bool.and (keqS v0.2.1 v1.2.1) (Bool.and (Bool.and (keqI v0.2.2.1 v1.2.2.1) (Bool.and (keqI v0.2.2.2 v1.2.2.2) Bool.true)) Bool.true)))) (some (Bool.false,())) (L4 (IntKind.i64.wrap (Int.add p (Int.ofNat 1))))))) (some (Bool.true,())))
abbrev gz33:Type:=ElA [(.list cToken),(.list cToken)]->Option Rtz33
abbrev sz33 (g:gz33):Sm:=⟨[(.list cToken),(.list cToken)],[(false,.bool)],g⟩
abbrev Ez33 (g:gz33) (J:JT Rtz33) (lf:Nat) (x1:(List qab)) (x2:(List qab)):=qao Tryz.prog ttT.get nmz33 fi11.nt (clz33 _ lf) lf stz33 J fi11.body [] (argGo (argV [(.list cToken),(.list cToken)] (x1,x2,())) 0 .leaf) S0 [] (lastK ttT.get fi11 (sz33 g))
abbrev Bz33 (g:gz33) (J:JT Rtz33) (lf k:Nat) (ms:List Nat) (q:NRes):=qaz Tryz.prog ttT.get nmz33 fi11.nt (clz33 _ lf) lf stz33 J k fi11.body [] ms q (lastK ttT.get fi11 (sz33 g))
theorem inz33 (g:gz33) (J:JT Rtz33) (lf:Nat) (x1:(List qab)) (x2:(List qab)):Ez33 g J lf x1 x2=qpj lf x1 x2 (fun q=>J 4 [lf] (qfg x1 x2 q)):=by kernel_rfl
theorem stz33_4 (g:gz33) (J:JT Rtz33) (lf:Nat) (x1:(List qab)) (x2:(List qab)) (m1:Nat) (p:Int):Bz33 g J lf 4 [m1] (qfg x1 x2 p)=qk0 lf x1 x2 (fun q=>J 4 [m1] (qfg x1 x2 q)) p:=by kernel_rfl
theorem ndz33:(regs fi11.body).Nodup:=by decide +kernel
theorem okz33:okC nmz33 stz33 hdz33 fi11.body none=true:=by kernel_rfl
def Az33 (g:gz33) (lf:Nat):JT Rtz33:=atN Tryz.prog ttT.get nmz33 fi11 (sz33 g) (clz33 _ lf) lf hdz33
def qix (lf:Nat) (x1:(List qab)) (x2:(List qab)):Nat->(Int)->Option Rtz33:=rounds fun K p=>qk0 lf x1 x2 K p
theorem qxr (g:gz33) (lf:Nat) (x1:(List qab)) (x2:(List qab)):∀(n:Nat) (p:Int),Az33 g lf 4 [n] (qfg x1 x2 p)=qix lf x1 x2 n p
 | 0,p=>qa2 4 [0] rfl _
 | n+1,p=>by
   have ih:=qxr g lf x1 x2 n
   refine(qav (qam 20 _) ndz33 okz33 4 [n+1] [n] rfl _).trans ((stz33_4 g (Az33 g lf) lf x1 x2 n p).trans ?_)
   rw[(show (fun q=>Az33 g lf 4 [n] (qfg x1 x2 q))=(fun q=>qix lf x1 x2 n q) from funext ih)]
   rfl
def Fz33 (lf:Nat) (x1:(List qab)) (x2:(List qab)):Option Rtz33:=qpj lf x1 x2 (fun q=>qix lf x1 x2 lf q)
theorem runz33 (g:gz33) (lf:Nat) (x1:(List qab)) (x2:(List qab)):Ez33 g (Az33 g lf) lf x1 x2=Fz33 lf x1 x2:=by
   refine(inz33 g (Az33 g lf) lf x1 x2).trans ?_
   rw[(show (fun q=>Az33 g lf 4 [lf] (qfg x1 x2 q))=(fun q=>qix lf x1 x2 lf q) from funext fun q=>qxr g lf x1 x2 lf q)]
   rfl
theorem hxsz33:HxsOK Tryz.prog qmc:=trivial
theorem mkz33 {g:gz33} (hsm:SmOK Tryz.prog qo6) (hg:∀(x:ElA [(.list cToken),(.list cToken)]) (y:Rtz33),WfA [(.list cToken),(.list cToken)] x->g x=some y->∃lf,Fz33 lf x.1 x.2.1=some y):Con Tryz.prog 11 ⟨[(.list cToken),(.list cToken)],[(false,.bool)],g⟩ :=
 conT (nmf:=nmz33) (sml:=qo6) (hxl:=qmc) (st:=stz33) (hd:=hdz33) 20 mixed ttOK ftOK hsm hxsz33 cal11 rfl rfl (by kernel_rfl) (fun x=>by kernel_rfl) ndz33 okz33 fun x y hx hy=>by
   obtain⟨lf,h⟩:=hg x y hx hy
   exact⟨lf,(runz33 g lf x.1 x.2.1).trans h⟩
theorem qy9 {s:ByteArray} (h:S.fits s=true):S.okL (S.lines s) 1=true:=by
 have hs:=qbg h
 unfold S.okL
 simp only[Bool.and_eq_true,decide_eq_true_iff,List.all_eq_true,Bool.not_eq_true',decide_eq_false_iff_not]
 refine⟨Nat.ble_eq_true_of_le ?_,fun t ht=>⟨Nat.ble_eq_true_of_le (Nat.le_trans (qd1 ht) hs),fun b hb=>?_⟩,by decide,by decide⟩
 · unfold S.lines
   rw[List.length_map,qcl]
   have:=List.count_le_length (a:=(10:Int)) (l:=qaa s)
   rw[qae] at this
   omega
 · have:qaa t∈S.splitL (qaa s):=by rw[<- qqk];exact List.mem_map.2 ⟨t,ht,rfl⟩
   exact(qky _ _ b this hb).2
theorem q46 {s:ByteArray} (h:20000<s.size):S.tokens s=([],[],(0,0),3):=by
 unfold S.tokens
 rw[if_pos h]
theorem q6a {s:ByteArray} (h:¬20000<s.size) (h1:(S.readG s).2.2.2=0) (h2:6000<(S.readG s).1.length):S.tokens s=([],[],(0,0),3):=by
 unfold S.tokens
 rw[if_neg h,if_pos ⟨h1,h2⟩]
theorem q0q {s:ByteArray} (h:¬20000<s.size) (h1:¬((S.readG s).2.2.2=0/\6000<(S.readG s).1.length)):S.tokens s=S.readG s:=by
 unfold S.tokens
 rw[if_neg h,if_neg h1]
theorem q6v {α:Type} {a b:List α} {i:Nat} {v w:α} (ha:a[i]?=some v) (hb:b[i]?=some w) (h:a.take i=b.take i):(a.take (i+1)=b.take (i+1))↔v=w:=by
 rw[List.take_add_one,List.take_add_one,ha,hb,h]
 simp
theorem Fz33_eq (a b:List qab) (ha:a.length<LF):Fz33 LF a b=some (S.sameT a b,()):=by
 simp only[Fz33,qpj,qla]
 by_cases hl:a.length=b.length
 · rw[decide_eq_true hl,Bool.not_true,cond_false]
   refine range0 (σ:=Unit) (R:=Rtz33) a (fun i _=>i) (fun i _=>a.take i=b.take i) (fun _ _ _=>some (S.sameT a b,())) ha (fun K q hq=>?_) (fun K i v rest q hq r h=>?_) () rfl
   · simp only[qk0,qa1,cond_false]
     have:a=b:=by rw[List.take_length,hl,List.take_length] at hq;exact hq
     show some (true,())=some (decide (a=b),())
     rw[decide_eq_true this]
   · obtain⟨w,hw⟩:∃w,b[i]?=some w:=⟨_,List.getElem?_eq_getElem (by have:=r.lt;omega)⟩
     have hj:jget b (Int.ofNat i)=some w:=qbb.trans hw
     simp only[qk0,r.ilt,r.get,hj,r.next,cond_true]
     have hts:=q6v r.get? hw hq
     have hc:(Bool.and (keqI v.1 w.1) (Bool.and (keqS v.2.1 w.2.1) (Bool.and (Bool.and (keqI v.2.2.1 w.2.2.1) (Bool.and (keqI v.2.2.2 w.2.2.2) Bool.true)) Bool.true)))=decide (v=w):=by
       obtain⟨v1,v2,v3,v4⟩:=v
       obtain⟨w1,w2,w3,w4⟩:=w
       simp only[keqI,keqS,Bool.and_true,Prod.mk.injEq,Bool.decide_and]
     rw[hc]
     by_cases e:v=w
     · rw[decide_eq_true e,Bool.not_true,cond_false]
       exact h () (hts.2 e)
     · rw[decide_eq_false e,Bool.not_false,cond_true]
       have:¬a=b:=fun e2=>e (hts.1 (by rw[e2]))
       show some (false,())=some (decide (a=b),())
       rw[decide_eq_false this]
 · rw[decide_eq_false hl,Bool.not_false,cond_true]
   have:¬a=b:=fun e=>hl (by rw[e])
   show some (false,())=some (decide (a=b),())
   rw[decide_eq_false this]
theorem qs0 {l:List qab} (h:l.length*40<=140737488355328):l.length<LF:=by unfold LF;omega
theorem conz33:Con Tryz.prog idz33 spz33:=mkz33 trivial fun x y hx h=>⟨LF,(Fz33_eq x.1 x.2.1 (qs0 hx.1.1)).trans h⟩
def nmz34:Nat->Option Nm:=fun k=>cond (Nat.beq k 3) (some ⟨[3,6,7,8],[(3,cToken)],[],[],[],0,0,false⟩) (none)
def stz34:Nat->Bool:=fun k=>cond (Nat.beq k 3) true (false)
def hdz34:=stz34
abbrev Rtz34:Type:=(List qab) × Unit
def qql:List (Nat × Sm):=[]
def qph:List (Nat × Hx):=[]
def clz34 (R:Type) (lf:Nat):ClK R:=qah Tryz.prog ttT.get ftT.get (nm1 34 nmz34) (smL qql) (hxL qph) lf 20 R
abbrev idz34:Nat:=34
def qf6 (x1:(List (List qab))) (p:Int × (List qab)):NRes:=(NRes.mk (.node none (.node none (.node (some (IV.arr 0)) (.node (some (IV.int .i64 (Int.ofNat (List.length x1)))) .leaf .leaf) .leaf) .leaf) (.node none (.node none (.node (some (IV.int .i64 p.1)) .leaf .leaf) .leaf) (.node (some (IV.lst (TC.list cToken) x1)) .leaf .leaf))) (IS.mk (.node (some (IObj.arr cToken p.2)) .leaf .leaf) 1) [] 0)
def qwt (lf:Nat) (x1:(List (List qab))) (L3:(Int × (List qab))->Option Rtz34):Option Rtz34:=(L3 ((Int.ofNat 0),[]))
def qko (lf:Nat) (x1:(List (List qab))) (L3:(Int × (List qab))->Option Rtz34) (p:Int × (List qab)):Option Rtz34:=(cond (iltI p.1 (Int.ofNat (List.length x1))) (match (jget x1 p.1) with|.none  => none|.some v0=>(cond (Nat.ble (Nat.mul (Nat.add (List.length p.2) (List.length v0)) 40) 140737488355328) (L3 ((IntKind.i64.wrap (Int.add p.1 (Int.ofNat 1))),(List.append p.2 v0))) none)) (some (p.2,())))
abbrev gz34:Type:=ElA [(.list (.list cToken))]->Option Rtz34
abbrev sz34 (g:gz34):Sm:=⟨[(.list (.list cToken))],[(true,cToken)],g⟩
abbrev Ez34 (g:gz34) (J:JT Rtz34) (lf:Nat) (x1:(List (List qab))):=qao Tryz.prog ttT.get nmz34 fi34.nt (clz34 _ lf) lf stz34 J fi34.body [] (argGo (argV [(.list (.list cToken))] (x1,())) 0 .leaf) S0 [] (lastK ttT.get fi34 (sz34 g))
abbrev Bz34 (g:gz34) (J:JT Rtz34) (lf k:Nat) (ms:List Nat) (q:NRes):=qaz Tryz.prog ttT.get nmz34 fi34.nt (clz34 _ lf) lf stz34 J k fi34.body [] ms q (lastK ttT.get fi34 (sz34 g))
theorem inz34 (g:gz34) (J:JT Rtz34) (lf:Nat) (x1:(List (List qab))):Ez34 g J lf x1=qwt lf x1 (fun q=>J 3 [lf] (qf6 x1 q)):=by kernel_rfl
theorem stz34_3 (g:gz34) (J:JT Rtz34) (lf:Nat) (x1:(List (List qab))) (m1:Nat) (p:Int × (List qab)):Bz34 g J lf 3 [m1] (qf6 x1 p)=qko lf x1 (fun q=>J 3 [m1] (qf6 x1 q)) p:=by kernel_rfl
theorem ndz34:(regs fi34.body).Nodup:=by decide +kernel
theorem okz34:okC nmz34 stz34 hdz34 fi34.body none=true:=by kernel_rfl
def Az34 (g:gz34) (lf:Nat):JT Rtz34:=atN Tryz.prog ttT.get nmz34 fi34 (sz34 g) (clz34 _ lf) lf hdz34
def qh0 (lf:Nat) (x1:(List (List qab))):Nat->(Int × (List qab))->Option Rtz34:=rounds fun K p=>qko lf x1 K p
theorem qsn (g:gz34) (lf:Nat) (x1:(List (List qab))):∀(n:Nat) (p:Int × (List qab)),Az34 g lf 3 [n] (qf6 x1 p)=qh0 lf x1 n p
 | 0,p=>qa2 3 [0] rfl _
 | n+1,p=>by
   have ih:=qsn g lf x1 n
   refine(qav (qam 20 _) ndz34 okz34 3 [n+1] [n] rfl _).trans ((stz34_3 g (Az34 g lf) lf x1 n p).trans ?_)
   rw[(show (fun q=>Az34 g lf 3 [n] (qf6 x1 q))=(fun q=>qh0 lf x1 n q) from funext ih)]
   rfl
def Fz34 (lf:Nat) (x1:(List (List qab))):Option Rtz34:=qwt lf x1 (fun q=>qh0 lf x1 lf q)
theorem runz34 (g:gz34) (lf:Nat) (x1:(List (List qab))):Ez34 g (Az34 g lf) lf x1=Fz34 lf x1:=by
   refine(inz34 g (Az34 g lf) lf x1).trans ?_
   rw[(show (fun q=>Az34 g lf 3 [lf] (qf6 x1 q))=(fun q=>qh0 lf x1 lf q) from funext fun q=>qsn g lf x1 lf q)]
   rfl
theorem hxsz34:HxsOK Tryz.prog qph:=trivial
theorem mkz34 {g:gz34} (hsm:SmOK Tryz.prog qql) (hg:∀(x:ElA [(.list (.list cToken))]) (y:Rtz34),WfA [(.list (.list cToken))] x->g x=some y->∃lf,Fz34 lf x.1=some y):Con Tryz.prog 34 ⟨[(.list (.list cToken))],[(true,cToken)],g⟩ :=
 conT (nmf:=nmz34) (sml:=qql) (hxl:=qph) (st:=stz34) (hd:=hdz34) 20 mixed ttOK ftOK hsm hxsz34 cal34 rfl rfl (by kernel_rfl) (fun x=>by kernel_rfl) ndz34 okz34 fun x y hx hy=>by
   obtain⟨lf,h⟩:=hg x y hx hy
   exact⟨lf,(runz34 g lf x.1).trans h⟩


theorem q2r (l:List (List Int)) (y:List Int):S.sumLen (l++[y])=S.sumLen l+(y.length:Int)+1:=by
 induction l with
 | nil=>show (y.length:Int)+1+0=0+(y.length:Int)+1;omega
 | cons a l ih=>rw[List.cons_append,qb9,qb9,ih];omega

theorem Fz34_eq (l:List (List qab)) (hl:l.length<LF) (hf:l.flatten.length<=1000000000):Fz34 LF l=some (l.flatten,()):=by
 have key:qh0 LF l LF (Int.ofNat 0,[])=some ([]++l.flatten,()):=by
   refine range0 (σ:=List qab) (R:=Rtz34) l (fun i q=>(i,q)) (fun i q=>q++(l.drop i).flatten=l.flatten) (fun rest i q=>some (q++rest.flatten,())) hl (fun K q hq=>?_) (fun K i v rest q hq r h=>?_) [] (by simp)
   · simp only[qko,qa1,cond_false]
     rw[List.flatten_nil,List.append_nil]
   · rw[r.drop,List.flatten_cons] at hq
     have hlen:=congrArg List.length hq
     rw[List.length_append,List.length_append] at hlen
     have hr:Nat.ble (Nat.mul (Nat.add q.length v.length) 40) 140737488355328=true:=Nat.ble_eq_true_of_le (by show (q.length+v.length)*40<=_;omega)
     simp only[qko,r.ilt,r.get,r.next,cond_true,hr]
     refine(h (q++v) (by rw[r.tail,List.append_assoc];exact hq)).trans ?_
     rw[List.flatten_cons,List.append_assoc]
 exact key
theorem small24 {l:List (List qab)} (h:l.length*24<=140737488355328):l.length<LF:=by unfold LF;omega
theorem conz34:Con Tryz.prog idz34 spz34:=mkz34 trivial fun x y hx h=>⟨LF,by
 obtain⟨h1,h2⟩:=qa5 (show cond (Nat.ble (x.1.flatten).length 1000000000) (some (x.1.flatten,())) none=some y from h)
 exact(Fz34_eq x.1 (small24 hx.1.1) (Nat.le_of_ble_eq_true h1)).trans (congrArg some h2)⟩
end Go.Proofs.YtanenikkloolfaaGreatDoor
end

section
namespace Go.Jx
open Go Go.Sx Go.RowKit
def omap {α β:Type} (f:α->β):Option α->Option β
 | none=>none
 | some a=>some (f a)
def hxG (a:Hx):Hx:=⟨fun cl vs S=>omap (igc S) (a.f cl vs S),fun clP R vs S kk=>a.k clP R vs S fun r=>kk (igc S r),fun cl clP h R vs S kk=>by
 rw[a.eq cl clP h R vs S]
 cases a.f cl vs S<;>rfl⟩
theorem hxG_ok {P:Program} {f:Nat} {a:Hx} (ha:HxOK P f a.f):HxOK P f (hxG a).f:=by
 have inv:∀{cl vs S r},(hxG a).f cl vs S=some r->∃q,a.f cl vs S=some q/\r=igc S q:=by
   intro cl vs S r hr
   have hr:omap (igc S) (a.f cl vs S)=some r:=hr
   cases hq:a.f cl vs S with
   | none=>rw[hq] at hr;cases hr
   | some q=>rw[hq] at hr;cases hr;exact⟨q,rfl,rfl⟩
 refine⟨fun cl h1 h2 h3 vs S r hr T E us p hrd hwr hv=>?_,fun cl h1 vs S r hr=>?_,fun cl h1 vs S r hr hw hl=>?_⟩
 · obtain⟨q,hq,rfl⟩:=inv hr
   obtain⟨T',p',t1,t2,hback⟩:=qze p hrd hwr
   obtain⟨c1,c2⟩:=ha.fn cl h1 h2 h3 vs S q hq T' E us p' t1 t2 hv
   exact⟨c1,c2.mono fun e w h=>hback e w h⟩
 · obtain⟨q,hq,rfl⟩:=inv hr
   exact qvl (ha.fr cl h1 vs S q hq)
 · obtain⟨q,hq,rfl⟩:=inv hr
   exact qtg hw hl
end Go.Jx
end

noncomputable section
set_option maxRecDepth 100000
namespace Go.Proofs.YtanenikkloolfaaGreatDoor
open Go Go.Sx Go.RowKit Go.Jx
def nmz35:Nat->Option Nm:=fun k=>none
def stz35:Nat->Bool:=fun k=>false
def hdz35:=stz35
abbrev Rtz35:Type:=Int × Unit
def qqs:List (Nat × Sm):=[]
def qoi:List (Nat × Hx):=[]
def clz35 (R:Type) (lf:Nat):ClK R:=qah Tryz.prog ttT.get ftT.get (nm1 60 nmz35) (smL qqs) (hxL qoi) lf 20 R
abbrev idz35:Nat:=60
def qmi (lf:Nat) (x1:Int) (x2:Int):Option Rtz35:=(cond (Bool.not (ieqI x1 x1)) (cond (Bool.not (ieqI x2 x2)) (some ((Int.ofNat 0),())) (some ((Int.negSucc 0),()))) (cond (Bool.not (ieqI x2 x2)) (some ((Int.ofNat 1),())) (cond (iltI x1 x2) (some ((Int.negSucc 0),())) (cond (iltI x2 x1) (some ((Int.ofNat 1),())) (some ((Int.ofNat 0),()))))))
abbrev gz35:Type:=ElA [(.int .i64),(.int .i64)]->Option Rtz35
abbrev sz35 (g:gz35):Sm:=⟨[(.int .i64),(.int .i64)],[(false,(.int .i64))],g⟩
abbrev Ez35 (g:gz35) (J:JT Rtz35) (lf:Nat) (x1:Int) (x2:Int):=qao Tryz.prog ttT.get nmz35 fi60.nt (clz35 _ lf) lf stz35 J fi60.body [] (argGo (argV [(.int .i64),(.int .i64)] (x1,x2,())) 0 .leaf) S0 [] (lastK ttT.get fi60 (sz35 g))
theorem inz35 (g:gz35) (J:JT Rtz35) (lf:Nat) (x1:Int) (x2:Int):Ez35 g J lf x1 x2=qmi lf x1 x2:=by kernel_rfl
theorem ndz35:(regs fi60.body).Nodup:=by decide +kernel
theorem okz35:okC nmz35 stz35 hdz35 fi60.body none=true:=by kernel_rfl
def Az35 (g:gz35) (lf:Nat):JT Rtz35:=atN Tryz.prog ttT.get nmz35 fi60 (sz35 g) (clz35 _ lf) lf hdz35
def Fz35 (lf:Nat) (x1:Int) (x2:Int):Option Rtz35:=qmi lf x1 x2
theorem runz35 (g:gz35) (lf:Nat) (x1:Int) (x2:Int):Ez35 g (Az35 g lf) lf x1 x2=Fz35 lf x1 x2:=by
   refine(inz35 g (Az35 g lf) lf x1 x2).trans ?_
   rfl
theorem hxsz35:HxsOK Tryz.prog qoi:=trivial
theorem mkz35 {g:gz35} (hsm:SmOK Tryz.prog qqs) (hg:∀(x:ElA [(.int .i64),(.int .i64)]) (y:Rtz35),WfA [(.int .i64),(.int .i64)] x->g x=some y->∃lf,Fz35 lf x.1 x.2.1=some y):Con Tryz.prog 60 ⟨[(.int .i64),(.int .i64)],[(false,(.int .i64))],g⟩ :=
 conT (nmf:=nmz35) (sml:=qqs) (hxl:=qoi) (st:=stz35) (hd:=hdz35) 20 mixed ttOK ftOK hsm hxsz35 cal60 rfl rfl (by kernel_rfl) (fun x=>by kernel_rfl) ndz35 okz35 fun x y hx hy=>by
   obtain⟨lf,h⟩:=hg x y hx hy
   exact⟨lf,(runz35 g lf x.1 x.2.1).trans h⟩
def nmz36:Nat->Option Nm:=fun k=>cond (Nat.beq k 3) (some ⟨[3,6,7,8],[],[],[],[],0,0,false⟩) (none)
def stz36:Nat->Bool:=fun k=>cond (Nat.beq k 3) true (false)
def hdz36:=stz36
abbrev Rtz36:Type:=Int × Unit
def qq4:List (Nat × Sm):=[]
def qrk:List (Nat × Hx):=[]
def clz36 (R:Type) (lf:Nat):ClK R:=qah Tryz.prog ttT.get ftT.get (nm1 59 nmz36) (smL qq4) (hxL qrk) lf 20 R
abbrev idz36:Nat:=59
def qf5 (x1:(List Int)) (p:Int):NRes:=(NRes.mk (.node none (.node none (.node (some (IV.int .i64 (Int.ofNat 0))) (.node (some (IV.int .i64 (Int.ofNat (List.length x1)))) .leaf .leaf) .leaf) .leaf) (.node none (.node none (.node (some (IV.int .i64 p)) .leaf .leaf) .leaf) (.node (some (IV.lst (TC.int .i64) x1)) .leaf .leaf))) (IS.mk .leaf 0) [] 0)
def qvv (lf:Nat) (x1:(List Int)) (L3:Int->Option Rtz36):Option Rtz36:=(L3 (Int.ofNat 0))
def qj6 (lf:Nat) (x1:(List Int)) (L3:Int->Option Rtz36) (p:Int):Option Rtz36:=(cond (iltI p (Int.ofNat (List.length x1))) (match (jget x1 p) with|.none  => none|.some v0=>(cond (Bool.not (ieqI v0 (Int.ofNat 0))) (some (v0,())) (L3 (IntKind.i64.wrap (Int.add p (Int.ofNat 1)))))) (some ((Int.ofNat 0),())))
abbrev gz36:Type:=ElA [(.list (.int .i64))]->Option Rtz36
abbrev sz36 (g:gz36):Sm:=⟨[(.list (.int .i64))],[(false,(.int .i64))],g⟩
abbrev Ez36 (g:gz36) (J:JT Rtz36) (lf:Nat) (x1:(List Int)):=qao Tryz.prog ttT.get nmz36 fi59.nt (clz36 _ lf) lf stz36 J fi59.body [] (argGo (argV [(.list (.int .i64))] (x1,())) 0 .leaf) S0 [] (lastK ttT.get fi59 (sz36 g))
abbrev Bz36 (g:gz36) (J:JT Rtz36) (lf k:Nat) (ms:List Nat) (q:NRes):=qaz Tryz.prog ttT.get nmz36 fi59.nt (clz36 _ lf) lf stz36 J k fi59.body [] ms q (lastK ttT.get fi59 (sz36 g))
theorem inz36 (g:gz36) (J:JT Rtz36) (lf:Nat) (x1:(List Int)):Ez36 g J lf x1=qvv lf x1 (fun q=>J 3 [lf] (qf5 x1 q)):=by kernel_rfl
theorem stz36_3 (g:gz36) (J:JT Rtz36) (lf:Nat) (x1:(List Int)) (m1:Nat) (p:Int):Bz36 g J lf 3 [m1] (qf5 x1 p)=qj6 lf x1 (fun q=>J 3 [m1] (qf5 x1 q)) p:=by kernel_rfl
theorem ndz36:(regs fi59.body).Nodup:=by decide +kernel
theorem okz36:okC nmz36 stz36 hdz36 fi59.body none=true:=by kernel_rfl
def Az36 (g:gz36) (lf:Nat):JT Rtz36:=atN Tryz.prog ttT.get nmz36 fi59 (sz36 g) (clz36 _ lf) lf hdz36
def qgx (lf:Nat) (x1:(List Int)):Nat->(Int)->Option Rtz36:=rounds fun K p=>qj6 lf x1 K p
theorem quz (g:gz36) (lf:Nat) (x1:(List Int)):∀(n:Nat) (p:Int),Az36 g lf 3 [n] (qf5 x1 p)=qgx lf x1 n p
 | 0,p=>qa2 3 [0] rfl _
 | n+1,p=>by
   have ih:=quz g lf x1 n
   refine(qav (qam 20 _) ndz36 okz36 3 [n+1] [n] rfl _).trans ((stz36_3 g (Az36 g lf) lf x1 n p).trans ?_)
   rw[(show (fun q=>Az36 g lf 3 [n] (qf5 x1 q))=(fun q=>qgx lf x1 n q) from funext ih)]
   rfl
def Fz36 (lf:Nat) (x1:(List Int)):Option Rtz36:=qvv lf x1 (fun q=>qgx lf x1 lf q)
theorem runz36 (g:gz36) (lf:Nat) (x1:(List Int)):Ez36 g (Az36 g lf) lf x1=Fz36 lf x1:=by
   refine(inz36 g (Az36 g lf) lf x1).trans ?_
   rw[(show (fun q=>Az36 g lf 3 [lf] (qf5 x1 q))=(fun q=>qgx lf x1 lf q) from funext fun q=>quz g lf x1 lf q)]
   rfl
theorem hxsz36:HxsOK Tryz.prog qrk:=trivial
theorem mkz36 {g:gz36} (hsm:SmOK Tryz.prog qq4) (hg:∀(x:ElA [(.list (.int .i64))]) (y:Rtz36),WfA [(.list (.int .i64))] x->g x=some y->∃lf,Fz36 lf x.1=some y):Con Tryz.prog 59 ⟨[(.list (.int .i64))],[(false,(.int .i64))],g⟩ :=
 conT (nmf:=nmz36) (sml:=qq4) (hxl:=qrk) (st:=stz36) (hd:=hdz36) 20 mixed ttOK ftOK hsm hxsz36 cal59 rfl rfl (by kernel_rfl) (fun x=>by kernel_rfl) ndz36 okz36 fun x y hx hy=>by
   obtain⟨lf,h⟩:=hg x y hx hy
   exact⟨lf,(runz36 g lf x.1).trans h⟩
def nmz37:Nat->Option Nm:=fun k=>none
def stz37:Nat->Bool:=fun k=>false
def hdz37:=stz37
abbrev Rtz37:Type:=Int × Unit
def qnb:List (Nat × Sm):=[(60,spz35),(59,spz36)]
def qms:List (Nat × Hx):=[]
def clz37 (R:Type) (lf:Nat):ClK R:=qah Tryz.prog ttT.get ftT.get (nm1 29 nmz37) (smL qnb) (hxL qms) lf 20 R
abbrev idz37:Nat:=29
def qoz (lf:Nat) (x1:qai) (x2:qai):Option Rtz37:=(some ((S.orI (List.cons (S.cmpI x1.1 x2.1) (List.cons (S.cmpI x1.2 x2.2) []))),()))
abbrev gz37:Type:=ElA [qal,qal]->Option Rtz37
abbrev sz37 (g:gz37):Sm:=⟨[qal,qal],[(false,(.int .i64))],g⟩
abbrev Ez37 (g:gz37) (J:JT Rtz37) (lf:Nat) (x1:qai) (x2:qai):=qao Tryz.prog ttT.get nmz37 fi29.nt (clz37 _ lf) lf stz37 J fi29.body [] (argGo (argV [qal,qal] (x1,x2,())) 0 .leaf) S0 [] (lastK ttT.get fi29 (sz37 g))
theorem inz37 (g:gz37) (J:JT Rtz37) (lf:Nat) (x1:qai) (x2:qai):Ez37 g J lf x1 x2=qoz lf x1 x2:=by kernel_rfl
theorem ndz37:(regs fi29.body).Nodup:=by decide +kernel
theorem okz37:okC nmz37 stz37 hdz37 fi29.body none=true:=by kernel_rfl
def Az37 (g:gz37) (lf:Nat):JT Rtz37:=atN Tryz.prog ttT.get nmz37 fi29 (sz37 g) (clz37 _ lf) lf hdz37
def Fz37 (lf:Nat) (x1:qai) (x2:qai):Option Rtz37:=qoz lf x1 x2
theorem runz37 (g:gz37) (lf:Nat) (x1:qai) (x2:qai):Ez37 g (Az37 g lf) lf x1 x2=Fz37 lf x1 x2:=by
   refine(inz37 g (Az37 g lf) lf x1 x2).trans ?_
   rfl
theorem hxsz37:HxsOK Tryz.prog qms:=trivial
theorem mkz37 {g:gz37} (hsm:SmOK Tryz.prog qnb) (hg:∀(x:ElA [qal,qal]) (y:Rtz37),WfA [qal,qal] x->g x=some y->∃lf,Fz37 lf x.1 x.2.1=some y):Con Tryz.prog 29 ⟨[qal,qal],[(false,(.int .i64))],g⟩ :=
 conT (nmf:=nmz37) (sml:=qnb) (hxl:=qms) (st:=stz37) (hd:=hdz37) 20 mixed ttOK ftOK hsm hxsz37 cal29 rfl rfl (by kernel_rfl) (fun x=>by kernel_rfl) ndz37 okz37 fun x y hx hy=>by
   obtain⟨lf,h⟩:=hg x y hx hy
   exact⟨lf,(runz37 g lf x.1 x.2.1).trans h⟩
def nmz38:Nat->Option Nm:=fun k=>cond (Nat.beq k 5) (some ⟨[0,1,5,8,10,39,40,41],[],[],[],[],0,0,false⟩) (cond (Nat.beq k 19) (some ⟨[8,16,18,20,22,24,25,128,129,130],[(24,cToken),(25,cToken)],[],[],[],0,0,false⟩) (none))
def stz38:Nat->Bool:=fun k=>cond (Nat.beq k 5) true (cond (Nat.beq k 19) true (false))
def hdz38:=stz38
abbrev Rtz38:Type:=(List qab) × Int × qai × Int × Unit
def qqg:List (Nat × Sm):=[(28,spz22),(24,spz24),(30,spz21),(32,qik),(29,spz37),(34,spz34)]
def qo8:List (Nat × Hx):=[(31,hxG (hxSel (qn4 33) (hxR spz31) (hxR spz32)))]
def clz38 (R:Type) (lf:Nat):ClK R:=qah Tryz.prog ttT.get ftT.get (nm1 8 nmz38) (smL qqg) (hxL qo8) lf 20 R
abbrev idz38:Nat:=8
def qef (x1:(List qab)) (x2:ByteArray) (x3:qag) (p:ByteArray × Int):NRes:=(NRes.mk (.node (some (IV.lst cToken x1)) (.node (some (IV.str x2)) (.node none (.node none .leaf (.node none (.node (some (IV.lst cToken x1)) .leaf .leaf) .leaf)) .leaf) (.node (some (IV.ptr 0 0)) (.node none .leaf (.node none (.node (some (IV.int .i64 p.2)) .leaf .leaf) .leaf)) .leaf)) (.node none (.node none (.node (some (IV.ptr 1 0)) .leaf (.node none (.node (some (IV.int .i64 (Int.ofNat (List.length x1)))) .leaf .leaf) .leaf)) .leaf) (.node none (.node (some (IV.str p.1)) .leaf .leaf) .leaf))) (IS.mk (.node (some (IObj.row (List.cons (IV.int .i64 x3.1) (List.cons (IV.int .i64 x3.2.1) (List.cons (IV.str x3.2.2) []))))) (.node (some (IObj.row (List.cons (IV.int .i64 (Int.ofNat 0)) (List.cons (IV.int .i64 (Int.ofNat 0)) [])))) .leaf .leaf) .leaf) 2) [] 0)
def qeu (x1:(List qab)) (x2:ByteArray) (x3:qag) (p:(List qab) × Int × Int × Int × Int × Int × Int × Int × (List qab) × (List qab)):NRes:=(NRes.mk (.node none (.node none .leaf (.node none (.node none (.node none (.node none (.node none (.node (some (IV.int .i64 (Int.ofNat (List.length x1)))) .leaf .leaf) .leaf) .leaf) .leaf) (.node (some (IV.arr 6)) .leaf .leaf)) .leaf)) (.node none (.node none (.node (some (IV.ptr 0 0)) (.node (some (IV.ptr 1 0)) (.node none (.node none (.node (some (IV.lst cToken x1)) .leaf .leaf) .leaf) .leaf) .leaf) (.node (some (IV.arr 5)) .leaf .leaf)) (.node none (.node (some (IV.ptr 3 0)) .leaf .leaf) .leaf)) (.node none (.node none (.node (some (IV.ptr 2 0)) (.node none (.node none (.node (some (IV.int .i64 p.2.2.2.2.2.2.2.1)) .leaf .leaf) .leaf) .leaf) .leaf) .leaf) (.node none (.node (some (IV.arr 4)) .leaf .leaf) .leaf)))) (IS.mk (.node (some (IObj.row (List.cons (IV.int .i64 (Int.ofNat 0)) (List.cons (IV.int .i64 (Int.ofNat 0)) [])))) (.node (some (IObj.row (List.cons (IV.int .i64 p.2.1) (List.cons (IV.int .i64 p.2.2.1) [])))) (.node (some (IObj.row (List.cons (IV.int .i64 p.2.2.2.1) (List.cons (IV.int .i64 p.2.2.2.2.1) [])))) .leaf .leaf) (.node (some (IObj.arr cToken p.2.2.2.2.2.2.2.2.2)) .leaf .leaf)) (.node (some (IObj.row (List.cons (IV.int .i64 p.2.2.2.2.2.1) (List.cons (IV.int .i64 p.2.2.2.2.2.2.1) [])))) (.node (some (IObj.arr cToken p.1)) .leaf .leaf) (.node (some (IObj.arr cToken p.2.2.2.2.2.2.2.2.1)) .leaf .leaf))) 7) [] 0)
def qnm (lf:Nat) (x1:(List qab)) (x2:ByteArray) (x3:qag) (L5:(ByteArray × Int)->Option Rtz38):Option Rtz38:=(match (cond (Bool.and (S.fits x2) (S.fits x3.2.2)) (some ((S.edit x2 (x3.1,(x3.2.1,x3.2.2))).1,((S.edit x2 (x3.1,(x3.2.1,x3.2.2))).2,()))) none) with|.none  => none|.some v0=>(cond (Bool.not (ieqI v0.2.1 (Int.ofNat 0))) (some ([],((Int.ofNat 0),(((Int.ofNat 0),(Int.ofNat 0)),(v0.2.1,()))))) (L5 (v0.1,(Int.ofNat 0)))))
def qg8 (lf:Nat) (x1:(List qab)) (x2:ByteArray) (x3:qag) (L5:(ByteArray × Int)->Option Rtz38) (L19:((List qab) × Int × Int × Int × Int × Int × Int × Int × (List qab) × (List qab))->Option Rtz38) (p:ByteArray × Int):Option Rtz38:=(cond (iltI p.2 (Int.ofNat (List.length x1))) (match (jget x1 p.2) with|.none  => none|.some v0=>(match (cond (S.fits x2) (some ((S.offset x2 (v0.2.2.1,v0.2.2.2)).1,((S.offset x2 (v0.2.2.1,v0.2.2.2)).2,()))) none) with|.none  => none|.some v1=>(cond (Bool.not (ieqI v1.2.1 (Int.ofNat 0))) (some ([],((Int.ofNat 0),(((Int.ofNat 0),(Int.ofNat 0)),((Int.ofNat 1),()))))) (cond (iltI (Int.ofNat 0) p.2) (match (jget x1 (IntKind.i64.wrap (Int.sub p.2 (Int.ofNat 1)))) with|.none  => none|.some v2=>(cond (Bool.and (keqI v2.2.2.1 v0.2.2.1) (Bool.and (keqI v2.2.2.2 v0.2.2.2) Bool.true)) (some ([],((Int.ofNat 0),(((Int.ofNat 0),(Int.ofNat 0)),((Int.ofNat 1),()))))) (match (jget x1 (IntKind.i64.wrap (Int.sub p.2 (Int.ofNat 1)))) with|.none  => none|.some v3=>(cond (iltI (Int.ofNat 0) (S.comparePl (v3.2.2.1,v3.2.2.2) (v0.2.2.1,v0.2.2.2))) (some ([],((Int.ofNat 0),(((Int.ofNat 0),(Int.ofNat 0)),((Int.ofNat 1),()))))) (L5 (p.1,(IntKind.i64.wrap (Int.add p.2 (Int.ofNat 1))))))))) (L5 (p.1,(IntKind.i64.wrap (Int.add p.2 (Int.ofNat 1))))))))) (match (cond (S.fits x2) (some ((S.placeOf x2 x3.1).1,((S.placeOf x2 x3.1).2,()))) none) with|.none  => none|.some v27=>(match (cond (S.fits x2) (some ((S.placeOf x2 x3.2.1).1,((S.placeOf x2 x3.2.1).2,()))) none) with|.none  => none|.some v28=>(match (cond (S.fits p.1) (some ((S.placeOf p.1 (IntKind.i64.wrap (Int.add x3.1 (Int.ofNat (ByteArray.size x3.2.2))))).1,((S.placeOf p.1 (IntKind.i64.wrap (Int.add x3.1 (Int.ofNat (ByteArray.size x3.2.2))))).2,()))) none) with|.none  => none|.some v29=>(match (cond (Bool.and Bool.true (S.fits p.1)) (some ((S.lines p.1),())) none) with|.none  => none|.some v30=>(cond (lchk (IntKind.i64.wrap (Int.sub v27.1.1 (Int.ofNat 1))) v29.1.1 (Int.ofNat (List.length v30.1)) (Int.ofNat (List.length v30.1))) (match (cond (S.okL (lsub v30.1 (IntKind.i64.wrap (Int.sub v27.1.1 (Int.ofNat 1))) v29.1.1) v27.1.1) (some (((S.readX S.wTok (lsub v30.1 (IntKind.i64.wrap (Int.sub v27.1.1 (Int.ofNat 1))) v29.1.1) v27.1.1).1,((S.readX S.wTok (lsub v30.1 (IntKind.i64.wrap (Int.sub v27.1.1 (Int.ofNat 1))) v29.1.1) v27.1.1).2.1,((S.readX S.wTok (lsub v30.1 (IntKind.i64.wrap (Int.sub v27.1.1 (Int.ofNat 1))) v29.1.1) v27.1.1).2.2,()))),())) none) with|.none  => none|.some v31=>(cond (Bool.not (ieqI v31.1.2.2.1 (Int.ofNat 0))) (some ([],((Int.ofNat 0),((v31.1.2.1.1,v31.1.2.1.2),(v31.1.2.2.1,()))))) (L19 (v31.1.1,v27.1.1,v27.1.2,v29.1.1,v29.1.2,v28.1.1,v28.1.2,(Int.ofNat 0),[],[])))) none))))))
def qi2 (lf:Nat) (x1:(List qab)) (x2:ByteArray) (x3:qag) (L19:((List qab) × Int × Int × Int × Int × Int × Int × Int × (List qab) × (List qab))->Option Rtz38) (p:(List qab) × Int × Int × Int × Int × Int × Int × Int × (List qab) × (List qab)):Option Rtz38:=(cond (iltI p.2.2.2.2.2.2.2.1 (Int.ofNat (List.length x1))) (match (jget x1 p.2.2.2.2.2.2.2.1) with|.none  => none|.some v0=>(cond (iltI v0.2.2.1 p.2.1) (cond (Nat.ble (Nat.mul (Nat.add (List.length p.2.2.2.2.2.2.2.2.2) 1) 40) 140737488355328) (L19 (p.1,p.2.1,p.2.2.1,p.2.2.2.1,p.2.2.2.2.1,p.2.2.2.2.2.1,p.2.2.2.2.2.2.1,(IntKind.i64.wrap (Int.add p.2.2.2.2.2.2.2.1 (Int.ofNat 1))),p.2.2.2.2.2.2.2.2.1,(List.append p.2.2.2.2.2.2.2.2.2 (List.cons (v0.1,(v0.2.1,(v0.2.2.1,v0.2.2.2))) [])))) none) (cond (iltI p.2.2.2.2.2.1 v0.2.2.1) (cond (Nat.ble (Nat.mul (Nat.add (List.length p.2.2.2.2.2.2.2.2.1) 1) 40) 140737488355328) (L19 (p.1,p.2.1,p.2.2.1,p.2.2.2.1,p.2.2.2.2.1,p.2.2.2.2.2.1,p.2.2.2.2.2.2.1,(IntKind.i64.wrap (Int.add p.2.2.2.2.2.2.2.1 (Int.ofNat 1))),(List.append p.2.2.2.2.2.2.2.2.1 (List.cons (v0.1,(v0.2.1,((IntKind.i64.wrap (Int.add v0.2.2.1 (IntKind.i64.wrap (Int.sub p.2.2.2.1 p.2.2.2.2.2.1)))),v0.2.2.2))) [])),p.2.2.2.2.2.2.2.2.2)) none) (L19 (p.1,p.2.1,p.2.2.1,p.2.2.2.1,p.2.2.2.2.1,p.2.2.2.2.2.1,p.2.2.2.2.2.2.1,(IntKind.i64.wrap (Int.add p.2.2.2.2.2.2.2.1 (Int.ofNat 1))),p.2.2.2.2.2.2.2.2.1,p.2.2.2.2.2.2.2.2.2))))) (match (cond (Nat.ble (List.length (List.append p.2.2.2.2.2.2.2.2.2 (List.append p.1 (List.append p.2.2.2.2.2.2.2.2.1 [])))) 1000000000) (some ((List.append p.2.2.2.2.2.2.2.2.2 (List.append p.1 (List.append p.2.2.2.2.2.2.2.2.1 []))),())) none) with|.none  => none|.some v76=>(cond (iltI (Int.ofNat 6000) (Int.ofNat (List.length v76.1))) (some ([],((Int.ofNat 0),(((Int.ofNat 0),(Int.ofNat 0)),((Int.ofNat 3),()))))) (some (v76.1,((Int.ofNat (List.length p.1)),(((Int.ofNat 0),(Int.ofNat 0)),((Int.ofNat 0),()))))))))
abbrev gz38:Type:=ElA [(.list cToken),.str,cChange]->Option Rtz38
abbrev sz38 (g:gz38):Sm:=⟨[(.list cToken),.str,cChange],[(true,cToken),(false,(.int .i64)),(false,qal),(false,(.int .i64))],g⟩
abbrev Ez38 (g:gz38) (J:JT Rtz38) (lf:Nat) (x1:(List qab)) (x2:ByteArray) (x3:qag):=qao Tryz.prog ttT.get nmz38 fi8.nt (clz38 _ lf) lf stz38 J fi8.body [] (argGo (argV [(.list cToken),.str,cChange] (x1,x2,x3,())) 0 .leaf) S0 [] (lastK ttT.get fi8 (sz38 g))
abbrev Bz38 (g:gz38) (J:JT Rtz38) (lf k:Nat) (ms:List Nat) (q:NRes):=qaz Tryz.prog ttT.get nmz38 fi8.nt (clz38 _ lf) lf stz38 J k fi8.body [] ms q (lastK ttT.get fi8 (sz38 g))
theorem inz38 (g:gz38) (J:JT Rtz38) (lf:Nat) (x1:(List qab)) (x2:ByteArray) (x3:qag):Ez38 g J lf x1 x2 x3=qnm lf x1 x2 x3 (fun q=>J 5 [lf] (qef x1 x2 x3 q)):=by kernel_rfl
theorem stz38_5 (g:gz38) (J:JT Rtz38) (lf:Nat) (x1:(List qab)) (x2:ByteArray) (x3:qag) (m1:Nat) (p:ByteArray × Int):Bz38 g J lf 5 [m1] (qef x1 x2 x3 p)=qg8 lf x1 x2 x3 (fun q=>J 5 [m1] (qef x1 x2 x3 q)) (fun q=>J 19 [lf] (qeu x1 x2 x3 q)) p:=by kernel_rfl
theorem q1b (g:gz38) (J:JT Rtz38) (lf:Nat) (x1:(List qab)) (x2:ByteArray) (x3:qag) (m1:Nat) (p:(List qab) × Int × Int × Int × Int × Int × Int × Int × (List qab) × (List qab)):Bz38 g J lf 19 [m1] (qeu x1 x2 x3 p)=qi2 lf x1 x2 x3 (fun q=>J 19 [m1] (qeu x1 x2 x3 q)) p:=by kernel_rfl
theorem ndz38:(regs fi8.body).Nodup:=by decide +kernel
theorem okz38:okC nmz38 stz38 hdz38 fi8.body none=true:=by kernel_rfl
def Az38 (g:gz38) (lf:Nat):JT Rtz38:=atN Tryz.prog ttT.get nmz38 fi8 (sz38 g) (clz38 _ lf) lf hdz38
def qdv (lf:Nat) (x1:(List qab)) (x2:ByteArray) (x3:qag):Nat->((List qab) × Int × Int × Int × Int × Int × Int × Int × (List qab) × (List qab))->Option Rtz38:=rounds fun K p=>qi2 lf x1 x2 x3 K p
theorem qut (g:gz38) (lf:Nat) (x1:(List qab)) (x2:ByteArray) (x3:qag):∀(n:Nat) (p:(List qab) × Int × Int × Int × Int × Int × Int × Int × (List qab) × (List qab)),Az38 g lf 19 [n] (qeu x1 x2 x3 p)=qdv lf x1 x2 x3 n p
 | 0,p=>qa2 19 [0] rfl _
 | n+1,p=>by
   have ih:=qut g lf x1 x2 x3 n
   refine(qav (qam 20 _) ndz38 okz38 19 [n+1] [n] rfl _).trans ((q1b g (Az38 g lf) lf x1 x2 x3 n p).trans ?_)
   rw[(show (fun q=>Az38 g lf 19 [n] (qeu x1 x2 x3 q))=(fun q=>qdv lf x1 x2 x3 n q) from funext ih)]
   rfl
def qh4 (lf:Nat) (x1:(List qab)) (x2:ByteArray) (x3:qag):Nat->(ByteArray × Int)->Option Rtz38:=rounds fun K p=>qg8 lf x1 x2 x3 K (fun q=>qdv lf x1 x2 x3 lf q) p
theorem qs3 (g:gz38) (lf:Nat) (x1:(List qab)) (x2:ByteArray) (x3:qag):∀(n:Nat) (p:ByteArray × Int),Az38 g lf 5 [n] (qef x1 x2 x3 p)=qh4 lf x1 x2 x3 n p
 | 0,p=>qa2 5 [0] rfl _
 | n+1,p=>by
   have ih:=qs3 g lf x1 x2 x3 n
   refine(qav (qam 20 _) ndz38 okz38 5 [n+1] [n] rfl _).trans ((stz38_5 g (Az38 g lf) lf x1 x2 x3 n p).trans ?_)
   rw[(show (fun q=>Az38 g lf 19 [lf] (qeu x1 x2 x3 q))=(fun q=>qdv lf x1 x2 x3 lf q) from funext fun q=>qut g lf x1 x2 x3 lf q),(show (fun q=>Az38 g lf 5 [n] (qef x1 x2 x3 q))=(fun q=>qh4 lf x1 x2 x3 n q) from funext ih)]
   rfl
def Fz38 (lf:Nat) (x1:(List qab)) (x2:ByteArray) (x3:qag):Option Rtz38:=qnm lf x1 x2 x3 (fun q=>qh4 lf x1 x2 x3 lf q)
theorem runz38 (g:gz38) (lf:Nat) (x1:(List qab)) (x2:ByteArray) (x3:qag):Ez38 g (Az38 g lf) lf x1 x2 x3=Fz38 lf x1 x2 x3:=by
   refine(inz38 g (Az38 g lf) lf x1 x2 x3).trans ?_
   rw[(show (fun q=>Az38 g lf 5 [lf] (qef x1 x2 x3 q))=(fun q=>qh4 lf x1 x2 x3 lf q) from funext fun q=>qs3 g lf x1 x2 x3 lf q)]
   rfl
theorem hxsz38:HxsOK Tryz.prog qo8:=⟨hxG_ok (quk (qgj conz31) (qgj conz32)),trivial⟩
theorem mkz38 {g:gz38} (hsm:SmOK Tryz.prog qqg) (hg:∀(x:ElA [(.list cToken),.str,cChange]) (y:Rtz38),WfA [(.list cToken),.str,cChange] x->g x=some y->∃lf,Fz38 lf x.1 x.2.1 x.2.2.1=some y):Con Tryz.prog 8 ⟨[(.list cToken),.str,cChange],[(true,cToken),(false,(.int .i64)),(false,qal),(false,(.int .i64))],g⟩ :=
 conT (nmf:=nmz38) (sml:=qqg) (hxl:=qo8) (st:=stz38) (hd:=hdz38) 20 mixed ttOK ftOK hsm hxsz38 cal8 rfl rfl (by kernel_rfl) (fun x=>by kernel_rfl) ndz38 okz38 fun x y hx hy=>by
   obtain⟨lf,h⟩:=hg x y hx hy
   exact⟨lf,(runz38 g lf x.1 x.2.1 x.2.2.1).trans h⟩
theorem qu8 (a:Int):ieqI a a=true:=ieq_t rfl
theorem qyb {s:ByteArray} {c:qag} (h:(S.edit s c).2=0):∃a b:Nat,c.1=(a:Int)/\c.2.1=(b:Int)/\a<=b/\b<=s.size/\qaa (S.edit s c).1=(qaa s).take a++qaa c.2.2++(qaa s).drop b/\(S.edit s c).1.size=s.size-(b-a)+c.2.2.size/\(S.edit s c).1.size<=20000:=by
 by_cases h1:c.1<0\/c.2.1<c.1\/Int.ofNat s.size<c.2.1
 · have e:S.edit s c=(S.lit [],1):=by unfold S.edit;rw[if_pos h1]
   rw[e] at h
   exact absurd (show (1:Int)=0 from h) (by decide)
 · by_cases h2:20000<Int.ofNat s.size-(c.2.1-c.1)+Int.ofNat c.2.2.size
   · have e:S.edit s c=(S.lit [],3):=by unfold S.edit;rw[if_neg h1,if_pos h2]
     rw[e] at h
     exact absurd (show (3:Int)=0 from h) (by decide)
   · have e:S.edit s c=(s.extract 0 c.1.toNat++c.2.2++s.extract c.2.1.toNat s.size,0):=by unfold S.edit;rw[if_neg h1,if_neg h2]
     have h1':¬c.1<0/\¬c.2.1<c.1/\¬(s.size:Int)<c.2.1:=⟨fun x=>h1 (.inl x),fun x=>h1 (.inr (.inl x)),fun x=>h1 (.inr (.inr x))⟩
     have h2':¬20000<(s.size:Int)-(c.2.1-c.1)+(c.2.2.size:Int):=h2
     obtain⟨g1,g2,g3⟩:=h1'
     have hb:qaa (S.edit s c).1=(qaa s).take c.1.toNat++qaa c.2.2++(qaa s).drop c.2.1.toNat:=by
       rw[e]
       simp only
       rw[qva,qva,qha,qkp s _ s.size (Nat.le_refl _)]
     have hsz:(S.edit s c).1.size=s.size-(c.2.1.toNat-c.1.toNat)+c.2.2.size:=by
       rw[<- qae,hb,List.length_append,List.length_append,List.length_take,List.length_drop,qae,qae]
       omega
     exact⟨c.1.toNat,c.2.1.toNat,by omega,by omega,by omega,by omega,hb,hsz,by rw[hsz];omega⟩
theorem qng:∀(l:List Int) (n c:Int),(S.placeGo l n c).1=n+((l.count 10:Nat):Int)
 | [],n,c=>by show n=n+((0:Nat):Int);omega
 | b::l,n,c=>by
   by_cases hb:b=10
   · subst hb
     rw[q0w,qng l,List.count_cons_self];omega
   · rw[place_b hb,qng l,List.count_cons_of_ne (fun e=>hb e)]
theorem qe5 (s:ByteArray) (a:Nat) (h:a<=s.size):(S.placeOf s (a:Int)).1.1=1+((((qaa s).take a).count 10:Nat):Int):=by
 unfold S.placeOf
 rw[if_neg (by simp only[Int.ofNat_eq_natCast];omega)]
 exact qng _ 1 1
theorem qil:∀(f:Nat) (r:List Int) (c:Nat),(S.pcs f r c).1.length<=r.length
 | 0,r,_=>Nat.zero_le _
 | f+1,[],_=>Nat.zero_le _
 | f+1,b::r,c=>by
   have hpc:S.pcs (f+1) (b::r) c=if b=32 then S.pcs f r (c+1) else if (S.tok (b::r)).2.2.1=0 then (((S.tok (b::r)).2.1,strOf ((b::r).take (S.tok (b::r)).1),c)::(S.pcs f ((b::r).drop (S.tok (b::r)).1) (c+(S.tok (b::r)).1)).1,(S.pcs f ((b::r).drop (S.tok (b::r)).1) (c+(S.tok (b::r)).1)).2) else ([],some (c+(S.tok (b::r)).2.2.2,(S.tok (b::r)).2.2.1)):=rfl
   rw[hpc]
   split
   · have:=qil f r (c+1)
     rw[List.length_cons];omega
   split
   · rename_i h0
     obtain⟨t1,t2⟩:=qlr h0 (by simp)
     have:=qil f ((b::r).drop (S.tok (b::r)).1) (c+(S.tok (b::r)).1)
     rw[List.length_drop] at this
     show (_::_:List _).length<=_
     rw[List.length_cons]
     rw[List.length_cons] at t2 this ⊢
     omega
   · exact Nat.zero_le _
theorem qm3 (N:Nat):∀(ls:List (List Int)) (n:Int),(∀x∈ls,x.length<=N)->(S.readL ls n).1.length<=N*ls.length
 | [],n,_=>Nat.zero_le _
 | x::ls,n,h=>by
   have ih:=qm3 N ls (n+1) fun y hy=>h y (List.mem_cons_of_mem _ hy)
   have hx:=h x List.mem_cons_self
   have hp:=qil (x.length+1) x 1
   rw[qcy,List.length_cons,Nat.mul_succ]
   split
   · exact Nat.zero_le _
   split
   · rw[List.length_append]
     unfold S.at_
     rw[List.length_map]
     omega
   · omega
theorem qhc {s:ByteArray} {p:qai} (h:(S.offset s p).2=0):∃(k j:Nat) (x:List Int),p=(1+(k:Int),1+(j:Int))/\(S.splitL (qaa s))[k]?=some x/\j<=x.length:=by
 unfold S.offset S.offsetL at h
 split at h
 · exact absurd (show (1:Int)=0 from h) (by decide)
 · rename_i h1
   cases hx:(S.splitL (qaa s))[(p.1-1).toNat]? with
   | none=>rw[hx] at h;exact absurd (show (1:Int)=0 from h) (by decide)
   | some x =>
     rw[hx] at h
     simp only at h
     split at h
     · exact absurd (show (1:Int)=0 from h) (by decide)
     · rename_i h2
       have h1':¬p.1<1/\¬p.2<1:=⟨fun e=>h1 (.inl e),fun e=>h1 (.inr (.inr e))⟩
       have h2':¬(x.length:Int)+1<p.2:=h2
       refine⟨(p.1-1).toNat,(p.2-1).toNat,x,Prod.ext ?_ ?_,hx,?_⟩
       · show p.1=1+(((p.1-1).toNat:Nat):Int)
         omega
       · show p.2=1+(((p.2-1).toNat:Nat):Int)
         omega
       · omega
theorem qyf:∀l:List (List Int),0<=S.sumLen l
 | []=>Int.le_refl _
 | x::l=>by rw[qb9];have:=qyf l;omega
theorem qvd:∀a b:List (List Int),S.sumLen (a++b)=S.sumLen a+S.sumLen b
 | [],b=>by show S.sumLen b=0+S.sumLen b;omega
 | x::a,b=>by rw[List.cons_append,qb9,qb9,qvd a b];omega
theorem qnf {l:List (List Int)} {k k':Nat} {x:List Int} (hx:l[k]?=some x) (h:k<k'):S.sumLen (l.take k)+(x.length:Int)+1<=S.sumLen (l.take k'):=by
 have e:l.take k'=l.take (k+1)++(l.take k').drop (k+1):=by
   have:=List.take_append_drop (k+1) (l.take k')
   rw[List.take_take,show min (k+1) k'=k+1 by omega] at this
   exact this.symm
 have e2:l.take (k+1)=l.take k++[x]:=by rw[List.take_add_one,hx];rfl
 rw[e,qvd,e2,q2r]
 have:=qyf ((l.take k').drop (k+1))
 omega
theorem qtu {s:ByteArray} {p q:qai} {o1 o2:Int} (hp:S.offset s p=(o1,0)) (hq:S.offset s q=(o2,0)) (h:o1<o2):¬p=q/\S.comparePl p q<0:=by
 obtain⟨k1,j1,x1,rfl,a2,a3⟩:=qhc (s:=s) (p:=p) (by rw[hp])
 obtain⟨k2,j2,x2,rfl,b2,b3⟩:=qhc (s:=s) (p:=q) (by rw[hq])
 rw[qgu a2 a3] at hp
 rw[qgu b2 b3] at hq
 have e1:(j1:Int)+S.sumLen ((S.splitL (qaa s)).take k1)=o1:=congrArg Prod.fst hp
 have e2:(j2:Int)+S.sumLen ((S.splitL (qaa s)).take k2)=o2:=congrArg Prod.fst hq
 have hk:k1<=k2:=by
   refine Nat.le_of_not_lt fun hlt=>?_
   have:=qnf b2 hlt
   omega
 have hne:¬(k1=k2/\¬j1<j2):=by
   rintro⟨rfl,h2⟩
   omega
 constructor
 · intro e
   obtain⟨g1,g2⟩:=Prod.mk.inj e
   exact hne ⟨by omega,by omega⟩
 · show (if S.cmpI (1+(k1:Int)) (1+(k2:Int))=0 then S.cmpI (1+(j1:Int)) (1+(j2:Int)) else S.cmpI (1+(k1:Int)) (1+(k2:Int)))<0
   by_cases c:k1=k2
   · subst c
     have hj:j1<j2:=Nat.lt_of_not_le fun hle=>hne ⟨rfl,by omega⟩
     have e0:S.cmpI (1+(k1:Int)) (1+(k1:Int))=0:=by
       unfold S.cmpI
       rw[if_neg (Int.lt_irrefl _),if_neg (Int.lt_irrefl _)]
     have e1:S.cmpI (1+(j1:Int)) (1+(j2:Int))=-1:=if_pos (by omega)
     rw[if_pos e0,e1]
     decide
   · have e1:S.cmpI (1+(k1:Int)) (1+(k2:Int))=-1:=if_pos (by omega)
     rw[if_neg (by rw[e1];decide),e1]
     decide
theorem qs2 (s:ByteArray) (pv:Option qai) (t:qab) (l:List qab):S.orderedGo s pv (t::l)=(decide ((S.offset s t.2.2).2=0)&&((match pv with|none=>true|some p=>!(decide (p=t.2.2))&&!(decide (0<S.comparePl p t.2.2)))&&S.orderedGo s (some t.2.2) l)):=rfl
end Go.Proofs.YtanenikkloolfaaGreatDoor
end
