/- Texts: Kg3, Kp3, Kp4, Kp6, Kl2, Kg9, Ksh, Ksr, Kg7, Xhs, Xhg, Kg8, Kg6, Kp5, Kp7, Kp8, Kp9, Kw4, Kpa, Kpb, Kpc, Kpd, Kpe, Kpf, Kpg, Kph, Kpj, Kl4, Kl5, Krp, Rg, Krq, Jcr. -/
import Derived.Test.YtnhmanoiolfapaaGreatMc4
import Derived.Shelf.Strings.Repeat
import Derived.Test.YtnhmanoiolfapaaGreatProg
import Derived.Laws.IdiomCopy
import Derived.Laws.MakeOwn
import Derived.Test.YtnhmanoiolfapaaGreatMc1
set_option linter.unusedVariables false
noncomputable section
set_option maxRecDepth 100000
namespace Go.Proofs.YtnhmanoiolfapaaGreat
open Go Go.Sx Go.RowKit Go.Jx
abbrev qt4:Type:=ByteArray × Unit
abbrev zw2:Nat:=92
def q10(lf:Nat)(x1:Int):Option qt4:=(some ((ByteArray.mk (Array.mk (List.cons (UInt8.ofBitVec (BitVec.ofFin (Fin.mk (Nat.mod (Int.toNat (IntKind.u8.wrap (Int.fdiv x1 (Int.ofNat 256)))) 256) (jc7 (Int.toNat (IntKind.u8.wrap (Int.fdiv (x1,()).1 (HPow.hPow (OfNat.ofNat 2) (Min.min (Int.toNat (OfNat.ofNat 8)) (IntKind.bits IntKind.i64)))))) (BitVec.ofNat._proof_1 (OfNat.ofNat 8)))))) (List.cons (UInt8.ofBitVec (BitVec.ofFin (Fin.mk (Nat.mod (Int.toNat (IntKind.u8.wrap x1)) 256) (jc7 (Int.toNat (IntKind.u8.wrap (x1,()).1)) (BitVec.ofNat._proof_1 (OfNat.ofNat 8)))))) [])))),()))
def qox(lf:Nat)(x1:Int):Option qt4:=q10 lf x1
theorem z0t{g:ElA [(.int .i64)]->Option qt4}(hsm:SmOK Tryz.prog [])(hg:∀(x:ElA [(.int .i64)]) (y:qt4),WfA [(.int .i64)] x->g x=some y->∃lf,qox lf x.1=some y):Con Tryz.prog 92 ⟨[(.int .i64)],[(false,.str)],g⟩ :=
 conU (fi:=fi92) (hxl:=[]) (fun lf x=>qox lf x.1) cm3 zwe trivial hsm hg
def qlo:Nat->Option Nm:=fun k=>cond (Nat.beq k 3) (some ⟨[3,6,7,8],[],[],[],[],0,0,false⟩) (none)
def qln:Nat->Bool:=fun k=>cond (Nat.beq k 3) true (false)
def q5x:=qln
abbrev qc9:Type:=ByteArray × Unit
def zdk:List (Nat × Sm):=[(92,q03)]
def zd1:List (Nat × Hx):=[]
def qzw(R:Type)(lf:Nat):ClK R:=qa1 Tryz.prog ttT.get ftT.get (nm1 91 qlo) (smL zdk) (hxL zd1) lf 20 R
abbrev zqp:Nat:=91
def qii(x1:(List qaa))(p:ByteArray × Int):NRes:=(NRes.mk (.node none (.node none (.node (some (IV.str p.1)) (.node (some (IV.int .i64 (Int.ofNat x1.length))) .leaf .leaf) .leaf) .leaf) (.node none (.node none (.node (some (IV.int .i64 p.2)) .leaf .leaf) .leaf) (.node (some (IV.lst cCell x1)) .leaf .leaf))) (IS.mk .leaf 0) [] 0)
def q3q(lf:Nat)(x1:(List qaa))(L3:(ByteArray × Int)->Option qc9):Option qc9:=(L3 ((S.lit []),(Int.ofNat 0)))
def qod(lf:Nat)(x1:(List qaa))(L3:(ByteArray × Int)->Option qc9)(p:ByteArray × Int):Option qc9:=(cond (iltI p.2 (Int.ofNat x1.length)) (match (jget x1 p.2) with|none=>none|some v0=>(cond (Nat.ble (Nat.succ (Nat.add p.1.size 1)) 9223372036854775808) (cond v0.2.2 (match (cond (S.inI (Int.ofNat 0) (Int.ofNat 0) (Int.ofNat 16777215)) (some ((S.lit [0,0]),())) none) with|none=>none|some v1=>(cond (Nat.ble (Nat.succ (Nat.add (ByteArray.size (ByteArray.append p.1 (ByteArray.mk (Array.mk (List.cons (UInt8.ofBitVec (BitVec.ofFin (Fin.mk (Nat.mod (Int.toNat (IntKind.u8.wrap v0.1)) 256) (jc7 (Int.toNat (IntKind.u8.wrap v0.1)) (BitVec.ofNat._proof_1 (OfNat.ofNat 8)))))) []))))) v1.1.size)) 9223372036854775808) (L3 ((ByteArray.append (ByteArray.append p.1 (ByteArray.mk (Array.mk (List.cons (UInt8.ofBitVec (BitVec.ofFin (Fin.mk (Nat.mod (Int.toNat (IntKind.u8.wrap v0.1)) 256) (jc7 (Int.toNat (IntKind.u8.wrap v0.1)) (BitVec.ofNat._proof_1 (OfNat.ofNat 8)))))) [])))) v1.1),(IntKind.i64.wrap (Int.add p.2 (Int.ofNat 1))))) none)) (match (cond (S.inI (IntKind.i64.wrap (Int.ofNat (Nat.add v0.2.1.size 1))) (Int.ofNat 0) (Int.ofNat 16777215)) (some ((qae (S.two (Int.toNat (IntKind.i64.wrap (Int.ofNat (Nat.add v0.2.1.size 1)))))),())) none) with|none=>none|some v37=>(cond (Nat.ble (Nat.succ (Nat.add v37.1.size v0.2.1.size)) 9223372036854775808) (cond (Nat.ble (Nat.succ (Nat.add (ByteArray.size (ByteArray.append p.1 (ByteArray.mk (Array.mk (List.cons (UInt8.ofBitVec (BitVec.ofFin (Fin.mk (Nat.mod (Int.toNat (IntKind.u8.wrap v0.1)) 256) (jc7 (Int.toNat (IntKind.u8.wrap v0.1)) (BitVec.ofNat._proof_1 (OfNat.ofNat 8)))))) []))))) (ByteArray.size (ByteArray.append v37.1 v0.2.1)))) 9223372036854775808) (L3 ((ByteArray.append (ByteArray.append p.1 (ByteArray.mk (Array.mk (List.cons (UInt8.ofBitVec (BitVec.ofFin (Fin.mk (Nat.mod (Int.toNat (IntKind.u8.wrap v0.1)) 256) (jc7 (Int.toNat (IntKind.u8.wrap v0.1)) (BitVec.ofNat._proof_1 (OfNat.ofNat 8)))))) [])))) (ByteArray.append v37.1 v0.2.1)),(IntKind.i64.wrap (Int.add p.2 (Int.ofNat 1))))) none) none))) none)) (some (p.1,())))
abbrev gz18:Type:=ElA [(.list cCell)]->Option qc9
abbrev sz18(g:gz18):Sm:=⟨[(.list cCell)],[(false,.str)],g⟩
abbrev Ez18(g:gz18)(J:JT qc9)(lf:Nat)(x1:(List qaa)):=qbh Tryz.prog ttT.get qlo fi91.nt (qzw _ lf) lf qln J fi91.body [] (qau (argV [(.list cCell)] (x1,())) 0 .leaf) S0 [] (qam ttT.get fi91 (sz18 g))
abbrev Bz18(g:gz18)(J:JT qc9)(lf k:Nat)(ms:List Nat)(q:NRes):=qbm Tryz.prog ttT.get qlo fi91.nt (qzw _ lf) lf qln J k fi91.body [] ms q (qam ttT.get fi91 (sz18 g))
theorem zhg(g:gz18)(J:JT qc9)(lf:Nat)(x1:(List qaa)):Ez18 g J lf x1=q3q lf x1 (fun q=>J 3 [lf] (qii x1 q)):=by kernel_rfl
theorem z0a(g:gz18)(J:JT qc9)(lf:Nat)(x1:(List qaa))(m1:Nat)(p:ByteArray × Int):Bz18 g J lf 3 [m1] (qii x1 p)=qod lf x1 (fun q=>J 3 [m1] (qii x1 q)) p:=by kernel_rfl
theorem q25:(regs fi91.body).Nodup:=by decide +kernel
theorem q8b:okC qlo qln q5x fi91.body none=true:=by kernel_rfl
def Az18(g:gz18)(lf:Nat):JT qc9:=atN Tryz.prog ttT.get qlo fi91 (sz18 g) (qzw _ lf) lf q5x
def qpo(lf:Nat)(x1:(List qaa)):Nat->(ByteArray × Int)->Option qc9:=qaw fun K p=>qod lf x1 K p
theorem zeh(g:gz18)(lf:Nat)(x1:(List qaa)):∀(n:Nat) (p:ByteArray × Int),Az18 g lf 3 [n] (qii x1 p)=qpo lf x1 n p
 | 0,p=>qba 3 [0] rfl _
 | n+1,p=>by
  have ih:=zeh g lf x1 n;refine(qa7 (qa0 20 _) q25 q8b 3 [n+1] [n] rfl _).trans ((z0a g (Az18 g lf) lf x1 n p).trans ?_);rw[(show (fun q=>Az18 g lf 3 [n] (qii x1 q))=(fun q=>qpo lf x1 n q) from funext ih)];rfl
def Fz18(lf:Nat)(x1:(List qaa)):Option qc9:=q3q lf x1 (fun q=>qpo lf x1 lf q)
theorem zhl(g:gz18)(lf:Nat)(x1:(List qaa)):Ez18 g (Az18 g lf) lf x1=Fz18 lf x1:=by
  refine(zhg g (Az18 g lf) lf x1).trans ?_;rw[(show (fun q=>Az18 g lf 3 [lf] (qii x1 q))=(fun q=>qpo lf x1 lf q) from funext fun q=>zeh g lf x1 lf q)];rfl
theorem zxs:qa4 Tryz.prog zd1:=trivial
theorem z1l{g:gz18}(hsm:SmOK Tryz.prog zdk)(hg:∀(x:ElA [(.list cCell)]) (y:qc9),WfA [(.list cCell)] x->g x=some y->∃lf,Fz18 lf x.1=some y):Con Tryz.prog 91 ⟨[(.list cCell)],[(false,.str)],g⟩ :=
 conV (st:=qln) (fun lf x=>Fz18 lf x.1) cm3 zwc zxs q25 q8b (fun lf x=>zhl g lf x.1) hsm hg
def qks:Nat->Option Nm:=fun k=>cond (Nat.beq k 3) (some ⟨[4],[],[],[],[],0,0,false⟩) (cond (Nat.beq k 6) (some ⟨[4,5],[(5,.str)],[],[],[],0,0,false⟩) (none))
def qkm:Nat->Bool:=fun k=>cond (Nat.beq k 3) true (cond (Nat.beq k 6) true (false))
def zcm:=qkm
abbrev qb9:Type:=(List ByteArray) × Unit
def zat:List (Nat × Sm):=[(91,zew),(92,q03)]
def zbk:List (Nat × Hx):=[]
def que(R:Type)(lf:Nat):ClK R:=qa1 Tryz.prog ttT.get ftT.get (nm1 56 qks) (smL zat) (hxL zbk) lf 20 R
abbrev zhr:Nat:=56
def qie(x1:(List qaa))(p:ByteArray):NRes:=(NRes.mk (.node none .leaf (.node none (.node (some (IV.str p)) .leaf .leaf) .leaf)) (IS.mk .leaf 0) [] 0)
def qiw(x1:(List qaa))(p:ByteArray × (List ByteArray)):NRes:=(NRes.mk (.node none (.node none .leaf (.node (some (IV.arr 0)) .leaf .leaf)) (.node none (.node (some (IV.str p.1)) .leaf .leaf) .leaf)) (IS.mk (.node (some (IObj.arr TC.str p.2)) .leaf .leaf) 1) [] 0)
def qxr(lf:Nat)(x1:(List qaa))(L3:ByteArray->Option qb9):Option qb9:=(match (cond (S.pk x1) (some ((qae (S.body x1)),())) none) with|none=>none|some v0=>(match (cond (S.inI (Int.ofNat v0.1.size) (Int.ofNat 0) (Int.ofNat 16777215)) (some ((qae (S.two (Int.toNat (Int.ofNat v0.1.size)))),())) none) with|none=>none|some v1=>(cond (Nat.ble (Nat.succ (Nat.add 2 v1.1.size)) 9223372036854775808) (cond (Nat.ble (Nat.succ (Nat.add (ByteArray.size (ByteArray.append (ByteArray.mk (Array.mk (List.cons (UInt8.ofBitVec (BitVec.ofFin (Fin.mk 1 (jc7 (Int.toNat (OfNat.ofNat 1)) (BitVec.ofNat._proof_1 (OfNat.ofNat 8)))))) (List.cons (UInt8.ofBitVec (BitVec.ofFin (Fin.mk (Nat.mod (Int.toNat (IntKind.u8.wrap (Int.fdiv (Int.ofNat v0.1.size) (Int.ofNat 65536)))) 256) (jc7 (Int.toNat (IntKind.u8.wrap (Int.fdiv (Nat.cast v0.1.size) (HPow.hPow (OfNat.ofNat 2) (Min.min (Int.toNat (OfNat.ofNat 16)) (IntKind.bits IntKind.i64)))))) (BitVec.ofNat._proof_1 (OfNat.ofNat 8)))))) [])))) v1.1)) v0.1.size)) 9223372036854775808) (L3 (ByteArray.append (ByteArray.append (ByteArray.mk (Array.mk (List.cons (UInt8.ofBitVec (BitVec.ofFin (Fin.mk 1 (jc7 (Int.toNat (OfNat.ofNat 1)) (BitVec.ofNat._proof_1 (OfNat.ofNat 8)))))) (List.cons (UInt8.ofBitVec (BitVec.ofFin (Fin.mk (Nat.mod (Int.toNat (IntKind.u8.wrap (Int.fdiv (Int.ofNat v0.1.size) (Int.ofNat 65536)))) 256) (jc7 (Int.toNat (IntKind.u8.wrap (Int.fdiv (Nat.cast v0.1.size) (HPow.hPow (OfNat.ofNat 2) (Min.min (Int.toNat (OfNat.ofNat 16)) (IntKind.bits IntKind.i64)))))) (BitVec.ofNat._proof_1 (OfNat.ofNat 8)))))) [])))) v1.1) v0.1)) none) none)))
def qij(lf:Nat)(x1:(List qaa))(L3:ByteArray->Option qb9)(L6:(ByteArray × (List ByteArray))->Option qb9)(p:ByteArray):Option qb9:=(cond (Bool.not (ieqI (Int.ofNat (Nat.mod p.size 64)) (Int.ofNat 0))) (cond (Nat.ble (Nat.succ (Nat.add p.size 1)) 9223372036854775808) (L3 (ByteArray.append p (S.lit [0]))) none) (L6 (p,[])))
def qh8(lf:Nat)(x1:(List qaa))(L6:(ByteArray × (List ByteArray))->Option qb9)(p:ByteArray × (List ByteArray)):Option qb9:=(cond (iltI (Int.ofNat 0) (Int.ofNat p.1.size)) (cond (lchk (Int.ofNat 0) (Int.ofNat 64) (Int.ofNat p.1.size) (Int.ofNat p.1.size)) (cond (Nat.ble (Nat.mul (Nat.add p.2.length 1) 16) 140737488355328) (cond (lchk (Int.ofNat 64) (Int.ofNat p.1.size) (Int.ofNat p.1.size) (Int.ofNat p.1.size)) (L6 ((ByteArray.extract p.1 64 (Int.toNat (Int.ofNat p.1.size))),(List.append p.2 [(ByteArray.extract p.1 0 64)]))) none) none) none) (some (p.2,())))
abbrev gz19:Type:=ElA [(.list cCell)]->Option qb9
abbrev sz19(g:gz19):Sm:=⟨[(.list cCell)],[(true,.str)],g⟩
abbrev Ez19(g:gz19)(J:JT qb9)(lf:Nat)(x1:(List qaa)):=qbh Tryz.prog ttT.get qks fi56.nt (que _ lf) lf qkm J fi56.body [] (qau (argV [(.list cCell)] (x1,())) 0 .leaf) S0 [] (qam ttT.get fi56 (sz19 g))
abbrev Bz19(g:gz19)(J:JT qb9)(lf k:Nat)(ms:List Nat)(q:NRes):=qbm Tryz.prog ttT.get qks fi56.nt (que _ lf) lf qkm J k fi56.body [] ms q (qam ttT.get fi56 (sz19 g))
theorem zue(g:gz19)(J:JT qb9)(lf:Nat)(x1:(List qaa)):Ez19 g J lf x1=qxr lf x1 (fun q=>J 3 [lf] (qie x1 q)):=by kernel_rfl
theorem z07(g:gz19)(J:JT qb9)(lf:Nat)(x1:(List qaa))(m1:Nat)(p:ByteArray):Bz19 g J lf 3 [m1] (qie x1 p)=qij lf x1 (fun q=>J 3 [m1] (qie x1 q)) (fun q=>J 6 [lf] (qiw x1 q)) p:=by kernel_rfl
theorem zx0(g:gz19)(J:JT qb9)(lf:Nat)(x1:(List qaa))(m1:Nat)(p:ByteArray × (List ByteArray)):Bz19 g J lf 6 [m1] (qiw x1 p)=qh8 lf x1 (fun q=>J 6 [m1] (qiw x1 q)) p:=by kernel_rfl
theorem qu0:(regs fi56.body).Nodup:=by decide +kernel
theorem qwn:okC qks qkm zcm fi56.body none=true:=by kernel_rfl
def Az19(g:gz19)(lf:Nat):JT qb9:=atN Tryz.prog ttT.get qks fi56 (sz19 g) (que _ lf) lf zcm
def qdz(lf:Nat)(x1:(List qaa)):Nat->(ByteArray × (List ByteArray))->Option qb9:=qaw fun K p=>qh8 lf x1 K p
theorem zej(g:gz19)(lf:Nat)(x1:(List qaa)):∀(n:Nat) (p:ByteArray × (List ByteArray)),Az19 g lf 6 [n] (qiw x1 p)=qdz lf x1 n p
 | 0,p=>qba 6 [0] rfl _
 | n+1,p=>by
  have ih:=zej g lf x1 n;refine(qa7 (qa0 20 _) qu0 qwn 6 [n+1] [n] rfl _).trans ((zx0 g (Az19 g lf) lf x1 n p).trans ?_);rw[(show (fun q=>Az19 g lf 6 [n] (qiw x1 q))=(fun q=>qdz lf x1 n q) from funext ih)];rfl
def qgj(lf:Nat)(x1:(List qaa)):Nat->(ByteArray)->Option qb9:=qaw fun K p=>qij lf x1 K (fun q=>qdz lf x1 lf q) p
theorem q6f(g:gz19)(lf:Nat)(x1:(List qaa)):∀(n:Nat) (p:ByteArray),Az19 g lf 3 [n] (qie x1 p)=qgj lf x1 n p
 | 0,p=>qba 3 [0] rfl _
 | n+1,p=>by
  have ih:=q6f g lf x1 n;refine(qa7 (qa0 20 _) qu0 qwn 3 [n+1] [n] rfl _).trans ((z07 g (Az19 g lf) lf x1 n p).trans ?_);rw[(show (fun q=>Az19 g lf 6 [lf] (qiw x1 q))=(fun q=>qdz lf x1 lf q) from funext fun q=>zej g lf x1 lf q),(show (fun q=>Az19 g lf 3 [n] (qie x1 q))=(fun q=>qgj lf x1 n q) from funext ih)];rfl
def Fz19(lf:Nat)(x1:(List qaa)):Option qb9:=qxr lf x1 (fun q=>qgj lf x1 lf q)
theorem zp1(g:gz19)(lf:Nat)(x1:(List qaa)):Ez19 g (Az19 g lf) lf x1=Fz19 lf x1:=by
  refine(zue g (Az19 g lf) lf x1).trans ?_;rw[(show (fun q=>Az19 g lf 3 [lf] (qie x1 q))=(fun q=>qgj lf x1 lf q) from funext fun q=>q6f g lf x1 lf q)];rfl
theorem zr1:qa4 Tryz.prog zbk:=trivial
theorem zmj{g:gz19}(hsm:SmOK Tryz.prog zat)(hg:∀(x:ElA [(.list cCell)]) (y:qb9),WfA [(.list cCell)] x->g x=some y->∃lf,Fz19 lf x.1=some y):Con Tryz.prog 56 ⟨[(.list cCell)],[(true,.str)],g⟩ :=
 conV (st:=qkm) (fun lf x=>Fz19 lf x.1) cm3 zwk zr1 qu0 qwn (fun lf x=>zp1 g lf x.1) hsm hg
abbrev qq2:Type:=ByteArray × Unit
abbrev zsf:Nat:=101
def q90(lf:Nat)(x1:ByteArray):Option qq2:=(cond (lchk (Int.ofNat 1) (Int.ofNat x1.size) (Int.ofNat x1.size) (Int.ofNat x1.size)) (cond (Nat.ble (Nat.succ (Nat.add 1 (ByteArray.size (ByteArray.extract x1 1 (Int.toNat (Int.ofNat x1.size)))))) 9223372036854775808) (some ((ByteArray.append (S.lit [0]) (ByteArray.extract x1 1 (Int.toNat (Int.ofNat x1.size)))),())) none) none)
def qsx(lf:Nat)(x1:ByteArray):Option qq2:=q90 lf x1
theorem z13{g:ElA [.str]->Option qq2}(hsm:SmOK Tryz.prog [])(hg:∀(x:ElA [.str]) (y:qq2),WfA [.str] x->g x=some y->∃lf,qsx lf x.1=some y):Con Tryz.prog 101 ⟨[.str],[(false,.str)],g⟩ :=
 conU (fi:=qvr) (hxl:=[]) (fun lf x=>qsx lf x.1) cm3 zn0 trivial hsm hg
abbrev qqt:Type:=z0j × Unit
abbrev zq9:Nat:=93
def zbw(lf:Nat)(x1:Int)(x2:Int):Option qqt:=(cond (ieqI x2 (Int.ofNat 0)) (some (((Int.ofNat 1),(IntKind.i64.wrap (Int.tdiv x1 (Int.ofNat 2)))),())) (some (((IntKind.i64.wrap (Int.tdiv x1 (Int.ofNat 2))),(IntKind.i64.wrap (Int.sub x1 (Int.ofNat 1)))),())))
def qqg(lf:Nat)(x1:Int)(x2:Int):Option qqt:=zbw lf x1 x2
theorem zrd{g:ElA [(.int .i64),(.int .i64)]->Option qqt}(hsm:SmOK Tryz.prog [])(hg:∀(x:ElA [(.int .i64),(.int .i64)]) (y:qqt),WfA [(.int .i64),(.int .i64)] x->g x=some y->∃lf,qqg lf x.1 x.2.1=some y):Con Tryz.prog 93 ⟨[(.int .i64),(.int .i64)],[(false,q2g)],g⟩ :=
 conU (fi:=fi93) (hxl:=[]) (fun lf x=>qqg lf x.1 x.2.1) cm3 zih trivial hsm hg
abbrev qpz:Type:=Int × Int × Unit
abbrev ztx:Nat:=62
def q1p(lf:Nat)(x1:qac)(x2:Int):Option qpz:=(cond (ieqI x2 (Int.ofNat 0)) (some ((Int.ofNat 1),((IntKind.i64.wrap (Int.ofNat (Nat.div x1.1.length 2))),()))) (some ((IntKind.i64.wrap (Int.ofNat (Nat.div x1.1.length 2))),((IntKind.i64.wrap (Int.sub (IntKind.i64.wrap (Int.mul (Int.ofNat 2) (IntKind.i64.wrap (Int.ofNat (Nat.div x1.1.length 2))))) (Int.ofNat 1))),()))))
def qp0(lf:Nat)(x1:qac)(x2:Int):Option qpz:=q1p lf x1 x2
theorem zjq{g:ElA [qag,(.int .i64)]->Option qpz}(hsm:SmOK Tryz.prog [])(hg:∀(x:ElA [qag,(.int .i64)]) (y:qpz),WfA [qag,(.int .i64)] x->g x=some y->∃lf,qp0 lf x.1 x.2.1=some y):Con Tryz.prog 62 ⟨[qag,(.int .i64)],[(false,(.int .i64)),(false,(.int .i64))],g⟩ :=
 conU (fi:=fi62) (hxl:=[]) (fun lf x=>qp0 lf x.1 x.2.1) cm3 zq0 trivial hsm hg
def qk3:Nat->Option Nm:=fun k=>cond (Nat.beq k 3) (some ⟨[0,1,5,6],[],[],[],[],0,0,false⟩) (none)
def qlb:Nat->Bool:=fun k=>cond (Nat.beq k 3) true (false)
def q6m:=qlb
abbrev qdc:Type:=ByteArray × Unit
def zfm:List (Nat × Sm):=[]
def zdz:List (Nat × Hx):=[]
def q0h(R:Type)(lf:Nat):ClK R:=qa1 Tryz.prog ttT.get ftT.get (nm1 89 qk3) (smL zfm) (hxL zdz) lf 20 R
abbrev zga:Nat:=89
def qi1(x1:Int)(x2:Int)(p:Int × ByteArray × Int):NRes:=(NRes.mk (.node (some (IV.int .i64 p.1)) (.node (some (IV.int .i64 x2)) .leaf (.node (some (IV.str p.2.1)) .leaf .leaf)) (.node none .leaf (.node (some (IV.int .i64 p.2.2)) .leaf .leaf))) (IS.mk .leaf 0) [] 0)
def quz(lf:Nat)(x1:Int)(x2:Int)(L3:(Int × ByteArray × Int)->Option qdc):Option qdc:=(L3 (x1,(S.lit []),(Int.ofNat 0)))
def qio(lf:Nat)(x1:Int)(x2:Int)(L3:(Int × ByteArray × Int)->Option qdc)(p:Int × ByteArray × Int):Option qdc:=(cond (iltI p.2.2 x2) (cond (Nat.ble (Nat.succ (Nat.add 1 p.2.1.size)) 9223372036854775808) (L3 ((IntKind.i64.wrap (Int.tdiv p.1 (Int.ofNat 256))),(ByteArray.append (ByteArray.mk (Array.mk (List.cons (UInt8.ofBitVec (BitVec.ofFin (Fin.mk (Nat.mod (Int.toNat (IntKind.u8.wrap (Int.tmod p.1 (Int.ofNat 256)))) 256) (jc7 (Int.toNat (IntKind.u8.wrap (Int.tmod p.1 (OfNat.ofNat 256)))) (BitVec.ofNat._proof_1 (OfNat.ofNat 8)))))) []))) p.2.1),(IntKind.i64.wrap (Int.add p.2.2 (Int.ofNat 1))))) none) (some (p.2.1,())))
abbrev gz20:Type:=ElA [(.int .i64),(.int .i64)]->Option qdc
abbrev sz20(g:gz20):Sm:=⟨[(.int .i64),(.int .i64)],[(false,.str)],g⟩
abbrev Ez20(g:gz20)(J:JT qdc)(lf:Nat)(x1:Int)(x2:Int):=qbh Tryz.prog ttT.get qk3 fi89.nt (q0h _ lf) lf qlb J fi89.body [] (qau (argV [(.int .i64),(.int .i64)] (x1,x2,())) 0 .leaf) S0 [] (qam ttT.get fi89 (sz20 g))
abbrev Bz20(g:gz20)(J:JT qdc)(lf k:Nat)(ms:List Nat)(q:NRes):=qbm Tryz.prog ttT.get qk3 fi89.nt (q0h _ lf) lf qlb J k fi89.body [] ms q (qam ttT.get fi89 (sz20 g))
theorem zpk(g:gz20)(J:JT qdc)(lf:Nat)(x1:Int)(x2:Int):Ez20 g J lf x1 x2=quz lf x1 x2 (fun q=>J 3 [lf] (qi1 x1 x2 q)):=by kernel_rfl
theorem z1u(g:gz20)(J:JT qdc)(lf:Nat)(x1:Int)(x2:Int)(m1:Nat)(p:Int × ByteArray × Int):Bz20 g J lf 3 [m1] (qi1 x1 x2 p)=qio lf x1 x2 (fun q=>J 3 [m1] (qi1 x1 x2 q)) p:=by kernel_rfl
theorem zdf:(regs fi89.body).Nodup:=by decide +kernel
theorem zes:okC qk3 qlb q6m fi89.body none=true:=by kernel_rfl
def Az20(g:gz20)(lf:Nat):JT qdc:=atN Tryz.prog ttT.get qk3 fi89 (sz20 g) (q0h _ lf) lf q6m
def qhi(lf:Nat)(x1:Int)(x2:Int):Nat->(Int × ByteArray × Int)->Option qdc:=qaw fun K p=>qio lf x1 x2 K p
theorem q36(g:gz20)(lf:Nat)(x1:Int)(x2:Int):∀(n:Nat) (p:Int × ByteArray × Int),Az20 g lf 3 [n] (qi1 x1 x2 p)=qhi lf x1 x2 n p
 | 0,p=>qba 3 [0] rfl _
 | n+1,p=>by
  have ih:=q36 g lf x1 x2 n;refine(qa7 (qa0 20 _) zdf zes 3 [n+1] [n] rfl _).trans ((z1u g (Az20 g lf) lf x1 x2 n p).trans ?_);rw[(show (fun q=>Az20 g lf 3 [n] (qi1 x1 x2 q))=(fun q=>qhi lf x1 x2 n q) from funext ih)];rfl
def Fz20(lf:Nat)(x1:Int)(x2:Int):Option qdc:=quz lf x1 x2 (fun q=>qhi lf x1 x2 lf q)
theorem zwf(g:gz20)(lf:Nat)(x1:Int)(x2:Int):Ez20 g (Az20 g lf) lf x1 x2=Fz20 lf x1 x2:=by
  refine(zpk g (Az20 g lf) lf x1 x2).trans ?_;rw[(show (fun q=>Az20 g lf 3 [lf] (qi1 x1 x2 q))=(fun q=>qhi lf x1 x2 lf q) from funext fun q=>q36 g lf x1 x2 lf q)];rfl
theorem zvn:qa4 Tryz.prog zdz:=trivial
theorem zwl{g:gz20}(hsm:SmOK Tryz.prog zfm)(hg:∀(x:ElA [(.int .i64),(.int .i64)]) (y:qdc),WfA [(.int .i64),(.int .i64)] x->g x=some y->∃lf,Fz20 lf x.1 x.2.1=some y):Con Tryz.prog 89 ⟨[(.int .i64),(.int .i64)],[(false,.str)],g⟩ :=
 conV (st:=qlb) (fun lf x=>Fz20 lf x.1 x.2.1) cm3 zyv zvn zdf zes (fun lf x=>zwf g lf x.1 x.2.1) hsm hg
def qnk:Nat->Option Nm:=fun k=>cond (Nat.beq k 3) (some ⟨[0,1,5,6],[],[],[],[],0,0,false⟩) (cond (Nat.beq k 12) (some ⟨[7,8,9],[(8,.str)],[],[],[],0,0,false⟩) (none))
def qk2:Nat->Bool:=fun k=>cond (Nat.beq k 3) true (cond (Nat.beq k 12) true (false))
def q9h:=qk2
abbrev qbz:Type:=(List ByteArray) × Unit
def zdi:List (Nat × Sm):=[(89,qza),(57,ql7)]
def q9o:List (Nat × Hx):=[]
def qv1(R:Type)(lf:Nat):ClK R:=qa1 Tryz.prog ttT.get ftT.get (nm1 60 qnk) (smL zdi) (hxL q9o) lf 20 R
abbrev zti:Nat:=60
def qh1(x1:(List qaa))(x2:Int)(p:ByteArray × Int):NRes:=(NRes.mk (.node (some (IV.lst cCell x1)) (.node (some (IV.int .i64 x2)) .leaf (.node (some (IV.str p.1)) .leaf .leaf)) (.node none .leaf (.node (some (IV.int .i64 p.2)) .leaf .leaf))) (IS.mk .leaf 0) [] 0)
def qht(x1:(List qaa))(x2:Int)(p:ByteArray × Int × (List ByteArray)):NRes:=(NRes.mk (.node none (.node none (.node none (.node (some (IV.str p.1)) .leaf .leaf) .leaf) (.node none (.node (some (IV.int .i64 p.2.1)) .leaf .leaf) .leaf)) (.node none (.node none (.node (some (IV.arr 0)) .leaf .leaf) .leaf) .leaf)) (IS.mk (.node (some (IObj.arr TC.str p.2.2)) .leaf .leaf) 1) [] 0)
def q3c(lf:Nat)(x1:(List qaa))(x2:Int)(L3:(ByteArray × Int)->Option qbz):Option qbz:=(L3 ((S.lit []),(Int.ofNat 0)))
def ql0(lf:Nat)(x1:(List qaa))(x2:Int)(L3:(ByteArray × Int)->Option qbz)(L12:(ByteArray × Int × (List ByteArray))->Option qbz)(p:ByteArray × Int):Option qbz:=(cond (iltI p.2 (Int.ofNat x1.length)) (match (jget x1 p.2) with|none=>none|some v0=>(match (cond (Bool.and (S.inI v0.1 (Int.ofNat 0) (Int.ofNat 16777215)) (S.inI (Int.ofNat 1) (Int.ofNat 0) (Int.ofNat 3))) (some ((qae (S.numB (Int.toNat v0.1) 1)),())) none) with|none=>none|some v1=>(cond (Nat.ble (Nat.succ (Nat.add p.1.size v1.1.size)) 9223372036854775808) (match (jget x1 p.2) with|none=>none|some v2=>(cond v2.2.2 (cond (Nat.ble (Nat.succ (Nat.add (ByteArray.size (ByteArray.append p.1 v1.1)) 2)) 9223372036854775808) (L3 ((ByteArray.append (ByteArray.append p.1 v1.1) (S.lit [0,0])),(IntKind.i64.wrap (Int.add p.2 (Int.ofNat 1))))) none) (match (jget x1 p.2) with|none=>none|some v26=>(match (cond (Bool.and (S.inI (IntKind.i64.wrap (Int.ofNat (Nat.add v26.2.1.size 1))) (Int.ofNat 0) (Int.ofNat 16777215)) (S.inI (Int.ofNat 2) (Int.ofNat 0) (Int.ofNat 3))) (some ((qae (S.numB (Int.toNat (IntKind.i64.wrap (Int.ofNat (Nat.add v26.2.1.size 1)))) 2)),())) none) with|none=>none|some v27=>(cond (Nat.ble (Nat.succ (Nat.add (ByteArray.size (ByteArray.append p.1 v1.1)) v27.1.size)) 9223372036854775808) (match (jget x1 p.2) with|none=>none|some v28=>(cond (Nat.ble (Nat.succ (Nat.add (ByteArray.size (ByteArray.append (ByteArray.append p.1 v1.1) v27.1)) v28.2.1.size)) 9223372036854775808) (L3 ((ByteArray.append (ByteArray.append (ByteArray.append p.1 v1.1) v27.1) v28.2.1),(IntKind.i64.wrap (Int.add p.2 (Int.ofNat 1))))) none)) none))))) none))) (match (cond (Bool.and (S.inI x2 (Int.ofNat 0) (Int.ofNat 16777215)) (S.inI (Int.ofNat 1) (Int.ofNat 0) (Int.ofNat 3))) (some ((qae (S.numB (Int.toNat x2) 1)),())) none) with|none=>none|some v29=>(match (cond (Bool.and (S.inI (Int.ofNat p.1.size) (Int.ofNat 0) (Int.ofNat 16777215)) (S.inI (Int.ofNat 3) (Int.ofNat 0) (Int.ofNat 3))) (some ((qae (S.numB (Int.toNat (Int.ofNat p.1.size)) 3)),())) none) with|none=>none|some v30=>(cond (Nat.ble (Nat.succ (Nat.add v29.1.size v30.1.size)) 9223372036854775808) (cond (Nat.ble (Nat.succ (Nat.add (ByteArray.size (ByteArray.append v29.1 v30.1)) p.1.size)) 9223372036854775808) (L12 ((ByteArray.append (ByteArray.append v29.1 v30.1) p.1),(Int.ofNat 0),[])) none) none))))
def qrh(lf:Nat)(x1:(List qaa))(x2:Int)(L12:(ByteArray × Int × (List ByteArray))->Option qbz)(p:ByteArray × Int × (List ByteArray)):Option qbz:=(cond (iltI p.2.1 (Int.ofNat p.1.size)) (cond (lchk p.2.1 (imin (Int.ofNat p.1.size) (IntKind.i64.wrap (Int.add p.2.1 (Int.ofNat 64)))) (Int.ofNat p.1.size) (Int.ofNat p.1.size)) (match (cond (S.inI (IntKind.i64.wrap (Int.sub (Int.ofNat 64) (IntKind.i64.wrap (Int.sub (imin (Int.ofNat p.1.size) (IntKind.i64.wrap (Int.add p.2.1 (Int.ofNat 64)))) p.2.1)))) (Int.ofNat 0) (Int.ofNat 64)) (some ((qae (List.replicate (Int.toNat (IntKind.i64.wrap (Int.sub (Int.ofNat 64) (IntKind.i64.wrap (Int.sub (imin (Int.ofNat p.1.size) (IntKind.i64.wrap (Int.add p.2.1 (Int.ofNat 64)))) p.2.1))))) (Int.ofNat 0))),())) none) with|none=>none|some v0=>(cond (Nat.ble (Nat.succ (Nat.add (ByteArray.size (ByteArray.extract p.1 (Int.toNat p.2.1) (Int.toNat (imin (Int.ofNat p.1.size) (IntKind.i64.wrap (Int.add p.2.1 (Int.ofNat 64))))))) v0.1.size)) 9223372036854775808) (cond (Nat.ble (Nat.mul (Nat.add p.2.2.length 1) 16) 140737488355328) (L12 (p.1,(IntKind.i64.wrap (Int.add p.2.1 (Int.ofNat 64))),(List.append p.2.2 (List.cons (ByteArray.append (ByteArray.extract p.1 (Int.toNat p.2.1) (Int.toNat (imin (Int.ofNat p.1.size) (IntKind.i64.wrap (Int.add p.2.1 (Int.ofNat 64)))))) v0.1) [])))) none) none)) none) (some (p.2.2,())))
abbrev gz21:Type:=ElA [(.list cCell),(.int .i64)]->Option qbz
abbrev sz21(g:gz21):Sm:=⟨[(.list cCell),(.int .i64)],[(true,.str)],g⟩
abbrev Ez21(g:gz21)(J:JT qbz)(lf:Nat)(x1:(List qaa))(x2:Int):=qbh Tryz.prog ttT.get qnk fi60.nt (qv1 _ lf) lf qk2 J fi60.body [] (qau (argV [(.list cCell),(.int .i64)] (x1,x2,())) 0 .leaf) S0 [] (qam ttT.get fi60 (sz21 g))
abbrev Bz21(g:gz21)(J:JT qbz)(lf k:Nat)(ms:List Nat)(q:NRes):=qbm Tryz.prog ttT.get qnk fi60.nt (qv1 _ lf) lf qk2 J k fi60.body [] ms q (qam ttT.get fi60 (sz21 g))
theorem zgx(g:gz21)(J:JT qbz)(lf:Nat)(x1:(List qaa))(x2:Int):Ez21 g J lf x1 x2=q3c lf x1 x2 (fun q=>J 3 [lf] (qh1 x1 x2 q)):=by kernel_rfl
theorem zl6(g:gz21)(J:JT qbz)(lf:Nat)(x1:(List qaa))(x2:Int)(m1:Nat)(p:ByteArray × Int):Bz21 g J lf 3 [m1] (qh1 x1 x2 p)=ql0 lf x1 x2 (fun q=>J 3 [m1] (qh1 x1 x2 q)) (fun q=>J 12 [lf] (qht x1 x2 q)) p:=by kernel_rfl
theorem z1f(g:gz21)(J:JT qbz)(lf:Nat)(x1:(List qaa))(x2:Int)(m1:Nat)(p:ByteArray × Int × (List ByteArray)):Bz21 g J lf 12 [m1] (qht x1 x2 p)=qrh lf x1 x2 (fun q=>J 12 [m1] (qht x1 x2 q)) p:=by kernel_rfl
theorem quw:(regs fi60.body).Nodup:=by decide +kernel
theorem qyt:okC qnk qk2 q9h fi60.body none=true:=by kernel_rfl
def Az21(g:gz21)(lf:Nat):JT qbz:=atN Tryz.prog ttT.get qnk fi60 (sz21 g) (qv1 _ lf) lf q9h
def qg4(lf:Nat)(x1:(List qaa))(x2:Int):Nat->(ByteArray × Int × (List ByteArray))->Option qbz:=qaw fun K p=>qrh lf x1 x2 K p
theorem q3n(g:gz21)(lf:Nat)(x1:(List qaa))(x2:Int):∀(n:Nat) (p:ByteArray × Int × (List ByteArray)),Az21 g lf 12 [n] (qht x1 x2 p)=qg4 lf x1 x2 n p
 | 0,p=>qba 12 [0] rfl _
 | n+1,p=>by
  have ih:=q3n g lf x1 x2 n;refine(qa7 (qa0 20 _) quw qyt 12 [n+1] [n] rfl _).trans ((z1f g (Az21 g lf) lf x1 x2 n p).trans ?_);rw[(show (fun q=>Az21 g lf 12 [n] (qht x1 x2 q))=(fun q=>qg4 lf x1 x2 n q) from funext ih)];rfl
def qqa(lf:Nat)(x1:(List qaa))(x2:Int):Nat->(ByteArray × Int)->Option qbz:=qaw fun K p=>ql0 lf x1 x2 K (fun q=>qg4 lf x1 x2 lf q) p
theorem q30(g:gz21)(lf:Nat)(x1:(List qaa))(x2:Int):∀(n:Nat) (p:ByteArray × Int),Az21 g lf 3 [n] (qh1 x1 x2 p)=qqa lf x1 x2 n p
 | 0,p=>qba 3 [0] rfl _
 | n+1,p=>by
  have ih:=q30 g lf x1 x2 n;refine(qa7 (qa0 20 _) quw qyt 3 [n+1] [n] rfl _).trans ((zl6 g (Az21 g lf) lf x1 x2 n p).trans ?_);rw[(show (fun q=>Az21 g lf 12 [lf] (qht x1 x2 q))=(fun q=>qg4 lf x1 x2 lf q) from funext fun q=>q3n g lf x1 x2 lf q),(show (fun q=>Az21 g lf 3 [n] (qh1 x1 x2 q))=(fun q=>qqa lf x1 x2 n q) from funext ih)];rfl
def Fz21(lf:Nat)(x1:(List qaa))(x2:Int):Option qbz:=q3c lf x1 x2 (fun q=>qqa lf x1 x2 lf q)
theorem zty(g:gz21)(lf:Nat)(x1:(List qaa))(x2:Int):Ez21 g (Az21 g lf) lf x1 x2=Fz21 lf x1 x2:=by
  refine(zgx g (Az21 g lf) lf x1 x2).trans ?_;rw[(show (fun q=>Az21 g lf 3 [lf] (qh1 x1 x2 q))=(fun q=>qqa lf x1 x2 lf q) from funext fun q=>q30 g lf x1 x2 lf q)];rfl
theorem zxh:qa4 Tryz.prog q9o:=trivial
theorem zs0{g:gz21}(hsm:SmOK Tryz.prog zdi)(hg:∀(x:ElA [(.list cCell),(.int .i64)]) (y:qbz),WfA [(.list cCell),(.int .i64)] x->g x=some y->∃lf,Fz21 lf x.1 x.2.1=some y):Con Tryz.prog 60 ⟨[(.list cCell),(.int .i64)],[(true,.str)],g⟩ :=
 conV (st:=qk2) (fun lf x=>Fz21 lf x.1 x.2.1) cm3 zjv zxh quw qyt (fun lf x=>zty g lf x.1 x.2.1) hsm hg
abbrev qob:Type:=DAct × Unit
abbrev zsu:Nat:=58
def zll(lf:Nat)(x1:Int)(x2:ByteArray):Option qob:=(some ((false,(x1,x2)),()))
def zfi(lf:Nat)(x1:Int)(x2:ByteArray):Option qob:=zll lf x1 x2
theorem zrh{g:ElA [(.int .i64),.str]->Option qob}(hsm:SmOK Tryz.prog [])(hg:∀(x:ElA [(.int .i64),.str]) (y:qob),WfA [(.int .i64),.str] x->g x=some y->∃lf,zfi lf x.1 x.2.1=some y):Con Tryz.prog 58 ⟨[(.int .i64),.str],[(false,cAct)],g⟩ :=
 conU (fi:=fi58) (hxl:=[]) (fun lf x=>zfi lf x.1 x.2.1) cm3 zo3 trivial hsm hg
abbrev qqw:Type:=DAct × Unit
abbrev zpc:Nat:=59
def z1g(lf:Nat):Option qqw:=(some ((true,((Int.ofNat 0),(S.lit []))),()))
def za8(lf:Nat):Option qqw:=z1g lf
theorem zs6{g:ElA []->Option qqw}(hsm:SmOK Tryz.prog [])(hg:∀(x:ElA []) (y:qqw),WfA [] x->g x=some y->∃lf,za8 lf=some y):Con Tryz.prog 59 ⟨[],[(false,cAct)],g⟩ :=
 conU (fi:=fi59) (hxl:=[]) (fun lf x=>za8 lf) cm3 zzi trivial hsm hg
theorem qjm(n:Int):IntKind.u8.wrap n=n % 256:=by
 unfold IntKind.wrap;simp[IntKind.signed,IntKind.bits]
theorem qy4(n:Int)(h:Nat.mod (Int.toNat n) 256<2 ^ 8):ByteArray.mk (Array.mk (List.cons (UInt8.ofBitVec (BitVec.ofFin (Fin.mk (Nat.mod (Int.toNat n) 256) h))) []))=qae [n]:=rfl
theorem zke(a b:Int)(h:Nat.mod (Int.toNat a) 256<2 ^ 8)(k:Nat.mod (Int.toNat b) 256<2 ^ 8):ByteArray.mk (Array.mk (List.cons (UInt8.ofBitVec (BitVec.ofFin (Fin.mk (Nat.mod (Int.toNat a) 256) h))) (List.cons (UInt8.ofBitVec (BitVec.ofFin (Fin.mk (Nat.mod (Int.toNat b) 256) k))) [])))=qae [a,b]:=rfl
theorem zpu(b:Int)(h:1<2 ^ 8)(k:Nat.mod (Int.toNat b) 256<2 ^ 8):ByteArray.mk (Array.mk (List.cons (UInt8.ofBitVec (BitVec.ofFin (Fin.mk 1 h))) (List.cons (UInt8.ofBitVec (BitVec.ofFin (Fin.mk (Nat.mod (Int.toNat b) 256) k))) [])))=qae [1,b]:=rfl
theorem qck(a b:List Int):ByteArray.append (qae a) (qae b)=qae (a++b):=by
 show qae a++qae b=_;apply ByteArray.ext;simp[qae]
theorem qnb(s:ByteArray):∃b,rng b/\s=qae b/\s.size=b.length/\qab s=b:=⟨qab s,qdj s,(qe4 s).symm,(qcc s).symm,rfl⟩
theorem q1j{b:List Int}(h:rng b)(n:Nat):ByteArray.extract (qae b) 0 n=qae (b.take n):=by
 refine qep ?_;rw[zd3,qbi h,qbi (qd7 h n)]
theorem qjx{b:List Int}(h:rng b)(n:Nat):ByteArray.extract (qae b) n b.length=qae (b.drop n):=by
 refine qep ?_;rw[zbh _ _ _ (by rw[qaz];exact jat _),qbi h,qbi (qc1 h n)]
theorem zk0(lf:Nat)(n:Int)(h:S.inI n 0 16777215=true):qox lf n=some (qae (S.two n.toNat),()):=by
 obtain⟨h1,h2⟩:=qav.1 h;obtain⟨k,rfl⟩:∃k:Nat,n=Int.ofNat k:=⟨n.toNat,by show n=((n.toNat:Nat):Int);omega⟩;simp only[qox,q10,zke,qjm];refine jaw (fun l=>some (qae l,())) ?_;show [Int.fdiv (k:Int) 256 % 256,(k:Int) % 256]=S.two k;unfold S.two;rw[jef _ (by decide)];simp only[jdy,and_true];omega
theorem zab:Con Tryz.prog zw2 q03:=z0t trivial fun x y hx h=>⟨0,by
 obtain⟨h1,h2⟩:=qa5 (show cond (S.inI x.1 0 16777215) (some (qae (S.two (Int.toNat x.1)),())) none=some y from h);exact(zk0 0 x.1 h1).trans (jaw some h2)⟩
theorem qpy{l:List qaa}(h:S.pk l=true):S.okC l=true/\l.length<=250:=by
 unfold S.pk at h;rw[jae] at h;exact⟨h.1,jam h.2⟩
theorem qls:∀{l:List qaa} {last:Int},S.okGo l last=true->∀c∈l,(0<=c.1/\c.1<=199)/\c.2.1.size<=4000/\(c.2.2=true->c.2.1=S.none_)
 | [],_,_,c,hc=>by cases hc
 | a::l,last,h,c,hc=>by
  obtain⟨h1,h2,h3,h4,h5⟩:=qbq.1 h;rcases ja1.1 hc with rfl|hc
  ·exact⟨h1,h2,h3⟩
  ·exact qls h5 c hc
theorem qwl:∀{l:List qaa},(∀c∈l,c.2.1.size<=4000)->(S.body l).length<=4003*l.length
 | [],_=>jcc _
 | c::l,h=>by
  have h1:=h c (by simp);have h2:=qwl (l:=l) fun x hx=>h x (by simp[hx]);have h3:cond c.2.2 0 c.2.1.size<=4000:=by
   cases c.2.2
   ·exact h1
   ·exact jcc _
  rw[qq8,jah,qoz,jas];omega
theorem qnt{l:List qaa}(h:S.pk l=true):(S.body l).length<=1000750:=by
 obtain⟨h1,h2⟩:=qpy h;have:=qwl fun c hc=>(qls h1 c hc).2.1;omega
theorem q46(l:List qaa)(c:qaa):S.body (l++[c])=S.body l++S.cellB c:=by
 unfold S.body;rw[List.flatMap_append];simp
theorem q93{l:List qaa}(h:S.pk l=true)(i:Nat):(S.body (l.take i)).length<=1000750:=by
 obtain⟨h1,h2⟩:=qpy h;have:=qwl (l:=l.take i) fun c hc=>(qls h1 c (jb6 hc)).2.1;rw[jba] at this;omega
theorem qb0{n:Nat}(h:n<9223372036854775808):Nat.ble (Nat.succ n) 9223372036854775808=true:=jar h
theorem zsl(l:List qaa)(h:S.pk l=true):Fz18 LF l=some (qae (S.body l),()):=by
 obtain⟨hok,hlen⟩:=qpy h;refine(range0 (σ:=ByteArray) (R:=qc9) l (fun i s=>(s,i)) (fun i s=>s=qae (S.body (l.take i))) (fun _ _ _=>some (qae (S.body l),())) (by unfold LF;omega) (fun K s hs=>?_) (fun K i v rest s hs r hk=>?_) (S.lit []) rfl).trans rfl
 ·rw[jfs] at hs;simp only[qod,qbt,jad];rw[hs]
 ·obtain⟨⟨v1,v2⟩,v3,v4⟩:=qls hok v r.mem;have hB:=q93 h i;have hnext:qae (S.body (l.take (i+1)))=qae (S.body (l.take i)++S.cellB v):=by rw[r.take,q46]
  obtain⟨k,s0,g⟩:=v;simp only at v1 v2 v3 v4;have hkw:IntKind.u8.wrap k=k % 256:=qjm k;subst hs;generalize S.body (l.take i)=B at *;have hsB:(qae B).size=B.length:=qaz B;simp only[qod,r.ilt,r.get,r.next,jaa,qy4,hkw,qck,qaz];rw[qb0 (n:=Nat.add B.length 1) (by show B.length+1<_;omega),jaa];cases g with
  | true =>
   rw[jaa,show S.inI (Int.ofNat 0) (Int.ofNat 0) (Int.ofNat 16777215)=true from rfl,jaa];simp only;rw[show S.lit [0,0]=qae [0,0] from rfl,qaz,qck,qb0 (by simp only[jah,jas,jaz];show _+2<_;omega),jaa];refine hk _ ?_;rw[hnext,jay];rfl
  | false =>
   obtain⟨b,hb1,hb2,hb3,_⟩:=qnb s0;subst hb2;rw[hb3] at v3;have hw:IntKind.i64.wrap (Int.ofNat (Nat.add (qae b).size 1))=Int.ofNat (b.length+1):=by
    rw[hb3];exact qa2 (n:=b.length+1) (by omega)
   rw[jad,hw,show S.inI (Int.ofNat (b.length+1)) (Int.ofNat 0) (Int.ofNat 16777215)=true from qav.2 ⟨jbb _,by show ((b.length+1:Nat):Int)<=16777215;omega⟩,jaa];simp only[qck,qaz];have h2:(S.two (Int.toNat (Int.ofNat (b.length+1)))).length=2:=rfl;rw[qb0 (by show _+b.length<_;rw[h2];omega),jaa,qb0 (by simp only[jah,jas,jaz,h2];show (_:Nat)+(_:Nat)<_;omega),jaa];refine hk _ ?_;rw[hnext];have:S.cellB (k,qae b,false)=[k % 256]++(S.two (Int.toNat (Int.ofNat (b.length+1)))++b):=by
    unfold S.cellB;simp only[jad];rw[hb3,qbi hb1];rfl
   rw[this,jay]
theorem zuy:Con Tryz.prog zqp zew:=z1l ⟨zab,trivial⟩ fun x y hx h=>⟨LF,by
 obtain⟨h1,h2⟩:=qa5 (show cond (S.pk x.1) (some (qae (S.body x.1),())) none=some y from h);exact(zsl x.1 h1).trans (jaw some h2)⟩
def cut:Nat->List Int->List ByteArray
 | 0,_=>[]
 | m+1,b=>qae (b.take 64)::cut m (b.drop 64)
theorem q8f:∀(f:Nat) (b:List Int),b.length<=f->S.chunks f b=cut ((b.length+63) / 64) (b++List.replicate (64*((b.length+63) / 64)-b.length) 0)
 | 0,b,h=>by
  have:b=[]:=ja5.1 (by omega);subst this;rfl
 | f+1,b,h=>by
  by_cases hb:0<b.length
  ·have ih:=q8f f (b.drop 64) (by rw[jax];omega);rw[jax] at ih;rw[qga f hb,ih,show (b.length+63) / 64=(b.length-64+63) / 64+1 by omega];show _=qae ((b++_).take 64)::cut _ ((b++_).drop 64);by_cases h64:64<=b.length
   ·rw[jd6 h64,jd7 h64,show 64-b.length=0 by omega,jfd,jbl,show 64*((b.length-64+63) / 64+1)-b.length=64*((b.length-64+63) / 64)-(b.length-64) by omega]
   ·have e1:b.drop 64=[]:=jbo (by omega);rw[show (b.length-64+63) / 64=0 by omega,jbn (by omega:b.length<=64),jbn (by rw[jah,ja4];omega),show 64*(0+1)-b.length=64-b.length by omega];rfl
  ·have:b=[]:=ja5.1 (by omega);subst this;rfl
theorem q99(l:List qaa):∀(m f:Nat) (b:List Int) (out:List ByteArray),rng b->b.length=64*m->m<f->out.length+m<=1000000->qdz LF l f (qae b,out)=some (out++cut m b,())
 | 0,f+1,b,out,hr,hb,hf,ho=>by
  have:b=[]:=ja5.1 (by omega);subst this;show qh8 LF l (qdz LF l f) (qae [],out)=_;simp only[qh8];rw[qaz];show some (out,())=some (out++[],());rw[jbl]
 | m+1,f+1,b,out,hr,hb,hf,ho=>by
  show qh8 LF l (qdz LF l f) _=_;simp only[qh8];have l1:lchk (Int.ofNat 0) (Int.ofNat 64) (Int.ofNat b.length) (Int.ofNat b.length)=true:=qbv.2 ⟨jbq _,by decide,by show (64:Int)<=(b.length:Int);omega,jbq _⟩;have l2:lchk (Int.ofNat 64) (Int.ofNat b.length) (Int.ofNat b.length) (Int.ofNat b.length)=true:=qbv.2 ⟨by decide,by show (64:Int)<=(b.length:Int);omega,jbq _,jbq _⟩
  rw[qaz,qco (show Int.ofNat 0<Int.ofNat b.length by show (0:Int)<(b.length:Int);omega),jaa,l1,jaa,jar (by show (out.length+1)*16<=_;omega),jaa,
   l2,jaa,q1j hr,show Int.toNat (Int.ofNat b.length)=b.length from rfl,qjx hr]
  rw[q99 l m f (b.drop 64) _ (qc1 hr 64) (by rw[jax];omega) (by omega) (by simp only[jcs,jah,jas,jaz];omega)];show some ((out++[_])++cut m _,())=some (out++_::cut m _,());rw[jay];rfl
theorem q4m(l:List qaa):∀(k f:Nat) (b:List Int),k=(64-b.length % 64) % 64->k<f->b.length<=2000000->qgj LF l f (qae b)=qdz LF l LF (qae (b++List.replicate k 0),[])
 | 0,f+1,b,hk,hf,hb=>by
  show qij LF l (qgj LF l f) (fun q=>qdz LF l LF q) (qae b)=_;simp only[qij];rw[qaz,qa8 (show Int.ofNat (Nat.mod b.length 64)=Int.ofNat 0 from jaw Int.ofNat (show b.length % 64=0 by omega))];show qdz LF l LF (qae b,[])=qdz LF l LF (qae (b++[]),[]);rw[jbl]
 | k+1,f+1,b,hk,hf,hb=>by
  show qij LF l (qgj LF l f) (fun q=>qdz LF l LF q) (qae b)=_;simp only[qij]
  rw[qaz,qa9 (show ¬Int.ofNat (Nat.mod b.length 64)=Int.ofNat 0 from fun e=>by have:=jdg e;have:b.length % 64=0:=this;omega),jau,jaa,qb0 (by show b.length+1<_;omega),jaa,show S.lit [0]=qae [0] from rfl,qck,
   q4m l k f (b++[0]) (by rw[jah,jas,jaz];omega) (by omega) (by rw[jah,jas,jaz];have:b.length<=2000000:=hb;omega),jay]
  rfl
theorem zvi(l:List qaa)(h:S.pk l=true):Fz19 LF l=some (S.packed l 1,()):=by
 have hb:=qnt h;simp only[Fz19,qxr,h,jaa,qaz];rw[show S.inI (Int.ofNat (S.body l).length) (Int.ofNat 0) (Int.ofNat 16777215)=true from qav.2 ⟨jbb _,by show (((S.body l).length:Nat):Int)<=16777215;omega⟩];simp only[jaa,zpu,qjm,qck,qaz];have h2:(S.two (Int.toNat (Int.ofNat (S.body l).length))).length=2:=rfl;rw[qb0 (by show 2+_<_;rw[h2];decide),jaa,qb0 (by simp only[jah,jas,jaz,h2];show (_:Nat)+(_:Nat)<_;omega),jaa];have hrec:[1,Int.fdiv (Int.ofNat (S.body l).length) (Int.ofNat 65536) % 256]++S.two (Int.toNat (Int.ofNat (S.body l).length))++S.body l=S.recB l 1:=by
  unfold S.recB;have:Int.fdiv (Int.ofNat (S.body l).length) (Int.ofNat 65536) % 256=(((S.body l).length / 65536 % 256:Nat):Int):=by
   rw[jef _ (by decide)];show ((S.body l).length:Int) / 65536 % 256=_;omega
  rw[this,jay];rfl
 rw[hrec,q4m l _ LF (S.recB l 1) rfl (by unfold LF;omega) (by rw[qen];omega)];have hl:=qen l 1;have hp:S.packed l 1=_:=q8f (S.recB l 1).length (S.recB l 1) (jat _);rw[hp,show (64-(S.recB l 1).length % 64) % 64=64*(((S.recB l 1).length+63) / 64)-(S.recB l 1).length by omega];rw[q99 l (((S.recB l 1).length+63) / 64) LF _ [] (qfl (qhq l (by decide)) (qfp _)) (by rw[jah,ja4];omega) (by unfold LF;omega) (by rw[jaz];omega)];rfl
theorem qqc:Con Tryz.prog zhr qm8:=zmj ⟨zuy,zab,trivial⟩ fun x y hx h=>⟨LF,by
 obtain⟨h1,h2⟩:=qa5 (show cond (S.pk x.1) (some (S.packed x.1 1,())) none=some y from h);exact(zvi x.1 h1).trans (jaw some h2)⟩
theorem ziq(lf:Nat)(s:ByteArray)(h:s.size=64):qsx lf s=some (qae (0::(qab s).drop 1),()):=by
 obtain⟨b,hb1,rfl,hb3,hb4⟩:=qnb s;rw[hb3] at h;simp only[qsx,q90];have l1:lchk (Int.ofNat 1) (Int.ofNat b.length) (Int.ofNat b.length) (Int.ofNat b.length)=true:=qbv.2 ⟨by decide,by show (1:Int)<=(b.length:Int);omega,jbq _,jbq _⟩;rw[hb3,hb4,l1,jaa,show Int.toNat (Int.ofNat b.length)=b.length from rfl,qjx hb1,qaz,qb0 (by show 1+_<_;rw[jax];omega),jaa,show S.lit [0]=qae [0] from rfl,qck];rfl
theorem q9r:Con Tryz.prog zsf qyn:=z13 trivial fun x y hx h=>⟨0,by
 obtain⟨h1,h2⟩:=qa5 (show cond (decide (ByteArray.size x.1=64)) (some (qae (0::(qab x.1).drop 1),())) none=some y from h);exact(ziq 0 x.1 (jbe h1)).trans (jaw some h2)⟩
theorem zt6(lf:Nat)(n h:Int)(hn:S.inI n 0 1000=true):qqg lf n h=some (S.half n.toNat h,()):=by
 obtain⟨h1,h2⟩:=qav.1 hn;have e1:Int.tdiv n (Int.ofNat 2)=((n.toNat / 2:Nat):Int):=by
  rw[Int.tdiv_eq_ediv_of_nonneg h1];show n / 2=_;omega
 simp only[qqg,zbw,e1];rw[wrap_in (n:=((n.toNat / 2:Nat):Int)) (by omega),wrap_in (n:=Int.sub n (Int.ofNat 1)) (by show -9223372036854775808<=n-1/\n-1<9223372036854775808;omega)];unfold S.half;by_cases h0:h=0
 ·rw[qa8 (show h=Int.ofNat 0 from h0),jaa,jan h0];rfl
 ·rw[qa9 (show ¬h=Int.ofNat 0 from h0),jad,jao h0];refine jaw (fun z:Int=>some ((_,z),())) ?_;show n-1=(n.toNat:Int)-1;omega
theorem qo0:Con Tryz.prog zq9 qki:=zrd trivial fun x y hx h=>⟨0,by
 obtain⟨h1,h2⟩:=qa5 (show cond (S.inI x.1 0 1000) (some (S.half (Int.toNat x.1) x.2.1,())) none=some y from h);exact(zt6 0 x.1 x.2.1 h1).trans (jaw some h2)⟩
theorem zit(lf:Nat)(d:qac)(h:Int)(h1:d.1.length<=1000)(h2:d.1.length % 2=0):qp0 lf d h=some ((S.half d.1.length h).1,(S.half d.1.length h).2,()):=by
 simp only[qp0,q1p];rw[qa2 (n:=Nat.div d.1.length 2) (by show d.1.length / 2<_;omega)];have e2:Int.mul (Int.ofNat 2) (Int.ofNat (Nat.div d.1.length 2))=((d.1.length:Nat):Int):=by
  show (2:Int)*((d.1.length / 2:Nat):Int)=_;omega
 rw[e2,wrap_in (n:=((d.1.length:Nat):Int)) (by omega),wrap_in (n:=Int.sub ((d.1.length:Nat):Int) (Int.ofNat 1)) (by show -9223372036854775808<=(d.1.length:Int)-1/\(d.1.length:Int)-1<9223372036854775808;omega)];unfold S.half;by_cases h0:h=0
 ·rw[qa8 (show h=Int.ofNat 0 from h0),jaa,jan h0];rfl
 ·rw[qa9 (show ¬h=Int.ofNat 0 from h0),jad,jao h0];rfl
theorem qu7:Con Tryz.prog ztx qq9:=zjq trivial fun x y hx h=>⟨0,by
 obtain⟨h1,h2⟩:=qa5 (show cond (Nat.ble x.1.1.length 1000&&decide (List.length x.1.1 % 2=0)) (some ((S.half x.1.1.length x.2.1).1,(S.half x.1.1.length x.2.1).2,())) none=some y from h);rw[jae] at h1;exact(zit 0 x.1 x.2.1 (jam h1.1) (jbe h1.2)).trans (jaw some h2)⟩
theorem q4r(lf:Nat)(n:Int)(b:Nat)(hb:b<=3):∀(k f m i:Nat) (o:List Int),i+k=b->k<f->m<=16777215->o.length=i->qhi lf n (Int.ofNat b) f (Int.ofNat m,qae o,Int.ofNat i)=some (qae (S.numB m k++o),())
 | 0,f+1,m,i,o,hi,hf,hm,ho=>by
  show qio lf n (Int.ofNat b) (qhi lf n (Int.ofNat b) f) _=_;simp only[qio];rw[qa3,jal (by omega),jad];rfl
 | k+1,f+1,m,i,o,hi,hf,hm,ho=>by
  show qio lf n (Int.ofNat b) (qhi lf n (Int.ofNat b) f) _=_;simp only[qio];have e1:Int.tmod (Int.ofNat m) (Int.ofNat 256)=((m % 256:Nat):Int):=rfl;have e2:Int.tdiv (Int.ofNat m) (Int.ofNat 256)=Int.ofNat (m / 256):=rfl;rw[qa3,jaj (by omega),jaa,qaz,qb0 (by show 1+o.length<_;omega),jaa];simp only[qy4,qjm,e1,e2,qck]
  rw[qa2 (n:=m / 256) (by omega),show IntKind.i64.wrap (Int.add (Int.ofNat i) (Int.ofNat 1))=Int.ofNat (i+1) from qa2 (n:=i+1) (by omega),
   q4r lf n b hb k f (m / 256) (i+1) _ (by omega) (by omega) (by omega) (by simp only[jah,jas,jaz];omega)]
  have e3:((m % 256:Nat):Int) % 256=((m % 256:Nat):Int):=by omega
  rw[e3];show some (qae (S.numB (m / 256) k++([_]++o)),())=some (qae ((S.numB (m / 256) k++[_])++o),());rw[jay]
theorem zi8(n b:Int)(h:S.inI n 0 16777215=true)(h':S.inI b 0 3=true):Fz20 LF n b=some (qae (S.numB n.toNat b.toNat),()):=by
 obtain⟨h1,h2⟩:=qav.1 h;obtain⟨h3,h4⟩:=qav.1 h';obtain⟨k,rfl⟩:∃k:Nat,n=Int.ofNat k:=⟨n.toNat,by show n=((n.toNat:Nat):Int);omega⟩;obtain⟨c,rfl⟩:∃k:Nat,b=Int.ofNat k:=⟨b.toNat,by show b=((b.toNat:Nat):Int);omega⟩;have h2:(k:Int)<=16777215:=h2;have h4:(c:Int)<=3:=h4;simp only[Fz20,quz];refine(q4r LF (Int.ofNat k) c (by omega) c LF k 0 [] (by omega) (by unfold LF;omega) (by omega) rfl).trans ?_;rw[jbl];rfl
theorem zd7:Con Tryz.prog zga qza:=zwl trivial fun x y hx h=>⟨LF,by
 obtain⟨h1,h2⟩:=qa5 (show cond (S.inI x.1 0 16777215&&S.inI x.2.1 0 3) (some (qae (S.numB (Int.toNat x.1) (Int.toNat x.2.1)),())) none=some y from h);rw[jae] at h1;exact(zi8 x.1 x.2.1 h1.1 h1.2).trans (jaw some h2)⟩
theorem q1a(n:Nat):S.numB n 1=[((n % 256:Nat):Int)]:=rfl
theorem zq8(n:Nat):S.numB n 2=S.two n:=rfl
theorem zo0(n:Nat):S.numB n 3=((n / 65536 % 256:Nat):Int)::S.two n:=by
 show [((n / 256 / 256 % 256:Nat):Int),((n / 256 % 256:Nat):Int),((n % 256:Nat):Int)]=_;rw[Nat.div_div_eq_div_mul];rfl
theorem q2f(l:List qaa)(x2:Int)(b:List Int)(hr:rng b)(hb:b.length<=2000000):∀(m f i:Nat) (out:List ByteArray),(b.drop i).length<=m->m<f->out.length+m<=4000000->i<=b.length+64->qg4 LF l x2 f (qae b,Int.ofNat i,out)=some (out++S.chunks m (b.drop i),())
 | m,0,i,out,h1,h2,h3,h4=>by omega
 | m,f+1,i,out,h1,h2,h3,h4=>by
  show qrh LF l x2 (qg4 LF l x2 f) _=_;simp only[qrh];rw[qaz,qa3];by_cases hi:i<b.length
  ·have hw:IntKind.i64.wrap (Int.add (Int.ofNat i) (Int.ofNat 64))=Int.ofNat (i+64):=qa2 (n:=i+64) (by omega);have hmin:imin (Int.ofNat b.length) (Int.ofNat (i+64))=Int.ofNat (min b.length (i+64)):=by
    rw[qz4];by_cases e:i+64<b.length
    ·rw[jan (show Int.ofNat (i+64)<Int.ofNat b.length from jd0.2 e),Nat.min_eq_right (by omega)]
    ·rw[jao (show ¬Int.ofNat (i+64)<Int.ofNat b.length from fun h=>e (jd0.1 h)),jb1 (by omega)]
   have hsub:IntKind.i64.wrap (Int.sub (Int.ofNat (min b.length (i+64))) (Int.ofNat i))=Int.ofNat (min b.length (i+64)-i):=by
    have:Int.sub (Int.ofNat (min b.length (i+64))) (Int.ofNat i)=Int.ofNat (min b.length (i+64)-i):=by
     show ((min b.length (i+64):Nat):Int)-(i:Int)=((min b.length (i+64)-i:Nat):Int);omega
    rw[this];exact qa2 (by omega)
   have hsub2:IntKind.i64.wrap (Int.sub (Int.ofNat 64) (Int.ofNat (min b.length (i+64)-i)))=Int.ofNat (64-(b.length-i)):=by
    have:Int.sub (Int.ofNat 64) (Int.ofNat (min b.length (i+64)-i))=Int.ofNat (64-(b.length-i)):=by
     show (64:Int)-((min b.length (i+64)-i:Nat):Int)=((64-(b.length-i):Nat):Int);omega
    rw[this];exact qa2 (by omega)
   have l1:lchk (Int.ofNat i) (Int.ofNat (min b.length (i+64))) (Int.ofNat b.length) (Int.ofNat b.length)=true:=qbv.2 ⟨jbb _,by show (i:Int)<=((min b.length (i+64):Nat):Int);omega,by show ((min b.length (i+64):Nat):Int)<=(b.length:Int);omega,jbq _⟩;have hext:ByteArray.extract (qae b) (Int.toNat (Int.ofNat i)) (Int.toNat (Int.ofNat (min b.length (i+64))))=qae ((b.drop i).take 64):=by
    refine qep ?_;rw[qj4,qbi hr,qbi (qd7 (qc1 hr i) 64),jcn];show (b.drop i).take (min b.length (i+64)-i)=_;by_cases e:i+64<=b.length
    ·rw[Nat.min_eq_right e,show i+64-i=64 by omega]
    ·rw[jb1 (by omega),jbn (by rw[jax];exact jat _),jbn (by rw[jax];omega)]
   rw[jaj hi,jaa,hw,hmin,l1,jaa,hsub,hsub2,show S.inI (Int.ofNat (64-(b.length-i))) (Int.ofNat 0) (Int.ofNat 64)=true from qav.2 ⟨jbb _,by show ((64-(b.length-i):Nat):Int)<=64;omega⟩,jaa,hext];simp only;rw[qaz,qaz,qb0 (by rw[jba,ja4];show min _ _+Int.toNat (Int.ofNat _)<_;show min _ _+(64-_)<_;omega),jaa,jar (by show (out.length+1)*16<=_;omega),jaa,qck];rw[jax] at h1;obtain⟨m',rfl⟩:∃m',m=m'+1:=⟨m-1,by omega⟩
   rw[q2f l x2 b hr hb m' f (i+64) _ (by rw[jax];omega) (by omega) (by simp only[jcs,jah,jas,jaz];omega) (by omega),
    qga m' (b:=b.drop i) (by rw[jax];omega),jcw,jax]
   show some ((out++[_])++S.chunks m' _,())=some (out++_::S.chunks m' _,());rw[jay];rfl
  ·rw[jal hi,jad,jbo (by omega),zog,jbl]
theorem zky(l:List qaa)(x2:Int)(h:S.pk l=true)(h2:S.inI x2 0 1=true):Fz21 LF l x2=some (S.packed l x2,()):=by
 obtain⟨hok,hlen⟩:=qpy h;obtain⟨hx1,hx2⟩:=qav.1 h2;have hB:=qnt h;refine(range0 (σ:=ByteArray) (R:=qbz) (T:=fun K p=>ql0 LF l x2 K (fun q=>qg4 LF l x2 LF q) p) l (fun i s=>(s,i)) (fun i s=>s=qae (S.body (l.take i))) (fun _ _ _=>some (S.packed l x2,())) (by unfold LF;omega) (fun K s hs=>?_) (fun K i v rest s hs r hk=>?_) (S.lit []) rfl).trans rfl
 ·rw[jfs] at hs;simp only[ql0,qbt,jad];rw[hs,qaz,show S.inI x2 (Int.ofNat 0) (Int.ofNat 16777215)=true from qav.2 ⟨hx1,by show x2<=16777215;omega⟩,show S.inI (Int.ofNat 1) (Int.ofNat 0) (Int.ofNat 3)=true from rfl,show S.inI (Int.ofNat (S.body l).length) (Int.ofNat 0) (Int.ofNat 16777215)=true from qav.2 ⟨jbb _,by show (((S.body l).length:Nat):Int)<=16777215;omega⟩,show S.inI (Int.ofNat 3) (Int.ofNat 0) (Int.ofNat 3)=true from rfl];simp only[jd1,jaa];rw[show Int.toNat (Int.ofNat (S.body l).length)=(S.body l).length from rfl,zo0,q1a,qaz,qaz,qb0 (by show 1+3<_;decide),jaa,qck,qaz,qb0 (by show 4+_<_;omega),jaa,qck];have e0:((x2.toNat % 256:Nat):Int)=x2:=by omega
  have hrec:[((x2.toNat % 256:Nat):Int)]++(((S.body l).length / 65536 % 256:Nat):Int)::S.two (S.body l).length++S.body l=S.recB l x2:=by
   rw[e0];rfl
  rw[hrec];have hl:=qen l x2;exact q2f l x2 (S.recB l x2) (qhq l (by omega)) (by omega) (S.recB l x2).length LF 0 [] (jat _) (by unfold LF;omega) (by rw[jaz];omega) (by omega)
 ·obtain⟨⟨v1,v2⟩,v3,v4⟩:=qls hok v r.mem;have hBi:=q93 h i;have hnext:qae (S.body (l.take (i+1)))=qae (S.body (l.take i)++S.cellB v):=by rw[r.take,q46]
  obtain⟨k,s0,g⟩:=v;simp only at v1 v2 v3 v4;subst hs;generalize S.body (l.take i)=B at *;have hk1:S.inI k (Int.ofNat 0) (Int.ofNat 16777215)=true:=qav.2 ⟨v1,by show k<=16777215;omega⟩;have hkk:((k.toNat % 256:Nat):Int)=k % 256:=by omega
  simp only[ql0,r.ilt,r.get,r.next,jaa,qck,qaz,hk1,show S.inI (Int.ofNat 1) (Int.ofNat 0) (Int.ofNat 3)=true from rfl,jd1,q1a,hkk];rw[qb0 (by show B.length+1<_;omega),jaa];cases g with
  | true =>
   rw[jaa,show S.lit [0,0]=qae [0,0] from rfl,qck,qb0 (by simp only[jah,jas,jaz];show _+2<_;omega),jaa];refine hk _ ?_;rw[hnext,jay];rfl
  | false =>
   obtain⟨b,hb1,hb2,hb3,_⟩:=qnb s0;subst hb2;rw[hb3] at v3;have hw:IntKind.i64.wrap (Int.ofNat (Nat.add (qae b).size 1))=Int.ofNat (b.length+1):=by
    rw[hb3];exact qa2 (n:=b.length+1) (by omega)
   rw[hw,jad,show S.inI (Int.ofNat (b.length+1)) (Int.ofNat 0) (Int.ofNat 16777215)=true from qav.2 ⟨jbb _,by show ((b.length+1:Nat):Int)<=16777215;omega⟩,show S.inI (Int.ofNat 2) (Int.ofNat 0) (Int.ofNat 3)=true from rfl,jd1,jaa];simp only[qck,qaz,zq8];have h2:(S.two (Int.toNat (Int.ofNat (b.length+1)))).length=2:=rfl;rw[qb0 (by simp only[jah,jas,jaz,h2];show (_:Nat)+2<_;omega),jaa,qb0 (by simp only[jah,jas,jaz,h2];show (_:Nat)+(_:Nat)<_;omega),jaa];refine hk _ ?_;rw[hnext];have:S.cellB (k,qae b,false)=[k % 256]++(S.two (Int.toNat (Int.ofNat (b.length+1)))++b):=by
    unfold S.cellB;simp only[jad];rw[hb3,qbi hb1];rfl
   rw[this];simp only[jay]
theorem qwo:Con Tryz.prog zti qoe:=zs0 ⟨zd7,qsl,trivial⟩ fun x y hx h=>⟨LF,by
 obtain⟨h1,h2⟩:=qa5 (show cond (S.pkm x.1 x.2.1) (some (S.packed x.1 x.2.1,())) none=some y from h);unfold S.pkm at h1;rw[jae] at h1;exact(zky x.1 x.2.1 h1.1 h1.2).trans (jaw some h2)⟩
theorem q7v:Con Tryz.prog zsu qzc:=zrh trivial fun x y hx h=>⟨0,h⟩
theorem q7p:Con Tryz.prog zpc qvn:=zs6 trivial fun x y hx h=>⟨0,h⟩
theorem zee{l:List ByteArray}{i:Nat}(h:i<l.length)(a:Int):S.puts (a+i) (l.drop i)=S.put (a+i) (l.getD i S.none_)::S.puts (a+((i+1:Nat):Int)) (l.drop (i+1)):=by
 rw[jby h,jai,jac h];show S.put (a+i) _::S.puts (a+i+1) _=_;rw[show a+(i:Int)+1=a+((i+1:Nat):Int) by omega];rfl
theorem zc7(x1:List DAct)(a:Int)(l:List ByteArray)(ha:S.inI a 0 1000000=true)(hl:l.length<=1000000):∀(k f i:Nat) (out:List DAct),i+k=l.length->k<f->out.length+k<=2000000->qgz LF x1 a l f (Int.ofNat i,out)=some ((),((out++S.puts (a+i) (l.drop i),()),()))
 | 0,f+1,i,out,hi,hf,ho=>by
  show qjk LF x1 a l (qgz LF x1 a l f) _=_;simp only[qjk];rw[qa3,jal (by omega),jad,jbo (by omega)];show some ((),((out,()),()))=some ((),((out++[],()),()));rw[jbl]
 | k+1,f+1,i,out,hi,hf,ho=>by
  obtain⟨h1,h2⟩:=qav.1 ha;show qjk LF x1 a l (qgz LF x1 a l f) _=_;simp only[qjk];rw[qa3,jaj (by omega),jaa,qm5 (i:=Int.ofNat i) (d:=S.none_) (jbb i) (by show (i:Int)<(l.length:Int);omega)];simp only
  rw[jar (by show (out.length+1)*32<=_;omega),jaa,show IntKind.i64.wrap (Int.add (Int.ofNat i) (Int.ofNat 1))=Int.ofNat (i+1) from qa2 (n:=i+1) (by omega),
   show IntKind.i64.wrap (Int.add a (Int.ofNat i))=a+i from wrap_in (by show -_<=a+(i:Int)/\a+(i:Int)<_;omega),
   zc7 x1 a l ha hl k f (i+1) _ (by omega) (by omega) (by simp only[jcs,jah,jas,jaz];omega),zee (l:=l) (i:=i) (by omega) a]
  show some ((),(((out++[_])++_,()),()))=some ((),((out++_::_,()),()));rw[jay];rfl
theorem zqi(x1:List DAct)(a:Int)(l:List ByteArray)(ha:S.inI a 0 1000000=true)(hl:l.length<=1000000)(hx:x1.length<=1000000):Fz8 LF x1 a l=some ((),((S.app x1 (S.puts a l),()),())):=by
 simp only[Fz8,q0m];refine(zc7 x1 a l ha hl l.length LF 0 x1 (by omega) (by unfold LF;omega) (by omega)).trans ?_;rw[jdk,show a+((0:Nat):Int)=a by omega];rfl
theorem q0b:ConR Tryz.prog idz8 spz8:=mkz8 trivial fun x y hx h=>⟨LF,by
 obtain⟨h1,h2⟩:=qa5 (show cond (S.inI x.2.1 0 1000000&&(Nat.ble x.2.2.1.length 1000000&&Nat.ble (S.lenA x.1.1) 1000000)) (some ((),((S.app x.1.1 (S.puts x.2.1 x.2.2.1),()),()))) none=some y from h);rw[jae,jae] at h1;exact(zqi x.1.1 x.2.1 x.2.2.1 h1.1 (jam h1.2.1) (jam h1.2.2)).trans (jaw some h2)⟩
theorem zgl(x1:List DAct)(hx:x1.length<=4000000):Fz9 LF x1=some ((),((S.app x1 [S.sync],()),())):=by
 simp only[Fz9,qx3];rw[jar (by show (x1.length+1)*32<=_;omega),jaa];rfl
theorem q0u:ConR Tryz.prog idz9 spz9:=mkz9 trivial fun x y hx h=>⟨LF,by
 obtain⟨h1,h2⟩:=qa5 (show cond (Nat.ble (S.lenA x.1.1) 4000000) (some ((),((S.app x.1.1 [S.sync],()),()))) none=some y from h);exact(zgl x.1.1 (jam h1)).trans (jaw some h2)⟩
def qg6(out:List qaa):Int:=(out.getLast?.map (·.1)).getD (-1)
theorem qv3(out:List qaa)(c:qaa):qg6 (out++[c])=c.1:=by simp[qg6]
theorem zht{R:Type}{out:List qaa}{k:Int}(hk:0<=k)(hl:out.length<1000000000)(N T:Option R) :
  cond (iltI (Int.ofNat 0) (Int.ofNat out.length)) (match jget out (IntKind.i64.wrap (Int.sub (Int.ofNat out.length) (Int.ofNat 1))) with
   | none=>none
   | some v3=>match out[Int.toNat (IntKind.i64.wrap (Int.sub (Int.ofNat out.length) (Int.ofNat 1)))]? with
    | none=>none
    | some v4=>cond (!iltI v4.1 k) N T) T=cond (decide (k<=qg6 out)) N T:=by
 rcases List.eq_nil_or_concat out with rfl|⟨o,c,rfl⟩
 ·have:decide (k<=qg6 [])=false:=jal (by show ¬k<=-1;omega);rw[this];rfl
 ·rw[List.concat_eq_append] at *;have hlen:(o++[c]).length=o.length+1:=by simp
  rw[hlen] at hl ⊢;have e:IntKind.i64.wrap (Int.sub (Int.ofNat (o.length+1)) (Int.ofNat 1))=Int.ofNat o.length:=by
   have:Int.sub (Int.ofNat (o.length+1)) (Int.ofNat 1)=Int.ofNat o.length:=by
    show ((o.length+1:Nat):Int)-1=(o.length:Int);omega
   rw[this];exact qa2 (by omega)
  rw[e,qbo];have h1:(o++[c])[o.length]?=some c:=by simp
  have h2:(o++[c])[Int.toNat (Int.ofNat o.length)]?=some c:=h1;rw[h1,h2,qa3,jaj (by omega),jaa,qv3];show cond (!iltI c.1 k) N T=_;rw[qbu,qxq]
def chgR(out:List qaa):Option (List qaa)->List qaa × Bool
 | some l=>(out++l,true)
 | none=>([],false)
theorem qvz(x1:ByteArray):∀(f F:Nat) (r:List Int) (out:List qaa),rng r->r.length<f->f<=F->out.length+r.length<=3000000->qho LF x1 F (qae r,out)=some ((chgR out (S.changes f r (qg6 out))).1,(chgR out (S.changes f r (qg6 out))).2,())
 | 0,_,r,out,hr,hf,hF,ho=>by omega
 | f+1,0,r,out,hr,hf,hF,ho=>by omega
 | f+1,F+1,r,out,hr,hf,hF,ho=>by
  show qq3 LF x1 (qho LF x1 F) _=_;simp only[qq3,qbi hr,qaz];rcases r with _|⟨k,_|⟨a,_|⟨b,r⟩⟩⟩
  ·show some (out,true,())=some (out++[],true,());rw[jbl]
  ·rfl
  ·rfl
  ·have hk:=hr k (by simp);have ha:=hr a (by simp);have hb:=hr b (by simp);have hr':rng r:=fun x hx=>hr x (by simp[hx]);have hlen:(k::a::b::r).length=r.length+3:=rfl;rw[hlen] at hf ho;have l1:lchk (Int.ofNat 3) (Int.ofNat (k::a::b::r).length) (Int.ofNat (k::a::b::r).length) (Int.ofNat (k::a::b::r).length)=true:=qbv.2 ⟨by decide,by show (3:Int)<=((r.length+3:Nat):Int);omega,jbq _,jbq _⟩;have he:ByteArray.extract (qae (k::a::b::r)) 3 (Int.toNat (Int.ofNat (k::a::b::r).length))=qae r:=qjx hr 3;have wk:IntKind.i64.wrap k=k:=wrap_in (by omega);have wn:IntKind.i64.wrap (Int.add (IntKind.i64.wrap (Int.mul (IntKind.i64.wrap a) (Int.ofNat 256))) (IntKind.i64.wrap b))=a*256+b:=by
    rw[wrap_in (n:=a) (by omega),wrap_in (n:=b) (by omega),wrap_in (n:=Int.mul a (Int.ofNat 256)) (by show -_<=a*256/\a*256<_;omega)];exact wrap_in (by show -_<=a*256+b/\a*256+b<_;omega)
   have hn:0<=a*256+b/\a*256+b<65536:=by omega
   rw[qm7];rw[qa3,jaj (show 0<(k::a::b::r).length by rw[hlen];omega),jaa,qa3,jal (show ¬(k::a::b::r).length<3 by rw[hlen];omega),jad,qbo,qbo,qbo];show cond (lchk _ _ _ _) _ _=_;rw[l1,jaa,he,wk,wn];generalize a*256+b=n at hn;by_cases c1:199<k
   ·rw[qco (show Int.ofNat 199<k from c1),jaa,jan (.inl c1)];rfl
   rw[qcu (show ¬Int.ofNat 199<k from c1),jad];refine(zht (out:=out) hk.1 (by omega) _ _).trans ?_;by_cases c2:k<=qg6 out
   ·rw[jaj c2,jaa,jan (.inr (.inl c2))];rfl
   rw[jal c2,jad,qaz,qa2 (n:=Nat.add r.length 1) (by show r.length+1<_;omega)];by_cases c3:(r.length:Int)+1<n
   ·rw[qco (show Int.ofNat (Nat.add r.length 1)<n from by show ((r.length+1:Nat):Int)<n;omega),jaa,jan (.inr (.inr (.inl c3)))];rfl
   rw[qcu (show ¬Int.ofNat (Nat.add r.length 1)<n from by show ¬((r.length+1:Nat):Int)<n;omega),jad];by_cases c4:4001<n
   ·rw[qco (show Int.ofNat 4001<n from c4),jaa,jan (.inr (.inr (.inr c4)))];rfl
   rw[qcu (show ¬Int.ofNat 4001<n from c4),jad,jao (by omega)];rw[jar (show Nat.mul (Nat.add out.length 1) 32<=140737488355328 by show (out.length+1)*32<=_;omega),jaa];by_cases c5:n=0
   ·rw[qa8 (show n=Int.ofNat 0 from c5),jaa,jan c5,qvz x1 f F r _ hr' (by omega) (by omega) (by simp only[jcs,jah,jas,jaz];omega)];rw[jcs,qv3];show some ((chgR (out++[(k,S.none_,true)]) (S.changes f r k)).1,_,())=_;cases S.changes f r k with
    | none=>rfl
    | some l=>show some (out++[_]++l,true,())=some (out++_::l,true,());rw[jay];rfl
   ·rw[qa9 (show ¬n=Int.ofNat 0 from c5),jad,jao c5];have e1:IntKind.i64.wrap (Int.sub n (Int.ofNat 1))=n-1:=wrap_in (by show -_<=n-1/\n-1<_;omega);have l2:lchk (Int.ofNat 0) (n-1) (Int.ofNat r.length) (Int.ofNat r.length)=true:=qbv.2 ⟨jbq _,by show (0:Int)<=n-1;omega,by show n-1<=(r.length:Int);omega,jbq _⟩;have l3:lchk (n-1) (Int.ofNat r.length) (Int.ofNat r.length) (Int.ofNat r.length)=true:=qbv.2 ⟨by omega,by show n-1<=(r.length:Int);omega,jbq _,jbq _⟩;rw[e1,l2,jaa,l3,jaa,show Int.toNat (Int.ofNat r.length)=r.length from rfl,qjx hr',q1j hr'];rw[qvz x1 f F (r.drop (n-1).toNat) _ (qc1 hr' _) (by rw[jax];omega) (by omega) (by simp only[jcs,jah,jas,jaz,jax];omega)];rw[jcs,qv3];cases S.changes f (r.drop (n-1).toNat) k with
    | none=>rfl
    | some l=>show some (out++[_]++l,true,())=some (out++_::l,true,());rw[jay];rfl
theorem z08(b:ByteArray)(h:b.size<=1000000):Fz2 LF b=some ((S.chg b).1,(S.chg b).2,()):=by
 obtain⟨r,h1,rfl,h3,h4⟩:=qnb b;rw[h3] at h;simp only[Fz2,qu5];refine(qvz (qae r) (r.length+1) LF r [] h1 (by omega) (by unfold LF;omega) (by rw[jaz];omega)).trans ?_;unfold S.chg;rw[h3,h4];show some ((chgR [] (S.changes (r.length+1) r (-1))).1,(chgR [] (S.changes (r.length+1) r (-1))).2,())=_;cases S.changes (r.length+1) r (-1)<;>rfl
theorem z0b:Con Tryz.prog idz2 spz2:=mkz2 trivial fun x y hx h=>⟨LF,by
 obtain⟨h1,h2⟩:=qa5 (show cond (Nat.ble x.1.size 1000000) (some ((S.chg x.1).1,(S.chg x.1).2,())) none=some y from h);exact(z08 x.1 (jam h1)).trans (jaw some h2)⟩
theorem zy3(s:ByteArray)(h:s.size<=3):Fz4 LF s=some (S.val s,()):=by
 obtain⟨b,hb1,rfl,hb3,hb4⟩:=qnb s;rw[hb3] at h;unfold S.val;rw[hb4];simp only[Fz4,qxv];refine(range0 (σ:=Int) (R:=Rtz4) b (fun i n=>(n,i)) (fun i n=>0<=n/\(i=0->n<1)/\(i=1->n<256)/\(i=2->n<65536)) (fun rest _ n=>some (rest.foldl (fun n b=>256*n+b) n,())) (by unfold LF;omega) (fun K n hn=>?_) (fun K i v rest n hn r hk=>?_) 0 (show (0:Int)<=0/\((0:Nat)=0->(0:Int)<1)/\((0:Nat)=1->(0:Int)<256)/\((0:Nat)=2->(0:Int)<65536) by omega)).trans rfl
 ·simp only[qss,qaz,qbt,jad];rfl
 ·have hv:=hb1 v r.mem;have hi:=r.lt;simp only[qss,qaz,r.ilt,hb4,r.get,r.next,jaa];have hn':0<=n/\n<65536:=by omega
  have hw:IntKind.i64.wrap (Int.add (IntKind.i64.wrap (Int.mul (Int.ofNat 256) n)) (IntKind.i64.wrap v))=256*n+v:=by
   rw[wrap_in (n:=v) (by omega),wrap_in (n:=Int.mul (Int.ofNat 256) n) (by show -_<=(256:Int)*n/\(256:Int)*n<_;omega)];exact wrap_in (by show -_<=(256:Int)*n+v/\(256:Int)*n+v<_;omega)
  rw[hw];exact hk _ ⟨by omega,by omega,by omega,by omega⟩
theorem zx2:Con Tryz.prog idz4 spz4:=mkz4 trivial fun x y hx h=>⟨LF,by
 obtain⟨h1,h2⟩:=qa5 (show cond (Nat.ble x.1.size 3) (some (S.val x.1,())) none=some y from h);exact(zy3 x.1 (jam h1)).trans (jaw some h2)⟩
theorem qxb:∀{l:List qaa} {last:Int},S.okGo l last=true->-1<=last->(l.length:Int)<=max 0 (199-last)
 | [],_,_,_=>by rw[jaz];omega
 | c::l,last,h,hl=>by
  obtain⟨h1,h2,h3,h4,h5⟩:=qbq.1 h;have:=qxb h5 (by omega);rw[jas];omega
theorem qn0{l:List qaa}(h:S.okC l=true):l.length<=200:=by
 have:=qxb (l:=l) (last:=-1) h (jbq _);omega
theorem q8s(x c:qaa)(h:x.1<c.1)(a:List qaa):S.ins1 c (x::a)=x::S.ins1 c a:=by
 show (if x.1<c.1 then x::S.ins1 c a else _)=_;rw[jan h]
theorem qnl(x:qaa):∀(b a:List qaa) (last:Int),S.okGo b last=true->x.1<=last->S.changed (x::a) b=x::S.changed a b
 | [],a,_,_,_=>rfl
 | c::b,a,last,h,hx=>by
  obtain⟨h1,h2,h3,h4,h5⟩:=qbq.1 h;show S.changed (S.ins1 c (x::a)) b=x::S.changed (S.ins1 c a) b;rw[q8s x c (by omega)];exact qnl x b _ c.1 h5 (by omega)
theorem zzv{x c:qaa}{a b:List qaa}{last:Int}(h:S.okGo (c::b) last=true)(hx:x.1<c.1):S.changed (x::a) (c::b)=x::S.changed a (c::b):=by
 obtain⟨h1,h2,h3,h4,h5⟩:=qbq.1 h;show S.changed (S.ins1 c (x::a)) b=x::S.changed (S.ins1 c a) b;rw[q8s x c hx];exact qnl x b _ c.1 h5 (by omega)
theorem z0g{x c:qaa}{a b:List qaa}{last:Int}(h:S.okGo (c::b) last=true)(hx:x.1=c.1):S.changed (x::a) (c::b)=cond c.2.2 (S.changed a b) (c::S.changed a b):=by
 obtain⟨h1,h2,h3,h4,h5⟩:=qbq.1 h;show S.changed (if x.1<c.1 then x::S.ins1 c a else if x.1=c.1 then cond c.2.2 a (c::a) else _) b=_;rw[jao (by omega),jan hx];cases c.2.2 with
 | true=>rfl
 | false=>exact qnl c b a c.1 h5 (jbq _)
theorem zf5{x c:qaa}{a b:List qaa}{last:Int}(h:S.okGo (c::b) last=true)(hx:c.1<x.1):S.changed (x::a) (c::b)=cond c.2.2 (S.changed (x::a) b) (c::S.changed (x::a) b):=by
 obtain⟨h1,h2,h3,h4,h5⟩:=qbq.1 h;show S.changed (if x.1<c.1 then x::S.ins1 c a else if x.1=c.1 then cond c.2.2 a (c::a) else cond c.2.2 (x::a) (c::x::a)) b=_;rw[jao (by omega),jao (by omega)];cases c.2.2 with
 | true=>rfl
 | false=>exact qnl c b (x::a) c.1 h5 (jbq _)
theorem zc1{c:qaa}{b:List qaa}{last:Int}(h:S.okGo (c::b) last=true):S.changed [] (c::b)=cond c.2.2 (S.changed [] b) (c::S.changed [] b):=by
 obtain⟨h1,h2,h3,h4,h5⟩:=qbq.1 h;show S.changed (cond c.2.2 [] [c]) b=_;cases c.2.2 with
 | true=>rfl
 | false=>exact qnl c b [] c.1 h5 (jbq _)
theorem qux{l:List qaa}{i:Nat}(h:i<l.length):∃c,l[i]?=some c/\l.drop i=c::l.drop (i+1):=⟨l[i],jac h,jby h⟩
theorem qw5:∀{l:List qaa} {last:Int} (i:Nat),S.okGo l last=true->∃last',S.okGo (l.drop i) last'=true
 | l,last,0,h=>⟨last,h⟩
 | [],last,i+1,h=>⟨last,h⟩
 | c::l,last,i+1,h=>qw5 i (qbq.1 h).2.2.2.2
theorem qe5(a b:List qaa)(ha:a.length<=1000)(hb:b.length<=1000)(ok:S.okGo b (-1)=true):∀(m F i k:Nat) (out:List qaa),(a.length-i)+(b.length-k)<=m->m<F->i<=a.length->k<=b.length->out.length+m<=3000000->qh6 LF a b F (Int.ofNat k,out,Int.ofNat i)=some (out++S.changed (a.drop i) (b.drop k),())
 | m,0,i,k,out,h1,h2,h3,h4,h5=>by omega
 | m,F+1,i,k,out,h1,h2,h3,h4,h5=>by
  show qe9 LF a b (qh6 LF a b F) _=_;have wi:IntKind.i64.wrap (Int.add (Int.ofNat i) (Int.ofNat 1))=Int.ofNat (i+1):=qa2 (n:=i+1) (by omega);have wk:IntKind.i64.wrap (Int.add (Int.ofNat k) (Int.ofNat 1))=Int.ofNat (k+1):=qa2 (n:=k+1) (by omega);have hB:Nat.ble (Nat.mul (Nat.add out.length 1) 32) 140737488355328=true:=jar (by show (out.length+1)*32<=_;omega);have ap:∀(c:qaa) (l:List qaa),List.append out [(c.1,(c.2.1,c.2.2))]++l=out++c::l:=fun c l=>by
   show (out++[c])++l=_;rw[jay];rfl
  have al:∀(c:qaa),(List.append out [(c.1,(c.2.1,c.2.2))]).length=out.length+1:=fun c=>by
   show (out++[c]).length=_;rw[jah];rfl
  by_cases hi:i<a.length
  ·obtain⟨x,x1,x2⟩:=qux hi;have i1:iltI (Int.ofNat i) (Int.ofNat a.length)=true:=by rw[qa3];exact jaj hi
   by_cases hk:k<b.length
   ·obtain⟨c,c1,c2⟩:=qux hk;have k1:iltI (Int.ofNat k) (Int.ofNat b.length)=true:=by rw[qa3];exact jaj hk
    have k2:ieqI (Int.ofNat k) (Int.ofNat b.length)=false:=by rw[qfg];exact jal (by omega)
    obtain⟨last,hok⟩:=qw5 k ok;rw[c2] at hok;by_cases q1:x.1<c.1
    ·have e1:=qco q1;simp only[qe9,i1,k2,qbo,x1,c1,e1,hB,wi,jaa,jad];rw[qe5 a b ha hb ok (m-1) F (i+1) k _ (by omega) (by omega) (by omega) (by omega) (by rw[al];omega),x2,c2,zzv hok q1,ap]
    ·have e1:=qcu q1;by_cases q2:x.1=c.1
     ·have e2:=qa8 q2;simp only[qe9,i1,k2,qbo,x1,c1,e1,e2,hB,wi,wk,jaa,jad];rw[x2,c2,z0g hok q2];cases hg:c.2.2 with
      | true =>
       simp only[jav,jad,jaa];rw[qe5 a b ha hb ok (m-1) F (i+1) (k+1) _ (by omega) (by omega) (by omega) (by omega) (by omega)]
      | false =>
       simp only[jau,jad,jaa];have ap':=ap c;have al':=al c;rw[hg] at ap' al';rw[qe5 a b ha hb ok (m-1) F (i+1) (k+1) _ (by omega) (by omega) (by omega) (by omega) (by rw[al'];omega),ap']
     ·have e2:=qa9 q2;simp only[qe9,i1,k2,qbo,x1,c1,e1,e2,hB,wi,wk,jaa,jad];rw[x2,c2,zf5 hok (by omega)];cases hg:c.2.2 with
      | true =>
       simp only[jav,jad,jaa];rw[qe5 a b ha hb ok (m-1) F i (k+1) _ (by omega) (by omega) (by omega) (by omega) (by omega),x2]
      | false =>
       simp only[jau,jad,jaa];have ap':=ap c;have al':=al c;rw[hg] at ap' al';rw[qe5 a b ha hb ok (m-1) F i (k+1) _ (by omega) (by omega) (by omega) (by omega) (by rw[al'];omega),ap',x2]
   ·have ek:k=b.length:=by omega
    have k2:ieqI (Int.ofNat k) (Int.ofNat b.length)=true:=by rw[qfg];exact jaj ek
    simp only[qe9,i1,k2,qbo,x1,hB,wi,jaa];rw[qe5 a b ha hb ok (m-1) F (i+1) k _ (by omega) (by omega) (by omega) (by omega) (by rw[al];omega),jbo (show b.length<=k by omega),x2,ap];rfl
  ·have i1:iltI (Int.ofNat i) (Int.ofNat a.length)=false:=by rw[qa3];exact jal hi
   have x2:a.drop i=[]:=jbo (by omega);by_cases hk:k<b.length
   ·obtain⟨c,c1,c2⟩:=qux hk;have k1:iltI (Int.ofNat k) (Int.ofNat b.length)=true:=by rw[qa3];exact jaj hk
    have k2:ieqI (Int.ofNat k) (Int.ofNat b.length)=false:=by rw[qfg];exact jal (by omega)
    obtain⟨last,hok⟩:=qw5 k ok;rw[c2] at hok;simp only[qe9,i1,k1,k2,qbo,c1,hB,wk,jaa,jad];rw[x2,c2,zc1 hok];cases hg:c.2.2 with
    | true =>
     simp only[jav,jad,jaa];rw[qe5 a b ha hb ok (m-1) F i (k+1) _ (by omega) (by omega) (by omega) (by omega) (by omega),x2]
    | false =>
     simp only[jau,jad,jaa];have ap':=ap c;have al':=al c;rw[hg] at ap' al';rw[qe5 a b ha hb ok (m-1) F i (k+1) _ (by omega) (by omega) (by omega) (by omega) (by rw[al'];omega),ap',x2]
   ·have k1:iltI (Int.ofNat k) (Int.ofNat b.length)=false:=by rw[qa3];exact jal hk
    simp only[qe9,i1,k1,jad];rw[x2,jbo (show b.length<=k by omega)];show some (out,())=some (out++[],());rw[jbl]
theorem z02{a b:List qaa}(h:S.mrg a b=true):okS a (-1)/\S.okC b=true:=by
 unfold S.mrg S.srt at h;rw[jae,jae,jb4] at h;exact⟨⟨h.1.1,fun c hc=>by
  have:=jc5.1 h.1.2 c hc;exact jcl.2 this⟩,h.2⟩
theorem zwj{a b:List qaa}(h:okS a (-1))(k:S.okC b=true):S.mrg a b=true:=by
 unfold S.mrg S.srt;rw[jae,jae,jb4];exact⟨⟨h.1,jc5.2 fun c hc=>by rw[h.2 c hc];decide⟩,k⟩
theorem zzr(a b:List qaa)(h:S.mrg a b=true):Fz6 LF a b=some (S.changed a b,()):=by
 obtain⟨h1,h2⟩:=z02 h;have l1:=qn0 h1.1;have l2:=qn0 h2;simp only[Fz6,qx9];refine(qe5 a b (by omega) (by omega) h2 (a.length+b.length) LF 0 0 [] (by omega) (by unfold LF;omega) (by omega) (by omega) (by rw[jaz];omega)).trans ?_;rfl
theorem zwd:Con Tryz.prog idz6 spz6:=mkz6 trivial fun x y hx h=>⟨LF,by
 obtain⟨h1,h2⟩:=qa5 (show cond (S.mrg x.1 x.2.1) (some (S.changed x.1 x.2.1,())) none=some y from h);exact(zzr x.1 x.2.1 h1).trans (jaw some h2)⟩
theorem q1o(a b:Nat):(!iltI (Int.ofNat a) (Int.ofNat b))=Nat.ble b a:=by
 rw[qa3,jcp,jb4,jev,Nat.ble_eq];omega
theorem qwm(a b:Nat):iltI (Int.ofNat a) (Int.ofNat b)=Nat.blt a b:=by
 rw[qa3,jcp,jdn,Nat.blt_eq]
theorem q2m(a b:Nat):(!Nat.blt a b)=Nat.ble b a:=by rw[<- qwm,q1o]
theorem zrj(lf:Nat)(d:qac):qou lf d=some (S.few d,()):=by
 simp only[qou,zd6,qwm,q2m];unfold S.few;cases Nat.ble d.1.length 40<;>cases Nat.blt 1000 d.1.length<;>cases Nat.ble d.1.length 1100<;>cases Nat.ble d.2.length 80<;>cases Nat.blt 4000 d.2.length<;>cases Nat.ble d.2.length 4100<;>rfl
theorem zzu:Con Tryz.prog zqw q6o:=zyi trivial fun x y hx h=>⟨0,(zrj 0 x.1).trans h⟩
theorem zkz(l:List qaa)(hl:l.length<LF):Fz1 LF l=some (S.shortL l,()):=by
 simp only[Fz1,qyo];refine(qn9 (T:=fun K p=>qke LF l K p) l (fun rest _=>some (rest.all (fun c=>Nat.ble c.2.1.size 6000)&&(Nat.ble l.length 12||(Nat.blt 60 l.length&&Nat.ble l.length 100)),())) hl (fun K=>?_) (fun K i v rest r h=>?_)).trans rfl
 ·simp only[qke,qbt,jad,qwm,q2m];rw[List.all_nil,jbt];cases Nat.ble l.length 12<;>cases Nat.blt 60 l.length<;>cases Nat.ble l.length 100<;>rfl
 ·simp only[qke,r.ilt,r.get,r.next,jaa];rw[jdv];have:iltI (Int.ofNat 6000) (Int.ofNat v.2.1.size)=!Nat.ble v.2.1.size 6000:=by rw[<- q1o,Bool.not_not]
  rw[this,h];cases Nat.ble v.2.1.size 6000<;>rfl
theorem zmz:Con Tryz.prog idz1 spz1:=mkz1 trivial fun x y hx h=>⟨LF,(zkz x.1 (qcf (c:=cCell) hx.1)).trans h⟩
theorem zro:(S.newDisk 8).2=0/\(S.format (S.newDisk 8).1).2=0/\(S.doD (S.newDisk 8).1 (S.format (S.newDisk 8).1).1).2=0/\(S.open_ S.madeD).2=0:=by
 refine⟨?_,?_,?_,?_⟩<;>kernel_rfl
theorem zwz(lf:Nat):qop lf 8=some (S.madeJ,true,()):=by
 obtain⟨h1,h2,h3,h4⟩:=zro;simp only[qop,zbu];show cond (ieqI (S.newDisk 8).2 _) (cond (ieqI (S.format (S.newDisk 8).1).2 _) (cond (ieqI (S.doD (S.newDisk 8).1 (S.format (S.newDisk 8).1).1).2 _) (some ((S.open_ S.madeD).1,ieqI (S.open_ S.madeD).2 _,())) _) _) _=_;rw[h1,h2,h3,h4];rfl
theorem zml(lf:Nat)(j:qad)(l:List qaa):qog lf j l=some (true,()):=by
 have e1:∀a:List DAct,S.sameA a a=true:=fun a=>jaj rfl;have e2:∀a:qad,S.sameJ a a=true:=fun a=>jaj rfl;simp only[qog,q6i,e1,e2,zgm,jaa];cases (!S.few (j.1.1,j.1.2))<;>cases (!S.shortL l)<;>cases iltI (Int.ofNat 300) (Int.ofNat j.2.2.2.length)<;>rfl
abbrev qr9:Type:=ByteArray × Unit
abbrev zwp:Nat:=54
def zqy(lf:Nat):Option qr9:=(match (cond (S.oneN (S.lit [0]) (Int.ofNat 64)) (some (S.blank,())) none) with|none=>none|some v0=>(some (v0.1,())))
def q58(lf:Nat):Option qr9:=zqy lf
theorem zoe{g:ElA []->Option qr9}(hsm:SmOK Tryz.prog [(90,zca)])(hg:∀(x:ElA []) (y:qr9),WfA [] x->g x=some y->∃lf,q58 lf=some y):Con Tryz.prog 54 ⟨[],[(false,.str)],g⟩ :=
 conU (fi:=fi54) (hxl:=[]) (fun lf x=>q58 lf) cm3 zju trivial hsm hg
def qnq:Nat->Option Nm:=fun k=>cond (Nat.beq k 4) (some ⟨[0,1,12,13],[],[],[],[],0,0,false⟩) (none)
def qlc:Nat->Bool:=fun k=>cond (Nat.beq k 4) true (false)
def zdp:=qlc
abbrev qdo:Type:=Bool × Unit
def q8n:List (Nat × Sm):=[]
def q7h:List (Nat × Hx):=[]
def qzy(R:Type)(lf:Nat):ClK R:=qa1 Tryz.prog ttT.get ftT.get (nm1 100 qnq) (smL q8n) (hxL q7h) lf 20 R
abbrev zyx:Nat:=100
def qhs(x1:(List qaa))(x2:(List qaa))(p:Int):NRes:=(NRes.mk (.node (some (IV.lst cCell x1)) (.node (some (IV.lst cCell x2)) .leaf (.node none .leaf (.node (some (IV.int .i64 p)) .leaf .leaf))) (.node none (.node none .leaf (.node (some (IV.int .i64 (Int.ofNat x1.length))) .leaf .leaf)) .leaf)) (IS.mk .leaf 0) [] 0)
def qz3(lf:Nat)(x1:(List qaa))(x2:(List qaa))(L4:Int->Option qdo):Option qdo:=(cond (Bool.not (ieqI (Int.ofNat x1.length) (Int.ofNat x2.length))) (some (false,())) (L4 (Int.ofNat 0)))
def qtp(lf:Nat)(x1:(List qaa))(x2:(List qaa))(L4:Int->Option qdo)(p:Int):Option qdo:=(cond (iltI p (Int.ofNat x1.length)) (match (jget x1 p) with|none=>none|some v0=>(match (jget x2 p) with|none=>none|some v1=>(cond (Bool.not (Bool.and (keqI v0.1 v1.1) (Bool.and (keqS v0.2.1 v1.2.1) (Bool.and (keqB v0.2.2 v1.2.2) true)))) (some (false,())) (L4 (IntKind.i64.wrap (Int.add p (Int.ofNat 1))))))) (some (true,())))
abbrev gz22:Type:=ElA [(.list cCell),(.list cCell)]->Option qdo
abbrev sz22(g:gz22):Sm:=⟨[(.list cCell),(.list cCell)],[(false,.bool)],g⟩
abbrev Ez22(g:gz22)(J:JT qdo)(lf:Nat)(x1:(List qaa))(x2:(List qaa)):=qbh Tryz.prog ttT.get qnq qee.nt (qzy _ lf) lf qlc J qee.body [] (qau (argV [(.list cCell),(.list cCell)] (x1,x2,())) 0 .leaf) S0 [] (qam ttT.get qee (sz22 g))
abbrev Bz22(g:gz22)(J:JT qdo)(lf k:Nat)(ms:List Nat)(q:NRes):=qbm Tryz.prog ttT.get qnq qee.nt (qzy _ lf) lf qlc J k qee.body [] ms q (qam ttT.get qee (sz22 g))
theorem z0q(g:gz22)(J:JT qdo)(lf:Nat)(x1:(List qaa))(x2:(List qaa)):Ez22 g J lf x1 x2=qz3 lf x1 x2 (fun q=>J 4 [lf] (qhs x1 x2 q)):=by kernel_rfl
theorem zjo(g:gz22)(J:JT qdo)(lf:Nat)(x1:(List qaa))(x2:(List qaa))(m1:Nat)(p:Int):Bz22 g J lf 4 [m1] (qhs x1 x2 p)=qtp lf x1 x2 (fun q=>J 4 [m1] (qhs x1 x2 q)) p:=by kernel_rfl
theorem q32:(regs qee.body).Nodup:=by decide +kernel
theorem za9:okC qnq qlc zdp qee.body none=true:=by kernel_rfl
def Az22(g:gz22)(lf:Nat):JT qdo:=atN Tryz.prog ttT.get qnq qee (sz22 g) (qzy _ lf) lf zdp
def qth(lf:Nat)(x1:(List qaa))(x2:(List qaa)):Nat->(Int)->Option qdo:=qaw fun K p=>qtp lf x1 x2 K p
theorem q9c(g:gz22)(lf:Nat)(x1:(List qaa))(x2:(List qaa)):∀(n:Nat) (p:Int),Az22 g lf 4 [n] (qhs x1 x2 p)=qth lf x1 x2 n p
 | 0,p=>qba 4 [0] rfl _
 | n+1,p=>by
  have ih:=q9c g lf x1 x2 n;refine(qa7 (qa0 20 _) q32 za9 4 [n+1] [n] rfl _).trans ((zjo g (Az22 g lf) lf x1 x2 n p).trans ?_);rw[(show (fun q=>Az22 g lf 4 [n] (qhs x1 x2 q))=(fun q=>qth lf x1 x2 n q) from funext ih)];rfl
def Fz22(lf:Nat)(x1:(List qaa))(x2:(List qaa)):Option qdo:=qz3 lf x1 x2 (fun q=>qth lf x1 x2 lf q)
theorem z16(g:gz22)(lf:Nat)(x1:(List qaa))(x2:(List qaa)):Ez22 g (Az22 g lf) lf x1 x2=Fz22 lf x1 x2:=by
  refine(z0q g (Az22 g lf) lf x1 x2).trans ?_;rw[(show (fun q=>Az22 g lf 4 [lf] (qhs x1 x2 q))=(fun q=>qth lf x1 x2 lf q) from funext fun q=>q9c g lf x1 x2 lf q)];rfl
theorem zyn:qa4 Tryz.prog q7h:=trivial
theorem zon{g:gz22}(hsm:SmOK Tryz.prog q8n)(hg:∀(x:ElA [(.list cCell),(.list cCell)]) (y:qdo),WfA [(.list cCell),(.list cCell)] x->g x=some y->∃lf,Fz22 lf x.1 x.2.1=some y):Con Tryz.prog 100 ⟨[(.list cCell),(.list cCell)],[(false,.bool)],g⟩ :=
 conV (st:=qlc) (fun lf x=>Fz22 lf x.1 x.2.1) cm3 zut zyn q32 za9 (fun lf x=>z16 g lf x.1 x.2.1) hsm hg
end Go.Proofs.YtnhmanoiolfapaaGreat
end

section
namespace Go.Proofs.YtnhmanoiolfapaaGreat
open Go Go.RowKit Go.Shelf
def qw3:Go.Shelf.Ren:=⟨fun|105=>90|212=>102|99=>106|165=>107|166=>108|170=>109|169=>110|263=>116|264=>117|206=>118|240=>119|241=>120|276=>126|277=>127|n=>n,fun|9=>9|3=>3|4=>4|20=>20|0=>0|46=>141|109=>158|5=>5|72=>166|76=>170|51=>178|146=>179|53=>181|148=>182|70=>164|37=>78|75=>169|127=>184|164=>191|80=>100|n=>n,fun|n=>n⟩
theorem zex:Go.Proofs.Lays.n105 Tryz.prog qw3:={
 mixed:=by kernel_rfl
 f99:=Tryz.func106.trans (jaw some (by kernel_rfl))
 f105:=Tryz.func90.trans (jaw some (by kernel_rfl))
 f165:=Tryz.func107.trans (jaw some (by kernel_rfl))
 f166:=Tryz.func108.trans (jaw some (by kernel_rfl))
 f169:=Tryz.func110.trans (jaw some (by kernel_rfl))
 f170:=Tryz.func109.trans (jaw some (by kernel_rfl))
 f206:=Tryz.func118.trans (jaw some (by kernel_rfl))
 f212:=Tryz.func102.trans (jaw some (by kernel_rfl))
 f240:=Tryz.func119.trans (jaw some (by kernel_rfl))
 f241:=Tryz.func120.trans (jaw some (by kernel_rfl))
 f263:=Tryz.func116.trans (jaw some (by kernel_rfl))
 f264:=Tryz.func117.trans (jaw some (by kernel_rfl))
 f276:=Tryz.func126.trans (jaw some (by kernel_rfl))
 f277:=Tryz.func127.trans (jaw some (by kernel_rfl))
 t0:=Tryz.underlying0
 a0:=Tryz.isAgg0
 z0:=Tryz.sizeOf0
 v0:=Tryz.zeroValue0
 t3:=Tryz.underlying3
 a3:=Tryz.isAgg3
 z3:=Tryz.sizeOf3
 v3:=Tryz.zeroValue3
 t4:=Tryz.underlying4
 a4:=Tryz.isAgg4
 z4:=Tryz.sizeOf4
 v4:=Tryz.zeroValue4
 t5:=Tryz.underlying5
 a5:=Tryz.isAgg5
 z5:=Tryz.sizeOf5
 v5:=Tryz.zeroValue5
 t9:=Tryz.underlying9
 a9:=Tryz.isAgg9
 z9:=Tryz.sizeOf9
 v9:=Tryz.zeroValue9
 t20:=Tryz.underlying20
 a20:=Tryz.isAgg20
 z20:=Tryz.sizeOf20
 v20:=Tryz.zeroValue20
 t37:=Tryz.underlying78
 a37:=Tryz.isAgg78
 z37:=Tryz.sizeOf78
 v37:=Tryz.zeroValue78
 t46:=Tryz.underlying141
 a46:=Tryz.isAgg141
 z46:=Tryz.sizeOf141
 v46:=Tryz.zeroValue141
 t51:=Tryz.underlying178
 a51:=Tryz.isAgg178
 z51:=Tryz.sizeOf178
 v51:=Tryz.zeroValue178
 t53:=Tryz.underlying181
 a53:=Tryz.isAgg181
 z53:=Tryz.sizeOf181
 v53:=Tryz.zeroValue181
 t70:=Tryz.underlying164
 a70:=Tryz.isAgg164
 z70:=Tryz.sizeOf164
 v70:=Tryz.zeroValue164
 t72:=Tryz.underlying166
 a72:=Tryz.isAgg166
 z72:=Tryz.sizeOf166
 v72:=Tryz.zeroValue166
 t75:=Tryz.underlying169
 a75:=Tryz.isAgg169
 z75:=Tryz.sizeOf169
 v75:=Tryz.zeroValue169
 t76:=Tryz.underlying170
 a76:=Tryz.isAgg170
 z76:=Tryz.sizeOf170
 v76:=Tryz.zeroValue170
 t109:=Tryz.underlying158
 a109:=Tryz.isAgg158
 z109:=Tryz.sizeOf158
 v109:=Tryz.zeroValue158
 t127:=Tryz.underlying184
 a127:=Tryz.isAgg184
 z127:=Tryz.sizeOf184
 v127:=Tryz.zeroValue184
 t146:=Tryz.underlying179
 a146:=Tryz.isAgg179
 z146:=Tryz.sizeOf179
 v146:=Tryz.zeroValue179
 t148:=Tryz.underlying182
 a148:=Tryz.isAgg182
 z148:=Tryz.sizeOf182
 v148:=Tryz.zeroValue182
 t164:=Tryz.underlying191
 a164:=Tryz.isAgg191
 z164:=Tryz.sizeOf191
 v164:=Tryz.zeroValue191 }
theorem zor:Builder.Extra Tryz.prog qw3:={
 sizeBuilder:=by kernel_rfl
 liesBuilder:=by kernel_rfl
 t5:=Tryz.underlying5
 a5:=Tryz.isAgg5
 z5:=Tryz.sizeOf5
 v5:=Tryz.zeroValue5
 infoByte:=by kernel_rfl
 cellsByte:=by kernel_rfl
 sizeByte:=by kernel_rfl
 neB5:=by decide }
theorem z19(s:ByteArray)(c:Nat)(w:World)(hc:c<=9223372036854775807)(hlen:s.size*c<=140737488355328) :
  Calls Tryz.prog 90 #[.string s,.int .i64 c] w fun e w'=>e=.returned (.string ⟨(Lib.repeatL s.data.toList c).toArray⟩)/\Below w.heap.size w w':=Any.strings_Repeat zex zor s c w hc hlen
end Go.Proofs.YtnhmanoiolfapaaGreat
end

noncomputable section
set_option maxRecDepth 100000
namespace Go.Proofs.YtnhmanoiolfapaaGreat
open Go Go.Sx Go.RowKit Go.Jx
theorem zr2:qaf Tryz.prog 90:=⟨_,Tryz.func90,by kernel_rfl,by kernel_rfl⟩
theorem zm7{f:Nat}{s:Sm}(hC:qaf Tryz.prog f)(hr:∀y,resO s.rts y=[])
  (h:∀(M:List Nat) (w:World) (x:ElA s.pts) (us:List Value) (y:ElR s.rts),s.f x=some y->VRs (EM M w) (argV s.pts x) us->∃v,(∀E':Env,VR E' (tupI (resV s.rts 0 y)) v)/\Calls Tryz.prog f us.toArray w fun e w'=>e=.returned v/\Below w.heap.size w w'):Con Tryz.prog f s :=
 ⟨hC,fun M w x us y hy hM hg hv=>by
  obtain⟨v,h1,h2⟩:=h M w x us y hy hv;refine(jdl.2 h2).mono fun e w' hR=>?_;obtain⟨rfl,hb⟩:=hR;rw[hr y];obtain⟨q1,q2⟩:=Post.idle (preM hM hg) (Upd.of_below hb);exact⟨v,(EM M w).at_ w',rfl,rfl,h1 _,q1,q2⟩⟩
theorem zhs{s:ByteArray}{n:Int}(h:S.oneN s n=true):s=S.lit [0]/\n=64:=by
 unfold S.oneN at h;rw[jae] at h;exact⟨jbe h.1,jbe h.2⟩
theorem zh2:S.blank.size=64:=by kernel_rfl
theorem zvk{E:Env}(s:ByteArray)(n:Int){us:List Value}{y:ByteArray × Unit}(hy:cond (S.oneN s n) (some (S.blank,())) none=some y)(hv:VRs E [.str s,.int .i64 n] us) :
  ∃v,(∀E':Env,VR E' (.str y.1) v)/\Calls Tryz.prog 90 us.toArray E.w fun e w'=>e=.returned v/\Below E.w.heap.size E.w w':=by
 obtain⟨hk,rfl⟩:=qa5 hy;obtain⟨rfl,rfl⟩:=zhs hk;obtain⟨u1,us1,rfl,a1,a2⟩:=hv.inv;obtain⟨u2,us2,rfl,a3,a4⟩:=a2.inv;have e:us2=[]:=by have:=a4.1;simpa using this.symm
 subst e;cases a1;cases a3;refine⟨.string S.blank,fun E'=>.str _ (by rw[zh2];omega),?_⟩;refine(z19 (S.lit [0]) 64 E.w (by omega) (by show 1*64<=_;omega)).mono fun e w' h=>?_;rw[show (⟨(Lib.repeatL (S.lit [0]).data.toList 64).toArray⟩:ByteArray)=S.blank by kernel_rfl] at h;exact h
theorem zgr:Con Tryz.prog 90 zca :=
 zm7 zr2 (fun y=>rfl) fun M w x us y hy hv=>zvk x.1 x.2.1 hy hv
abbrev qqn:Type:=Int × Unit
abbrev zre:Nat:=69
def ze5(lf:Nat)(x1:qad):Option qqn:=(match (cond (S.inI (Int.ofNat x1.1.1.length) (Int.ofNat 0) (Int.ofNat 1000)) (some ((S.half (Int.toNat (Int.ofNat x1.1.1.length)) x1.2.1),())) none) with|none=>none|some v0=>(some ((IntKind.i64.wrap (Int.sub (IntKind.i64.wrap (Int.sub v0.1.2 v0.1.1)) x1.2.2.1)),())))
def qr2(lf:Nat)(x1:qad):Option qqn:=ze5 lf x1
theorem zii{g:ElA [cJournal]->Option qqn}(hsm:SmOK Tryz.prog [(93,qki)])(hg:∀(x:ElA [cJournal]) (y:qqn),WfA [cJournal] x->g x=some y->∃lf,qr2 lf x.1=some y):Con Tryz.prog 69 ⟨[cJournal],[(false,(.int .i64))],g⟩ :=
 conU (fi:=fi69) (hxl:=[]) (fun lf x=>qr2 lf x.1) cm3 zi3 trivial hsm hg
def qkf:Nat->Option Nm:=fun k=>cond (Nat.beq k 6) (some ⟨[0,12,13,14],[],[],[],[],0,0,false⟩) (none)
def qnc:Nat->Bool:=fun k=>cond (Nat.beq k 6) true (false)
def q4w:=qnc
abbrev qc6:Type:=Int × Int × Unit
def zfe:List (Nat × Sm):=[(66,qjv),(56,qm8)]
def zdl:List (Nat × Hx):=[]
def qvf(R:Type)(lf:Nat):ClK R:=qa1 Tryz.prog ttT.get ftT.get (nm1 22 qkf) (smL zfe) (hxL zdl) lf 20 R
abbrev z0f:Nat:=22
def qir(x1:(List qaa))(p:Int):NRes:=(NRes.mk (.node (some (IV.lst cCell x1)) (.node none .leaf (.node none .leaf (.node (some (IV.int .i64 (Int.ofNat x1.length))) .leaf .leaf))) (.node none (.node none .leaf (.node (some (IV.lst cCell x1)) .leaf .leaf)) (.node none .leaf (.node (some (IV.int .i64 p)) .leaf .leaf)))) (IS.mk .leaf 0) [] 0)
def qup(lf:Nat)(x1:(List qaa))(L6:Int->Option qc6):Option qc6:=(cond (iltI (Int.ofNat 60) (Int.ofNat x1.length)) (some ((Int.ofNat 0),((Int.ofNat 3),()))) (cond (ieqI (Int.ofNat x1.length) (Int.ofNat 0)) (some ((Int.ofNat 0),((Int.ofNat 1),()))) (L6 (Int.ofNat 0))))
def ql2(lf:Nat)(x1:(List qaa))(L6:Int->Option qc6)(p:Int):Option qc6:=(cond (iltI p (Int.ofNat x1.length)) (match (jget x1 p) with|none=>none|some v0=>(cond (Bool.not (S.inI v0.1 (Int.ofNat 0) (Int.ofNat 199))) (some ((Int.ofNat 0),((Int.ofNat 1),()))) (cond (iltI (Int.ofNat 4000) (Int.ofNat v0.2.1.size)) (some ((Int.ofNat 0),((Int.ofNat 1),()))) (cond v0.2.2 (cond (Bool.not (keqS v0.2.1 (S.lit []))) (some ((Int.ofNat 0),((Int.ofNat 1),()))) (cond (iltI (Int.ofNat 0) p) (match (jget x1 (IntKind.i64.wrap (Int.sub p (Int.ofNat 1)))) with|none=>none|some v1=>(cond (Bool.not (iltI v1.1 v0.1)) (some ((Int.ofNat 0),((Int.ofNat 1),()))) (L6 (IntKind.i64.wrap (Int.add p (Int.ofNat 1)))))) (L6 (IntKind.i64.wrap (Int.add p (Int.ofNat 1)))))) (cond (iltI (Int.ofNat 0) p) (match (jget x1 (IntKind.i64.wrap (Int.sub p (Int.ofNat 1)))) with|none=>none|some v25=>(cond (Bool.not (iltI v25.1 v0.1)) (some ((Int.ofNat 0),((Int.ofNat 1),()))) (L6 (IntKind.i64.wrap (Int.add p (Int.ofNat 1)))))) (L6 (IntKind.i64.wrap (Int.add p (Int.ofNat 1))))))))) (match (cond (S.pk x1) (some ((S.packed x1 (Int.ofNat 1)),())) none) with|none=>none|some v26=>(some ((Int.ofNat v26.1.length),((Int.ofNat 0),())))))
abbrev gz23:Type:=ElA [(.list cCell)]->Option qc6
abbrev sz23(g:gz23):Sm:=⟨[(.list cCell)],[(false,(.int .i64)),(false,(.int .i64))],g⟩
abbrev Ez23(g:gz23)(J:JT qc6)(lf:Nat)(x1:(List qaa)):=qbh Tryz.prog ttT.get qkf fi22.nt (qvf _ lf) lf qnc J fi22.body [] (qau (argV [(.list cCell)] (x1,())) 0 .leaf) S0 [] (qam ttT.get fi22 (sz23 g))
abbrev Bz23(g:gz23)(J:JT qc6)(lf k:Nat)(ms:List Nat)(q:NRes):=qbm Tryz.prog ttT.get qkf fi22.nt (qvf _ lf) lf qnc J k fi22.body [] ms q (qam ttT.get fi22 (sz23 g))
theorem z0z(g:gz23)(J:JT qc6)(lf:Nat)(x1:(List qaa)):Ez23 g J lf x1=qup lf x1 (fun q=>J 6 [lf] (qir x1 q)):=by kernel_rfl
theorem zlx(g:gz23)(J:JT qc6)(lf:Nat)(x1:(List qaa))(m1:Nat)(p:Int):Bz23 g J lf 6 [m1] (qir x1 p)=ql2 lf x1 (fun q=>J 6 [m1] (qir x1 q)) p:=by kernel_rfl
theorem q1f:(regs fi22.body).Nodup:=by decide +kernel
theorem zci:okC qkf qnc q4w fi22.body none=true:=by kernel_rfl
def Az23(g:gz23)(lf:Nat):JT qc6:=atN Tryz.prog ttT.get qkf fi22 (sz23 g) (qvf _ lf) lf q4w
def qtw(lf:Nat)(x1:(List qaa)):Nat->(Int)->Option qc6:=qaw fun K p=>ql2 lf x1 K p
theorem zai(g:gz23)(lf:Nat)(x1:(List qaa)):∀(n:Nat) (p:Int),Az23 g lf 6 [n] (qir x1 p)=qtw lf x1 n p
 | 0,p=>qba 6 [0] rfl _
 | n+1,p=>by
  have ih:=zai g lf x1 n;refine(qa7 (qa0 20 _) q1f zci 6 [n+1] [n] rfl _).trans ((zlx g (Az23 g lf) lf x1 n p).trans ?_);rw[(show (fun q=>Az23 g lf 6 [n] (qir x1 q))=(fun q=>qtw lf x1 n q) from funext ih)];rfl
def Fz23(lf:Nat)(x1:(List qaa)):Option qc6:=qup lf x1 (fun q=>qtw lf x1 lf q)
theorem zxv(g:gz23)(lf:Nat)(x1:(List qaa)):Ez23 g (Az23 g lf) lf x1=Fz23 lf x1:=by
  refine(z0z g (Az23 g lf) lf x1).trans ?_;rw[(show (fun q=>Az23 g lf 6 [lf] (qir x1 q))=(fun q=>qtw lf x1 lf q) from funext fun q=>zai g lf x1 lf q)];rfl
theorem zj1:qa4 Tryz.prog zdl:=trivial
theorem zrq{g:gz23}(hsm:SmOK Tryz.prog zfe)(hg:∀(x:ElA [(.list cCell)]) (y:qc6),WfA [(.list cCell)] x->g x=some y->∃lf,Fz23 lf x.1=some y):Con Tryz.prog 22 ⟨[(.list cCell)],[(false,(.int .i64)),(false,(.int .i64))],g⟩ :=
 conV (st:=qnc) (fun lf x=>Fz23 lf x.1) cm3 z0c zj1 q1f zci (fun lf x=>zxv g lf x.1) hsm hg
abbrev qr0:Type:=Int × Unit
abbrev zkc:Nat:=65
def q6g(lf:Nat)(x1:qad):Option qr0:=(cond (Bool.not (ieqI (S.checkDisk (x1.1.1,x1.1.2)) (Int.ofNat 0))) (some ((Int.ofNat 1),())) (cond (iltI (Int.ofNat 0) (Int.ofNat x1.1.2.length)) (some ((Int.ofNat 1),())) (match (cond (S.okL (x1.1.1,x1.1.2)) (some ((S.openedJ (x1.1.1,x1.1.2)).1,((S.openedJ (x1.1.1,x1.1.2)).2,()))) none) with|none=>none|some v0=>(cond (Bool.not v0.2.1) (some ((Int.ofNat 1),())) (cond (Bool.not (ieqI v0.1.2.1 x1.2.1)) (some ((Int.ofNat 1),())) (cond (Bool.not (ieqI v0.1.2.2.1 x1.2.2.1)) (some ((Int.ofNat 1),())) (cond (Bool.not (S.sameC v0.1.2.2.2 x1.2.2.2)) (some ((Int.ofNat 1),())) (some ((Int.ofNat 0),())))))))))
def qp1(lf:Nat)(x1:qad):Option qr0:=q6g lf x1
theorem zf3{g:ElA [cJournal]->Option qr0}(hsm:SmOK Tryz.prog [(37,qj2),(61,qg0),(100,q3e)])(hg:∀(x:ElA [cJournal]) (y:qr0),WfA [cJournal] x->g x=some y->∃lf,qp1 lf x.1=some y):Con Tryz.prog 65 ⟨[cJournal],[(false,(.int .i64))],g⟩ :=
 conU (fi:=fi65) (hxl:=[]) (fun lf x=>qp1 lf x.1) cm3 zmw trivial hsm hg
abbrev qs5:Type:=Int × Int × Unit
abbrev zym:Nat:=20
def q57(lf:Nat)(x1:qad):Option qs5:=(cond (Bool.not (ieqI (S.errR ((x1.1.1,x1.1.2),(x1.2.1,(x1.2.2.1,x1.2.2.2)))) (Int.ofNat 0))) (some ((Int.ofNat 0),((S.errR ((x1.1.1,x1.1.2),(x1.2.1,(x1.2.2.1,x1.2.2.2)))),()))) (match (cond (S.smallJ ((x1.1.1,x1.1.2),(x1.2.1,(x1.2.2.1,x1.2.2.2)))) (some ((S.roomOf ((x1.1.1,x1.1.2),(x1.2.1,(x1.2.2.1,x1.2.2.2)))),())) none) with|none=>none|some v0=>(some (v0.1,((Int.ofNat 0),())))))
def qn6(lf:Nat)(x1:qad):Option qs5:=q57 lf x1
theorem zkl{g:ElA [cJournal]->Option qs5}(hsm:SmOK Tryz.prog [(65,qon),(69,qwk)])(hg:∀(x:ElA [cJournal]) (y:qs5),WfA [cJournal] x->g x=some y->∃lf,qn6 lf x.1=some y):Con Tryz.prog 20 ⟨[cJournal],[(false,(.int .i64)),(false,(.int .i64))],g⟩ :=
 conU (fi:=fi20) (hxl:=[]) (fun lf x=>qn6 lf x.1) cm3 z10 trivial hsm hg
abbrev qq4:Type:=Int × Unit
abbrev z1b:Nat:=71
def zc4(lf:Nat)(x1:qad)(x2:(List qaa)):Option qq4:=(cond (Bool.not (ieqI (S.errR ((x1.1.1,x1.1.2),(x1.2.1,(x1.2.2.1,x1.2.2.2)))) (Int.ofNat 0))) (some ((S.errR ((x1.1.1,x1.1.2),(x1.2.1,(x1.2.2.1,x1.2.2.2)))),())) (some ((S.size x2).2,())))
def qqm(lf:Nat)(x1:qad)(x2:(List qaa)):Option qq4:=zc4 lf x1 x2
theorem zpp{g:ElA [cJournal,(.list cCell)]->Option qq4}(hsm:SmOK Tryz.prog [(65,qon),(22,q0r)])(hg:∀(x:ElA [cJournal,(.list cCell)]) (y:qq4),WfA [cJournal,(.list cCell)] x->g x=some y->∃lf,qqm lf x.1 x.2.1=some y):Con Tryz.prog 71 ⟨[cJournal,(.list cCell)],[(false,(.int .i64))],g⟩ :=
 conU (fi:=fi71) (hxl:=[]) (fun lf x=>qqm lf x.1 x.2.1) cm3 zgq trivial hsm hg
def zea:List (Nat × Hx):=[(53,hxR spz8),(55,hxR spz9)]
abbrev qse:Type:=(List DAct) × Bool × Unit
abbrev ztp:Nat:=72
def zfl(lf:Nat)(x1:qad)(x2:(List qaa)):Option qse:=(match (cond (S.pk x2) (some ((S.packed x2 (Int.ofNat 1)),())) none) with|none=>none|some v0=>(match (cond (S.smallJ ((x1.1.1,x1.1.2),(x1.2.1,(x1.2.2.1,x1.2.2.2)))) (some ((S.roomOf ((x1.1.1,x1.1.2),(x1.2.1,(x1.2.2.1,x1.2.2.2)))),())) none) with|none=>none|some v1=>(cond (iltI v1.1 (Int.ofNat v0.1.length)) (some ([],(false,()))) (match (cond (S.inI (Int.ofNat x1.1.1.length) (Int.ofNat 0) (Int.ofNat 1000)) (some ((S.half (Int.toNat (Int.ofNat x1.1.1.length)) x1.2.1),())) none) with|none=>none|some v2=>(match (jget v0.1 (Int.ofNat 0)) with|none=>none|some v3=>(match (GetElem?.getElem? v0.1 0) with|none=>none|some v4=>(match (cond (Decidable.decide (Eq v4.size 64)) (some ((qae (List.cons (Int.ofNat 0) (List.drop 1 (qab v4)))),())) none) with|none=>none|some v5=>(match (cond (Bool.and (S.inI (IntKind.i64.wrap (Int.add v2.1.1 x1.2.2.1)) (Int.ofNat 0) (Int.ofNat 1000000)) true) (some ((),(((S.app [] (S.puts (IntKind.i64.wrap (Int.add v2.1.1 x1.2.2.1)) [v5.1])),()),()))) none) with|none=>none|some v6=>(cond (lchk (Int.ofNat 1) (Int.ofNat v0.1.length) (Int.ofNat v0.1.length) (Int.ofNat v0.1.length)) (match (cond (Bool.and (S.inI (IntKind.i64.wrap (Int.add (IntKind.i64.wrap (Int.add v2.1.1 x1.2.2.1)) (Int.ofNat 1))) (Int.ofNat 0) (Int.ofNat 1000000)) (Bool.and (Nat.ble (List.length (lsub v0.1 (Int.ofNat 1) (Int.ofNat v0.1.length))) 1000000) (Nat.ble (S.lenA v6.2.1.1) 1000000))) (some ((),(((S.app v6.2.1.1 (S.puts (IntKind.i64.wrap (Int.add (IntKind.i64.wrap (Int.add v2.1.1 x1.2.2.1)) (Int.ofNat 1))) (lsub v0.1 (Int.ofNat 1) (Int.ofNat v0.1.length)))),()),()))) none) with|none=>none|some v7=>(cond (iltI (IntKind.i64.wrap (Int.add (IntKind.i64.wrap (Int.add v2.1.1 x1.2.2.1)) (Int.ofNat v0.1.length))) v2.1.2) (match (cond (Bool.and (S.inI (IntKind.i64.wrap (Int.add (IntKind.i64.wrap (Int.add v2.1.1 x1.2.2.1)) (Int.ofNat v0.1.length))) (Int.ofNat 0) (Int.ofNat 1000000)) (Nat.ble (S.lenA v7.2.1.1) 1000000)) (some ((),(((S.app v7.2.1.1 (S.puts (IntKind.i64.wrap (Int.add (IntKind.i64.wrap (Int.add v2.1.1 x1.2.2.1)) (Int.ofNat v0.1.length))) [S.blank])),()),()))) none) with|none=>none|some v8=>(match (cond (Nat.ble (S.lenA v8.2.1.1) 4000000) (some ((),(((S.app v8.2.1.1 [S.sync]),()),()))) none) with|none=>none|some v9=>(match (jget v0.1 (Int.ofNat 0)) with|none=>none|some v10=>(match (cond (Bool.and (S.inI (IntKind.i64.wrap (Int.add v2.1.1 x1.2.2.1)) (Int.ofNat 0) (Int.ofNat 1000000)) (Nat.ble (S.lenA v9.2.1.1) 1000000)) (some ((),(((S.app v9.2.1.1 (S.puts (IntKind.i64.wrap (Int.add v2.1.1 x1.2.2.1)) [v10])),()),()))) none) with|none=>none|some v11=>(match (cond (Nat.ble (S.lenA v11.2.1.1) 4000000) (some ((),(((S.app v11.2.1.1 [S.sync]),()),()))) none) with|none=>none|some v12=>(some (v12.2.1.1,(true,())))))))) (match (cond (Nat.ble (S.lenA v7.2.1.1) 4000000) (some ((),(((S.app v7.2.1.1 [S.sync]),()),()))) none) with|none=>none|some v13=>(match (jget v0.1 (Int.ofNat 0)) with|none=>none|some v14=>(match (cond (Bool.and (S.inI (IntKind.i64.wrap (Int.add v2.1.1 x1.2.2.1)) (Int.ofNat 0) (Int.ofNat 1000000)) (Nat.ble (S.lenA v13.2.1.1) 1000000)) (some ((),(((S.app v13.2.1.1 (S.puts (IntKind.i64.wrap (Int.add v2.1.1 x1.2.2.1)) [v14])),()),()))) none) with|none=>none|some v15=>(match (cond (Nat.ble (S.lenA v15.2.1.1) 4000000) (some ((),(((S.app v15.2.1.1 [S.sync]),()),()))) none) with|none=>none|some v16=>(some (v16.2.1.1,(true,()))))))))) none)))))))))
def qs8(lf:Nat)(x1:qad)(x2:(List qaa)):Option qse:=zfl lf x1 x2
theorem zzd(hrz8:ConR Tryz.prog 53 spz8)(hrz9:ConR Tryz.prog 55 spz9):qa4 Tryz.prog zea:=⟨qfu hrz8,⟨qfu hrz9,trivial⟩⟩
theorem zvc{g:ElA [cJournal,(.list cCell)]->Option qse}(hsm:SmOK Tryz.prog [(56,qm8),(69,qwk),(93,qki),(101,qyn),(54,qrc)])(hrz8:ConR Tryz.prog 53 spz8)(hrz9:ConR Tryz.prog 55 spz9)(hg:∀(x:ElA [cJournal,(.list cCell)]) (y:qse),WfA [cJournal,(.list cCell)] x->g x=some y->∃lf,qs8 lf x.1 x.2.1=some y):Con Tryz.prog 72 ⟨[cJournal,(.list cCell)],[(true,cAct),(false,.bool)],g⟩ :=
 conU (fi:=fi72) (hxl:=zea) (fun lf x=>qs8 lf x.1 x.2.1) cm3 zw6 (zzd hrz8 hrz9) hsm hg
abbrev qsz:Type:=qad × Unit
abbrev zw9:Nat:=74
def q7d(lf:Nat)(x1:qad)(x2:(List DAct)):Option qsz:=(match (cond (S.okL ((S.doD (x1.1.1,x1.1.2) x2).1.1,(S.doD (x1.1.1,x1.1.2) x2).1.2)) (some ((S.openedJ ((S.doD (x1.1.1,x1.1.2) x2).1.1,(S.doD (x1.1.1,x1.1.2) x2).1.2)).1,((S.openedJ ((S.doD (x1.1.1,x1.1.2) x2).1.1,(S.doD (x1.1.1,x1.1.2) x2).1.2)).2,()))) none) with|none=>none|some v0=>(some (((v0.1.1.1,v0.1.1.2),(v0.1.2.1,(v0.1.2.2.1,v0.1.2.2.2))),())))
def qra(lf:Nat)(x1:qad)(x2:(List DAct)):Option qsz:=q7d lf x1 x2
theorem zmt{g:ElA [cJournal,(.list cAct)]->Option qsz}(hsm:SmOK Tryz.prog [(32,qwh),(61,qg0)])(hg:∀(x:ElA [cJournal,(.list cAct)]) (y:qsz),WfA [cJournal,(.list cAct)] x->g x=some y->∃lf,qra lf x.1 x.2.1=some y):Con Tryz.prog 74 ⟨[cJournal,(.list cAct)],[(false,cJournal)],g⟩ :=
 conU (fi:=fi74) (hxl:=[]) (fun lf x=>qra lf x.1 x.2.1) cm3 ztl trivial hsm hg
abbrev qpp:Type:=(List DAct) × Int × Unit
abbrev ztv:Nat:=24
def q9k(lf:Nat)(x1:qad)(x2:(List qaa)):Option qpp:=(cond (Bool.not (ieqI (S.asked ((x1.1.1,x1.1.2),(x1.2.1,(x1.2.2.1,x1.2.2.2))) x2) (Int.ofNat 0))) (some ([],((S.asked ((x1.1.1,x1.1.2),(x1.2.1,(x1.2.2.1,x1.2.2.2))) x2),()))) (match (cond (S.comG ((x1.1.1,x1.1.2),(x1.2.1,(x1.2.2.1,x1.2.2.2))) x2) (some ((S.actsB (S.commit ((x1.1.1,x1.1.2),(x1.2.1,(x1.2.2.1,x1.2.2.2))) x2)).1,((S.actsB (S.commit ((x1.1.1,x1.1.2),(x1.2.1,(x1.2.2.1,x1.2.2.2))) x2)).2,()))) none) with|none=>none|some v0=>(cond (Bool.not v0.2.1) (some ([],((Int.ofNat 14),()))) (some (v0.1,((Int.ofNat 0),()))))))
def qpa(lf:Nat)(x1:qad)(x2:(List qaa)):Option qpp:=q9k lf x1 x2
theorem zug{g:ElA [cJournal,(.list cCell)]->Option qpp}(hsm:SmOK Tryz.prog [(71,qxw),(72,quh)])(hg:∀(x:ElA [cJournal,(.list cCell)]) (y:qpp),WfA [cJournal,(.list cCell)] x->g x=some y->∃lf,qpa lf x.1 x.2.1=some y):Con Tryz.prog 24 ⟨[cJournal,(.list cCell)],[(true,cAct),(false,(.int .i64))],g⟩ :=
 conU (fi:=fi24) (hxl:=[]) (fun lf x=>qpa lf x.1 x.2.1) cm3 zz3 trivial hsm hg
abbrev qpg:Type:=qad × Int × Unit
abbrev zqj:Nat:=26
def zb9(lf:Nat)(x1:qad)(x2:(List qaa)):Option qpg:=(cond (Bool.not (ieqI (S.plan ((x1.1.1,x1.1.2),(x1.2.1,(x1.2.2.1,x1.2.2.2))) x2).2 (Int.ofNat 0))) (some ((([],[]),((Int.ofNat 0),((Int.ofNat 0),[]))),((S.plan ((x1.1.1,x1.1.2),(x1.2.1,(x1.2.2.1,x1.2.2.2))) x2).2,()))) (match (cond (S.behG ((x1.1.1,x1.1.2),(x1.2.1,(x1.2.2.1,x1.2.2.2))) (S.plan ((x1.1.1,x1.1.2),(x1.2.1,(x1.2.2.1,x1.2.2.2))) x2).1) (some ((S.behind ((x1.1.1,x1.1.2),(x1.2.1,(x1.2.2.1,x1.2.2.2))) (S.plan ((x1.1.1,x1.1.2),(x1.2.1,(x1.2.2.1,x1.2.2.2))) x2).1).1,())) none) with|none=>none|some v0=>(some (((v0.1.1.1,v0.1.1.2),(v0.1.2.1,(v0.1.2.2.1,v0.1.2.2.2))),((Int.ofNat 0),())))))
def qqp(lf:Nat)(x1:qad)(x2:(List qaa)):Option qpg:=zb9 lf x1 x2
theorem ztz{g:ElA [cJournal,(.list cCell)]->Option qpg}(hsm:SmOK Tryz.prog [(24,q18),(74,qtd)])(hg:∀(x:ElA [cJournal,(.list cCell)]) (y:qpg),WfA [cJournal,(.list cCell)] x->g x=some y->∃lf,qqp lf x.1 x.2.1=some y):Con Tryz.prog 26 ⟨[cJournal,(.list cCell)],[(false,cJournal),(false,(.int .i64))],g⟩ :=
 conU (fi:=fi26) (hxl:=[]) (fun lf x=>qqp lf x.1 x.2.1) cm3 zzk trivial hsm hg
abbrev qs7:Type:=(List DAct) × Int × Unit
abbrev zk1:Nat:=39
def q7w(lf:Nat)(x1:qad):Option qs7:=(cond (Bool.not (ieqI (S.errR ((x1.1.1,x1.1.2),(x1.2.1,(x1.2.2.1,x1.2.2.2)))) (Int.ofNat 0))) (some ([],((S.errR ((x1.1.1,x1.1.2),(x1.2.1,(x1.2.2.1,x1.2.2.2)))),()))) (match (cond (S.turG ((x1.1.1,x1.1.2),(x1.2.1,(x1.2.2.1,x1.2.2.2)))) (some ((S.actsB (S.turn ((x1.1.1,x1.1.2),(x1.2.1,(x1.2.2.1,x1.2.2.2))))).1,((S.actsB (S.turn ((x1.1.1,x1.1.2),(x1.2.1,(x1.2.2.1,x1.2.2.2))))).2,()))) none) with|none=>none|some v0=>(cond (Bool.not v0.2.1) (some ([],((Int.ofNat 14),()))) (some (v0.1,((Int.ofNat 0),()))))))
def qsa(lf:Nat)(x1:qad):Option qs7:=q7w lf x1
theorem zy9{g:ElA [cJournal]->Option qs7}(hsm:SmOK Tryz.prog [(65,qon),(88,qvl)])(hg:∀(x:ElA [cJournal]) (y:qs7),WfA [cJournal] x->g x=some y->∃lf,qsa lf x.1=some y):Con Tryz.prog 39 ⟨[cJournal],[(true,cAct),(false,(.int .i64))],g⟩ :=
 conU (fi:=fi39) (hxl:=[]) (fun lf x=>qsa lf x.1) cm3 zjf trivial hsm hg
abbrev qrl:Type:=qad × Int × Unit
abbrev zij:Nat:=41
def za4(lf:Nat)(x1:qad):Option qrl:=(cond (Bool.not (ieqI (S.planTurn ((x1.1.1,x1.1.2),(x1.2.1,(x1.2.2.1,x1.2.2.2)))).2 (Int.ofNat 0))) (some ((([],[]),((Int.ofNat 0),((Int.ofNat 0),[]))),((S.planTurn ((x1.1.1,x1.1.2),(x1.2.1,(x1.2.2.1,x1.2.2.2)))).2,()))) (match (cond (S.behG ((x1.1.1,x1.1.2),(x1.2.1,(x1.2.2.1,x1.2.2.2))) (S.planTurn ((x1.1.1,x1.1.2),(x1.2.1,(x1.2.2.1,x1.2.2.2)))).1) (some ((S.behind ((x1.1.1,x1.1.2),(x1.2.1,(x1.2.2.1,x1.2.2.2))) (S.planTurn ((x1.1.1,x1.1.2),(x1.2.1,(x1.2.2.1,x1.2.2.2)))).1).1,())) none) with|none=>none|some v0=>(some (((v0.1.1.1,v0.1.1.2),(v0.1.2.1,(v0.1.2.2.1,v0.1.2.2.2))),((Int.ofNat 0),())))))
def qok(lf:Nat)(x1:qad):Option qrl:=za4 lf x1
theorem z04{g:ElA [cJournal]->Option qrl}(hsm:SmOK Tryz.prog [(39,qv4),(74,qtd)])(hg:∀(x:ElA [cJournal]) (y:qrl),WfA [cJournal] x->g x=some y->∃lf,qok lf x.1=some y):Con Tryz.prog 41 ⟨[cJournal],[(false,cJournal),(false,(.int .i64))],g⟩ :=
 conU (fi:=fi41) (hxl:=[]) (fun lf x=>qok lf x.1) cm3 zpx trivial hsm hg
abbrev qsi:Type:=qad × Int × Unit
abbrev zv3:Nat:=43
def q26(lf:Nat)(x1:qad)(x2:(List qaa)):Option qsi:=(cond (Bool.not (ieqI (S.asked ((x1.1.1,x1.1.2),(x1.2.1,(x1.2.2.1,x1.2.2.2))) x2) (Int.ofNat 0))) (some ((([],[]),((Int.ofNat 0),((Int.ofNat 0),[]))),((S.asked ((x1.1.1,x1.1.2),(x1.2.1,(x1.2.2.1,x1.2.2.2))) x2),()))) (match (cond (S.comG ((x1.1.1,x1.1.2),(x1.2.1,(x1.2.2.1,x1.2.2.2))) x2) (some ((S.actsB (S.commit ((x1.1.1,x1.1.2),(x1.2.1,(x1.2.2.1,x1.2.2.2))) x2)).1,((S.actsB (S.commit ((x1.1.1,x1.1.2),(x1.2.1,(x1.2.2.1,x1.2.2.2))) x2)).2,()))) none) with|none=>none|some v0=>(cond v0.2.1 (match (cond (S.behG ((x1.1.1,x1.1.2),(x1.2.1,(x1.2.2.1,x1.2.2.2))) v0.1) (some ((S.behind ((x1.1.1,x1.1.2),(x1.2.1,(x1.2.2.1,x1.2.2.2))) v0.1).1,())) none) with|none=>none|some v1=>(some (((v1.1.1.1,v1.1.1.2),(v1.1.2.1,(v1.1.2.2.1,v1.1.2.2.2))),((Int.ofNat 0),())))) (match (cond (S.turG ((x1.1.1,x1.1.2),(x1.2.1,(x1.2.2.1,x1.2.2.2)))) (some ((S.actsB (S.turn ((x1.1.1,x1.1.2),(x1.2.1,(x1.2.2.1,x1.2.2.2))))).1,((S.actsB (S.turn ((x1.1.1,x1.1.2),(x1.2.1,(x1.2.2.1,x1.2.2.2))))).2,()))) none) with|none=>none|some v2=>(cond (Bool.not v2.2.1) (some ((([],[]),((Int.ofNat 0),((Int.ofNat 0),[]))),((Int.ofNat 14),()))) (match (cond (S.behG ((x1.1.1,x1.1.2),(x1.2.1,(x1.2.2.1,x1.2.2.2))) v2.1) (some ((S.behind ((x1.1.1,x1.1.2),(x1.2.1,(x1.2.2.1,x1.2.2.2))) v2.1).1,())) none) with|none=>none|some v3=>(match (cond (S.comG ((v3.1.1.1,v3.1.1.2),(v3.1.2.1,(v3.1.2.2.1,v3.1.2.2.2))) x2) (some ((S.actsB (S.commit ((v3.1.1.1,v3.1.1.2),(v3.1.2.1,(v3.1.2.2.1,v3.1.2.2.2))) x2)).1,((S.actsB (S.commit ((v3.1.1.1,v3.1.1.2),(v3.1.2.1,(v3.1.2.2.1,v3.1.2.2.2))) x2)).2,()))) none) with|none=>none|some v4=>(cond (Bool.not v4.2.1) (some ((([],[]),((Int.ofNat 0),((Int.ofNat 0),[]))),((Int.ofNat 14),()))) (match (cond (S.behG ((v3.1.1.1,v3.1.1.2),(v3.1.2.1,(v3.1.2.2.1,v3.1.2.2.2))) v4.1) (some ((S.behind ((v3.1.1.1,v3.1.1.2),(v3.1.2.1,(v3.1.2.2.1,v3.1.2.2.2))) v4.1).1,())) none) with|none=>none|some v5=>(some (((v5.1.1.1,v5.1.1.2),(v5.1.2.1,(v5.1.2.2.1,v5.1.2.2.2))),((Int.ofNat 0),()))))))))))))
def qs2(lf:Nat)(x1:qad)(x2:(List qaa)):Option qsi:=q26 lf x1 x2
theorem zk7{g:ElA [cJournal,(.list cCell)]->Option qsi}(hsm:SmOK Tryz.prog [(71,qxw),(72,quh),(88,qvl),(74,qtd)])(hg:∀(x:ElA [cJournal,(.list cCell)]) (y:qsi),WfA [cJournal,(.list cCell)] x->g x=some y->∃lf,qs2 lf x.1 x.2.1=some y):Con Tryz.prog 43 ⟨[cJournal,(.list cCell)],[(false,cJournal),(false,(.int .i64))],g⟩ :=
 conU (fi:=fi43) (hxl:=[]) (fun lf x=>qs2 lf x.1 x.2.1) cm3 zvf trivial hsm hg
abbrev qr8:Type:=qad × Int × Unit
abbrev znr:Nat:=13
def zaz(lf:Nat)(x1:qac):Option qr8:=(cond (Bool.not (ieqI (S.checkDisk (x1.1,x1.2)) (Int.ofNat 0))) (some ((([],[]),((Int.ofNat 0),((Int.ofNat 0),[]))),((S.checkDisk (x1.1,x1.2)),()))) (cond (iltI (Int.ofNat 0) (Int.ofNat x1.2.length)) (some ((([],[]),((Int.ofNat 0),((Int.ofNat 0),[]))),((Int.ofNat 12),()))) (match (cond (S.okL (x1.1,x1.2)) (some ((S.openedJ (x1.1,x1.2)).1,((S.openedJ (x1.1,x1.2)).2,()))) none) with|none=>none|some v0=>(cond (Bool.not v0.2.1) (some ((([],[]),((Int.ofNat 0),((Int.ofNat 0),[]))),((Int.ofNat 15),()))) (some (((v0.1.1.1,v0.1.1.2),(v0.1.2.1,(v0.1.2.2.1,v0.1.2.2.2))),((Int.ofNat 0),())))))))
def qnv(lf:Nat)(x1:qac):Option qr8:=zaz lf x1
theorem zyf{g:ElA [qag]->Option qr8}(hsm:SmOK Tryz.prog [(37,qj2),(61,qg0)])(hg:∀(x:ElA [qag]) (y:qr8),WfA [qag] x->g x=some y->∃lf,qnv lf x.1=some y):Con Tryz.prog 13 ⟨[qag],[(false,cJournal),(false,(.int .i64))],g⟩ :=
 conU (fi:=fi13) (hxl:=[]) (fun lf x=>qnv lf x.1) cm3 zzx trivial hsm hg
end Go.Proofs.YtnhmanoiolfapaaGreat
end

section
namespace Go.Jx
open Go Go.Sx Go.RowKit
end Go.Jx
end

section
namespace Go.Jx
open Go Go.Sx Go.RowKit
def omap{α β:Type}(f:α->β):Option α->Option β
 | none=>none
 | some a=>some (f a)
def hxG(a:Hx):Hx:=⟨fun cl vs S=>omap (igc S) (a.f cl vs S),fun clP R vs S kk=>a.k clP R vs S fun r=>kk (igc S r),fun cl clP h R vs S kk=>by
 rw[a.eq cl clP h R vs S];cases a.f cl vs S<;>rfl⟩
theorem zth{P:Program}{f:Nat}{a:Hx}(ha:HxOK P f a.f):HxOK P f (hxG a).f:=by
 have inv:∀{cl vs S r},(hxG a).f cl vs S=some r->∃q,a.f cl vs S=some q/\r=igc S q:=by
  intro cl vs S r hr;have hr:omap (igc S) (a.f cl vs S)=some r:=hr;cases hq:a.f cl vs S with
  | none=>rw[hq] at hr;cases hr
  | some q=>rw[hq] at hr;cases hr;exact⟨q,rfl,rfl⟩
 refine⟨fun cl h1 h2 h3 vs S r hr T E us p hrd hwr hv=>?_,fun cl h1 vs S r hr=>?_,fun cl h1 vs S r hr hw hl=>?_⟩
 ·obtain⟨q,hq,rfl⟩:=inv hr;obtain⟨T',p',t1,t2,hback⟩:=zc6 p hrd hwr;obtain⟨c1,c2⟩:=ha.fn cl h1 h2 h3 vs S q hq T' E us p' t1 t2 hv;exact⟨c1,c2.mono fun e w h=>hback e w h⟩
 ·obtain⟨q,hq,rfl⟩:=inv hr;exact za7 (ha.fr cl h1 vs S q hq)
 ·obtain⟨q,hq,rfl⟩:=inv hr;exact q5i hw hl
end Go.Jx
end

noncomputable section
set_option maxRecDepth 100000
namespace Go.Proofs.YtnhmanoiolfapaaGreat
open Go Go.Sx Go.RowKit Go.Jx
def q96:List (Nat × Hx):=[(55,hxR spz9),(53,hxG (hxR spz8))]
abbrev qot:Type:=(List DAct) × Bool × Unit
abbrev zkf:Nat:=88
def ze9(lf:Nat)(x1:qad):Option qot:=(match (cond (S.pk x1.2.2.2) (some ((S.packed x1.2.2.2 (Int.ofNat 1)),())) none) with|none=>none|some v0=>(match (cond (S.inI (Int.ofNat x1.1.1.length) (Int.ofNat 0) (Int.ofNat 1000)) (some ((S.half (Int.toNat (Int.ofNat x1.1.1.length)) (IntKind.i64.wrap (Int.sub (Int.ofNat 1) x1.2.1))),())) none) with|none=>none|some v1=>(cond (iltI (IntKind.i64.wrap (Int.sub v1.1.2 v1.1.1)) (Int.ofNat v0.1.length)) (some ([],(false,()))) (match (cond (S.inI (IntKind.i64.wrap (Int.sub v1.1.2 v1.1.1)) (Int.ofNat 0) (Int.ofNat 1000)) (some ((List.replicate (Int.toNat (IntKind.i64.wrap (Int.sub v1.1.2 v1.1.1))) (S.lit [0,0,0,0,0,0,0,0,0,0,0,0,0,0,0,0,0,0,0,0,0,0,0,0,0,0,0,0,0,0,0,0,0,0,0,0,0,0,0,0,0,0,0,0,0,0,0,0,0,0,0,0,0,0,0,0,0,0,0,0,0,0,0,0])),())) none) with|none=>none|some v2=>(match (cond (Bool.and (S.inI v1.1.1 (Int.ofNat 0) (Int.ofNat 1000000)) (Bool.and (Nat.ble v2.1.length 1000000) true)) (some ((),(((S.app [] (S.puts v1.1.1 v2.1)),()),()))) none) with|none=>none|some v3=>(match (cond (Nat.ble (S.lenA v3.2.1.1) 4000000) (some ((),(((S.app v3.2.1.1 [S.sync]),()),()))) none) with|none=>none|some v4=>(match (jget v0.1 (Int.ofNat 0)) with|none=>none|some v5=>(match (GetElem?.getElem? v0.1 0) with|none=>none|some v6=>(match (cond (Decidable.decide (Eq v6.size 64)) (some ((qae (List.cons (Int.ofNat 0) (List.drop 1 (qab v6)))),())) none) with|none=>none|some v7=>(match (cond (Bool.and (S.inI v1.1.1 (Int.ofNat 0) (Int.ofNat 1000000)) (Nat.ble (S.lenA v4.2.1.1) 1000000)) (some ((),(((S.app v4.2.1.1 (S.puts v1.1.1 [v7.1])),()),()))) none) with|none=>none|some v8=>(cond (lchk (Int.ofNat 1) (Int.ofNat v0.1.length) (Int.ofNat v0.1.length) (Int.ofNat v0.1.length)) (match (cond (Bool.and (S.inI (IntKind.i64.wrap (Int.add v1.1.1 (Int.ofNat 1))) (Int.ofNat 0) (Int.ofNat 1000000)) (Bool.and (Nat.ble (List.length (lsub v0.1 (Int.ofNat 1) (Int.ofNat v0.1.length))) 1000000) (Nat.ble (S.lenA v8.2.1.1) 1000000))) (some ((),(((S.app v8.2.1.1 (S.puts (IntKind.i64.wrap (Int.add v1.1.1 (Int.ofNat 1))) (lsub v0.1 (Int.ofNat 1) (Int.ofNat v0.1.length)))),()),()))) none) with|none=>none|some v9=>(match (cond (Nat.ble (S.lenA v9.2.1.1) 4000000) (some ((),(((S.app v9.2.1.1 [S.sync]),()),()))) none) with|none=>none|some v10=>(match (jget v0.1 (Int.ofNat 0)) with|none=>none|some v11=>(match (cond (Bool.and (S.inI v1.1.1 (Int.ofNat 0) (Int.ofNat 1000000)) (Nat.ble (S.lenA v10.2.1.1) 1000000)) (some ((),(((S.app v10.2.1.1 (S.puts v1.1.1 [v11])),()),()))) none) with|none=>none|some v12=>(match (cond (Nat.ble (S.lenA v12.2.1.1) 4000000) (some ((),(((S.app v12.2.1.1 [S.sync]),()),()))) none) with|none=>none|some v13=>(match (cond (Bool.and (S.inI (Int.ofNat 0) (Int.ofNat 0) (Int.ofNat 1000000)) (Nat.ble (S.lenA v13.2.1.1) 1000000)) (some ((),(((S.app v13.2.1.1 (S.puts (Int.ofNat 0) (List.cons (ByteArray.append (ByteArray.mk (Array.mk (List.cons (UInt8.ofBitVec (BitVec.ofFin (Fin.mk (Nat.mod (Int.toNat (IntKind.u8.wrap (IntKind.i64.wrap (Int.sub (Int.ofNat 1) x1.2.1)))) 256) (jc7 (Int.toNat (IntKind.u8.wrap (IntKind.i64.wrap (HSub.hSub (OfNat.ofNat 1) (x1,()).1.2.1)))) (BitVec.ofNat._proof_1 (OfNat.ofNat 8)))))) []))) (S.lit [0,0,0,0,0,0,0,0,0,0,0,0,0,0,0,0,0,0,0,0,0,0,0,0,0,0,0,0,0,0,0,0,0,0,0,0,0,0,0,0,0,0,0,0,0,0,0,0,0,0,0,0,0,0,0,0,0,0,0,0,0,0,0])) []))),()),()))) none) with|none=>none|some v14=>(match (cond (Nat.ble (S.lenA v14.2.1.1) 4000000) (some ((),(((S.app v14.2.1.1 [S.sync]),()),()))) none) with|none=>none|some v15=>(some (v15.2.1.1,(true,())))))))))) none)))))))))))
def qn2(lf:Nat)(x1:qad):Option qot:=ze9 lf x1
theorem zsc(hrz9:ConR Tryz.prog 55 spz9):qa4 Tryz.prog q96:=⟨qfu hrz9,⟨zth (qfu q0b),trivial⟩⟩
theorem zxi{g:ElA [cJournal]->Option qot}(hsm:SmOK Tryz.prog [(56,qm8),(93,qki),(101,qyn),(54,zbe),(76,qjc)])(hrz9:ConR Tryz.prog 55 spz9)(hg:∀(x:ElA [cJournal]) (y:qot),WfA [cJournal] x->g x=some y->∃lf,qn2 lf x.1=some y):Con Tryz.prog 88 ⟨[cJournal],[(true,cAct),(false,.bool)],g⟩ :=
 conU (fi:=fi88) (hxl:=q96) (fun lf x=>qn2 lf x.1) cm3 zvj (zsc hrz9) hsm hg
def qmk:Nat->Option Nm:=fun k=>cond (Nat.beq k 4) (some ⟨[0,1,5],[],[],[],[],0,0,false⟩) (none)
def qk8:Nat->Bool:=fun k=>cond (Nat.beq k 4) true (false)
def q5r:=qk8
abbrev qdr:Type:=Bool × Unit
def q4s:List (Nat × Sm):=[]
def q4q:List (Nat × Hx):=[]
def qun(R:Type)(lf:Nat):ClK R:=qa1 Tryz.prog ttT.get ftT.get (nm1 50 qmk) (smL q4s) (hxL q4q) lf 20 R
abbrev zxw:Nat:=50
def qjl(x1:(List qaa))(x2:(List qaa))(p:Int):NRes:=(NRes.mk (.node (some (IV.lst cCell x1)) (.node (some (IV.lst cCell x2)) .leaf (.node (some (IV.int .i64 p)) .leaf .leaf)) .leaf) (IS.mk .leaf 0) [] 0)
def qzf(lf:Nat)(x1:(List qaa))(x2:(List qaa))(L4:Int->Option qdr):Option qdr:=(cond (Bool.not (ieqI (Int.ofNat x1.length) (Int.ofNat x2.length))) (some (false,())) (L4 (Int.ofNat 0)))
def qqz(lf:Nat)(x1:(List qaa))(x2:(List qaa))(L4:Int->Option qdr)(p:Int):Option qdr:=(cond (iltI p (Int.ofNat x1.length)) (match (jget x1 p) with|none=>none|some v0=>(match (jget x2 p) with|none=>none|some v1=>(cond (Bool.not (Bool.and (keqI v0.1 v1.1) (Bool.and (keqS v0.2.1 v1.2.1) (Bool.and (keqB v0.2.2 v1.2.2) true)))) (some (false,())) (L4 (IntKind.i64.wrap (Int.add p (Int.ofNat 1))))))) (some (true,())))
abbrev gz24:Type:=ElA [(.list cCell),(.list cCell)]->Option qdr
abbrev sz24(g:gz24):Sm:=⟨[(.list cCell),(.list cCell)],[(false,.bool)],g⟩
abbrev Ez24(g:gz24)(J:JT qdr)(lf:Nat)(x1:(List qaa))(x2:(List qaa)):=qbh Tryz.prog ttT.get qmk fi50.nt (qun _ lf) lf qk8 J fi50.body [] (qau (argV [(.list cCell),(.list cCell)] (x1,x2,())) 0 .leaf) S0 [] (qam ttT.get fi50 (sz24 g))
abbrev Bz24(g:gz24)(J:JT qdr)(lf k:Nat)(ms:List Nat)(q:NRes):=qbm Tryz.prog ttT.get qmk fi50.nt (qun _ lf) lf qk8 J k fi50.body [] ms q (qam ttT.get fi50 (sz24 g))
theorem zz5(g:gz24)(J:JT qdr)(lf:Nat)(x1:(List qaa))(x2:(List qaa)):Ez24 g J lf x1 x2=qzf lf x1 x2 (fun q=>J 4 [lf] (qjl x1 x2 q)):=by kernel_rfl
theorem zm2(g:gz24)(J:JT qdr)(lf:Nat)(x1:(List qaa))(x2:(List qaa))(m1:Nat)(p:Int):Bz24 g J lf 4 [m1] (qjl x1 x2 p)=qqz lf x1 x2 (fun q=>J 4 [m1] (qjl x1 x2 q)) p:=by kernel_rfl
theorem q2y:(regs fi50.body).Nodup:=by decide +kernel
theorem q6n:okC qmk qk8 q5r fi50.body none=true:=by kernel_rfl
def Az24(g:gz24)(lf:Nat):JT qdr:=atN Tryz.prog ttT.get qmk fi50 (sz24 g) (qun _ lf) lf q5r
def qtl(lf:Nat)(x1:(List qaa))(x2:(List qaa)):Nat->(Int)->Option qdr:=qaw fun K p=>qqz lf x1 x2 K p
theorem q2u(g:gz24)(lf:Nat)(x1:(List qaa))(x2:(List qaa)):∀(n:Nat) (p:Int),Az24 g lf 4 [n] (qjl x1 x2 p)=qtl lf x1 x2 n p
 | 0,p=>qba 4 [0] rfl _
 | n+1,p=>by
  have ih:=q2u g lf x1 x2 n;refine(qa7 (qa0 20 _) q2y q6n 4 [n+1] [n] rfl _).trans ((zm2 g (Az24 g lf) lf x1 x2 n p).trans ?_);rw[(show (fun q=>Az24 g lf 4 [n] (qjl x1 x2 q))=(fun q=>qtl lf x1 x2 n q) from funext ih)];rfl
def Fz24(lf:Nat)(x1:(List qaa))(x2:(List qaa)):Option qdr:=qzf lf x1 x2 (fun q=>qtl lf x1 x2 lf q)
theorem zp8(g:gz24)(lf:Nat)(x1:(List qaa))(x2:(List qaa)):Ez24 g (Az24 g lf) lf x1 x2=Fz24 lf x1 x2:=by
  refine(zz5 g (Az24 g lf) lf x1 x2).trans ?_;rw[(show (fun q=>Az24 g lf 4 [lf] (qjl x1 x2 q))=(fun q=>qtl lf x1 x2 lf q) from funext fun q=>q2u g lf x1 x2 lf q)];rfl
theorem zh4:qa4 Tryz.prog q4q:=trivial
theorem zqe{g:gz24}(hsm:SmOK Tryz.prog q4s)(hg:∀(x:ElA [(.list cCell),(.list cCell)]) (y:qdr),WfA [(.list cCell),(.list cCell)] x->g x=some y->∃lf,Fz24 lf x.1 x.2.1=some y):Con Tryz.prog 50 ⟨[(.list cCell),(.list cCell)],[(false,.bool)],g⟩ :=
 conV (st:=qk8) (fun lf x=>Fz24 lf x.1 x.2.1) cm3 zmo zh4 q2y q6n (fun lf x=>zp8 g lf x.1 x.2.1) hsm hg
def qmy:Nat->Option Nm:=fun k=>cond (Nat.beq k 4) (some ⟨[2,3,5],[],[],[],[],0,0,false⟩) (cond (Nat.beq k 9) (some ⟨[2,3,6],[],[],[],[],0,0,false⟩) (none))
def ql1:Nat->Bool:=fun k=>cond (Nat.beq k 4) true (cond (Nat.beq k 9) true (false))
def q48:=ql1
abbrev qb5:Type:=Bool × Unit
def q3d:List (Nat × Sm):=[]
def q69:List (Nat × Hx):=[]
def qvb(R:Type)(lf:Nat):ClK R:=qa1 Tryz.prog ttT.get ftT.get (nm1 36 qmy) (smL q3d) (hxL q69) lf 20 R
abbrev zh9:Nat:=36
def qj0(x1:qac)(x2:qac)(p:Int):NRes:=(NRes.mk (.node none (.node none (.node (some (IV.ptr 1 0)) .leaf .leaf) (.node (some (IV.int .i64 p)) .leaf .leaf)) (.node (some (IV.ptr 0 0)) .leaf .leaf)) (IS.mk (.node (some (IObj.row (List.cons (IV.lst TC.str x1.1) [(IV.lst cPut x1.2)]))) (.node (some (IObj.row (List.cons (IV.lst TC.str x2.1) [(IV.lst cPut x2.2)]))) .leaf .leaf) .leaf) 2) [] 0)
def qi8(x1:qac)(x2:qac)(p:Int):NRes:=(NRes.mk (.node none (.node none (.node (some (IV.ptr 1 0)) .leaf .leaf) .leaf) (.node (some (IV.ptr 0 0)) .leaf (.node (some (IV.int .i64 p)) .leaf .leaf))) (IS.mk (.node (some (IObj.row (List.cons (IV.lst TC.str x1.1) [(IV.lst cPut x1.2)]))) (.node (some (IObj.row (List.cons (IV.lst TC.str x2.1) [(IV.lst cPut x2.2)]))) .leaf .leaf) .leaf) 2) [] 0)
def quv(lf:Nat)(x1:qac)(x2:qac)(L4:Int->Option qb5):Option qb5:=(cond (Bool.not (ieqI (Int.ofNat x1.1.length) (Int.ofNat x2.1.length))) (some (false,())) (cond (Bool.not (ieqI (Int.ofNat x1.2.length) (Int.ofNat x2.2.length))) (some (false,())) (L4 (Int.ofNat 0))))
def qn5(lf:Nat)(x1:qac)(x2:qac)(L4:Int->Option qb5)(L9:Int->Option qb5)(p:Int):Option qb5:=(cond (iltI p (Int.ofNat x1.1.length)) (match (jget x1.1 p) with|none=>none|some v0=>(match (jget x2.1 p) with|none=>none|some v1=>(cond (Bool.not (keqS v0 v1)) (some (false,())) (L4 (IntKind.i64.wrap (Int.add p (Int.ofNat 1))))))) (L9 (Int.ofNat 0)))
def qqi(lf:Nat)(x1:qac)(x2:qac)(L9:Int->Option qb5)(p:Int):Option qb5:=(cond (iltI p (Int.ofNat x1.2.length)) (match (jget x1.2 p) with|none=>none|some v0=>(match (jget x2.2 p) with|none=>none|some v1=>(cond (Bool.not (Bool.and (keqI v0.1 v1.1) (Bool.and (keqS v0.2 v1.2) true))) (some (false,())) (L9 (IntKind.i64.wrap (Int.add p (Int.ofNat 1))))))) (some (true,())))
abbrev gz25:Type:=ElA [qag,qag]->Option qb5
abbrev sz25(g:gz25):Sm:=⟨[qag,qag],[(false,.bool)],g⟩
abbrev Ez25(g:gz25)(J:JT qb5)(lf:Nat)(x1:qac)(x2:qac):=qbh Tryz.prog ttT.get qmy fi36.nt (qvb _ lf) lf ql1 J fi36.body [] (qau (argV [qag,qag] (x1,x2,())) 0 .leaf) S0 [] (qam ttT.get fi36 (sz25 g))
abbrev Bz25(g:gz25)(J:JT qb5)(lf k:Nat)(ms:List Nat)(q:NRes):=qbm Tryz.prog ttT.get qmy fi36.nt (qvb _ lf) lf ql1 J k fi36.body [] ms q (qam ttT.get fi36 (sz25 g))
theorem z1e(g:gz25)(J:JT qb5)(lf:Nat)(x1:qac)(x2:qac):Ez25 g J lf x1 x2=quv lf x1 x2 (fun q=>J 4 [lf] (qj0 x1 x2 q)):=by kernel_rfl
theorem zud(g:gz25)(J:JT qb5)(lf:Nat)(x1:qac)(x2:qac)(m1:Nat)(p:Int):Bz25 g J lf 4 [m1] (qj0 x1 x2 p)=qn5 lf x1 x2 (fun q=>J 4 [m1] (qj0 x1 x2 q)) (fun q=>J 9 [lf] (qi8 x1 x2 q)) p:=by kernel_rfl
theorem zfr(g:gz25)(J:JT qb5)(lf:Nat)(x1:qac)(x2:qac)(m1:Nat)(p:Int):Bz25 g J lf 9 [m1] (qi8 x1 x2 p)=qqi lf x1 x2 (fun q=>J 9 [m1] (qi8 x1 x2 q)) p:=by kernel_rfl
theorem q0k:(regs fi36.body).Nodup:=by decide +kernel
theorem qy7:okC qmy ql1 q48 fi36.body none=true:=by kernel_rfl
def Az25(g:gz25)(lf:Nat):JT qb5:=atN Tryz.prog ttT.get qmy fi36 (sz25 g) (qvb _ lf) lf q48
def qnn(lf:Nat)(x1:qac)(x2:qac):Nat->(Int)->Option qb5:=qaw fun K p=>qqi lf x1 x2 K p
theorem q9u(g:gz25)(lf:Nat)(x1:qac)(x2:qac):∀(n:Nat) (p:Int),Az25 g lf 9 [n] (qi8 x1 x2 p)=qnn lf x1 x2 n p
 | 0,p=>qba 9 [0] rfl _
 | n+1,p=>by
  have ih:=q9u g lf x1 x2 n;refine(qa7 (qa0 20 _) q0k qy7 9 [n+1] [n] rfl _).trans ((zfr g (Az25 g lf) lf x1 x2 n p).trans ?_);rw[(show (fun q=>Az25 g lf 9 [n] (qi8 x1 x2 q))=(fun q=>qnn lf x1 x2 n q) from funext ih)];rfl
def qpi(lf:Nat)(x1:qac)(x2:qac):Nat->(Int)->Option qb5:=qaw fun K p=>qn5 lf x1 x2 K (fun q=>qnn lf x1 x2 lf q) p
theorem zaf(g:gz25)(lf:Nat)(x1:qac)(x2:qac):∀(n:Nat) (p:Int),Az25 g lf 4 [n] (qj0 x1 x2 p)=qpi lf x1 x2 n p
 | 0,p=>qba 4 [0] rfl _
 | n+1,p=>by
  have ih:=zaf g lf x1 x2 n;refine(qa7 (qa0 20 _) q0k qy7 4 [n+1] [n] rfl _).trans ((zud g (Az25 g lf) lf x1 x2 n p).trans ?_);rw[(show (fun q=>Az25 g lf 9 [lf] (qi8 x1 x2 q))=(fun q=>qnn lf x1 x2 lf q) from funext fun q=>q9u g lf x1 x2 lf q),(show (fun q=>Az25 g lf 4 [n] (qj0 x1 x2 q))=(fun q=>qpi lf x1 x2 n q) from funext ih)];rfl
def Fz25(lf:Nat)(x1:qac)(x2:qac):Option qb5:=quv lf x1 x2 (fun q=>qpi lf x1 x2 lf q)
theorem zsa(g:gz25)(lf:Nat)(x1:qac)(x2:qac):Ez25 g (Az25 g lf) lf x1 x2=Fz25 lf x1 x2:=by
  refine(z1e g (Az25 g lf) lf x1 x2).trans ?_;rw[(show (fun q=>Az25 g lf 4 [lf] (qj0 x1 x2 q))=(fun q=>qpi lf x1 x2 lf q) from funext fun q=>zaf g lf x1 x2 lf q)];rfl
theorem zjp:qa4 Tryz.prog q69:=trivial
theorem zg3{g:gz25}(hsm:SmOK Tryz.prog q3d)(hg:∀(x:ElA [qag,qag]) (y:qb5),WfA [qag,qag] x->g x=some y->∃lf,Fz25 lf x.1 x.2.1=some y):Con Tryz.prog 36 ⟨[qag,qag],[(false,.bool)],g⟩ :=
 conV (st:=ql1) (fun lf x=>Fz25 lf x.1 x.2.1) cm3 zk4 zjp q0k qy7 (fun lf x=>zsa g lf x.1 x.2.1) hsm hg
abbrev qsn:Type:=Bool × Unit
abbrev zvp:Nat:=16
def zc3(lf:Nat)(x1:qad)(x2:qad):Option qsn:=(cond (ieqI x1.2.1 x2.2.1) (cond (ieqI x1.2.2.1 x2.2.2.1) (cond (S.sameD (x1.1.1,x1.1.2) (x2.1.1,x2.1.2)) (some ((S.sameC x1.2.2.2 x2.2.2.2),())) (some (false,()))) (some (false,()))) (some (false,())))
def qq5(lf:Nat)(x1:qad)(x2:qad):Option qsn:=zc3 lf x1 x2
theorem zv1{g:ElA [cJournal,cJournal]->Option qsn}(hsm:SmOK Tryz.prog [(36,zds),(50,q73)])(hg:∀(x:ElA [cJournal,cJournal]) (y:qsn),WfA [cJournal,cJournal] x->g x=some y->∃lf,qq5 lf x.1 x.2.1=some y):Con Tryz.prog 16 ⟨[cJournal,cJournal],[(false,.bool)],g⟩ :=
 conU (fi:=fi16) (hxl:=[]) (fun lf x=>qq5 lf x.1 x.2.1) cm3 zo9 trivial hsm hg
def qm3:Nat->Option Nm:=fun k=>cond (Nat.beq k 4) (some ⟨[0,1,5],[],[],[],[],0,0,false⟩) (none)
def qni:Nat->Bool:=fun k=>cond (Nat.beq k 4) true (false)
def q3s:=qni
abbrev qdp:Type:=Bool × Unit
def q41:List (Nat × Sm):=[]
def zde:List (Nat × Hx):=[]
def qv6(R:Type)(lf:Nat):ClK R:=qa1 Tryz.prog ttT.get ftT.get (nm1 15 qm3) (smL q41) (hxL zde) lf 20 R
abbrev zic:Nat:=15
def qjt(x1:qo7)(x2:qo7)(p:Int):NRes:=(NRes.mk (.node (some (IV.lst cAct x1)) (.node (some (IV.lst cAct x2)) .leaf (.node (some (IV.int .i64 p)) .leaf .leaf)) .leaf) (IS.mk .leaf 0) [] 0)
def qt9(lf:Nat)(x1:(List DAct))(x2:(List DAct))(L4:Int->Option qdp):Option qdp:=(cond (Bool.not (ieqI (Int.ofNat x1.length) (Int.ofNat x2.length))) (some (false,())) (L4 (Int.ofNat 0)))
def qte(lf:Nat)(x1:(List DAct))(x2:(List DAct))(L4:Int->Option qdp)(p:Int):Option qdp:=(cond (iltI p (Int.ofNat x1.length)) (match (jget x1 p) with|none=>none|some v0=>(match (jget x2 p) with|none=>none|some v1=>(cond (Bool.not (Bool.and (keqB v0.1 v1.1) (Bool.and (Bool.and (keqI v0.2.1 v1.2.1) (Bool.and (keqS v0.2.2 v1.2.2) true)) true))) (some (false,())) (L4 (IntKind.i64.wrap (Int.add p (Int.ofNat 1))))))) (some (true,())))
abbrev gz26:Type:=ElA [(.list cAct),(.list cAct)]->Option qdp
abbrev sz26(g:gz26):Sm:=⟨[(.list cAct),(.list cAct)],[(false,.bool)],g⟩
abbrev Ez26(g:gz26)(J:JT qdp)(lf:Nat)(x1:(List DAct))(x2:(List DAct)):=qbh Tryz.prog ttT.get qm3 fi15.nt (qv6 _ lf) lf qni J fi15.body [] (qau (argV [(.list cAct),(.list cAct)] (x1,x2,())) 0 .leaf) S0 [] (qam ttT.get fi15 (sz26 g))
abbrev Bz26(g:gz26)(J:JT qdp)(lf k:Nat)(ms:List Nat)(q:NRes):=qbm Tryz.prog ttT.get qm3 fi15.nt (qv6 _ lf) lf qni J k fi15.body [] ms q (qam ttT.get fi15 (sz26 g))
theorem zyc(g:gz26)(J:JT qdp)(lf:Nat)(x1:(List DAct))(x2:(List DAct)):Ez26 g J lf x1 x2=qt9 lf x1 x2 (fun q=>J 4 [lf] (qjt x1 x2 q)):=by kernel_rfl
theorem zh0(g:gz26)(J:JT qdp)(lf:Nat)(x1:(List DAct))(x2:(List DAct))(m1:Nat)(p:Int):Bz26 g J lf 4 [m1] (qjt x1 x2 p)=qte lf x1 x2 (fun q=>J 4 [m1] (qjt x1 x2 q)) p:=by kernel_rfl
theorem q98:(regs fi15.body).Nodup:=by decide +kernel
theorem q4h:okC qm3 qni q3s fi15.body none=true:=by kernel_rfl
def Az26(g:gz26)(lf:Nat):JT qdp:=atN Tryz.prog ttT.get qm3 fi15 (sz26 g) (qv6 _ lf) lf q3s
def qqe(lf:Nat)(x1:(List DAct))(x2:(List DAct)):Nat->(Int)->Option qdp:=qaw fun K p=>qte lf x1 x2 K p
theorem q66(g:gz26)(lf:Nat)(x1:(List DAct))(x2:(List DAct)):∀(n:Nat) (p:Int),Az26 g lf 4 [n] (qjt x1 x2 p)=qqe lf x1 x2 n p
 | 0,p=>qba 4 [0] rfl _
 | n+1,p=>by
  have ih:=q66 g lf x1 x2 n;refine(qa7 (qa0 20 _) q98 q4h 4 [n+1] [n] rfl _).trans ((zh0 g (Az26 g lf) lf x1 x2 n p).trans ?_);rw[(show (fun q=>Az26 g lf 4 [n] (qjt x1 x2 q))=(fun q=>qqe lf x1 x2 n q) from funext ih)];rfl
def Fz26(lf:Nat)(x1:(List DAct))(x2:(List DAct)):Option qdp:=qt9 lf x1 x2 (fun q=>qqe lf x1 x2 lf q)
theorem zhq(g:gz26)(lf:Nat)(x1:(List DAct))(x2:(List DAct)):Ez26 g (Az26 g lf) lf x1 x2=Fz26 lf x1 x2:=by
  refine(zyc g (Az26 g lf) lf x1 x2).trans ?_;rw[(show (fun q=>Az26 g lf 4 [lf] (qjt x1 x2 q))=(fun q=>qqe lf x1 x2 lf q) from funext fun q=>q66 g lf x1 x2 lf q)];rfl
theorem zn9:qa4 Tryz.prog zde:=trivial
theorem zv9{g:gz26}(hsm:SmOK Tryz.prog q41)(hg:∀(x:ElA [(.list cAct),(.list cAct)]) (y:qdp),WfA [(.list cAct),(.list cAct)] x->g x=some y->∃lf,Fz26 lf x.1 x.2.1=some y):Con Tryz.prog 15 ⟨[(.list cAct),(.list cAct)],[(false,.bool)],g⟩ :=
 conV (st:=qni) (fun lf x=>Fz26 lf x.1 x.2.1) cm3 zp4 zn9 q98 q4h (fun lf x=>zhq g lf x.1 x.2.1) hsm hg
abbrev qnx:Type:=Bool × Unit
abbrev zku:Nat:=67
def q53(lf:Nat)(x1:qad):Option qnx:=(cond (ieqI (S.open_ (x1.1.1,x1.1.2)).2 (Int.ofNat 0)) (some ((S.sameJ (((S.open_ (x1.1.1,x1.1.2)).1.1.1,(S.open_ (x1.1.1,x1.1.2)).1.1.2),((S.open_ (x1.1.1,x1.1.2)).1.2.1,((S.open_ (x1.1.1,x1.1.2)).1.2.2.1,(S.open_ (x1.1.1,x1.1.2)).1.2.2.2))) ((x1.1.1,x1.1.2),(x1.2.1,(x1.2.2.1,x1.2.2.2)))),())) (some (false,())))
def qqh(lf:Nat)(x1:qad):Option qnx:=q53 lf x1
theorem zl3{g:ElA [cJournal]->Option qnx}(hsm:SmOK Tryz.prog [(14,spz7),(16,qwd)])(hg:∀(x:ElA [cJournal]) (y:qnx),WfA [cJournal] x->g x=some y->∃lf,qqh lf x.1=some y):Con Tryz.prog 67 ⟨[cJournal],[(false,.bool)],g⟩ :=
 conU (fi:=fi67) (hxl:=[]) (fun lf x=>qqh lf x.1) cm3 z01 trivial hsm hg
def qm0:Nat->Option Nm:=fun k=>cond (Nat.beq k 6) (some ⟨[0,4],[],[],[],[],0,0,false⟩) (none)
def qkv:Nat->Bool:=fun k=>cond (Nat.beq k 6) true (false)
def zao:=qkv
abbrev qcv:Type:=Int × Int × Unit
def zbb:List (Nat × Sm):=[(68,qoq),(60,qoe)]
def q9a:List (Nat × Hx):=[]
def q0o(R:Type)(lf:Nat):ClK R:=qa1 Tryz.prog ttT.get ftT.get (nm1 23 qm0) (smL zbb) (hxL q9a) lf 20 R
abbrev z0u:Nat:=23
def qhz(x1:(List qaa))(p:Int):NRes:=(NRes.mk (.node (some (IV.lst cCell x1)) .leaf (.node none (.node (some (IV.int .i64 p)) .leaf .leaf) .leaf)) (IS.mk .leaf 0) [] 0)
def q0f(lf:Nat)(x1:(List qaa))(L6:Int->Option qcv):Option qcv:=(cond (iltI (Int.ofNat 60) (Int.ofNat x1.length)) (some ((Int.ofNat 0),((Int.ofNat 3),()))) (cond (ieqI (Int.ofNat x1.length) (Int.ofNat 0)) (some ((Int.ofNat 0),((Int.ofNat 1),()))) (L6 (Int.ofNat 0))))
def qlm(lf:Nat)(x1:(List qaa))(L6:Int->Option qcv)(p:Int):Option qcv:=(cond (iltI p (Int.ofNat x1.length)) (match (jget x1 p) with|none=>none|some v0=>(cond (Bool.not (S.inI v0.1 (Int.ofNat 0) (Int.ofNat 199))) (some ((Int.ofNat 0),((Int.ofNat 1),()))) (cond (iltI (Int.ofNat 4000) (Int.ofNat v0.2.1.size)) (some ((Int.ofNat 0),((Int.ofNat 1),()))) (cond v0.2.2 (cond (Bool.not (keqS v0.2.1 (S.lit []))) (some ((Int.ofNat 0),((Int.ofNat 1),()))) (cond (iltI (Int.ofNat 0) p) (match (jget x1 (IntKind.i64.wrap (Int.sub p (Int.ofNat 1)))) with|none=>none|some v1=>(cond (Bool.not (iltI v1.1 v0.1)) (some ((Int.ofNat 0),((Int.ofNat 1),()))) (L6 (IntKind.i64.wrap (Int.add p (Int.ofNat 1)))))) (L6 (IntKind.i64.wrap (Int.add p (Int.ofNat 1)))))) (cond (iltI (Int.ofNat 0) p) (match (jget x1 (IntKind.i64.wrap (Int.sub p (Int.ofNat 1)))) with|none=>none|some v25=>(cond (Bool.not (iltI v25.1 v0.1)) (some ((Int.ofNat 0),((Int.ofNat 1),()))) (L6 (IntKind.i64.wrap (Int.add p (Int.ofNat 1)))))) (L6 (IntKind.i64.wrap (Int.add p (Int.ofNat 1))))))))) (match (cond (S.pkm x1 (Int.ofNat 1)) (some ((S.packed x1 (Int.ofNat 1)),())) none) with|none=>none|some v26=>(some ((Int.ofNat v26.1.length),((Int.ofNat 0),())))))
abbrev gz27:Type:=ElA [(.list cCell)]->Option qcv
abbrev sz27(g:gz27):Sm:=⟨[(.list cCell)],[(false,(.int .i64)),(false,(.int .i64))],g⟩
abbrev Ez27(g:gz27)(J:JT qcv)(lf:Nat)(x1:(List qaa)):=qbh Tryz.prog ttT.get qm0 fi23.nt (q0o _ lf) lf qkv J fi23.body [] (qau (argV [(.list cCell)] (x1,())) 0 .leaf) S0 [] (qam ttT.get fi23 (sz27 g))
abbrev Bz27(g:gz27)(J:JT qcv)(lf k:Nat)(ms:List Nat)(q:NRes):=qbm Tryz.prog ttT.get qm0 fi23.nt (q0o _ lf) lf qkv J k fi23.body [] ms q (qam ttT.get fi23 (sz27 g))
theorem zn1(g:gz27)(J:JT qcv)(lf:Nat)(x1:(List qaa)):Ez27 g J lf x1=q0f lf x1 (fun q=>J 6 [lf] (qhz x1 q)):=by kernel_rfl
theorem zrv(g:gz27)(J:JT qcv)(lf:Nat)(x1:(List qaa))(m1:Nat)(p:Int):Bz27 g J lf 6 [m1] (qhz x1 p)=qlm lf x1 (fun q=>J 6 [m1] (qhz x1 q)) p:=by kernel_rfl
theorem q8x:(regs fi23.body).Nodup:=by decide +kernel
theorem q3g:okC qm0 qkv zao fi23.body none=true:=by kernel_rfl
def Az27(g:gz27)(lf:Nat):JT qcv:=atN Tryz.prog ttT.get qm0 fi23 (sz27 g) (q0o _ lf) lf zao
def qom(lf:Nat)(x1:(List qaa)):Nat->(Int)->Option qcv:=qaw fun K p=>qlm lf x1 K p
theorem q4b(g:gz27)(lf:Nat)(x1:(List qaa)):∀(n:Nat) (p:Int),Az27 g lf 6 [n] (qhz x1 p)=qom lf x1 n p
 | 0,p=>qba 6 [0] rfl _
 | n+1,p=>by
  have ih:=q4b g lf x1 n;refine(qa7 (qa0 20 _) q8x q3g 6 [n+1] [n] rfl _).trans ((zrv g (Az27 g lf) lf x1 n p).trans ?_);rw[(show (fun q=>Az27 g lf 6 [n] (qhz x1 q))=(fun q=>qom lf x1 n q) from funext ih)];rfl
def Fz27(lf:Nat)(x1:(List qaa)):Option qcv:=q0f lf x1 (fun q=>qom lf x1 lf q)
theorem zm8(g:gz27)(lf:Nat)(x1:(List qaa)):Ez27 g (Az27 g lf) lf x1=Fz27 lf x1:=by
  refine(zn1 g (Az27 g lf) lf x1).trans ?_;rw[(show (fun q=>Az27 g lf 6 [lf] (qhz x1 q))=(fun q=>qom lf x1 lf q) from funext fun q=>q4b g lf x1 lf q)];rfl
theorem zub:qa4 Tryz.prog q9a:=trivial
theorem zzs{g:gz27}(hsm:SmOK Tryz.prog zbb)(hg:∀(x:ElA [(.list cCell)]) (y:qcv),WfA [(.list cCell)] x->g x=some y->∃lf,Fz27 lf x.1=some y):Con Tryz.prog 23 ⟨[(.list cCell)],[(false,(.int .i64)),(false,(.int .i64))],g⟩ :=
 conV (st:=qkv) (fun lf x=>Fz27 lf x.1) cm3 zmm zub q8x q3g (fun lf x=>zm8 g lf x.1) hsm hg
abbrev qoh:Type:=Int × Unit
abbrev zsx:Nat:=70
def q1s(lf:Nat)(x1:qad):Option qoh:=(some ((IntKind.i64.wrap (Int.sub (IntKind.i64.wrap (Int.sub (IntKind.i64.wrap (Int.ofNat (Nat.div x1.1.1.length 2))) (Int.ofNat 1))) x1.2.2.1)),()))
def qpu(lf:Nat)(x1:qad):Option qoh:=q1s lf x1
theorem zsd{g:ElA [cJournal]->Option qoh}(hsm:SmOK Tryz.prog [])(hg:∀(x:ElA [cJournal]) (y:qoh),WfA [cJournal] x->g x=some y->∃lf,qpu lf x.1=some y):Con Tryz.prog 70 ⟨[cJournal],[(false,(.int .i64))],g⟩ :=
 conU (fi:=fi70) (hxl:=[]) (fun lf x=>qpu lf x.1) cm3 zpo trivial hsm hg
abbrev qtk:Type:=qh7 × Unit
abbrev zlg:Nat:=25
def q4j(lf:Nat)(x1:qad)(x2:(List qaa)):Option qtk:=(cond (Bool.not (S.right ((x1.1.1,x1.1.2),(x1.2.1,(x1.2.2.1,x1.2.2.2))))) (some (([],(Int.ofNat 1)),())) (cond (Bool.not (ieqI (S.size x2).2 (Int.ofNat 0))) (some (([],(S.size x2).2),())) (match (cond (S.smallJ ((x1.1.1,x1.1.2),(x1.2.1,(x1.2.2.1,x1.2.2.2)))) (some ((S.roomR ((x1.1.1,x1.1.2),(x1.2.1,(x1.2.2.1,x1.2.2.2)))),())) none) with|none=>none|some v0=>(cond (iltI v0.1 (S.size x2).1) (some (([],(Int.ofNat 14)),())) (match (cond (Bool.and (Nat.ble x1.1.1.length 1000) (Decidable.decide (Eq (Nat.mod x1.1.1.length 2) 0))) (some ((S.half x1.1.1.length x1.2.1).1,((S.half x1.1.1.length x1.2.1).2,()))) none) with|none=>none|some v1=>(match (cond (Bool.and (S.pk x2) (Bool.and (S.inI (IntKind.i64.wrap (Int.add v1.1 x1.2.2.1)) (Int.ofNat 0) (Int.ofNat 1000000)) (S.inI v1.2.1 (Int.ofNat 0) (Int.ofNat 1000000)))) (some ((S.laid x2 (IntKind.i64.wrap (Int.add v1.1 x1.2.2.1)) v1.2.1 true),())) none) with|none=>none|some v2=>(some ((v2.1,(Int.ofNat 0)),()))))))))
def qqy(lf:Nat)(x1:qad)(x2:(List qaa)):Option qtk:=q4j lf x1 x2
theorem zgu{g:ElA [cJournal,(.list cCell)]->Option qtk}(hsm:SmOK Tryz.prog [(67,qta),(23,q0c),(70,qzg),(62,qq9),(73,qxi)])(hg:∀(x:ElA [cJournal,(.list cCell)]) (y:qtk),WfA [cJournal,(.list cCell)] x->g x=some y->∃lf,qqy lf x.1 x.2.1=some y):Con Tryz.prog 25 ⟨[cJournal,(.list cCell)],[(false,qem)],g⟩ :=
 conU (fi:=fi25) (hxl:=[]) (fun lf x=>qqy lf x.1 x.2.1) cm3 ztn trivial hsm hg
abbrev qo2:Type:=qg9 × Unit
abbrev zvs:Nat:=75
def zak(lf:Nat)(x1:qad)(x2:qh7):Option qo2:=(cond (Bool.not (ieqI x2.2 (Int.ofNat 0))) (some (((([],[]),((Int.ofNat 0),((Int.ofNat 0),[]))),x2.2),())) (some (((((S.open_ ((S.doD (x1.1.1,x1.1.2) x2.1).1.1,(S.doD (x1.1.1,x1.1.2) x2.1).1.2)).1.1.1,(S.open_ ((S.doD (x1.1.1,x1.1.2) x2.1).1.1,(S.doD (x1.1.1,x1.1.2) x2.1).1.2)).1.1.2),((S.open_ ((S.doD (x1.1.1,x1.1.2) x2.1).1.1,(S.doD (x1.1.1,x1.1.2) x2.1).1.2)).1.2.1,((S.open_ ((S.doD (x1.1.1,x1.1.2) x2.1).1.1,(S.doD (x1.1.1,x1.1.2) x2.1).1.2)).1.2.2.1,(S.open_ ((S.doD (x1.1.1,x1.1.2) x2.1).1.1,(S.doD (x1.1.1,x1.1.2) x2.1).1.2)).1.2.2.2))),(S.open_ ((S.doD (x1.1.1,x1.1.2) x2.1).1.1,(S.doD (x1.1.1,x1.1.2) x2.1).1.2)).2),())))
def qo1(lf:Nat)(x1:qad)(x2:qh7):Option qo2:=zak lf x1 x2
theorem zz8{g:ElA [cJournal,qem]->Option qo2}(hsm:SmOK Tryz.prog [(33,q5p),(14,spz7)])(hg:∀(x:ElA [cJournal,qem]) (y:qo2),WfA [cJournal,qem] x->g x=some y->∃lf,qo1 lf x.1 x.2.1=some y):Con Tryz.prog 75 ⟨[cJournal,qem],[(false,qea)],g⟩ :=
 conU (fi:=fi75) (hxl:=[]) (fun lf x=>qo1 lf x.1 x.2.1) cm3 zjs trivial hsm hg
abbrev qr5:Type:=qg9 × Unit
abbrev zp7:Nat:=27
def zm3(lf:Nat)(x1:qad)(x2:(List qaa)):Option qr5:=(some (((((S.behindA ((x1.1.1,x1.1.2),(x1.2.1,(x1.2.2.1,x1.2.2.2))) ((S.plan ((x1.1.1,x1.1.2),(x1.2.1,(x1.2.2.1,x1.2.2.2))) x2).1,(S.plan ((x1.1.1,x1.1.2),(x1.2.1,(x1.2.2.1,x1.2.2.2))) x2).2)).1.1.1,(S.behindA ((x1.1.1,x1.1.2),(x1.2.1,(x1.2.2.1,x1.2.2.2))) ((S.plan ((x1.1.1,x1.1.2),(x1.2.1,(x1.2.2.1,x1.2.2.2))) x2).1,(S.plan ((x1.1.1,x1.1.2),(x1.2.1,(x1.2.2.1,x1.2.2.2))) x2).2)).1.1.2),((S.behindA ((x1.1.1,x1.1.2),(x1.2.1,(x1.2.2.1,x1.2.2.2))) ((S.plan ((x1.1.1,x1.1.2),(x1.2.1,(x1.2.2.1,x1.2.2.2))) x2).1,(S.plan ((x1.1.1,x1.1.2),(x1.2.1,(x1.2.2.1,x1.2.2.2))) x2).2)).1.2.1,((S.behindA ((x1.1.1,x1.1.2),(x1.2.1,(x1.2.2.1,x1.2.2.2))) ((S.plan ((x1.1.1,x1.1.2),(x1.2.1,(x1.2.2.1,x1.2.2.2))) x2).1,(S.plan ((x1.1.1,x1.1.2),(x1.2.1,(x1.2.2.1,x1.2.2.2))) x2).2)).1.2.2.1,(S.behindA ((x1.1.1,x1.1.2),(x1.2.1,(x1.2.2.1,x1.2.2.2))) ((S.plan ((x1.1.1,x1.1.2),(x1.2.1,(x1.2.2.1,x1.2.2.2))) x2).1,(S.plan ((x1.1.1,x1.1.2),(x1.2.1,(x1.2.2.1,x1.2.2.2))) x2).2)).1.2.2.2))),(S.behindA ((x1.1.1,x1.1.2),(x1.2.1,(x1.2.2.1,x1.2.2.2))) ((S.plan ((x1.1.1,x1.1.2),(x1.2.1,(x1.2.2.1,x1.2.2.2))) x2).1,(S.plan ((x1.1.1,x1.1.2),(x1.2.1,(x1.2.2.1,x1.2.2.2))) x2).2)).2),()))
def q6l(lf:Nat)(x1:qad)(x2:(List qaa)):Option qr5:=zm3 lf x1 x2
theorem zng{g:ElA [cJournal,(.list cCell)]->Option qr5}(hsm:SmOK Tryz.prog [(75,qzd),(25,q5q)])(hg:∀(x:ElA [cJournal,(.list cCell)]) (y:qr5),WfA [cJournal,(.list cCell)] x->g x=some y->∃lf,q6l lf x.1 x.2.1=some y):Con Tryz.prog 27 ⟨[cJournal,(.list cCell)],[(false,qea)],g⟩ :=
 conU (fi:=fi27) (hxl:=[]) (fun lf x=>q6l lf x.1 x.2.1) cm3 zwy trivial hsm hg
def qlh:Nat->Option Nm:=fun k=>cond (Nat.beq k 8) (some ⟨[1,2,3,4,5,6],[(5,cAct)],[],[],[],0,0,false⟩) (none)
def qj6:Nat->Bool:=fun k=>cond (Nat.beq k 8) true (false)
def q56:=qj6
abbrev qde:Type:=qh7 × Unit
def q5d:List (Nat × Sm):=[(67,qta),(62,qq9),(60,qoe),(57,ql7),(58,qzc),(59,qvn),(73,qxi),(89,qza)]
def zch:List (Nat × Hx):=[]
def qzu(R:Type)(lf:Nat):ClK R:=qa1 Tryz.prog ttT.get ftT.get (nm1 40 qlh) (smL q5d) (hxL zch) lf 20 R
abbrev zu0:Nat:=40
def qjy(x1:qad)(p:Int × Int × Int × (List DAct)):NRes:=(NRes.mk (.node none (.node (some (IV.ptr 0 0)) (.node (some (IV.int .i64 p.1)) .leaf .leaf) (.node (some (IV.arr 2)) .leaf .leaf)) (.node (some (IV.ptr 1 0)) (.node (some (IV.int .i64 p.2.1)) .leaf .leaf) (.node (some (IV.int .i64 p.2.2.1)) .leaf .leaf))) (IS.mk (.node (some (IObj.row (List.cons (IV.lst TC.str x1.1.1) (List.cons (IV.lst cPut x1.1.2) (List.cons (IV.int .i64 x1.2.1) (List.cons (IV.int .i64 x1.2.2.1) [(IV.lst cCell x1.2.2.2)])))))) (.node (some (IObj.row (List.cons IV.nilsl [(IV.int .i64 (Int.ofNat 0))]))) .leaf .leaf) (.node (some (IObj.arr cAct p.2.2.2)) .leaf .leaf)) 3) [] 0)
def qvj(lf:Nat)(x1:qad)(L8:(Int × Int × Int × (List DAct))->Option qde):Option qde:=(cond (Bool.not (S.right ((x1.1.1,x1.1.2),(x1.2.1,(x1.2.2.1,x1.2.2.2))))) (some (([],(Int.ofNat 1)),())) (match (cond (Bool.and (Nat.ble x1.1.1.length 1000) (Decidable.decide (Eq (Nat.mod x1.1.1.length 2) 0))) (some ((S.half x1.1.1.length (IntKind.i64.wrap (Int.sub (Int.ofNat 1) x1.2.1))).1,((S.half x1.1.1.length (IntKind.i64.wrap (Int.sub (Int.ofNat 1) x1.2.1))).2,()))) none) with|none=>none|some v0=>(match (cond (S.pkm x1.2.2.2 (Int.ofNat 1)) (some ((S.packed x1.2.2.2 (Int.ofNat 1)),())) none) with|none=>none|some v1=>(cond (iltI (IntKind.i64.wrap (Int.sub v0.2.1 v0.1)) (Int.ofNat v1.1.length)) (some (([],(Int.ofNat 14)),())) (L8 (v0.1,v0.2.1,v0.1,[]))))))
def qjr(lf:Nat)(x1:qad)(L8:(Int × Int × Int × (List DAct))->Option qde)(p:Int × Int × Int × (List DAct)):Option qde:=(cond (iltI p.2.2.1 p.2.1) (match (cond (S.inI (Int.ofNat 64) (Int.ofNat 0) (Int.ofNat 64)) (some ((S.lit [0,0,0,0,0,0,0,0,0,0,0,0,0,0,0,0,0,0,0,0,0,0,0,0,0,0,0,0,0,0,0,0,0,0,0,0,0,0,0,0,0,0,0,0,0,0,0,0,0,0,0,0,0,0,0,0,0,0,0,0,0,0,0,0]),())) none) with|none=>none|some v0=>(cond (Nat.ble (Nat.mul (Nat.add p.2.2.2.length 1) 32) 140737488355328) (L8 (p.1,p.2.1,(IntKind.i64.wrap (Int.add p.2.2.1 (Int.ofNat 1))),(List.append p.2.2.2 (List.cons ((S.put p.2.2.1 v0.1).1,((S.put p.2.2.1 v0.1).2.1,(S.put p.2.2.1 v0.1).2.2)) [])))) none)) (cond (Nat.ble (Nat.mul (Nat.add p.2.2.2.length 1) 32) 140737488355328) (match (cond (Bool.and (S.pk x1.2.2.2) (Bool.and (S.inI p.1 (Int.ofNat 0) (Int.ofNat 1000000)) (S.inI p.2.1 (Int.ofNat 0) (Int.ofNat 1000000)))) (some ((S.laid x1.2.2.2 p.1 p.2.1 false),())) none) with|none=>none|some v26=>(cond (Nat.ble (Nat.mul (Nat.add (List.length (List.append p.2.2.2 [(S.sync.1,(S.sync.2.1,S.sync.2.2))])) v26.1.length) 32) 140737488355328) (match (cond (Bool.and (S.inI (IntKind.i64.wrap (Int.sub (Int.ofNat 1) x1.2.1)) (Int.ofNat 0) (Int.ofNat 16777215)) (S.inI (Int.ofNat 1) (Int.ofNat 0) (Int.ofNat 3))) (some ((qae (S.numB (Int.toNat (IntKind.i64.wrap (Int.sub (Int.ofNat 1) x1.2.1))) 1)),())) none) with|none=>none|some v27=>(match (cond (S.inI (Int.ofNat 63) (Int.ofNat 0) (Int.ofNat 64)) (some ((S.lit [0,0,0,0,0,0,0,0,0,0,0,0,0,0,0,0,0,0,0,0,0,0,0,0,0,0,0,0,0,0,0,0,0,0,0,0,0,0,0,0,0,0,0,0,0,0,0,0,0,0,0,0,0,0,0,0,0,0,0,0,0,0,0]),())) none) with|none=>none|some v28=>(cond (Nat.ble (Nat.succ (Nat.add v27.1.size v28.1.size)) 9223372036854775808) (cond (Nat.ble (Nat.mul (Nat.add (List.length (List.append (List.append p.2.2.2 [(S.sync.1,(S.sync.2.1,S.sync.2.2))]) v26.1)) 2) 32) 140737488355328) (some (((List.append (List.append (List.append p.2.2.2 [(S.sync.1,(S.sync.2.1,S.sync.2.2))]) v26.1) (List.cons ((S.put (Int.ofNat 0) (ByteArray.append v27.1 v28.1)).1,((S.put (Int.ofNat 0) (ByteArray.append v27.1 v28.1)).2.1,(S.put (Int.ofNat 0) (ByteArray.append v27.1 v28.1)).2.2)) [(S.sync.1,(S.sync.2.1,S.sync.2.2))])),(Int.ofNat 0)),())) none) none))) none)) none))
abbrev gz28:Type:=ElA [cJournal]->Option qde
abbrev sz28(g:gz28):Sm:=⟨[cJournal],[(false,qem)],g⟩
abbrev Ez28(g:gz28)(J:JT qde)(lf:Nat)(x1:qad):=qbh Tryz.prog ttT.get qlh fi40.nt (qzu _ lf) lf qj6 J fi40.body [] (qau (argV [cJournal] (x1,())) 0 .leaf) S0 [] (qam ttT.get fi40 (sz28 g))
abbrev Bz28(g:gz28)(J:JT qde)(lf k:Nat)(ms:List Nat)(q:NRes):=qbm Tryz.prog ttT.get qlh fi40.nt (qzu _ lf) lf qj6 J k fi40.body [] ms q (qam ttT.get fi40 (sz28 g))
theorem zp9(g:gz28)(J:JT qde)(lf:Nat)(x1:qad):Ez28 g J lf x1=qvj lf x1 (fun q=>J 8 [lf] (qjy x1 q)):=by kernel_rfl
theorem zlo(g:gz28)(J:JT qde)(lf:Nat)(x1:qad)(m1:Nat)(p:Int × Int × Int × (List DAct)):Bz28 g J lf 8 [m1] (qjy x1 p)=qjr lf x1 (fun q=>J 8 [m1] (qjy x1 q)) p:=by kernel_rfl
theorem q63:(regs fi40.body).Nodup:=by decide +kernel
theorem zb2:okC qlh qj6 q56 fi40.body none=true:=by kernel_rfl
def Az28(g:gz28)(lf:Nat):JT qde:=atN Tryz.prog ttT.get qlh fi40 (sz28 g) (qzu _ lf) lf q56
def qge(lf:Nat)(x1:qad):Nat->(Int × Int × Int × (List DAct))->Option qde:=qaw fun K p=>qjr lf x1 K p
theorem q81(g:gz28)(lf:Nat)(x1:qad):∀(n:Nat) (p:Int × Int × Int × (List DAct)),Az28 g lf 8 [n] (qjy x1 p)=qge lf x1 n p
 | 0,p=>qba 8 [0] rfl _
 | n+1,p=>by
  have ih:=q81 g lf x1 n;refine(qa7 (qa0 20 _) q63 zb2 8 [n+1] [n] rfl _).trans ((zlo g (Az28 g lf) lf x1 n p).trans ?_);rw[(show (fun q=>Az28 g lf 8 [n] (qjy x1 q))=(fun q=>qge lf x1 n q) from funext ih)];rfl
def Fz28(lf:Nat)(x1:qad):Option qde:=qvj lf x1 (fun q=>qge lf x1 lf q)
theorem zq4(g:gz28)(lf:Nat)(x1:qad):Ez28 g (Az28 g lf) lf x1=Fz28 lf x1:=by
  refine(zp9 g (Az28 g lf) lf x1).trans ?_;rw[(show (fun q=>Az28 g lf 8 [lf] (qjy x1 q))=(fun q=>qge lf x1 lf q) from funext fun q=>q81 g lf x1 lf q)];rfl
theorem zxz:qa4 Tryz.prog zch:=trivial
theorem zgo{g:gz28}(hsm:SmOK Tryz.prog q5d)(hg:∀(x:ElA [cJournal]) (y:qde),WfA [cJournal] x->g x=some y->∃lf,Fz28 lf x.1=some y):Con Tryz.prog 40 ⟨[cJournal],[(false,qem)],g⟩ :=
 conV (st:=qj6) (fun lf x=>Fz28 lf x.1) cm3 zjx zxz q63 zb2 (fun lf x=>zq4 g lf x.1) hsm hg
abbrev qq1:Type:=qg9 × Unit
abbrev zvz:Nat:=42
def zws(lf:Nat)(x1:qad):Option qq1:=(some (((((S.behindA ((x1.1.1,x1.1.2),(x1.2.1,(x1.2.2.1,x1.2.2.2))) ((S.planTurn ((x1.1.1,x1.1.2),(x1.2.1,(x1.2.2.1,x1.2.2.2)))).1,(S.planTurn ((x1.1.1,x1.1.2),(x1.2.1,(x1.2.2.1,x1.2.2.2)))).2)).1.1.1,(S.behindA ((x1.1.1,x1.1.2),(x1.2.1,(x1.2.2.1,x1.2.2.2))) ((S.planTurn ((x1.1.1,x1.1.2),(x1.2.1,(x1.2.2.1,x1.2.2.2)))).1,(S.planTurn ((x1.1.1,x1.1.2),(x1.2.1,(x1.2.2.1,x1.2.2.2)))).2)).1.1.2),((S.behindA ((x1.1.1,x1.1.2),(x1.2.1,(x1.2.2.1,x1.2.2.2))) ((S.planTurn ((x1.1.1,x1.1.2),(x1.2.1,(x1.2.2.1,x1.2.2.2)))).1,(S.planTurn ((x1.1.1,x1.1.2),(x1.2.1,(x1.2.2.1,x1.2.2.2)))).2)).1.2.1,((S.behindA ((x1.1.1,x1.1.2),(x1.2.1,(x1.2.2.1,x1.2.2.2))) ((S.planTurn ((x1.1.1,x1.1.2),(x1.2.1,(x1.2.2.1,x1.2.2.2)))).1,(S.planTurn ((x1.1.1,x1.1.2),(x1.2.1,(x1.2.2.1,x1.2.2.2)))).2)).1.2.2.1,(S.behindA ((x1.1.1,x1.1.2),(x1.2.1,(x1.2.2.1,x1.2.2.2))) ((S.planTurn ((x1.1.1,x1.1.2),(x1.2.1,(x1.2.2.1,x1.2.2.2)))).1,(S.planTurn ((x1.1.1,x1.1.2),(x1.2.1,(x1.2.2.1,x1.2.2.2)))).2)).1.2.2.2))),(S.behindA ((x1.1.1,x1.1.2),(x1.2.1,(x1.2.2.1,x1.2.2.2))) ((S.planTurn ((x1.1.1,x1.1.2),(x1.2.1,(x1.2.2.1,x1.2.2.2)))).1,(S.planTurn ((x1.1.1,x1.1.2),(x1.2.1,(x1.2.2.1,x1.2.2.2)))).2)).2),()))
def q2e(lf:Nat)(x1:qad):Option qq1:=zws lf x1
theorem znp{g:ElA [cJournal]->Option qq1}(hsm:SmOK Tryz.prog [(75,qzd),(40,qyk)])(hg:∀(x:ElA [cJournal]) (y:qq1),WfA [cJournal] x->g x=some y->∃lf,q2e lf x.1=some y):Con Tryz.prog 42 ⟨[cJournal],[(false,qea)],g⟩ :=
 conU (fi:=fi42) (hxl:=[]) (fun lf x=>q2e lf x.1) cm3 z1y trivial hsm hg
abbrev qr6:Type:=qg9 × Unit
abbrev z1d:Nat:=44
def q7q(lf:Nat)(x1:qad)(x2:(List qaa)):Option qr6:=(cond (Bool.not (S.right ((x1.1.1,x1.1.2),(x1.2.1,(x1.2.2.1,x1.2.2.2))))) (some (((([],[]),((Int.ofNat 0),((Int.ofNat 0),[]))),(Int.ofNat 1)),())) (cond (Bool.not (ieqI (S.size x2).2 (Int.ofNat 0))) (some (((([],[]),((Int.ofNat 0),((Int.ofNat 0),[]))),(S.size x2).2),())) (match (cond (S.smallJ ((x1.1.1,x1.1.2),(x1.2.1,(x1.2.2.1,x1.2.2.2)))) (some ((S.roomR ((x1.1.1,x1.1.2),(x1.2.1,(x1.2.2.1,x1.2.2.2)))),())) none) with|none=>none|some v0=>(cond (Bool.not (iltI v0.1 (S.size x2).1)) (some (((((S.commitJ ((x1.1.1,x1.1.2),(x1.2.1,(x1.2.2.1,x1.2.2.2))) x2).1.1.1,(S.commitJ ((x1.1.1,x1.1.2),(x1.2.1,(x1.2.2.1,x1.2.2.2))) x2).1.1.2),((S.commitJ ((x1.1.1,x1.1.2),(x1.2.1,(x1.2.2.1,x1.2.2.2))) x2).1.2.1,((S.commitJ ((x1.1.1,x1.1.2),(x1.2.1,(x1.2.2.1,x1.2.2.2))) x2).1.2.2.1,(S.commitJ ((x1.1.1,x1.1.2),(x1.2.1,(x1.2.2.1,x1.2.2.2))) x2).1.2.2.2))),(S.commitJ ((x1.1.1,x1.1.2),(x1.2.1,(x1.2.2.1,x1.2.2.2))) x2).2),())) (cond (Bool.not (ieqI (S.turnJ ((x1.1.1,x1.1.2),(x1.2.1,(x1.2.2.1,x1.2.2.2)))).2 (Int.ofNat 0))) (some (((((S.turnJ ((x1.1.1,x1.1.2),(x1.2.1,(x1.2.2.1,x1.2.2.2)))).1.1.1,(S.turnJ ((x1.1.1,x1.1.2),(x1.2.1,(x1.2.2.1,x1.2.2.2)))).1.1.2),((S.turnJ ((x1.1.1,x1.1.2),(x1.2.1,(x1.2.2.1,x1.2.2.2)))).1.2.1,((S.turnJ ((x1.1.1,x1.1.2),(x1.2.1,(x1.2.2.1,x1.2.2.2)))).1.2.2.1,(S.turnJ ((x1.1.1,x1.1.2),(x1.2.1,(x1.2.2.1,x1.2.2.2)))).1.2.2.2))),(S.turnJ ((x1.1.1,x1.1.2),(x1.2.1,(x1.2.2.1,x1.2.2.2)))).2),())) (some (((((S.commitJ (((S.turnJ ((x1.1.1,x1.1.2),(x1.2.1,(x1.2.2.1,x1.2.2.2)))).1.1.1,(S.turnJ ((x1.1.1,x1.1.2),(x1.2.1,(x1.2.2.1,x1.2.2.2)))).1.1.2),((S.turnJ ((x1.1.1,x1.1.2),(x1.2.1,(x1.2.2.1,x1.2.2.2)))).1.2.1,((S.turnJ ((x1.1.1,x1.1.2),(x1.2.1,(x1.2.2.1,x1.2.2.2)))).1.2.2.1,(S.turnJ ((x1.1.1,x1.1.2),(x1.2.1,(x1.2.2.1,x1.2.2.2)))).1.2.2.2))) x2).1.1.1,(S.commitJ (((S.turnJ ((x1.1.1,x1.1.2),(x1.2.1,(x1.2.2.1,x1.2.2.2)))).1.1.1,(S.turnJ ((x1.1.1,x1.1.2),(x1.2.1,(x1.2.2.1,x1.2.2.2)))).1.1.2),((S.turnJ ((x1.1.1,x1.1.2),(x1.2.1,(x1.2.2.1,x1.2.2.2)))).1.2.1,((S.turnJ ((x1.1.1,x1.1.2),(x1.2.1,(x1.2.2.1,x1.2.2.2)))).1.2.2.1,(S.turnJ ((x1.1.1,x1.1.2),(x1.2.1,(x1.2.2.1,x1.2.2.2)))).1.2.2.2))) x2).1.1.2),((S.commitJ (((S.turnJ ((x1.1.1,x1.1.2),(x1.2.1,(x1.2.2.1,x1.2.2.2)))).1.1.1,(S.turnJ ((x1.1.1,x1.1.2),(x1.2.1,(x1.2.2.1,x1.2.2.2)))).1.1.2),((S.turnJ ((x1.1.1,x1.1.2),(x1.2.1,(x1.2.2.1,x1.2.2.2)))).1.2.1,((S.turnJ ((x1.1.1,x1.1.2),(x1.2.1,(x1.2.2.1,x1.2.2.2)))).1.2.2.1,(S.turnJ ((x1.1.1,x1.1.2),(x1.2.1,(x1.2.2.1,x1.2.2.2)))).1.2.2.2))) x2).1.2.1,((S.commitJ (((S.turnJ ((x1.1.1,x1.1.2),(x1.2.1,(x1.2.2.1,x1.2.2.2)))).1.1.1,(S.turnJ ((x1.1.1,x1.1.2),(x1.2.1,(x1.2.2.1,x1.2.2.2)))).1.1.2),((S.turnJ ((x1.1.1,x1.1.2),(x1.2.1,(x1.2.2.1,x1.2.2.2)))).1.2.1,((S.turnJ ((x1.1.1,x1.1.2),(x1.2.1,(x1.2.2.1,x1.2.2.2)))).1.2.2.1,(S.turnJ ((x1.1.1,x1.1.2),(x1.2.1,(x1.2.2.1,x1.2.2.2)))).1.2.2.2))) x2).1.2.2.1,(S.commitJ (((S.turnJ ((x1.1.1,x1.1.2),(x1.2.1,(x1.2.2.1,x1.2.2.2)))).1.1.1,(S.turnJ ((x1.1.1,x1.1.2),(x1.2.1,(x1.2.2.1,x1.2.2.2)))).1.1.2),((S.turnJ ((x1.1.1,x1.1.2),(x1.2.1,(x1.2.2.1,x1.2.2.2)))).1.2.1,((S.turnJ ((x1.1.1,x1.1.2),(x1.2.1,(x1.2.2.1,x1.2.2.2)))).1.2.2.1,(S.turnJ ((x1.1.1,x1.1.2),(x1.2.1,(x1.2.2.1,x1.2.2.2)))).1.2.2.2))) x2).1.2.2.2))),(S.commitJ (((S.turnJ ((x1.1.1,x1.1.2),(x1.2.1,(x1.2.2.1,x1.2.2.2)))).1.1.1,(S.turnJ ((x1.1.1,x1.1.2),(x1.2.1,(x1.2.2.1,x1.2.2.2)))).1.1.2),((S.turnJ ((x1.1.1,x1.1.2),(x1.2.1,(x1.2.2.1,x1.2.2.2)))).1.2.1,((S.turnJ ((x1.1.1,x1.1.2),(x1.2.1,(x1.2.2.1,x1.2.2.2)))).1.2.2.1,(S.turnJ ((x1.1.1,x1.1.2),(x1.2.1,(x1.2.2.1,x1.2.2.2)))).1.2.2.2))) x2).2),())))))))
def qty(lf:Nat)(x1:qad)(x2:(List qaa)):Option qr6:=q7q lf x1 x2
theorem zxt{g:ElA [cJournal,(.list cCell)]->Option qr6}(hsm:SmOK Tryz.prog [(67,qta),(23,q0c),(70,qzg),(27,zck),(42,qyu)])(hg:∀(x:ElA [cJournal,(.list cCell)]) (y:qr6),WfA [cJournal,(.list cCell)] x->g x=some y->∃lf,qty lf x.1 x.2.1=some y):Con Tryz.prog 44 ⟨[cJournal,(.list cCell)],[(false,qea)],g⟩ :=
 conU (fi:=fi44) (hxl:=[]) (fun lf x=>qty lf x.1 x.2.1) cm3 zr8 trivial hsm hg
theorem qgr{l:List qaa}(h:S.pk l=true)(m:Int):(S.packed l m).length<=20000:=by
 have:=qnt h;rw[qc8];omega
theorem qtr{l:List qaa}(h:S.pk l=true){m:Int}(hm:0<=m/\m<=1):S.pkm l m=true:=by
 unfold S.pkm;rw[h,qav.2 hm];rfl
theorem qi7{α:Type}{l:List α}{d:α}(h:1<=l.length):jget l (Int.ofNat 0)=some (l.getD 0 d):=qm5 (i:=Int.ofNat 0) (d:=d) (jbq _) (by show (0:Int)<(l.length:Int);omega)
theorem get0{α:Type}{l:List α}{d:α}(h:1<=l.length):l[0]?=some (l.getD 0 d):=by
 cases l with
 | nil=>exact absurd h (Nat.not_succ_le_zero 0)
 | cons a l=>rfl
def q3p(l:List qaa)(a e:Int)(b:Bool):List DAct:=cond (b&&decide (a+(S.packed l 1).length<e)) [S.put (a+(S.packed l 1).length) S.blank] []++[S.sync,S.put a ((S.packed l 1).getD 0 S.none_),S.sync]
theorem q23(l:List qaa)(a e:Int)(b:Bool)(hp:S.pk l=true)(ha:S.inI a 0 1000000=true):∀(k f i:Nat) (out:List DAct),i+k=(S.packed l 0).length->k<f->out.length+k<=2000000->qgl LF l a e b f (S.packed l 0,Int.ofNat i,out)=some (out++(S.puts (a+i) ((S.packed l 0).drop i)++q3p l a e b),())
 | 0,f+1,i,out,hi,hf,ho=>by
  obtain⟨h1,h2⟩:=qav.1 ha;have hlen:=qgr hp 0;have hl1:(S.packed l 1).length=(S.packed l 0).length:=by rw[qc8,qc8]
  have hw:IntKind.i64.wrap (Int.add a (Int.ofNat (S.packed l 0).length))=a+((S.packed l 1).length:Int):=by
   rw[hl1];exact wrap_in (by show -_<=a+((S.packed l 0).length:Int)/\a+((S.packed l 0).length:Int)<_;omega)
  have hpos:=qek l 1;show qim LF l a e b (qgl LF l a e b f) _=_;simp only[qim];rw[qa3,jal (by omega),jad,jbo (by omega),hw,qtr hp (m:=Int.ofNat 1) ⟨by decide,by decide⟩,jaa];have hB:∀n:Nat,n<=3000000->Nat.ble (Nat.mul (Nat.add n 3) 32) 140737488355328=true:=fun n hn=>jar (by show (n+3)*32<=_;omega);have j0:jget (S.packed l (Int.ofNat 1)) (Int.ofNat 0)=some ((S.packed l 1).getD 0 S.none_):=qi7 hpos;have g0:(S.packed l (Int.ofNat 1))[0]?=some ((S.packed l 1).getD 0 S.none_):=get0 hpos;have hB2:∀x:DAct,Nat.ble (Nat.mul (Nat.add (List.length (List.append out [x])) 3) 32) 140737488355328=true:=fun x=>hB _ (by simp only[jcs,jah,jas,jaz];omega);simp only[j0,g0,hB out.length (by omega),hB2,jaa];rw[show S.inI (Int.ofNat 64) (Int.ofNat 0) (Int.ofNat 64)=true from rfl,jaa,q0s];simp only[j0,g0,hB2,jaa,qbu];rw[jar (by show (out.length+1)*32<=_;omega),jaa];unfold q3p;cases b with
  | false=>rw[jad,jb7];rfl
  | true =>
   rw[jaa,jbt];cases decide (a+((S.packed l 1).length:Int)<e) with
   | false=>rfl
   | true =>
    simp only[jaa];show some ((out++[_])++_,())=some (out++([]++([_]++_)),());rw[jay,jc1]
 | k+1,f+1,i,out,hi,hf,ho=>by
  obtain⟨h1,h2⟩:=qav.1 ha;have hlen:=qgr hp 0;show qim LF l a e b (qgl LF l a e b f) _=_;simp only[qim];have hg:(S.packed l 0)[Int.toNat (Int.ofNat i)]?=some ((S.packed l 0).getD i S.none_):=by
   show (S.packed l 0)[i]?=_;rw[jai,jac (show i<(S.packed l 0).length by omega)];rfl
  rw[qa3,jaj (by omega),jaa,qm5 (i:=Int.ofNat i) (d:=S.none_) (jbb i) (by show (i:Int)<((S.packed l 0).length:Int);omega),hg];simp only
  rw[jar (by show (out.length+1)*32<=_;omega),jaa,show IntKind.i64.wrap (Int.add (Int.ofNat i) (Int.ofNat 1))=Int.ofNat (i+1) from qa2 (n:=i+1) (by omega),
   show IntKind.i64.wrap (Int.add a (Int.ofNat i))=a+i from wrap_in (by show -_<=a+(i:Int)/\a+(i:Int)<_;omega),
   q23 l a e b hp ha k f (i+1) _ (by omega) (by omega) (by simp only[jcs,jah,jas,jaz];omega),zee (l:=S.packed l 0) (i:=i) (by omega) a]
  show some ((out++[_])++_,())=some (out++(_::_++_),());rw[jay];rfl
theorem zj0(l:List qaa)(a e:Int)(b:Bool)(hp:S.pk l=true)(ha:S.inI a 0 1000000=true):Fz10 LF l a e b=some (S.laid l a e b,()):=by
 have hlen:=qgr hp 0;simp only[Fz10,qzn];rw[qtr hp (m:=Int.ofNat 0) ⟨by decide,by decide⟩,jaa];simp only;refine(q23 l a e b hp ha (S.packed l 0).length LF 0 [] (by omega) (by unfold LF;omega) (by rw[jaz];omega)).trans ?_;rw[jdk,show a+((0:Nat):Int)=a by omega];rfl
theorem q6v:Con Tryz.prog zkh qxi:=zlp ⟨qwo,q7v,q7p,qsl,trivial⟩ fun x y hx h=>⟨LF,by
 obtain⟨h1,h2⟩:=qa5 (show cond (S.pk x.1&&(S.inI x.2.1 0 1000000&&S.inI x.2.2.1 0 1000000)) (some (S.laid x.1 x.2.1 x.2.2.1 x.2.2.2.1,())) none=some y from h);rw[jae,jae] at h1;exact(zj0 x.1 x.2.1 x.2.2.1 x.2.2.2.1 h1.1 h1.2.1).trans (jaw some h2)⟩
theorem zsm:S.packed [] 1=[qae (1::List.replicate 63 0)]:=by kernel_rfl
theorem z0r(lf:Nat)(d:qac):qrt lf d=some ((S.format d).1,(S.format d).2,()):=by
 simp only[qrt,q1q];unfold S.format;show cond (!ieqI (S.checkDisk d) _) _ _=_;by_cases h0:S.checkDisk d=0
 ·rw[qa8 (show S.checkDisk d=Int.ofNat 0 from h0),jav,jad,jan h0,qa3];by_cases h1:d.2.length=0
  ·rw[jal (by omega),jad,jan h1,jaa,show S.pk []=true from rfl,jaa];simp only[show S.packed [] (Int.ofNat 1)=S.packed [] 1 from rfl,zsm];rfl
  ·rw[jaj (by omega),jaa,jao h1];rfl
 ·rw[qa9 (show ¬S.checkDisk d=Int.ofNat 0 from h0),jao h0,jau,jaa]
theorem qje{l:List ByteArray}(h:S.secs l=true):l.length<=1000/\∀s∈l,s.size=64:=by
 unfold S.secs at h;rw[jae,jb4] at h;refine⟨jam h.1,fun s hs=>?_⟩;have:=jc5.1 h.2 s hs;unfold S.short at this;simpa using this
theorem q80{l:List ByteArray}(h:S.secs1 l=true):1<=l.length/\l.length<=1000/\∀s∈l,s.size=64:=by
 unfold S.secs1 at h;rw[jae] at h;exact⟨jam h.1,qje h.2⟩
theorem qfo{l:List ByteArray}{i:Nat}(h:i<l.length):l.getD i S.none_∈l:=by
 rw[jai,jac h];exact jbk h
theorem qrm{s:ByteArray}(h:s.size=64):∃b0 b1 b2 b3 r,qab s=b0::b1::b2::b3::r:=by
 have:=qcc s;rcases hs:qab s with _|⟨b0,_|⟨b1,_|⟨b2,_|⟨b3,r⟩⟩⟩⟩
 case cons.cons.cons.cons=>exact⟨_,_,_,_,_,rfl⟩
 all_goals rw[hs] at this;simp only[jas,jaz] at this;omega
theorem zum(l:List ByteArray)(v:ByteArray):(l++[v]).flatMap qab=l.flatMap qab++qab v:=by simp
theorem ze6(l:List ByteArray)(v:ByteArray):ByteArray.append (qae (l.flatMap qab)) v=qae ((l++[v]).flatMap qab):=by
 rw[zum,<- qck,qe4]
theorem ztk{N:Nat}(h:N<100000000):IntKind.i64.wrap (Int.tdiv (Int.ofNat (N+63)) (Int.ofNat 64))=Int.ofNat ((N+63) / 64):=qa2 (n:=(N+63) / 64) (by omega)
theorem qgu{N:Nat}(h:N<100000000):IntKind.i64.wrap (Int.tdiv (IntKind.i64.wrap (Int.sub (IntKind.i64.wrap (Int.add (Int.ofNat N) (Int.ofNat 64))) (Int.ofNat 1))) (Int.ofNat 64))=Int.ofNat ((N+63) / 64):=by
 rw[show IntKind.i64.wrap (Int.add (Int.ofNat N) (Int.ofNat 64))=Int.ofNat (N+64) from qa2 (n:=N+64) (by omega)];have:Int.sub (Int.ofNat (N+64)) (Int.ofNat 1)=Int.ofNat (N+63):=by
  show ((N+64:Nat):Int)-1=((N+63:Nat):Int);omega
 rw[this,qa2 (n:=N+63) (by omega)];exact ztk h
theorem q8m{b0 b1 b2 b3:Int}{r:List Int}(h:rng (b0::b1::b2::b3::r)):b1*65536+b2*256+b3=((S.recN (b0::b1::b2::b3::r):Nat):Int)/\S.recN (b0::b1::b2::b3::r)<16777216:=by
 have h1:=h b1 (by simp);have h2:=h b2 (by simp);have h3:=h b3 (by simp);have e:S.recN (b0::b1::b2::b3::r)=(b1*65536+b2*256+b3).toNat:=rfl;rw[e];omega
def qgm(l:List Int):Bool:=l.all fun b=>decide (b=0)
theorem qyw(l:List ByteArray)(cells:List qaa)(M:Int)(f:List Int)(hr:rng f)(hf:f.length<=1000000):∀(k F i:Nat) (is:Bool),i+k=f.length->k<F->qf8 LF l F (cells,is,Int.ofNat i,M,qae f)=some ((cells,M,!(is&&qgm (f.drop i))),())
 | 0,F+1,i,is,hi,hF=>by
  show qh5 LF l (qf8 LF l F) _=_;simp only[qh5];rw[qaz,qa3,jal (by omega),jad,jbo (by omega)];cases is<;>rfl
 | k+1,F+1,i,is,hi,hF=>by
  show qh5 LF l (qf8 LF l F) _=_;simp only[qh5];have hlt:i<f.length:=by omega
  rw[qaz,qa3,jaj hlt,jaa,qbi hr,qbo,jac hlt,jby hlt,show IntKind.i64.wrap (Int.add (Int.ofNat i) (Int.ofNat 1))=Int.ofNat (i+1) from qa2 (n:=i+1) (by omega)];simp only;rw[qyw l cells M f hr hf k F (i+1) _ (by omega) (by omega),qyw l cells M f hr hf k F (i+1) _ (by omega) (by omega)];show _=some ((cells,M,!(is&&(decide (f[i]=0)&&qgm (f.drop (i+1))))),());cases is with
  | false=>rfl
  | true =>
   rw[jaa,qcq];rfl
theorem zys(l:List ByteArray)(h:S.secs1 l=true):Fz3 LF l=some (S.readK l,()):=by
 obtain⟨h1,h2,h3⟩:=q80 h;have hs:=h3 _ (qfo (i:=0) (by omega));obtain⟨b0,b1,b2,b3,r,hb⟩:=qrm hs;have hrb:rng (b0::b1::b2::b3::r):=hb▸qdj _;obtain⟨n1,n2⟩:=q8m hrb;have hM:S.recM (b0::b1::b2::b3::r)=(S.recN (b0::b1::b2::b3::r)+4+63) / 64:=rfl;have r1:=hrb b1 (by simp);have r2:=hrb b2 (by simp);have r3:=hrb b3 (by simp);unfold S.readK;simp only[Fz3,qyc,qi7 (d:=S.none_) h1,hb];rw[hM];generalize S.recN (b0::b1::b2::b3::r)=N at n1 n2;have wn:IntKind.i64.wrap (Int.add (IntKind.i64.wrap (Int.add (IntKind.i64.wrap (Int.mul (IntKind.i64.wrap b1) (Int.ofNat 65536))) (IntKind.i64.wrap (Int.mul (IntKind.i64.wrap b2) (Int.ofNat 256))))) (IntKind.i64.wrap b3))=Int.ofNat N:=by
  rw[wrap_in (n:=b1) (by omega),wrap_in (n:=b2) (by omega),wrap_in (n:=b3) (by omega),wrap_in (n:=Int.mul b1 (Int.ofNat 65536)) (by show -_<=b1*65536/\b1*65536<_;omega),wrap_in (n:=Int.mul b2 (Int.ofNat 256)) (by show -_<=b2*256/\b2*256<_;omega),
   wrap_in (n:=Int.add (Int.mul b1 (Int.ofNat 65536)) (Int.mul b2 (Int.ofNat 256))) (by show -_<=b1*65536+b2*256/\b1*65536+b2*256<_;omega)]
  rw[show Int.add (Int.add (Int.mul b1 (Int.ofNat 65536)) (Int.mul b2 (Int.ofNat 256))) b3=Int.ofNat N from n1];exact qa2 (by omega)
 have w4:IntKind.i64.wrap (Int.add (Int.ofNat N) (Int.ofNat 4))=Int.ofNat (N+4):=qa2 (n:=N+4) (by omega);simp only[qbo,jaq,ja2,wn,w4,qgu (N:=N+4) (by omega)];by_cases c0:b0=1
 ·have e0:ieqI b0 (Int.ofNat 1)=true:=qa8 c0;rw[e0,jav,jad];by_cases c1:l.length<(N+4+63) / 64
  ·rw[qco (show Int.ofNat l.length<Int.ofNat ((N+4+63) / 64) from jd0.2 c1),jaa,jan (.inr c1)];rfl
  ·rw[qcu (show ¬Int.ofNat l.length<Int.ofNat ((N+4+63) / 64) from fun h=>c1 (jd0.1 h)),jad,jao (show ¬(¬(b0::b1::b2::b3::r).getD 0 0=1\/l.length<(N+4+63) / 64) from fun h=>h.elim (fun h=>h c0) c1)];obtain⟨M,hMe⟩:∃M,(N+4+63) / 64=M:=⟨_,rfl⟩;rw[hMe] at c1 ⊢;have l1:lchk (Int.ofNat 0) (Int.ofNat M) (Int.ofNat M) (Int.ofNat l.length)=true:=qbv.2 ⟨jbq _,jbb _,jbq _,by show (M:Int)<=(l.length:Int);omega⟩;rw[l1,jaa];have hL:(l.take M).length=M:=by rw[jba,jb1 (by omega)]
   have hfl:∀i,((((l.take M).take i).flatMap qab).length)=64*min i M:=fun i=>by
    rw[qt0 _ fun s hs=>h3 s (jb6 (jb6 hs)),jba,hL]
   refine(range0 (σ:=ByteArray) (R:=Rtz3) (T:=fun K p=>qns LF l K (fun q=>qf8 LF l LF q) p) (l.take M) (fun i s=>(Int.ofNat N,i,s)) (fun i s=>s=qae (((l.take M).take i).flatMap qab)) (fun _ _ _=>some ((match S.changes (N+1) ((((l.take M).flatMap qab).drop 4).take N) (-1) with
     | some c=>(c,(M:Int),!((((l.take M).flatMap qab).drop (4+N)).all fun b=>decide (b=0)))
     | none=>([],(M:Int),true)),())) (by rw[hL];unfold LF;omega) (fun K s hs=>?_) (fun K i v rest s hs r hk=>?_) (S.lit []) rfl).trans rfl
   ·rw[hL,jbn (by rw[hL];exact jat _)] at hs;have hf:=hfl M;rw[Nat.min_self,jbn (by rw[hL];exact jat _)] at hf;have hrf:=qxf (l.take M);simp only[qns,w4,qgu (N:=N+4) (by omega),hMe];rw[show lsub l (Int.ofNat 0) (Int.ofNat M)=l.take M from rfl,qbt,jad,hs];generalize (l.take M).flatMap qab=f at hf hrf;have w4':IntKind.i64.wrap (Int.add (Int.ofNat 4) (Int.ofNat N))=Int.ofNat (4+N):=qa2 (n:=4+N) (by omega);have l2:lchk (Int.ofNat 4) (Int.ofNat (4+N)) (Int.ofNat f.length) (Int.ofNat f.length)=true:=qbv.2 ⟨by decide,by show (4:Int)<=((4+N:Nat):Int);omega,by show ((4+N:Nat):Int)<=((f.length:Nat):Int);omega,jbq _⟩;have hext:ByteArray.extract (qae f) 4 (Int.toNat (Int.ofNat (4+N)))=qae ((f.drop 4).take N):=by
     refine qep ?_;rw[qj4,qbi hrf,qbi (qd7 (qc1 hrf 4) N),jcn];show (f.drop 4).take (4+N-4)=_;rw[ja6]
    have hszN:((f.drop 4).take N).length=N:=by rw[jba,jax,jb1 (by omega)]
    rw[w4',qaz,l2,jaa,hext,qaz,jar (by rw[hszN];omega),jaa];simp only;rw[qyw l _ _ f hrf (by omega) (f.length-(4+N)) LF (4+N) _ (by omega) (by unfold LF;omega)];unfold S.chg;rw[qaz,hszN,qbi (qd7 (qc1 hrf 4) N)];cases S.changes (N+1) ((f.drop 4).take N) (-1)<;>rfl
   ·have hi:=r.lt;rw[hL] at hi;subst hs;have hfi:=hfl i;rw[jb1 (by omega)] at hfi;have hvs:=h3 v (jb6 r.mem);simp only[qns,w4,qgu (N:=N+4) (by omega),hMe];rw[show lsub l (Int.ofNat 0) (Int.ofNat M)=l.take M from rfl,r.ilt,jaa,r.get];simp only;rw[qaz,hfi,hvs,qb0 (by show 64*i+64<_;omega),jaa,r.next,ze6,<- r.take];exact hk _ rfl
 ·have e0:ieqI b0 (Int.ofNat 1)=false:=qa9 c0;rw[e0,jau,jaa,jan (.inl (show ¬(b0::b1::b2::b3::r).getD 0 0=1 from c0))];rfl
theorem zka:Con Tryz.prog idz3 spz3:=mkz3 ⟨z0b,trivial⟩ fun x y hx h=>⟨LF,by
 obtain⟨h1,h2⟩:=qa5 (show cond (S.secs1 x.1) (some (S.readK x.1,())) none=some y from h);exact(zys x.1 h1).trans (jaw some h2)⟩
def recR(n:Int)(out:List qaa):Option (List qaa)->qx5
 | some l=>(out++l,n,false,true)
 | none=>([],0,false,false)
theorem val2{a b:Int}(h:rng [a,b]):S.val (qae [a,b])=a*256+b:=by
 unfold S.val;rw[qbi h];show 256*(256*0+a)+b=_;omega
theorem val3{a b c:Int}(h:rng [a,b,c]):S.val (qae [a,b,c])=a*65536+b*256+c:=by
 unfold S.val;rw[qbi h];show 256*(256*(256*0+a)+b)+c=_;omega
theorem qud{f:List Int}(hr:rng f)(a b:Nat):ByteArray.extract (qae f) a b=qae ((f.drop a).take (b-a)):=by
 refine qep ?_;rw[qj4,qbi hr,qbi (qd7 (qc1 hr a) _),jcn]
theorem qyd(d:qac)(x2 x3:Int)(f:List Int)(n:Nat)(hr:rng f)(hn:n<=f.length)(hf:f.length<=1000000):∀(k F i:Nat) (last:Int) (out:List qaa),n-i<k->k<=F->i<=n->out.length+(n-i)<=3000000->qew LF d x2 x3 F (qae f,Int.ofNat n,Int.ofNat i,last,out)=some (recR (Int.ofNat ((n+63) / 64)) out (S.changes k ((f.drop i).take (n-i)) last),())
 | 0,_,i,last,out,h1,h2,h3,h4=>by omega
 | k+1,0,i,last,out,h1,h2,h3,h4=>by omega
 | k+1,F+1,i,last,out,h1,h2,h3,h4=>by
  show qsh LF d x2 x3 (qew LF d x2 x3 F) _=_;simp only[qsh];rw[qaz,qbi hr,qa3];by_cases c0:i<n
  ·rw[jaj c0,jaa,show IntKind.i64.wrap (Int.add (Int.ofNat i) (Int.ofNat 3))=Int.ofNat (i+3) from qa2 (n:=i+3) (by omega),show IntKind.i64.wrap (Int.add (Int.ofNat i) (Int.ofNat 1))=Int.ofNat (i+1) from qa2 (n:=i+1) (by omega),qa3];by_cases c1:n<i+3
   ·rw[jaj c1,jaa];have hl:((f.drop i).take (n-i)).length=n-i:=by rw[jba,jax,jb1 (by omega)]
    rcases hg:(f.drop i).take (n-i) with _|⟨a,_|⟨b,_|⟨c,r⟩⟩⟩
    ·rw[hg] at hl;simp only[jaz] at hl;omega
    ·rfl
    ·rfl
    ·rw[hg] at hl;simp only[jas] at hl;omega
   ·rw[jal c1,jad];have hl:(f.drop i).length=f.length-i:=jax;rcases hg:f.drop i with _|⟨ky,_|⟨a,_|⟨b,r⟩⟩⟩
    ·rw[hg] at hl;simp only[jaz] at hl;omega
    ·rw[hg] at hl;simp only[jas,jaz] at hl;omega
    ·rw[hg] at hl;simp only[jas,jaz] at hl;omega
    have hrg:rng (ky::a::b::r):=hg▸qc1 hr i;have hd1:f.drop (i+1)=a::b::r:=by rw[<- jcw,hg];rfl
    have hd3:f.drop (i+3)=r:=by rw[<- jcw,hg];rfl
    have hr':rng r:=hd3▸qc1 hr _;have hk:=hrg ky (by simp);have ha:=hrg a (by simp);have hb:=hrg b (by simp);have hrl:r.length=f.length-(i+3):=by rw[<- hd3,jax]
    have hget:f[i]?=some ky:=by
     have:=jbz (xs:=f) (i:=i) (j:=0);rw[hg] at this;exact this.symm
    obtain⟨j,hj⟩:∃j,n-i=j+3:=⟨n-i-3,by omega⟩;have hspec:(ky::a::b::r).take (n-i)=ky::a::b::r.take j:=by rw[hj];rfl
    rw[hspec,qm7,qbo,hget];have l1:lchk (Int.ofNat (i+1)) (Int.ofNat (i+3)) (Int.ofNat f.length) (Int.ofNat f.length)=true:=qbv.2 ⟨jbb _,by show ((i+1:Nat):Int)<=((i+3:Nat):Int);omega,by show ((i+3:Nat):Int)<=(f.length:Int);omega,jbq _⟩;have hext:ByteArray.extract (qae f) (Int.toNat (Int.ofNat (i+1))) (Int.toNat (Int.ofNat (i+3)))=qae [a,b]:=by
     rw[show Int.toNat (Int.ofNat (i+1))=i+1 from rfl,show Int.toNat (Int.ofNat (i+3))=i+3 from rfl,qud hr,hd1,show i+3-(i+1)=2 by omega];rfl
    have hab:rng [a,b]:=fun x hx=>hrg x (by simp only[ja1,jek,jfq] at hx;rcases hx with rfl|rfl<;>simp);have wk:IntKind.i64.wrap ky=ky:=wrap_in (by omega);simp only;rw[l1,jaa,hext,qaz,show Nat.ble [a,b].length 3=true from rfl,jaa,val2 hab];simp only;have hnn:0<=a*256+b/\a*256+b<65536:=by omega
    generalize a*256+b=nn at hnn;have hjl:(r.take j).length=j:=by rw[jba,jb1 (by omega)]
    have hB:Nat.ble (Nat.mul (Nat.add out.length 1) 32) 140737488355328=true:=jar (by show (out.length+1)*32<=_;omega);rw[hjl,wk,hB];simp only[qbu,jaa];by_cases c5:nn=0
    ·rw[qa8 (show nn=Int.ofNat 0 from c5),jaa];by_cases c2:last<ky
     ·rw[jaj c2,jav,jad];by_cases c3:199<ky
      ·rw[jaj (show Int.ofNat 199<ky from c3),jaa,jan (.inl c3)];rfl
      ·rw[jal (show ¬Int.ofNat 199<ky from c3),jad,jao (by omega),jan c5];rw[qyd d x2 x3 f n hr hn hf k F (i+3) ky _ (by omega) (by omega) (by omega) (by simp only[jcs,jah,jas,jaz];omega),hd3,show n-(i+3)=j by omega,jcs];cases S.changes k (r.take j) ky with
       | none=>rfl
       | some l=>show some ((out++[_]++l,_),())=some ((out++_::l,_),());rw[jay];rfl
     ·rw[jal c2,jau,jaa,jan (.inr (.inl (by omega)))];rfl
    ·rw[qa9 (show ¬nn=Int.ofNat 0 from c5),jad];have e1:IntKind.i64.wrap (Int.sub nn (Int.ofNat 1))=nn-1:=wrap_in (by show -_<=nn-1/\nn-1<_;omega);have e2:IntKind.i64.wrap (Int.sub (IntKind.i64.wrap (Int.add (Int.ofNat (i+3)) nn)) (Int.ofNat 1))=Int.ofNat (i+3+(nn-1).toNat):=by
      rw[wrap_in (n:=Int.add (Int.ofNat (i+3)) nn) (by show -_<=((i+3:Nat):Int)+nn/\((i+3:Nat):Int)+nn<_;omega)];have:Int.sub (Int.add (Int.ofNat (i+3)) nn) (Int.ofNat 1)=Int.ofNat (i+3+(nn-1).toNat):=by
       show ((i+3:Nat):Int)+nn-1=((i+3+(nn-1).toNat:Nat):Int);omega
      rw[this];exact qa2 (by omega)
     have e3:IntKind.i64.wrap (Int.add (Int.ofNat (i+3)) (nn-1))=Int.ofNat (i+3+(nn-1).toNat):=by
      have:Int.add (Int.ofNat (i+3)) (nn-1)=Int.ofNat (i+3+(nn-1).toNat):=by
       show ((i+3:Nat):Int)+(nn-1)=((i+3+(nn-1).toNat:Nat):Int);omega
      rw[this];exact qa2 (by omega)
     simp only[e1,e2,e3];by_cases c4:4001<nn
     ·rw[jaj (show Int.ofNat 4000<nn-1 from by show (4000:Int)<_;omega),jaa,jan (.inr (.inr (.inr c4)))];rfl
     rw[jal (show ¬Int.ofNat 4000<nn-1 from by show ¬(4000:Int)<_;omega),jad];by_cases c6:(j:Int)+1<nn
     ·rw[jaj (show Int.ofNat n<Int.ofNat (i+3+(nn-1).toNat) from jd0.2 (by omega)),jaa,jan (.inr (.inr (.inl c6)))];rfl
     have l2:lchk (Int.ofNat (i+3)) (Int.ofNat (i+3+(nn-1).toNat)) (Int.ofNat f.length) (Int.ofNat f.length)=true:=qbv.2 ⟨jbb _,by show ((i+3:Nat):Int)<=((i+3+(nn-1).toNat:Nat):Int);omega,by show ((i+3+(nn-1).toNat:Nat):Int)<=(f.length:Int);omega,jbq _⟩;rw[jal (show ¬Int.ofNat n<Int.ofNat (i+3+(nn-1).toNat) from fun h=>by have:=jd0.1 h;omega),jad,l2,jaa];by_cases c2:last<ky
     ·rw[jaj c2,jav,jad];by_cases c3:199<ky
      ·rw[jaj (show Int.ofNat 199<ky from c3),jaa,jan (.inl c3)];rfl
      ·rw[jal (show ¬Int.ofNat 199<ky from c3),jad,jao (by omega),jao c5]
       rw[show Int.toNat (Int.ofNat (i+3))=i+3 from rfl,show Int.toNat (Int.ofNat (i+3+(nn-1).toNat))=i+3+(nn-1).toNat from rfl,qud hr,hd3,ja6,
        qyd d x2 x3 f n hr hn hf k F (i+3+(nn-1).toNat) ky _ (by omega) (by omega) (by omega) (by simp only[jcs,jah,jas,jaz];omega)]
       have hd:f.drop (i+3+(nn-1).toNat)=r.drop (nn-1).toNat:=by rw[<- jcw,hd3]
       rw[hd,jdw,jb1 (by omega),jd8,show n-(i+3+(nn-1).toNat)=j-(nn-1).toNat by omega,jcs];cases S.changes k ((r.drop (nn-1).toNat).take (j-(nn-1).toNat)) ky with
       | none=>rfl
       | some l=>show some ((out++[_]++l,_),())=some ((out++_::l,_),());rw[jay];rfl
     ·rw[jal c2,jau,jaa,jan (.inr (.inl (by omega)))];rfl
  ·rw[jal c0,jad,show n-i=0 by omega,je2];have e:IntKind.i64.wrap (Int.tdiv (IntKind.i64.wrap (Int.sub (IntKind.i64.wrap (Int.add (Int.ofNat n) (Int.ofNat 64))) (Int.ofNat 1))) (Int.ofNat 64))=Int.ofNat ((n+63) / 64):=qgu (by omega);rw[e];show some ((out,_),())=some ((out++[],_),());rw[jbl]
theorem q7f(d:qac)(x2 x3:Int)(f:List Int)(n:Nat)(hr:rng f)(hf:f.length<=1000000):∀(k F i:Nat),i+k=f.length->k<F->qf4 LF d x2 x3 F (Int.ofNat n,qae f,Int.ofNat i)=cond (qgm (f.drop i)) (qew LF d x2 x3 LF (qae f,Int.ofNat n,Int.ofNat 4,Int.negSucc 0,[])) (some (([],0,false,false),()))
 | 0,F+1,i,hi,hF=>by
  show qhv LF d x2 x3 (qf4 LF d x2 x3 F) (fun q=>qew LF d x2 x3 LF q) _=_;simp only[qhv];rw[qaz,qa3,jal (by omega),jad,jbo (by omega)];rfl
 | k+1,F+1,i,hi,hF=>by
  show qhv LF d x2 x3 (qf4 LF d x2 x3 F) (fun q=>qew LF d x2 x3 LF q) _=_;simp only[qhv];have hlt:i<f.length:=by omega
  rw[qaz,qa3,jaj hlt,jaa,qbi hr,qbo,jac hlt,jby hlt,show IntKind.i64.wrap (Int.add (Int.ofNat i) (Int.ofNat 1))=Int.ofNat (i+1) from qa2 (n:=i+1) (by omega)];simp only;rw[q7f d x2 x3 f n hr hf k F (i+1) (by omega) (by omega),qcq];show _=cond (decide (f[i]=0)&&qgm (f.drop (i+1))) _ _;by_cases e:f[i]=0
  ·rw[jaj e,jaj (show f[i]=Int.ofNat 0 from e),jav,jad,jbt]
  ·rw[jal e,jal (show ¬f[i]=Int.ofNat 0 from e),jau,jaa,jb7,jad];rfl
theorem z1x{d:qac}{a e:Int}(h:S.recG d a e=true):(d.1.length<=1000/\∀s∈d.1,s.size=64)/\(0<=a/\a<e)/\e<=d.1.length:=by
 unfold S.recG at h;rw[jae,jae,qav,qav] at h;exact⟨qje h.1,⟨h.2.1.1,by omega⟩,h.2.2.2⟩
theorem zuh(d:qac)(x2 x3:Int)(h:S.recG d x2 x3=true):Fz5 LF d x2 x3=some (S.recAt d x2 x3,()):=by
 obtain⟨⟨h1,h3⟩,⟨h4,h5⟩,h6⟩:=z1x h;obtain⟨a,rfl⟩:∃a:Nat,x2=Int.ofNat a:=⟨x2.toNat,by show x2=((x2.toNat:Nat):Int);omega⟩;obtain⟨e,rfl⟩:∃e:Nat,x3=Int.ofNat e:=⟨x3.toNat,by show x3=((x3.toNat:Nat):Int);omega⟩;have h5:a<e:=jd0.1 h5;have h6:e<=d.1.length:=Int.ofNat_le.1 h6;have hmem:d.1.getD a S.none_∈d.1:=qfo (by omega);have hs:=h3 _ hmem;obtain⟨b0,b1,b2,b3,r,hb⟩:=qrm hs;have hrb:rng (b0::b1::b2::b3::r):=hb▸qdj _;obtain⟨n1,n2⟩:=q8m hrb;have hM:S.recM (b0::b1::b2::b3::r)=(S.recN (b0::b1::b2::b3::r)+4+63) / 64:=rfl;have hj:jget d.1 (Int.ofNat a)=some (d.1.getD a S.none_):=qm5 (i:=Int.ofNat a) (d:=S.none_) h4 (by show (a:Int)<(d.1.length:Int);omega);have hl0:((d.1.take e).drop a).getD 0 S.none_=d.1.getD a S.none_:=by rw[qy8,jb8,q43 d.1 _ h5]
 have hll:((d.1.take e).drop a).length=e-a:=by rw[jax,jba,jb1 h6]
 have hl3:∀s∈(d.1.take e).drop a,s.size=64:=fun s hs=>h3 s (jb6 (jdo hs));unfold S.recAt S.readR;simp only[Fz5,qxu,hj,show Int.toNat (Int.ofNat a)=a from rfl,show Int.toNat (Int.ofNat e)=e from rfl,hl0,hb,hll];rw[hM];have hext:ByteArray.extract (d.1.getD a S.none_) 1 4=qae [b1,b2,b3]:=by
  rw[<- qe4 (d.1.getD a S.none_),hb,qud hrb];rfl
 have h123:rng [b1,b2,b3]:=fun x hx=>hrb x (by simp only[ja1,jek,jfq] at hx;rcases hx with rfl|rfl|rfl<;>simp);have hsz:(d.1.getD a S.none_).size=(b0::b1::b2::b3::r).length:=by rw[<- qcc,hb]
 rw[hs] at hsz;generalize hNe:S.recN (b0::b1::b2::b3::r)=N at n1 n2;simp only[qbo,jaq,hext,val3 h123,n1];by_cases c0:b0=0
 ·rw[qa8 (show b0=Int.ofNat 0 from c0),jaa,jan (show (b0::b1::b2::b3::r).getD 0 0=0 from c0)];rfl
 rw[qa9 (show ¬b0=Int.ofNat 0 from c0),jad,jao (show ¬(b0::b1::b2::b3::r).getD 0 0=0 from c0)];by_cases c1:b0=1
 ·have l1:lchk (Int.ofNat 1) (Int.ofNat 4) (Int.ofNat (d.1.getD a S.none_).size) (Int.ofNat (d.1.getD a S.none_).size)=true:=by rw[hs];rfl
  rw[qa8 (show b0=Int.ofNat 1 from c1),jav,jad,l1,jaa,qaz,show Nat.ble [b1,b2,b3].length 3=true from rfl,jaa];simp only;have w4:IntKind.i64.wrap (Int.add (Int.ofNat 4) ((N:Nat):Int))=Int.ofNat (N+4):=by
   have:Int.add (Int.ofNat 4) ((N:Nat):Int)=Int.ofNat (N+4):=by
    show (4:Int)+(N:Int)=((N+4:Nat):Int);omega
   rw[this];exact qa2 (by omega)
  rw[w4,qgu (N:=N+4) (by omega)];obtain⟨M,hMe⟩:∃M,(N+4+63) / 64=M:=⟨_,rfl⟩;rw[hMe,show IntKind.i64.wrap (Int.add (Int.ofNat a) (Int.ofNat M))=Int.ofNat (a+M) from qa2 (n:=a+M) (by omega),qa3];by_cases c2:e-a<M
  ·rw[jaj (by omega),jaa,jan (.inr c2)];rfl
  rw[jal (by omega),jad,jao (show ¬(¬(b0::b1::b2::b3::r).getD 0 0=1\/e-a<M) from fun h=>h.elim (fun h=>h c1) c2)];have hL:(((d.1.take e).drop a).take M).length=M:=by rw[jba,hll,jb1 (by omega)]
  have hLg:∀i,i<M->(((d.1.take e).drop a).take M)[i]?=d.1[a+i]?:=fun i hi=>by
   rw[ja3,jan hi,jbz,ja3,jan (by omega)]
  have hL3:∀s∈((d.1.take e).drop a).take M,s.size=64:=fun s hs=>hl3 s (jb6 hs);generalize ((d.1.take e).drop a).take M=L at hL hLg hL3;have hfl:∀i,(((L.take i).flatMap qab).length)=64*min i M:=fun i=>by
   rw[qt0 _ fun s hs=>hL3 s (jb6 hs),jba,hL]
  refine(range0 (σ:=ByteArray) (R:=Rtz5) (T:=fun K p=>qkd LF d (Int.ofNat a) (Int.ofNat e) K (fun q=>qf4 LF d (Int.ofNat a) (Int.ofNat e) LF q) p) L (fun i s=>(Int.ofNat (N+4),i,s)) (fun i s=>s=qae ((L.take i).flatMap qab)) (fun _ _ _=>some ((match (match S.changes (N+1) (((L.flatMap qab).drop 4).take N) (-1) with
    | some c=>(bif qgm ((L.flatMap qab).drop (4+N)) then some (c,M) else none)
    | none=>none) with
   | some x=>(x.1,(x.2:Int),false,true)
   | none=>([],0,false,false)),())) (by rw[hL];unfold LF;omega) (fun K s hs=>?_) (fun K i v rest s hs q hk=>?_) (S.lit []) rfl).trans rfl
  ·rw[jbn (jat _)] at hs;have hf:=hfl M;rw[Nat.min_self,jbn (by rw[hL];exact jat _)] at hf;have hrf:=qxf L;simp only[qkd,qgu (N:=N+4) (by omega),hMe];rw[hL,qbt,jad,hs];generalize L.flatMap qab=f at hf hrf
   rw[q7f d _ _ f (N+4) hrf (by omega) (f.length-(N+4)) LF (N+4) (by omega) (by unfold LF;omega),
    qyd d _ _ f (N+4) hrf (by omega) (by omega) (N+1) LF 4 (Int.negSucc 0) [] (by omega) (by unfold LF;omega) (by omega) (by rw[jaz];omega),hMe,Nat.add_sub_cancel,Nat.add_comm N 4]
   show _=some ((match (match S.changes (N+1) ((f.drop 4).take N) (Int.negSucc 0) with
    | some c=>(bif qgm (f.drop (4+N)) then some (c,M) else none)
    | none=>none) with
   | some x=>(x.1,(x.2:Int),false,true)
   | none=>([],0,false,false)),())
   cases qgm (f.drop (4+N))<;>cases S.changes (N+1) ((f.drop 4).take N) (Int.negSucc 0)<;>rfl
  ·have hi:=q.lt;rw[hL] at hi;subst hs;have hfi:=hfl i;rw[jb1 (by omega)] at hfi;have hvs:=hL3 v q.mem;have hg:=q.get;rw[qbo,hLg i hi] at hg;simp only[qkd,qgu (N:=N+4) (by omega),hMe];rw[qa3,jaj hi,jaa,show IntKind.i64.wrap (Int.add (Int.ofNat a) (Int.ofNat i))=Int.ofNat (a+i) from qa2 (n:=a+i) (by omega),qbo,hg];simp only;rw[qaz,hfi,hvs,qb0 (by show 64*i+64<_;omega),jaa,q.next,ze6,<- q.take];exact hk _ rfl
 ·rw[qa9 (show ¬b0=Int.ofNat 1 from c1),jau,jaa,jan (.inl (show ¬(b0::b1::b2::b3::r).getD 0 0=1 from c1))];rfl
theorem z1j:Con Tryz.prog idz5 spz5:=mkz5 ⟨zx2,trivial⟩ fun x y hx h=>⟨LF,by
 obtain⟨h1,h2⟩:=qa5 (show cond (S.recG x.1 x.2.1 x.2.2.1) (some (S.recAt x.1 x.2.1 x.2.2.1,())) none=some y from h);exact(zuh x.1 x.2.1 x.2.2.1 h1).trans (jaw some h2)⟩
def qpj(d:qac)(h:Int):Option (List qaa × Nat)->qg9
 | some (c,u)=>if u=0 then (S.noJ,15) else ((d,h,(u:Int),c),0)
 | none=>(S.noJ,15)
theorem q0a(d:qac)(h:Int)(c:List qaa)(u:Nat):qpj d h (some (c,u))=if u=0 then (S.noJ,15) else ((d,h,(u:Int),c),0):=rfl
def qml(L:List qaa):Bool:=L.any (·.2.2)
theorem zfn(d:qac)(K12:(Int × Int × Int × Int × List qaa)->Option Rtz7)(h toX:Int)(first at_:Nat)(L:List qaa)(m:Nat)(c:List qaa)(hm:S.mrg c L=true)(hat:at_+m<1000000)(hL:L.length<=1000000):∀(k F i:Nat),i+k=L.length->k<F ->
  qgg LF d K12 F (h,toX,Int.ofNat first,L,(m:Int),false,true,Int.ofNat i,Int.ofNat at_,c)=cond (decide (at_=first)&&qml (L.drop i)) (some ((S.noJ,15),())) (K12 (Int.ofNat first,h,toX,Int.ofNat (at_+m),S.changed c L))
 | k,0,i,h1,h2=>by omega
 | k,F+1,i,h1,h2=>by
  show qsf LF d (qgg LF d K12 F) K12 _=_;simp only[qsf];rw[hm,show IntKind.i64.wrap (Int.add (Int.ofNat at_) ((m:Nat):Int))=Int.ofNat (at_+m) from qa2 (n:=at_+m) (by omega),qa3,qfg];simp only[jaa];by_cases hi:i<L.length
  ·rw[jaj hi,jaa];by_cases e:at_=first
   ·rw[jaj e,jaa,qbo,jac hi,jby hi];simp only;rw[show IntKind.i64.wrap (Int.add (Int.ofNat i) (Int.ofNat 1))=Int.ofNat (i+1) from qa2 (n:=i+1) (by omega),zfn d K12 h toX first at_ L m c hm hat hL (k-1) F (i+1) (by omega) (by omega),jaj e];show _=cond (true&&(L[i].2.2||qml (L.drop (i+1)))) _ _;cases L[i].2.2<;>rfl
   ·rw[jal e,jad,jb7,jad]
  ·rw[jal hi,jad,jbo (by omega)];show _=cond (decide (at_=first)&&false) _ _;rw[jfl,jad]
theorem zlb(d:qac)(a e:Nat):S.recAt d (Int.ofNat a) (Int.ofNat e)=if (qab (d.1.getD a S.none_)).getD 0 0=0 then ([],0,true,true) else match S.readR ((d.1.take e).drop a) with
  | some x=>(x.1,(x.2:Int),false,true)
  | none=>([],0,false,false):=rfl
theorem q86(d:qac)(hl:d.1.length<=1000)(hs:szS d.1)(h:Int)(first toX:Nat)(hto:toX<=d.1.length)(hft:first<toX):∀(k F at_:Nat) (c:List qaa),toX-at_<k->k<=F->first<=at_->at_<=toX->okS c (-1) ->
  qip LF d F (Int.ofNat first,h,Int.ofNat toX,Int.ofNat at_,c)=some (qpj d h (S.recs k ((d.1.take toX).drop at_) c (at_-first)),())
 | 0,_,at_,c,h1,h2,h3,h4,h5=>by omega
 | k+1,0,at_,c,h1,h2,h3,h4,h5=>by omega
 | k+1,F+1,at_,c,h1,h2,h3,h4,h5=>by
  show qst LF d (fun q=>qgg LF d (qip LF d F) LF q) _=_;simp only[qst];have hw:IntKind.i64.wrap (Int.sub (Int.ofNat at_) (Int.ofNat first))=((at_-first:Nat):Int):=by
   have:Int.sub (Int.ofNat at_) (Int.ofNat first)=Int.ofNat (at_-first):=by
    show (at_:Int)-(first:Int)=((at_-first:Nat):Int);omega
   rw[this];exact qa2 (by omega)
  rw[qa3,hw];by_cases c0:at_<toX
  ·have hG:S.recG d (Int.ofNat at_) (Int.ofNat toX)=true:=by
    unfold S.recG S.secs;rw[jae,jae,jae,qav,qav,jb4];refine⟨⟨jar hl,?_⟩,⟨jbb _,by show (at_:Int)<=(toX:Int)-1;omega⟩,jbb _,Int.ofNat_le.2 hto⟩;refine jc5.2 fun s q=>?_;unfold S.short;rw[hs s q];decide
   have hlt:at_<(d.1.take toX).length:=by rw[jba,jb1 hto];exact c0
   have hgd:(d.1.take toX)[at_]=d.1.getD at_ S.none_:=by
    rw[jez,jai,jac (show at_<d.1.length by omega)];rfl
   rw[jaj c0,jaa,show S.recG (d.1,d.2) (Int.ofNat at_) (Int.ofNat toX)=true from hG,jaa];simp only;rw[show S.recAt (d.1,d.2) (Int.ofNat at_) (Int.ofNat toX)=S.recAt d (Int.ofNat at_) (Int.ofNat toX) from rfl,zlb,jby hlt,qfc,hgd];by_cases c1:(qab (d.1.getD at_ S.none_)).getD 0 0=0
   ·rw[jan c1,jan c1];simp only[jav,jad,jaa];rw[qfg];by_cases e:at_=first
    ·rw[jaj e,jaa,show at_-first=0 by omega];rfl
    ·rw[jal e,jad];rw[q0a,jao (by omega)];rfl
   ·rw[jao c1,jao c1];have hsz:szS (d.1.getD at_ S.none_::(d.1.take toX).drop (at_+1)):=by
     rw[<- hgd,<- jby hlt];exact(hs.take toX).drop at_
    have hdr:d.1.getD at_ S.none_::(d.1.take toX).drop (at_+1)=(d.1.take toX).drop at_:=by rw[<- hgd,<- jby hlt]
    cases hx:S.readR (d.1.getD at_ S.none_::(d.1.take toX).drop (at_+1)) with
    | none=>rfl
    | some x =>
     obtain⟨i1,i2,i3,_,_,_⟩:=qt2 hsz hx;have hxl:=qn0 i3;rw[hdr,jax,jba,jb1 hto] at i2;simp only[jav,jad];rw[zfn d _ h (Int.ofNat toX) first at_ x.1 x.2 c (zwj h5 i3) (by omega) (by omega) x.1.length LF 0 (by omega) (by unfold LF;omega),jdk];have e2:decide (at_-first=0)=decide (at_=first):=jdh.2 (by omega);rw[e2];show cond (decide (at_=first)&&qml x.1) _ _=some (qpj d h (cond (decide (at_=first)&&qml x.1) none _),());cases decide (at_=first)&&qml x.1 with
     | true=>rfl
     | false =>
      rw[jad,jad,q86 d hl hs h first toX hto hft k F (at_+x.2) _ (by omega) (by omega) (by omega) (by omega) (qu4 h5 i3),hdr,jcw,show at_+x.2-first=at_-first+x.2 by omega]
  ·rw[jal c0,jad];have:(d.1.take toX).drop at_=[]:=jbo (by rw[jba,jb1 hto];omega);rw[this];show _=some (qpj d h (some (c,at_-first)),());rw[q0a,jao (by omega)];rfl
theorem qwq:S.lit [0,0,0,0,0,0,0,0,0,0,0,0,0,0,0,0,0,0,0,0,0,0,0,0,0,0,0,0,0,0,0,0,0,0,0,0,0,0,0,0,0,0,0,0,0,0,0,0,0,0,0,0,0,0,0,0,0,0,0,0,0,0,0]=qae (List.replicate 63 0):=by kernel_rfl
theorem zj4(d:qac):Fz7 LF d=some (S.open_ d,()):=by
 simp only[Fz7,qzs];unfold S.open_;show cond (ieqI (S.checkDisk d) (Int.ofNat 0)) _ _=_;by_cases h0:S.checkDisk d=0
 ·obtain⟨ok,h8,h2⟩:=qig h0;rw[qa8 (show S.checkDisk d=Int.ofNat 0 from h0),jaa,jan h0,qa3];by_cases h1:d.2.length=0
  ·rw[jal (by omega),jad,jan h1];have hd2:d.2=[]:=ja5.1 h1;have hs64:=ok.sz _ (qfo (i:=0) (show 0<d.1.length by omega));obtain⟨b0,b1,b2,b3,r,hb⟩:=qrm hs64;have hrb:rng (b0::b1::b2::b3::r):=hb▸qdj _;have hb0:=hrb b0 (by simp);have hsz:(d.1.getD 0 S.none_).size=(b0::b1::b2::b3::r).length:=by rw[<- qcc,hb]
   have l1:lchk (Int.ofNat 1) (Int.ofNat (d.1.getD 0 S.none_).size) (Int.ofNat (d.1.getD 0 S.none_).size) (Int.ofNat (d.1.getD 0 S.none_).size)=true:=by rw[hs64];rfl
   have hext:ByteArray.extract (d.1.getD 0 S.none_) 1 (Int.toNat (Int.ofNat (d.1.getD 0 S.none_).size))=qae (b1::b2::b3::r):=by
    show ByteArray.extract (d.1.getD 0 S.none_) 1 (d.1.getD 0 S.none_).size=_;rw[hsz,<- qe4 (d.1.getD 0 S.none_),hb];exact qjx hrb 1
   have hr1:rng (b1::b2::b3::r):=fun x hx=>hrb x (ja8 _ hx);rw[jav,jad];simp only[qi7 (d:=S.none_) (show 1<=d.1.length by omega),hb,qbo,jaq,l1,hext,jaa];rw[show S.inI (Int.ofNat 63) (Int.ofNat 0) (Int.ofNat 64)=true from rfl,jaa];simp only[qwq,q2z,qbi hr1,qbi (qfp 63)];unfold S.opened;rw[hb];simp only[jeq];by_cases q1:1<b0
   ·rw[qco (show Int.ofNat 1<b0 from q1),jaa,jan (.inl q1)];rfl
   rw[qcu (show ¬Int.ofNat 1<b0 from q1),jad];by_cases q2:(b1::b2::b3::r)=List.replicate 63 0
   ·rw[jaj q2,jav,jad,jao (fun hh=>hh.elim q1 (fun hh=>hh q2)),jar ok.le];rw[show (true&&decide (Nat.mod d.1.length 2=0))=true from jaj h2,jaa,wrap_in (n:=b0) (by omega)];simp only;obtain⟨a,e1,e2,e3,_,_⟩:=qgd h2 h8 (h:=b0) (by omega);unfold S.halfS;rw[e1];simp only[jcg];refine(q86 d ok.le ok.sz b0 a (a+(d.1.length / 2-1)) (by omega) (by omega) (d.1.length+1) LF a [] (by omega) (by have:=ok.le;unfold LF;omega) (jat _) (by omega) ⟨rfl,fun c hc=>by cases hc⟩).trans ?_;rw[jdz];cases S.recs (d.1.length+1) ((d.1.take (a+(d.1.length / 2-1))).drop a) [] 0 with
    | none=>rfl
    | some x =>
     obtain⟨c,u⟩:=x;rw[q0a];simp only;by_cases hu:u=0
     ·rw[jan hu,jan hu]
     ·rw[jao hu,jao hu,<- hd2]
   ·rw[jal q2,jau,jaa,jan (.inr q2)];rfl
  ·rw[jaj (by omega),jaa,jao h1];rfl
 ·rw[qa9 (show ¬S.checkDisk d=Int.ofNat 0 from h0),jad,jao h0];rw[jau,jaa];rfl
theorem zdw:Con Tryz.prog idz7 spz7:=mkz7 ⟨zb7,qsl,qu7,z1j,zwd,trivial⟩ fun x y hx h=>⟨LF,(zj4 x.1).trans h⟩
theorem zdd{d:qac}(h:S.checkDisk d=0):Dk d.1:=by
 obtain⟨ok,h8,h2⟩:=qig h;exact⟨ok.sz,h8,ok.le,h2⟩
theorem Jn.opened_{L:List ByteArray}{h:Int}{a u:Nat}{c:List qaa}(j:Jn L h a u c):S.open_ (L,[])=(((L,[]),h,(u:Int),c),0):=by
 unfold S.open_;rw[jan j.dk.check,jan (show (L,([]:List DPut)).2.length=0 from rfl)]
 show (match S.opened L with
  | some (h,u,c)=>(((L,([]:List DPut)),h,(u:Int),c),(0:Int))
  | none=>(S.noJ,15))=_
 rw[j.open_]
theorem zdh{d:qac}(h:(S.open_ d).2=0):∃hf a u c,Jn d.1 hf a u c/\d.2=[]/\S.open_ d=(((d.1,[]),hf,(u:Int),c),0):=by
 unfold S.open_ at h ⊢;by_cases h0:S.checkDisk d=0
 ·rw[jan h0] at h ⊢;by_cases h1:d.2.length=0
  ·rw[jan h1] at h ⊢;cases ho:S.opened d.1 with
   | none=>rw[ho] at h;cases h
   | some x =>
    obtain⟨hf,u,c⟩:=x;obtain⟨a,j⟩:=zha (zdd h0) ho;exact⟨hf,a,u,c,j,ja5.1 h1,rfl⟩
  ·rw[jao h1] at h;cases h
 ·rw[jao h0] at h;exact absurd h h0
theorem qt8{j:qad}(h:S.right j=true):∃a u,Jn j.1.1 j.2.1 a u j.2.2.2/\j.1.2=[]/\j.2.2.1=((u:Nat):Int):=by
 unfold S.right at h;rw[jae] at h;obtain⟨hf,a,u,c,k,h1,h2⟩:=zdh (jbe h.1);have h3:=jbe h.2;rw[h2] at h3;obtain⟨⟨l,q⟩,hh,uu,cc⟩:=j;cases h3;exact⟨a,u,k,rfl,rfl⟩
theorem Jn.right{L:List ByteArray}{h:Int}{a u:Nat}{c:List qaa}(j:Jn L h a u c):S.right ((L,[]),h,(u:Int),c)=true:=by
 unfold S.right;rw[jae];show decide ((S.open_ (L,[])).2=0)=true/\decide ((S.open_ (L,[])).1=_)=true;rw[j.opened_];exact⟨jaj rfl,jaj rfl⟩
theorem qf5{l:List qaa}(h:S.okC l=true):S.pk l=true:=by
 unfold S.pk;rw[h,jar (by have:=qn0 h;omega)];rfl
theorem zl1(l:List qaa)(m m':Int):(S.packed l m).drop 1=(S.packed l m').drop 1:=by
 have e:∀x:Int,S.packed l x=qae ((S.recB l x).take 64++List.replicate (64-(S.recB l x).length) 0)::S.chunks ((S.body l).length+3) ((S.recB l x).drop 64):=fun x=>qga ((S.body l).length+3) (b:=S.recB l x) (by rw[qen];omega);rw[e m,e m'];rfl
theorem qyg(l:List qaa)(m:Int):S.packed l m=(S.packed l m).getD 0 S.none_::(S.packed l 1).drop 1:=by
 have hp:=qek l m;rw[<- zl1 l m 1];cases h:S.packed l m with
 | nil=>rw[h] at hp;cases hp
 | cons s r=>rfl
theorem qh4(l:List qaa)(m:Int):szS (S.packed l m):=zav _ _
theorem q8p:S.blank.size=64:=by kernel_rfl
theorem q4g:(qab S.blank).getD 0 0=0:=by kernel_rfl
theorem zyj{L:List ByteArray}{a:Nat}{x y:ByteArray}{r:List ByteArray}(h:a+(r.length+1)<=L.length):over (over L a (x::r)) a [y]=over L a (y::r):=by
 have h':a+(x::r).length<=L.length:=h;have h1:=q7l h';have h2:=qrd h';show (over L a (x::r)).take a++([y]++(over L a (x::r)).drop (a+1))=L.take a++((y::r)++L.drop (a+(r.length+1)));rw[h1,<- jcw,h2];rfl
theorem z03(X:List ByteArray)(t:ByteArray):∀{b:Nat},1<=b->(over X 0 [t]).drop b=X.drop b
 | 0,h=>by omega
 | b+1,_=>by
  show (t::X.drop (0+1)).drop (b+1)=_;rw[List.drop_succ_cons,jcw,show 0+1+b=b+1 by omega]
theorem Dk.over{L:List ByteArray}(d:Dk L){a:Nat}{ss:List ByteArray}(h:a+ss.length<=L.length)(hs:szS ss):Dk (over L a ss):=by
 refine⟨zrm d.sz hs,?_,?_,?_⟩<;>rw[qg7 h]
 ·exact d.ge
 ·exact d.le
 ·exact d.ev
theorem zb4{L:List ByteArray}{a:Nat}{l:List qaa}{tail:List ByteArray}{r:List DAct}(ht:szS tail)(h:a+((S.packed l 1).length+tail.length)<=L.length)(hL:L.length<=1000) :
  S.doGo (S.puts (a:Int) (S.packed l 0++tail)++(S.sync::S.put (a:Int) ((S.packed l 1).getD 0 S.none_)::S.sync::r)) L []=S.doGo r (over L a (S.packed l 1++tail)) []:=by
 have e1:(S.packed l 0).length=(S.packed l 1).length:=by rw[qc8,qc8]
 have hp:=qek l 1;have h':a+(S.packed l 0++tail).length<=L.length:=by rw[jah,e1];exact h
 have hs:szS (S.packed l 0++tail):=fun s hs=>(jbv.1 hs).elim (qh4 l 0 s) (ht s);have hol:(over L a (S.packed l 0++tail)).length=L.length:=qg7 h';rw[qyr _ _ _ _ _ hs h' (by rw[jaz];omega),jc1,qs1,qkr _ _ _ h',qw4 (qh4 l 1 _ (qfo (by omega))) (by omega) (by rw[jaz];omega),qs1];have:S.settled (over L a (S.packed l 0++tail)) ([]++[(((a:Nat):Int),(S.packed l 1).getD 0 S.none_)])=over L a (S.packed l 1++tail):=by
  refine(qkr [(S.packed l 1).getD 0 S.none_] a _ (by rw[hol];simp only[jas,jaz];omega)).trans ?_;have hlen:a+(((S.packed l 1).drop 1++tail).length+1)<=L.length:=by rw[jah,jax];omega
  have s1:=qyg l 1;rw[qyg l 0,jc9];refine(zyj hlen).trans (jaw (over L a) ?_);rw[<- jc9,<- s1]
 rw[this]
def qfa(b:Bool):List ByteArray:=cond b [S.blank] []
theorem zae(b:Bool):szS (qfa b):=fun s h=>by
 cases b with
 | true=>rw[jci.1 h];exact q8p
 | false=>cases h
theorem zeb(l:List qaa)(a:Nat)(e:Int)(b:Bool):S.laid l (a:Int) e b=S.puts (a:Int) (S.packed l 0++qfa (b&&decide ((a:Int)+(S.packed l 1).length<e)))++[S.sync,S.put (a:Int) ((S.packed l 1).getD 0 S.none_),S.sync]:=by
 have e1:(S.packed l 0).length=(S.packed l 1).length:=by rw[qc8,qc8]
 unfold S.laid;rw[qs6,e1,jay];cases (b&&decide ((a:Int)+(S.packed l 1).length<e))<;>rfl
theorem q9w{j:qad}{l:List qaa}(h:¬S.roomOf j<(S.packed l 1).length):S.commit j l=some (S.laid l ((S.half j.1.1.length j.2.1).1+j.2.2.1) (S.half j.1.1.length j.2.1).2 true):=by
 unfold S.commit S.laid;rw[jao h,jbt,jay]
theorem q7o{L:List ByteArray}{h:Int}{a u:Nat}{c:List qaa}(j:Jn L h a u c):S.roomOf ((L,[]),h,(u:Int),c)=((L.length / 2-1-u:Nat):Int):=by
 have:=j.le.1;unfold S.roomOf;show (S.half L.length h).2-(S.half L.length h).1-(u:Int)=_;rw[j.fr];show ((a+(L.length / 2-1):Nat):Int)-(a:Int)-(u:Int)=_;omega
def comL(L:List ByteArray)(a u:Nat)(l:List qaa):List ByteArray:=over L (a+u) (S.packed l 1++qfa (decide (u+(S.packed l 1).length<L.length / 2-1)))
theorem zbv{L:List ByteArray}{h:Int}{a u:Nat}{c l:List qaa}(j:Jn L h a u c)(hl:S.okC l=true)(hr:u+(S.packed l 1).length<=L.length / 2-1) :
  S.commit ((L,[]),h,(u:Int),c) l=some (S.laid l ((a+u:Nat):Int) ((a+(L.length / 2-1):Nat):Int) true) /\
  S.doD (L,[]) (S.laid l ((a+u:Nat):Int) ((a+(L.length / 2-1):Nat):Int) true)=((comL L a u l,[]),0) /\
  Jn (comL L a u l) h a (u+(S.packed l 1).length) (S.changed c l)/\(comL L a u l).length=L.length:=by
 have hto:=j.to_;have hle:=j.dk.le;have hb:=qnt (qf5 hl);have hd:decide (((a+u:Nat):Int)+(S.packed l 1).length<((a+(L.length / 2-1):Nat):Int))=decide (u+(S.packed l 1).length<L.length / 2-1):=jdh.2 (by omega);have htl:(qfa (decide (u+(S.packed l 1).length<L.length / 2-1))).length=if u+(S.packed l 1).length<L.length / 2-1 then 1 else 0:=by
  by_cases e:u+(S.packed l 1).length<L.length / 2-1
  ·rw[jan e,jaj e];rfl
  ·rw[jao e,jal e];rfl
 have hfit:a+u+((S.packed l 1).length+(qfa (decide (u+(S.packed l 1).length<L.length / 2-1))).length)<=L.length:=by
  rw[htl];split<;>omega
 have hfit':a+u+(S.packed l 1++qfa (decide (u+(S.packed l 1).length<L.length / 2-1))).length<=L.length:=by rw[jah];exact hfit
 have hsz:szS (S.packed l 1++qfa (decide (u+(S.packed l 1).length<L.length / 2-1))):=fun s hs=>(jbv.1 hs).elim (qh4 l 1 s) (zae _ s);refine⟨?_,?_,?_,qg7 hfit'⟩
 ·rw[q9w (by rw[q7o j];omega)];show some (S.laid l ((S.half L.length h).1+(u:Int)) (S.half L.length h).2 true)=_;rw[j.fr];rfl
 ·unfold S.doD;rw[jan j.dk.check,zeb,jbt,hd];exact(zb4 (r:=[]) (zae _) hfit hle).trans (q6y _ _)
 ·refine j.more (j.dk.over hfit' hsz) (qg7 hfit') (q7l hfit') hl (by omega) hr (rest:=qfa (decide (u+(S.packed l 1).length<L.length / 2-1))++L.drop (a+u+(S.packed l 1++qfa (decide (u+(S.packed l 1).length<L.length / 2-1))).length)) ?_ ?_
  ·show (over L (a+u) _).drop (a+u)=_;rw[qrd hfit',jay]
  ·by_cases e:u+(S.packed l 1).length<L.length / 2-1
   ·right;rw[jaj e];exact q4g
   ·left;omega
theorem zc2:∀{c:List qaa} {last:Int},okS c last->S.changed [] c=c
 | [],_,_=>rfl
 | x::c,last,h=>by
  have hx:=h.2 x (by simp);have h5:=(qbq.1 h.1).2.2.2.2;rw[zc1 h.1,hx,jad,zc2 (c:=c) ⟨h5,fun y hy=>h.2 y (by simp[hy])⟩]
theorem q91{j:qad}(h:¬(S.half j.1.1.length (1-j.2.1)).2-(S.half j.1.1.length (1-j.2.1)).1<(S.packed j.2.2.2 1).length):S.turn j=some (S.puts (S.half j.1.1.length (1-j.2.1)).1 (List.replicate ((S.half j.1.1.length (1-j.2.1)).2-(S.half j.1.1.length (1-j.2.1)).1).toNat S.blank)++[S.sync]++S.puts (S.half j.1.1.length (1-j.2.1)).1 (S.packed j.2.2.2 0) ++
  [S.sync,S.put (S.half j.1.1.length (1-j.2.1)).1 ((S.packed j.2.2.2 1).getD 0 S.none_),S.sync,S.put 0 (qae ((1-j.2.1)::List.replicate 63 0)),S.sync]):=by
 unfold S.turn;rw[jao h]
def topS(h:Int):ByteArray:=qae (h::List.replicate 63 0)
def turL(L:List ByteArray)(h:Int)(b:Nat)(c:List qaa):List ByteArray:=over (over (over L b (List.replicate (L.length / 2-1) S.blank)) b (S.packed c 1)) 0 [topS h]
def turA(L:List ByteArray)(h:Int)(b:Nat)(c:List qaa):List DAct:=S.puts (b:Int) (List.replicate (L.length / 2-1) S.blank)++[S.sync]++S.puts (b:Int) (S.packed c 0)++[S.sync,S.put (b:Int) ((S.packed c 1).getD 0 S.none_),S.sync,S.put 0 (topS h),S.sync]
theorem q1w{h:Int}:(topS h).size=64:=by
 unfold topS;rw[qaz,jas,ja4]
theorem zn5{h:Int}(hh:h=0\/h=1):qab (topS h)=topB h:=qbi fun x hx=>by
 rcases ja1.1 hx with rfl|hx
 ·omega
 ·exact qfp 63 x hx
theorem q37{L:List ByteArray}{h:Int}{a u:Nat}{c:List qaa}(j:Jn L h a u c)(hr:(S.packed c 1).length<=L.length / 2-1):∃b:Nat,S.half L.length (1-h)=((b:Int),((b+(L.length / 2-1):Nat):Int)) /\
  S.turn ((L,[]),h,(u:Int),c)=some (turA L (1-h) b c)/\S.doD (L,[]) (turA L (1-h) b c)=((turL L (1-h) b c,[]),0)/\Jn (turL L (1-h) b c) (1-h) b (S.packed c 1).length c/\(turL L (1-h) b c).length=L.length:=by
 have hh:=j.hh;have hle:=j.dk.le;have hge:=j.dk.ge;have hok:=j.le.2.1;have hb:=qnt (qf5 hok.1);obtain⟨b,e1,e2,e3,_,_⟩:=qgd j.dk.ev hge (h:=1-h) (by omega);have hK:(List.replicate (L.length / 2-1) S.blank).length=L.length / 2-1:=ja4;have hf1:b+(List.replicate (L.length / 2-1) S.blank).length<=L.length:=by rw[hK];omega
 have hs1:szS (List.replicate (L.length / 2-1) S.blank):=fun s hs=>by rw[(jeu.1 hs).2];exact q8p
 have d1:=j.dk.over hf1 hs1;have l1:(over L b (List.replicate (L.length / 2-1) S.blank)).length=L.length:=qg7 hf1;have hf2:b+(S.packed c 1).length<=(over L b (List.replicate (L.length / 2-1) S.blank)).length:=by rw[l1];omega
 have d2:=d1.over hf2 (qh4 c 1);have l2:=(qg7 hf2).trans l1;have hf3:0+[topS (1-h)].length<=(over (over L b (List.replicate (L.length / 2-1) S.blank)) b (S.packed c 1)).length:=by rw[l2];show 0+1<=_;omega
 have hs3:szS [topS (1-h)]:=fun s hs=>by rw[jci.1 hs];exact q1w
 have d3:=d2.over hf3 hs3;have l3:(turL L (1-h) b c).length=L.length:=(qg7 hf3).trans l2;have hmem:(S.packed c 1).getD 0 S.none_∈S.packed c 1:=qfo (qek c 1);refine⟨b,e1,?_,?_,?_,l3⟩
 ·rw[q91]
  ·show some (S.puts (S.half L.length (1-h)).1 (List.replicate ((S.half L.length (1-h)).2-(S.half L.length (1-h)).1).toNat S.blank)++[S.sync]++S.puts (S.half L.length (1-h)).1 (S.packed c 0)++_)=_;rw[e1];have:(((b+(L.length / 2-1):Nat):Int)-(b:Int)).toNat=L.length / 2-1:=by omega
   simp only[this];rfl
  ·show ¬(S.half L.length (1-h)).2-(S.half L.length (1-h)).1<_;rw[e1];show ¬((b+(L.length / 2-1):Nat):Int)-(b:Int)<((S.packed c 1).length:Int);omega
 ·unfold S.doD;rw[jan j.dk.check];show S.doGo (turA L (1-h) b c) L []=_;unfold turA;rw[jay,jay,qyr _ _ _ _ _ hs1 hf1 (by rw[jaz,hK];omega),jc1];show S.doGo (S.sync::_) _ _=_;rw[qs1,qkr _ _ _ hf1];have:=zb4 (L:=over L b (List.replicate (L.length / 2-1) S.blank)) (a:=b) (l:=c) (tail:=[]) (r:=[S.put ((0:Nat):Int) (topS (1-h)),S.sync]) (fun s hs=>by cases hs) (by rw[l1,jaz];omega) (by rw[l1];exact hle);rw[jbl,jbl] at this;refine this.trans ?_;rw[qw4 q1w (by rw[l2];omega) (by rw[jaz];omega),qs1,q6y];refine jaw (fun z=>((z,[]),0)) ?_;exact qkr [topS (1-h)] 0 _ hf3
 ·have hh':1-h=0\/1-h=1:=by omega
  have htop:(turL L (1-h) b c).getD 0 S.none_=topS (1-h):=rfl;refine⟨d3,hh',by rw[htop];exact zn5 hh',by rw[l3];exact e1,e2,by rw[l3];exact e3,⟨2,?_⟩,qek c 1⟩;rw[l3];have hdr:(turL L (1-h) b c).drop b=S.packed c 1++(over L b (List.replicate (L.length / 2-1) S.blank)).drop (b+(S.packed c 1).length):=by
   rw[<- qrd hf2];show (over _ 0 [topS (1-h)]).drop b=_;exact z03 _ _ e2
  rw[hdr,List.take_append,jbn hr,q1k 1 c _ [] 0 hok.1 (by omega)];have hng:c.any (·.2.2)=false:=jc5.2 fun x hx=>by rw[hok.2 x hx];decide
  rw[hng,jfl,jad,zc2 hok,jbp];have hrest:((over L b (List.replicate (L.length / 2-1) S.blank)).drop (b+(S.packed c 1).length)).take (L.length / 2-1-(S.packed c 1).length)=List.replicate (L.length / 2-1-(S.packed c 1).length) S.blank:=by
   rw[<- jcw,qrd hf1,jd7 (by rw[hK];exact hr),List.drop_replicate,jd6 (by rw[ja4];exact jat _),jbn (by rw[ja4];exact jat _)]
  rw[hrest];cases L.length / 2-1-(S.packed c 1).length with
  | zero=>rfl
  | succ n=>rw[jfe,qfc,jan q4g]
theorem q6b(a b:qaa):(keqI a.1 b.1&&(keqS a.2.1 b.2.1&&(keqB a.2.2 b.2.2&&true)))=decide (a=b):=by
 obtain⟨a1,a2,a3⟩:=a;obtain⟨b1,b2,b3⟩:=b;rw[jcp];simp[keqI,keqS,keqB]
theorem zua(a b:DPut):(keqI a.1 b.1&&(keqS a.2 b.2&&true))=decide (a=b):=by
 obtain⟨a1,a2⟩:=a;obtain⟨b1,b2⟩:=b;rw[jcp];simp[keqI,keqS]
theorem znb(a b:DAct):(keqB a.1 b.1&&((keqI a.2.1 b.2.1&&(keqS a.2.2 b.2.2&&true))&&true))=decide (a=b):=by
 obtain⟨a1,a2,a3⟩:=a;obtain⟨b1,b2,b3⟩:=b;rw[jcp];simp[keqI,keqS,keqB]
theorem qlp{α R:Type}[DecidableEq α]{T:(Int->Option R)->Int->Option R}(a b:List α)(hl:a.length=b.length)(ha:a.length<LF)(Y N:Option R)
  (h0:∀K,T K (Int.ofNat a.length)=Y)
  (h1:∀K i v w,iltI (Int.ofNat i) (Int.ofNat a.length)=true->jget a (Int.ofNat i)=some v->jget b (Int.ofNat i)=some w->IntKind.i64.wrap (Int.add (Int.ofNat i) (Int.ofNat 1))=Int.ofNat (i+1)->T K (Int.ofNat i)=cond (decide (v=w)) (K (Int.ofNat (i+1))) N) :
  qaw T LF (Int.ofNat 0)=cond (decide (a=b)) Y N:=by
 refine(qn9 (T:=T) a (fun rest i=>cond (decide (rest=b.drop i)) Y N) ha (fun K=>?_) (fun K i v rest r h=>?_)).trans ?_
 ·rw[h0,hl,jbo (jat _)];rfl
 ·have hi:=r.lt;obtain⟨w,w1,w2⟩:∃w,b[i]?=some w/\b.drop i=w::b.drop (i+1):=⟨b[i],jac (by omega),jby (by omega)⟩;rw[h1 K i v w r.ilt r.get (by rw[qbo];exact w1) r.next,h,w2];by_cases e:v=w
  ·rw[jaj e,jaa];have:decide (rest=b.drop (i+1))=decide (v::rest=w::b.drop (i+1)):=jdh.2 (by rw[e];simp);rw[this]
  ·rw[jal e,jad,jal (fun h=>e (List.cons.inj h).1),jad]
 ·rfl
theorem zxl(a b:List qaa)(ha:a.length<LF):Fz24 LF a b=some (S.sameC a b,()):=by
 simp only[Fz24,qzf];unfold S.sameC;by_cases e:a.length=b.length
 ·rw[qa8 (show Int.ofNat a.length=Int.ofNat b.length from jaw Int.ofNat e),jav,jad];refine(qlp a b e ha (some (true,())) (some (false,())) (fun K=>?_) (fun K i v w h1 h2 h3 h4=>?_)).trans ?_
  ·simp only[qqz,qbt,jad]
  ·simp only[qqz,h1,h2,h3,h4,jaa,q6b];cases decide (v=w)<;>rfl
  ·cases decide (a=b)<;>rfl
 ·rw[qa9 (show ¬Int.ofNat a.length=Int.ofNat b.length from fun h=>e (jdg h)),jau,jaa,jal (fun h=>e (jaw List.length h))]
theorem zuk:Con Tryz.prog zxw q73:=zqe trivial fun x y hx h=>⟨LF,(zxl x.1 x.2.1 (qcf (c:=cCell) hx.1)).trans h⟩
theorem zmy(a b:List DAct)(ha:a.length<LF):Fz26 LF a b=some (S.sameA a b,()):=by
 simp only[Fz26,qt9];unfold S.sameA;by_cases e:a.length=b.length
 ·rw[qa8 (show Int.ofNat a.length=Int.ofNat b.length from jaw Int.ofNat e),jav,jad];refine(qlp a b e ha (some (true,())) (some (false,())) (fun K=>?_) (fun K i v w h1 h2 h3 h4=>?_)).trans ?_
  ·simp only[qte,qbt,jad]
  ·simp only[qte,h1,h2,h3,h4,jaa,znb];cases decide (v=w)<;>rfl
  ·cases decide (a=b)<;>rfl
 ·rw[qa9 (show ¬Int.ofNat a.length=Int.ofNat b.length from fun h=>e (jdg h)),jau,jaa,jal (fun h=>e (jaw List.length h))]
theorem zru:Con Tryz.prog zic zce:=zv9 trivial fun x y hx h=>⟨LF,(zmy x.1 x.2.1 (qcf (c:=cAct) hx.1)).trans h⟩
theorem zkp(a b:qac)(ha:a.1.length<LF)(ha2:a.2.length<LF):Fz25 LF a b=some (S.sameD a b,()):=by
 simp only[Fz25,quv];unfold S.sameD;by_cases e:a.1.length=b.1.length
 ·rw[qa8 (show Int.ofNat a.1.length=Int.ofNat b.1.length from jaw Int.ofNat e),jav,jad];by_cases e2:a.2.length=b.2.length
  ·rw[qa8 (show Int.ofNat a.2.length=Int.ofNat b.2.length from jaw Int.ofNat e2),jav,jad];have g9:qnn LF a b LF (Int.ofNat 0)=cond (decide (a.2=b.2)) (some (true,())) (some (false,())):=by
    refine qlp a.2 b.2 e2 ha2 (some (true,())) (some (false,())) (fun K=>?_) (fun K i v w h1 h2 h3 h4=>?_)
    ·simp only[qqi,qbt,jad]
    ·simp only[qqi,h1,h2,h3,h4,jaa,zua];cases decide (v=w)<;>rfl
   refine(qlp a.1 b.1 e ha (cond (decide (a.2=b.2)) (some (true,())) (some (false,()))) (some (false,())) (fun K=>?_) (fun K i v w h1 h2 h3 h4=>?_)).trans ?_
   ·simp only[qn5,qbt,jad,g9]
   ·simp only[qn5,h1,h2,h3,h4,jaa,keqS];cases decide (v=w)<;>rfl
   ·have:decide (a=b)=(decide (a.1=b.1)&&decide (a.2=b.2)):=by
     rw[jcp];obtain⟨a1,a2⟩:=a;obtain⟨b1,b2⟩:=b;simp
    rw[this];cases decide (a.1=b.1)<;>cases decide (a.2=b.2)<;>rfl
  ·rw[qa9 (show ¬Int.ofNat a.2.length=Int.ofNat b.2.length from fun h=>e2 (jdg h)),jau,jaa,jal (fun h=>e2 (jaw (fun z:qac=>z.2.length) h))]
 ·rw[qa9 (show ¬Int.ofNat a.1.length=Int.ofNat b.1.length from fun h=>e (jdg h)),jau,jaa,jal (fun h=>e (jaw (fun z:qac=>z.1.length) h))]
theorem zqz:Con Tryz.prog zh9 zds:=zg3 trivial fun x y hx h=>⟨LF,(zkp x.1 x.2.1 (qcf (c:=.str) hx.1.1) (qcf (c:=cPut) hx.1.2)).trans h⟩
theorem zh3(lf:Nat)(a b:qad):qq5 lf a b=some (S.sameJ a b,()):=by
 simp only[qq5,zc3,qcq];obtain⟨d,h,u,c⟩:=a;obtain⟨d',h',u',c'⟩:=b;show cond (decide (h=h')) (cond (decide (u=u')) (cond (decide (d=d')) (some (decide (c=c'),())) _) _) _=some (decide ((d,h,u,c)=(d',h',u',c')),());by_cases e1:h=h'
 ·by_cases e2:u=u'
  ·by_cases e3:d=d'
   ·subst e1 e2 e3;rw[jaj rfl,jaj rfl,jaj rfl];have:decide (c=c')=decide ((d,h,u,c)=(d,h,u,c')):=jdh.2 (by simp);rw[<- this];rfl
   ·rw[jal e3,jaj e1,jaj e2,jal (fun q=>e3 (jaw (fun z:qad=>z.1) q))];rfl
  ·rw[jal e2,jaj e1,jal (fun q=>e2 (jaw (fun z:qad=>z.2.2.1) q))];rfl
 ·rw[jal e1,jal (fun q=>e1 (jaw (fun z:qad=>z.2.1) q))];rfl
theorem q4l:Con Tryz.prog zvp qwd:=zv1 ⟨zqz,zuk,trivial⟩ fun x y hx h=>⟨0,(zh3 0 x.1 x.2.1).trans h⟩
theorem zgj(lf:Nat)(j:qad):qqh lf j=some (S.right j,()):=by
 simp only[qqh,q53];unfold S.right;show cond (ieqI (S.open_ j.1).2 _) (some (S.sameJ (S.open_ j.1).1 j,())) _=_;rw[qcq];by_cases e:(S.open_ j.1).2=0
 ·rw[jaj e,jaj (show _=Int.ofNat 0 from e),jaa,jbt];rfl
 ·rw[jal e,jal (show ¬_=Int.ofNat 0 from e),jad,jb7]
theorem qzz:Con Tryz.prog zku qta:=zl3 ⟨zdw,q4l,trivial⟩ fun x y hx h=>⟨0,(zgj 0 x.1).trans h⟩
def qbr(l:List qaa)(i:Nat):Int:=if i=0 then -1 else ((l.getD (i-1) (0,S.none_,false)).1)
theorem qo3{R:Type}{l:List qaa}{i:Nat}{k:Int}(hk:0<=k)(hi:i<=l.length)(hl:l.length<1000000)(N T:Option R) :
  cond (iltI (Int.ofNat 0) (Int.ofNat i)) (match jget l (IntKind.i64.wrap (Int.sub (Int.ofNat i) (Int.ofNat 1))) with
   | none=>none
   | some v=>cond (!iltI v.1 k) N T) T=cond (decide (qbr l i<k)) T N:=by
 unfold qbr;cases i with
 | zero =>
  rw[jan rfl,jaj (show (-1:Int)<k by omega)];rfl
 | succ i =>
  rw[jao (by omega),qa3,jaj (by omega),jaa];have e:IntKind.i64.wrap (Int.sub (Int.ofNat (i+1)) (Int.ofNat 1))=Int.ofNat i:=by
   have:Int.sub (Int.ofNat (i+1)) (Int.ofNat 1)=Int.ofNat i:=by
    show ((i+1:Nat):Int)-1=(i:Int);omega
   rw[this];exact qa2 (by omega)
  rw[e,qm5 (i:=Int.ofNat i) (d:=(0,S.none_,false)) (jbb _) (by show (i:Int)<(l.length:Int);omega)];show cond (!iltI (l.getD i (0,S.none_,false)).1 k) N T=cond (decide ((l.getD i (0,S.none_,false)).1<k)) T N;rw[qbu];cases decide ((l.getD i (0,S.none_,false)).1<k)<;>rfl
theorem q1i{l:List qaa}{i:Nat}{v:qaa}(h:l[i]?=some v):qbr l (i+1)=v.1:=by
 unfold qbr;rw[jao (by omega),jai,Nat.add_sub_cancel,h];rfl
theorem zfo(s:ByteArray):keqS s (S.lit [])=decide (s.size=0):=by
 unfold keqS;exact jdh.2 qrz.symm
theorem znl(l:List qaa):Fz27 LF l=some ((S.size l).1,(S.size l).2,()):=by
 simp only[Fz27,q0f];unfold S.size;rw[qa3,qfg];by_cases h1:60<l.length
 ·rw[jaj h1,jaa,jan h1];rfl
 rw[jal h1,jad,jao h1];by_cases h2:l.length=0
 ·rw[jaj h2,jaa,jan h2];rfl
 rw[jal h2,jad,jao h2];have hfin:∀b:Bool,b=S.okC l->(cond b (some (((S.packed l 1).length:Int),(0:Int),())) (some ((0:Int),(1:Int),())))=some ((cond (S.okC l) (((S.packed l 1).length:Int),(0:Int)) ((0:Int),(1:Int))).1,(cond (S.okC l) (((S.packed l 1).length:Int),(0:Int)) ((0:Int),(1:Int))).2,()):=fun b hb=>by
  subst hb;cases S.okC l<;>rfl
 refine(range0 (σ:=Unit) (R:=qcv) (T:=fun K p=>qlm LF l K p) l (fun i _=>i) (fun i _=>S.okGo (l.drop i) (qbr l i)=S.okC l\/S.okC l=S.okGo (l.drop i) (qbr l i)) (fun rest i _=>cond (S.okGo rest (qbr l i)) (some (((S.packed l 1).length:Int),(0:Int),())) (some ((0:Int),(1:Int),()))) (by unfold LF;omega) (fun K s hs=>?_) (fun K i v rest s hs r hk=>?_) () (.inl rfl)).trans (hfin _ rfl)
 ·rw[jbo (jat _)] at hs;have hok:S.okC l=true:=hs.elim (fun h=>h.symm) id;simp only[qlm,qbt,jad];rw[qtr (qf5 hok) (m:=Int.ofNat 1) ⟨by decide,by decide⟩,jaa];rfl
 ·have hd:=r.drop;have hi:=r.lt;have hgi:l[i]?=some v:=by
   have:=r.get
   rwa [qbo] at this
  have hst:S.okGo (v::rest) (qbr l i)=(S.inI v.1 0 199&&(decide (v.2.1.size<=4000)&&(!(v.2.2&&!decide (v.2.1.size=0))&&(decide (qbr l i<v.1)&&S.okGo rest v.1)))):=rfl;have hs':S.okC l=S.okGo (v::rest) (qbr l i):=by rw[hd] at hs;exact hs.elim (fun h=>h.symm) id
  have hnext:qbr l (i+1)=v.1:=q1i hgi;rw[hnext] at hk;simp only[qlm,r.ilt,r.get,r.next,jaa];rw[hst];by_cases c1:S.inI v.1 0 199=true
  ·rw[show S.inI v.1 (Int.ofNat 0) (Int.ofNat 199)=true from c1,jav,jad,c1,jbt,qa3];by_cases c2:v.2.1.size<=4000
   ·rw[jal (show ¬4000<v.2.1.size by omega),jad,jaj c2,jbt,zfo];have hv0:0<=v.1:=(qav.1 c1).1;have hfinal:cond (decide (qbr l i<v.1)) (K (Int.ofNat (i+1))) (some (Int.ofNat 0,Int.ofNat 1,()))=cond (decide (qbr l i<v.1)&&S.okGo rest v.1) (some (((S.packed l 1).length:Int),(0:Int),())) (some ((0:Int),(1:Int),()))\/¬(v.2.2&&!decide (v.2.1.size=0))=false:=by
     by_cases cg:(v.2.2&&!decide (v.2.1.size=0))=false
     ·left;by_cases c4:qbr l i<v.1
      ·rw[jaj c4,jaa,jbt];refine hk () ?_;rw[r.tail];left;rw[hs',hst,c1,jaj c2,cg,jaj c4];rfl
      ·rw[jal c4,jad,jb7,jad];rfl
     ·exact .inr cg
    cases hg:v.2.2 with
    | true =>
     rw[jaa,jbt];by_cases c3:v.2.1.size=0
     ·rw[jaj c3,jav,jad,jau,jbt];refine(qo3 (l:=l) hv0 (by omega) (by omega) _ _).trans ?_;refine hfinal.resolve_right ?_;rw[jaj c3,jav,jfl];decide
     ·rw[jal c3,jau,jaa,jav,jb7,jad];rfl
    | false =>
     rw[jad,jb7,jau,jbt];refine(qo3 (l:=l) hv0 (by omega) (by omega) _ _).trans ?_;refine hfinal.resolve_right ?_;rw[hg,jb7];decide
   ·rw[jaj (show 4000<v.2.1.size by omega),jaa,jal c2,jb7,jad];rfl
  ·have c1:=jcl.2 c1;rw[show S.inI v.1 (Int.ofNat 0) (Int.ofNat 199)=false from c1,jau,jaa,c1,jb7,jad];rfl
theorem q1r:Con Tryz.prog z0u q0c:=zzs ⟨qvv,qwo,trivial⟩ fun x y hx h=>⟨LF,(znl x.1).trans h⟩
theorem qpq{j:qad}(h:S.smallJ j=true):j.1.1.length<=1000/\j.1.1.length % 2=0/\-1000<=j.2.2.1/\j.2.2.1<=1000:=by
 unfold S.smallJ at h;rw[jae,jae,qav] at h;exact⟨jam h.1,jbe h.2.1,h.2.2.1,h.2.2.2⟩
theorem z0l(lf:Nat)(j:qad)(h:S.smallJ j=true):qpu lf j=some (S.roomR j,()):=by
 obtain⟨h1,h2,h3,h4⟩:=qpq h;simp only[qpu,q1s];unfold S.roomR
 rw[qa2 (n:=Nat.div j.1.1.length 2) (by show j.1.1.length / 2<_;omega),
  wrap_in (n:=Int.sub (Int.ofNat (Nat.div j.1.1.length 2)) (Int.ofNat 1)) (by show -_<=((j.1.1.length / 2:Nat):Int)-1/\((j.1.1.length / 2:Nat):Int)-1<_;omega),
  wrap_in (n:=Int.sub (Int.sub (Int.ofNat (Nat.div j.1.1.length 2)) (Int.ofNat 1)) j.2.2.1) (by show -_<=((j.1.1.length / 2:Nat):Int)-1-j.2.2.1/\((j.1.1.length / 2:Nat):Int)-1-j.2.2.1<_;omega)]
 rfl
theorem zar:Con Tryz.prog zsx qzg:=zsd trivial fun x y hx h=>⟨0,by
 obtain⟨h1,h2⟩:=qa5 (show cond (S.smallJ x.1) (some (S.roomR x.1,())) none=some y from h);exact(z0l 0 x.1 h1).trans (jaw some h2)⟩
structure RJ (j:qad) (a u:Nat):Prop where
 jn:Jn j.1.1 j.2.1 a u j.2.2.2
 eq:j=((j.1.1,[]),j.2.1,(u:Int),j.2.2.2)
 small:S.smallJ j=true
 room:S.roomR j=((j.1.1.length / 2-1-u:Nat):Int)
 room2:S.roomOf j=((j.1.1.length / 2-1-u:Nat):Int)
 halfG:(Nat.ble j.1.1.length 1000&&decide (j.1.1.length % 2=0))=true
 used:j.2.2.1=(u:Int)
theorem qed{j:qad}(h:S.right j=true):∃a u,RJ j a u:=by
 obtain⟨a,u,jn,h1,h2⟩:=qt8 h;have hle:=jn.dk.le;have hge:=jn.dk.ge;have hev:=jn.dk.ev;have hu:=jn.le.1;refine⟨a,u,jn,?_,?_,?_,?_,?_,h2⟩
 ·obtain⟨⟨l,q⟩,hh,uu,cc⟩:=j;simp only at h1 h2;rw[h1,h2]
 ·unfold S.smallJ;rw[jar hle,jaj hev,jbt,jbt,qav,h2];omega
 ·unfold S.roomR;rw[h2];omega
 ·have:=q7o jn;obtain⟨⟨l,q⟩,hh,uu,cc⟩:=j;simp only at h1 h2;subst h1 h2;exact this
 ·rw[jar hle,jaj hev];rfl
theorem qng{l:List qaa}(h:(S.size l).2=0):S.okC l=true/\(S.size l).1=((S.packed l 1).length:Int)/\1<=l.length:=by
 unfold S.size at h ⊢;by_cases h1:60<l.length
 ·rw[jan h1] at h;cases h
 rw[jao h1] at h ⊢;by_cases h2:l.length=0
 ·rw[jan h2] at h;cases h
 rw[jao h2] at h ⊢;cases hc:S.okC l with
 | false=>rw[hc] at h;cases h
 | true=>exact⟨rfl,rfl,by omega⟩
theorem qyp{j:qad}{l:List qaa}(h:S.roomOf j<(S.packed l 1).length):S.commit j l=none:=by
 unfold S.commit;rw[jan h]
theorem zfs(lf:Nat)(j:qad)(l:List qaa):qqy lf j l=some (S.plan j l,()):=by
 simp only[qqy,q4j];unfold S.plan;show cond (!S.right j) _ (cond (!ieqI (S.size l).2 _) _ (match (cond (S.smallJ j) (some (S.roomR j,())) none) with|none=>none|some v=>_))=_;by_cases h1:S.right j=true
 ·obtain⟨a,u,r⟩:=qed h1;rw[h1,jav,jad,jan rfl];by_cases h2:(S.size l).2=0
  ·obtain⟨hok,hn,_⟩:=qng h2;have hle:=r.jn.dk.le;have hto:=r.jn.to_;rw[qa8 (show _=Int.ofNat 0 from h2),jav,jad,jan h2,r.small,jaa,hn];simp only;rw[r.room];by_cases h3:j.1.1.length / 2-1-u<(S.packed l 1).length
   ·rw[qco (by omega),jaa,qyp (by rw[r.room2];omega)];rfl
   ·have hu:=r.jn.le.1;have hp:=qek l 1;obtain⟨c1,_,_,_⟩:=zbv r.jn hok (by omega);rw[qcu (by omega),jad];have hG:(Nat.ble j.1.1.length 1000&&decide (Nat.mod j.1.1.length 2=0))=true:=r.halfG;have hw:IntKind.i64.wrap (Int.add (a:Int) j.2.2.1)=((a+u:Nat):Int):=by
     rw[r.used];exact qa2 (n:=a+u) (by omega)
    have hG2:(S.pk l&&(S.inI ((a+u:Nat):Int) (Int.ofNat 0) (Int.ofNat 1000000)&&S.inI ((a+(j.1.1.length / 2-1):Nat):Int) (Int.ofNat 0) (Int.ofNat 1000000)))=true:=by
     rw[jae,jae];exact⟨qf5 hok,qav.2 ⟨jbb _,by show ((a+u:Nat):Int)<=1000000;omega⟩,qav.2 ⟨jbb _,by show ((a+(j.1.1.length / 2-1):Nat):Int)<=1000000;omega⟩⟩
    rw[hG,jaa,r.jn.fr];simp only;rw[<- r.eq] at c1;rw[hw,hG2,jaa,c1];rfl
  ·rw[qa9 (show ¬_=Int.ofNat 0 from h2),jau,jaa,jao h2]
 ·rw[jcl.2 h1,jau,jaa,jao (by decide)];rfl
theorem zhz:Con Tryz.prog zlg q5q:=zgu ⟨qzz,q1r,zar,qu7,q6v,trivial⟩ fun x y hx h=>⟨0,(zfs 0 x.1 x.2.1).trans h⟩
theorem z1o(lf:Nat)(j:qad)(a:qh7):qo1 lf j a=some (S.behindA j a,()):=by
 simp only[qo1,zak];unfold S.behindA S.behind;rw[qcq];by_cases h:a.2=0
 ·rw[jaj (show a.2=Int.ofNat 0 from h),jav,jad,jan h]
 ·rw[jal (show ¬a.2=Int.ofNat 0 from h),jau,jaa,jao h];rfl
theorem q4e:Con Tryz.prog zvs qzd:=zz8 ⟨zx6,zdw,trivial⟩ fun x y hx h=>⟨0,(z1o 0 x.1 x.2.1).trans h⟩
theorem zrp:Con Tryz.prog zp7 zck:=zng ⟨q4e,zhz,trivial⟩ fun x y hx h=>⟨0,h⟩
theorem qu3{j:qad}(h:(S.half j.1.1.length (1-j.2.1)).2-(S.half j.1.1.length (1-j.2.1)).1<(S.packed j.2.2.2 1).length):S.turn j=none:=by
 unfold S.turn;rw[jan h]
theorem zt1(b n:Nat):S.puts (b:Int) (List.replicate (n+1) S.blank)=S.puts (b:Int) (List.replicate n S.blank)++[S.put ((b+n:Nat):Int) S.blank]:=by
 rw[je9,qs6,ja4];rfl
theorem zcr:S.lit [0,0,0,0,0,0,0,0,0,0,0,0,0,0,0,0,0,0,0,0,0,0,0,0,0,0,0,0,0,0,0,0,0,0,0,0,0,0,0,0,0,0,0,0,0,0,0,0,0,0,0,0,0,0,0,0,0,0,0,0,0,0,0]=qae (List.replicate 63 0):=qwq
theorem q3a(j:qad)(b K:Nat)(hh:j.2.1=0\/j.2.1=1)(hpk:S.pk j.2.2.2=true)(hb:b+K<=1000):∀(k F n:Nat),n+k=K->k<F ->
  qge LF j F (Int.ofNat b,Int.ofNat (b+K),Int.ofNat (b+n),S.puts (b:Int) (List.replicate n S.blank))=some ((S.puts (b:Int) (List.replicate K S.blank)++[S.sync]++S.puts (b:Int) (S.packed j.2.2.2 0)++[S.sync,S.put (b:Int) ((S.packed j.2.2.2 1).getD 0 S.none_),S.sync,S.put 0 (topS (1-j.2.1)),S.sync],0),())
 | 0,F+1,n,hn,hF=>by
  obtain rfl:n=K:=by omega
  have hpl:=qgr hpk 0;have hlen:(S.puts (b:Int) (List.replicate n S.blank)).length=n:=by rw[qfv,ja4]
  show qjr LF j (qge LF j F) _=_;simp only[qjr];have hw:IntKind.i64.wrap (Int.sub (Int.ofNat 1) j.2.1)=1-j.2.1:=wrap_in (by show -_<=(1:Int)-j.2.1/\(1:Int)-j.2.1<_;omega);have g1:(S.pk j.2.2.2&&(S.inI (Int.ofNat b) (Int.ofNat 0) (Int.ofNat 1000000)&&S.inI (Int.ofNat (b+n)) (Int.ofNat 0) (Int.ofNat 1000000)))=true:=by
   rw[jae,jae];exact⟨hpk,qav.2 ⟨jbb _,by show (b:Int)<=1000000;omega⟩,qav.2 ⟨jbb _,by show ((b+n:Nat):Int)<=1000000;omega⟩⟩
  have g2:(S.inI (1-j.2.1) (Int.ofNat 0) (Int.ofNat 16777215)&&S.inI (Int.ofNat 1) (Int.ofNat 0) (Int.ofNat 3))=true:=by
   rw[jae];exact⟨qav.2 ⟨by show (0:Int)<=_;omega,by show _<=(16777215:Int);omega⟩,rfl⟩
  have hlaid:S.laid j.2.2.2 (Int.ofNat b) (Int.ofNat (b+n)) false=S.puts (b:Int) (S.packed j.2.2.2 0)++[S.sync,S.put (b:Int) ((S.packed j.2.2.2 1).getD 0 S.none_),S.sync]:=by
   refine(zeb j.2.2.2 b _ false).trans ?_;rw[jb7];show S.puts (b:Int) (S.packed j.2.2.2 0++[])++_=_;rw[jbl]
  have hll:(S.laid j.2.2.2 (Int.ofNat b) (Int.ofNat (b+n)) false).length<=20003:=by
   rw[hlaid,jah,qfv];show _+3<=_;omega
  have htop:ByteArray.append (qae (S.numB (1-j.2.1).toNat 1)) (qae (List.replicate 63 0))=topS (1-j.2.1):=by
   rw[qck];unfold topS;refine jaw qae ?_;show [(((1-j.2.1).toNat % 256:Nat):Int)]++List.replicate 63 0=_;rw[show (((1-j.2.1).toNat % 256:Nat):Int)=1-j.2.1 by omega];rfl
  have hsz1:(qae (S.numB (1-j.2.1).toNat 1)).size=1:=by rw[qaz];rfl
  have hsz2:(qae (List.replicate 63 0)).size=63:=by rw[qaz,ja4]
  rw[qbt,jad,hlen,jar (by show (n+1)*32<=_;omega),jaa,g1,jaa];simp only;rw[jar (by show ((_:List DAct).length+(_:List DAct).length)*32<=_;simp only[jcs,jah,jas,jaz,hlen];omega),jaa,hw,g2,jaa];simp only;rw[show S.inI (Int.ofNat 63) (Int.ofNat 0) (Int.ofNat 64)=true from rfl,jaa];simp only;rw[zcr,htop,hsz1,hsz2,qb0 (by decide),jaa,jar (by show ((_:List DAct).length+2)*32<=_;simp only[jcs,jah,jas,jaz,hlen];omega),jaa,hlaid];show some (((S.puts (b:Int) (List.replicate n S.blank)++[S.sync])++(S.puts (b:Int) (S.packed j.2.2.2 0)++_)++[S.put 0 (topS (1-j.2.1)),S.sync],(0:Int)),())=_;simp only[jay];rfl
 | k+1,F+1,n,hn,hF=>by
  have hlen:(S.puts (b:Int) (List.replicate n S.blank)).length=n:=by rw[qfv,ja4]
  show qjr LF j (qge LF j F) _=_;simp only[qjr];rw[qa3,jaj (by omega),jaa,show S.inI (Int.ofNat 64) (Int.ofNat 0) (Int.ofNat 64)=true from rfl,jaa];simp only;rw[hlen,jar (by show (n+1)*32<=_;omega),jaa,q0s,show IntKind.i64.wrap (Int.add (Int.ofNat (b+n)) (Int.ofNat 1))=Int.ofNat (b+(n+1)) from qa2 (n:=b+n+1) (by omega)];have:List.append (S.puts (b:Int) (List.replicate n S.blank)) [((S.put (Int.ofNat (b+n)) S.blank).1,(S.put (Int.ofNat (b+n)) S.blank).2.1,(S.put (Int.ofNat (b+n)) S.blank).2.2)]=S.puts (b:Int) (List.replicate (n+1) S.blank):=(zt1 b n).symm;rw[this];exact q3a j b K hh hpk hb k F (n+1) (by omega) (by omega)
theorem z18(j:qad):Fz28 LF j=some (S.planTurn j,()):=by
 simp only[Fz28,qvj];unfold S.planTurn;show cond (!S.right j) _ _=_;by_cases h1:S.right j=true
 ·obtain⟨a,u,r⟩:=qed h1;have hle:=r.jn.dk.le;have hge:=r.jn.dk.ge;have hh:=r.jn.hh;have hpk:=qf5 r.jn.le.2.1.1;have hpl:=qgr hpk 1;obtain⟨b,e1,e2,e3,_,_⟩:=qgd r.jn.dk.ev hge (h:=1-j.2.1) (by omega);have hG:(Nat.ble j.1.1.length 1000&&decide (Nat.mod j.1.1.length 2=0))=true:=r.halfG;have hw:IntKind.i64.wrap (Int.sub (Int.ofNat 1) j.2.1)=1-j.2.1:=wrap_in (by show -_<=(1:Int)-j.2.1/\(1:Int)-j.2.1<_;omega);have hw2:IntKind.i64.wrap (Int.sub ((b+(j.1.1.length / 2-1):Nat):Int) (b:Int))=((j.1.1.length / 2-1:Nat):Int):=by
   have:Int.sub ((b+(j.1.1.length / 2-1):Nat):Int) (b:Int)=((j.1.1.length / 2-1:Nat):Int):=by
    show ((b+(j.1.1.length / 2-1):Nat):Int)-(b:Int)=_;omega
   rw[this];exact wrap_in (by omega)
  rw[h1,jav,jad,jan rfl,hG,jaa,hw,e1];simp only;rw[qtr hpk (m:=Int.ofNat 1) ⟨by decide,by decide⟩,jaa,hw2];simp only;by_cases h3:j.1.1.length / 2-1<(S.packed j.2.2.2 1).length
  ·have hn:S.turn j=none:=qu3 (by rw[e1];show ((b+(j.1.1.length / 2-1):Nat):Int)-(b:Int)<_;omega);rw[qco (show ((j.1.1.length / 2-1:Nat):Int)<Int.ofNat (S.packed j.2.2.2 (Int.ofNat 1)).length from by show ((j.1.1.length / 2-1:Nat):Int)<((S.packed j.2.2.2 1).length:Int);omega),jaa,hn];rfl
  ·obtain⟨b',f1,f2,_,_,_⟩:=q37 r.jn (by omega);have hbb:b'=b:=by
    rw[e1] at f1;have:=jaw (·.1) f1;have:(b:Int)=(b':Int):=this;omega
   subst hbb;rw[<- r.eq] at f2;rw[qcu (show ¬((j.1.1.length / 2-1:Nat):Int)<Int.ofNat (S.packed j.2.2.2 (Int.ofNat 1)).length from by show ¬((j.1.1.length / 2-1:Nat):Int)<((S.packed j.2.2.2 1).length:Int);omega),jad,f2];exact q3a j b' (j.1.1.length / 2-1) hh hpk (by omega) (j.1.1.length / 2-1) LF 0 (by omega) (by unfold LF;omega)
 ·rw[jcl.2 h1,jau,jaa,jao (by decide)];rfl
theorem q1e:Con Tryz.prog zu0 qyk:=zgo ⟨qzz,qu7,qwo,qsl,q7v,q7p,q6v,zd7,trivial⟩ fun x y hx h=>⟨LF,(z18 x.1).trans h⟩
theorem q8o:Con Tryz.prog zvz qyu:=znp ⟨q4e,q1e,trivial⟩ fun x y hx h=>⟨0,h⟩
theorem qxd{j:qad}{a u:Nat}(r:RJ j a u)(h1:S.right j=true):(S.turn j=none/\S.turnJ j=(S.noJ,14)/\S.planTurn j=([],14)/\j.1.1.length / 2-1<(S.packed j.2.2.2 1).length) \/
  ∃b:Nat,S.half j.1.1.length (1-j.2.1)=((b:Int),((b+(j.1.1.length / 2-1):Nat):Int))/\S.turn j=some (turA j.1.1 (1-j.2.1) b j.2.2.2)/\S.planTurn j=(turA j.1.1 (1-j.2.1) b j.2.2.2,0)/\S.doD j.1 (turA j.1.1 (1-j.2.1) b j.2.2.2)=((turL j.1.1 (1-j.2.1) b j.2.2.2,[]),0) /\
   S.turnJ j=(((turL j.1.1 (1-j.2.1) b j.2.2.2,[]),1-j.2.1,((S.packed j.2.2.2 1).length:Int),j.2.2.2),0)/\Jn (turL j.1.1 (1-j.2.1) b j.2.2.2) (1-j.2.1) b (S.packed j.2.2.2 1).length j.2.2.2:=by
 by_cases h3:j.1.1.length / 2-1<(S.packed j.2.2.2 1).length
 ·left;have hh:=r.jn.hh;obtain⟨b,e1,e2,e3,_,_⟩:=qgd r.jn.dk.ev r.jn.dk.ge (h:=1-j.2.1) (by omega);have hn:S.turn j=none:=qu3 (by rw[e1];show ((b+(j.1.1.length / 2-1):Nat):Int)-(b:Int)<_;omega);have hp:S.planTurn j=([],14):=by
   unfold S.planTurn;rw[jan h1,hn]
  refine⟨hn,?_,hp,h3⟩;unfold S.turnJ;rw[hp];rfl
 ·right;obtain⟨b,f1,f2,f3,f4,f5⟩:=q37 r.jn (by omega);rw[<- r.eq] at f2;have hq:j.1=(j.1.1,[]):=jaw (·.1) r.eq;rw[<- hq] at f3;have hp:S.planTurn j=(turA j.1.1 (1-j.2.1) b j.2.2.2,0):=by
   unfold S.planTurn;rw[jan h1,f2]
  refine⟨b,f1,f2,hp,f3,?_,f4⟩;unfold S.turnJ;rw[hp];show S.open_ (S.doD j.1 (turA j.1.1 (1-j.2.1) b j.2.2.2)).1=_;rw[f3];exact f4.opened_
theorem qqq{j:qad}{a u:Nat}(r:RJ j a u){l:List qaa}(hl:S.okC l=true):(S.commit j l=none/\j.1.1.length / 2-1<u+(S.packed l 1).length) \/
  ∃A,S.commit j l=some A/\A=S.laid l ((a+u:Nat):Int) ((a+(j.1.1.length / 2-1):Nat):Int) true/\u+(S.packed l 1).length<=j.1.1.length / 2-1/\S.doD j.1 A=((comL j.1.1 a u l,[]),0) /\
   S.behind j A=(((comL j.1.1 a u l,[]),j.2.1,((u+(S.packed l 1).length:Nat):Int),S.changed j.2.2.2 l),0)/\Jn (comL j.1.1 a u l) j.2.1 a (u+(S.packed l 1).length) (S.changed j.2.2.2 l):=by
 have hu:=r.jn.le.1;by_cases h3:j.1.1.length / 2-1<u+(S.packed l 1).length
 ·exact .inl ⟨qyp (by rw[r.room2];omega),h3⟩
 ·right;obtain⟨c1,c2,c3,_⟩:=zbv r.jn hl (by omega);rw[<- r.eq] at c1;have hq:j.1=(j.1.1,[]):=jaw (·.1) r.eq;rw[<- hq] at c2;refine⟨_,c1,rfl,by omega,c2,?_,c3⟩;unfold S.behind;rw[c2];exact c3.opened_
theorem zt5(lf:Nat)(j:qad)(l:List qaa):qty lf j l=some (S.save j l,()):=by
 simp only[qty,q7q];show cond (!S.right j) _ (cond (!ieqI (S.size l).2 _) _ (match (cond (S.smallJ j) (some (S.roomR j,())) none) with|none=>none|some v=>cond (!iltI v.1 (S.size l).1) (some (S.commitJ j l,())) (cond (!ieqI (S.turnJ j).2 (Int.ofNat 0)) (some (S.turnJ j,())) (some (S.commitJ (S.turnJ j).1 l,())))))=_;unfold S.save;by_cases h1:S.right j=true
 ·obtain⟨a,u,r⟩:=qed h1;rw[h1,jav,jad,jan rfl];by_cases h2:(S.size l).2=0
  ·obtain⟨hok,hn,_⟩:=qng h2;have hu:=r.jn.le.1;rw[qa8 (show _=Int.ofNat 0 from h2),jav,jad,jan h2,r.small,jaa,hn];simp only;rw[r.room];rcases qqq r hok with ⟨c1,c2⟩|⟨A,c1,_,c2,c3,c4,c5⟩
   ·rw[qco (by omega),jav,jad,c1];simp only;rcases qxd r h1 with ⟨t1,t2,t3,_⟩|⟨b,t1,t2,t3,t4,t5,t6⟩
    ·rw[t2];rfl
    ·have h5:(S.turnJ j).2=0:=by rw[t5]
     rw[qa8 (show _=Int.ofNat 0 from h5),jav,jad,jan h5];have hr:S.right (S.turnJ j).1=true:=by rw[t5];exact t6.right
     have hp:S.plan (S.turnJ j).1 l=match S.commit (S.turnJ j).1 l with
       | some a=>(a,0)
       | none=>([],14):=by
      unfold S.plan;rw[jan hr,jan h2];cases S.commit (S.turnJ j).1 l<;>rfl
     unfold S.commitJ;rw[hp];cases S.commit (S.turnJ j).1 l<;>rfl
   ·rw[qcu (by omega),jau,jaa,c1];have hp:S.plan j l=(A,0):=by
     unfold S.plan;rw[jan h1,jan h2,c1]
    unfold S.commitJ;rw[hp];rfl
  ·rw[qa9 (show ¬_=Int.ofNat 0 from h2),jau,jaa,jao h2];rfl
 ·rw[jcl.2 h1,jau,jaa,jao (by decide)];rfl
theorem zwb:Con Tryz.prog z1d q2o:=zxt ⟨qzz,q1r,zar,zrp,q8o,trivial⟩ fun x y hx h=>⟨0,(zt5 0 x.1 x.2.1).trans h⟩
theorem ziw(lf:Nat)(j:qad)(h:S.smallJ j=true):qr2 lf j=some (S.roomOf j,()):=by
 obtain⟨h1,h2,h3,h4⟩:=qpq h;simp only[qr2,ze5];rw[show S.inI (Int.ofNat j.1.1.length) (Int.ofNat 0) (Int.ofNat 1000)=true from qav.2 ⟨jbb _,by show (j.1.1.length:Int)<=1000;omega⟩,jaa];simp only;unfold S.roomOf;show some (IntKind.i64.wrap (Int.sub (IntKind.i64.wrap ((S.half j.1.1.length j.2.1).2-(S.half j.1.1.length j.2.1).1)) j.2.2.1),())=_;have hb:-1000<=(S.half j.1.1.length j.2.1).2-(S.half j.1.1.length j.2.1).1/\(S.half j.1.1.length j.2.1).2-(S.half j.1.1.length j.2.1).1<=1000:=by
  unfold S.half;split
  ·show -1000<=((j.1.1.length / 2:Nat):Int)-1/\((j.1.1.length / 2:Nat):Int)-1<=1000;omega
  ·show -1000<=(j.1.1.length:Int)-1-((j.1.1.length / 2:Nat):Int)/\(j.1.1.length:Int)-1-((j.1.1.length / 2:Nat):Int)<=1000;omega
 rw[wrap_in (n:=(S.half j.1.1.length j.2.1).2-(S.half j.1.1.length j.2.1).1) (by omega)];refine jaw (fun z=>some (z,())) (wrap_in ?_);show -_<=(S.half j.1.1.length j.2.1).2-(S.half j.1.1.length j.2.1).1-j.2.2.1/\(S.half j.1.1.length j.2.1).2-(S.half j.1.1.length j.2.1).1-j.2.2.1<_;omega
theorem ze2:Con Tryz.prog zre qwk:=zii ⟨qo0,trivial⟩ fun x y hx h=>⟨0,by
 obtain⟨h1,h2⟩:=qa5 (show cond (S.smallJ x.1) (some (S.roomOf x.1,())) none=some y from h);exact(ziw 0 x.1 h1).trans (jaw some h2)⟩
theorem zl8(l:List qaa):Fz23 LF l=some ((S.size l).1,(S.size l).2,()):=by
 simp only[Fz23,qup];unfold S.size;rw[qa3,qfg];by_cases h1:60<l.length
 ·rw[jaj h1,jaa,jan h1];rfl
 rw[jal h1,jad,jao h1];by_cases h2:l.length=0
 ·rw[jaj h2,jaa,jan h2];rfl
 rw[jal h2,jad,jao h2];have hfin:∀b:Bool,b=S.okC l->(cond b (some (((S.packed l 1).length:Int),(0:Int),())) (some ((0:Int),(1:Int),())))=some ((cond (S.okC l) (((S.packed l 1).length:Int),(0:Int)) ((0:Int),(1:Int))).1,(cond (S.okC l) (((S.packed l 1).length:Int),(0:Int)) ((0:Int),(1:Int))).2,()):=fun b hb=>by
  subst hb;cases S.okC l<;>rfl
 refine(range0 (σ:=Unit) (R:=qc6) (T:=fun K p=>ql2 LF l K p) l (fun i _=>i) (fun i _=>S.okGo (l.drop i) (qbr l i)=S.okC l\/S.okC l=S.okGo (l.drop i) (qbr l i)) (fun rest i _=>cond (S.okGo rest (qbr l i)) (some (((S.packed l 1).length:Int),(0:Int),())) (some ((0:Int),(1:Int),()))) (by unfold LF;omega) (fun K s hs=>?_) (fun K i v rest s hs r hk=>?_) () (.inl rfl)).trans (hfin _ rfl)
 ·rw[jbo (jat _)] at hs;have hok:S.okC l=true:=hs.elim (fun h=>h.symm) id;simp only[ql2,qbt,jad];rw[qf5 hok,jaa];rfl
 ·have hd:=r.drop;have hi:=r.lt;have hgi:l[i]?=some v:=by
   have:=r.get
   rwa [qbo] at this
  have hst:S.okGo (v::rest) (qbr l i)=(S.inI v.1 0 199&&(decide (v.2.1.size<=4000)&&(!(v.2.2&&!decide (v.2.1.size=0))&&(decide (qbr l i<v.1)&&S.okGo rest v.1)))):=rfl;have hs':S.okC l=S.okGo (v::rest) (qbr l i):=by rw[hd] at hs;exact hs.elim (fun h=>h.symm) id
  have hnext:qbr l (i+1)=v.1:=q1i hgi;rw[hnext] at hk;simp only[ql2,r.ilt,r.get,r.next,jaa];rw[hst];by_cases c1:S.inI v.1 0 199=true
  ·rw[show S.inI v.1 (Int.ofNat 0) (Int.ofNat 199)=true from c1,jav,jad,c1,jbt,qa3];by_cases c2:v.2.1.size<=4000
   ·rw[jal (show ¬4000<v.2.1.size by omega),jad,jaj c2,jbt,zfo];have hv0:0<=v.1:=(qav.1 c1).1;have hfinal:cond (decide (qbr l i<v.1)) (K (Int.ofNat (i+1))) (some (Int.ofNat 0,Int.ofNat 1,()))=cond (decide (qbr l i<v.1)&&S.okGo rest v.1) (some (((S.packed l 1).length:Int),(0:Int),())) (some ((0:Int),(1:Int),()))\/¬(v.2.2&&!decide (v.2.1.size=0))=false:=by
     by_cases cg:(v.2.2&&!decide (v.2.1.size=0))=false
     ·left;by_cases c4:qbr l i<v.1
      ·rw[jaj c4,jaa,jbt];refine hk () ?_;rw[r.tail];left;rw[hs',hst,c1,jaj c2,cg,jaj c4];rfl
      ·rw[jal c4,jad,jb7,jad];rfl
     ·exact .inr cg
    cases hg:v.2.2 with
    | true =>
     rw[jaa,jbt];by_cases c3:v.2.1.size=0
     ·rw[jaj c3,jav,jad,jau,jbt];refine(qo3 (l:=l) hv0 (by omega) (by omega) _ _).trans ?_;refine hfinal.resolve_right ?_;rw[jaj c3,jav,jfl];decide
     ·rw[jal c3,jau,jaa,jav,jb7,jad];rfl
    | false =>
     rw[jad,jb7,jau,jbt];refine(qo3 (l:=l) hv0 (by omega) (by omega) _ _).trans ?_;refine hfinal.resolve_right ?_;rw[hg,jb7];decide
   ·rw[jaj (show 4000<v.2.1.size by omega),jaa,jal c2,jb7,jad];rfl
  ·have c1:=jcl.2 c1;rw[show S.inI v.1 (Int.ofNat 0) (Int.ofNat 199)=false from c1,jau,jaa,c1,jb7,jad];rfl
theorem zbg:Con Tryz.prog z0f q0r:=zrq ⟨qj7,qqc,trivial⟩ fun x y hx h=>⟨LF,(zl8 x.1).trans h⟩
theorem qvo{j:qad}(h:S.right j=true):S.errR j=0:=by unfold S.errR;rw[jan h]
theorem qe7{j:qad}(h:¬S.right j=true):S.errR j=1:=by unfold S.errR;rw[jao h]
theorem qzl{d:qac}(h:S.checkDisk d=0):S.okL d=true:=by
 have k:=zdd h;unfold S.okL S.secs;rw[jae,jae,jae,jb4];refine⟨⟨jar k.le,jc5.2 fun s q=>?_⟩,jar k.ge,jaj k.ev⟩;unfold S.short;rw[k.sz s q];decide
theorem zh6(lf:Nat)(j:qad):qp1 lf j=some (S.errR j,()):=by
 simp only[qp1,q6g];show cond (!ieqI (S.checkDisk j.1) _) _ (cond (iltI (Int.ofNat 0) (Int.ofNat j.1.2.length)) _ (match (cond (S.okL j.1) (some ((S.openedJ j.1).1,((S.openedJ j.1).2,()))) none) with|none=>none|some v=>_))=_;by_cases h0:S.checkDisk j.1=0
 ·rw[qa8 (show _=Int.ofNat 0 from h0),jav,jad,qa3];by_cases h1:j.1.2.length=0
  ·have hq:j.1.2=[]:=ja5.1 h1;rw[jal (by omega),jad,qzl h0,jaa];simp only;unfold S.openedJ;cases ho:S.opened j.1.1 with
   | none =>
    have hr:¬S.right j=true:=fun h=>by
     obtain⟨a,u,r⟩:=qed h;rw[r.jn.open_] at ho;cases ho
    rw[qe7 hr];rfl
   | some x =>
    obtain⟨hf,u,c⟩:=x;simp only;rw[jav,jad,qcq,qcq];have hop:S.open_ j.1=(((j.1.1,[]),hf,(u:Int),c),0):=by
     unfold S.open_;rw[jan h0,jan h1,ho]
    have hre:S.right j=decide ((((j.1.1,[]),hf,(u:Int),c):qad)=j):=by
     unfold S.right;rw[hop];rfl
    obtain⟨⟨L,q⟩,h',u',c'⟩:=j;simp only at hq;subst hq;show cond (!decide (hf=h')) _ (cond (!decide ((u:Int)=u')) _ (cond (!decide (c=c')) _ _))=_;by_cases e1:hf=h'
    ·by_cases e2:(u:Int)=u'
     ·by_cases e3:c=c'
      ·rw[jaj e1,jaj e2,jaj e3,qvo (by rw[hre,e1,e2,e3];exact jaj rfl)];rfl
      ·rw[jaj e1,jaj e2,jal e3,qe7 (fun h=>by rw[hre] at h;exact e3 (jaw (fun z:qad=>z.2.2.2) (jbe h)))];rfl
     ·rw[jaj e1,jal e2,qe7 (fun h=>by rw[hre] at h;exact e2 (jaw (fun z:qad=>z.2.2.1) (jbe h)))];rfl
    ·rw[jal e1,qe7 (fun h=>by rw[hre] at h;exact e1 (jaw (fun z:qad=>z.2.1) (jbe h)))];rfl
  ·have hr:¬S.right j=true:=fun h=>by
    obtain⟨a,u,jn,h2,_⟩:=qt8 h;rw[h2] at h1;exact h1 rfl
   rw[jaj (by omega),jaa,qe7 hr];rfl
 ·have hr:¬S.right j=true:=fun h=>by
   obtain⟨a,u,jn,h2,_⟩:=qt8 h;have:=jn.dk.check;rw[show j.1=(j.1.1,[]) from Prod.ext rfl h2] at h0;exact h0 this
  rw[qa9 (show ¬_=Int.ofNat 0 from h0),jau,jaa,qe7 hr];rfl
theorem zlr(lf:Nat)(d:qac):qnv lf d=some ((S.open_ d).1,(S.open_ d).2,()):=by
 simp only[qnv,zaz];unfold S.open_;show cond (!ieqI (S.checkDisk d) _) _ (cond (iltI (Int.ofNat 0) (Int.ofNat d.2.length)) _ (match (cond (S.okL d) (some ((S.openedJ d).1,((S.openedJ d).2,()))) none) with|none=>none|some v=>_))=_;by_cases h0:S.checkDisk d=0
 ·rw[qa8 (show _=Int.ofNat 0 from h0),jav,jad,qa3,jan h0];by_cases h1:d.2.length=0
  ·rw[jal (by omega),jad,qzl h0,jaa,jan h1];simp only;unfold S.openedJ;cases S.opened d.1<;>rfl
  ·rw[jaj (by omega),jaa,jao h1];rfl
 ·rw[qa9 (show ¬_=Int.ofNat 0 from h0),jau,jaa,jao h0];rfl
theorem zqc(lf:Nat)(j:qad):qn6 lf j=some ((S.room j).1,(S.room j).2,()):=by
 simp only[qn6,q57];unfold S.room;show cond (!ieqI (S.errR j) _) (some (_,S.errR j,())) (match (cond (S.smallJ j) (some (S.roomOf j,())) none) with|none=>none|some v=>_)=_;by_cases h1:S.right j=true
 ·obtain⟨a,u,r⟩:=qed h1;rw[qvo h1,show ieqI 0 (Int.ofNat 0)=true from rfl,jav,jad,r.small,jaa,jan h1];rfl
 ·rw[qe7 h1,show ieqI 1 (Int.ofNat 0)=false from rfl,jau,jaa,jao h1];rfl
theorem zy6(lf:Nat)(j:qad)(l:List qaa):qqm lf j l=some (S.asked j l,()):=by
 simp only[qqm,zc4];unfold S.asked;show cond (!ieqI (S.errR j) _) (some (S.errR j,())) _=_;by_cases h1:S.right j=true
 ·rw[qvo h1,show ieqI 0 (Int.ofNat 0)=true from rfl,jav,jad,jan h1]
 ·rw[qe7 h1,show ieqI 1 (Int.ofNat 0)=false from rfl,jau,jaa,jao h1]
theorem zbc(a b:List DAct):S.app a b=a++b:=rfl
theorem qcg{a:List DAct}{n:Nat}(h:a.length<=n):Nat.ble (S.lenA a) n=true:=jar h
theorem qur(a:Int)(s:ByteArray):S.puts a [s]=[S.put a s]:=rfl
theorem unm(l:List qaa):qae (0::(qab ((S.packed l 1).getD 0 S.none_)).drop 1)=(S.packed l 0).getD 0 S.none_:=by
 have e:∀m:Int,0<=m/\m<256->qab ((S.packed l m).getD 0 S.none_)=m::((S.recB l 0).drop 1).take 63++List.replicate (64-(S.recB l 0).length) 0:=fun m hm=>by
  have h:=qga ((S.body l).length+3) (b:=S.recB l m) (by rw[qen];omega);have:S.packed l m=qae ((S.recB l m).take 64++List.replicate (64-(S.recB l m).length) 0)::S.chunks ((S.body l).length+3) ((S.recB l m).drop 64):=h;rw[this];exact qbi (qfl (qd7 (qhq l hm) 64) (qfp _))
 refine qep ?_;rw[e 1 (by omega),e 0 (by omega)];have hr:rng ((0:Int)::(((S.recB l 0).drop 1).take 63++List.replicate (64-(S.recB l 0).length) 0)):=fun x hx=>by
  rcases ja1.1 hx with rfl|hx
  ·decide
  ·exact qfl (qd7 (qc1 (qhq l (by decide)) 1) 63) (qfp _) x hx
 exact qbi hr
theorem unm2(l:List qaa):qae (Int.ofNat 0::(qab ((S.packed l 1).getD 0 S.none_)).drop 1)=(S.packed l 0).getD 0 S.none_:=unm l
theorem zcy(l:List ByteArray):lsub l (Int.ofNat 1) (Int.ofNat l.length)=l.drop 1:=by
 unfold lsub;show (l.take l.length).drop 1=_;rw[jfs]
theorem q33(l:List qaa)(a:Nat):S.puts (a:Int) [(S.packed l 0).getD 0 S.none_]++S.puts ((a+1:Nat):Int) ((S.packed l 1).drop 1)=S.puts (a:Int) (S.packed l 0):=by
 rw[qyg l 0];exact(qs6 a [(S.packed l 0).getD 0 S.none_] ((S.packed l 1).drop 1)).symm
theorem in0{n:Nat}(h:n<=1000000):S.inI ((n:Nat):Int) (Int.ofNat 0) (Int.ofNat 1000000)=true:=qav.2 ⟨jbb _,by show (n:Int)<=1000000;omega⟩
theorem zh1{j:qad}{l:List qaa}(h:S.comG j l=true):S.smallJ j=true/\S.pk l=true/\0<=j.2.2.1/\j.2.2.1<=1000:=by
 unfold S.comG at h;rw[jae,jae,qav] at h;exact⟨h.1,h.2.1,h.2.2⟩
theorem zoc(n:Nat)(hn:n<=1000)(h:Int)(h1:0<n\/h=0):∃a b:Nat,(S.half n h).1=(a:Int)/\(S.half n h).2=(b:Int)/\a<=1000/\b<=1000:=by
 unfold S.half;by_cases e:h=0
 ·rw[jan e];exact⟨1,n / 2,rfl,rfl,by omega,by omega⟩
 ·rw[jao e];have:0<n:=h1.resolve_right e;exact⟨n / 2,n-1,rfl,by show (n:Int)-1=((n-1:Nat):Int);omega,by omega,by omega⟩
theorem zqt(lf:Nat)(j:qad)(l:List qaa)(h:S.comG j l=true):qs8 lf j l=some ((S.actsB (S.commit j l)).1,(S.actsB (S.commit j l)).2,()):=by
 obtain⟨hs,hp,hu0,hu1⟩:=zh1 h;obtain⟨h1,h2,_,_⟩:=qpq hs;have hpl:=qgr hp 1;have hpos:=qek l 1;have hp0:(S.packed l 0).length=(S.packed l 1).length:=by rw[qc8,qc8]
 simp only[qs8,zfl];show (match (cond (S.pk l) (some ((S.packed l 1),())) none) with|none=>none|some v0=>(match (cond (S.smallJ j) (some (S.roomOf j,())) none) with|none=>none|some v1=>_))=_;rw[hp,jaa,hs,jaa];simp only;by_cases c0:S.roomOf j<((S.packed l 1).length:Int)
 ·rw[qco (show S.roomOf j<Int.ofNat (S.packed l 1).length from c0),jaa,qyp c0];rfl
 rw[qcu (show ¬S.roomOf j<Int.ofNat (S.packed l 1).length from c0),jad,q9w c0,show S.inI (Int.ofNat j.1.1.length) (Int.ofNat 0) (Int.ofNat 1000)=true from qav.2 ⟨jbb _,by show (j.1.1.length:Int)<=1000;omega⟩,jaa];simp only;obtain⟨a,b,ea,eb,ha,hb⟩:=zoc j.1.1.length h1 j.2.1 (by
  refine jes j.1.1.length |>.elim (fun e=>?_) (fun e=>.inl e);refine jco fun hc=>?_;have hc:¬j.2.1=0:=fun h=>hc (.inr h);have:S.roomOf j=-1-j.2.2.1:=by
   unfold S.roomOf S.half;rw[e,jao hc];show ((0:Nat):Int)-1-((0 / 2:Nat):Int)-j.2.2.1=_;omega
  rw[this] at c0;omega)
 obtain⟨u,hu⟩:∃u:Nat,j.2.2.1=(u:Int):=⟨j.2.2.1.toNat,by omega⟩;have huu:u<=1000:=by omega
 rw[show Int.toNat (Int.ofNat j.1.1.length)=j.1.1.length from rfl,ea,eb,hu];have w1:IntKind.i64.wrap (Int.add (a:Int) (u:Int))=((a+u:Nat):Int):=qa2 (n:=a+u) (by omega);have w2:IntKind.i64.wrap (Int.add ((a+u:Nat):Int) (Int.ofNat 1))=((a+u+1:Nat):Int):=qa2 (n:=a+u+1) (by omega);have w3:IntKind.i64.wrap (Int.add ((a+u:Nat):Int) (Int.ofNat (S.packed l 1).length))=((a+u+(S.packed l 1).length:Nat):Int):=qa2 (n:=a+u+(S.packed l 1).length) (by omega);have hsz:=qh4 l 1 _ (qfo (i:=0) (show 0<(S.packed l 1).length by omega));have l1:lchk (Int.ofNat 1) (Int.ofNat (S.packed l 1).length) (Int.ofNat (S.packed l 1).length) (Int.ofNat (S.packed l 1).length)=true:=qbv.2 ⟨by decide,by show (1:Int)<=((S.packed l 1).length:Int);omega,jbq _,jbq _⟩;have hdl:Nat.ble ((S.packed l 1).drop 1).length 1000000=true:=jar (by rw[jax];omega);have hpl0:(S.puts ((a+u:Nat):Int) (S.packed l 0)).length<=20000:=by rw[qfv];omega
 rw[w1,w3];simp only[qi7 (d:=S.none_) hpos,get0 (d:=S.none_) hpos,hsz,decide_true,jaa,unm2,w2,in0 (show a+u<=1000000 by omega),in0 (show a+u+1<=1000000 by omega),in0 (show a+u+(S.packed l 1).length<=1000000 by omega),l1,zcy,hdl,jfr,jbt,zbc,jc1];rw[qcg (show (S.puts ((a+u:Nat):Int) [(S.packed l 0).getD 0 S.none_]).length<=1000000 by rw[qfv];show 1<=_;omega),jaa];simp only;rw[q33 l (a+u),qcg (show (S.puts ((a+u:Nat):Int) (S.packed l 0)).length<=1000000 by omega),jaa];simp only;rw[qcg (show (S.puts ((a+u:Nat):Int) (S.packed l 0)).length<=4000000 by omega),jaa];simp only;rw[qcg (show (S.puts ((a+u:Nat):Int) (S.packed l 0)++[S.sync]).length<=1000000 by rw[jah];show _+1<=_;omega),jaa];simp only;rw[qcg (show (S.puts ((a+u:Nat):Int) (S.packed l 0)++[S.sync]++S.puts ((a+u:Nat):Int) [(S.packed l 1).getD 0 S.none_]).length<=4000000 by rw[jah,jah];show _+1+1<=_;omega),jaa];simp only;rw[qcg (show (S.puts ((a+u:Nat):Int) (S.packed l 0)++S.puts ((a+u+(S.packed l 1).length:Nat):Int) [S.blank]).length<=4000000 by rw[jah];show _+1<=_;omega),jaa];simp only;rw[qcg (show (S.puts ((a+u:Nat):Int) (S.packed l 0)++S.puts ((a+u+(S.packed l 1).length:Nat):Int) [S.blank]++[S.sync]).length<=1000000 by rw[jah,jah];show _+1+1<=_;omega),jaa];simp only;rw[qcg (show (S.puts ((a+u:Nat):Int) (S.packed l 0)++S.puts ((a+u+(S.packed l 1).length:Nat):Int) [S.blank]++[S.sync]++S.puts ((a+u:Nat):Int) [(S.packed l 1).getD 0 S.none_]).length<=4000000 by rw[jah,jah,jah];show _+1+1+1<=_;omega),jaa,qbu];unfold S.laid;rw[jbt];have hc2:(a:Int)+(u:Int)=((a+u:Nat):Int):=by omega
 have hc3:((a+u:Nat):Int)+((S.packed l 1).length:Int)=((a+u+(S.packed l 1).length:Nat):Int):=by omega
 rw[hc2,hc3];cases decide (((a+u+(S.packed l 1).length:Nat):Int)<(b:Int)) with
 | true =>
  simp only[jaa,qur,jay];rfl
 | false =>
  simp only[jad,qur,jay,jc1];rfl
theorem zs5{d:qac}(h:(S.open_ d).2=0):S.okL d=true/\S.openedJ d=((S.open_ d).1,true):=by
 obtain⟨hf,a,u,c,jn,h1,h2⟩:=zdh h;have hd:d=(d.1,[]):=Prod.ext rfl h1;refine⟨qzl (by rw[hd];exact jn.dk.check),?_⟩;unfold S.openedJ;rw[jn.open_,h2]
theorem zos(lf:Nat)(j:qad)(a:List DAct)(h:S.behG j a=true):qra lf j a=some ((S.behind j a).1,()):=by
 unfold S.behG at h;rw[jae] at h;have h1:=jbe h.1;simp only[qra,q7d];unfold S.behind at h1 ⊢;obtain⟨h2,h3⟩:=zs5 h1;show (match (cond (S.okL (S.doD j.1 a).1) (some ((S.openedJ (S.doD j.1 a).1).1,((S.openedJ (S.doD j.1 a).1).2,()))) none) with|none=>none|some v=>_)=_;rw[h2,jaa,h3]
theorem zox{j:qad}(h:S.turG j=true):S.smallJ j=true/\S.pk j.2.2.2=true/\(j.2.1=0\/j.2.1=1)/\8<=j.1.1.length:=by
 unfold S.turG at h;rw[jae,jae,jae,qav] at h;exact⟨h.1,h.2.1,by omega,jam h.2.2.2⟩
theorem z1s(lf:Nat)(j:qad)(h:S.turG j=true):qn2 lf j=some ((S.actsB (S.turn j)).1,(S.actsB (S.turn j)).2,()):=by
 obtain⟨hs,hp,hh,hge⟩:=zox h;obtain⟨h1,h2,_,_⟩:=qpq hs;have hpl:=qgr hp 1;have hpos:=qek j.2.2.2 1;have hp0:(S.packed j.2.2.2 0).length=(S.packed j.2.2.2 1).length:=by rw[qc8,qc8]
 obtain⟨b,e1,e2,e3,_,_⟩:=qgd h2 hge (h:=1-j.2.1) (by omega);have hw:IntKind.i64.wrap (Int.sub (Int.ofNat 1) j.2.1)=1-j.2.1:=wrap_in (by show -_<=(1:Int)-j.2.1/\(1:Int)-j.2.1<_;omega);have hw2:IntKind.i64.wrap (Int.sub ((b+(j.1.1.length / 2-1):Nat):Int) (b:Int))=Int.ofNat (j.1.1.length / 2-1):=by
  have:Int.sub ((b+(j.1.1.length / 2-1):Nat):Int) (b:Int)=Int.ofNat (j.1.1.length / 2-1):=by
   show ((b+(j.1.1.length / 2-1):Nat):Int)-(b:Int)=((j.1.1.length / 2-1:Nat):Int);omega
  rw[this];exact qa2 (by omega)
 simp only[qn2,ze9,hw];rw[hp,jaa];simp only;rw[show S.inI (Int.ofNat j.1.1.length) (Int.ofNat 0) (Int.ofNat 1000)=true from qav.2 ⟨jbb _,by show (j.1.1.length:Int)<=1000;omega⟩,jaa];simp only;rw[show Int.toNat (Int.ofNat j.1.1.length)=j.1.1.length from rfl,e1];simp only[hw2];by_cases c0:j.1.1.length / 2-1<(S.packed j.2.2.2 1).length
 ·have hn:S.turn j=none:=qu3 (by rw[e1];show ((b+(j.1.1.length / 2-1):Nat):Int)-(b:Int)<((S.packed j.2.2.2 1).length:Int);omega);rw[qco (show Int.ofNat (j.1.1.length / 2-1)<Int.ofNat (S.packed j.2.2.2 (Int.ofNat 1)).length from jd0.2 c0),jaa,hn];rfl
 have hsome:S.turn j=some (turA j.1.1 (1-j.2.1) b j.2.2.2):=by
  rw[q91 (by rw[e1];show ¬((b+(j.1.1.length / 2-1):Nat):Int)-(b:Int)<((S.packed j.2.2.2 1).length:Int);omega),e1];have:(((b+(j.1.1.length / 2-1):Nat):Int)-(b:Int)).toNat=j.1.1.length / 2-1:=by omega
  simp only[this];rfl
 rw[qcu (show ¬Int.ofNat (j.1.1.length / 2-1)<Int.ofNat (S.packed j.2.2.2 (Int.ofNat 1)).length from fun h=>c0 (jd0.1 h)),jad,hsome];unfold turA;have hR:(S.puts (b:Int) (List.replicate (j.1.1.length / 2-1) S.blank)).length<=1000:=by rw[qfv,ja4];omega
 have w2:IntKind.i64.wrap (Int.add (b:Int) (Int.ofNat 1))=((b+1:Nat):Int):=qa2 (n:=b+1) (by omega);have hsz:=qh4 j.2.2.2 1 _ (qfo (i:=0) (show 0<(S.packed j.2.2.2 1).length by omega));have l1:lchk (Int.ofNat 1) (Int.ofNat (S.packed j.2.2.2 1).length) (Int.ofNat (S.packed j.2.2.2 1).length) (Int.ofNat (S.packed j.2.2.2 1).length)=true:=qbv.2 ⟨by decide,by show (1:Int)<=((S.packed j.2.2.2 1).length:Int);omega,jbq _,jbq _⟩;have hdl:Nat.ble ((S.packed j.2.2.2 1).drop 1).length 1000000=true:=jar (by rw[jax];omega);have hpl0:(S.puts (b:Int) (S.packed j.2.2.2 0)).length<=20000:=by rw[qfv];omega
 have hj0:jget (S.packed j.2.2.2 (Int.ofNat 1)) (Int.ofNat 0)=some ((S.packed j.2.2.2 1).getD 0 S.none_):=qi7 hpos;have hg0:(S.packed j.2.2.2 (Int.ofNat 1))[0]?=some ((S.packed j.2.2.2 1).getD 0 S.none_):=get0 hpos;have htop:ByteArray.append (qae [IntKind.u8.wrap (1-j.2.1)]) (qae (List.replicate 63 0))=topS (1-j.2.1):=by
  rw[qck,qjm,show (1-j.2.1) % 256=1-j.2.1 by omega];rfl
 rw[show S.inI (Int.ofNat (j.1.1.length / 2-1)) (Int.ofNat 0) (Int.ofNat 1000)=true from qav.2 ⟨jbb _,by show ((j.1.1.length / 2-1:Nat):Int)<=1000;omega⟩,jaa];simp only[show Int.toNat (Int.ofNat (j.1.1.length / 2-1))=j.1.1.length / 2-1 from rfl,in0 (show b<=1000000 by omega),w2,in0 (show b+1<=1000000 by omega),jbt,jfr,zbc,jc1,hj0,hg0,hsz,decide_true,jaa,unm2,q0s];rw[jar (show (List.replicate (j.1.1.length / 2-1) S.blank).length<=1000000 by rw[ja4];omega),jaa];simp only;generalize S.puts (b:Int) (List.replicate (j.1.1.length / 2-1) S.blank)=X at hR;rw[qcg (show X.length<=4000000 by omega),jaa];simp only;rw[qcg (show (X++[S.sync]).length<=1000000 by rw[jah];show _+1<=_;omega),jaa];simp only
 rw[show lchk (Int.ofNat 1) (Int.ofNat (S.packed j.2.2.2 (Int.ofNat 1)).length) (Int.ofNat (S.packed j.2.2.2 (Int.ofNat 1)).length) (Int.ofNat (S.packed j.2.2.2 (Int.ofNat 1)).length)=true from l1,jaa,
  show lsub (S.packed j.2.2.2 (Int.ofNat 1)) (Int.ofNat 1) (Int.ofNat (S.packed j.2.2.2 (Int.ofNat 1)).length)=(S.packed j.2.2.2 1).drop 1 from zcy _,hdl,jbt,qcg (show (X++[S.sync]++S.puts (b:Int) [(S.packed j.2.2.2 0).getD 0 S.none_]).length<=1000000 by rw[jah,jah];show _+1+1<=_;omega),jaa]
 simp only;rw[jay (X++[S.sync]),q33 j.2.2.2 b];generalize S.puts (b:Int) (S.packed j.2.2.2 0)=Y at hpl0;rw[qcg (show (X++[S.sync]++Y).length<=4000000 by rw[jah,jah];show _+1+_<=_;omega),jaa];simp only;rw[qcg (show (X++[S.sync]++Y++[S.sync]).length<=1000000 by rw[jah,jah,jah];show _+1+_+1<=_;omega),jaa];simp only;rw[qcg (show (X++[S.sync]++Y++[S.sync]++S.puts (b:Int) [(S.packed j.2.2.2 1).getD 0 S.none_]).length<=4000000 by rw[jah,jah,jah,jah];show _+1+_+1+1<=_;omega),jaa];simp only;rw[show S.inI (Int.ofNat 0) (Int.ofNat 0) (Int.ofNat 1000000)=true from rfl,jbt,qcg (show (X++[S.sync]++Y++[S.sync]++S.puts (b:Int) [(S.packed j.2.2.2 1).getD 0 S.none_]++[S.sync]).length<=1000000 by rw[jah,jah,jah,jah,jah];show _+1+_+1+1+1<=_;omega),jaa];simp only[qy4,zcr,htop];rw[qcg (show (X++[S.sync]++Y++[S.sync]++S.puts (b:Int) [(S.packed j.2.2.2 1).getD 0 S.none_]++[S.sync]++S.puts (Int.ofNat 0) [topS (1-j.2.1)]).length<=4000000 by rw[jah,jah,jah,jah,jah,jah];show _+1+_+1+1+1+1<=_;omega),jaa];simp only[qur,jay];rfl
theorem qzb{j:qad}{a u:Nat}(r:RJ j a u){l:List qaa}(hok:S.okC l=true):S.comG j l=true:=by
 have:=r.jn.le.1;have:=r.jn.dk.le;unfold S.comG;rw[jae,jae,qav,r.used];exact⟨r.small,qf5 hok,by omega⟩
theorem q52{j:qad}{a u:Nat}(r:RJ j a u):S.turG j=true:=by
 have h:=r.jn.hh;unfold S.turG;rw[jae,jae,jae,qav];exact⟨r.small,qf5 r.jn.le.2.1.1,by omega,jar r.jn.dk.ge⟩
theorem qkp{j:qad}{A:List DAct}{x:qad}{y:qac}(h:S.behind j A=(x,0))(k:S.doD j.1 A=(y,0)):S.behG j A=true:=by
 unfold S.behG;rw[h,k];rfl
theorem zsb{j:qad}{l:List qaa}(h1:S.right j=true)(h2:(S.size l).2=0):S.asked j l=0:=by
 unfold S.asked;rw[jan h1,h2]
theorem q9d{j:qad}{l:List qaa}:S.plan j l=if S.asked j l=0 then (match S.commit j l with
  | some a=>(a,0)
  | none=>([],14)) else ([],S.asked j l):=by
 unfold S.plan S.asked;by_cases h1:S.right j=true
 ·rw[jan h1,jan h1];by_cases h2:(S.size l).2=0
  ·rw[jan h2,jan h2];cases S.commit j l<;>rfl
  ·rw[jao h2,jao h2]
 ·rw[jao h1,jao h1,jao (by decide)]
theorem qz1{j:qad}{l:List qaa}(h:S.asked j l=0):S.right j=true/\(S.size l).2=0:=by
 unfold S.asked at h;by_cases h1:S.right j=true
 ·rw[jan h1] at h;exact⟨h1,h⟩
 ·rw[jao h1] at h;cases h
theorem zf6(lf:Nat)(j:qad)(l:List qaa):qpa lf j l=some ((S.plan j l).1,(S.plan j l).2,()):=by
 simp only[qpa,q9k];show cond (!ieqI (S.asked j l) _) (some (_,S.asked j l,())) (match (cond (S.comG j l) (some ((S.actsB (S.commit j l)).1,((S.actsB (S.commit j l)).2,()))) none) with|none=>none|some v=>_)=_;rw[q9d];by_cases h0:S.asked j l=0
 ·obtain⟨h1,h2⟩:=qz1 h0;obtain⟨a,u,r⟩:=qed h1;rw[qa8 (show S.asked j l=Int.ofNat 0 from h0),jav,jad,qzb r (qng h2).1,jaa,jan h0];simp only;cases S.commit j l<;>rfl
 ·rw[qa9 (show ¬S.asked j l=Int.ofNat 0 from h0),jau,jaa,jao h0]
theorem zxf{j:qad}{l:List qaa}(h:(S.plan j l).2=0):S.right j=true/\(S.size l).2=0/\∃A,S.commit j l=some A/\S.plan j l=(A,0):=by
 rw[q9d] at h ⊢;by_cases h0:S.asked j l=0
 ·obtain⟨h1,h2⟩:=qz1 h0;rw[jan h0] at h ⊢;cases hc:S.commit j l with
  | none=>rw[hc] at h;cases h
  | some A=>exact⟨h1,h2,A,rfl,rfl⟩
 ·rw[jao h0] at h;exact absurd h h0
theorem zza(lf:Nat)(j:qad)(l:List qaa):qqp lf j l=some ((S.commitJ j l).1,(S.commitJ j l).2,()):=by
 simp only[qqp,zb9];show cond (!ieqI (S.plan j l).2 _) (some (S.noJ,(S.plan j l).2,())) (match (cond (S.behG j (S.plan j l).1) (some ((S.behind j (S.plan j l).1).1,())) none) with|none=>none|some v=>_)=_;unfold S.commitJ;by_cases h0:(S.plan j l).2=0
 ·obtain⟨h1,h2,A,h3,h4⟩:=zxf h0;obtain⟨a,u,r⟩:=qed h1;rcases qqq r (qng h2).1 with ⟨c1,_⟩|⟨A',c1,_,_,c4,c5,_⟩
  ·rw[h3] at c1;cases c1
  ·have:A'=A:=by rw[h3] at c1;cases c1;rfl
   subst this;rw[jan h0,h4,show ieqI (A',(0:Int)).2 (Int.ofNat 0)=true from rfl,jav,jad,qkp c5 c4,jaa,c5];rfl
 ·rw[qa9 (show ¬(S.plan j l).2=Int.ofNat 0 from h0),jau,jaa,jao h0]
theorem zge{j:qad}:S.planTurn j=if S.errR j=0 then (match S.turn j with
  | some a=>(a,0)
  | none=>([],14)) else ([],S.errR j):=by
 unfold S.planTurn S.errR;by_cases h1:S.right j=true
 ·rw[jan h1,jan h1,jan rfl];cases S.turn j<;>rfl
 ·rw[jao h1,jao h1,jao (by decide)]
theorem zld{j:qad}(h:S.errR j=0):S.right j=true:=jco fun e=>by rw[qe7 e] at h;cases h
theorem zn8(lf:Nat)(j:qad):qsa lf j=some ((S.planTurn j).1,(S.planTurn j).2,()):=by
 simp only[qsa,q7w];show cond (!ieqI (S.errR j) _) (some (_,S.errR j,())) (match (cond (S.turG j) (some ((S.actsB (S.turn j)).1,((S.actsB (S.turn j)).2,()))) none) with|none=>none|some v=>_)=_;rw[zge];by_cases h0:S.errR j=0
 ·obtain⟨a,u,r⟩:=qed (zld h0);rw[qa8 (show S.errR j=Int.ofNat 0 from h0),jav,jad,q52 r,jaa,jan h0];simp only;cases S.turn j<;>rfl
 ·rw[qa9 (show ¬S.errR j=Int.ofNat 0 from h0),jau,jaa,jao h0]
theorem zhu(lf:Nat)(j:qad):qok lf j=some ((S.turnJ j).1,(S.turnJ j).2,()):=by
 simp only[qok,za4];show cond (!ieqI (S.planTurn j).2 _) (some (S.noJ,(S.planTurn j).2,())) (match (cond (S.behG j (S.planTurn j).1) (some ((S.behind j (S.planTurn j).1).1,())) none) with|none=>none|some v=>_)=_;by_cases h0:(S.planTurn j).2=0
 ·have h1:S.right j=true:=by
   unfold S.planTurn at h0;by_cases h1:S.right j=true
   ·exact h1
   ·rw[jao h1] at h0;cases h0
  obtain⟨a,u,r⟩:=qed h1;rcases qxd r h1 with ⟨_,_,t3,_⟩|⟨b,t1,t2,t3,t4,t5,_⟩
  ·rw[t3] at h0;cases h0
  ·have hb:S.behind j (turA j.1.1 (1-j.2.1) b j.2.2.2)=S.turnJ j:=by
    unfold S.turnJ;rw[t3];rfl
   rw[t3,show ieqI (turA j.1.1 (1-j.2.1) b j.2.2.2,(0:Int)).2 (Int.ofNat 0)=true from rfl,jav,jad,qkp (hb.trans t5) t4,jaa,hb,t5];rfl
 ·rw[qa9 (show ¬(S.planTurn j).2=Int.ofNat 0 from h0),jau,jaa];unfold S.turnJ;rw[jao h0]
theorem zi2(lf:Nat)(j:qad)(l:List qaa):qs2 lf j l=some ((S.save j l).1,(S.save j l).2,()):=by
 simp only[qs2,q26];show cond (!ieqI (S.asked j l) _) (some (S.noJ,S.asked j l,())) (match (cond (S.comG j l) (some ((S.actsB (S.commit j l)).1,((S.actsB (S.commit j l)).2,()))) none) with|none=>none|some v=>_)=_;unfold S.save;by_cases h0:S.asked j l=0
 ·obtain⟨h1,h2⟩:=qz1 h0;obtain⟨a,u,r⟩:=qed h1;have hok:=(qng h2).1;rw[qa8 (show S.asked j l=Int.ofNat 0 from h0),jav,jad,qzb r hok,jaa,jan h1,jan h2];simp only;rcases qqq r hok with ⟨c1,_⟩|⟨A,c1,_,_,c4,c5,_⟩
  ·rw[c1];show (match (cond (S.turG j) (some ((S.actsB (S.turn j)).1,((S.actsB (S.turn j)).2,()))) none) with|none=>none|some t=>_)=_;rw[q52 r,jaa];simp only;rcases qxd r h1 with ⟨t1,t2,t3,_⟩|⟨b,t1,t2,t3,t4,t5,t6⟩
   ·rw[t1,t2];rfl
   ·have hb:S.behind j (turA j.1.1 (1-j.2.1) b j.2.2.2)=S.turnJ j:=by
     unfold S.turnJ;rw[t3];rfl
    have h5:(S.turnJ j).2=0:=by rw[t5]
    have hr:S.right (S.turnJ j).1=true:=by rw[t5];exact t6.right
    obtain⟨a',u',r'⟩:=qed hr;rw[t2,jan h5];show cond (!true) _ (match (cond (S.behG j (turA j.1.1 (1-j.2.1) b j.2.2.2)) (some ((S.behind j (turA j.1.1 (1-j.2.1) b j.2.2.2)).1,())) none) with|none=>none|some q=>_)=_;rw[jav,jad,qkp (hb.trans t5) t4,jaa,hb];simp only;show (match (cond (S.comG (S.turnJ j).1 l) (some ((S.actsB (S.commit (S.turnJ j).1 l)).1,((S.actsB (S.commit (S.turnJ j).1 l)).2,()))) none) with|none=>none|some q=>_)=_;rw[qzb r' hok,jaa];simp only;rcases qqq r' hok with ⟨d1,_⟩|⟨A,d1,_,_,d4,d5,_⟩
    ·rw[d1];rfl
    ·rw[d1];show cond (!true) _ (match (cond (S.behG (S.turnJ j).1 A) (some ((S.behind (S.turnJ j).1 A).1,())) none) with|none=>none|some q=>_)=_;rw[jav,jad,qkp d5 d4,jaa];show some ((S.behind (S.turnJ j).1 A).1,(0:Int),())=some ((S.behind (S.turnJ j).1 A).1,(S.behind (S.turnJ j).1 A).2,());rw[d5]
  ·rw[c1];show (match (cond (S.behG j A) (some ((S.behind j A).1,())) none) with|none=>none|some q=>_)=_;rw[qkp c5 c4,jaa];show some ((S.behind j A).1,(0:Int),())=some ((S.behind j A).1,(S.behind j A).2,());rw[c5]
 ·rw[qa9 (show ¬S.asked j l=Int.ofNat 0 from h0),jau,jaa];unfold S.asked;by_cases h1:S.right j=true
  ·have h2:¬(S.size l).2=0:=fun e=>h0 (zsb h1 e);rw[jan h1,jan h1,jao h2]
  ·rw[jao h1,jao h1]
theorem ql3:Con Tryz.prog zwp qrc:=zoe ⟨zgr,trivial⟩ fun x y hx h=>⟨0,h⟩
theorem zw5(a b:List qaa)(ha:a.length<LF):Fz22 LF a b=some (S.sameC a b,()):=by
 simp only[Fz22,qz3];unfold S.sameC;by_cases e:a.length=b.length
 ·rw[qa8 (show Int.ofNat a.length=Int.ofNat b.length from jaw Int.ofNat e),jav,jad];refine(qlp a b e ha (some (true,())) (some (false,())) (fun K=>?_) (fun K i v w h1 h2 h3 h4=>?_)).trans ?_
  ·simp only[qtp,qbt,jad]
  ·simp only[qtp,h1,h2,h3,h4,jaa,q6b];cases decide (v=w)<;>rfl
  ·cases decide (a=b)<;>rfl
 ·rw[qa9 (show ¬Int.ofNat a.length=Int.ofNat b.length from fun h=>e (jdg h)),jau,jaa,jal (fun h=>e (jaw List.length h))]
theorem zgz:Con Tryz.prog zyx q3e:=zon trivial fun x y hx h=>⟨LF,(zw5 x.1 x.2.1 (qcf (c:=cCell) hx.1)).trans h⟩
theorem zof:Con Tryz.prog zjb q5g:=zhb ⟨qko,ql3,qqc,trivial⟩ q0b q0u fun x y hx h=>⟨0,(z0r 0 x.1).trans h⟩
theorem ze0:Con Tryz.prog ztp quh:=zvc ⟨qqc,ze2,qo0,q9r,ql3,trivial⟩ q0b q0u fun x y hx h=>⟨0,by
 obtain⟨h1,h2⟩:=qa5 (show cond (S.comG x.1 x.2.1) (some ((S.actsB (S.commit x.1 x.2.1)).1,(S.actsB (S.commit x.1 x.2.1)).2,())) none=some y from h);exact(zqt 0 x.1 x.2.1 h1).trans (jaw some h2)⟩
theorem qhd{P:Program}{f:Nat}{p:List TC}{r:List (Bool × TC)}{g g':ElA p->Option (ElR r)}(h:Con P f ⟨p,r,g⟩)(hg:∀x y,g' x=some y->g x=some y):Con P f ⟨p,r,g'⟩ :=
 ⟨h.callable,fun M w x us y hy hM hgl hv=>h.calls M w x us y (hg x y hy) hM hgl hv⟩
section
variable (hR : Con Tryz.prog 76 qjc) (hO : Con Tryz.prog 61 qg0)
include hR in
theorem zpg:Con Tryz.prog z11 q2h:=z0y ⟨qj7,ql3,hR,trivial⟩ fun x y hx h=>⟨0,(zrn 0 x.1).trans h⟩
include hO in
theorem qvd:Con Tryz.prog zkc qon:=zf3 ⟨qko,hO,zgz,trivial⟩ fun x y hx h=>⟨0,(zh6 0 x.1).trans h⟩
include hO in
theorem q88:Con Tryz.prog znr q1m:=zyf ⟨qko,hO,trivial⟩ fun x y hx h=>⟨0,(zlr 0 x.1).trans h⟩
include hO in
include hO in
theorem z14:Con Tryz.prog zym zv8:=zkl ⟨qvd hO,ze2,trivial⟩ fun x y hx h=>⟨0,(zqc 0 x.1).trans h⟩
include hO in
theorem q1h:Con Tryz.prog z1b qxw:=zpp ⟨qvd hO,zbg,trivial⟩ fun x y hx h=>⟨0,(zy6 0 x.1 x.2.1).trans h⟩
include hR in
theorem q39:Con Tryz.prog zkf qvl:=zxi ⟨qqc,qo0,q9r,ql3,hR,trivial⟩ q0u fun x y hx h=>⟨0,by
 obtain⟨h1,h2⟩:=qa5 (show cond (S.turG x.1) (some ((S.actsB (S.turn x.1)).1,(S.actsB (S.turn x.1)).2,())) none=some y from h);exact(z1s 0 x.1 h1).trans (jaw some h2)⟩
include hO in
theorem qu8:Con Tryz.prog zw9 qtd:=zmt ⟨qww,hO,trivial⟩ fun x y hx h=>⟨0,by
 obtain⟨h1,h2⟩:=qa5 (show cond (S.behG x.1 x.2.1) (some ((S.behind x.1 x.2.1).1,())) none=some y from h);exact(zos 0 x.1 x.2.1 h1).trans (jaw some h2)⟩
include hO in
theorem q24:Con Tryz.prog ztv q18:=zug ⟨q1h hO,ze0,trivial⟩ fun x y hx h=>⟨0,(zf6 0 x.1 x.2.1).trans h⟩
include hO in
theorem znd:Con Tryz.prog zqj zhk:=ztz ⟨q24 hO,qu8 hO,trivial⟩ fun x y hx h=>⟨0,(zza 0 x.1 x.2.1).trans h⟩
include hR hO in
theorem zeo:Con Tryz.prog zk1 qv4:=zy9 ⟨qvd hO,q39 hR,trivial⟩ fun x y hx h=>⟨0,(zn8 0 x.1).trans h⟩
include hR hO in
theorem q64:Con Tryz.prog zij q3f:=z04 ⟨zeo hR hO,qu8 hO,trivial⟩ fun x y hx h=>⟨0,(zhu 0 x.1).trans h⟩
include hR hO in
theorem zgg:Con Tryz.prog zv3 q8g:=zk7 ⟨q1h hO,ze0,q39 hR,qu8 hO,trivial⟩ fun x y hx h=>⟨0,(zi2 0 x.1 x.2.1).trans h⟩
end
theorem zqg(lf:Nat):quy lf=some (true,()):=by kernel_rfl
theorem q8h{a b:List qaa}(h:S.sameC a b=true):a=b:=jbe h
theorem qoi{a b:qac}(h:S.sameD a b=true):a=b:=jbe h
theorem qtg{a b:qad}(h:S.sameJ a b=true):a=b:=jbe h
theorem zkd{a b:List DAct}(h:S.sameA a b=true):a=b:=jbe h
theorem zzb:(S.plan S.madeJ S.hC).2=0:=by kernel_rfl
theorem hDo:(S.doD S.madeJ.1 (S.hL.take 4)).2=0:=by kernel_rfl
theorem hCr0:(S.crash S.hD [0]).2=0:=by kernel_rfl
theorem hCr1:(S.crash S.hD [1]).2=0:=by kernel_rfl
theorem hOp0:(S.open_ S.hLost).2=0:=by kernel_rfl
theorem hOp1:(S.open_ S.hKept).2=0:=by kernel_rfl
theorem hOpE:S.sameD S.hKept S.hLost=false:=by kernel_rfl
theorem hOpF:S.sameD S.hLost S.hLost=true:=by kernel_rfl
theorem hCom:(S.commitJ S.hY S.hG).2=0:=by kernel_rfl
theorem zsw:S.room S.hZ=(0,0):=by kernel_rfl
theorem ziy:(S.turnJ S.hZ).2=0:=by kernel_rfl
theorem zux{d:qac}{k:List Int}(h:S.gCrash d k=true):some ((S.crash d k).1,(S.crash d k).2,())=some (S.hCr k,(0:Int),()):=by
 unfold S.gCrash at h;rw[jae,jed] at h;have e1:=qoi h.1;subst e1;rcases h.2 with e2|e2
 ·have e2:=jbe e2;subst e2;rw[hCr0];rfl
 ·have e2:=jbe e2;subst e2;rw[hCr1];rfl
section
variable (hR : Con Tryz.prog 76 qjc) (hO : Con Tryz.prog 61 qg0)
include hO in
theorem zsy:Con Tryz.prog 24 q8u:=qhd (q24 hO) fun x y h=>by
 obtain⟨h1,rfl⟩:=qa5 (show cond (S.gPlan x.1 x.2.1) (some (S.hL,(0:Int),())) none=some y from h);obtain⟨a,b,_⟩:=x;unfold S.gPlan at h1;rw[jae] at h1;have e1:=qtg h1.1;have e2:=q8h h1.2;show some ((S.plan a b).1,(S.plan a b).2,())=_;rw[show a=S.madeJ from e1,show b=S.hC from e2,zzb];rfl
theorem zvl:Con Tryz.prog 32 q6u:=qhd qww fun x y h=>by
 obtain⟨h1,rfl⟩:=qa5 (show cond (S.gDo x.1 x.2.1) (some (S.hD,(0:Int),())) none=some y from h);obtain⟨a,b,_⟩:=x;unfold S.gDo at h1;rw[jae] at h1;have e1:=qoi h1.1;have e2:=zkd h1.2;show some ((S.doD a b).1,(S.doD a b).2,())=_;rw[show a=S.madeJ.1 from e1,show b=S.hL.take 4 from e2,hDo];rfl
theorem zvq:Con Tryz.prog 34 zcw:=qhd zoh fun x y h=>by
 obtain⟨h1,rfl⟩:=qa5 (show cond (S.gCrash x.1 x.2.1) (some (S.hCr x.2.1,(0:Int),())) none=some y from h);exact zux h1
include hO in
theorem zkr:Con Tryz.prog 13 zaq:=qhd (q88 hO) fun x y h=>by
 obtain⟨h1,rfl⟩:=qa5 (show cond (S.gOpen x.1) (some (S.hOp x.1,(0:Int),())) none=some y from h);obtain⟨a,_⟩:=x;unfold S.gOpen at h1;rw[jed] at h1;show some ((S.open_ a).1,(S.open_ a).2,())=some (cond (S.sameD a S.hLost) S.hX S.hY,0,());rcases h1 with e|e
 ·rw[show a=S.hLost from qoi e,hOp0,hOpF];rfl
 ·rw[show a=S.hKept from qoi e,hOp1,hOpE];rfl
include hO in
theorem zpl:Con Tryz.prog 26 q2p:=qhd (znd hO) fun x y h=>by
 obtain⟨h1,rfl⟩:=qa5 (show cond (S.gCom x.1 x.2.1) (some (S.hZ,(0:Int),())) none=some y from h);obtain⟨a,b,_⟩:=x;unfold S.gCom at h1;rw[jae] at h1;have e1:=qtg h1.1;have e2:=q8h h1.2;show some ((S.commitJ a b).1,(S.commitJ a b).2,())=_;rw[show a=S.hY from e1,show b=S.hG from e2,hCom];rfl
include hO in
theorem zh8:Con Tryz.prog 20 zey:=qhd (z14 hO) fun x y h=>by
 obtain⟨h1,rfl⟩:=qa5 (show cond (S.gZ x.1) (some ((0:Int),(0:Int),())) none=some y from h);obtain⟨a,_⟩:=x;show some ((S.room a).1,(S.room a).2,())=_;rw[show a=S.hZ from qtg h1,zsw];rfl
include hR hO in
theorem zmi:Con Tryz.prog 41 zda:=qhd (q64 hR hO) fun x y h=>by
 obtain⟨h1,rfl⟩:=qa5 (show cond (S.gZ x.1) (some (S.hT,(0:Int),())) none=some y from h);obtain⟨a,_⟩:=x;show some ((S.turnJ a).1,(S.turnJ a).2,())=_;rw[show a=S.hZ from qtg h1,ziy];rfl
include hR hO in
theorem zma:Con Tryz.prog zzc q22:=zzf ⟨zpg hR,zof,qww,q88 hO,trivial⟩ fun x y hx h=>⟨0,by
 obtain⟨h1,rfl⟩:=qa5 (show cond (S.inI x.1 8 8) (some (S.madeJ,true,())) none=some y from h);obtain⟨h2,h3⟩:=qav.1 h1;rw[show x.1=(8:Int) from Int.le_antisymm h3 h2];exact zwz 0⟩
include hR hO in
theorem zfq:Con Tryz.prog zrf zbp:=zk6 ⟨zma hR hO,zbg,zsy hO,zvl,zvq,zkr hO,zpl hO,zh8 hO,zmi hR hO,trivial⟩ fun x y hx h=>⟨0,(zqg 0).trans h⟩
end
def zbl:Sm:=⟨[cJournal,.list cCell],[(false,.bool)],fun _=>some (true,())⟩
section
variable (hR : Con Tryz.prog 76 qjc) (hO : Con Tryz.prog 61 qg0)
include hR hO in
include hR hO in
include hR hO in
include hR hO in
theorem zlm:Con Tryz.prog zek zbl:=zv5 ⟨zfq hR hO,zzu,zmz,zeo hR hO,q1e,q64 hR hO,q8o,zgg hR hO,zwb,zru,q4l,trivial⟩ fun x y hx h=>⟨0,(zml 0 x.1 x.2.1).trans h⟩
end
end Go.Proofs.YtnhmanoiolfapaaGreat
end

section
namespace Go.Sx
open Go Go.RowKit
section
variable {P : Program} {n : Nat} {σ : Nat -> Value} {w : World} {Q : Exit -> Act -> World -> Prop} {ops : Array Oper} {rest : List Oper} {d : Nat} {ty : TypeId} {pos : String} {aft : Array Edge} {g : Option (Nat × Bool)}
theorem zaa{x y:Operand}{u v:Value}{T T':TypeId}{m:Nat}{w':World}(hg:qan ops σ n g=true)(hx:okO n x=true)(ex:ev σ x=u)(hy:okO n y=true)(ey:ev σ y=v)
  (hr:(Builtin.copy_ #[T,T'] ty #[u,v]).run P w=.ok (goInt m) w') (k:wpList P ops Q rest (Fr n (upd σ d (.int .i64 m))) w'):wpList P ops Q (⟨some d,.call ⟨.builtin .copy,#[x,y],#[T,T']⟩,ty,pos,aft,g⟩::rest) (Fr n σ) w :=
 qbe hg (by
  have h1:(#[x,y].map (Fr n σ).eval)=#[u,v]:=by simp[qas hx,qas hy,ex,ey]
  simp only[execOp,resolve,h1,invoke,builtin,jag,jaf,jab,hr,goInt]) k
theorem z0s{x y:Operand}{u v r:Value}{T:TypeId}{w':World}(hg:qan ops σ n g=true)(hx:okO n x=true)(ex:ev σ x=u)(hy:okO n y=true)(ey:ev σ y=v)
  (hr:(Instr.makeSlice T u v).run P w=.ok r w') (k:wpList P ops Q rest (Fr n (upd σ d r)) w'):wpList P ops Q (⟨some d,.makeSlice T x y,ty,pos,aft,g⟩::rest) (Fr n σ) w :=
 qbe hg (by
  simp only[execOp,qas hx,qas hy,ex,ey,jag,jaf,jab,hr]) k
end
end Go.Sx
end

section
namespace Go.Sx
open Go Go.RowKit
section
variable {P : Program} {ops : Array Oper} {md : Region.Mode} {Q : Exit -> Act -> World -> Prop}
def KOne(K:Act->World->Prop):Exit->Act->World->Prop:=fun e a w=>e=.normal/\K a w
theorem zl5{o:Oper}{a:Act}{K K':Act->World->Prop}{r:Result Next}(hK:∀a w,K' a w->K a w)(h:o.upon P a K' (KOne K) r):o.upon P a K Q r:=by
 cases r with
 | ok v w' =>
  cases v with
  | value v=>exact hK _ _ h
  | skip=>exact hK _ _ h
  | defer d=>exact hK _ _ h
  | enter f args =>
   refine Calls.mono h fun e w'' he=>?_;cases e with
   | returned v=>exact hK _ _ he
   | panicked c=>cases he.1
   | outgrown=>obtain⟨_,_,h1,_⟩:=he;cases h1
  | row row args=>exact Rows.mono h fun v w'' he=>hK _ _ he
  | _=>exact h
 | halt x w'=>cases x<;>first|exact h|exact absurd h.1 (by simp)
theorem zkk{i:Nat}{o:Oper}{a:Act}{w:World}{K:Act->World->Prop}(hi:ops[i]?=some o)(h:wpList P ops (KOne K) [o] a w):wpOp P ops Q i K a w:=by
 unfold wpOp;simp only[hi];unfold wpList at h;split at h
 ·rename_i hw;rw[jan hw];rcases h with h|⟨_,_,_,h,_⟩
  ·exact .inl (zl5 (fun a w h=>h.2) h)
  ·cases h
 ·rename_i hw;rw[jao hw];exact h.2
end
end Go.Sx
end

section
set_option maxRecDepth 100000
namespace Go.Sx
open Go Go.RowKit
section
variable {P : Program} {n : Nat} {σ : Nat -> Value} {w : World} {ops : Array Oper} {rest : List Oper} {d : Nat} {ty : TypeId} {pos : String} {aft : Array Edge} {g : Option (Nat × Bool)}
theorem q9s{T E:TypeId}{size bytes s2 b2:Nat}{zero z2:Value}{E':TypeDesc}{a:Addr}{len cap k:Nat}{kk:IntKind}(hT:Ty P T (.slice E) size bytes zero)(hE:Ty P E E' s2 b2 z2)(hk:k<cap)(hl:k<=len)(hc:len<=cap) :
  (Instr.sliceAt T (.slice (some a) len cap) (some (.int kk (k:Nat))) none none).run P w=.ok (.slice (some (a.add (k*s2))) (len-k) (cap-k)) w:=by
 have h1:(0:Int)<=(k:Nat)/\((k:Nat):Int)<=len:=⟨by omega,by omega⟩;have h2:¬cap-k=0:=by omega
 have h3:¬cap=k:=by omega
 simp only[Instr.sliceAt,jag,jap hT.und,jab,Instr.slice,Instr.sliceBounds,Instr.sliceBound,asIntOf,jaf,h1,je1,jcz,run_sizeOf hE];simp[h3]
theorem zz1{Q:Exit->Act->World->Prop}{T E:TypeId}{size bytes s2 b2:Nat}{zero z2:Value}{E':TypeDesc}{x y:Operand}{a:Addr}{len cap k:Nat}{kk:IntKind}(hT:Ty P T (.slice E) size bytes zero)(hE:Ty P E E' s2 b2 z2)
  (hg:qan ops σ n g=true) (hx:(okO n x&&okO n y)=true) (ex:ev σ x=.slice (some a) len cap) (ey:ev σ y=.int kk (k:Nat)) (hk:k<cap) (hl:k<=len) (hc:len<=cap)
  (kt:wpList P ops Q rest (Fr n (upd σ d (.slice (some (a.add (k*s2))) (len-k) (cap-k)))) w):wpList P ops Q (⟨some d,.slice T x (some y) none none,ty,pos,aft,g⟩::rest) (Fr n σ) w:=by
 simp only[jae] at hx;exact qbe hg (by simp only[execOp,qas hx.1,ex,Option.map_none,jc8,qas hx.2,ey,q9s hT hE hk hl hc,jag,jaf,jab]) kt
theorem zt7{Q:Exit->Act->World->Prop}{T E:TypeId}{size bytes s2 b2:Nat}{zero z2:Value}{E':TypeDesc}{x y:Operand}{a:Option Addr}{len cap k:Nat}{kk:IntKind}(hT:Ty P T (.slice E) size bytes zero)(hE:Ty P E E' s2 b2 z2)
  (hg:qan ops σ n g=true) (hx:(okO n x&&okO n y)=true) (ex:ev σ x=.slice a len cap) (ey:ev σ y=.int kk (k:Nat)) (hk:k<=cap)
  (kt:wpList P ops Q rest (Fr n (upd σ d (.slice a k cap))) w):wpList P ops Q (⟨some d,.slice T x none (some y) none,ty,pos,aft,g⟩::rest) (Fr n σ) w:=by
 simp only[jae] at hx;exact qbe hg (by simp only[execOp,qas hx.1,ex,Option.map_none,jc8,qas hx.2,ey,z0n hT hE hk,jag,jaf,jab]) kt
theorem qhb{md:Region.Mode}{Q:Exit->Act->World->Prop}{op:Op}{v:Value}{i fuel:Nat}{listed:Array Bool}(hi:ops[i]?=some ⟨some d,op,ty,pos,aft,g⟩)(hp:qit op=true)(hd:Nat.blt d n=true)(hg:qan ops σ n g=true)
  (hb:(Region.noSelect ops&&(Region.free md ops listed i&&(Region.ready md ops listed).contains i))=true) (hQ:∀c a w,¬Q (.panic c) a w)
  (h:∀w1,wpList P ops (QOne n σ d v w1) [⟨some d,op,ty,pos,aft,g⟩] (Fr n σ) w1)
  (k:wpAny P md ops Q fuel (listed.setIfInBounds i true) (Fr n (upd σ d v)) w):wpAny P md ops Q (fuel+1) listed (Fr n σ) w:=by
 simp only[jae] at hb;have hd':d<n:=by simpa using hd
 refine wpAny_take (v:=v) hi hb.1 hb.2.1 hb.2.2 (fun c a w h=>absurd h (hQ c _ w)) (.inl ⟨qfm hg,fun w1=>?_⟩) (by show wpAny P md ops Q fuel _ ((Fr n σ).put (some d) v) w;rw[qd9];exact k);have h1:=h w1;unfold wpList at h1;rw[qfm (o:=⟨some d,op,ty,pos,aft,g⟩) hg,jan rfl] at h1;rcases h1 with h1|⟨_,a,w',h1,_⟩
 ·unfold Oper.wp at h1;cases hr:(execOp (Fr n σ).eval ⟨some d,op,ty,pos,aft,g⟩).run P w1 with
  | ok x w' =>
   rw[hr] at h1;cases x with
   | value u =>
    rw[Oper.upon_value,qd9] at h1;obtain⟨_,h2,h3⟩:=h1;rw[h3,qxt hd' h2]
   | skip =>
    obtain⟨u,hu⟩:=qvc hp hr;cases hu
   | _=>obtain⟨u,hu⟩:=qvc hp hr;cases hu
  | halt x w'=>rw[hr] at h1;cases x<;>first|exact h1.elim|(obtain⟨h2,_⟩:=h1;cases h2)
 ·cases h1
theorem q0l{md:Region.Mode}{Q:Exit->Act->World->Prop}{o:Oper}{i fuel:Nat}{listed:Array Bool}{a:Act}(hi:ops[i]?=some o)(hr:Region.ready md ops listed=[i])
  (h:wpList P ops (KOne fun a' w'=>wpAny P md ops Q fuel (listed.setIfInBounds i true) a' w') [o] a w):wpAny P md ops Q (fuel+1) listed a w :=
 wpAny_all hr (by simp) fun j hj=>by
  have:j=i:=by simpa using hj
  subst this;exact zkk hi h
theorem qy0{V Z:Value}:∀(k n m:Nat),k<=m->putL (List.replicate n V++List.replicate m Z) n (List.replicate k V)=List.replicate (n+k) V++List.replicate (m-k) Z
 | 0,n,m,h=>by simp[putL]
 | k+1,n,m,h=>by
  obtain⟨m',rfl⟩:∃m',m=m'+1:=⟨m-1,by omega⟩;have e:(List.replicate n V++List.replicate (m'+1) Z).set n V=List.replicate (n+1) V++List.replicate m' Z:=by
   rw[List.set_append_right (h:=by simp)];rw[je9 (n:=n),jay];simp only[ja4,jdz,jfe (n:=m'),List.set_cons_zero];rfl
  show putL ((List.replicate n V++List.replicate (m'+1) Z).set n V) (n+1) (List.replicate k V)=_;rw[e,qy0 k (n+1) m' (by omega)];rw[show n+1+k=n+(k+1) by omega,show m'+1-(k+1)=m'-k by omega]
theorem zct{dT sT ty elem:TypeId}{β o dLen dCap sLen sCap:Nat}{a:Addr}{cs xs:List Value}(hu:P.underlying dT=some (.slice elem))(hs:(P.info? elem).map (·.size)=some 1)(hb:Box w β cs)(hn:xs.length=Nat.min sLen dLen)
  (hsrc:∀j v,xs[j]?=some v->w.cell? (a.add j)=some v) (hl:o+xs.length<=cs.length) (h1:xs.all one=true) :
  ∃w',(Builtin.copy_ #[dT,sT] ty #[.slice (some ⟨β,o,none⟩) dLen dCap,.slice (some a) sLen sCap]).run P w=.ok (goInt xs.length) w'/\Box w' β (putL cs o xs)/\Upd [β] w w'/\w'.heap.size=w.heap.size:=by
 have hld:=run_loadCells_list (P:=P) w a xs hsrc;obtain⟨w',q1,q2,q3,q4⟩:=run_store (P:=P) xs o 0 hb (by simpa using hl) h1;refine⟨w',?_,by simpa using q2,q3,q4⟩;cases hq:P.info? elem with
 | none=>simp [hq] at hs
 | some i =>
  have hi:i.size=1:=by simpa [hq] using hs
  simp[Builtin.copy_,jap hu,Builtin.lenOf,Builtin.firstCells,sizeOf,typeInfo,hq,hi,<- hn,hld,q1]
end
end Go.Sx
namespace Go.Proofs.YtnhmanoiolfapaaGreat
open Go Go.Sx Go.RowKit Go.Jx
theorem zq3:qaf Tryz.prog 102:=⟨_,Tryz.func102,by kernel_rfl,by kernel_rfl⟩
theorem zlc(x y:Nat)(hx:x<18446744073709551616)(hy:y<18446744073709551616)(w:World) :
  Calls Tryz.prog 102 #[.int .u64 x,.int .u64 y] w (Ret fun v w'=>v=.tuple #[.int .u64 ((x*y / 18446744073709551616:Nat):Int),.int .u64 ((x*y % 18446744073709551616:Nat):Int)]/\w'=w) :=
 (Any.bits_Mul (P:=Tryz.prog) (ρ:=qw3) { zex with } x y hx hy w).mono fun e w' h=>by
  obtain⟨rfl,rfl⟩:=h;exact⟨rfl,rfl⟩
theorem zy0(c:Nat)(hc:c<=1000)(w:World):(Instr.makeSlice 22 (.int .i64 (c:Int)) (.int .i64 (c:Int))).run Tryz.prog w=.ok (.slice (some ⟨w.heap.size,0,none⟩) c c) (w.alloc (.cells (madeCells #[.string ⟨#[]⟩] (c*1)) 9)):=by
 obtain⟨i,h1,h2,h3,h4⟩:=ty9.inf;have h2:i.size=1:=h2;have h3:i.bytes=16:=h3;have:=run_makeSlice (P:=Tryz.prog) w 22 9 i (.string ⟨#[]⟩) ty22.und h1 h4 .i64 .i64 c c (by omega) (jbq _) (by rw[h2];omega) (by rw[h3];omega) (by omega);rw[h2] at this;exact this
theorem zqh(c:Nat)(w:World):Box (w.alloc (.cells (madeCells #[.string ⟨#[]⟩] (c*1)) 9)) w.heap.size (List.replicate c (.string ⟨#[]⟩)):=by
 refine⟨9,?_⟩;rw[jcx];have:madeCells #[.string ⟨#[]⟩] (c*1)=(List.replicate c (Value.string ⟨#[]⟩)).toArray:=by
  unfold madeCells;apply jea
  ·simp
  ·intro i h1 h2;simp[Nat.mod_one]
 rw[this]
theorem zj3(c:Nat)(w:World):Upd [] w (w.alloc (.cells (madeCells #[.string ⟨#[]⟩] (c*1)) 9)):=Upd.alloc _ _
theorem nmin(a b:Nat):Nat.min a b<=a/\Nat.min a b<=b/\(Nat.min a b=a\/Nat.min a b=b):=by
 have e:Nat.min a b=min a b:=rfl;rw[e];omega
theorem si9:(Tryz.prog.info? 9).map (·.size)=some 1:=by
 obtain⟨i,h1,h2,_⟩:=ty9.inf;have h2:i.size=1:=h2;rw[h1,jc8,h2]
theorem zbn(s:ByteArray)(k:Nat):(List.replicate k (Value.string s)).all Go.Sx.one=true:=by
 rw[jbj];intro x hx;rw[List.eq_of_mem_replicate hx];rfl
theorem zqx{c cap ty:Nat}{w:World}{a:Addr}{s:ByteArray}{β:Nat}(hs:w.cell? a=some (.string s))(hb:Box w β (List.replicate c (.string ⟨#[]⟩))) :
  ∃w',(Builtin.copy_ #[22,22] ty #[.slice (some ⟨β,0,none⟩) c c,.slice (some a) 1 cap]).run Tryz.prog w=.ok (goInt (Nat.min 1 c)) w'/\Box w' β (List.replicate (Nat.min 1 c) (.string s)++List.replicate (c-Nat.min 1 c) (.string ⟨#[]⟩))/\Upd [β] w w'/\w'.heap.size=w.heap.size:=by
 have hnm:=nmin 1 c;have ha:a.spot=none:=by
  unfold World.cell? at hs;split at hs
  ·cases h:a.spot with
   | none=>rfl
   | some x=>rw[h] at hs;cases hs
  ·cases hs
 obtain⟨w',q1,q2,q3,q4⟩:=zct (P:=Tryz.prog) (dT:=22) (sT:=22) (ty:=ty) (elem:=9) (β:=β) (o:=0) (dLen:=c) (dCap:=c) (sLen:=1) (sCap:=cap) (a:=a) (xs:=List.replicate (Nat.min 1 c) (.string s)) ty22.und si9 hb (by rw[ja4]) (fun j v hj=>by
  have hj1:j<Nat.min 1 c:=by
   have:=(jbd.1 hj).1;simpa using this
  have:j=0:=by omega
  subst this;rw[jac (by simpa using hj1)] at hj;simp at hj;rw[qbj _ ha,<- hj];show w.cell? ⟨a.block,a.off+0,none⟩=_;rw[jb8,<- ha];exact hs) (by rw[ja4,ja4];omega) (zbn _ _)
 rw[ja4] at q1;refine⟨w',q1,?_,q3,q4⟩;have:=qy0 (V:=.string s) (Z:=.string ⟨#[]⟩) (Nat.min 1 c) 0 c (jft _ _);rw[jbp] at this;rw[<- this];exact q2
theorem zql{dT sT ty c n:Nat}{w:World}{s:ByteArray}{β:Nat}(hlt:n<c)(hn:1<=n)(hb:Box w β (List.replicate n (.string s)++List.replicate (c-n) (.string ⟨#[]⟩)))(hd:dT=22:=by rfl) :
  ∃w',(Builtin.copy_ #[dT,sT] ty #[.slice (some ((⟨β,0,none⟩:Addr).add (n*1))) (c-n) (c-n),.slice (some ⟨β,0,none⟩) n c]).run Tryz.prog w=.ok (goInt (Nat.min n (c-n))) w'/\Box w' β (List.replicate (n+Nat.min n (c-n)) (.string s)++List.replicate (c-n-Nat.min n (c-n)) (.string ⟨#[]⟩))/\Upd [β] w w'/\w'.heap.size=w.heap.size:=by
 subst hd;have hnm:=nmin n (c-n);have e:(⟨β,0,none⟩:Addr).add (n*1)=⟨β,n,none⟩:=by rw[qbj _ rfl];simp
 rw[e];obtain⟨w',q1,q2,q3,q4⟩:=zct (P:=Tryz.prog) (dT:=22) (sT:=sT) (ty:=ty) (elem:=9) (β:=β) (o:=n) (dLen:=c-n) (dCap:=c-n) (sLen:=n) (sCap:=c) (a:=⟨β,0,none⟩) (xs:=List.replicate (Nat.min n (c-n)) (.string s)) ty22.und si9 hb (by rw[ja4]) (fun j v hj=>by
  have hj1:j<Nat.min n (c-n):=by
   have:=(jbd.1 hj).1;simpa using this
  rw[jac (by simpa using hj1)] at hj;simp at hj;rw[qbj _ rfl,hb.cell,<- hj,ja0 (by rw[ja4];show 0+j<n;omega)];rw[List.getElem?_replicate,jan (show 0+j<n by omega)]) (by rw[jah,ja4,ja4,ja4];omega) (zbn _ _)
 rw[ja4] at q1;exact⟨w',q1,by rw[<- qy0 _ _ _ (jft n (c-n))];exact q2,q3,q4⟩
section
attribute [local irreducible] Go.wpList Go.wpQuiet Go.Code.wp
theorem zp0(s:ByteArray)(c:Nat)(hc:c<=1000){a:Addr}{cap:Nat}{w:World}(hcell:w.cell? a=some (.string s)) :
  Calls Tryz.prog 76 #[.slice (some a) 1 cap,.int .i64 c] w (Ret fun v w'=>∃β,w.heap.size<=β/\v=.slice (some ⟨β,0,none⟩) c c/\Box w' β (List.replicate c (.string s))/\Upd [] w w'):=by
 refine(enter (l:=[.slice (some a) 1 cap,.int .i64 c]) Tryz.func76 rfl Tryz.ntmps76 rfl ?_);refine qak fun K1 hK1=>?_;refine qat ?_;refine qa6 (v:=.slice none 0 0) rfl rfl rfl ?_;refine jbf ?_;refine hK1 _ _ ?_;refine qak fun K2 hK2=>?_;refine qak fun K3 hK3=>?_;refine qat ?_;refine qax (v:=.int .i64 (c:Int)) rfl rfl rfl ?_;refine qyi rfl rfl rfl rfl ?_;refine jbf ?_;refine hK3 _ _ ?_;refine c_if rfl rfl (fun hb=>absurd hb (by omega)) (fun _=>?_);refine je6 ?_;refine hK2 _ _ ?_;refine qak fun K4 hK4=>?_;refine qat ?_;refine qax (v:=.slice (some a) 1 cap) rfl rfl rfl ?_;refine qxy ty22 rfl rfl rfl ?_;refine q5y ty3.und qsc.und rfl rfl rfl (by decide) (by decide) ?_;refine qax (v:=.int .i64 (c:Int)) rfl rfl rfl ?_;refine q5y ty3.und qsc.und rfl rfl rfl (by omega) (by omega) ?_;refine qgq (l:=[.tmp 15,.tmp 17]) (args:=[.int .u64 ((1:Nat):Int),.int .u64 (c:Int)]) zq3 rfl rfl rfl (zlc 1 c (by omega) (by omega) w) ?_;rintro _ w2 ⟨rfl,hw2⟩;subst w2;have e1:1*c / 18446744073709551616=0:=by omega
 have e2:1*c % 18446744073709551616=c:=by omega
 rw[e1,e2];refine qax (v:=.tuple #[.int .u64 ((0:Nat):Int),.int .u64 (c:Int)]) rfl rfl rfl ?_;refine qib (v:=.int .u64 ((0:Nat):Int)) rfl rfl rfl rfl ?_;refine qib (v:=.int .u64 (c:Int)) rfl rfl rfl rfl ?_;refine qa6 (v:=.int .u64 ((0:Nat):Int)) rfl rfl rfl ?_;refine qa6 (v:=.int .u64 (c:Int)) rfl rfl rfl ?_;refine jbf ?_;refine hK4 _ _ ?_;refine qak fun K5 hK5=>?_;refine qak fun K6 hK6=>?_;refine qat ?_;refine qax (v:=.int .u64 ((0:Nat):Int)) rfl rfl rfl ?_;refine qsb rfl rfl rfl rfl ?_;refine qax (v:=.bool false) rfl rfl rfl ?_;refine qax (v:=.int .u64 (c:Int)) rfl rfl rfl ?_;refine qsb rfl rfl rfl rfl ?_;refine q0i (v:=.bool false) rfl rfl rfl (jaw Value.bool (jal (by omega))) ?_;refine jbf ?_;refine hK6 _ _ ?_;refine qkw rfl rfl ?_;refine je6 ?_;refine hK5 _ _ ?_;refine qak fun K7 hK7=>?_;refine qat ?_;refine qax (v:=.int .u64 (c:Int)) rfl rfl rfl ?_;refine zhp qsc.und ty3.und rfl rfl rfl (by omega) ?_;refine z0s (u:=.int .i64 (c:Int)) (v:=.int .i64 (c:Int)) rfl rfl rfl rfl rfl (zy0 c hc w) ?_;have hw1:=zqh c w;have hu1:=zj3 c w;generalize w.alloc (.cells (madeCells #[.string ⟨#[]⟩] (c*1)) 9)=w1 at hw1 hu1;generalize hβ:w.heap.size=β at hw1;refine qa6 (v:=.slice (some ⟨β,0,none⟩) c c) rfl rfl (by rw[<- hβ];rfl) ?_;refine jbf ?_;refine hK7 _ _ ?_;refine qak fun K8 hK8=>?_;refine qat ?_;refine qax (v:=.slice (some ⟨β,0,none⟩) c c) rfl rfl rfl ?_;refine qax (v:=.slice (some a) 1 cap) rfl rfl rfl ?_;have hsrc1:w1.cell? a=some (.string s):=by
  have:a.block<w.heap.size:=by
   unfold World.cell? at hcell;split at hcell
   ·rename_i h;exact qar h
   ·cases hcell
  unfold World.cell? at hcell ⊢;rw[hu1.same _ this (by simp)];exact hcell
 obtain⟨w3,g1,g2,g3,g4⟩:=zqx (cap:=cap) hsrc1 hw1;refine zaa rfl rfl rfl rfl rfl g1 ?_;refine qa6 (v:=.int .i64 ((Nat.min 1 c:Nat):Int)) rfl rfl rfl ?_;refine jbf ?_;refine hK8 _ _ ?_;have hext:∀{w4:World},Upd [β] w1 w4->Upd [] w w4:=fun u4=>⟨u4.os.trans hu1.os,u4.tape.trans hu1.tape,u4.output.trans hu1.output,jbm hu1.size u4.size,fun x hx hn=>(u4.same x (jbi hx hu1.size) (by simp;omega)).trans (hu1.same x hx (by simp))⟩;have hnm:=nmin 1 c;refine qak fun K9 hK9=>?_;refine wp_block ?_;refine qzv (X:=Nat) (8::(List.range 47).drop 34) (fun n=>[(8,.int .i64 (n:Int))]) (fun n w4=>(n<=c/\(c=0\/1<=n))/\Box w4 β (List.replicate n (.string s)++List.replicate (c-n) (.string ⟨#[]⟩))/\Upd [β] w1 w4) (fun n=>c-n) (Nat.min 1 c) ⟨rfl,trivial⟩ ⟨⟨jft _ _,by omega⟩,g2,g3⟩ ?_;rintro n τ w4 ⟨⟨hn1,hn2⟩,hx4,hu4⟩;refine qak fun K10 hK10=>?_;refine qak fun K11 hK11=>?_;refine qat ?_;refine qax (v:=.int .i64 (n:Int)) rfl rfl rfl ?_;refine qax (v:=.slice (some ⟨β,0,none⟩) c c) rfl rfl rfl ?_;refine qxy ty22 rfl rfl rfl ?_;refine qyi rfl rfl rfl rfl ?_;refine jbf ?_;refine hK11 _ _ ?_;refine c_if rfl rfl (fun hb=>?_) (fun hb=>?_)
 ·refine je6 ?_;refine hK10 _ _ ?_;have hlt:n<c:=by omega
  have hn:1<=n:=by omega
  have hnn:=nmin n (c-n);refine wp_block ?_;refine wp_region_any mixed ?_;refine qhb (i:=0) (v:=.int .i64 (n:Int)) rfl rfl rfl rfl (by kernel_rfl) (fun c a w h=>(show _/\False from h).2) (fun w1=>qax (v:=.int .i64 (n:Int)) rfl rfl rfl q1) ?_;refine qhb (i:=1) (v:=.slice (some ⟨β,0,none⟩) c c) rfl rfl rfl rfl (by kernel_rfl) (fun c a w h=>(show _/\False from h).2) (fun w1=>qax (v:=.slice (some ⟨β,0,none⟩) c c) rfl rfl rfl q1) ?_;refine qhb (i:=2) (v:=.int .i64 (n:Int)) rfl rfl rfl rfl (by kernel_rfl) (fun c a w h=>(show _/\False from h).2) (fun w1=>qax (v:=.int .i64 (n:Int)) rfl rfl rfl q1) ?_;refine qhb (i:=3) (v:=.slice (some ((⟨β,0,none⟩:Addr).add (n*1))) (c-n) (c-n)) rfl rfl rfl rfl (by kernel_rfl) (fun c a w h=>(show _/\False from h).2) (fun w1=>zz1 ty22 ty9 rfl rfl rfl rfl hlt hn1 (jat _) q1) ?_;refine qhb (i:=4) (v:=.slice (some ⟨β,0,none⟩) c c) rfl rfl rfl rfl (by kernel_rfl) (fun c a w h=>(show _/\False from h).2) (fun w1=>qax (v:=.slice (some ⟨β,0,none⟩) c c) rfl rfl rfl q1) ?_;refine qhb (i:=5) (v:=.int .i64 (n:Int)) rfl rfl rfl rfl (by kernel_rfl) (fun c a w h=>(show _/\False from h).2) (fun w1=>qax (v:=.int .i64 (n:Int)) rfl rfl rfl q1) ?_;refine qhb (i:=6) (v:=.slice (some ⟨β,0,none⟩) n c) rfl rfl rfl rfl (by kernel_rfl) (fun c a w h=>(show _/\False from h).2) (fun w1=>zt7 ty22 ty9 rfl rfl rfl rfl hn1 q1) ?_;have hx5:=hx4.mono0 (Upd.drew [] w4);have u5:=Upd.drew [] w4;generalize ({ w4 with drawn:=w4.drawn+1 }:World)=w5 at hx5 u5;obtain⟨w6,r1,r2,r3,r4⟩:=zql (dT:=22) (sT:=22) (c:=c) hlt hn hx5;refine q0l (i:=7) rfl (by kernel_rfl) ?_;refine zaa rfl rfl rfl rfl rfl r1 ?_;refine jbf ⟨rfl,?_⟩;refine q0l (i:=8) rfl (by kernel_rfl) ?_;refine zjt rfl rfl rfl rfl (by omega) ?_;refine jbf ⟨rfl,?_⟩;refine q0l (i:=9) rfl (by kernel_rfl) ?_;refine qa6 (v:=.int .i64 ((n+Nat.min n (c-n):Nat):Int)) rfl rfl (jaw (Value.int .i64) (by omega)) ?_;refine jbf ⟨rfl,?_⟩;refine wpAny_done (by kernel_rfl) ?_ _;refine⟨n+Nat.min n (c-n),by show c-(n+Nat.min n (c-n))<c-n;omega,⟨⟨by omega,by omega⟩,by rw[show c-(n+Nat.min n (c-n))=c-n-Nat.min n (c-n) by omega];exact r2,(hu4.trans (u5.mono (by simp))).trans r3⟩,_,rfl,(by repeat first|exact qbf.refl _ _|refine qbf.upd rfl ?_|refine qbf.upds rfl ?_|refine qbf.mix rfl ?_),rfl,trivial⟩
 ·refine wp_exit ?_;have hnc:n=c:=by omega
  subst hnc;refine hK9 _ _ ?_;refine qak fun K12 hK12=>?_;refine qat ?_;refine qax (v:=.slice (some ⟨β,0,none⟩) n n) rfl rfl rfl ?_;refine qa6 (v:=.slice (some ⟨β,0,none⟩) n n) rfl rfl rfl ?_;refine jbf ?_;refine hK12 _ _ ?_;refine je8 ?_;refine ret1 Tryz.results76 rfl ⟨β,by omega,rfl,?_,hext hu4⟩;rw[jdz,jfd,jbl] at hx4;exact hx4
end
theorem zvx:Con Tryz.prog 76 qjc :=
 ⟨zoa,fun M w x us y hy hM hg hv=>by
  obtain⟨l,n,_⟩:=x;obtain⟨hk,rfl⟩:=qa5 (show cond (decide (l.length=1)&&S.inI n 0 1000) (some (List.replicate n.toNat (l.getD 0 S.none_),())) none=some y from hy);simp only[jae,jcf,S.inI] at hk;obtain⟨h1,h2,h3⟩:=hk;obtain⟨s,rfl⟩:∃s,l=[s]:=by
   cases l with
   | nil=>cases h1
   | cons s r=>cases r with
    | nil=>exact⟨s,rfl⟩
    | cons _ _=>simp at h1
  have hni:∃c:Nat,(show Int from n)=(c:Int):=⟨Int.toNat n,(Int.toNat_of_nonneg h2).symm⟩;obtain⟨c,hc0⟩:=hni;have hc0:n=Int.ofNat c:=hc0;subst hc0;have h3:(c:Int)<=1000:=h3;obtain⟨u1,us1,rfl,a1,a2⟩:=hv.inv;obtain⟨u2,us2,rfl,a3,a4⟩:=a2.inv;obtain rfl:us2=[]:=ja5.1 a4.1.symm;cases a3;cases a1 with
  | lst us q1 q2 q3 hb hh hc hu =>
  have hcell:=hc 0 (by simp) 0 (by decide);have hus:=hu 0 (by simp) 0 Nat.zero_lt_one;rename_i b off cap cells t fz;have hsz:s.size<9223372036854775808/\us 0 0=.string s:=by
   have hus:VR (EM M w) (.str s) (us 0 0):=hus;generalize us 0 0=u at hus;cases hus with
   | str _ h=>exact⟨h,rfl⟩
  rw[hsz.2] at hcell;have hcw:w.cell? ⟨b,off,none⟩=some (.string s):=by
   have hh:w.heap[b]?=some (.cells cells t fz):=hh;unfold World.cell?;rw[hh];simpa using hcell
  refine(jdl.2 (zp0 s c (by omega) (cap:=cap) hcw)).mono fun e w' hR=>?_;cases e with
  | returned v =>
   obtain⟨β,hβ,rfl,hx,hu'⟩:=hR;obtain⟨p1,p2⟩:=Post.idle (preM hM hg) hu';refine⟨_,(EM M w).at_ w',rfl,rfl,?_,p1,p2⟩;show VR _ (.lst .str (List.replicate c s)) _;obtain⟨t',ht'⟩:=hx;cases c with
   | zero=>exact .lst0 (by omega)
   | succ c =>
    have hl:(List.replicate (c+1) s).length=c+1:=ja4;have:=VR.lst (E:=(EM M w).at_ w') (c:=.str) (l:=List.replicate (c+1) s) (cap:=c+1) (off:=0) (fun _ _=>.string s) (by rw[hl];exact jat _) (by omega) (by rw[hl];show (c+1)*16<=_;omega)
     (fun h=>by have:=hM _ h;omega) ht' (fun i hi j hj=>by
      have hj:j<1:=hj;have:j=0:=by omega
      subst this;rw[hl] at hi;show (List.replicate (c+1) (Value.string s)).toArray[0+i*1+0]?=_;simp only[ja9,List.getElem?_replicate];rw[jan (by omega)]) (fun i hi j hj=>by
      have hj:j<1:=hj;have:j=0:=by omega
      subst this;show VR _ (.str (List.replicate (c+1) s)[i]) _;rw[List.getElem_replicate];exact .str _ hsz.1)
    rw[hl] at this;exact this
  | _=>exact hR.elim⟩
end Go.Proofs.YtnhmanoiolfapaaGreat
end

section
namespace Go.Jx
open Go Go.Sx Go.RowKit
universe u

def qdi{D α:Type}(g:D->α->Option (D × Bool)):List α->D->Option (D × Bool)
 | [],d=>some (d,false)
 | x::xs,d=>match g d x with
  | none=>none
  | some (d',b)=>cond b (some (d',true)) (qdi g xs d')
section
variable (P : Program) (tt : Nat -> Option TI)
end
section
variable {P : Program} {tt : Nat -> Option TI}
end
end Go.Jx
end
