/- Texts: Kg3, Kp3, Kp4, Kp6, Kl2, Kg9, Ksh, Ksr, Kg7, Xhs, Xhg, Kg8, Kg6, Kp5, Kp7, Kp8, Kp9, Kw4, Kpa, Kpb, Kpc, Kpd, Kpe, Kpf, Kpg, Kph, Kpj, Kl4, Kl5, Krp, Rg, Krq, Jcr, Jit, Ksx, Kso. -/
import Derived.Test.YtnhmanoiolfapaaGreatMd4
import Derived.Shelf.Strings.Repeat
import Derived.Test.YtnhmanoiolfapaaGreatProg
import Derived.Laws.IdiomCopy
import Derived.Laws.MakeOwn
import Derived.Test.YtnhmanoiolfapaaGreatMd1
import Derived.Shelf.SlSortCmp.WholeK
import Derived.Shelf.SlSortCmp.NoneTotal
set_option linter.unusedVariables false
noncomputable section
set_option maxRecDepth 100000
namespace Go.Proofs.YtnhmanoiolfapaaGreat
open Go Go.Sx Go.RowKit Go.Jx
abbrev qs2:Type:=ByteArray × Unit
abbrev znc:Nat:=92
def zcb(lf:Nat)(x1:Int):Option qs2:=(some ((ByteArray.mk (Array.mk (List.cons (UInt8.ofBitVec (BitVec.ofFin (Fin.mk (Nat.mod (Int.toNat (IntKind.u8.wrap (Int.fdiv x1 (Int.ofNat 256)))) 256) (jc7 (Int.toNat (IntKind.u8.wrap (Int.fdiv (x1,()).1 (HPow.hPow (OfNat.ofNat 2) (Min.min (Int.toNat (OfNat.ofNat 8)) (IntKind.bits IntKind.i64)))))) (BitVec.ofNat._proof_1 (OfNat.ofNat 8)))))) (List.cons (UInt8.ofBitVec (BitVec.ofFin (Fin.mk (Nat.mod (Int.toNat (IntKind.u8.wrap x1)) 256) (jc7 (Int.toNat (IntKind.u8.wrap (x1,()).1)) (BitVec.ofNat._proof_1 (OfNat.ofNat 8)))))) [])))),()))
def qpg(lf:Nat)(x1:Int):Option qs2:=zcb lf x1
theorem zvc{g:ElA [(.int .i64)]->Option qs2}(hsm:SmOK Tryz.prog [])(hg:∀(x:ElA [(.int .i64)]) (y:qs2),WfA [(.int .i64)] x->g x=some y->∃lf,qpg lf x.1=some y):Con Tryz.prog 92 ⟨[(.int .i64)],[(false,.str)],g⟩ :=
 conU (fi:=fi92) (hxl:=[]) (fun lf x=>qpg lf x.1) cm3 zw8 trivial hsm hg
def qle:Nat->Option Nm:=fun k=>cond (Nat.beq k 3) (some ⟨[3,6,7,8],[],[],[],[],0,0,false⟩) (none)
def qml:Nat->Bool:=fun k=>cond (Nat.beq k 3) true (false)
def q7l:=qml
abbrev qcw:Type:=ByteArray × Unit
def q8p:List (Nat × Sm):=[(92,qvv)]
def q5q:List (Nat × Hx):=[]
def qzk(R:Type)(lf:Nat):ClK R:=qa0 Tryz.prog ttT.get ftT.get (nm1 91 qle) (smL q8p) (hxL q5q) lf 20 R
abbrev zix:Nat:=91
def qi5(x1:(List qaa))(p:ByteArray × Int):NRes:=(NRes.mk (.node none (.node none (.node (some (IV.str p.1)) (.node (some (IV.int .i64 (Int.ofNat x1.length))) .leaf .leaf) .leaf) .leaf) (.node none (.node none (.node (some (IV.int .i64 p.2)) .leaf .leaf) .leaf) (.node (some (IV.lst cCell x1)) .leaf .leaf))) (IS.mk .leaf 0) [] 0)
def zam(lf:Nat)(x1:(List qaa))(L3:(ByteArray × Int)->Option qcw):Option qcw:=(L3 ((S.lit []),(Int.ofNat 0)))
def qsx(lf:Nat)(x1:(List qaa))(L3:(ByteArray × Int)->Option qcw)(p:ByteArray × Int):Option qcw:=(cond (iltI p.2 (Int.ofNat x1.length)) (match (jget x1 p.2) with|none=>none|some v0=>(cond (Nat.ble (Nat.succ (Nat.add p.1.size 1)) 9223372036854775808) (cond v0.2.2 (match (cond (S.inI (Int.ofNat 0) (Int.ofNat 0) (Int.ofNat 16777215)) (some ((S.lit [0,0]),())) none) with|none=>none|some v1=>(cond (Nat.ble (Nat.succ (Nat.add (ByteArray.size (ByteArray.append p.1 (ByteArray.mk (Array.mk (List.cons (UInt8.ofBitVec (BitVec.ofFin (Fin.mk (Nat.mod (Int.toNat (IntKind.u8.wrap v0.1)) 256) (jc7 (Int.toNat (IntKind.u8.wrap v0.1)) (BitVec.ofNat._proof_1 (OfNat.ofNat 8)))))) []))))) v1.1.size)) 9223372036854775808) (L3 ((ByteArray.append (ByteArray.append p.1 (ByteArray.mk (Array.mk (List.cons (UInt8.ofBitVec (BitVec.ofFin (Fin.mk (Nat.mod (Int.toNat (IntKind.u8.wrap v0.1)) 256) (jc7 (Int.toNat (IntKind.u8.wrap v0.1)) (BitVec.ofNat._proof_1 (OfNat.ofNat 8)))))) [])))) v1.1),(IntKind.i64.wrap (Int.add p.2 (Int.ofNat 1))))) none)) (match (cond (S.inI (IntKind.i64.wrap (Int.ofNat (Nat.add v0.2.1.size 1))) (Int.ofNat 0) (Int.ofNat 16777215)) (some ((qae (S.two (Int.toNat (IntKind.i64.wrap (Int.ofNat (Nat.add v0.2.1.size 1)))))),())) none) with|none=>none|some v37=>(cond (Nat.ble (Nat.succ (Nat.add v37.1.size v0.2.1.size)) 9223372036854775808) (cond (Nat.ble (Nat.succ (Nat.add (ByteArray.size (ByteArray.append p.1 (ByteArray.mk (Array.mk (List.cons (UInt8.ofBitVec (BitVec.ofFin (Fin.mk (Nat.mod (Int.toNat (IntKind.u8.wrap v0.1)) 256) (jc7 (Int.toNat (IntKind.u8.wrap v0.1)) (BitVec.ofNat._proof_1 (OfNat.ofNat 8)))))) []))))) (ByteArray.size (ByteArray.append v37.1 v0.2.1)))) 9223372036854775808) (L3 ((ByteArray.append (ByteArray.append p.1 (ByteArray.mk (Array.mk (List.cons (UInt8.ofBitVec (BitVec.ofFin (Fin.mk (Nat.mod (Int.toNat (IntKind.u8.wrap v0.1)) 256) (jc7 (Int.toNat (IntKind.u8.wrap v0.1)) (BitVec.ofNat._proof_1 (OfNat.ofNat 8)))))) [])))) (ByteArray.append v37.1 v0.2.1)),(IntKind.i64.wrap (Int.add p.2 (Int.ofNat 1))))) none) none))) none)) (some (p.1,())))
abbrev gz18:Type:=ElA [(.list cCell)]->Option qcw
abbrev sz18(g:gz18):Sm:=⟨[(.list cCell)],[(false,.str)],g⟩
abbrev Ez18(g:gz18)(J:JT qcw)(lf:Nat)(x1:(List qaa)):=qbf Tryz.prog ttT.get qle fi91.nt (qzk _ lf) lf qml J fi91.body [] (qat (argV [(.list cCell)] (x1,())) 0 .leaf) S0 [] (qam ttT.get fi91 (sz18 g))
abbrev Bz18(g:gz18)(J:JT qcw)(lf k:Nat)(ms:List Nat)(q:NRes):=qbl Tryz.prog ttT.get qle fi91.nt (qzk _ lf) lf qml J k fi91.body [] ms q (qam ttT.get fi91 (sz18 g))
theorem zh4(g:gz18)(J:JT qcw)(lf:Nat)(x1:(List qaa)):Ez18 g J lf x1=zam lf x1 (fun q=>J 3 [lf] (qi5 x1 q)):=by kernel_rfl
theorem zt7(g:gz18)(J:JT qcw)(lf:Nat)(x1:(List qaa))(m1:Nat)(p:ByteArray × Int):Bz18 g J lf 3 [m1] (qi5 x1 p)=qsx lf x1 (fun q=>J 3 [m1] (qi5 x1 q)) p:=by kernel_rfl
theorem q2h:(regs fi91.body).Nodup:=by decide +kernel
theorem q6n:okC qle qml q7l fi91.body none=true:=by kernel_rfl
def Az18(g:gz18)(lf:Nat):JT qcw:=atN Tryz.prog ttT.get qle fi91 (sz18 g) (qzk _ lf) lf q7l
def qqx(lf:Nat)(x1:(List qaa)):Nat->(ByteArray × Int)->Option qcw:=qav fun K p=>qsx lf x1 K p
theorem q3o(g:gz18)(lf:Nat)(x1:(List qaa)):∀(n:Nat) (p:ByteArray × Int),Az18 g lf 3 [n] (qi5 x1 p)=qqx lf x1 n p
 | 0,p=>qa7 3 [0] rfl _
 | n+1,p=>by
  have ih:=q3o g lf x1 n;refine(qa8 (qaz 20 _) q2h q6n 3 [n+1] [n] rfl _).trans ((zt7 g (Az18 g lf) lf x1 n p).trans ?_);rw[(show (fun q=>Az18 g lf 3 [n] (qi5 x1 q))=(fun q=>qqx lf x1 n q) from funext ih)];rfl
def Fz18(lf:Nat)(x1:(List qaa)):Option qcw:=zam lf x1 (fun q=>qqx lf x1 lf q)
theorem zyf(g:gz18)(lf:Nat)(x1:(List qaa)):Ez18 g (Az18 g lf) lf x1=Fz18 lf x1:=by
  refine(zh4 g (Az18 g lf) lf x1).trans ?_;rw[(show (fun q=>Az18 g lf 3 [lf] (qi5 x1 q))=(fun q=>qqx lf x1 lf q) from funext fun q=>q3o g lf x1 lf q)];rfl
theorem zxd:qa3 Tryz.prog q5q:=trivial
theorem zjp{g:gz18}(hsm:SmOK Tryz.prog q8p)(hg:∀(x:ElA [(.list cCell)]) (y:qcw),WfA [(.list cCell)] x->g x=some y->∃lf,Fz18 lf x.1=some y):Con Tryz.prog 91 ⟨[(.list cCell)],[(false,.str)],g⟩ :=
 conV (st:=qml) (fun lf x=>Fz18 lf x.1) cm3 zm8 zxd q2h q6n (fun lf x=>zyf g lf x.1) hsm hg
def qnm:Nat->Option Nm:=fun k=>cond (Nat.beq k 3) (some ⟨[4],[],[],[],[],0,0,false⟩) (cond (Nat.beq k 6) (some ⟨[4,5],[(5,.str)],[],[],[],0,0,false⟩) (none))
def qmz:Nat->Bool:=fun k=>cond (Nat.beq k 3) true (cond (Nat.beq k 6) true (false))
def zd5:=qmz
abbrev qb7:Type:=(List ByteArray) × Unit
def q1b:List (Nat × Sm):=[(91,q6j),(92,qvv)]
def q3s:List (Nat × Hx):=[]
def qvd(R:Type)(lf:Nat):ClK R:=qa0 Tryz.prog ttT.get ftT.get (nm1 56 qnm) (smL q1b) (hxL q3s) lf 20 R
abbrev zf4:Nat:=56
def qib(x1:(List qaa))(p:ByteArray):NRes:=(NRes.mk (.node none .leaf (.node none (.node (some (IV.str p)) .leaf .leaf) .leaf)) (IS.mk .leaf 0) [] 0)
def qi1(x1:(List qaa))(p:ByteArray × (List ByteArray)):NRes:=(NRes.mk (.node none (.node none .leaf (.node (some (IV.arr 0)) .leaf .leaf)) (.node none (.node (some (IV.str p.1)) .leaf .leaf) .leaf)) (IS.mk (.node (some (IObj.arr TC.str p.2)) .leaf .leaf) 1) [] 0)
def qvm(lf:Nat)(x1:(List qaa))(L3:ByteArray->Option qb7):Option qb7:=(match (cond (S.pk x1) (some ((qae (S.body x1)),())) none) with|none=>none|some v0=>(match (cond (S.inI (Int.ofNat v0.1.size) (Int.ofNat 0) (Int.ofNat 16777215)) (some ((qae (S.two (Int.toNat (Int.ofNat v0.1.size)))),())) none) with|none=>none|some v1=>(cond (Nat.ble (Nat.succ (Nat.add 2 v1.1.size)) 9223372036854775808) (cond (Nat.ble (Nat.succ (Nat.add (ByteArray.size (ByteArray.append (ByteArray.mk (Array.mk (List.cons (UInt8.ofBitVec (BitVec.ofFin (Fin.mk 1 (jc7 (Int.toNat (OfNat.ofNat 1)) (BitVec.ofNat._proof_1 (OfNat.ofNat 8)))))) (List.cons (UInt8.ofBitVec (BitVec.ofFin (Fin.mk (Nat.mod (Int.toNat (IntKind.u8.wrap (Int.fdiv (Int.ofNat v0.1.size) (Int.ofNat 65536)))) 256) (jc7 (Int.toNat (IntKind.u8.wrap (Int.fdiv (Nat.cast v0.1.size) (HPow.hPow (OfNat.ofNat 2) (Min.min (Int.toNat (OfNat.ofNat 16)) (IntKind.bits IntKind.i64)))))) (BitVec.ofNat._proof_1 (OfNat.ofNat 8)))))) [])))) v1.1)) v0.1.size)) 9223372036854775808) (L3 (ByteArray.append (ByteArray.append (ByteArray.mk (Array.mk (List.cons (UInt8.ofBitVec (BitVec.ofFin (Fin.mk 1 (jc7 (Int.toNat (OfNat.ofNat 1)) (BitVec.ofNat._proof_1 (OfNat.ofNat 8)))))) (List.cons (UInt8.ofBitVec (BitVec.ofFin (Fin.mk (Nat.mod (Int.toNat (IntKind.u8.wrap (Int.fdiv (Int.ofNat v0.1.size) (Int.ofNat 65536)))) 256) (jc7 (Int.toNat (IntKind.u8.wrap (Int.fdiv (Nat.cast v0.1.size) (HPow.hPow (OfNat.ofNat 2) (Min.min (Int.toNat (OfNat.ofNat 16)) (IntKind.bits IntKind.i64)))))) (BitVec.ofNat._proof_1 (OfNat.ofNat 8)))))) [])))) v1.1) v0.1)) none) none)))
def qh8(lf:Nat)(x1:(List qaa))(L3:ByteArray->Option qb7)(L6:(ByteArray × (List ByteArray))->Option qb7)(p:ByteArray):Option qb7:=(cond (Bool.not (ieqI (Int.ofNat (Nat.mod p.size 64)) (Int.ofNat 0))) (cond (Nat.ble (Nat.succ (Nat.add p.size 1)) 9223372036854775808) (L3 (ByteArray.append p (S.lit [0]))) none) (L6 (p,[])))
def qie(lf:Nat)(x1:(List qaa))(L6:(ByteArray × (List ByteArray))->Option qb7)(p:ByteArray × (List ByteArray)):Option qb7:=(cond (iltI (Int.ofNat 0) (Int.ofNat p.1.size)) (cond (lchk (Int.ofNat 0) (Int.ofNat 64) (Int.ofNat p.1.size) (Int.ofNat p.1.size)) (cond (Nat.ble (Nat.mul (Nat.add p.2.length 1) 16) 140737488355328) (cond (lchk (Int.ofNat 64) (Int.ofNat p.1.size) (Int.ofNat p.1.size) (Int.ofNat p.1.size)) (L6 ((ByteArray.extract p.1 64 (Int.toNat (Int.ofNat p.1.size))),(List.append p.2 [(ByteArray.extract p.1 0 64)]))) none) none) none) (some (p.2,())))
abbrev gz19:Type:=ElA [(.list cCell)]->Option qb7
abbrev sz19(g:gz19):Sm:=⟨[(.list cCell)],[(true,.str)],g⟩
abbrev Ez19(g:gz19)(J:JT qb7)(lf:Nat)(x1:(List qaa)):=qbf Tryz.prog ttT.get qnm fi56.nt (qvd _ lf) lf qmz J fi56.body [] (qat (argV [(.list cCell)] (x1,())) 0 .leaf) S0 [] (qam ttT.get fi56 (sz19 g))
abbrev Bz19(g:gz19)(J:JT qb7)(lf k:Nat)(ms:List Nat)(q:NRes):=qbl Tryz.prog ttT.get qnm fi56.nt (qvd _ lf) lf qmz J k fi56.body [] ms q (qam ttT.get fi56 (sz19 g))
theorem zna(g:gz19)(J:JT qb7)(lf:Nat)(x1:(List qaa)):Ez19 g J lf x1=qvm lf x1 (fun q=>J 3 [lf] (qib x1 q)):=by kernel_rfl
theorem zti(g:gz19)(J:JT qb7)(lf:Nat)(x1:(List qaa))(m1:Nat)(p:ByteArray):Bz19 g J lf 3 [m1] (qib x1 p)=qh8 lf x1 (fun q=>J 3 [m1] (qib x1 q)) (fun q=>J 6 [lf] (qi1 x1 q)) p:=by kernel_rfl
theorem z1x(g:gz19)(J:JT qb7)(lf:Nat)(x1:(List qaa))(m1:Nat)(p:ByteArray × (List ByteArray)):Bz19 g J lf 6 [m1] (qi1 x1 p)=qie lf x1 (fun q=>J 6 [m1] (qi1 x1 q)) p:=by kernel_rfl
theorem qxq:(regs fi56.body).Nodup:=by decide +kernel
theorem qw4:okC qnm qmz zd5 fi56.body none=true:=by kernel_rfl
def Az19(g:gz19)(lf:Nat):JT qb7:=atN Tryz.prog ttT.get qnm fi56 (sz19 g) (qvd _ lf) lf zd5
def qdz(lf:Nat)(x1:(List qaa)):Nat->(ByteArray × (List ByteArray))->Option qb7:=qav fun K p=>qie lf x1 K p
theorem zah(g:gz19)(lf:Nat)(x1:(List qaa)):∀(n:Nat) (p:ByteArray × (List ByteArray)),Az19 g lf 6 [n] (qi1 x1 p)=qdz lf x1 n p
 | 0,p=>qa7 6 [0] rfl _
 | n+1,p=>by
  have ih:=zah g lf x1 n;refine(qa8 (qaz 20 _) qxq qw4 6 [n+1] [n] rfl _).trans ((z1x g (Az19 g lf) lf x1 n p).trans ?_);rw[(show (fun q=>Az19 g lf 6 [n] (qi1 x1 q))=(fun q=>qdz lf x1 n q) from funext ih)];rfl
def qgb(lf:Nat)(x1:(List qaa)):Nat->(ByteArray)->Option qb7:=qav fun K p=>qh8 lf x1 K (fun q=>qdz lf x1 lf q) p
theorem q2t(g:gz19)(lf:Nat)(x1:(List qaa)):∀(n:Nat) (p:ByteArray),Az19 g lf 3 [n] (qib x1 p)=qgb lf x1 n p
 | 0,p=>qa7 3 [0] rfl _
 | n+1,p=>by
  have ih:=q2t g lf x1 n;refine(qa8 (qaz 20 _) qxq qw4 3 [n+1] [n] rfl _).trans ((zti g (Az19 g lf) lf x1 n p).trans ?_);rw[(show (fun q=>Az19 g lf 6 [lf] (qi1 x1 q))=(fun q=>qdz lf x1 lf q) from funext fun q=>zah g lf x1 lf q),(show (fun q=>Az19 g lf 3 [n] (qib x1 q))=(fun q=>qgb lf x1 n q) from funext ih)];rfl
def Fz19(lf:Nat)(x1:(List qaa)):Option qb7:=qvm lf x1 (fun q=>qgb lf x1 lf q)
theorem zoc(g:gz19)(lf:Nat)(x1:(List qaa)):Ez19 g (Az19 g lf) lf x1=Fz19 lf x1:=by
  refine(zna g (Az19 g lf) lf x1).trans ?_;rw[(show (fun q=>Az19 g lf 3 [lf] (qib x1 q))=(fun q=>qgb lf x1 lf q) from funext fun q=>q2t g lf x1 lf q)];rfl
theorem zm0:qa3 Tryz.prog q3s:=trivial
theorem zyb{g:gz19}(hsm:SmOK Tryz.prog q1b)(hg:∀(x:ElA [(.list cCell)]) (y:qb7),WfA [(.list cCell)] x->g x=some y->∃lf,Fz19 lf x.1=some y):Con Tryz.prog 56 ⟨[(.list cCell)],[(true,.str)],g⟩ :=
 conV (st:=qmz) (fun lf x=>Fz19 lf x.1) cm3 z1j zm0 qxq qw4 (fun lf x=>zoc g lf x.1) hsm hg
abbrev qs1:Type:=ByteArray × Unit
abbrev zv5:Nat:=101
def q4v(lf:Nat)(x1:ByteArray):Option qs1:=(cond (lchk (Int.ofNat 1) (Int.ofNat x1.size) (Int.ofNat x1.size) (Int.ofNat x1.size)) (cond (Nat.ble (Nat.succ (Nat.add 1 (ByteArray.size (ByteArray.extract x1 1 (Int.toNat (Int.ofNat x1.size)))))) 9223372036854775808) (some ((ByteArray.append (S.lit [0]) (ByteArray.extract x1 1 (Int.toNat (Int.ofNat x1.size)))),())) none) none)
def qtq(lf:Nat)(x1:ByteArray):Option qs1:=q4v lf x1
theorem zs9{g:ElA [.str]->Option qs1}(hsm:SmOK Tryz.prog [])(hg:∀(x:ElA [.str]) (y:qs1),WfA [.str] x->g x=some y->∃lf,qtq lf x.1=some y):Con Tryz.prog 101 ⟨[.str],[(false,.str)],g⟩ :=
 conU (fi:=qug) (hxl:=[]) (fun lf x=>qtq lf x.1) cm3 zwe trivial hsm hg
abbrev qqg:Type:=zih × Unit
abbrev z0j:Nat:=93
def q6c(lf:Nat)(x1:Int)(x2:Int):Option qqg:=(cond (ieqI x2 (Int.ofNat 0)) (some (((Int.ofNat 1),(IntKind.i64.wrap (Int.tdiv x1 (Int.ofNat 2)))),())) (some (((IntKind.i64.wrap (Int.tdiv x1 (Int.ofNat 2))),(IntKind.i64.wrap (Int.sub x1 (Int.ofNat 1)))),())))
def qp1(lf:Nat)(x1:Int)(x2:Int):Option qqg:=q6c lf x1 x2
theorem zpb{g:ElA [(.int .i64),(.int .i64)]->Option qqg}(hsm:SmOK Tryz.prog [])(hg:∀(x:ElA [(.int .i64),(.int .i64)]) (y:qqg),WfA [(.int .i64),(.int .i64)] x->g x=some y->∃lf,qp1 lf x.1 x.2.1=some y):Con Tryz.prog 93 ⟨[(.int .i64),(.int .i64)],[(false,q0x)],g⟩ :=
 conU (fi:=fi93) (hxl:=[]) (fun lf x=>qp1 lf x.1 x.2.1) cm3 zjz trivial hsm hg
abbrev qtn:Type:=Int × Int × Unit
abbrev zza:Nat:=62
def ze9(lf:Nat)(x1:qac)(x2:Int):Option qtn:=(cond (ieqI x2 (Int.ofNat 0)) (some ((Int.ofNat 1),((IntKind.i64.wrap (Int.ofNat (Nat.div x1.1.length 2))),()))) (some ((IntKind.i64.wrap (Int.ofNat (Nat.div x1.1.length 2))),((IntKind.i64.wrap (Int.sub (IntKind.i64.wrap (Int.mul (Int.ofNat 2) (IntKind.i64.wrap (Int.ofNat (Nat.div x1.1.length 2))))) (Int.ofNat 1))),()))))
def qsn(lf:Nat)(x1:qac)(x2:Int):Option qtn:=ze9 lf x1 x2
theorem z19{g:ElA [qag,(.int .i64)]->Option qtn}(hsm:SmOK Tryz.prog [])(hg:∀(x:ElA [qag,(.int .i64)]) (y:qtn),WfA [qag,(.int .i64)] x->g x=some y->∃lf,qsn lf x.1 x.2.1=some y):Con Tryz.prog 62 ⟨[qag,(.int .i64)],[(false,(.int .i64)),(false,(.int .i64))],g⟩ :=
 conU (fi:=fi62) (hxl:=[]) (fun lf x=>qsn lf x.1 x.2.1) cm3 zvh trivial hsm hg
def qm9:Nat->Option Nm:=fun k=>cond (Nat.beq k 3) (some ⟨[0,1,5,6],[],[],[],[],0,0,false⟩) (none)
def qlg:Nat->Bool:=fun k=>cond (Nat.beq k 3) true (false)
def q53:=qlg
abbrev qdk:Type:=ByteArray × Unit
def zas:List (Nat × Sm):=[]
def q15:List (Nat × Hx):=[]
def qyu(R:Type)(lf:Nat):ClK R:=qa0 Tryz.prog ttT.get ftT.get (nm1 89 qm9) (smL zas) (hxL q15) lf 20 R
abbrev zys:Nat:=89
def qhz(x1:Int)(x2:Int)(p:Int × ByteArray × Int):NRes:=(NRes.mk (.node (some (IV.int .i64 p.1)) (.node (some (IV.int .i64 x2)) .leaf (.node (some (IV.str p.2.1)) .leaf .leaf)) (.node none .leaf (.node (some (IV.int .i64 p.2.2)) .leaf .leaf))) (IS.mk .leaf 0) [] 0)
def qzi(lf:Nat)(x1:Int)(x2:Int)(L3:(Int × ByteArray × Int)->Option qdk):Option qdk:=(L3 (x1,(S.lit []),(Int.ofNat 0)))
def qis(lf:Nat)(x1:Int)(x2:Int)(L3:(Int × ByteArray × Int)->Option qdk)(p:Int × ByteArray × Int):Option qdk:=(cond (iltI p.2.2 x2) (cond (Nat.ble (Nat.succ (Nat.add 1 p.2.1.size)) 9223372036854775808) (L3 ((IntKind.i64.wrap (Int.tdiv p.1 (Int.ofNat 256))),(ByteArray.append (ByteArray.mk (Array.mk (List.cons (UInt8.ofBitVec (BitVec.ofFin (Fin.mk (Nat.mod (Int.toNat (IntKind.u8.wrap (Int.tmod p.1 (Int.ofNat 256)))) 256) (jc7 (Int.toNat (IntKind.u8.wrap (Int.tmod p.1 (OfNat.ofNat 256)))) (BitVec.ofNat._proof_1 (OfNat.ofNat 8)))))) []))) p.2.1),(IntKind.i64.wrap (Int.add p.2.2 (Int.ofNat 1))))) none) (some (p.2.1,())))
abbrev gz20:Type:=ElA [(.int .i64),(.int .i64)]->Option qdk
abbrev sz20(g:gz20):Sm:=⟨[(.int .i64),(.int .i64)],[(false,.str)],g⟩
abbrev Ez20(g:gz20)(J:JT qdk)(lf:Nat)(x1:Int)(x2:Int):=qbf Tryz.prog ttT.get qm9 fi89.nt (qyu _ lf) lf qlg J fi89.body [] (qat (argV [(.int .i64),(.int .i64)] (x1,x2,())) 0 .leaf) S0 [] (qam ttT.get fi89 (sz20 g))
abbrev Bz20(g:gz20)(J:JT qdk)(lf k:Nat)(ms:List Nat)(q:NRes):=qbl Tryz.prog ttT.get qm9 fi89.nt (qyu _ lf) lf qlg J k fi89.body [] ms q (qam ttT.get fi89 (sz20 g))
theorem zpr(g:gz20)(J:JT qdk)(lf:Nat)(x1:Int)(x2:Int):Ez20 g J lf x1 x2=qzi lf x1 x2 (fun q=>J 3 [lf] (qhz x1 x2 q)):=by kernel_rfl
theorem zss(g:gz20)(J:JT qdk)(lf:Nat)(x1:Int)(x2:Int)(m1:Nat)(p:Int × ByteArray × Int):Bz20 g J lf 3 [m1] (qhz x1 x2 p)=qis lf x1 x2 (fun q=>J 3 [m1] (qhz x1 x2 q)) p:=by kernel_rfl
theorem q2n:(regs fi89.body).Nodup:=by decide +kernel
theorem q4n:okC qm9 qlg q53 fi89.body none=true:=by kernel_rfl
def Az20(g:gz20)(lf:Nat):JT qdk:=atN Tryz.prog ttT.get qm9 fi89 (sz20 g) (qyu _ lf) lf q53
def qgo(lf:Nat)(x1:Int)(x2:Int):Nat->(Int × ByteArray × Int)->Option qdk:=qav fun K p=>qis lf x1 x2 K p
theorem q65(g:gz20)(lf:Nat)(x1:Int)(x2:Int):∀(n:Nat) (p:Int × ByteArray × Int),Az20 g lf 3 [n] (qhz x1 x2 p)=qgo lf x1 x2 n p
 | 0,p=>qa7 3 [0] rfl _
 | n+1,p=>by
  have ih:=q65 g lf x1 x2 n;refine(qa8 (qaz 20 _) q2n q4n 3 [n+1] [n] rfl _).trans ((zss g (Az20 g lf) lf x1 x2 n p).trans ?_);rw[(show (fun q=>Az20 g lf 3 [n] (qhz x1 x2 q))=(fun q=>qgo lf x1 x2 n q) from funext ih)];rfl
def Fz20(lf:Nat)(x1:Int)(x2:Int):Option qdk:=qzi lf x1 x2 (fun q=>qgo lf x1 x2 lf q)
theorem zy8(g:gz20)(lf:Nat)(x1:Int)(x2:Int):Ez20 g (Az20 g lf) lf x1 x2=Fz20 lf x1 x2:=by
  refine(zpr g (Az20 g lf) lf x1 x2).trans ?_;rw[(show (fun q=>Az20 g lf 3 [lf] (qhz x1 x2 q))=(fun q=>qgo lf x1 x2 lf q) from funext fun q=>q65 g lf x1 x2 lf q)];rfl
theorem zzm:qa3 Tryz.prog q15:=trivial
theorem z0l{g:gz20}(hsm:SmOK Tryz.prog zas)(hg:∀(x:ElA [(.int .i64),(.int .i64)]) (y:qdk),WfA [(.int .i64),(.int .i64)] x->g x=some y->∃lf,Fz20 lf x.1 x.2.1=some y):Con Tryz.prog 89 ⟨[(.int .i64),(.int .i64)],[(false,.str)],g⟩ :=
 conV (st:=qlg) (fun lf x=>Fz20 lf x.1 x.2.1) cm3 zl0 zzm q2n q4n (fun lf x=>zy8 g lf x.1 x.2.1) hsm hg
def qmc:Nat->Option Nm:=fun k=>cond (Nat.beq k 3) (some ⟨[0,1,5,6],[],[],[],[],0,0,false⟩) (cond (Nat.beq k 12) (some ⟨[7,8,9],[(8,.str)],[],[],[],0,0,false⟩) (none))
def qmw:Nat->Bool:=fun k=>cond (Nat.beq k 3) true (cond (Nat.beq k 12) true (false))
def zab:=qmw
abbrev qb2:Type:=(List ByteArray) × Unit
def q38:List (Nat × Sm):=[(89,q3h),(57,qs0)]
def q48:List (Nat × Hx):=[]
def qyo(R:Type)(lf:Nat):ClK R:=qa0 Tryz.prog ttT.get ftT.get (nm1 60 qmc) (smL q38) (hxL q48) lf 20 R
abbrev zuq:Nat:=60
def qh9(x1:(List qaa))(x2:Int)(p:ByteArray × Int):NRes:=(NRes.mk (.node (some (IV.lst cCell x1)) (.node (some (IV.int .i64 x2)) .leaf (.node (some (IV.str p.1)) .leaf .leaf)) (.node none .leaf (.node (some (IV.int .i64 p.2)) .leaf .leaf))) (IS.mk .leaf 0) [] 0)
def qi6(x1:(List qaa))(x2:Int)(p:ByteArray × Int × (List ByteArray)):NRes:=(NRes.mk (.node none (.node none (.node none (.node (some (IV.str p.1)) .leaf .leaf) .leaf) (.node none (.node (some (IV.int .i64 p.2.1)) .leaf .leaf) .leaf)) (.node none (.node none (.node (some (IV.arr 0)) .leaf .leaf) .leaf) .leaf)) (IS.mk (.node (some (IObj.arr TC.str p.2.2)) .leaf .leaf) 1) [] 0)
def zdi(lf:Nat)(x1:(List qaa))(x2:Int)(L3:(ByteArray × Int)->Option qb2):Option qb2:=(L3 ((S.lit []),(Int.ofNat 0)))
def qks(lf:Nat)(x1:(List qaa))(x2:Int)(L3:(ByteArray × Int)->Option qb2)(L12:(ByteArray × Int × (List ByteArray))->Option qb2)(p:ByteArray × Int):Option qb2:=(cond (iltI p.2 (Int.ofNat x1.length)) (match (jget x1 p.2) with|none=>none|some v0=>(match (cond (Bool.and (S.inI v0.1 (Int.ofNat 0) (Int.ofNat 16777215)) (S.inI (Int.ofNat 1) (Int.ofNat 0) (Int.ofNat 3))) (some ((qae (S.numB (Int.toNat v0.1) 1)),())) none) with|none=>none|some v1=>(cond (Nat.ble (Nat.succ (Nat.add p.1.size v1.1.size)) 9223372036854775808) (match (jget x1 p.2) with|none=>none|some v2=>(cond v2.2.2 (cond (Nat.ble (Nat.succ (Nat.add (ByteArray.size (ByteArray.append p.1 v1.1)) 2)) 9223372036854775808) (L3 ((ByteArray.append (ByteArray.append p.1 v1.1) (S.lit [0,0])),(IntKind.i64.wrap (Int.add p.2 (Int.ofNat 1))))) none) (match (jget x1 p.2) with|none=>none|some v26=>(match (cond (Bool.and (S.inI (IntKind.i64.wrap (Int.ofNat (Nat.add v26.2.1.size 1))) (Int.ofNat 0) (Int.ofNat 16777215)) (S.inI (Int.ofNat 2) (Int.ofNat 0) (Int.ofNat 3))) (some ((qae (S.numB (Int.toNat (IntKind.i64.wrap (Int.ofNat (Nat.add v26.2.1.size 1)))) 2)),())) none) with|none=>none|some v27=>(cond (Nat.ble (Nat.succ (Nat.add (ByteArray.size (ByteArray.append p.1 v1.1)) v27.1.size)) 9223372036854775808) (match (jget x1 p.2) with|none=>none|some v28=>(cond (Nat.ble (Nat.succ (Nat.add (ByteArray.size (ByteArray.append (ByteArray.append p.1 v1.1) v27.1)) v28.2.1.size)) 9223372036854775808) (L3 ((ByteArray.append (ByteArray.append (ByteArray.append p.1 v1.1) v27.1) v28.2.1),(IntKind.i64.wrap (Int.add p.2 (Int.ofNat 1))))) none)) none))))) none))) (match (cond (Bool.and (S.inI x2 (Int.ofNat 0) (Int.ofNat 16777215)) (S.inI (Int.ofNat 1) (Int.ofNat 0) (Int.ofNat 3))) (some ((qae (S.numB (Int.toNat x2) 1)),())) none) with|none=>none|some v29=>(match (cond (Bool.and (S.inI (Int.ofNat p.1.size) (Int.ofNat 0) (Int.ofNat 16777215)) (S.inI (Int.ofNat 3) (Int.ofNat 0) (Int.ofNat 3))) (some ((qae (S.numB (Int.toNat (Int.ofNat p.1.size)) 3)),())) none) with|none=>none|some v30=>(cond (Nat.ble (Nat.succ (Nat.add v29.1.size v30.1.size)) 9223372036854775808) (cond (Nat.ble (Nat.succ (Nat.add (ByteArray.size (ByteArray.append v29.1 v30.1)) p.1.size)) 9223372036854775808) (L12 ((ByteArray.append (ByteArray.append v29.1 v30.1) p.1),(Int.ofNat 0),[])) none) none))))
def qr4(lf:Nat)(x1:(List qaa))(x2:Int)(L12:(ByteArray × Int × (List ByteArray))->Option qb2)(p:ByteArray × Int × (List ByteArray)):Option qb2:=(cond (iltI p.2.1 (Int.ofNat p.1.size)) (cond (lchk p.2.1 (imin (Int.ofNat p.1.size) (IntKind.i64.wrap (Int.add p.2.1 (Int.ofNat 64)))) (Int.ofNat p.1.size) (Int.ofNat p.1.size)) (match (cond (S.inI (IntKind.i64.wrap (Int.sub (Int.ofNat 64) (IntKind.i64.wrap (Int.sub (imin (Int.ofNat p.1.size) (IntKind.i64.wrap (Int.add p.2.1 (Int.ofNat 64)))) p.2.1)))) (Int.ofNat 0) (Int.ofNat 64)) (some ((qae (List.replicate (Int.toNat (IntKind.i64.wrap (Int.sub (Int.ofNat 64) (IntKind.i64.wrap (Int.sub (imin (Int.ofNat p.1.size) (IntKind.i64.wrap (Int.add p.2.1 (Int.ofNat 64)))) p.2.1))))) (Int.ofNat 0))),())) none) with|none=>none|some v0=>(cond (Nat.ble (Nat.succ (Nat.add (ByteArray.size (ByteArray.extract p.1 (Int.toNat p.2.1) (Int.toNat (imin (Int.ofNat p.1.size) (IntKind.i64.wrap (Int.add p.2.1 (Int.ofNat 64))))))) v0.1.size)) 9223372036854775808) (cond (Nat.ble (Nat.mul (Nat.add p.2.2.length 1) 16) 140737488355328) (L12 (p.1,(IntKind.i64.wrap (Int.add p.2.1 (Int.ofNat 64))),(List.append p.2.2 (List.cons (ByteArray.append (ByteArray.extract p.1 (Int.toNat p.2.1) (Int.toNat (imin (Int.ofNat p.1.size) (IntKind.i64.wrap (Int.add p.2.1 (Int.ofNat 64)))))) v0.1) [])))) none) none)) none) (some (p.2.2,())))
abbrev gz21:Type:=ElA [(.list cCell),(.int .i64)]->Option qb2
abbrev sz21(g:gz21):Sm:=⟨[(.list cCell),(.int .i64)],[(true,.str)],g⟩
abbrev Ez21(g:gz21)(J:JT qb2)(lf:Nat)(x1:(List qaa))(x2:Int):=qbf Tryz.prog ttT.get qmc fi60.nt (qyo _ lf) lf qmw J fi60.body [] (qat (argV [(.list cCell),(.int .i64)] (x1,x2,())) 0 .leaf) S0 [] (qam ttT.get fi60 (sz21 g))
abbrev Bz21(g:gz21)(J:JT qb2)(lf k:Nat)(ms:List Nat)(q:NRes):=qbl Tryz.prog ttT.get qmc fi60.nt (qyo _ lf) lf qmw J k fi60.body [] ms q (qam ttT.get fi60 (sz21 g))
theorem zhr(g:gz21)(J:JT qb2)(lf:Nat)(x1:(List qaa))(x2:Int):Ez21 g J lf x1 x2=zdi lf x1 x2 (fun q=>J 3 [lf] (qh9 x1 x2 q)):=by kernel_rfl
theorem zkh(g:gz21)(J:JT qb2)(lf:Nat)(x1:(List qaa))(x2:Int)(m1:Nat)(p:ByteArray × Int):Bz21 g J lf 3 [m1] (qh9 x1 x2 p)=qks lf x1 x2 (fun q=>J 3 [m1] (qh9 x1 x2 q)) (fun q=>J 12 [lf] (qi6 x1 x2 q)) p:=by kernel_rfl
theorem zve(g:gz21)(J:JT qb2)(lf:Nat)(x1:(List qaa))(x2:Int)(m1:Nat)(p:ByteArray × Int × (List ByteArray)):Bz21 g J lf 12 [m1] (qi6 x1 x2 p)=qr4 lf x1 x2 (fun q=>J 12 [m1] (qi6 x1 x2 q)) p:=by kernel_rfl
theorem qx5:(regs fi60.body).Nodup:=by decide +kernel
theorem qwh:okC qmc qmw zab fi60.body none=true:=by kernel_rfl
def Az21(g:gz21)(lf:Nat):JT qb2:=atN Tryz.prog ttT.get qmc fi60 (sz21 g) (qyo _ lf) lf zab
def qg3(lf:Nat)(x1:(List qaa))(x2:Int):Nat->(ByteArray × Int × (List ByteArray))->Option qb2:=qav fun K p=>qr4 lf x1 x2 K p
theorem q34(g:gz21)(lf:Nat)(x1:(List qaa))(x2:Int):∀(n:Nat) (p:ByteArray × Int × (List ByteArray)),Az21 g lf 12 [n] (qi6 x1 x2 p)=qg3 lf x1 x2 n p
 | 0,p=>qa7 12 [0] rfl _
 | n+1,p=>by
  have ih:=q34 g lf x1 x2 n;refine(qa8 (qaz 20 _) qx5 qwh 12 [n+1] [n] rfl _).trans ((zve g (Az21 g lf) lf x1 x2 n p).trans ?_);rw[(show (fun q=>Az21 g lf 12 [n] (qi6 x1 x2 q))=(fun q=>qg3 lf x1 x2 n q) from funext ih)];rfl
def qpx(lf:Nat)(x1:(List qaa))(x2:Int):Nat->(ByteArray × Int)->Option qb2:=qav fun K p=>qks lf x1 x2 K (fun q=>qg3 lf x1 x2 lf q) p
theorem zaq(g:gz21)(lf:Nat)(x1:(List qaa))(x2:Int):∀(n:Nat) (p:ByteArray × Int),Az21 g lf 3 [n] (qh9 x1 x2 p)=qpx lf x1 x2 n p
 | 0,p=>qa7 3 [0] rfl _
 | n+1,p=>by
  have ih:=zaq g lf x1 x2 n;refine(qa8 (qaz 20 _) qx5 qwh 3 [n+1] [n] rfl _).trans ((zkh g (Az21 g lf) lf x1 x2 n p).trans ?_);rw[(show (fun q=>Az21 g lf 12 [lf] (qi6 x1 x2 q))=(fun q=>qg3 lf x1 x2 lf q) from funext fun q=>q34 g lf x1 x2 lf q),(show (fun q=>Az21 g lf 3 [n] (qh9 x1 x2 q))=(fun q=>qpx lf x1 x2 n q) from funext ih)];rfl
def Fz21(lf:Nat)(x1:(List qaa))(x2:Int):Option qb2:=zdi lf x1 x2 (fun q=>qpx lf x1 x2 lf q)
theorem zxt(g:gz21)(lf:Nat)(x1:(List qaa))(x2:Int):Ez21 g (Az21 g lf) lf x1 x2=Fz21 lf x1 x2:=by
  refine(zhr g (Az21 g lf) lf x1 x2).trans ?_;rw[(show (fun q=>Az21 g lf 3 [lf] (qh9 x1 x2 q))=(fun q=>qpx lf x1 x2 lf q) from funext fun q=>zaq g lf x1 x2 lf q)];rfl
theorem zj3:qa3 Tryz.prog q48:=trivial
theorem zgg{g:gz21}(hsm:SmOK Tryz.prog q38)(hg:∀(x:ElA [(.list cCell),(.int .i64)]) (y:qb2),WfA [(.list cCell),(.int .i64)] x->g x=some y->∃lf,Fz21 lf x.1 x.2.1=some y):Con Tryz.prog 60 ⟨[(.list cCell),(.int .i64)],[(true,.str)],g⟩ :=
 conV (st:=qmw) (fun lf x=>Fz21 lf x.1 x.2.1) cm3 znw zj3 qx5 qwh (fun lf x=>zxt g lf x.1 x.2.1) hsm hg
abbrev qph:Type:=DAct × Unit
abbrev zjq:Nat:=58
def zx7(lf:Nat)(x1:Int)(x2:ByteArray):Option qph:=(some ((false,(x1,x2)),()))
def zc0(lf:Nat)(x1:Int)(x2:ByteArray):Option qph:=zx7 lf x1 x2
theorem zk4{g:ElA [(.int .i64),.str]->Option qph}(hsm:SmOK Tryz.prog [])(hg:∀(x:ElA [(.int .i64),.str]) (y:qph),WfA [(.int .i64),.str] x->g x=some y->∃lf,zc0 lf x.1 x.2.1=some y):Con Tryz.prog 58 ⟨[(.int .i64),.str],[(false,cAct)],g⟩ :=
 conU (fi:=fi58) (hxl:=[]) (fun lf x=>zc0 lf x.1 x.2.1) cm3 zld trivial hsm hg
abbrev qt2:Type:=DAct × Unit
abbrev zpd:Nat:=59
def zis(lf:Nat):Option qt2:=(some ((true,((Int.ofNat 0),(S.lit []))),()))
def q4w(lf:Nat):Option qt2:=zis lf
theorem zvy{g:ElA []->Option qt2}(hsm:SmOK Tryz.prog [])(hg:∀(x:ElA []) (y:qt2),WfA [] x->g x=some y->∃lf,q4w lf=some y):Con Tryz.prog 59 ⟨[],[(false,cAct)],g⟩ :=
 conU (fi:=fi59) (hxl:=[]) (fun lf x=>q4w lf) cm3 zyo trivial hsm hg
theorem qi7(n:Int):IntKind.u8.wrap n=n % 256:=by
 unfold IntKind.wrap;simp[IntKind.signed,IntKind.bits]
theorem qt4(n:Int)(h:Nat.mod (Int.toNat n) 256<2 ^ 8):ByteArray.mk (Array.mk (List.cons (UInt8.ofBitVec (BitVec.ofFin (Fin.mk (Nat.mod (Int.toNat n) 256) h))) []))=qae [n]:=rfl
theorem zmd(a b:Int)(h:Nat.mod (Int.toNat a) 256<2 ^ 8)(k:Nat.mod (Int.toNat b) 256<2 ^ 8):ByteArray.mk (Array.mk (List.cons (UInt8.ofBitVec (BitVec.ofFin (Fin.mk (Nat.mod (Int.toNat a) 256) h))) (List.cons (UInt8.ofBitVec (BitVec.ofFin (Fin.mk (Nat.mod (Int.toNat b) 256) k))) [])))=qae [a,b]:=rfl
theorem zzc(b:Int)(h:1<2 ^ 8)(k:Nat.mod (Int.toNat b) 256<2 ^ 8):ByteArray.mk (Array.mk (List.cons (UInt8.ofBitVec (BitVec.ofFin (Fin.mk 1 h))) (List.cons (UInt8.ofBitVec (BitVec.ofFin (Fin.mk (Nat.mod (Int.toNat b) 256) k))) [])))=qae [1,b]:=rfl
theorem qcp(a b:List Int):ByteArray.append (qae a) (qae b)=qae (a++b):=by
 show qae a++qae b=_;apply ByteArray.ext;simp[qae]
theorem qky(s:ByteArray):∃b,rng b/\s=qae b/\s.size=b.length/\qab s=b:=⟨qab s,qda s,(qfd s).symm,(qce s).symm,rfl⟩
theorem q4r{b:List Int}(h:rng b)(n:Nat):ByteArray.extract (qae b) 0 n=qae (b.take n):=by
 refine qej ?_;rw[q6k,qbi h,qbi (qee h n)]
theorem qhw{b:List Int}(h:rng b)(n:Nat):ByteArray.extract (qae b) n b.length=qae (b.drop n):=by
 refine qej ?_;rw[q4a _ _ _ (by rw[qa1];exact jas _),qbi h,qbi (qcu h n)]
theorem zlf(lf:Nat)(n:Int)(h:S.inI n 0 16777215=true):qpg lf n=some (qae (S.two n.toNat),()):=by
 obtain⟨h1,h2⟩:=qay.1 h;obtain⟨k,rfl⟩:∃k:Nat,n=Int.ofNat k:=⟨n.toNat,by show n=((n.toNat:Nat):Int);omega⟩;simp only[qpg,zcb,zmd,qi7];refine jav (fun l=>some (qae l,())) ?_;show [Int.fdiv (k:Int) 256 % 256,(k:Int) % 256]=S.two k;unfold S.two;rw[jef _ (by decide)];simp only[jdy,and_true];omega
theorem q78:Con Tryz.prog znc qvv:=zvc trivial fun x y hx h=>⟨0,by
 obtain⟨h1,h2⟩:=qa5 (show cond (S.inI x.1 0 16777215) (some (qae (S.two (Int.toNat x.1)),())) none=some y from h);exact(zlf 0 x.1 h1).trans (jav some h2)⟩
theorem qoy{l:List qaa}(h:S.pk l=true):S.okC l=true/\l.length<=250:=by
 unfold S.pk at h;rw[jae] at h;exact⟨h.1,jam h.2⟩
theorem qj8:∀{l:List qaa} {last:Int},S.okGo l last=true->∀c∈l,(0<=c.1/\c.1<=199)/\c.2.1.size<=4000/\(c.2.2=true->c.2.1=S.none_)
 | [],_,_,c,hc=>by cases hc
 | a::l,last,h,c,hc=>by
  obtain⟨h1,h2,h3,h4,h5⟩:=qbq.1 h;rcases ja1.1 hc with rfl|hc
  ·exact⟨h1,h2,h3⟩
  ·exact qj8 h5 c hc
theorem qwd:∀{l:List qaa},(∀c∈l,c.2.1.size<=4000)->(S.body l).length<=4003*l.length
 | [],_=>jcd _
 | c::l,h=>by
  have h1:=h c (by simp);have h2:=qwd (l:=l) fun x hx=>h x (by simp[hx]);have h3:cond c.2.2 0 c.2.1.size<=4000:=by
   cases c.2.2
   ·exact h1
   ·exact jcd _
  rw[qsp,jah,qto,jar];omega
theorem qmo{l:List qaa}(h:S.pk l=true):(S.body l).length<=1000750:=by
 obtain⟨h1,h2⟩:=qoy h;have:=qwd fun c hc=>(qj8 h1 c hc).2.1;omega
theorem q5v(l:List qaa)(c:qaa):S.body (l++[c])=S.body l++S.cellB c:=by
 unfold S.body;rw[List.flatMap_append];simp
theorem q8c{l:List qaa}(h:S.pk l=true)(i:Nat):(S.body (l.take i)).length<=1000750:=by
 obtain⟨h1,h2⟩:=qoy h;have:=qwd (l:=l.take i) fun c hc=>(qj8 h1 c (jb6 hc)).2.1;rw[jba] at this;omega
theorem qb3{n:Nat}(h:n<9223372036854775808):Nat.ble (Nat.succ n) 9223372036854775808=true:=jau h
theorem zvt(l:List qaa)(h:S.pk l=true):Fz18 LF l=some (qae (S.body l),()):=by
 obtain⟨hok,hlen⟩:=qoy h;refine(range0 (σ:=ByteArray) (R:=qcw) l (fun i s=>(s,i)) (fun i s=>s=qae (S.body (l.take i))) (fun _ _ _=>some (qae (S.body l),())) (by unfold LF;omega) (fun K s hs=>?_) (fun K i v rest s hs r hk=>?_) (S.lit []) rfl).trans rfl
 ·rw[jfr] at hs;simp only[qsx,qbt,jad];rw[hs]
 ·obtain⟨⟨v1,v2⟩,v3,v4⟩:=qj8 hok v r.mem;have hB:=q8c h i;have hnext:qae (S.body (l.take (i+1)))=qae (S.body (l.take i)++S.cellB v):=by rw[r.take,q5v]
  obtain⟨k,s0,g⟩:=v;simp only at v1 v2 v3 v4;have hkw:IntKind.u8.wrap k=k % 256:=qi7 k;subst hs;generalize S.body (l.take i)=B at *;have hsB:(qae B).size=B.length:=qa1 B;simp only[qsx,r.ilt,r.get,r.next,jaa,qt4,hkw,qcp,qa1];rw[qb3 (n:=Nat.add B.length 1) (by show B.length+1<_;omega),jaa];cases g with
  | true =>
   rw[jaa,show S.inI (Int.ofNat 0) (Int.ofNat 0) (Int.ofNat 16777215)=true from rfl,jaa];simp only;rw[show S.lit [0,0]=qae [0,0] from rfl,qa1,qcp,qb3 (by simp only[jah,jar,ja0];show _+2<_;omega),jaa];refine hk _ ?_;rw[hnext,jaz];rfl
  | false =>
   obtain⟨b,hb1,hb2,hb3,_⟩:=qky s0;subst hb2;rw[hb3] at v3;have hw:IntKind.i64.wrap (Int.ofNat (Nat.add (qae b).size 1))=Int.ofNat (b.length+1):=by
    rw[hb3];exact qa2 (n:=b.length+1) (by omega)
   rw[jad,hw,show S.inI (Int.ofNat (b.length+1)) (Int.ofNat 0) (Int.ofNat 16777215)=true from qay.2 ⟨jbe _,by show ((b.length+1:Nat):Int)<=16777215;omega⟩,jaa];simp only[qcp,qa1];have h2:(S.two (Int.toNat (Int.ofNat (b.length+1)))).length=2:=rfl;rw[qb3 (by show _+b.length<_;rw[h2];omega),jaa,qb3 (by simp only[jah,jar,ja0,h2];show (_:Nat)+(_:Nat)<_;omega),jaa];refine hk _ ?_;rw[hnext];have:S.cellB (k,qae b,false)=[k % 256]++(S.two (Int.toNat (Int.ofNat (b.length+1)))++b):=by
    unfold S.cellB;simp only[jad];rw[hb3,qbi hb1];rfl
   rw[this,jaz]
theorem zqq:Con Tryz.prog zix q6j:=zjp ⟨q78,trivial⟩ fun x y hx h=>⟨LF,by
 obtain⟨h1,h2⟩:=qa5 (show cond (S.pk x.1) (some (qae (S.body x.1),())) none=some y from h);exact(zvt x.1 h1).trans (jav some h2)⟩
def cut:Nat->List Int->List ByteArray
 | 0,_=>[]
 | m+1,b=>qae (b.take 64)::cut m (b.drop 64)
theorem q6o:∀(f:Nat) (b:List Int),b.length<=f->S.chunks f b=cut ((b.length+63) / 64) (b++List.replicate (64*((b.length+63) / 64)-b.length) 0)
 | 0,b,h=>by
  have:b=[]:=ja4.1 (by omega);subst this;rfl
 | f+1,b,h=>by
  by_cases hb:0<b.length
  ·have ih:=q6o f (b.drop 64) (by rw[jax];omega);rw[jax] at ih;rw[qfu f hb,ih,show (b.length+63) / 64=(b.length-64+63) / 64+1 by omega];show _=qae ((b++_).take 64)::cut _ ((b++_).drop 64);by_cases h64:64<=b.length
   ·rw[jd6 h64,jd7 h64,show 64-b.length=0 by omega,jfc,jbo,show 64*((b.length-64+63) / 64+1)-b.length=64*((b.length-64+63) / 64)-(b.length-64) by omega]
   ·have e1:b.drop 64=[]:=jbn (by omega);rw[show (b.length-64+63) / 64=0 by omega,jbm (by omega:b.length<=64),jbm (by rw[jah,ja9];omega),show 64*(0+1)-b.length=64-b.length by omega];rfl
  ·have:b=[]:=ja4.1 (by omega);subst this;rfl
theorem q79(l:List qaa):∀(m f:Nat) (b:List Int) (out:List ByteArray),rng b->b.length=64*m->m<f->out.length+m<=1000000->qdz LF l f (qae b,out)=some (out++cut m b,())
 | 0,f+1,b,out,hr,hb,hf,ho=>by
  have:b=[]:=ja4.1 (by omega);subst this;show qie LF l (qdz LF l f) (qae [],out)=_;simp only[qie];rw[qa1];show some (out,())=some (out++[],());rw[jbo]
 | m+1,f+1,b,out,hr,hb,hf,ho=>by
  show qie LF l (qdz LF l f) _=_;simp only[qie];have l1:lchk (Int.ofNat 0) (Int.ofNat 64) (Int.ofNat b.length) (Int.ofNat b.length)=true:=qbv.2 ⟨jbq _,by decide,by show (64:Int)<=(b.length:Int);omega,jbq _⟩;have l2:lchk (Int.ofNat 64) (Int.ofNat b.length) (Int.ofNat b.length) (Int.ofNat b.length)=true:=qbv.2 ⟨by decide,by show (64:Int)<=(b.length:Int);omega,jbq _,jbq _⟩
  rw[qa1,qdj (show Int.ofNat 0<Int.ofNat b.length by show (0:Int)<(b.length:Int);omega),jaa,l1,jaa,jau (by show (out.length+1)*16<=_;omega),jaa,
   l2,jaa,q4r hr,show Int.toNat (Int.ofNat b.length)=b.length from rfl,qhw hr]
  rw[q79 l m f (b.drop 64) _ (qcu hr 64) (by rw[jax];omega) (by omega) (by simp only[jc1,jah,jar,ja0];omega)];show some ((out++[_])++cut m _,())=some (out++_::cut m _,());rw[jaz];rfl
theorem q4b(l:List qaa):∀(k f:Nat) (b:List Int),k=(64-b.length % 64) % 64->k<f->b.length<=2000000->qgb LF l f (qae b)=qdz LF l LF (qae (b++List.replicate k 0),[])
 | 0,f+1,b,hk,hf,hb=>by
  show qh8 LF l (qgb LF l f) (fun q=>qdz LF l LF q) (qae b)=_;simp only[qh8];rw[qa1,qbe (show Int.ofNat (Nat.mod b.length 64)=Int.ofNat 0 from jav Int.ofNat (show b.length % 64=0 by omega))];show qdz LF l LF (qae b,[])=qdz LF l LF (qae (b++[]),[]);rw[jbo]
 | k+1,f+1,b,hk,hf,hb=>by
  show qh8 LF l (qgb LF l f) (fun q=>qdz LF l LF q) (qae b)=_;simp only[qh8]
  rw[qa1,qbb (show ¬Int.ofNat (Nat.mod b.length 64)=Int.ofNat 0 from fun e=>by have:=jdg e;have:b.length % 64=0:=this;omega),jat,jaa,qb3 (by show b.length+1<_;omega),jaa,show S.lit [0]=qae [0] from rfl,qcp,
   q4b l k f (b++[0]) (by rw[jah,jar,ja0];omega) (by omega) (by rw[jah,jar,ja0];have:b.length<=2000000:=hb;omega),jaz]
  rfl
theorem zpm(l:List qaa)(h:S.pk l=true):Fz19 LF l=some (S.packed l 1,()):=by
 have hb:=qmo h;simp only[Fz19,qvm,h,jaa,qa1];rw[show S.inI (Int.ofNat (S.body l).length) (Int.ofNat 0) (Int.ofNat 16777215)=true from qay.2 ⟨jbe _,by show (((S.body l).length:Nat):Int)<=16777215;omega⟩];simp only[jaa,zzc,qi7,qcp,qa1];have h2:(S.two (Int.toNat (Int.ofNat (S.body l).length))).length=2:=rfl;rw[qb3 (by show 2+_<_;rw[h2];decide),jaa,qb3 (by simp only[jah,jar,ja0,h2];show (_:Nat)+(_:Nat)<_;omega),jaa];have hrec:[1,Int.fdiv (Int.ofNat (S.body l).length) (Int.ofNat 65536) % 256]++S.two (Int.toNat (Int.ofNat (S.body l).length))++S.body l=S.recB l 1:=by
  unfold S.recB;have:Int.fdiv (Int.ofNat (S.body l).length) (Int.ofNat 65536) % 256=(((S.body l).length / 65536 % 256:Nat):Int):=by
   rw[jef _ (by decide)];show ((S.body l).length:Int) / 65536 % 256=_;omega
  rw[this,jaz];rfl
 rw[hrec,q4b l _ LF (S.recB l 1) rfl (by unfold LF;omega) (by rw[qei];omega)];have hl:=qei l 1;have hp:S.packed l 1=_:=q6o (S.recB l 1).length (S.recB l 1) (jas _);rw[hp,show (64-(S.recB l 1).length % 64) % 64=64*(((S.recB l 1).length+63) / 64)-(S.recB l 1).length by omega];rw[q79 l (((S.recB l 1).length+63) / 64) LF _ [] (qf2 (qiy l (by decide)) (qfr _)) (by rw[jah,ja9];omega) (by unfold LF;omega) (by rw[ja0];omega)];rfl
theorem qqb:Con Tryz.prog zf4 qnl:=zyb ⟨zqq,q78,trivial⟩ fun x y hx h=>⟨LF,by
 obtain⟨h1,h2⟩:=qa5 (show cond (S.pk x.1) (some (S.packed x.1 1,())) none=some y from h);exact(zpm x.1 h1).trans (jav some h2)⟩
theorem zqk(lf:Nat)(s:ByteArray)(h:s.size=64):qtq lf s=some (qae (0::(qab s).drop 1),()):=by
 obtain⟨b,hb1,rfl,hb3,hb4⟩:=qky s;rw[hb3] at h;simp only[qtq,q4v];have l1:lchk (Int.ofNat 1) (Int.ofNat b.length) (Int.ofNat b.length) (Int.ofNat b.length)=true:=qbv.2 ⟨by decide,by show (1:Int)<=(b.length:Int);omega,jbq _,jbq _⟩;rw[hb3,hb4,l1,jaa,show Int.toNat (Int.ofNat b.length)=b.length from rfl,qhw hb1,qa1,qb3 (by show 1+_<_;rw[jax];omega),jaa,show S.lit [0]=qae [0] from rfl,qcp];rfl
theorem q2y:Con Tryz.prog zv5 qyq:=zs9 trivial fun x y hx h=>⟨0,by
 obtain⟨h1,h2⟩:=qa5 (show cond (decide (ByteArray.size x.1=64)) (some (qae (0::(qab x.1).drop 1),())) none=some y from h);exact(zqk 0 x.1 (jbd h1)).trans (jav some h2)⟩
theorem zgz(lf:Nat)(n h:Int)(hn:S.inI n 0 1000=true):qp1 lf n h=some (S.half n.toNat h,()):=by
 obtain⟨h1,h2⟩:=qay.1 hn;have e1:Int.tdiv n (Int.ofNat 2)=((n.toNat / 2:Nat):Int):=by
  rw[Int.tdiv_eq_ediv_of_nonneg h1];show n / 2=_;omega
 simp only[qp1,q6c,e1];rw[wrap_in (n:=((n.toNat / 2:Nat):Int)) (by omega),wrap_in (n:=Int.sub n (Int.ofNat 1)) (by show -9223372036854775808<=n-1/\n-1<9223372036854775808;omega)];unfold S.half;by_cases h0:h=0
 ·rw[qbe (show h=Int.ofNat 0 from h0),jaa,jao h0];rfl
 ·rw[qbb (show ¬h=Int.ofNat 0 from h0),jad,jan h0];refine jav (fun z:Int=>some ((_,z),())) ?_;show n-1=(n.toNat:Int)-1;omega
theorem qs7:Con Tryz.prog z0j qj7:=zpb trivial fun x y hx h=>⟨0,by
 obtain⟨h1,h2⟩:=qa5 (show cond (S.inI x.1 0 1000) (some (S.half (Int.toNat x.1) x.2.1,())) none=some y from h);exact(zgz 0 x.1 x.2.1 h1).trans (jav some h2)⟩
theorem zrt(lf:Nat)(d:qac)(h:Int)(h1:d.1.length<=1000)(h2:d.1.length % 2=0):qsn lf d h=some ((S.half d.1.length h).1,(S.half d.1.length h).2,()):=by
 simp only[qsn,ze9];rw[qa2 (n:=Nat.div d.1.length 2) (by show d.1.length / 2<_;omega)];have e2:Int.mul (Int.ofNat 2) (Int.ofNat (Nat.div d.1.length 2))=((d.1.length:Nat):Int):=by
  show (2:Int)*((d.1.length / 2:Nat):Int)=_;omega
 rw[e2,wrap_in (n:=((d.1.length:Nat):Int)) (by omega),wrap_in (n:=Int.sub ((d.1.length:Nat):Int) (Int.ofNat 1)) (by show -9223372036854775808<=(d.1.length:Int)-1/\(d.1.length:Int)-1<9223372036854775808;omega)];unfold S.half;by_cases h0:h=0
 ·rw[qbe (show h=Int.ofNat 0 from h0),jaa,jao h0];rfl
 ·rw[qbb (show ¬h=Int.ofNat 0 from h0),jad,jan h0];rfl
theorem q0z:Con Tryz.prog zza qy7:=z19 trivial fun x y hx h=>⟨0,by
 obtain⟨h1,h2⟩:=qa5 (show cond (Nat.ble x.1.1.length 1000&&decide (List.length x.1.1 % 2=0)) (some ((S.half x.1.1.length x.2.1).1,(S.half x.1.1.length x.2.1).2,())) none=some y from h);rw[jae] at h1;exact(zrt 0 x.1 x.2.1 (jam h1.1) (jbd h1.2)).trans (jav some h2)⟩
theorem zb7(lf:Nat)(n:Int)(b:Nat)(hb:b<=3):∀(k f m i:Nat) (o:List Int),i+k=b->k<f->m<=16777215->o.length=i->qgo lf n (Int.ofNat b) f (Int.ofNat m,qae o,Int.ofNat i)=some (qae (S.numB m k++o),())
 | 0,f+1,m,i,o,hi,hf,hm,ho=>by
  show qis lf n (Int.ofNat b) (qgo lf n (Int.ofNat b) f) _=_;simp only[qis];rw[qa4,jal (by omega),jad];rfl
 | k+1,f+1,m,i,o,hi,hf,hm,ho=>by
  show qis lf n (Int.ofNat b) (qgo lf n (Int.ofNat b) f) _=_;simp only[qis];have e1:Int.tmod (Int.ofNat m) (Int.ofNat 256)=((m % 256:Nat):Int):=rfl;have e2:Int.tdiv (Int.ofNat m) (Int.ofNat 256)=Int.ofNat (m / 256):=rfl;rw[qa4,jaj (by omega),jaa,qa1,qb3 (by show 1+o.length<_;omega),jaa];simp only[qt4,qi7,e1,e2,qcp]
  rw[qa2 (n:=m / 256) (by omega),show IntKind.i64.wrap (Int.add (Int.ofNat i) (Int.ofNat 1))=Int.ofNat (i+1) from qa2 (n:=i+1) (by omega),
   zb7 lf n b hb k f (m / 256) (i+1) _ (by omega) (by omega) (by omega) (by simp only[jah,jar,ja0];omega)]
  have e3:((m % 256:Nat):Int) % 256=((m % 256:Nat):Int):=by omega
  rw[e3];show some (qae (S.numB (m / 256) k++([_]++o)),())=some (qae ((S.numB (m / 256) k++[_])++o),());rw[jaz]
theorem zuo(n b:Int)(h:S.inI n 0 16777215=true)(h':S.inI b 0 3=true):Fz20 LF n b=some (qae (S.numB n.toNat b.toNat),()):=by
 obtain⟨h1,h2⟩:=qay.1 h;obtain⟨h3,h4⟩:=qay.1 h';obtain⟨k,rfl⟩:∃k:Nat,n=Int.ofNat k:=⟨n.toNat,by show n=((n.toNat:Nat):Int);omega⟩;obtain⟨c,rfl⟩:∃k:Nat,b=Int.ofNat k:=⟨b.toNat,by show b=((b.toNat:Nat):Int);omega⟩;have h2:(k:Int)<=16777215:=h2;have h4:(c:Int)<=3:=h4;simp only[Fz20,qzi];refine(zb7 LF (Int.ofNat k) c (by omega) c LF k 0 [] (by omega) (by unfold LF;omega) (by omega) rfl).trans ?_;rw[jbo];rfl
theorem zjf:Con Tryz.prog zys q3h:=z0l trivial fun x y hx h=>⟨LF,by
 obtain⟨h1,h2⟩:=qa5 (show cond (S.inI x.1 0 16777215&&S.inI x.2.1 0 3) (some (qae (S.numB (Int.toNat x.1) (Int.toNat x.2.1)),())) none=some y from h);rw[jae] at h1;exact(zuo x.1 x.2.1 h1.1 h1.2).trans (jav some h2)⟩
theorem q9z(n:Nat):S.numB n 1=[((n % 256:Nat):Int)]:=rfl
theorem zzl(n:Nat):S.numB n 2=S.two n:=rfl
theorem zos(n:Nat):S.numB n 3=((n / 65536 % 256:Nat):Int)::S.two n:=by
 show [((n / 256 / 256 % 256:Nat):Int),((n / 256 % 256:Nat):Int),((n % 256:Nat):Int)]=_;rw[Nat.div_div_eq_div_mul];rfl
theorem zc2(l:List qaa)(x2:Int)(b:List Int)(hr:rng b)(hb:b.length<=2000000):∀(m f i:Nat) (out:List ByteArray),(b.drop i).length<=m->m<f->out.length+m<=4000000->i<=b.length+64->qg3 LF l x2 f (qae b,Int.ofNat i,out)=some (out++S.chunks m (b.drop i),())
 | m,0,i,out,h1,h2,h3,h4=>by omega
 | m,f+1,i,out,h1,h2,h3,h4=>by
  show qr4 LF l x2 (qg3 LF l x2 f) _=_;simp only[qr4];rw[qa1,qa4];by_cases hi:i<b.length
  ·have hw:IntKind.i64.wrap (Int.add (Int.ofNat i) (Int.ofNat 64))=Int.ofNat (i+64):=qa2 (n:=i+64) (by omega);have hmin:imin (Int.ofNat b.length) (Int.ofNat (i+64))=Int.ofNat (min b.length (i+64)):=by
    rw[qy0];by_cases e:i+64<b.length
    ·rw[jao (show Int.ofNat (i+64)<Int.ofNat b.length from jd0.2 e),Nat.min_eq_right (by omega)]
    ·rw[jan (show ¬Int.ofNat (i+64)<Int.ofNat b.length from fun h=>e (jd0.1 h)),jb1 (by omega)]
   have hsub:IntKind.i64.wrap (Int.sub (Int.ofNat (min b.length (i+64))) (Int.ofNat i))=Int.ofNat (min b.length (i+64)-i):=by
    have:Int.sub (Int.ofNat (min b.length (i+64))) (Int.ofNat i)=Int.ofNat (min b.length (i+64)-i):=by
     show ((min b.length (i+64):Nat):Int)-(i:Int)=((min b.length (i+64)-i:Nat):Int);omega
    rw[this];exact qa2 (by omega)
   have hsub2:IntKind.i64.wrap (Int.sub (Int.ofNat 64) (Int.ofNat (min b.length (i+64)-i)))=Int.ofNat (64-(b.length-i)):=by
    have:Int.sub (Int.ofNat 64) (Int.ofNat (min b.length (i+64)-i))=Int.ofNat (64-(b.length-i)):=by
     show (64:Int)-((min b.length (i+64)-i:Nat):Int)=((64-(b.length-i):Nat):Int);omega
    rw[this];exact qa2 (by omega)
   have l1:lchk (Int.ofNat i) (Int.ofNat (min b.length (i+64))) (Int.ofNat b.length) (Int.ofNat b.length)=true:=qbv.2 ⟨jbe _,by show (i:Int)<=((min b.length (i+64):Nat):Int);omega,by show ((min b.length (i+64):Nat):Int)<=(b.length:Int);omega,jbq _⟩;have hext:ByteArray.extract (qae b) (Int.toNat (Int.ofNat i)) (Int.toNat (Int.ofNat (min b.length (i+64))))=qae ((b.drop i).take 64):=by
    refine qej ?_;rw[ql3,qbi hr,qbi (qee (qcu hr i) 64),jcn];show (b.drop i).take (min b.length (i+64)-i)=_;by_cases e:i+64<=b.length
    ·rw[Nat.min_eq_right e,show i+64-i=64 by omega]
    ·rw[jb1 (by omega),jbm (by rw[jax];exact jas _),jbm (by rw[jax];omega)]
   rw[jaj hi,jaa,hw,hmin,l1,jaa,hsub,hsub2,show S.inI (Int.ofNat (64-(b.length-i))) (Int.ofNat 0) (Int.ofNat 64)=true from qay.2 ⟨jbe _,by show ((64-(b.length-i):Nat):Int)<=64;omega⟩,jaa,hext];simp only;rw[qa1,qa1,qb3 (by rw[jba,ja9];show min _ _+Int.toNat (Int.ofNat _)<_;show min _ _+(64-_)<_;omega),jaa,jau (by show (out.length+1)*16<=_;omega),jaa,qcp];rw[jax] at h1;obtain⟨m',rfl⟩:∃m',m=m'+1:=⟨m-1,by omega⟩
   rw[zc2 l x2 b hr hb m' f (i+64) _ (by rw[jax];omega) (by omega) (by simp only[jc1,jah,jar,ja0];omega) (by omega),
    qfu m' (b:=b.drop i) (by rw[jax];omega),jcv,jax]
   show some ((out++[_])++S.chunks m' _,())=some (out++_::S.chunks m' _,());rw[jaz];rfl
  ·rw[jal hi,jad,jbn (by omega),zr9,jbo]
theorem zgj(l:List qaa)(x2:Int)(h:S.pk l=true)(h2:S.inI x2 0 1=true):Fz21 LF l x2=some (S.packed l x2,()):=by
 obtain⟨hok,hlen⟩:=qoy h;obtain⟨hx1,hx2⟩:=qay.1 h2;have hB:=qmo h;refine(range0 (σ:=ByteArray) (R:=qb2) (T:=fun K p=>qks LF l x2 K (fun q=>qg3 LF l x2 LF q) p) l (fun i s=>(s,i)) (fun i s=>s=qae (S.body (l.take i))) (fun _ _ _=>some (S.packed l x2,())) (by unfold LF;omega) (fun K s hs=>?_) (fun K i v rest s hs r hk=>?_) (S.lit []) rfl).trans rfl
 ·rw[jfr] at hs;simp only[qks,qbt,jad];rw[hs,qa1,show S.inI x2 (Int.ofNat 0) (Int.ofNat 16777215)=true from qay.2 ⟨hx1,by show x2<=16777215;omega⟩,show S.inI (Int.ofNat 1) (Int.ofNat 0) (Int.ofNat 3)=true from rfl,show S.inI (Int.ofNat (S.body l).length) (Int.ofNat 0) (Int.ofNat 16777215)=true from qay.2 ⟨jbe _,by show (((S.body l).length:Nat):Int)<=16777215;omega⟩,show S.inI (Int.ofNat 3) (Int.ofNat 0) (Int.ofNat 3)=true from rfl];simp only[jd1,jaa];rw[show Int.toNat (Int.ofNat (S.body l).length)=(S.body l).length from rfl,zos,q9z,qa1,qa1,qb3 (by show 1+3<_;decide),jaa,qcp,qa1,qb3 (by show 4+_<_;omega),jaa,qcp];have e0:((x2.toNat % 256:Nat):Int)=x2:=by omega
  have hrec:[((x2.toNat % 256:Nat):Int)]++(((S.body l).length / 65536 % 256:Nat):Int)::S.two (S.body l).length++S.body l=S.recB l x2:=by
   rw[e0];rfl
  rw[hrec];have hl:=qei l x2;exact zc2 l x2 (S.recB l x2) (qiy l (by omega)) (by omega) (S.recB l x2).length LF 0 [] (jas _) (by unfold LF;omega) (by rw[ja0];omega) (by omega)
 ·obtain⟨⟨v1,v2⟩,v3,v4⟩:=qj8 hok v r.mem;have hBi:=q8c h i;have hnext:qae (S.body (l.take (i+1)))=qae (S.body (l.take i)++S.cellB v):=by rw[r.take,q5v]
  obtain⟨k,s0,g⟩:=v;simp only at v1 v2 v3 v4;subst hs;generalize S.body (l.take i)=B at *;have hk1:S.inI k (Int.ofNat 0) (Int.ofNat 16777215)=true:=qay.2 ⟨v1,by show k<=16777215;omega⟩;have hkk:((k.toNat % 256:Nat):Int)=k % 256:=by omega
  simp only[qks,r.ilt,r.get,r.next,jaa,qcp,qa1,hk1,show S.inI (Int.ofNat 1) (Int.ofNat 0) (Int.ofNat 3)=true from rfl,jd1,q9z,hkk];rw[qb3 (by show B.length+1<_;omega),jaa];cases g with
  | true =>
   rw[jaa,show S.lit [0,0]=qae [0,0] from rfl,qcp,qb3 (by simp only[jah,jar,ja0];show _+2<_;omega),jaa];refine hk _ ?_;rw[hnext,jaz];rfl
  | false =>
   obtain⟨b,hb1,hb2,hb3,_⟩:=qky s0;subst hb2;rw[hb3] at v3;have hw:IntKind.i64.wrap (Int.ofNat (Nat.add (qae b).size 1))=Int.ofNat (b.length+1):=by
    rw[hb3];exact qa2 (n:=b.length+1) (by omega)
   rw[hw,jad,show S.inI (Int.ofNat (b.length+1)) (Int.ofNat 0) (Int.ofNat 16777215)=true from qay.2 ⟨jbe _,by show ((b.length+1:Nat):Int)<=16777215;omega⟩,show S.inI (Int.ofNat 2) (Int.ofNat 0) (Int.ofNat 3)=true from rfl,jd1,jaa];simp only[qcp,qa1,zzl];have h2:(S.two (Int.toNat (Int.ofNat (b.length+1)))).length=2:=rfl;rw[qb3 (by simp only[jah,jar,ja0,h2];show (_:Nat)+2<_;omega),jaa,qb3 (by simp only[jah,jar,ja0,h2];show (_:Nat)+(_:Nat)<_;omega),jaa];refine hk _ ?_;rw[hnext];have:S.cellB (k,qae b,false)=[k % 256]++(S.two (Int.toNat (Int.ofNat (b.length+1)))++b):=by
    unfold S.cellB;simp only[jad];rw[hb3,qbi hb1];rfl
   rw[this];simp only[jaz]
theorem q0w:Con Tryz.prog zuq qwn:=zgg ⟨zjf,qwa,trivial⟩ fun x y hx h=>⟨LF,by
 obtain⟨h1,h2⟩:=qa5 (show cond (S.pkm x.1 x.2.1) (some (S.packed x.1 x.2.1,())) none=some y from h);unfold S.pkm at h1;rw[jae] at h1;exact(zgj x.1 x.2.1 h1.1 h1.2).trans (jav some h2)⟩
theorem zif:Con Tryz.prog zjq q2v:=zk4 trivial fun x y hx h=>⟨0,h⟩
theorem zoq:Con Tryz.prog zpd q6e:=zvy trivial fun x y hx h=>⟨0,h⟩
theorem q10{l:List ByteArray}{i:Nat}(h:i<l.length)(a:Int):S.puts (a+i) (l.drop i)=S.put (a+i) (l.getD i S.none_)::S.puts (a+((i+1:Nat):Int)) (l.drop (i+1)):=by
 rw[jby h,jai,jac h];show S.put (a+i) _::S.puts (a+i+1) _=_;rw[show a+(i:Int)+1=a+((i+1:Nat):Int) by omega];rfl
theorem q8m(x1:List DAct)(a:Int)(l:List ByteArray)(ha:S.inI a 0 1000000=true)(hl:l.length<=1000000):∀(k f i:Nat) (out:List DAct),i+k=l.length->k<f->out.length+k<=2000000->qg7 LF x1 a l f (Int.ofNat i,out)=some ((),((out++S.puts (a+i) (l.drop i),()),()))
 | 0,f+1,i,out,hi,hf,ho=>by
  show qhy LF x1 a l (qg7 LF x1 a l f) _=_;simp only[qhy];rw[qa4,jal (by omega),jad,jbn (by omega)];show some ((),((out,()),()))=some ((),((out++[],()),()));rw[jbo]
 | k+1,f+1,i,out,hi,hf,ho=>by
  obtain⟨h1,h2⟩:=qay.1 ha;show qhy LF x1 a l (qg7 LF x1 a l f) _=_;simp only[qhy];rw[qa4,jaj (by omega),jaa,qj2 (i:=Int.ofNat i) (d:=S.none_) (jbe i) (by show (i:Int)<(l.length:Int);omega)];simp only
  rw[jau (by show (out.length+1)*32<=_;omega),jaa,show IntKind.i64.wrap (Int.add (Int.ofNat i) (Int.ofNat 1))=Int.ofNat (i+1) from qa2 (n:=i+1) (by omega),
   show IntKind.i64.wrap (Int.add a (Int.ofNat i))=a+i from wrap_in (by show -_<=a+(i:Int)/\a+(i:Int)<_;omega),
   q8m x1 a l ha hl k f (i+1) _ (by omega) (by omega) (by simp only[jc1,jah,jar,ja0];omega),q10 (l:=l) (i:=i) (by omega) a]
  show some ((),(((out++[_])++_,()),()))=some ((),((out++_::_,()),()));rw[jaz];rfl
theorem zqr(x1:List DAct)(a:Int)(l:List ByteArray)(ha:S.inI a 0 1000000=true)(hl:l.length<=1000000)(hx:x1.length<=1000000):Fz8 LF x1 a l=some ((),((S.app x1 (S.puts a l),()),())):=by
 simp only[Fz8,qzn];refine(q8m x1 a l ha hl l.length LF 0 x1 (by omega) (by unfold LF;omega) (by omega)).trans ?_;rw[jdk,show a+((0:Nat):Int)=a by omega];rfl
theorem q0e:ConR Tryz.prog idz8 spz8:=mkz8 trivial fun x y hx h=>⟨LF,by
 obtain⟨h1,h2⟩:=qa5 (show cond (S.inI x.2.1 0 1000000&&(Nat.ble x.2.2.1.length 1000000&&Nat.ble (S.lenA x.1.1) 1000000)) (some ((),((S.app x.1.1 (S.puts x.2.1 x.2.2.1),()),()))) none=some y from h);rw[jae,jae] at h1;exact(zqr x.1.1 x.2.1 x.2.2.1 h1.1 (jam h1.2.1) (jam h1.2.2)).trans (jav some h2)⟩
theorem zrh(x1:List DAct)(hx:x1.length<=4000000):Fz9 LF x1=some ((),((S.app x1 [S.sync],()),())):=by
 simp only[Fz9,qzt];rw[jau (by show (x1.length+1)*32<=_;omega),jaa];rfl
theorem qvy:ConR Tryz.prog idz9 spz9:=mkz9 trivial fun x y hx h=>⟨LF,by
 obtain⟨h1,h2⟩:=qa5 (show cond (Nat.ble (S.lenA x.1.1) 4000000) (some ((),((S.app x.1.1 [S.sync],()),()))) none=some y from h);exact(zrh x.1.1 (jam h1)).trans (jav some h2)⟩
def qgf(out:List qaa):Int:=(out.getLast?.map (·.1)).getD (-1)
theorem qwo(out:List qaa)(c:qaa):qgf (out++[c])=c.1:=by simp[qgf]
theorem z1y{R:Type}{out:List qaa}{k:Int}(hk:0<=k)(hl:out.length<1000000000)(N T:Option R) :
  cond (iltI (Int.ofNat 0) (Int.ofNat out.length)) (match jget out (IntKind.i64.wrap (Int.sub (Int.ofNat out.length) (Int.ofNat 1))) with
   | none=>none
   | some v3=>match out[Int.toNat (IntKind.i64.wrap (Int.sub (Int.ofNat out.length) (Int.ofNat 1)))]? with
    | none=>none
    | some v4=>cond (!iltI v4.1 k) N T) T=cond (decide (k<=qgf out)) N T:=by
 rcases List.eq_nil_or_concat out with rfl|⟨o,c,rfl⟩
 ·have:decide (k<=qgf [])=false:=jal (by show ¬k<=-1;omega);rw[this];rfl
 ·rw[List.concat_eq_append] at *;have hlen:(o++[c]).length=o.length+1:=by simp
  rw[hlen] at hl ⊢;have e:IntKind.i64.wrap (Int.sub (Int.ofNat (o.length+1)) (Int.ofNat 1))=Int.ofNat o.length:=by
   have:Int.sub (Int.ofNat (o.length+1)) (Int.ofNat 1)=Int.ofNat o.length:=by
    show ((o.length+1:Nat):Int)-1=(o.length:Int);omega
   rw[this];exact qa2 (by omega)
  rw[e,qbp];have h1:(o++[c])[o.length]?=some c:=by simp
  have h2:(o++[c])[Int.toNat (Int.ofNat o.length)]?=some c:=h1;rw[h1,h2,qa4,jaj (by omega),jaa,qwo];show cond (!iltI c.1 k) N T=_;rw[qbu,q0q]
def chgR(out:List qaa):Option (List qaa)->List qaa × Bool
 | some l=>(out++l,true)
 | none=>([],false)
theorem q0d(x1:ByteArray):∀(f F:Nat) (r:List Int) (out:List qaa),rng r->r.length<f->f<=F->out.length+r.length<=3000000->qi4 LF x1 F (qae r,out)=some ((chgR out (S.changes f r (qgf out))).1,(chgR out (S.changes f r (qgf out))).2,())
 | 0,_,r,out,hr,hf,hF,ho=>by omega
 | f+1,0,r,out,hr,hf,hF,ho=>by omega
 | f+1,F+1,r,out,hr,hf,hF,ho=>by
  show qoh LF x1 (qi4 LF x1 F) _=_;simp only[qoh,qbi hr,qa1];rcases r with _|⟨k,_|⟨a,_|⟨b,r⟩⟩⟩
  ·show some (out,true,())=some (out++[],true,());rw[jbo]
  ·rfl
  ·rfl
  ·have hk:=hr k (by simp);have ha:=hr a (by simp);have hb:=hr b (by simp);have hr':rng r:=fun x hx=>hr x (by simp[hx]);have hlen:(k::a::b::r).length=r.length+3:=rfl;rw[hlen] at hf ho;have l1:lchk (Int.ofNat 3) (Int.ofNat (k::a::b::r).length) (Int.ofNat (k::a::b::r).length) (Int.ofNat (k::a::b::r).length)=true:=qbv.2 ⟨by decide,by show (3:Int)<=((r.length+3:Nat):Int);omega,jbq _,jbq _⟩;have he:ByteArray.extract (qae (k::a::b::r)) 3 (Int.toNat (Int.ofNat (k::a::b::r).length))=qae r:=qhw hr 3;have wk:IntKind.i64.wrap k=k:=wrap_in (by omega);have wn:IntKind.i64.wrap (Int.add (IntKind.i64.wrap (Int.mul (IntKind.i64.wrap a) (Int.ofNat 256))) (IntKind.i64.wrap b))=a*256+b:=by
    rw[wrap_in (n:=a) (by omega),wrap_in (n:=b) (by omega),wrap_in (n:=Int.mul a (Int.ofNat 256)) (by show -_<=a*256/\a*256<_;omega)];exact wrap_in (by show -_<=a*256+b/\a*256+b<_;omega)
   have hn:0<=a*256+b/\a*256+b<65536:=by omega
   rw[qnf];rw[qa4,jaj (show 0<(k::a::b::r).length by rw[hlen];omega),jaa,qa4,jal (show ¬(k::a::b::r).length<3 by rw[hlen];omega),jad,qbp,qbp,qbp];show cond (lchk _ _ _ _) _ _=_;rw[l1,jaa,he,wk,wn];generalize a*256+b=n at hn;by_cases c1:199<k
   ·rw[qdj (show Int.ofNat 199<k from c1),jaa,jao (.inl c1)];rfl
   rw[qdv (show ¬Int.ofNat 199<k from c1),jad];refine(z1y (out:=out) hk.1 (by omega) _ _).trans ?_;by_cases c2:k<=qgf out
   ·rw[jaj c2,jaa,jao (.inr (.inl c2))];rfl
   rw[jal c2,jad,qa1,qa2 (n:=Nat.add r.length 1) (by show r.length+1<_;omega)];by_cases c3:(r.length:Int)+1<n
   ·rw[qdj (show Int.ofNat (Nat.add r.length 1)<n from by show ((r.length+1:Nat):Int)<n;omega),jaa,jao (.inr (.inr (.inl c3)))];rfl
   rw[qdv (show ¬Int.ofNat (Nat.add r.length 1)<n from by show ¬((r.length+1:Nat):Int)<n;omega),jad];by_cases c4:4001<n
   ·rw[qdj (show Int.ofNat 4001<n from c4),jaa,jao (.inr (.inr (.inr c4)))];rfl
   rw[qdv (show ¬Int.ofNat 4001<n from c4),jad,jan (by omega)];rw[jau (show Nat.mul (Nat.add out.length 1) 32<=140737488355328 by show (out.length+1)*32<=_;omega),jaa];by_cases c5:n=0
   ·rw[qbe (show n=Int.ofNat 0 from c5),jaa,jao c5,q0d x1 f F r _ hr' (by omega) (by omega) (by simp only[jc1,jah,jar,ja0];omega)];rw[jc1,qwo];show some ((chgR (out++[(k,S.none_,true)]) (S.changes f r k)).1,_,())=_;cases S.changes f r k with
    | none=>rfl
    | some l=>show some (out++[_]++l,true,())=some (out++_::l,true,());rw[jaz];rfl
   ·rw[qbb (show ¬n=Int.ofNat 0 from c5),jad,jan c5];have e1:IntKind.i64.wrap (Int.sub n (Int.ofNat 1))=n-1:=wrap_in (by show -_<=n-1/\n-1<_;omega);have l2:lchk (Int.ofNat 0) (n-1) (Int.ofNat r.length) (Int.ofNat r.length)=true:=qbv.2 ⟨jbq _,by show (0:Int)<=n-1;omega,by show n-1<=(r.length:Int);omega,jbq _⟩;have l3:lchk (n-1) (Int.ofNat r.length) (Int.ofNat r.length) (Int.ofNat r.length)=true:=qbv.2 ⟨by omega,by show n-1<=(r.length:Int);omega,jbq _,jbq _⟩;rw[e1,l2,jaa,l3,jaa,show Int.toNat (Int.ofNat r.length)=r.length from rfl,qhw hr',q4r hr'];rw[q0d x1 f F (r.drop (n-1).toNat) _ (qcu hr' _) (by rw[jax];omega) (by omega) (by simp only[jc1,jah,jar,ja0,jax];omega)];rw[jc1,qwo];cases S.changes f (r.drop (n-1).toNat) k with
    | none=>rfl
    | some l=>show some (out++[_]++l,true,())=some (out++_::l,true,());rw[jaz];rfl
theorem zmz(b:ByteArray)(h:b.size<=1000000):Fz2 LF b=some ((S.chg b).1,(S.chg b).2,()):=by
 obtain⟨r,h1,rfl,h3,h4⟩:=qky b;rw[h3] at h;simp only[Fz2,qvx];refine(q0d (qae r) (r.length+1) LF r [] h1 (by omega) (by unfold LF;omega) (by rw[ja0];omega)).trans ?_;unfold S.chg;rw[h3,h4];show some ((chgR [] (S.changes (r.length+1) r (-1))).1,(chgR [] (S.changes (r.length+1) r (-1))).2,())=_;cases S.changes (r.length+1) r (-1)<;>rfl
theorem ziu:Con Tryz.prog idz2 spz2:=mkz2 trivial fun x y hx h=>⟨LF,by
 obtain⟨h1,h2⟩:=qa5 (show cond (Nat.ble x.1.size 1000000) (some ((S.chg x.1).1,(S.chg x.1).2,())) none=some y from h);exact(zmz x.1 (jam h1)).trans (jav some h2)⟩
theorem zli(s:ByteArray)(h:s.size<=3):Fz4 LF s=some (S.val s,()):=by
 obtain⟨b,hb1,rfl,hb3,hb4⟩:=qky s;rw[hb3] at h;unfold S.val;rw[hb4];simp only[Fz4,qye];refine(range0 (σ:=Int) (R:=Rtz4) b (fun i n=>(n,i)) (fun i n=>0<=n/\(i=0->n<1)/\(i=1->n<256)/\(i=2->n<65536)) (fun rest _ n=>some (rest.foldl (fun n b=>256*n+b) n,())) (by unfold LF;omega) (fun K n hn=>?_) (fun K i v rest n hn r hk=>?_) 0 (show (0:Int)<=0/\((0:Nat)=0->(0:Int)<1)/\((0:Nat)=1->(0:Int)<256)/\((0:Nat)=2->(0:Int)<65536) by omega)).trans rfl
 ·simp only[qrq,qa1,qbt,jad];rfl
 ·have hv:=hb1 v r.mem;have hi:=r.lt;simp only[qrq,qa1,r.ilt,hb4,r.get,r.next,jaa];have hn':0<=n/\n<65536:=by omega
  have hw:IntKind.i64.wrap (Int.add (IntKind.i64.wrap (Int.mul (Int.ofNat 256) n)) (IntKind.i64.wrap v))=256*n+v:=by
   rw[wrap_in (n:=v) (by omega),wrap_in (n:=Int.mul (Int.ofNat 256) n) (by show -_<=(256:Int)*n/\(256:Int)*n<_;omega)];exact wrap_in (by show -_<=(256:Int)*n+v/\(256:Int)*n+v<_;omega)
  rw[hw];exact hk _ ⟨by omega,by omega,by omega,by omega⟩
theorem zoj:Con Tryz.prog idz4 spz4:=mkz4 trivial fun x y hx h=>⟨LF,by
 obtain⟨h1,h2⟩:=qa5 (show cond (Nat.ble x.1.size 3) (some (S.val x.1,())) none=some y from h);exact(zli x.1 (jam h1)).trans (jav some h2)⟩
theorem quq:∀{l:List qaa} {last:Int},S.okGo l last=true->-1<=last->(l.length:Int)<=max 0 (199-last)
 | [],_,_,_=>by rw[ja0];omega
 | c::l,last,h,hl=>by
  obtain⟨h1,h2,h3,h4,h5⟩:=qbq.1 h;have:=quq h5 (by omega);rw[jar];omega
theorem qq9{l:List qaa}(h:S.okC l=true):l.length<=200:=by
 have:=quq (l:=l) (last:=-1) h (jbq _);omega
theorem q3k(x c:qaa)(h:x.1<c.1)(a:List qaa):S.ins1 c (x::a)=x::S.ins1 c a:=by
 show (if x.1<c.1 then x::S.ins1 c a else _)=_;rw[jao h]
theorem qlv(x:qaa):∀(b a:List qaa) (last:Int),S.okGo b last=true->x.1<=last->S.changed (x::a) b=x::S.changed a b
 | [],a,_,_,_=>rfl
 | c::b,a,last,h,hx=>by
  obtain⟨h1,h2,h3,h4,h5⟩:=qbq.1 h;show S.changed (S.ins1 c (x::a)) b=x::S.changed (S.ins1 c a) b;rw[q3k x c (by omega)];exact qlv x b _ c.1 h5 (by omega)
theorem zw4{x c:qaa}{a b:List qaa}{last:Int}(h:S.okGo (c::b) last=true)(hx:x.1<c.1):S.changed (x::a) (c::b)=x::S.changed a (c::b):=by
 obtain⟨h1,h2,h3,h4,h5⟩:=qbq.1 h;show S.changed (S.ins1 c (x::a)) b=x::S.changed (S.ins1 c a) b;rw[q3k x c hx];exact qlv x b _ c.1 h5 (by omega)
theorem zs4{x c:qaa}{a b:List qaa}{last:Int}(h:S.okGo (c::b) last=true)(hx:x.1=c.1):S.changed (x::a) (c::b)=cond c.2.2 (S.changed a b) (c::S.changed a b):=by
 obtain⟨h1,h2,h3,h4,h5⟩:=qbq.1 h;show S.changed (if x.1<c.1 then x::S.ins1 c a else if x.1=c.1 then cond c.2.2 a (c::a) else _) b=_;rw[jan (by omega),jao hx];cases c.2.2 with
 | true=>rfl
 | false=>exact qlv c b a c.1 h5 (jbq _)
theorem zqs{x c:qaa}{a b:List qaa}{last:Int}(h:S.okGo (c::b) last=true)(hx:c.1<x.1):S.changed (x::a) (c::b)=cond c.2.2 (S.changed (x::a) b) (c::S.changed (x::a) b):=by
 obtain⟨h1,h2,h3,h4,h5⟩:=qbq.1 h;show S.changed (if x.1<c.1 then x::S.ins1 c a else if x.1=c.1 then cond c.2.2 a (c::a) else cond c.2.2 (x::a) (c::x::a)) b=_;rw[jan (by omega),jan (by omega)];cases c.2.2 with
 | true=>rfl
 | false=>exact qlv c b (x::a) c.1 h5 (jbq _)
theorem zen{c:qaa}{b:List qaa}{last:Int}(h:S.okGo (c::b) last=true):S.changed [] (c::b)=cond c.2.2 (S.changed [] b) (c::S.changed [] b):=by
 obtain⟨h1,h2,h3,h4,h5⟩:=qbq.1 h;show S.changed (cond c.2.2 [] [c]) b=_;cases c.2.2 with
 | true=>rfl
 | false=>exact qlv c b [] c.1 h5 (jbq _)
theorem qws{l:List qaa}{i:Nat}(h:i<l.length):∃c,l[i]?=some c/\l.drop i=c::l.drop (i+1):=⟨l[i],jac h,jby h⟩
theorem qxs:∀{l:List qaa} {last:Int} (i:Nat),S.okGo l last=true->∃last',S.okGo (l.drop i) last'=true
 | l,last,0,h=>⟨last,h⟩
 | [],last,i+1,h=>⟨last,h⟩
 | c::l,last,i+1,h=>qxs i (qbq.1 h).2.2.2.2
theorem qfb(a b:List qaa)(ha:a.length<=1000)(hb:b.length<=1000)(ok:S.okGo b (-1)=true):∀(m F i k:Nat) (out:List qaa),(a.length-i)+(b.length-k)<=m->m<F->i<=a.length->k<=b.length->out.length+m<=3000000->qjq LF a b F (Int.ofNat k,out,Int.ofNat i)=some (out++S.changed (a.drop i) (b.drop k),())
 | m,0,i,k,out,h1,h2,h3,h4,h5=>by omega
 | m,F+1,i,k,out,h1,h2,h3,h4,h5=>by
  show qe5 LF a b (qjq LF a b F) _=_;have wi:IntKind.i64.wrap (Int.add (Int.ofNat i) (Int.ofNat 1))=Int.ofNat (i+1):=qa2 (n:=i+1) (by omega);have wk:IntKind.i64.wrap (Int.add (Int.ofNat k) (Int.ofNat 1))=Int.ofNat (k+1):=qa2 (n:=k+1) (by omega);have hB:Nat.ble (Nat.mul (Nat.add out.length 1) 32) 140737488355328=true:=jau (by show (out.length+1)*32<=_;omega);have ap:∀(c:qaa) (l:List qaa),List.append out [(c.1,(c.2.1,c.2.2))]++l=out++c::l:=fun c l=>by
   show (out++[c])++l=_;rw[jaz];rfl
  have al:∀(c:qaa),(List.append out [(c.1,(c.2.1,c.2.2))]).length=out.length+1:=fun c=>by
   show (out++[c]).length=_;rw[jah];rfl
  by_cases hi:i<a.length
  ·obtain⟨x,x1,x2⟩:=qws hi;have i1:iltI (Int.ofNat i) (Int.ofNat a.length)=true:=by rw[qa4];exact jaj hi
   by_cases hk:k<b.length
   ·obtain⟨c,c1,c2⟩:=qws hk;have k1:iltI (Int.ofNat k) (Int.ofNat b.length)=true:=by rw[qa4];exact jaj hk
    have k2:ieqI (Int.ofNat k) (Int.ofNat b.length)=false:=by rw[qfh];exact jal (by omega)
    obtain⟨last,hok⟩:=qxs k ok;rw[c2] at hok;by_cases q1:x.1<c.1
    ·have e1:=qdj q1;simp only[qe5,i1,k2,qbp,x1,c1,e1,hB,wi,jaa,jad];rw[qfb a b ha hb ok (m-1) F (i+1) k _ (by omega) (by omega) (by omega) (by omega) (by rw[al];omega),x2,c2,zw4 hok q1,ap]
    ·have e1:=qdv q1;by_cases q2:x.1=c.1
     ·have e2:=qbe q2;simp only[qe5,i1,k2,qbp,x1,c1,e1,e2,hB,wi,wk,jaa,jad];rw[x2,c2,zs4 hok q2];cases hg:c.2.2 with
      | true =>
       simp only[jaw,jad,jaa];rw[qfb a b ha hb ok (m-1) F (i+1) (k+1) _ (by omega) (by omega) (by omega) (by omega) (by omega)]
      | false =>
       simp only[jat,jad,jaa];have ap':=ap c;have al':=al c;rw[hg] at ap' al';rw[qfb a b ha hb ok (m-1) F (i+1) (k+1) _ (by omega) (by omega) (by omega) (by omega) (by rw[al'];omega),ap']
     ·have e2:=qbb q2;simp only[qe5,i1,k2,qbp,x1,c1,e1,e2,hB,wi,wk,jaa,jad];rw[x2,c2,zqs hok (by omega)];cases hg:c.2.2 with
      | true =>
       simp only[jaw,jad,jaa];rw[qfb a b ha hb ok (m-1) F i (k+1) _ (by omega) (by omega) (by omega) (by omega) (by omega),x2]
      | false =>
       simp only[jat,jad,jaa];have ap':=ap c;have al':=al c;rw[hg] at ap' al';rw[qfb a b ha hb ok (m-1) F i (k+1) _ (by omega) (by omega) (by omega) (by omega) (by rw[al'];omega),ap',x2]
   ·have ek:k=b.length:=by omega
    have k2:ieqI (Int.ofNat k) (Int.ofNat b.length)=true:=by rw[qfh];exact jaj ek
    simp only[qe5,i1,k2,qbp,x1,hB,wi,jaa];rw[qfb a b ha hb ok (m-1) F (i+1) k _ (by omega) (by omega) (by omega) (by omega) (by rw[al];omega),jbn (show b.length<=k by omega),x2,ap];rfl
  ·have i1:iltI (Int.ofNat i) (Int.ofNat a.length)=false:=by rw[qa4];exact jal hi
   have x2:a.drop i=[]:=jbn (by omega);by_cases hk:k<b.length
   ·obtain⟨c,c1,c2⟩:=qws hk;have k1:iltI (Int.ofNat k) (Int.ofNat b.length)=true:=by rw[qa4];exact jaj hk
    have k2:ieqI (Int.ofNat k) (Int.ofNat b.length)=false:=by rw[qfh];exact jal (by omega)
    obtain⟨last,hok⟩:=qxs k ok;rw[c2] at hok;simp only[qe5,i1,k1,k2,qbp,c1,hB,wk,jaa,jad];rw[x2,c2,zen hok];cases hg:c.2.2 with
    | true =>
     simp only[jaw,jad,jaa];rw[qfb a b ha hb ok (m-1) F i (k+1) _ (by omega) (by omega) (by omega) (by omega) (by omega),x2]
    | false =>
     simp only[jat,jad,jaa];have ap':=ap c;have al':=al c;rw[hg] at ap' al';rw[qfb a b ha hb ok (m-1) F i (k+1) _ (by omega) (by omega) (by omega) (by omega) (by rw[al'];omega),ap',x2]
   ·have k1:iltI (Int.ofNat k) (Int.ofNat b.length)=false:=by rw[qa4];exact jal hk
    simp only[qe5,i1,k1,jad];rw[x2,jbn (show b.length<=k by omega)];show some (out,())=some (out++[],());rw[jbo]
theorem z10{a b:List qaa}(h:S.mrg a b=true):okS a (-1)/\S.okC b=true:=by
 unfold S.mrg S.srt at h;rw[jae,jae,jb4] at h;exact⟨⟨h.1.1,fun c hc=>by
  have:=jc5.1 h.1.2 c hc;exact jca.2 this⟩,h.2⟩
theorem zw1{a b:List qaa}(h:okS a (-1))(k:S.okC b=true):S.mrg a b=true:=by
 unfold S.mrg S.srt;rw[jae,jae,jb4];exact⟨⟨h.1,jc5.2 fun c hc=>by rw[h.2 c hc];decide⟩,k⟩
theorem zgs(a b:List qaa)(h:S.mrg a b=true):Fz6 LF a b=some (S.changed a b,()):=by
 obtain⟨h1,h2⟩:=z10 h;have l1:=qq9 h1.1;have l2:=qq9 h2;simp only[Fz6,qzz];refine(qfb a b (by omega) (by omega) h2 (a.length+b.length) LF 0 0 [] (by omega) (by unfold LF;omega) (by omega) (by omega) (by rw[ja0];omega)).trans ?_;rfl
theorem znr:Con Tryz.prog idz6 spz6:=mkz6 trivial fun x y hx h=>⟨LF,by
 obtain⟨h1,h2⟩:=qa5 (show cond (S.mrg x.1 x.2.1) (some (S.changed x.1 x.2.1,())) none=some y from h);exact(zgs x.1 x.2.1 h1).trans (jav some h2)⟩
theorem q39(a b:Nat):(!iltI (Int.ofNat a) (Int.ofNat b))=Nat.ble b a:=by
 rw[qa4,jcp,jb4,jev,Nat.ble_eq];omega
theorem qz5(a b:Nat):iltI (Int.ofNat a) (Int.ofNat b)=Nat.blt a b:=by
 rw[qa4,jcp,jdn,Nat.blt_eq]
theorem q5y(a b:Nat):(!Nat.blt a b)=Nat.ble b a:=by rw[<- qz5,q39]
theorem zk6(lf:Nat)(d:qac):qoa lf d=some (S.few d,()):=by
 simp only[qoa,q9i,qz5,q5y];unfold S.few;cases Nat.ble d.1.length 40<;>cases Nat.blt 1000 d.1.length<;>cases Nat.ble d.1.length 1100<;>cases Nat.ble d.2.length 80<;>cases Nat.blt 4000 d.2.length<;>cases Nat.ble d.2.length 4100<;>rfl
theorem zwi:Con Tryz.prog zja q8y:=zmt trivial fun x y hx h=>⟨0,(zk6 0 x.1).trans h⟩
theorem zqi(l:List qaa)(hl:l.length<LF):Fz1 LF l=some (S.shortL l,()):=by
 simp only[Fz1,quj];refine(qhn (T:=fun K p=>ql5 LF l K p) l (fun rest _=>some (rest.all (fun c=>Nat.ble c.2.1.size 6000)&&(Nat.ble l.length 12||(Nat.blt 60 l.length&&Nat.ble l.length 100)),())) hl (fun K=>?_) (fun K i v rest r h=>?_)).trans rfl
 ·simp only[ql5,qbt,jad,qz5,q5y];rw[List.all_nil,jbt];cases Nat.ble l.length 12<;>cases Nat.blt 60 l.length<;>cases Nat.ble l.length 100<;>rfl
 ·simp only[ql5,r.ilt,r.get,r.next,jaa];rw[jdv];have:iltI (Int.ofNat 6000) (Int.ofNat v.2.1.size)=!Nat.ble v.2.1.size 6000:=by rw[<- q39,Bool.not_not]
  rw[this,h];cases Nat.ble v.2.1.size 6000<;>rfl
theorem zfu:Con Tryz.prog idz1 spz1:=mkz1 trivial fun x y hx h=>⟨LF,(zqi x.1 (qb1 (c:=cCell) hx.1)).trans h⟩
theorem zlr:(S.newDisk 8).2=0/\(S.format (S.newDisk 8).1).2=0/\(S.doD (S.newDisk 8).1 (S.format (S.newDisk 8).1).1).2=0/\(S.open_ S.madeD).2=0:=by
 refine⟨?_,?_,?_,?_⟩<;>kernel_rfl
theorem zyn(lf:Nat):qqu lf 8=some (S.madeJ,true,()):=by
 obtain⟨h1,h2,h3,h4⟩:=zlr;simp only[qqu,q6q];show cond (ieqI (S.newDisk 8).2 _) (cond (ieqI (S.format (S.newDisk 8).1).2 _) (cond (ieqI (S.doD (S.newDisk 8).1 (S.format (S.newDisk 8).1).1).2 _) (some ((S.open_ S.madeD).1,ieqI (S.open_ S.madeD).2 _,())) _) _) _=_;rw[h1,h2,h3,h4];rfl
theorem zn2(lf:Nat)(j:qad)(k:Int)(l:List qaa):qqa lf j k l=some (true,()):=by
 have e1:∀a:List DAct,S.sameA a a=true:=fun a=>jaj rfl;have e2:∀a:qad,S.sameJ a a=true:=fun a=>jaj rfl;have e3:∀a:ByteArray,keqS a a=true:=fun a=>jaj rfl;simp only[qqa,q95,e1,e2,e3,zy0,jaa,decide_true];cases (!S.few (j.1.1,j.1.2))<;>cases (!S.shortL l)<;>cases iltI (Int.ofNat 300) (Int.ofNat j.2.2.2.length)<;>rfl
abbrev qr3:Type:=ByteArray × Unit
abbrev zty:Nat:=54
def zhx(lf:Nat):Option qr3:=(match (cond (S.oneN (S.lit [0]) (Int.ofNat 64)) (some (S.blank,())) none) with|none=>none|some v0=>(some (v0.1,())))
def q1o(lf:Nat):Option qr3:=zhx lf
theorem zmq{g:ElA []->Option qr3}(hsm:SmOK Tryz.prog [(90,zdh)])(hg:∀(x:ElA []) (y:qr3),WfA [] x->g x=some y->∃lf,q1o lf=some y):Con Tryz.prog 54 ⟨[],[(false,.str)],g⟩ :=
 conU (fi:=fi54) (hxl:=[]) (fun lf x=>q1o lf) cm3 zpq trivial hsm hg
def qna:Nat->Option Nm:=fun k=>cond (Nat.beq k 4) (some ⟨[0,1,12,13],[],[],[],[],0,0,false⟩) (none)
def qnh:Nat->Bool:=fun k=>cond (Nat.beq k 4) true (false)
def q56:=qnh
abbrev qdf:Type:=Bool × Unit
def zcf:List (Nat × Sm):=[]
def zb2:List (Nat × Hx):=[]
def qvr(R:Type)(lf:Nat):ClK R:=qa0 Tryz.prog ttT.get ftT.get (nm1 100 qna) (smL zcf) (hxL zb2) lf 20 R
abbrev zlg:Nat:=100
def qir(x1:(List qaa))(x2:(List qaa))(p:Int):NRes:=(NRes.mk (.node (some (IV.lst cCell x1)) (.node (some (IV.lst cCell x2)) .leaf (.node none .leaf (.node (some (IV.int .i64 p)) .leaf .leaf))) (.node none (.node none .leaf (.node (some (IV.int .i64 (Int.ofNat x1.length))) .leaf .leaf)) .leaf)) (IS.mk .leaf 0) [] 0)
def qud(lf:Nat)(x1:(List qaa))(x2:(List qaa))(L4:Int->Option qdf):Option qdf:=(cond (Bool.not (ieqI (Int.ofNat x1.length) (Int.ofNat x2.length))) (some (false,())) (L4 (Int.ofNat 0)))
def qo4(lf:Nat)(x1:(List qaa))(x2:(List qaa))(L4:Int->Option qdf)(p:Int):Option qdf:=(cond (iltI p (Int.ofNat x1.length)) (match (jget x1 p) with|none=>none|some v0=>(match (jget x2 p) with|none=>none|some v1=>(cond (Bool.not (Bool.and (keqI v0.1 v1.1) (Bool.and (keqS v0.2.1 v1.2.1) (Bool.and (keqB v0.2.2 v1.2.2) true)))) (some (false,())) (L4 (IntKind.i64.wrap (Int.add p (Int.ofNat 1))))))) (some (true,())))
abbrev gz22:Type:=ElA [(.list cCell),(.list cCell)]->Option qdf
abbrev sz22(g:gz22):Sm:=⟨[(.list cCell),(.list cCell)],[(false,.bool)],g⟩
abbrev Ez22(g:gz22)(J:JT qdf)(lf:Nat)(x1:(List qaa))(x2:(List qaa)):=qbf Tryz.prog ttT.get qna qeh.nt (qvr _ lf) lf qnh J qeh.body [] (qat (argV [(.list cCell),(.list cCell)] (x1,x2,())) 0 .leaf) S0 [] (qam ttT.get qeh (sz22 g))
abbrev Bz22(g:gz22)(J:JT qdf)(lf k:Nat)(ms:List Nat)(q:NRes):=qbl Tryz.prog ttT.get qna qeh.nt (qvr _ lf) lf qnh J k qeh.body [] ms q (qam ttT.get qeh (sz22 g))
theorem ztx(g:gz22)(J:JT qdf)(lf:Nat)(x1:(List qaa))(x2:(List qaa)):Ez22 g J lf x1 x2=qud lf x1 x2 (fun q=>J 4 [lf] (qir x1 x2 q)):=by kernel_rfl
theorem z01(g:gz22)(J:JT qdf)(lf:Nat)(x1:(List qaa))(x2:(List qaa))(m1:Nat)(p:Int):Bz22 g J lf 4 [m1] (qir x1 x2 p)=qo4 lf x1 x2 (fun q=>J 4 [m1] (qir x1 x2 q)) p:=by kernel_rfl
theorem zan:(regs qeh.body).Nodup:=by decide +kernel
theorem q88:okC qna qnh q56 qeh.body none=true:=by kernel_rfl
def Az22(g:gz22)(lf:Nat):JT qdf:=atN Tryz.prog ttT.get qna qeh (sz22 g) (qvr _ lf) lf q56
def qql(lf:Nat)(x1:(List qaa))(x2:(List qaa)):Nat->(Int)->Option qdf:=qav fun K p=>qo4 lf x1 x2 K p
theorem q5t(g:gz22)(lf:Nat)(x1:(List qaa))(x2:(List qaa)):∀(n:Nat) (p:Int),Az22 g lf 4 [n] (qir x1 x2 p)=qql lf x1 x2 n p
 | 0,p=>qa7 4 [0] rfl _
 | n+1,p=>by
  have ih:=q5t g lf x1 x2 n;refine(qa8 (qaz 20 _) zan q88 4 [n+1] [n] rfl _).trans ((z01 g (Az22 g lf) lf x1 x2 n p).trans ?_);rw[(show (fun q=>Az22 g lf 4 [n] (qir x1 x2 q))=(fun q=>qql lf x1 x2 n q) from funext ih)];rfl
def Fz22(lf:Nat)(x1:(List qaa))(x2:(List qaa)):Option qdf:=qud lf x1 x2 (fun q=>qql lf x1 x2 lf q)
theorem zs0(g:gz22)(lf:Nat)(x1:(List qaa))(x2:(List qaa)):Ez22 g (Az22 g lf) lf x1 x2=Fz22 lf x1 x2:=by
  refine(ztx g (Az22 g lf) lf x1 x2).trans ?_;rw[(show (fun q=>Az22 g lf 4 [lf] (qir x1 x2 q))=(fun q=>qql lf x1 x2 lf q) from funext fun q=>q5t g lf x1 x2 lf q)];rfl
theorem z1g:qa3 Tryz.prog zb2:=trivial
theorem zia{g:gz22}(hsm:SmOK Tryz.prog zcf)(hg:∀(x:ElA [(.list cCell),(.list cCell)]) (y:qdf),WfA [(.list cCell),(.list cCell)] x->g x=some y->∃lf,Fz22 lf x.1 x.2.1=some y):Con Tryz.prog 100 ⟨[(.list cCell),(.list cCell)],[(false,.bool)],g⟩ :=
 conV (st:=qnh) (fun lf x=>Fz22 lf x.1 x.2.1) cm3 zwc z1g zan q88 (fun lf x=>zs0 g lf x.1 x.2.1) hsm hg
end Go.Proofs.YtnhmanoiolfapaaGreat
end

section
namespace Go.Proofs.YtnhmanoiolfapaaGreat
open Go Go.RowKit Go.Shelf
def qzr:Go.Shelf.Ren:=⟨fun|105=>90|212=>102|99=>106|165=>107|166=>108|170=>109|169=>110|263=>116|264=>117|206=>118|240=>119|241=>120|276=>126|277=>127|n=>n,fun|9=>9|3=>3|4=>4|20=>20|0=>0|46=>141|109=>158|5=>5|72=>166|76=>170|51=>178|146=>179|53=>181|148=>182|70=>164|37=>78|75=>169|127=>184|164=>191|80=>100|n=>n,fun|n=>n⟩
theorem zei:Go.Proofs.Lays.n105 Tryz.prog qzr:={
 mixed:=by kernel_rfl
 f99:=Tryz.func106.trans (jav some (by kernel_rfl))
 f105:=Tryz.func90.trans (jav some (by kernel_rfl))
 f165:=Tryz.func107.trans (jav some (by kernel_rfl))
 f166:=Tryz.func108.trans (jav some (by kernel_rfl))
 f169:=Tryz.func110.trans (jav some (by kernel_rfl))
 f170:=Tryz.func109.trans (jav some (by kernel_rfl))
 f206:=Tryz.func118.trans (jav some (by kernel_rfl))
 f212:=Tryz.func102.trans (jav some (by kernel_rfl))
 f240:=Tryz.func119.trans (jav some (by kernel_rfl))
 f241:=Tryz.func120.trans (jav some (by kernel_rfl))
 f263:=Tryz.func116.trans (jav some (by kernel_rfl))
 f264:=Tryz.func117.trans (jav some (by kernel_rfl))
 f276:=Tryz.func126.trans (jav some (by kernel_rfl))
 f277:=Tryz.func127.trans (jav some (by kernel_rfl))
 t0:=Tryz.underlying0
 a0:=Tryz.isAgg0
 z0:=Tryz.sizeOf0
 v0:=Tryz.zeroValue0
 t3:=Tryz.underlying3
 a3:=Tryz.isAgg3
 z3:=Tryz.sizeOf3
 v3:=Tryz.zeroValue3
 t4:=Tryz.underlying4
 a4:=Tryz.isAgg4
 z4:=Tryz.sizeOf4
 v4:=Tryz.zeroValue4
 t5:=Tryz.underlying5
 a5:=Tryz.isAgg5
 z5:=Tryz.sizeOf5
 v5:=Tryz.zeroValue5
 t9:=Tryz.underlying9
 a9:=Tryz.isAgg9
 z9:=Tryz.sizeOf9
 v9:=Tryz.zeroValue9
 t20:=Tryz.underlying20
 a20:=Tryz.isAgg20
 z20:=Tryz.sizeOf20
 v20:=Tryz.zeroValue20
 t37:=Tryz.underlying78
 a37:=Tryz.isAgg78
 z37:=Tryz.sizeOf78
 v37:=Tryz.zeroValue78
 t46:=Tryz.underlying141
 a46:=Tryz.isAgg141
 z46:=Tryz.sizeOf141
 v46:=Tryz.zeroValue141
 t51:=Tryz.underlying178
 a51:=Tryz.isAgg178
 z51:=Tryz.sizeOf178
 v51:=Tryz.zeroValue178
 t53:=Tryz.underlying181
 a53:=Tryz.isAgg181
 z53:=Tryz.sizeOf181
 v53:=Tryz.zeroValue181
 t70:=Tryz.underlying164
 a70:=Tryz.isAgg164
 z70:=Tryz.sizeOf164
 v70:=Tryz.zeroValue164
 t72:=Tryz.underlying166
 a72:=Tryz.isAgg166
 z72:=Tryz.sizeOf166
 v72:=Tryz.zeroValue166
 t75:=Tryz.underlying169
 a75:=Tryz.isAgg169
 z75:=Tryz.sizeOf169
 v75:=Tryz.zeroValue169
 t76:=Tryz.underlying170
 a76:=Tryz.isAgg170
 z76:=Tryz.sizeOf170
 v76:=Tryz.zeroValue170
 t109:=Tryz.underlying158
 a109:=Tryz.isAgg158
 z109:=Tryz.sizeOf158
 v109:=Tryz.zeroValue158
 t127:=Tryz.underlying184
 a127:=Tryz.isAgg184
 z127:=Tryz.sizeOf184
 v127:=Tryz.zeroValue184
 t146:=Tryz.underlying179
 a146:=Tryz.isAgg179
 z146:=Tryz.sizeOf179
 v146:=Tryz.zeroValue179
 t148:=Tryz.underlying182
 a148:=Tryz.isAgg182
 z148:=Tryz.sizeOf182
 v148:=Tryz.zeroValue182
 t164:=Tryz.underlying191
 a164:=Tryz.isAgg191
 z164:=Tryz.sizeOf191
 v164:=Tryz.zeroValue191 }
theorem zh8:Builder.Extra Tryz.prog qzr:={
 sizeBuilder:=by kernel_rfl
 liesBuilder:=by kernel_rfl
 t5:=Tryz.underlying5
 a5:=Tryz.isAgg5
 z5:=Tryz.sizeOf5
 v5:=Tryz.zeroValue5
 infoByte:=by kernel_rfl
 cellsByte:=by kernel_rfl
 sizeByte:=by kernel_rfl
 neB5:=by decide }
theorem zrx(s:ByteArray)(c:Nat)(w:World)(hc:c<=9223372036854775807)(hlen:s.size*c<=140737488355328) :
  Calls Tryz.prog 90 #[.string s,.int .i64 c] w fun e w'=>e=.returned (.string ⟨(Lib.repeatL s.data.toList c).toArray⟩)/\Below w.heap.size w w':=Any.strings_Repeat zei zh8 s c w hc hlen
end Go.Proofs.YtnhmanoiolfapaaGreat
end

noncomputable section
set_option maxRecDepth 100000
namespace Go.Proofs.YtnhmanoiolfapaaGreat
open Go Go.Sx Go.RowKit Go.Jx
theorem ztm:qaf Tryz.prog 90:=⟨_,Tryz.func90,by kernel_rfl,by kernel_rfl⟩
theorem z1i{f:Nat}{s:Sm}(hC:qaf Tryz.prog f)(hr:∀y,resO s.rts y=[])
  (h:∀(M:List Nat) (w:World) (x:ElA s.pts) (us:List Value) (y:ElR s.rts),s.f x=some y->VRs (EM M w) (argV s.pts x) us->∃v,(∀E':Env,VR E' (tupI (resV s.rts 0 y)) v)/\Calls Tryz.prog f us.toArray w fun e w'=>e=.returned v/\Below w.heap.size w w'):Con Tryz.prog f s :=
 ⟨hC,fun M w x us y hy hM hg hv=>by
  obtain⟨v,h1,h2⟩:=h M w x us y hy hv;refine(jdl.2 h2).mono fun e w' hR=>?_;obtain⟨rfl,hb⟩:=hR;rw[hr y];obtain⟨q1,q2⟩:=Post.idle (preM hM hg) (Upd.of_below hb);exact⟨v,(EM M w).at_ w',rfl,rfl,h1 _,q1,q2⟩⟩
theorem zqo{s:ByteArray}{n:Int}(h:S.oneN s n=true):s=S.lit [0]/\n=64:=by
 unfold S.oneN at h;rw[jae] at h;exact⟨jbd h.1,jbd h.2⟩
theorem zxs:S.blank.size=64:=by kernel_rfl
theorem zzw{E:Env}(s:ByteArray)(n:Int){us:List Value}{y:ByteArray × Unit}(hy:cond (S.oneN s n) (some (S.blank,())) none=some y)(hv:VRs E [.str s,.int .i64 n] us) :
  ∃v,(∀E':Env,VR E' (.str y.1) v)/\Calls Tryz.prog 90 us.toArray E.w fun e w'=>e=.returned v/\Below E.w.heap.size E.w w':=by
 obtain⟨hk,rfl⟩:=qa5 hy;obtain⟨rfl,rfl⟩:=zqo hk;obtain⟨u1,us1,rfl,a1,a2⟩:=hv.inv;obtain⟨u2,us2,rfl,a3,a4⟩:=a2.inv;have e:us2=[]:=by have:=a4.1;simpa using this.symm
 subst e;cases a1;cases a3;refine⟨.string S.blank,fun E'=>.str _ (by rw[zxs];omega),?_⟩;refine(zrx (S.lit [0]) 64 E.w (by omega) (by show 1*64<=_;omega)).mono fun e w' h=>?_;rw[show (⟨(Lib.repeatL (S.lit [0]).data.toList 64).toArray⟩:ByteArray)=S.blank by kernel_rfl] at h;exact h
theorem zir:Con Tryz.prog 90 zdh :=
 z1i ztm (fun y=>rfl) fun M w x us y hy hv=>zzw x.1 x.2.1 hy hv
abbrev qpo:Type:=Int × Unit
abbrev z0a:Nat:=69
def zc4(lf:Nat)(x1:qad):Option qpo:=(match (cond (S.inI (Int.ofNat x1.1.1.length) (Int.ofNat 0) (Int.ofNat 1000)) (some ((S.half (Int.toNat (Int.ofNat x1.1.1.length)) x1.2.1),())) none) with|none=>none|some v0=>(some ((IntKind.i64.wrap (Int.sub (IntKind.i64.wrap (Int.sub v0.1.2 v0.1.1)) x1.2.2.1)),())))
def qoq(lf:Nat)(x1:qad):Option qpo:=zc4 lf x1
theorem ztj{g:ElA [cJournal]->Option qpo}(hsm:SmOK Tryz.prog [(93,qj7)])(hg:∀(x:ElA [cJournal]) (y:qpo),WfA [cJournal] x->g x=some y->∃lf,qoq lf x.1=some y):Con Tryz.prog 69 ⟨[cJournal],[(false,(.int .i64))],g⟩ :=
 conU (fi:=fi69) (hxl:=[]) (fun lf x=>qoq lf x.1) cm3 zyz trivial hsm hg
def qk1:Nat->Option Nm:=fun k=>cond (Nat.beq k 6) (some ⟨[0,12,13,14],[],[],[],[],0,0,false⟩) (none)
def qla:Nat->Bool:=fun k=>cond (Nat.beq k 6) true (false)
def q3f:=qla
abbrev qct:Type:=Int × Int × Unit
def zca:List (Nat × Sm):=[(66,qg5),(56,qnl)]
def zcm:List (Nat × Hx):=[]
def q0h(R:Type)(lf:Nat):ClK R:=qa0 Tryz.prog ttT.get ftT.get (nm1 22 qk1) (smL zca) (hxL zcm) lf 20 R
abbrev zjm:Nat:=22
def qjp(x1:(List qaa))(p:Int):NRes:=(NRes.mk (.node (some (IV.lst cCell x1)) (.node none .leaf (.node none .leaf (.node (some (IV.int .i64 (Int.ofNat x1.length))) .leaf .leaf))) (.node none (.node none .leaf (.node (some (IV.lst cCell x1)) .leaf .leaf)) (.node none .leaf (.node (some (IV.int .i64 p)) .leaf .leaf)))) (IS.mk .leaf 0) [] 0)
def qv9(lf:Nat)(x1:(List qaa))(L6:Int->Option qct):Option qct:=(cond (iltI (Int.ofNat 60) (Int.ofNat x1.length)) (some ((Int.ofNat 0),((Int.ofNat 3),()))) (cond (ieqI (Int.ofNat x1.length) (Int.ofNat 0)) (some ((Int.ofNat 0),((Int.ofNat 1),()))) (L6 (Int.ofNat 0))))
def qmi(lf:Nat)(x1:(List qaa))(L6:Int->Option qct)(p:Int):Option qct:=(cond (iltI p (Int.ofNat x1.length)) (match (jget x1 p) with|none=>none|some v0=>(cond (Bool.not (S.inI v0.1 (Int.ofNat 0) (Int.ofNat 199))) (some ((Int.ofNat 0),((Int.ofNat 1),()))) (cond (iltI (Int.ofNat 4000) (Int.ofNat v0.2.1.size)) (some ((Int.ofNat 0),((Int.ofNat 1),()))) (cond v0.2.2 (cond (Bool.not (keqS v0.2.1 (S.lit []))) (some ((Int.ofNat 0),((Int.ofNat 1),()))) (cond (iltI (Int.ofNat 0) p) (match (jget x1 (IntKind.i64.wrap (Int.sub p (Int.ofNat 1)))) with|none=>none|some v1=>(cond (Bool.not (iltI v1.1 v0.1)) (some ((Int.ofNat 0),((Int.ofNat 1),()))) (L6 (IntKind.i64.wrap (Int.add p (Int.ofNat 1)))))) (L6 (IntKind.i64.wrap (Int.add p (Int.ofNat 1)))))) (cond (iltI (Int.ofNat 0) p) (match (jget x1 (IntKind.i64.wrap (Int.sub p (Int.ofNat 1)))) with|none=>none|some v25=>(cond (Bool.not (iltI v25.1 v0.1)) (some ((Int.ofNat 0),((Int.ofNat 1),()))) (L6 (IntKind.i64.wrap (Int.add p (Int.ofNat 1)))))) (L6 (IntKind.i64.wrap (Int.add p (Int.ofNat 1))))))))) (match (cond (S.pk x1) (some ((S.packed x1 (Int.ofNat 1)),())) none) with|none=>none|some v26=>(some ((Int.ofNat v26.1.length),((Int.ofNat 0),())))))
abbrev gz23:Type:=ElA [(.list cCell)]->Option qct
abbrev sz23(g:gz23):Sm:=⟨[(.list cCell)],[(false,(.int .i64)),(false,(.int .i64))],g⟩
abbrev Ez23(g:gz23)(J:JT qct)(lf:Nat)(x1:(List qaa)):=qbf Tryz.prog ttT.get qk1 fi22.nt (q0h _ lf) lf qla J fi22.body [] (qat (argV [(.list cCell)] (x1,())) 0 .leaf) S0 [] (qam ttT.get fi22 (sz23 g))
abbrev Bz23(g:gz23)(J:JT qct)(lf k:Nat)(ms:List Nat)(q:NRes):=qbl Tryz.prog ttT.get qk1 fi22.nt (q0h _ lf) lf qla J k fi22.body [] ms q (qam ttT.get fi22 (sz23 g))
theorem zsi(g:gz23)(J:JT qct)(lf:Nat)(x1:(List qaa)):Ez23 g J lf x1=qv9 lf x1 (fun q=>J 6 [lf] (qjp x1 q)):=by kernel_rfl
theorem zo9(g:gz23)(J:JT qct)(lf:Nat)(x1:(List qaa))(m1:Nat)(p:Int):Bz23 g J lf 6 [m1] (qjp x1 p)=qmi lf x1 (fun q=>J 6 [m1] (qjp x1 q)) p:=by kernel_rfl
theorem q31:(regs fi22.body).Nodup:=by decide +kernel
theorem q9v:okC qk1 qla q3f fi22.body none=true:=by kernel_rfl
def Az23(g:gz23)(lf:Nat):JT qct:=atN Tryz.prog ttT.get qk1 fi22 (sz23 g) (q0h _ lf) lf q3f
def qod(lf:Nat)(x1:(List qaa)):Nat->(Int)->Option qct:=qav fun K p=>qmi lf x1 K p
theorem q2u(g:gz23)(lf:Nat)(x1:(List qaa)):∀(n:Nat) (p:Int),Az23 g lf 6 [n] (qjp x1 p)=qod lf x1 n p
 | 0,p=>qa7 6 [0] rfl _
 | n+1,p=>by
  have ih:=q2u g lf x1 n;refine(qa8 (qaz 20 _) q31 q9v 6 [n+1] [n] rfl _).trans ((zo9 g (Az23 g lf) lf x1 n p).trans ?_);rw[(show (fun q=>Az23 g lf 6 [n] (qjp x1 q))=(fun q=>qod lf x1 n q) from funext ih)];rfl
def Fz23(lf:Nat)(x1:(List qaa)):Option qct:=qv9 lf x1 (fun q=>qod lf x1 lf q)
theorem zw9(g:gz23)(lf:Nat)(x1:(List qaa)):Ez23 g (Az23 g lf) lf x1=Fz23 lf x1:=by
  refine(zsi g (Az23 g lf) lf x1).trans ?_;rw[(show (fun q=>Az23 g lf 6 [lf] (qjp x1 q))=(fun q=>qod lf x1 lf q) from funext fun q=>q2u g lf x1 lf q)];rfl
theorem z1v:qa3 Tryz.prog zcm:=trivial
theorem zzq{g:gz23}(hsm:SmOK Tryz.prog zca)(hg:∀(x:ElA [(.list cCell)]) (y:qct),WfA [(.list cCell)] x->g x=some y->∃lf,Fz23 lf x.1=some y):Con Tryz.prog 22 ⟨[(.list cCell)],[(false,(.int .i64)),(false,(.int .i64))],g⟩ :=
 conV (st:=qla) (fun lf x=>Fz23 lf x.1) cm3 zg1 z1v q31 q9v (fun lf x=>zw9 g lf x.1) hsm hg
abbrev qrr:Type:=Int × Unit
abbrev zw5:Nat:=65
def q26(lf:Nat)(x1:qad):Option qrr:=(cond (Bool.not (ieqI (S.checkDisk (x1.1.1,x1.1.2)) (Int.ofNat 0))) (some ((Int.ofNat 1),())) (cond (iltI (Int.ofNat 0) (Int.ofNat x1.1.2.length)) (some ((Int.ofNat 1),())) (match (cond (S.okL (x1.1.1,x1.1.2)) (some ((S.openedJ (x1.1.1,x1.1.2)).1,((S.openedJ (x1.1.1,x1.1.2)).2,()))) none) with|none=>none|some v0=>(cond (Bool.not v0.2.1) (some ((Int.ofNat 1),())) (cond (Bool.not (ieqI v0.1.2.1 x1.2.1)) (some ((Int.ofNat 1),())) (cond (Bool.not (ieqI v0.1.2.2.1 x1.2.2.1)) (some ((Int.ofNat 1),())) (cond (Bool.not (S.sameC v0.1.2.2.2 x1.2.2.2)) (some ((Int.ofNat 1),())) (some ((Int.ofNat 0),())))))))))
def qqv(lf:Nat)(x1:qad):Option qrr:=q26 lf x1
theorem zl6{g:ElA [cJournal]->Option qrr}(hsm:SmOK Tryz.prog [(37,qh7),(61,qg8),(100,za9)])(hg:∀(x:ElA [cJournal]) (y:qrr),WfA [cJournal] x->g x=some y->∃lf,qqv lf x.1=some y):Con Tryz.prog 65 ⟨[cJournal],[(false,(.int .i64))],g⟩ :=
 conU (fi:=fi65) (hxl:=[]) (fun lf x=>qqv lf x.1) cm3 zq0 trivial hsm hg
def qkk:Nat->Option Nm:=fun k=>cond (Nat.beq k 7) (some ⟨[1,19,20,21],[],[],[],[],0,0,false⟩) (none)
def qlm:Nat->Bool:=fun k=>cond (Nat.beq k 7) true (false)
def q8f:=qlm
abbrev qdr:Type:=ByteArray × Bool × Int × Unit
def q86:List (Nat × Sm):=[(65,qlw),(66,qg5)]
def q7n:List (Nat × Hx):=[]
def qz2(R:Type)(lf:Nat):ClK R:=qa0 Tryz.prog ttT.get ftT.get (nm1 18 qkk) (smL q86) (hxL q7n) lf 20 R
abbrev z2f:Nat:=18
def qhv(x1:qad)(x2:Int)(p:Int):NRes:=(NRes.mk (.node none (.node (some (IV.int .i64 x2)) (.node none .leaf (.node none (.node (some (IV.lst cCell x1.2.2.2)) .leaf .leaf) .leaf)) (.node none .leaf (.node none (.node (some (IV.int .i64 p)) .leaf .leaf) .leaf))) (.node none (.node none .leaf (.node none (.node (some (IV.int .i64 (Int.ofNat x1.2.2.2.length))) .leaf .leaf) .leaf)) .leaf)) (IS.mk .leaf 0) [] 0)
def qzg(lf:Nat)(x1:qad)(x2:Int)(L7:Int->Option qdr):Option qdr:=(cond (Bool.not (ieqI (S.errR ((x1.1.1,x1.1.2),(x1.2.1,(x1.2.2.1,x1.2.2.2)))) (Int.ofNat 0))) (some ((S.lit []),(false,((S.errR ((x1.1.1,x1.1.2),(x1.2.1,(x1.2.2.1,x1.2.2.2)))),())))) (cond (Bool.not (S.inI x2 (Int.ofNat 0) (Int.ofNat 199))) (some ((S.lit []),(false,((Int.ofNat 1),())))) (L7 (Int.ofNat 0))))
def qnt(lf:Nat)(x1:qad)(x2:Int)(L7:Int->Option qdr)(p:Int):Option qdr:=(cond (iltI p (Int.ofNat x1.2.2.2.length)) (match (jget x1.2.2.2 p) with|none=>none|some v0=>(cond (ieqI v0.1 x2) (some (v0.2.1,(true,((Int.ofNat 0),())))) (L7 (IntKind.i64.wrap (Int.add p (Int.ofNat 1)))))) (some ((S.lit []),(false,((Int.ofNat 0),())))))
abbrev gz24:Type:=ElA [cJournal,(.int .i64)]->Option qdr
abbrev sz24(g:gz24):Sm:=⟨[cJournal,(.int .i64)],[(false,.str),(false,.bool),(false,(.int .i64))],g⟩
abbrev Ez24(g:gz24)(J:JT qdr)(lf:Nat)(x1:qad)(x2:Int):=qbf Tryz.prog ttT.get qkk fi18.nt (qz2 _ lf) lf qlm J fi18.body [] (qat (argV [cJournal,(.int .i64)] (x1,x2,())) 0 .leaf) S0 [] (qam ttT.get fi18 (sz24 g))
abbrev Bz24(g:gz24)(J:JT qdr)(lf k:Nat)(ms:List Nat)(q:NRes):=qbl Tryz.prog ttT.get qkk fi18.nt (qz2 _ lf) lf qlm J k fi18.body [] ms q (qam ttT.get fi18 (sz24 g))
theorem zjl(g:gz24)(J:JT qdr)(lf:Nat)(x1:qad)(x2:Int):Ez24 g J lf x1 x2=qzg lf x1 x2 (fun q=>J 7 [lf] (qhv x1 x2 q)):=by kernel_rfl
theorem zjw(g:gz24)(J:JT qdr)(lf:Nat)(x1:qad)(x2:Int)(m1:Nat)(p:Int):Bz24 g J lf 7 [m1] (qhv x1 x2 p)=qnt lf x1 x2 (fun q=>J 7 [m1] (qhv x1 x2 q)) p:=by kernel_rfl
theorem q29:(regs fi18.body).Nodup:=by decide +kernel
theorem q2x:okC qkk qlm q8f fi18.body none=true:=by kernel_rfl
def Az24(g:gz24)(lf:Nat):JT qdr:=atN Tryz.prog ttT.get qkk fi18 (sz24 g) (qz2 _ lf) lf q8f
def qow(lf:Nat)(x1:qad)(x2:Int):Nat->(Int)->Option qdr:=qav fun K p=>qnt lf x1 x2 K p
theorem q1q(g:gz24)(lf:Nat)(x1:qad)(x2:Int):∀(n:Nat) (p:Int),Az24 g lf 7 [n] (qhv x1 x2 p)=qow lf x1 x2 n p
 | 0,p=>qa7 7 [0] rfl _
 | n+1,p=>by
  have ih:=q1q g lf x1 x2 n;refine(qa8 (qaz 20 _) q29 q2x 7 [n+1] [n] rfl _).trans ((zjw g (Az24 g lf) lf x1 x2 n p).trans ?_);rw[(show (fun q=>Az24 g lf 7 [n] (qhv x1 x2 q))=(fun q=>qow lf x1 x2 n q) from funext ih)];rfl
def Fz24(lf:Nat)(x1:qad)(x2:Int):Option qdr:=qzg lf x1 x2 (fun q=>qow lf x1 x2 lf q)
theorem zzb(g:gz24)(lf:Nat)(x1:qad)(x2:Int):Ez24 g (Az24 g lf) lf x1 x2=Fz24 lf x1 x2:=by
  refine(zjl g (Az24 g lf) lf x1 x2).trans ?_;rw[(show (fun q=>Az24 g lf 7 [lf] (qhv x1 x2 q))=(fun q=>qow lf x1 x2 lf q) from funext fun q=>q1q g lf x1 x2 lf q)];rfl
theorem zsv:qa3 Tryz.prog q7n:=trivial
theorem zs2{g:gz24}(hsm:SmOK Tryz.prog q86)(hg:∀(x:ElA [cJournal,(.int .i64)]) (y:qdr),WfA [cJournal,(.int .i64)] x->g x=some y->∃lf,Fz24 lf x.1 x.2.1=some y):Con Tryz.prog 18 ⟨[cJournal,(.int .i64)],[(false,.str),(false,.bool),(false,(.int .i64))],g⟩ :=
 conV (st:=qlm) (fun lf x=>Fz24 lf x.1 x.2.1) cm3 zyu zsv q29 q2x (fun lf x=>zzb g lf x.1 x.2.1) hsm hg
abbrev qsw:Type:=Int × Int × Unit
abbrev zgv:Nat:=20
def zdb(lf:Nat)(x1:qad):Option qsw:=(cond (Bool.not (ieqI (S.errR ((x1.1.1,x1.1.2),(x1.2.1,(x1.2.2.1,x1.2.2.2)))) (Int.ofNat 0))) (some ((Int.ofNat 0),((S.errR ((x1.1.1,x1.1.2),(x1.2.1,(x1.2.2.1,x1.2.2.2)))),()))) (match (cond (S.smallJ ((x1.1.1,x1.1.2),(x1.2.1,(x1.2.2.1,x1.2.2.2)))) (some ((S.roomOf ((x1.1.1,x1.1.2),(x1.2.1,(x1.2.2.1,x1.2.2.2)))),())) none) with|none=>none|some v0=>(some (v0.1,((Int.ofNat 0),())))))
def qoe(lf:Nat)(x1:qad):Option qsw:=zdb lf x1
theorem ztw{g:ElA [cJournal]->Option qsw}(hsm:SmOK Tryz.prog [(65,qlw),(69,qu9)])(hg:∀(x:ElA [cJournal]) (y:qsw),WfA [cJournal] x->g x=some y->∃lf,qoe lf x.1=some y):Con Tryz.prog 20 ⟨[cJournal],[(false,(.int .i64)),(false,(.int .i64))],g⟩ :=
 conU (fi:=fi20) (hxl:=[]) (fun lf x=>qoe lf x.1) cm3 zsp trivial hsm hg
abbrev qth:Type:=Int × Unit
abbrev z13:Nat:=71
def zdu(lf:Nat)(x1:qad)(x2:(List qaa)):Option qth:=(cond (Bool.not (ieqI (S.errR ((x1.1.1,x1.1.2),(x1.2.1,(x1.2.2.1,x1.2.2.2)))) (Int.ofNat 0))) (some ((S.errR ((x1.1.1,x1.1.2),(x1.2.1,(x1.2.2.1,x1.2.2.2)))),())) (some ((S.size x2).2,())))
def qsk(lf:Nat)(x1:qad)(x2:(List qaa)):Option qth:=zdu lf x1 x2
theorem zh1{g:ElA [cJournal,(.list cCell)]->Option qth}(hsm:SmOK Tryz.prog [(65,qlw),(22,qo1)])(hg:∀(x:ElA [cJournal,(.list cCell)]) (y:qth),WfA [cJournal,(.list cCell)] x->g x=some y->∃lf,qsk lf x.1 x.2.1=some y):Con Tryz.prog 71 ⟨[cJournal,(.list cCell)],[(false,(.int .i64))],g⟩ :=
 conU (fi:=fi71) (hxl:=[]) (fun lf x=>qsk lf x.1 x.2.1) cm3 zyx trivial hsm hg
def zck:List (Nat × Hx):=[(53,hxR spz8),(55,hxR spz9)]
abbrev qt0:Type:=(List DAct) × Bool × Unit
abbrev zg3:Nat:=72
def q30(lf:Nat)(x1:qad)(x2:(List qaa)):Option qt0:=(match (cond (S.pk x2) (some ((S.packed x2 (Int.ofNat 1)),())) none) with|none=>none|some v0=>(match (cond (S.smallJ ((x1.1.1,x1.1.2),(x1.2.1,(x1.2.2.1,x1.2.2.2)))) (some ((S.roomOf ((x1.1.1,x1.1.2),(x1.2.1,(x1.2.2.1,x1.2.2.2)))),())) none) with|none=>none|some v1=>(cond (iltI v1.1 (Int.ofNat v0.1.length)) (some ([],(false,()))) (match (cond (S.inI (Int.ofNat x1.1.1.length) (Int.ofNat 0) (Int.ofNat 1000)) (some ((S.half (Int.toNat (Int.ofNat x1.1.1.length)) x1.2.1),())) none) with|none=>none|some v2=>(match (jget v0.1 (Int.ofNat 0)) with|none=>none|some v3=>(match (GetElem?.getElem? v0.1 0) with|none=>none|some v4=>(match (cond (Decidable.decide (Eq v4.size 64)) (some ((qae (List.cons (Int.ofNat 0) (List.drop 1 (qab v4)))),())) none) with|none=>none|some v5=>(match (cond (Bool.and (S.inI (IntKind.i64.wrap (Int.add v2.1.1 x1.2.2.1)) (Int.ofNat 0) (Int.ofNat 1000000)) true) (some ((),(((S.app [] (S.puts (IntKind.i64.wrap (Int.add v2.1.1 x1.2.2.1)) [v5.1])),()),()))) none) with|none=>none|some v6=>(cond (lchk (Int.ofNat 1) (Int.ofNat v0.1.length) (Int.ofNat v0.1.length) (Int.ofNat v0.1.length)) (match (cond (Bool.and (S.inI (IntKind.i64.wrap (Int.add (IntKind.i64.wrap (Int.add v2.1.1 x1.2.2.1)) (Int.ofNat 1))) (Int.ofNat 0) (Int.ofNat 1000000)) (Bool.and (Nat.ble (List.length (lsub v0.1 (Int.ofNat 1) (Int.ofNat v0.1.length))) 1000000) (Nat.ble (S.lenA v6.2.1.1) 1000000))) (some ((),(((S.app v6.2.1.1 (S.puts (IntKind.i64.wrap (Int.add (IntKind.i64.wrap (Int.add v2.1.1 x1.2.2.1)) (Int.ofNat 1))) (lsub v0.1 (Int.ofNat 1) (Int.ofNat v0.1.length)))),()),()))) none) with|none=>none|some v7=>(cond (iltI (IntKind.i64.wrap (Int.add (IntKind.i64.wrap (Int.add v2.1.1 x1.2.2.1)) (Int.ofNat v0.1.length))) v2.1.2) (match (cond (Bool.and (S.inI (IntKind.i64.wrap (Int.add (IntKind.i64.wrap (Int.add v2.1.1 x1.2.2.1)) (Int.ofNat v0.1.length))) (Int.ofNat 0) (Int.ofNat 1000000)) (Nat.ble (S.lenA v7.2.1.1) 1000000)) (some ((),(((S.app v7.2.1.1 (S.puts (IntKind.i64.wrap (Int.add (IntKind.i64.wrap (Int.add v2.1.1 x1.2.2.1)) (Int.ofNat v0.1.length))) [S.blank])),()),()))) none) with|none=>none|some v8=>(match (cond (Nat.ble (S.lenA v8.2.1.1) 4000000) (some ((),(((S.app v8.2.1.1 [S.sync]),()),()))) none) with|none=>none|some v9=>(match (jget v0.1 (Int.ofNat 0)) with|none=>none|some v10=>(match (cond (Bool.and (S.inI (IntKind.i64.wrap (Int.add v2.1.1 x1.2.2.1)) (Int.ofNat 0) (Int.ofNat 1000000)) (Nat.ble (S.lenA v9.2.1.1) 1000000)) (some ((),(((S.app v9.2.1.1 (S.puts (IntKind.i64.wrap (Int.add v2.1.1 x1.2.2.1)) [v10])),()),()))) none) with|none=>none|some v11=>(match (cond (Nat.ble (S.lenA v11.2.1.1) 4000000) (some ((),(((S.app v11.2.1.1 [S.sync]),()),()))) none) with|none=>none|some v12=>(some (v12.2.1.1,(true,())))))))) (match (cond (Nat.ble (S.lenA v7.2.1.1) 4000000) (some ((),(((S.app v7.2.1.1 [S.sync]),()),()))) none) with|none=>none|some v13=>(match (jget v0.1 (Int.ofNat 0)) with|none=>none|some v14=>(match (cond (Bool.and (S.inI (IntKind.i64.wrap (Int.add v2.1.1 x1.2.2.1)) (Int.ofNat 0) (Int.ofNat 1000000)) (Nat.ble (S.lenA v13.2.1.1) 1000000)) (some ((),(((S.app v13.2.1.1 (S.puts (IntKind.i64.wrap (Int.add v2.1.1 x1.2.2.1)) [v14])),()),()))) none) with|none=>none|some v15=>(match (cond (Nat.ble (S.lenA v15.2.1.1) 4000000) (some ((),(((S.app v15.2.1.1 [S.sync]),()),()))) none) with|none=>none|some v16=>(some (v16.2.1.1,(true,()))))))))) none)))))))))
def qrw(lf:Nat)(x1:qad)(x2:(List qaa)):Option qt0:=q30 lf x1 x2
theorem ziq(hrz8:ConR Tryz.prog 53 spz8)(hrz9:ConR Tryz.prog 55 spz9):qa3 Tryz.prog zck:=⟨qf3 hrz8,⟨qf3 hrz9,trivial⟩⟩
theorem zrl{g:ElA [cJournal,(.list cCell)]->Option qt0}(hsm:SmOK Tryz.prog [(56,qnl),(69,qu9),(93,qj7),(101,qyq),(54,qt1)])(hrz8:ConR Tryz.prog 53 spz8)(hrz9:ConR Tryz.prog 55 spz9)(hg:∀(x:ElA [cJournal,(.list cCell)]) (y:qt0),WfA [cJournal,(.list cCell)] x->g x=some y->∃lf,qrw lf x.1 x.2.1=some y):Con Tryz.prog 72 ⟨[cJournal,(.list cCell)],[(true,cAct),(false,.bool)],g⟩ :=
 conU (fi:=fi72) (hxl:=zck) (fun lf x=>qrw lf x.1 x.2.1) cm3 zry (ziq hrz8 hrz9) hsm hg
abbrev qrk:Type:=qad × Unit
abbrev zwn:Nat:=74
def zcq(lf:Nat)(x1:qad)(x2:(List DAct)):Option qrk:=(match (cond (S.okL ((S.doD (x1.1.1,x1.1.2) x2).1.1,(S.doD (x1.1.1,x1.1.2) x2).1.2)) (some ((S.openedJ ((S.doD (x1.1.1,x1.1.2) x2).1.1,(S.doD (x1.1.1,x1.1.2) x2).1.2)).1,((S.openedJ ((S.doD (x1.1.1,x1.1.2) x2).1.1,(S.doD (x1.1.1,x1.1.2) x2).1.2)).2,()))) none) with|none=>none|some v0=>(some (((v0.1.1.1,v0.1.1.2),(v0.1.2.1,(v0.1.2.2.1,v0.1.2.2.2))),())))
def qtv(lf:Nat)(x1:qad)(x2:(List DAct)):Option qrk:=zcq lf x1 x2
theorem zxr{g:ElA [cJournal,(.list cAct)]->Option qrk}(hsm:SmOK Tryz.prog [(32,qvu),(61,qg8)])(hg:∀(x:ElA [cJournal,(.list cAct)]) (y:qrk),WfA [cJournal,(.list cAct)] x->g x=some y->∃lf,qtv lf x.1 x.2.1=some y):Con Tryz.prog 74 ⟨[cJournal,(.list cAct)],[(false,cJournal)],g⟩ :=
 conU (fi:=fi74) (hxl:=[]) (fun lf x=>qtv lf x.1 x.2.1) cm3 zs7 trivial hsm hg
abbrev qrh:Type:=(List DAct) × Int × Unit
abbrev zz4:Nat:=24
def q5a(lf:Nat)(x1:qad)(x2:(List qaa)):Option qrh:=(cond (Bool.not (ieqI (S.asked ((x1.1.1,x1.1.2),(x1.2.1,(x1.2.2.1,x1.2.2.2))) x2) (Int.ofNat 0))) (some ([],((S.asked ((x1.1.1,x1.1.2),(x1.2.1,(x1.2.2.1,x1.2.2.2))) x2),()))) (match (cond (S.comG ((x1.1.1,x1.1.2),(x1.2.1,(x1.2.2.1,x1.2.2.2))) x2) (some ((S.actsB (S.commit ((x1.1.1,x1.1.2),(x1.2.1,(x1.2.2.1,x1.2.2.2))) x2)).1,((S.actsB (S.commit ((x1.1.1,x1.1.2),(x1.2.1,(x1.2.2.1,x1.2.2.2))) x2)).2,()))) none) with|none=>none|some v0=>(cond (Bool.not v0.2.1) (some ([],((Int.ofNat 14),()))) (some (v0.1,((Int.ofNat 0),()))))))
def qra(lf:Nat)(x1:qad)(x2:(List qaa)):Option qrh:=q5a lf x1 x2
theorem zpg{g:ElA [cJournal,(.list cCell)]->Option qrh}(hsm:SmOK Tryz.prog [(71,q9c),(72,zb3)])(hg:∀(x:ElA [cJournal,(.list cCell)]) (y:qrh),WfA [cJournal,(.list cCell)] x->g x=some y->∃lf,qra lf x.1 x.2.1=some y):Con Tryz.prog 24 ⟨[cJournal,(.list cCell)],[(true,cAct),(false,(.int .i64))],g⟩ :=
 conU (fi:=fi24) (hxl:=[]) (fun lf x=>qra lf x.1 x.2.1) cm3 zpp trivial hsm hg
abbrev qq8:Type:=qad × Int × Unit
abbrev zy5:Nat:=26
def q7e(lf:Nat)(x1:qad)(x2:(List qaa)):Option qq8:=(cond (Bool.not (ieqI (S.plan ((x1.1.1,x1.1.2),(x1.2.1,(x1.2.2.1,x1.2.2.2))) x2).2 (Int.ofNat 0))) (some ((([],[]),((Int.ofNat 0),((Int.ofNat 0),[]))),((S.plan ((x1.1.1,x1.1.2),(x1.2.1,(x1.2.2.1,x1.2.2.2))) x2).2,()))) (match (cond (S.behG ((x1.1.1,x1.1.2),(x1.2.1,(x1.2.2.1,x1.2.2.2))) (S.plan ((x1.1.1,x1.1.2),(x1.2.1,(x1.2.2.1,x1.2.2.2))) x2).1) (some ((S.behind ((x1.1.1,x1.1.2),(x1.2.1,(x1.2.2.1,x1.2.2.2))) (S.plan ((x1.1.1,x1.1.2),(x1.2.1,(x1.2.2.1,x1.2.2.2))) x2).1).1,())) none) with|none=>none|some v0=>(some (((v0.1.1.1,v0.1.1.2),(v0.1.2.1,(v0.1.2.2.1,v0.1.2.2.2))),((Int.ofNat 0),())))))
def qn1(lf:Nat)(x1:qad)(x2:(List qaa)):Option qq8:=q7e lf x1 x2
theorem zur{g:ElA [cJournal,(.list cCell)]->Option qq8}(hsm:SmOK Tryz.prog [(24,qvw),(74,q0f)])(hg:∀(x:ElA [cJournal,(.list cCell)]) (y:qq8),WfA [cJournal,(.list cCell)] x->g x=some y->∃lf,qn1 lf x.1 x.2.1=some y):Con Tryz.prog 26 ⟨[cJournal,(.list cCell)],[(false,cJournal),(false,(.int .i64))],g⟩ :=
 conU (fi:=fi26) (hxl:=[]) (fun lf x=>qn1 lf x.1 x.2.1) cm3 zug trivial hsm hg
abbrev qou:Type:=(List DAct) × Int × Unit
abbrev zo8:Nat:=39
def q87(lf:Nat)(x1:qad):Option qou:=(cond (Bool.not (ieqI (S.errR ((x1.1.1,x1.1.2),(x1.2.1,(x1.2.2.1,x1.2.2.2)))) (Int.ofNat 0))) (some ([],((S.errR ((x1.1.1,x1.1.2),(x1.2.1,(x1.2.2.1,x1.2.2.2)))),()))) (match (cond (S.turG ((x1.1.1,x1.1.2),(x1.2.1,(x1.2.2.1,x1.2.2.2)))) (some ((S.actsB (S.turn ((x1.1.1,x1.1.2),(x1.2.1,(x1.2.2.1,x1.2.2.2))))).1,((S.actsB (S.turn ((x1.1.1,x1.1.2),(x1.2.1,(x1.2.2.1,x1.2.2.2))))).2,()))) none) with|none=>none|some v0=>(cond (Bool.not v0.2.1) (some ([],((Int.ofNat 14),()))) (some (v0.1,((Int.ofNat 0),()))))))
def qsi(lf:Nat)(x1:qad):Option qou:=q87 lf x1
theorem zrs{g:ElA [cJournal]->Option qou}(hsm:SmOK Tryz.prog [(65,qlw),(88,q9u)])(hg:∀(x:ElA [cJournal]) (y:qou),WfA [cJournal] x->g x=some y->∃lf,qsi lf x.1=some y):Con Tryz.prog 39 ⟨[cJournal],[(true,cAct),(false,(.int .i64))],g⟩ :=
 conU (fi:=fi39) (hxl:=[]) (fun lf x=>qsi lf x.1) cm3 zkg trivial hsm hg
abbrev qsl:Type:=qad × Int × Unit
abbrev z0r:Nat:=41
def q9d(lf:Nat)(x1:qad):Option qsl:=(cond (Bool.not (ieqI (S.planTurn ((x1.1.1,x1.1.2),(x1.2.1,(x1.2.2.1,x1.2.2.2)))).2 (Int.ofNat 0))) (some ((([],[]),((Int.ofNat 0),((Int.ofNat 0),[]))),((S.planTurn ((x1.1.1,x1.1.2),(x1.2.1,(x1.2.2.1,x1.2.2.2)))).2,()))) (match (cond (S.behG ((x1.1.1,x1.1.2),(x1.2.1,(x1.2.2.1,x1.2.2.2))) (S.planTurn ((x1.1.1,x1.1.2),(x1.2.1,(x1.2.2.1,x1.2.2.2)))).1) (some ((S.behind ((x1.1.1,x1.1.2),(x1.2.1,(x1.2.2.1,x1.2.2.2))) (S.planTurn ((x1.1.1,x1.1.2),(x1.2.1,(x1.2.2.1,x1.2.2.2)))).1).1,())) none) with|none=>none|some v0=>(some (((v0.1.1.1,v0.1.1.2),(v0.1.2.1,(v0.1.2.2.1,v0.1.2.2.2))),((Int.ofNat 0),())))))
def qof(lf:Nat)(x1:qad):Option qsl:=q9d lf x1
theorem ztp{g:ElA [cJournal]->Option qsl}(hsm:SmOK Tryz.prog [(39,q3z),(74,q0f)])(hg:∀(x:ElA [cJournal]) (y:qsl),WfA [cJournal] x->g x=some y->∃lf,qof lf x.1=some y):Con Tryz.prog 41 ⟨[cJournal],[(false,cJournal),(false,(.int .i64))],g⟩ :=
 conU (fi:=fi41) (hxl:=[]) (fun lf x=>qof lf x.1) cm3 zwa trivial hsm hg
abbrev qtx:Type:=qad × Int × Unit
abbrev zki:Nat:=13
def q36(lf:Nat)(x1:qac):Option qtx:=(cond (Bool.not (ieqI (S.checkDisk (x1.1,x1.2)) (Int.ofNat 0))) (some ((([],[]),((Int.ofNat 0),((Int.ofNat 0),[]))),((S.checkDisk (x1.1,x1.2)),()))) (cond (iltI (Int.ofNat 0) (Int.ofNat x1.2.length)) (some ((([],[]),((Int.ofNat 0),((Int.ofNat 0),[]))),((Int.ofNat 12),()))) (match (cond (S.okL (x1.1,x1.2)) (some ((S.openedJ (x1.1,x1.2)).1,((S.openedJ (x1.1,x1.2)).2,()))) none) with|none=>none|some v0=>(cond (Bool.not v0.2.1) (some ((([],[]),((Int.ofNat 0),((Int.ofNat 0),[]))),((Int.ofNat 15),()))) (some (((v0.1.1.1,v0.1.1.2),(v0.1.2.1,(v0.1.2.2.1,v0.1.2.2.2))),((Int.ofNat 0),())))))))
def qpm(lf:Nat)(x1:qac):Option qtx:=q36 lf x1
theorem zjo{g:ElA [qag]->Option qtx}(hsm:SmOK Tryz.prog [(37,qh7),(61,qg8)])(hg:∀(x:ElA [qag]) (y:qtx),WfA [qag] x->g x=some y->∃lf,qpm lf x.1=some y):Con Tryz.prog 13 ⟨[qag],[(false,cJournal),(false,(.int .i64))],g⟩ :=
 conU (fi:=fi13) (hxl:=[]) (fun lf x=>qpm lf x.1) cm3 zvj trivial hsm hg
end Go.Proofs.YtnhmanoiolfapaaGreat
end

section
namespace Go.Jx
open Go Go.Sx Go.RowKit
end Go.Jx
end

section
namespace Go.Jx
open Go Go.Sx Go.RowKit
def omap{α β:Type}(f:α->β):Option α->Option β
 | none=>none
 | some a=>some (f a)
def hxG(a:Hx):Hx:=⟨fun cl vs S=>omap (igc S) (a.f cl vs S),fun clP R vs S kk=>a.k clP R vs S fun r=>kk (igc S r),fun cl clP h R vs S kk=>by
 rw[a.eq cl clP h R vs S];cases a.f cl vs S<;>rfl⟩
theorem zqu{P:Program}{f:Nat}{a:Hx}(ha:HxOK P f a.f):HxOK P f (hxG a).f:=by
 have inv:∀{cl vs S r},(hxG a).f cl vs S=some r->∃q,a.f cl vs S=some q/\r=igc S q:=by
  intro cl vs S r hr;have hr:omap (igc S) (a.f cl vs S)=some r:=hr;cases hq:a.f cl vs S with
  | none=>rw[hq] at hr;cases hr
  | some q=>rw[hq] at hr;cases hr;exact⟨q,rfl,rfl⟩
 refine⟨fun cl h1 h2 h3 vs S r hr T E us p hrd hwr hv=>?_,fun cl h1 vs S r hr=>?_,fun cl h1 vs S r hr hw hl=>?_⟩
 ·obtain⟨q,hq,rfl⟩:=inv hr;obtain⟨T',p',t1,t2,hback⟩:=q3b p hrd hwr;obtain⟨c1,c2⟩:=ha.fn cl h1 h2 h3 vs S q hq T' E us p' t1 t2 hv;exact⟨c1,c2.mono fun e w h=>hback e w h⟩
 ·obtain⟨q,hq,rfl⟩:=inv hr;exact zdg (ha.fr cl h1 vs S q hq)
 ·obtain⟨q,hq,rfl⟩:=inv hr;exact q6d hw hl
end Go.Jx
end

noncomputable section
set_option maxRecDepth 100000
namespace Go.Proofs.YtnhmanoiolfapaaGreat
open Go Go.Sx Go.RowKit Go.Jx
def q2p:List (Nat × Hx):=[(55,hxR spz9),(53,hxG (hxR spz8))]
abbrev qsr:Type:=(List DAct) × Bool × Unit
abbrev zud:Nat:=88
def q2q(lf:Nat)(x1:qad):Option qsr:=(match (cond (S.pk x1.2.2.2) (some ((S.packed x1.2.2.2 (Int.ofNat 1)),())) none) with|none=>none|some v0=>(match (cond (S.inI (Int.ofNat x1.1.1.length) (Int.ofNat 0) (Int.ofNat 1000)) (some ((S.half (Int.toNat (Int.ofNat x1.1.1.length)) (IntKind.i64.wrap (Int.sub (Int.ofNat 1) x1.2.1))),())) none) with|none=>none|some v1=>(cond (iltI (IntKind.i64.wrap (Int.sub v1.1.2 v1.1.1)) (Int.ofNat v0.1.length)) (some ([],(false,()))) (match (cond (S.inI (IntKind.i64.wrap (Int.sub v1.1.2 v1.1.1)) (Int.ofNat 0) (Int.ofNat 1000)) (some ((List.replicate (Int.toNat (IntKind.i64.wrap (Int.sub v1.1.2 v1.1.1))) (S.lit [0,0,0,0,0,0,0,0,0,0,0,0,0,0,0,0,0,0,0,0,0,0,0,0,0,0,0,0,0,0,0,0,0,0,0,0,0,0,0,0,0,0,0,0,0,0,0,0,0,0,0,0,0,0,0,0,0,0,0,0,0,0,0,0])),())) none) with|none=>none|some v2=>(match (cond (Bool.and (S.inI v1.1.1 (Int.ofNat 0) (Int.ofNat 1000000)) (Bool.and (Nat.ble v2.1.length 1000000) true)) (some ((),(((S.app [] (S.puts v1.1.1 v2.1)),()),()))) none) with|none=>none|some v3=>(match (cond (Nat.ble (S.lenA v3.2.1.1) 4000000) (some ((),(((S.app v3.2.1.1 [S.sync]),()),()))) none) with|none=>none|some v4=>(match (jget v0.1 (Int.ofNat 0)) with|none=>none|some v5=>(match (GetElem?.getElem? v0.1 0) with|none=>none|some v6=>(match (cond (Decidable.decide (Eq v6.size 64)) (some ((qae (List.cons (Int.ofNat 0) (List.drop 1 (qab v6)))),())) none) with|none=>none|some v7=>(match (cond (Bool.and (S.inI v1.1.1 (Int.ofNat 0) (Int.ofNat 1000000)) (Nat.ble (S.lenA v4.2.1.1) 1000000)) (some ((),(((S.app v4.2.1.1 (S.puts v1.1.1 [v7.1])),()),()))) none) with|none=>none|some v8=>(cond (lchk (Int.ofNat 1) (Int.ofNat v0.1.length) (Int.ofNat v0.1.length) (Int.ofNat v0.1.length)) (match (cond (Bool.and (S.inI (IntKind.i64.wrap (Int.add v1.1.1 (Int.ofNat 1))) (Int.ofNat 0) (Int.ofNat 1000000)) (Bool.and (Nat.ble (List.length (lsub v0.1 (Int.ofNat 1) (Int.ofNat v0.1.length))) 1000000) (Nat.ble (S.lenA v8.2.1.1) 1000000))) (some ((),(((S.app v8.2.1.1 (S.puts (IntKind.i64.wrap (Int.add v1.1.1 (Int.ofNat 1))) (lsub v0.1 (Int.ofNat 1) (Int.ofNat v0.1.length)))),()),()))) none) with|none=>none|some v9=>(match (cond (Nat.ble (S.lenA v9.2.1.1) 4000000) (some ((),(((S.app v9.2.1.1 [S.sync]),()),()))) none) with|none=>none|some v10=>(match (jget v0.1 (Int.ofNat 0)) with|none=>none|some v11=>(match (cond (Bool.and (S.inI v1.1.1 (Int.ofNat 0) (Int.ofNat 1000000)) (Nat.ble (S.lenA v10.2.1.1) 1000000)) (some ((),(((S.app v10.2.1.1 (S.puts v1.1.1 [v11])),()),()))) none) with|none=>none|some v12=>(match (cond (Nat.ble (S.lenA v12.2.1.1) 4000000) (some ((),(((S.app v12.2.1.1 [S.sync]),()),()))) none) with|none=>none|some v13=>(match (cond (Bool.and (S.inI (Int.ofNat 0) (Int.ofNat 0) (Int.ofNat 1000000)) (Nat.ble (S.lenA v13.2.1.1) 1000000)) (some ((),(((S.app v13.2.1.1 (S.puts (Int.ofNat 0) (List.cons (ByteArray.append (ByteArray.mk (Array.mk (List.cons (UInt8.ofBitVec (BitVec.ofFin (Fin.mk (Nat.mod (Int.toNat (IntKind.u8.wrap (IntKind.i64.wrap (Int.sub (Int.ofNat 1) x1.2.1)))) 256) (jc7 (Int.toNat (IntKind.u8.wrap (IntKind.i64.wrap (HSub.hSub (OfNat.ofNat 1) (x1,()).1.2.1)))) (BitVec.ofNat._proof_1 (OfNat.ofNat 8)))))) []))) (S.lit [0,0,0,0,0,0,0,0,0,0,0,0,0,0,0,0,0,0,0,0,0,0,0,0,0,0,0,0,0,0,0,0,0,0,0,0,0,0,0,0,0,0,0,0,0,0,0,0,0,0,0,0,0,0,0,0,0,0,0,0,0,0,0])) []))),()),()))) none) with|none=>none|some v14=>(match (cond (Nat.ble (S.lenA v14.2.1.1) 4000000) (some ((),(((S.app v14.2.1.1 [S.sync]),()),()))) none) with|none=>none|some v15=>(some (v15.2.1.1,(true,())))))))))) none)))))))))))
def qp2(lf:Nat)(x1:qad):Option qsr:=q2q lf x1
theorem zfl(hrz9:ConR Tryz.prog 55 spz9):qa3 Tryz.prog q2p:=⟨qf3 hrz9,⟨zqu (qf3 q0e),trivial⟩⟩
theorem zht{g:ElA [cJournal]->Option qsr}(hsm:SmOK Tryz.prog [(56,qnl),(93,qj7),(101,qyq),(54,q3g),(76,qiw)])(hrz9:ConR Tryz.prog 55 spz9)(hg:∀(x:ElA [cJournal]) (y:qsr),WfA [cJournal] x->g x=some y->∃lf,qp2 lf x.1=some y):Con Tryz.prog 88 ⟨[cJournal],[(true,cAct),(false,.bool)],g⟩ :=
 conU (fi:=fi88) (hxl:=q2p) (fun lf x=>qp2 lf x.1) cm3 zs6 (zfl hrz9) hsm hg
def qkb:Nat->Option Nm:=fun k=>cond (Nat.beq k 4) (some ⟨[0,1,5],[],[],[],[],0,0,false⟩) (none)
def qkm:Nat->Bool:=fun k=>cond (Nat.beq k 4) true (false)
def q9e:=qkm
abbrev qdb:Type:=Bool × Unit
def q4f:List (Nat × Sm):=[]
def q05:List (Nat × Hx):=[]
def qzo(R:Type)(lf:Nat):ClK R:=qa0 Tryz.prog ttT.get ftT.get (nm1 50 qkb) (smL q4f) (hxL q05) lf 20 R
abbrev zvi:Nat:=50
def qig(x1:(List qaa))(x2:(List qaa))(p:Int):NRes:=(NRes.mk (.node (some (IV.lst cCell x1)) (.node (some (IV.lst cCell x2)) .leaf (.node (some (IV.int .i64 p)) .leaf .leaf)) .leaf) (IS.mk .leaf 0) [] 0)
def qw6(lf:Nat)(x1:(List qaa))(x2:(List qaa))(L4:Int->Option qdb):Option qdb:=(cond (Bool.not (ieqI (Int.ofNat x1.length) (Int.ofNat x2.length))) (some (false,())) (L4 (Int.ofNat 0)))
def qqp(lf:Nat)(x1:(List qaa))(x2:(List qaa))(L4:Int->Option qdb)(p:Int):Option qdb:=(cond (iltI p (Int.ofNat x1.length)) (match (jget x1 p) with|none=>none|some v0=>(match (jget x2 p) with|none=>none|some v1=>(cond (Bool.not (Bool.and (keqI v0.1 v1.1) (Bool.and (keqS v0.2.1 v1.2.1) (Bool.and (keqB v0.2.2 v1.2.2) true)))) (some (false,())) (L4 (IntKind.i64.wrap (Int.add p (Int.ofNat 1))))))) (some (true,())))
abbrev gz25:Type:=ElA [(.list cCell),(.list cCell)]->Option qdb
abbrev sz25(g:gz25):Sm:=⟨[(.list cCell),(.list cCell)],[(false,.bool)],g⟩
abbrev Ez25(g:gz25)(J:JT qdb)(lf:Nat)(x1:(List qaa))(x2:(List qaa)):=qbf Tryz.prog ttT.get qkb fi50.nt (qzo _ lf) lf qkm J fi50.body [] (qat (argV [(.list cCell),(.list cCell)] (x1,x2,())) 0 .leaf) S0 [] (qam ttT.get fi50 (sz25 g))
abbrev Bz25(g:gz25)(J:JT qdb)(lf k:Nat)(ms:List Nat)(q:NRes):=qbl Tryz.prog ttT.get qkb fi50.nt (qzo _ lf) lf qkm J k fi50.body [] ms q (qam ttT.get fi50 (sz25 g))
theorem zh2(g:gz25)(J:JT qdb)(lf:Nat)(x1:(List qaa))(x2:(List qaa)):Ez25 g J lf x1 x2=qw6 lf x1 x2 (fun q=>J 4 [lf] (qig x1 x2 q)):=by kernel_rfl
theorem zfo(g:gz25)(J:JT qdb)(lf:Nat)(x1:(List qaa))(x2:(List qaa))(m1:Nat)(p:Int):Bz25 g J lf 4 [m1] (qig x1 x2 p)=qqp lf x1 x2 (fun q=>J 4 [m1] (qig x1 x2 q)) p:=by kernel_rfl
theorem q7s:(regs fi50.body).Nodup:=by decide +kernel
theorem q1u:okC qkb qkm q9e fi50.body none=true:=by kernel_rfl
def Az25(g:gz25)(lf:Nat):JT qdb:=atN Tryz.prog ttT.get qkb fi50 (sz25 g) (qzo _ lf) lf q9e
def qo5(lf:Nat)(x1:(List qaa))(x2:(List qaa)):Nat->(Int)->Option qdb:=qav fun K p=>qqp lf x1 x2 K p
theorem q7v(g:gz25)(lf:Nat)(x1:(List qaa))(x2:(List qaa)):∀(n:Nat) (p:Int),Az25 g lf 4 [n] (qig x1 x2 p)=qo5 lf x1 x2 n p
 | 0,p=>qa7 4 [0] rfl _
 | n+1,p=>by
  have ih:=q7v g lf x1 x2 n;refine(qa8 (qaz 20 _) q7s q1u 4 [n+1] [n] rfl _).trans ((zfo g (Az25 g lf) lf x1 x2 n p).trans ?_);rw[(show (fun q=>Az25 g lf 4 [n] (qig x1 x2 q))=(fun q=>qo5 lf x1 x2 n q) from funext ih)];rfl
def Fz25(lf:Nat)(x1:(List qaa))(x2:(List qaa)):Option qdb:=qw6 lf x1 x2 (fun q=>qo5 lf x1 x2 lf q)
theorem zwq(g:gz25)(lf:Nat)(x1:(List qaa))(x2:(List qaa)):Ez25 g (Az25 g lf) lf x1 x2=Fz25 lf x1 x2:=by
  refine(zh2 g (Az25 g lf) lf x1 x2).trans ?_;rw[(show (fun q=>Az25 g lf 4 [lf] (qig x1 x2 q))=(fun q=>qo5 lf x1 x2 lf q) from funext fun q=>q7v g lf x1 x2 lf q)];rfl
theorem zib:qa3 Tryz.prog q05:=trivial
theorem zls{g:gz25}(hsm:SmOK Tryz.prog q4f)(hg:∀(x:ElA [(.list cCell),(.list cCell)]) (y:qdb),WfA [(.list cCell),(.list cCell)] x->g x=some y->∃lf,Fz25 lf x.1 x.2.1=some y):Con Tryz.prog 50 ⟨[(.list cCell),(.list cCell)],[(false,.bool)],g⟩ :=
 conV (st:=qkm) (fun lf x=>Fz25 lf x.1 x.2.1) cm3 z0p zib q7s q1u (fun lf x=>zwq g lf x.1 x.2.1) hsm hg
def qkt:Nat->Option Nm:=fun k=>cond (Nat.beq k 4) (some ⟨[2,3,5],[],[],[],[],0,0,false⟩) (cond (Nat.beq k 9) (some ⟨[2,3,6],[],[],[],[],0,0,false⟩) (none))
def qm0:Nat->Bool:=fun k=>cond (Nat.beq k 4) true (cond (Nat.beq k 9) true (false))
def q42:=qm0
abbrev qb6:Type:=Bool × Unit
def q1x:List (Nat × Sm):=[]
def q2r:List (Nat × Hx):=[]
def q0s(R:Type)(lf:Nat):ClK R:=qa0 Tryz.prog ttT.get ftT.get (nm1 36 qkt) (smL q1x) (hxL q2r) lf 20 R
abbrev zjk:Nat:=36
def qhs(x1:qac)(x2:qac)(p:Int):NRes:=(NRes.mk (.node none (.node none (.node (some (IV.ptr 1 0)) .leaf .leaf) (.node (some (IV.int .i64 p)) .leaf .leaf)) (.node (some (IV.ptr 0 0)) .leaf .leaf)) (IS.mk (.node (some (IObj.row (List.cons (IV.lst TC.str x1.1) [(IV.lst cPut x1.2)]))) (.node (some (IObj.row (List.cons (IV.lst TC.str x2.1) [(IV.lst cPut x2.2)]))) .leaf .leaf) .leaf) 2) [] 0)
def qia(x1:qac)(x2:qac)(p:Int):NRes:=(NRes.mk (.node none (.node none (.node (some (IV.ptr 1 0)) .leaf .leaf) .leaf) (.node (some (IV.ptr 0 0)) .leaf (.node (some (IV.int .i64 p)) .leaf .leaf))) (IS.mk (.node (some (IObj.row (List.cons (IV.lst TC.str x1.1) [(IV.lst cPut x1.2)]))) (.node (some (IObj.row (List.cons (IV.lst TC.str x2.1) [(IV.lst cPut x2.2)]))) .leaf .leaf) .leaf) 2) [] 0)
def qxd(lf:Nat)(x1:qac)(x2:qac)(L4:Int->Option qb6):Option qb6:=(cond (Bool.not (ieqI (Int.ofNat x1.1.length) (Int.ofNat x2.1.length))) (some (false,())) (cond (Bool.not (ieqI (Int.ofNat x1.2.length) (Int.ofNat x2.2.length))) (some (false,())) (L4 (Int.ofNat 0))))
def qn2(lf:Nat)(x1:qac)(x2:qac)(L4:Int->Option qb6)(L9:Int->Option qb6)(p:Int):Option qb6:=(cond (iltI p (Int.ofNat x1.1.length)) (match (jget x1.1 p) with|none=>none|some v0=>(match (jget x2.1 p) with|none=>none|some v1=>(cond (Bool.not (keqS v0 v1)) (some (false,())) (L4 (IntKind.i64.wrap (Int.add p (Int.ofNat 1))))))) (L9 (Int.ofNat 0)))
def qqr(lf:Nat)(x1:qac)(x2:qac)(L9:Int->Option qb6)(p:Int):Option qb6:=(cond (iltI p (Int.ofNat x1.2.length)) (match (jget x1.2 p) with|none=>none|some v0=>(match (jget x2.2 p) with|none=>none|some v1=>(cond (Bool.not (Bool.and (keqI v0.1 v1.1) (Bool.and (keqS v0.2 v1.2) true))) (some (false,())) (L9 (IntKind.i64.wrap (Int.add p (Int.ofNat 1))))))) (some (true,())))
abbrev gz26:Type:=ElA [qag,qag]->Option qb6
abbrev sz26(g:gz26):Sm:=⟨[qag,qag],[(false,.bool)],g⟩
abbrev Ez26(g:gz26)(J:JT qb6)(lf:Nat)(x1:qac)(x2:qac):=qbf Tryz.prog ttT.get qkt fi36.nt (q0s _ lf) lf qm0 J fi36.body [] (qat (argV [qag,qag] (x1,x2,())) 0 .leaf) S0 [] (qam ttT.get fi36 (sz26 g))
abbrev Bz26(g:gz26)(J:JT qb6)(lf k:Nat)(ms:List Nat)(q:NRes):=qbl Tryz.prog ttT.get qkt fi36.nt (q0s _ lf) lf qm0 J k fi36.body [] ms q (qam ttT.get fi36 (sz26 g))
theorem ztb(g:gz26)(J:JT qb6)(lf:Nat)(x1:qac)(x2:qac):Ez26 g J lf x1 x2=qxd lf x1 x2 (fun q=>J 4 [lf] (qhs x1 x2 q)):=by kernel_rfl
theorem z0g(g:gz26)(J:JT qb6)(lf:Nat)(x1:qac)(x2:qac)(m1:Nat)(p:Int):Bz26 g J lf 4 [m1] (qhs x1 x2 p)=qn2 lf x1 x2 (fun q=>J 4 [m1] (qhs x1 x2 q)) (fun q=>J 9 [lf] (qia x1 x2 q)) p:=by kernel_rfl
theorem zkp(g:gz26)(J:JT qb6)(lf:Nat)(x1:qac)(x2:qac)(m1:Nat)(p:Int):Bz26 g J lf 9 [m1] (qia x1 x2 p)=qqr lf x1 x2 (fun q=>J 9 [m1] (qia x1 x2 q)) p:=by kernel_rfl
theorem qwg:(regs fi36.body).Nodup:=by decide +kernel
theorem qvj:okC qkt qm0 q42 fi36.body none=true:=by kernel_rfl
def Az26(g:gz26)(lf:Nat):JT qb6:=atN Tryz.prog ttT.get qkt fi36 (sz26 g) (q0s _ lf) lf q42
def qk8(lf:Nat)(x1:qac)(x2:qac):Nat->(Int)->Option qb6:=qav fun K p=>qqr lf x1 x2 K p
theorem q8i(g:gz26)(lf:Nat)(x1:qac)(x2:qac):∀(n:Nat) (p:Int),Az26 g lf 9 [n] (qia x1 x2 p)=qk8 lf x1 x2 n p
 | 0,p=>qa7 9 [0] rfl _
 | n+1,p=>by
  have ih:=q8i g lf x1 x2 n;refine(qa8 (qaz 20 _) qwg qvj 9 [n+1] [n] rfl _).trans ((zkp g (Az26 g lf) lf x1 x2 n p).trans ?_);rw[(show (fun q=>Az26 g lf 9 [n] (qia x1 x2 q))=(fun q=>qk8 lf x1 x2 n q) from funext ih)];rfl
def qs3(lf:Nat)(x1:qac)(x2:qac):Nat->(Int)->Option qb6:=qav fun K p=>qn2 lf x1 x2 K (fun q=>qk8 lf x1 x2 lf q) p
theorem q4z(g:gz26)(lf:Nat)(x1:qac)(x2:qac):∀(n:Nat) (p:Int),Az26 g lf 4 [n] (qhs x1 x2 p)=qs3 lf x1 x2 n p
 | 0,p=>qa7 4 [0] rfl _
 | n+1,p=>by
  have ih:=q4z g lf x1 x2 n;refine(qa8 (qaz 20 _) qwg qvj 4 [n+1] [n] rfl _).trans ((z0g g (Az26 g lf) lf x1 x2 n p).trans ?_);rw[(show (fun q=>Az26 g lf 9 [lf] (qia x1 x2 q))=(fun q=>qk8 lf x1 x2 lf q) from funext fun q=>q8i g lf x1 x2 lf q),(show (fun q=>Az26 g lf 4 [n] (qhs x1 x2 q))=(fun q=>qs3 lf x1 x2 n q) from funext ih)];rfl
def Fz26(lf:Nat)(x1:qac)(x2:qac):Option qb6:=qxd lf x1 x2 (fun q=>qs3 lf x1 x2 lf q)
theorem z1f(g:gz26)(lf:Nat)(x1:qac)(x2:qac):Ez26 g (Az26 g lf) lf x1 x2=Fz26 lf x1 x2:=by
  refine(ztb g (Az26 g lf) lf x1 x2).trans ?_;rw[(show (fun q=>Az26 g lf 4 [lf] (qhs x1 x2 q))=(fun q=>qs3 lf x1 x2 lf q) from funext fun q=>q4z g lf x1 x2 lf q)];rfl
theorem zll:qa3 Tryz.prog q2r:=trivial
theorem zvw{g:gz26}(hsm:SmOK Tryz.prog q1x)(hg:∀(x:ElA [qag,qag]) (y:qb6),WfA [qag,qag] x->g x=some y->∃lf,Fz26 lf x.1 x.2.1=some y):Con Tryz.prog 36 ⟨[qag,qag],[(false,.bool)],g⟩ :=
 conV (st:=qm0) (fun lf x=>Fz26 lf x.1 x.2.1) cm3 zu8 zll qwg qvj (fun lf x=>z1f g lf x.1 x.2.1) hsm hg
abbrev qsq:Type:=Bool × Unit
abbrev zyl:Nat:=16
def q18(lf:Nat)(x1:qad)(x2:qad):Option qsq:=(cond (ieqI x1.2.1 x2.2.1) (cond (ieqI x1.2.2.1 x2.2.2.1) (cond (S.sameD (x1.1.1,x1.1.2) (x2.1.1,x2.1.2)) (some ((S.sameC x1.2.2.2 x2.2.2.2),())) (some (false,()))) (some (false,()))) (some (false,())))
def qsu(lf:Nat)(x1:qad)(x2:qad):Option qsq:=q18 lf x1 x2
theorem zj8{g:ElA [cJournal,cJournal]->Option qsq}(hsm:SmOK Tryz.prog [(36,q23),(50,zdv)])(hg:∀(x:ElA [cJournal,cJournal]) (y:qsq),WfA [cJournal,cJournal] x->g x=some y->∃lf,qsu lf x.1 x.2.1=some y):Con Tryz.prog 16 ⟨[cJournal,cJournal],[(false,.bool)],g⟩ :=
 conU (fi:=fi16) (hxl:=[]) (fun lf x=>qsu lf x.1 x.2.1) cm3 zom trivial hsm hg
def qno:Nat->Option Nm:=fun k=>cond (Nat.beq k 4) (some ⟨[0,1,5],[],[],[],[],0,0,false⟩) (none)
def qkr:Nat->Bool:=fun k=>cond (Nat.beq k 4) true (false)
def q9n:=qkr
abbrev qdq:Type:=Bool × Unit
def q4m:List (Nat × Sm):=[]
def q5r:List (Nat × Hx):=[]
def qxh(R:Type)(lf:Nat):ClK R:=qa0 Tryz.prog ttT.get ftT.get (nm1 15 qno) (smL q4m) (hxL q5r) lf 20 R
abbrev znq:Nat:=15
def qhp(x1:qqw)(x2:qqw)(p:Int):NRes:=(NRes.mk (.node (some (IV.lst cAct x1)) (.node (some (IV.lst cAct x2)) .leaf (.node (some (IV.int .i64 p)) .leaf .leaf)) .leaf) (IS.mk .leaf 0) [] 0)
def qz3(lf:Nat)(x1:(List DAct))(x2:(List DAct))(L4:Int->Option qdq):Option qdq:=(cond (Bool.not (ieqI (Int.ofNat x1.length) (Int.ofNat x2.length))) (some (false,())) (L4 (Int.ofNat 0)))
def qp3(lf:Nat)(x1:(List DAct))(x2:(List DAct))(L4:Int->Option qdq)(p:Int):Option qdq:=(cond (iltI p (Int.ofNat x1.length)) (match (jget x1 p) with|none=>none|some v0=>(match (jget x2 p) with|none=>none|some v1=>(cond (Bool.not (Bool.and (keqB v0.1 v1.1) (Bool.and (Bool.and (keqI v0.2.1 v1.2.1) (Bool.and (keqS v0.2.2 v1.2.2) true)) true))) (some (false,())) (L4 (IntKind.i64.wrap (Int.add p (Int.ofNat 1))))))) (some (true,())))
abbrev gz27:Type:=ElA [(.list cAct),(.list cAct)]->Option qdq
abbrev sz27(g:gz27):Sm:=⟨[(.list cAct),(.list cAct)],[(false,.bool)],g⟩
abbrev Ez27(g:gz27)(J:JT qdq)(lf:Nat)(x1:(List DAct))(x2:(List DAct)):=qbf Tryz.prog ttT.get qno fi15.nt (qxh _ lf) lf qkr J fi15.body [] (qat (argV [(.list cAct),(.list cAct)] (x1,x2,())) 0 .leaf) S0 [] (qam ttT.get fi15 (sz27 g))
abbrev Bz27(g:gz27)(J:JT qdq)(lf k:Nat)(ms:List Nat)(q:NRes):=qbl Tryz.prog ttT.get qno fi15.nt (qxh _ lf) lf qkr J k fi15.body [] ms q (qam ttT.get fi15 (sz27 g))
theorem zhs(g:gz27)(J:JT qdq)(lf:Nat)(x1:(List DAct))(x2:(List DAct)):Ez27 g J lf x1 x2=qz3 lf x1 x2 (fun q=>J 4 [lf] (qhp x1 x2 q)):=by kernel_rfl
theorem zvf(g:gz27)(J:JT qdq)(lf:Nat)(x1:(List DAct))(x2:(List DAct))(m1:Nat)(p:Int):Bz27 g J lf 4 [m1] (qhp x1 x2 p)=qp3 lf x1 x2 (fun q=>J 4 [m1] (qhp x1 x2 q)) p:=by kernel_rfl
theorem q7b:(regs fi15.body).Nodup:=by decide +kernel
theorem za8:okC qno qkr q9n fi15.body none=true:=by kernel_rfl
def Az27(g:gz27)(lf:Nat):JT qdq:=atN Tryz.prog ttT.get qno fi15 (sz27 g) (qxh _ lf) lf q9n
def qqo(lf:Nat)(x1:(List DAct))(x2:(List DAct)):Nat->(Int)->Option qdq:=qav fun K p=>qp3 lf x1 x2 K p
theorem q9w(g:gz27)(lf:Nat)(x1:(List DAct))(x2:(List DAct)):∀(n:Nat) (p:Int),Az27 g lf 4 [n] (qhp x1 x2 p)=qqo lf x1 x2 n p
 | 0,p=>qa7 4 [0] rfl _
 | n+1,p=>by
  have ih:=q9w g lf x1 x2 n;refine(qa8 (qaz 20 _) q7b za8 4 [n+1] [n] rfl _).trans ((zvf g (Az27 g lf) lf x1 x2 n p).trans ?_);rw[(show (fun q=>Az27 g lf 4 [n] (qhp x1 x2 q))=(fun q=>qqo lf x1 x2 n q) from funext ih)];rfl
def Fz27(lf:Nat)(x1:(List DAct))(x2:(List DAct)):Option qdq:=qz3 lf x1 x2 (fun q=>qqo lf x1 x2 lf q)
theorem zwr(g:gz27)(lf:Nat)(x1:(List DAct))(x2:(List DAct)):Ez27 g (Az27 g lf) lf x1 x2=Fz27 lf x1 x2:=by
  refine(zhs g (Az27 g lf) lf x1 x2).trans ?_;rw[(show (fun q=>Az27 g lf 4 [lf] (qhp x1 x2 q))=(fun q=>qqo lf x1 x2 lf q) from funext fun q=>q9w g lf x1 x2 lf q)];rfl
theorem zgm:qa3 Tryz.prog q5r:=trivial
theorem zp3{g:gz27}(hsm:SmOK Tryz.prog q4m)(hg:∀(x:ElA [(.list cAct),(.list cAct)]) (y:qdq),WfA [(.list cAct),(.list cAct)] x->g x=some y->∃lf,Fz27 lf x.1 x.2.1=some y):Con Tryz.prog 15 ⟨[(.list cAct),(.list cAct)],[(false,.bool)],g⟩ :=
 conV (st:=qkr) (fun lf x=>Fz27 lf x.1 x.2.1) cm3 zxm zgm q7b za8 (fun lf x=>zwr g lf x.1 x.2.1) hsm hg
abbrev qr1:Type:=Bool × Unit
abbrev zxn:Nat:=67
def q2f(lf:Nat)(x1:qad):Option qr1:=(cond (ieqI (S.open_ (x1.1.1,x1.1.2)).2 (Int.ofNat 0)) (some ((S.sameJ (((S.open_ (x1.1.1,x1.1.2)).1.1.1,(S.open_ (x1.1.1,x1.1.2)).1.1.2),((S.open_ (x1.1.1,x1.1.2)).1.2.1,((S.open_ (x1.1.1,x1.1.2)).1.2.2.1,(S.open_ (x1.1.1,x1.1.2)).1.2.2.2))) ((x1.1.1,x1.1.2),(x1.2.1,(x1.2.2.1,x1.2.2.2)))),())) (some (false,())))
def qtw(lf:Nat)(x1:qad):Option qr1:=q2f lf x1
theorem zm6{g:ElA [cJournal]->Option qr1}(hsm:SmOK Tryz.prog [(14,spz7),(16,qvz)])(hg:∀(x:ElA [cJournal]) (y:qr1),WfA [cJournal] x->g x=some y->∃lf,qtw lf x.1=some y):Con Tryz.prog 67 ⟨[cJournal],[(false,.bool)],g⟩ :=
 conU (fi:=fi67) (hxl:=[]) (fun lf x=>qtw lf x.1) cm3 znj trivial hsm hg
def qko:Nat->Option Nm:=fun k=>cond (Nat.beq k 6) (some ⟨[0,4],[],[],[],[],0,0,false⟩) (none)
def qm3:Nat->Bool:=fun k=>cond (Nat.beq k 6) true (false)
def q8z:=qm3
abbrev qc3:Type:=Int × Int × Unit
def q4j:List (Nat × Sm):=[(68,qll),(60,qwn)]
def q5o:List (Nat × Hx):=[]
def qv8(R:Type)(lf:Nat):ClK R:=qa0 Tryz.prog ttT.get ftT.get (nm1 23 qko) (smL q4j) (hxL q5o) lf 20 R
abbrev znl:Nat:=23
def qh4(x1:(List qaa))(p:Int):NRes:=(NRes.mk (.node (some (IV.lst cCell x1)) .leaf (.node none (.node (some (IV.int .i64 p)) .leaf .leaf) .leaf)) (IS.mk .leaf 0) [] 0)
def qyt(lf:Nat)(x1:(List qaa))(L6:Int->Option qc3):Option qc3:=(cond (iltI (Int.ofNat 60) (Int.ofNat x1.length)) (some ((Int.ofNat 0),((Int.ofNat 3),()))) (cond (ieqI (Int.ofNat x1.length) (Int.ofNat 0)) (some ((Int.ofNat 0),((Int.ofNat 1),()))) (L6 (Int.ofNat 0))))
def qkl(lf:Nat)(x1:(List qaa))(L6:Int->Option qc3)(p:Int):Option qc3:=(cond (iltI p (Int.ofNat x1.length)) (match (jget x1 p) with|none=>none|some v0=>(cond (Bool.not (S.inI v0.1 (Int.ofNat 0) (Int.ofNat 199))) (some ((Int.ofNat 0),((Int.ofNat 1),()))) (cond (iltI (Int.ofNat 4000) (Int.ofNat v0.2.1.size)) (some ((Int.ofNat 0),((Int.ofNat 1),()))) (cond v0.2.2 (cond (Bool.not (keqS v0.2.1 (S.lit []))) (some ((Int.ofNat 0),((Int.ofNat 1),()))) (cond (iltI (Int.ofNat 0) p) (match (jget x1 (IntKind.i64.wrap (Int.sub p (Int.ofNat 1)))) with|none=>none|some v1=>(cond (Bool.not (iltI v1.1 v0.1)) (some ((Int.ofNat 0),((Int.ofNat 1),()))) (L6 (IntKind.i64.wrap (Int.add p (Int.ofNat 1)))))) (L6 (IntKind.i64.wrap (Int.add p (Int.ofNat 1)))))) (cond (iltI (Int.ofNat 0) p) (match (jget x1 (IntKind.i64.wrap (Int.sub p (Int.ofNat 1)))) with|none=>none|some v25=>(cond (Bool.not (iltI v25.1 v0.1)) (some ((Int.ofNat 0),((Int.ofNat 1),()))) (L6 (IntKind.i64.wrap (Int.add p (Int.ofNat 1)))))) (L6 (IntKind.i64.wrap (Int.add p (Int.ofNat 1))))))))) (match (cond (S.pkm x1 (Int.ofNat 1)) (some ((S.packed x1 (Int.ofNat 1)),())) none) with|none=>none|some v26=>(some ((Int.ofNat v26.1.length),((Int.ofNat 0),())))))
abbrev gz28:Type:=ElA [(.list cCell)]->Option qc3
abbrev sz28(g:gz28):Sm:=⟨[(.list cCell)],[(false,(.int .i64)),(false,(.int .i64))],g⟩
abbrev Ez28(g:gz28)(J:JT qc3)(lf:Nat)(x1:(List qaa)):=qbf Tryz.prog ttT.get qko fi23.nt (qv8 _ lf) lf qm3 J fi23.body [] (qat (argV [(.list cCell)] (x1,())) 0 .leaf) S0 [] (qam ttT.get fi23 (sz28 g))
abbrev Bz28(g:gz28)(J:JT qc3)(lf k:Nat)(ms:List Nat)(q:NRes):=qbl Tryz.prog ttT.get qko fi23.nt (qv8 _ lf) lf qm3 J k fi23.body [] ms q (qam ttT.get fi23 (sz28 g))
theorem zxx(g:gz28)(J:JT qc3)(lf:Nat)(x1:(List qaa)):Ez28 g J lf x1=qyt lf x1 (fun q=>J 6 [lf] (qh4 x1 q)):=by kernel_rfl
theorem zgx(g:gz28)(J:JT qc3)(lf:Nat)(x1:(List qaa))(m1:Nat)(p:Int):Bz28 g J lf 6 [m1] (qh4 x1 p)=qkl lf x1 (fun q=>J 6 [m1] (qh4 x1 q)) p:=by kernel_rfl
theorem q5d:(regs fi23.body).Nodup:=by decide +kernel
theorem q5g:okC qko qm3 q8z fi23.body none=true:=by kernel_rfl
def Az28(g:gz28)(lf:Nat):JT qc3:=atN Tryz.prog ttT.get qko fi23 (sz28 g) (qv8 _ lf) lf q8z
def qo7(lf:Nat)(x1:(List qaa)):Nat->(Int)->Option qc3:=qav fun K p=>qkl lf x1 K p
theorem q5f(g:gz28)(lf:Nat)(x1:(List qaa)):∀(n:Nat) (p:Int),Az28 g lf 6 [n] (qh4 x1 p)=qo7 lf x1 n p
 | 0,p=>qa7 6 [0] rfl _
 | n+1,p=>by
  have ih:=q5f g lf x1 n;refine(qa8 (qaz 20 _) q5d q5g 6 [n+1] [n] rfl _).trans ((zgx g (Az28 g lf) lf x1 n p).trans ?_);rw[(show (fun q=>Az28 g lf 6 [n] (qh4 x1 q))=(fun q=>qo7 lf x1 n q) from funext ih)];rfl
def Fz28(lf:Nat)(x1:(List qaa)):Option qc3:=qyt lf x1 (fun q=>qo7 lf x1 lf q)
theorem zwt(g:gz28)(lf:Nat)(x1:(List qaa)):Ez28 g (Az28 g lf) lf x1=Fz28 lf x1:=by
  refine(zxx g (Az28 g lf) lf x1).trans ?_;rw[(show (fun q=>Az28 g lf 6 [lf] (qh4 x1 q))=(fun q=>qo7 lf x1 lf q) from funext fun q=>q5f g lf x1 lf q)];rfl
theorem zi3:qa3 Tryz.prog q5o:=trivial
theorem zn4{g:gz28}(hsm:SmOK Tryz.prog q4j)(hg:∀(x:ElA [(.list cCell)]) (y:qc3),WfA [(.list cCell)] x->g x=some y->∃lf,Fz28 lf x.1=some y):Con Tryz.prog 23 ⟨[(.list cCell)],[(false,(.int .i64)),(false,(.int .i64))],g⟩ :=
 conV (st:=qm3) (fun lf x=>Fz28 lf x.1) cm3 z0m zi3 q5d q5g (fun lf x=>zwt g lf x.1) hsm hg
def qnb:Nat->Option Nm:=fun k=>cond (Nat.beq k 4) (some ⟨[1,2,7],[],[],[],[],0,0,false⟩) (none)
def qki:Nat->Bool:=fun k=>cond (Nat.beq k 4) true (false)
def q43:=qki
abbrev qdl:Type:=ByteArray × Bool × Int × Unit
def q40:List (Nat × Sm):=[(67,qn5),(68,qll)]
def q9o:List (Nat × Hx):=[]
def qvi(R:Type)(lf:Nat):ClK R:=qa0 Tryz.prog ttT.get ftT.get (nm1 19 qnb) (smL q40) (hxL q9o) lf 20 R
abbrev zrf:Nat:=19
def qij(x1:qad)(x2:Int)(p:Int):NRes:=(NRes.mk (.node none (.node (some (IV.int .i64 x2)) (.node none (.node (some (IV.int .i64 p)) .leaf .leaf) .leaf) .leaf) (.node (some (IV.ptr 0 0)) .leaf .leaf)) (IS.mk (.node (some (IObj.row (List.cons (IV.lst TC.str x1.1.1) (List.cons (IV.lst cPut x1.1.2) (List.cons (IV.int .i64 x1.2.1) (List.cons (IV.int .i64 x1.2.2.1) [(IV.lst cCell x1.2.2.2)])))))) .leaf .leaf) 1) [] 0)
def qzq(lf:Nat)(x1:qad)(x2:Int)(L4:Int->Option qdl):Option qdl:=(cond (Bool.not (S.right ((x1.1.1,x1.1.2),(x1.2.1,(x1.2.2.1,x1.2.2.2))))) (some ((S.lit []),(false,((Int.ofNat 1),())))) (cond (Bool.not (S.inI x2 (Int.ofNat 0) (Int.ofNat 199))) (some ((S.lit []),(false,((Int.ofNat 1),())))) (L4 (Int.ofNat 0))))
def qnn(lf:Nat)(x1:qad)(x2:Int)(L4:Int->Option qdl)(p:Int):Option qdl:=(cond (iltI p (Int.ofNat x1.2.2.2.length)) (match (jget x1.2.2.2 p) with|none=>none|some v0=>(cond (ieqI v0.1 x2) (match (jget x1.2.2.2 p) with|none=>none|some v1=>(some (v1.2.1,(true,((Int.ofNat 0),()))))) (L4 (IntKind.i64.wrap (Int.add p (Int.ofNat 1)))))) (some ((S.lit []),(false,((Int.ofNat 0),())))))
abbrev gz29:Type:=ElA [cJournal,(.int .i64)]->Option qdl
abbrev sz29(g:gz29):Sm:=⟨[cJournal,(.int .i64)],[(false,.str),(false,.bool),(false,(.int .i64))],g⟩
abbrev Ez29(g:gz29)(J:JT qdl)(lf:Nat)(x1:qad)(x2:Int):=qbf Tryz.prog ttT.get qnb fi19.nt (qvi _ lf) lf qki J fi19.body [] (qat (argV [cJournal,(.int .i64)] (x1,x2,())) 0 .leaf) S0 [] (qam ttT.get fi19 (sz29 g))
abbrev Bz29(g:gz29)(J:JT qdl)(lf k:Nat)(ms:List Nat)(q:NRes):=qbl Tryz.prog ttT.get qnb fi19.nt (qvi _ lf) lf qki J k fi19.body [] ms q (qam ttT.get fi19 (sz29 g))
theorem zon(g:gz29)(J:JT qdl)(lf:Nat)(x1:qad)(x2:Int):Ez29 g J lf x1 x2=qzq lf x1 x2 (fun q=>J 4 [lf] (qij x1 x2 q)):=by kernel_rfl
theorem zin(g:gz29)(J:JT qdl)(lf:Nat)(x1:qad)(x2:Int)(m1:Nat)(p:Int):Bz29 g J lf 4 [m1] (qij x1 x2 p)=qnn lf x1 x2 (fun q=>J 4 [m1] (qij x1 x2 q)) p:=by kernel_rfl
theorem zbf:(regs fi19.body).Nodup:=by decide +kernel
theorem zbz:okC qnb qki q43 fi19.body none=true:=by kernel_rfl
def Az29(g:gz29)(lf:Nat):JT qdl:=atN Tryz.prog ttT.get qnb fi19 (sz29 g) (qvi _ lf) lf q43
def qpe(lf:Nat)(x1:qad)(x2:Int):Nat->(Int)->Option qdl:=qav fun K p=>qnn lf x1 x2 K p
theorem zbg(g:gz29)(lf:Nat)(x1:qad)(x2:Int):∀(n:Nat) (p:Int),Az29 g lf 4 [n] (qij x1 x2 p)=qpe lf x1 x2 n p
 | 0,p=>qa7 4 [0] rfl _
 | n+1,p=>by
  have ih:=zbg g lf x1 x2 n;refine(qa8 (qaz 20 _) zbf zbz 4 [n+1] [n] rfl _).trans ((zin g (Az29 g lf) lf x1 x2 n p).trans ?_);rw[(show (fun q=>Az29 g lf 4 [n] (qij x1 x2 q))=(fun q=>qpe lf x1 x2 n q) from funext ih)];rfl
def Fz29(lf:Nat)(x1:qad)(x2:Int):Option qdl:=qzq lf x1 x2 (fun q=>qpe lf x1 x2 lf q)
theorem zwp(g:gz29)(lf:Nat)(x1:qad)(x2:Int):Ez29 g (Az29 g lf) lf x1 x2=Fz29 lf x1 x2:=by
  refine(zon g (Az29 g lf) lf x1 x2).trans ?_;rw[(show (fun q=>Az29 g lf 4 [lf] (qij x1 x2 q))=(fun q=>qpe lf x1 x2 lf q) from funext fun q=>zbg g lf x1 x2 lf q)];rfl
theorem zyi:qa3 Tryz.prog q9o:=trivial
theorem zow{g:gz29}(hsm:SmOK Tryz.prog q40)(hg:∀(x:ElA [cJournal,(.int .i64)]) (y:qdl),WfA [cJournal,(.int .i64)] x->g x=some y->∃lf,Fz29 lf x.1 x.2.1=some y):Con Tryz.prog 19 ⟨[cJournal,(.int .i64)],[(false,.str),(false,.bool),(false,(.int .i64))],g⟩ :=
 conV (st:=qki) (fun lf x=>Fz29 lf x.1 x.2.1) cm3 zvn zyi zbf zbz (fun lf x=>zwp g lf x.1 x.2.1) hsm hg
abbrev qsm:Type:=Int × Unit
abbrev ztc:Nat:=70
def q1e(lf:Nat)(x1:qad):Option qsm:=(some ((IntKind.i64.wrap (Int.sub (IntKind.i64.wrap (Int.sub (IntKind.i64.wrap (Int.ofNat (Nat.div x1.1.1.length 2))) (Int.ofNat 1))) x1.2.2.1)),()))
def qqt(lf:Nat)(x1:qad):Option qsm:=q1e lf x1
theorem zqp{g:ElA [cJournal]->Option qsm}(hsm:SmOK Tryz.prog [])(hg:∀(x:ElA [cJournal]) (y:qsm),WfA [cJournal] x->g x=some y->∃lf,qqt lf x.1=some y):Con Tryz.prog 70 ⟨[cJournal],[(false,(.int .i64))],g⟩ :=
 conU (fi:=fi70) (hxl:=[]) (fun lf x=>qqt lf x.1) cm3 zoi trivial hsm hg
abbrev qrc:Type:=Int × Int × Unit
abbrev zgc:Nat:=21
def zaf(lf:Nat)(x1:qad):Option qrc:=(cond (Bool.not (S.right ((x1.1.1,x1.1.2),(x1.2.1,(x1.2.2.1,x1.2.2.2))))) (some ((Int.ofNat 0),((Int.ofNat 1),()))) (match (cond (S.smallJ ((x1.1.1,x1.1.2),(x1.2.1,(x1.2.2.1,x1.2.2.2)))) (some ((S.roomR ((x1.1.1,x1.1.2),(x1.2.1,(x1.2.2.1,x1.2.2.2)))),())) none) with|none=>none|some v0=>(some (v0.1,((Int.ofNat 0),())))))
def qrd(lf:Nat)(x1:qad):Option qrc:=zaf lf x1
theorem zy9{g:ElA [cJournal]->Option qrc}(hsm:SmOK Tryz.prog [(67,qn5),(70,qym)])(hg:∀(x:ElA [cJournal]) (y:qrc),WfA [cJournal] x->g x=some y->∃lf,qrd lf x.1=some y):Con Tryz.prog 21 ⟨[cJournal],[(false,(.int .i64)),(false,(.int .i64))],g⟩ :=
 conU (fi:=fi21) (hxl:=[]) (fun lf x=>qrd lf x.1) cm3 zvx trivial hsm hg
abbrev qs5:Type:=qnj × Unit
abbrev z0s:Nat:=25
def q5m(lf:Nat)(x1:qad)(x2:(List qaa)):Option qs5:=(cond (Bool.not (S.right ((x1.1.1,x1.1.2),(x1.2.1,(x1.2.2.1,x1.2.2.2))))) (some (([],(Int.ofNat 1)),())) (cond (Bool.not (ieqI (S.size x2).2 (Int.ofNat 0))) (some (([],(S.size x2).2),())) (match (cond (S.smallJ ((x1.1.1,x1.1.2),(x1.2.1,(x1.2.2.1,x1.2.2.2)))) (some ((S.roomR ((x1.1.1,x1.1.2),(x1.2.1,(x1.2.2.1,x1.2.2.2)))),())) none) with|none=>none|some v0=>(cond (iltI v0.1 (S.size x2).1) (some (([],(Int.ofNat 14)),())) (match (cond (Bool.and (Nat.ble x1.1.1.length 1000) (Decidable.decide (Eq (Nat.mod x1.1.1.length 2) 0))) (some ((S.half x1.1.1.length x1.2.1).1,((S.half x1.1.1.length x1.2.1).2,()))) none) with|none=>none|some v1=>(match (cond (Bool.and (S.pk x2) (Bool.and (S.inI (IntKind.i64.wrap (Int.add v1.1 x1.2.2.1)) (Int.ofNat 0) (Int.ofNat 1000000)) (S.inI v1.2.1 (Int.ofNat 0) (Int.ofNat 1000000)))) (some ((S.laid x2 (IntKind.i64.wrap (Int.add v1.1 x1.2.2.1)) v1.2.1 true),())) none) with|none=>none|some v2=>(some ((v2.1,(Int.ofNat 0)),()))))))))
def qs9(lf:Nat)(x1:qad)(x2:(List qaa)):Option qs5:=q5m lf x1 x2
theorem zsa{g:ElA [cJournal,(.list cCell)]->Option qs5}(hsm:SmOK Tryz.prog [(67,qn5),(23,qu7),(70,qym),(62,qy7),(73,q66)])(hg:∀(x:ElA [cJournal,(.list cCell)]) (y:qs5),WfA [cJournal,(.list cCell)] x->g x=some y->∃lf,qs9 lf x.1 x.2.1=some y):Con Tryz.prog 25 ⟨[cJournal,(.list cCell)],[(false,qg6)],g⟩ :=
 conU (fi:=fi25) (hxl:=[]) (fun lf x=>qs9 lf x.1 x.2.1) cm3 zoe trivial hsm hg
abbrev qrx:Type:=qlz × Unit
abbrev zv3:Nat:=75
def q01(lf:Nat)(x1:qad)(x2:qnj):Option qrx:=(cond (Bool.not (ieqI x2.2 (Int.ofNat 0))) (some (((([],[]),((Int.ofNat 0),((Int.ofNat 0),[]))),x2.2),())) (some (((((S.open_ ((S.doD (x1.1.1,x1.1.2) x2.1).1.1,(S.doD (x1.1.1,x1.1.2) x2.1).1.2)).1.1.1,(S.open_ ((S.doD (x1.1.1,x1.1.2) x2.1).1.1,(S.doD (x1.1.1,x1.1.2) x2.1).1.2)).1.1.2),((S.open_ ((S.doD (x1.1.1,x1.1.2) x2.1).1.1,(S.doD (x1.1.1,x1.1.2) x2.1).1.2)).1.2.1,((S.open_ ((S.doD (x1.1.1,x1.1.2) x2.1).1.1,(S.doD (x1.1.1,x1.1.2) x2.1).1.2)).1.2.2.1,(S.open_ ((S.doD (x1.1.1,x1.1.2) x2.1).1.1,(S.doD (x1.1.1,x1.1.2) x2.1).1.2)).1.2.2.2))),(S.open_ ((S.doD (x1.1.1,x1.1.2) x2.1).1.1,(S.doD (x1.1.1,x1.1.2) x2.1).1.2)).2),())))
def qre(lf:Nat)(x1:qad)(x2:qnj):Option qrx:=q01 lf x1 x2
theorem zrj{g:ElA [cJournal,qg6]->Option qrx}(hsm:SmOK Tryz.prog [(33,zbm),(14,spz7)])(hg:∀(x:ElA [cJournal,qg6]) (y:qrx),WfA [cJournal,qg6] x->g x=some y->∃lf,qre lf x.1 x.2.1=some y):Con Tryz.prog 75 ⟨[cJournal,qg6],[(false,qhd)],g⟩ :=
 conU (fi:=fi75) (hxl:=[]) (fun lf x=>qre lf x.1 x.2.1) cm3 zmh trivial hsm hg
abbrev qqy:Type:=qlz × Unit
abbrev z0e:Nat:=27
def zf5(lf:Nat)(x1:qad)(x2:(List qaa)):Option qqy:=(some (((((S.behindA ((x1.1.1,x1.1.2),(x1.2.1,(x1.2.2.1,x1.2.2.2))) ((S.plan ((x1.1.1,x1.1.2),(x1.2.1,(x1.2.2.1,x1.2.2.2))) x2).1,(S.plan ((x1.1.1,x1.1.2),(x1.2.1,(x1.2.2.1,x1.2.2.2))) x2).2)).1.1.1,(S.behindA ((x1.1.1,x1.1.2),(x1.2.1,(x1.2.2.1,x1.2.2.2))) ((S.plan ((x1.1.1,x1.1.2),(x1.2.1,(x1.2.2.1,x1.2.2.2))) x2).1,(S.plan ((x1.1.1,x1.1.2),(x1.2.1,(x1.2.2.1,x1.2.2.2))) x2).2)).1.1.2),((S.behindA ((x1.1.1,x1.1.2),(x1.2.1,(x1.2.2.1,x1.2.2.2))) ((S.plan ((x1.1.1,x1.1.2),(x1.2.1,(x1.2.2.1,x1.2.2.2))) x2).1,(S.plan ((x1.1.1,x1.1.2),(x1.2.1,(x1.2.2.1,x1.2.2.2))) x2).2)).1.2.1,((S.behindA ((x1.1.1,x1.1.2),(x1.2.1,(x1.2.2.1,x1.2.2.2))) ((S.plan ((x1.1.1,x1.1.2),(x1.2.1,(x1.2.2.1,x1.2.2.2))) x2).1,(S.plan ((x1.1.1,x1.1.2),(x1.2.1,(x1.2.2.1,x1.2.2.2))) x2).2)).1.2.2.1,(S.behindA ((x1.1.1,x1.1.2),(x1.2.1,(x1.2.2.1,x1.2.2.2))) ((S.plan ((x1.1.1,x1.1.2),(x1.2.1,(x1.2.2.1,x1.2.2.2))) x2).1,(S.plan ((x1.1.1,x1.1.2),(x1.2.1,(x1.2.2.1,x1.2.2.2))) x2).2)).1.2.2.2))),(S.behindA ((x1.1.1,x1.1.2),(x1.2.1,(x1.2.2.1,x1.2.2.2))) ((S.plan ((x1.1.1,x1.1.2),(x1.2.1,(x1.2.2.1,x1.2.2.2))) x2).1,(S.plan ((x1.1.1,x1.1.2),(x1.2.1,(x1.2.2.1,x1.2.2.2))) x2).2)).2),()))
def zbl(lf:Nat)(x1:qad)(x2:(List qaa)):Option qqy:=zf5 lf x1 x2
theorem zyh{g:ElA [cJournal,(.list cCell)]->Option qqy}(hsm:SmOK Tryz.prog [(75,zbu),(25,qzx)])(hg:∀(x:ElA [cJournal,(.list cCell)]) (y:qqy),WfA [cJournal,(.list cCell)] x->g x=some y->∃lf,zbl lf x.1 x.2.1=some y):Con Tryz.prog 27 ⟨[cJournal,(.list cCell)],[(false,qhd)],g⟩ :=
 conU (fi:=fi27) (hxl:=[]) (fun lf x=>zbl lf x.1 x.2.1) cm3 zg9 trivial hsm hg
theorem qj1{l:List qaa}(h:S.pk l=true)(m:Int):(S.packed l m).length<=20000:=by
 have:=qmo h;rw[qc5];omega
theorem qwk{l:List qaa}(h:S.pk l=true){m:Int}(hm:0<=m/\m<=1):S.pkm l m=true:=by
 unfold S.pkm;rw[h,qay.2 hm];rfl
theorem qjy{α:Type}{l:List α}{d:α}(h:1<=l.length):jget l (Int.ofNat 0)=some (l.getD 0 d):=qj2 (i:=Int.ofNat 0) (d:=d) (jbq _) (by show (0:Int)<(l.length:Int);omega)
theorem get0{α:Type}{l:List α}{d:α}(h:1<=l.length):l[0]?=some (l.getD 0 d):=by
 cases l with
 | nil=>exact absurd h (Nat.not_succ_le_zero 0)
 | cons a l=>rfl
def q7g(l:List qaa)(a e:Int)(b:Bool):List DAct:=cond (b&&decide (a+(S.packed l 1).length<e)) [S.put (a+(S.packed l 1).length) S.blank] []++[S.sync,S.put a ((S.packed l 1).getD 0 S.none_),S.sync]
theorem zad(l:List qaa)(a e:Int)(b:Bool)(hp:S.pk l=true)(ha:S.inI a 0 1000000=true):∀(k f i:Nat) (out:List DAct),i+k=(S.packed l 0).length->k<f->out.length+k<=2000000->qha LF l a e b f (S.packed l 0,Int.ofNat i,out)=some (out++(S.puts (a+i) ((S.packed l 0).drop i)++q7g l a e b),())
 | 0,f+1,i,out,hi,hf,ho=>by
  obtain⟨h1,h2⟩:=qay.1 ha;have hlen:=qj1 hp 0;have hl1:(S.packed l 1).length=(S.packed l 0).length:=by rw[qc5,qc5]
  have hw:IntKind.i64.wrap (Int.add a (Int.ofNat (S.packed l 0).length))=a+((S.packed l 1).length:Int):=by
   rw[hl1];exact wrap_in (by show -_<=a+((S.packed l 0).length:Int)/\a+((S.packed l 0).length:Int)<_;omega)
  have hpos:=qel l 1;show qid LF l a e b (qha LF l a e b f) _=_;simp only[qid];rw[qa4,jal (by omega),jad,jbn (by omega),hw,qwk hp (m:=Int.ofNat 1) ⟨by decide,by decide⟩,jaa];have hB:∀n:Nat,n<=3000000->Nat.ble (Nat.mul (Nat.add n 3) 32) 140737488355328=true:=fun n hn=>jau (by show (n+3)*32<=_;omega);have j0:jget (S.packed l (Int.ofNat 1)) (Int.ofNat 0)=some ((S.packed l 1).getD 0 S.none_):=qjy hpos;have g0:(S.packed l (Int.ofNat 1))[0]?=some ((S.packed l 1).getD 0 S.none_):=get0 hpos;have hB2:∀x:DAct,Nat.ble (Nat.mul (Nat.add (List.length (List.append out [x])) 3) 32) 140737488355328=true:=fun x=>hB _ (by simp only[jc1,jah,jar,ja0];omega);simp only[j0,g0,hB out.length (by omega),hB2,jaa];rw[show S.inI (Int.ofNat 64) (Int.ofNat 0) (Int.ofNat 64)=true from rfl,jaa,zbv];simp only[j0,g0,hB2,jaa,qbu];rw[jau (by show (out.length+1)*32<=_;omega),jaa];unfold q7g;cases b with
  | false=>rw[jad,jcb];rfl
  | true =>
   rw[jaa,jbt];cases decide (a+((S.packed l 1).length:Int)<e) with
   | false=>rfl
   | true =>
    simp only[jaa];show some ((out++[_])++_,())=some (out++([]++([_]++_)),());rw[jaz,jc0]
 | k+1,f+1,i,out,hi,hf,ho=>by
  obtain⟨h1,h2⟩:=qay.1 ha;have hlen:=qj1 hp 0;show qid LF l a e b (qha LF l a e b f) _=_;simp only[qid];have hg:(S.packed l 0)[Int.toNat (Int.ofNat i)]?=some ((S.packed l 0).getD i S.none_):=by
   show (S.packed l 0)[i]?=_;rw[jai,jac (show i<(S.packed l 0).length by omega)];rfl
  rw[qa4,jaj (by omega),jaa,qj2 (i:=Int.ofNat i) (d:=S.none_) (jbe i) (by show (i:Int)<((S.packed l 0).length:Int);omega),hg];simp only
  rw[jau (by show (out.length+1)*32<=_;omega),jaa,show IntKind.i64.wrap (Int.add (Int.ofNat i) (Int.ofNat 1))=Int.ofNat (i+1) from qa2 (n:=i+1) (by omega),
   show IntKind.i64.wrap (Int.add a (Int.ofNat i))=a+i from wrap_in (by show -_<=a+(i:Int)/\a+(i:Int)<_;omega),
   zad l a e b hp ha k f (i+1) _ (by omega) (by omega) (by simp only[jc1,jah,jar,ja0];omega),q10 (l:=S.packed l 0) (i:=i) (by omega) a]
  show some ((out++[_])++_,())=some (out++(_::_++_),());rw[jaz];rfl
theorem zrw(l:List qaa)(a e:Int)(b:Bool)(hp:S.pk l=true)(ha:S.inI a 0 1000000=true):Fz10 LF l a e b=some (S.laid l a e b,()):=by
 have hlen:=qj1 hp 0;simp only[Fz10,qzj];rw[qwk hp (m:=Int.ofNat 0) ⟨by decide,by decide⟩,jaa];simp only;refine(zad l a e b hp ha (S.packed l 0).length LF 0 [] (by omega) (by unfold LF;omega) (by rw[ja0];omega)).trans ?_;rw[jdk,show a+((0:Nat):Int)=a by omega];rfl
theorem zt4:Con Tryz.prog zwd q66:=zfj ⟨q0w,zif,zoq,qwa,trivial⟩ fun x y hx h=>⟨LF,by
 obtain⟨h1,h2⟩:=qa5 (show cond (S.pk x.1&&(S.inI x.2.1 0 1000000&&S.inI x.2.2.1 0 1000000)) (some (S.laid x.1 x.2.1 x.2.2.1 x.2.2.2.1,())) none=some y from h);rw[jae,jae] at h1;exact(zrw x.1 x.2.1 x.2.2.1 x.2.2.2.1 h1.1 h1.2.1).trans (jav some h2)⟩
theorem zun:S.packed [] 1=[qae (1::List.replicate 63 0)]:=by kernel_rfl
theorem z1l(lf:Nat)(d:qac):qtf lf d=some ((S.format d).1,(S.format d).2,()):=by
 simp only[qtf,zdo];unfold S.format;show cond (!ieqI (S.checkDisk d) _) _ _=_;by_cases h0:S.checkDisk d=0
 ·rw[qbe (show S.checkDisk d=Int.ofNat 0 from h0),jaw,jad,jao h0,qa4];by_cases h1:d.2.length=0
  ·rw[jal (by omega),jad,jao h1,jaa,show S.pk []=true from rfl,jaa];simp only[show S.packed [] (Int.ofNat 1)=S.packed [] 1 from rfl,zun];rfl
  ·rw[jaj (by omega),jaa,jan h1];rfl
 ·rw[qbb (show ¬S.checkDisk d=Int.ofNat 0 from h0),jan h0,jat,jaa]
theorem qht{l:List ByteArray}(h:S.secs l=true):l.length<=1000/\∀s∈l,s.size=64:=by
 unfold S.secs at h;rw[jae,jb4] at h;refine⟨jam h.1,fun s hs=>?_⟩;have:=jc5.1 h.2 s hs;unfold S.short at this;simpa using this
theorem zc7{l:List ByteArray}(h:S.secs1 l=true):1<=l.length/\l.length<=1000/\∀s∈l,s.size=64:=by
 unfold S.secs1 at h;rw[jae] at h;exact⟨jam h.1,qht h.2⟩
theorem qfw{l:List ByteArray}{i:Nat}(h:i<l.length):l.getD i S.none_∈l:=by
 rw[jai,jac h];exact jbk h
theorem qr2{s:ByteArray}(h:s.size=64):∃b0 b1 b2 b3 r,qab s=b0::b1::b2::b3::r:=by
 have:=qce s;rcases hs:qab s with _|⟨b0,_|⟨b1,_|⟨b2,_|⟨b3,r⟩⟩⟩⟩
 case cons.cons.cons.cons=>exact⟨_,_,_,_,_,rfl⟩
 all_goals rw[hs] at this;simp only[jar,ja0] at this;omega
theorem znz(l:List ByteArray)(v:ByteArray):(l++[v]).flatMap qab=l.flatMap qab++qab v:=by simp
theorem q2a(l:List ByteArray)(v:ByteArray):ByteArray.append (qae (l.flatMap qab)) v=qae ((l++[v]).flatMap qab):=by
 rw[znz,<- qcp,qfd]
theorem zqz{N:Nat}(h:N<100000000):IntKind.i64.wrap (Int.tdiv (Int.ofNat (N+63)) (Int.ofNat 64))=Int.ofNat ((N+63) / 64):=qa2 (n:=(N+63) / 64) (by omega)
theorem qge{N:Nat}(h:N<100000000):IntKind.i64.wrap (Int.tdiv (IntKind.i64.wrap (Int.sub (IntKind.i64.wrap (Int.add (Int.ofNat N) (Int.ofNat 64))) (Int.ofNat 1))) (Int.ofNat 64))=Int.ofNat ((N+63) / 64):=by
 rw[show IntKind.i64.wrap (Int.add (Int.ofNat N) (Int.ofNat 64))=Int.ofNat (N+64) from qa2 (n:=N+64) (by omega)];have:Int.sub (Int.ofNat (N+64)) (Int.ofNat 1)=Int.ofNat (N+63):=by
  show ((N+64:Nat):Int)-1=((N+63:Nat):Int);omega
 rw[this,qa2 (n:=N+63) (by omega)];exact zqz h
theorem zcr{b0 b1 b2 b3:Int}{r:List Int}(h:rng (b0::b1::b2::b3::r)):b1*65536+b2*256+b3=((S.recN (b0::b1::b2::b3::r):Nat):Int)/\S.recN (b0::b1::b2::b3::r)<16777216:=by
 have h1:=h b1 (by simp);have h2:=h b2 (by simp);have h3:=h b3 (by simp);have e:S.recN (b0::b1::b2::b3::r)=(b1*65536+b2*256+b3).toNat:=rfl;rw[e];omega
def qgc(l:List Int):Bool:=l.all fun b=>decide (b=0)
theorem qwm(l:List ByteArray)(cells:List qaa)(M:Int)(f:List Int)(hr:rng f)(hf:f.length<=1000000):∀(k F i:Nat) (is:Bool),i+k=f.length->k<F->qft LF l F (cells,is,Int.ofNat i,M,qae f)=some ((cells,M,!(is&&qgc (f.drop i))),())
 | 0,F+1,i,is,hi,hF=>by
  show qje LF l (qft LF l F) _=_;simp only[qje];rw[qa1,qa4,jal (by omega),jad,jbn (by omega)];cases is<;>rfl
 | k+1,F+1,i,is,hi,hF=>by
  show qje LF l (qft LF l F) _=_;simp only[qje];have hlt:i<f.length:=by omega
  rw[qa1,qa4,jaj hlt,jaa,qbi hr,qbp,jac hlt,jby hlt,show IntKind.i64.wrap (Int.add (Int.ofNat i) (Int.ofNat 1))=Int.ofNat (i+1) from qa2 (n:=i+1) (by omega)];simp only;rw[qwm l cells M f hr hf k F (i+1) _ (by omega) (by omega),qwm l cells M f hr hf k F (i+1) _ (by omega) (by omega)];show _=some ((cells,M,!(is&&(decide (f[i]=0)&&qgc (f.drop (i+1))))),());cases is with
  | false=>rfl
  | true =>
   rw[jaa,qcf];rfl
theorem z0t(l:List ByteArray)(h:S.secs1 l=true):Fz3 LF l=some (S.readK l,()):=by
 obtain⟨h1,h2,h3⟩:=zc7 h;have hs:=h3 _ (qfw (i:=0) (by omega));obtain⟨b0,b1,b2,b3,r,hb⟩:=qr2 hs;have hrb:rng (b0::b1::b2::b3::r):=hb▸qda _;obtain⟨n1,n2⟩:=zcr hrb;have hM:S.recM (b0::b1::b2::b3::r)=(S.recN (b0::b1::b2::b3::r)+4+63) / 64:=rfl;have r1:=hrb b1 (by simp);have r2:=hrb b2 (by simp);have r3:=hrb b3 (by simp);unfold S.readK;simp only[Fz3,qwc,qjy (d:=S.none_) h1,hb];rw[hM];generalize S.recN (b0::b1::b2::b3::r)=N at n1 n2;have wn:IntKind.i64.wrap (Int.add (IntKind.i64.wrap (Int.add (IntKind.i64.wrap (Int.mul (IntKind.i64.wrap b1) (Int.ofNat 65536))) (IntKind.i64.wrap (Int.mul (IntKind.i64.wrap b2) (Int.ofNat 256))))) (IntKind.i64.wrap b3))=Int.ofNat N:=by
  rw[wrap_in (n:=b1) (by omega),wrap_in (n:=b2) (by omega),wrap_in (n:=b3) (by omega),wrap_in (n:=Int.mul b1 (Int.ofNat 65536)) (by show -_<=b1*65536/\b1*65536<_;omega),wrap_in (n:=Int.mul b2 (Int.ofNat 256)) (by show -_<=b2*256/\b2*256<_;omega),
   wrap_in (n:=Int.add (Int.mul b1 (Int.ofNat 65536)) (Int.mul b2 (Int.ofNat 256))) (by show -_<=b1*65536+b2*256/\b1*65536+b2*256<_;omega)]
  rw[show Int.add (Int.add (Int.mul b1 (Int.ofNat 65536)) (Int.mul b2 (Int.ofNat 256))) b3=Int.ofNat N from n1];exact qa2 (by omega)
 have w4:IntKind.i64.wrap (Int.add (Int.ofNat N) (Int.ofNat 4))=Int.ofNat (N+4):=qa2 (n:=N+4) (by omega);simp only[qbp,jaq,ja2,wn,w4,qge (N:=N+4) (by omega)];by_cases c0:b0=1
 ·have e0:ieqI b0 (Int.ofNat 1)=true:=qbe c0;rw[e0,jaw,jad];by_cases c1:l.length<(N+4+63) / 64
  ·rw[qdj (show Int.ofNat l.length<Int.ofNat ((N+4+63) / 64) from jd0.2 c1),jaa,jao (.inr c1)];rfl
  ·rw[qdv (show ¬Int.ofNat l.length<Int.ofNat ((N+4+63) / 64) from fun h=>c1 (jd0.1 h)),jad,jan (show ¬(¬(b0::b1::b2::b3::r).getD 0 0=1\/l.length<(N+4+63) / 64) from fun h=>h.elim (fun h=>h c0) c1)];obtain⟨M,hMe⟩:∃M,(N+4+63) / 64=M:=⟨_,rfl⟩;rw[hMe] at c1 ⊢;have l1:lchk (Int.ofNat 0) (Int.ofNat M) (Int.ofNat M) (Int.ofNat l.length)=true:=qbv.2 ⟨jbq _,jbe _,jbq _,by show (M:Int)<=(l.length:Int);omega⟩;rw[l1,jaa];have hL:(l.take M).length=M:=by rw[jba,jb1 (by omega)]
   have hfl:∀i,((((l.take M).take i).flatMap qab).length)=64*min i M:=fun i=>by
    rw[qq3 _ fun s hs=>h3 s (jb6 (jb6 hs)),jba,hL]
   refine(range0 (σ:=ByteArray) (R:=Rtz3) (T:=fun K p=>ql4 LF l K (fun q=>qft LF l LF q) p) (l.take M) (fun i s=>(Int.ofNat N,i,s)) (fun i s=>s=qae (((l.take M).take i).flatMap qab)) (fun _ _ _=>some ((match S.changes (N+1) ((((l.take M).flatMap qab).drop 4).take N) (-1) with
     | some c=>(c,(M:Int),!((((l.take M).flatMap qab).drop (4+N)).all fun b=>decide (b=0)))
     | none=>([],(M:Int),true)),())) (by rw[hL];unfold LF;omega) (fun K s hs=>?_) (fun K i v rest s hs r hk=>?_) (S.lit []) rfl).trans rfl
   ·rw[hL,jbm (by rw[hL];exact jas _)] at hs;have hf:=hfl M;rw[Nat.min_self,jbm (by rw[hL];exact jas _)] at hf;have hrf:=qwl (l.take M);simp only[ql4,w4,qge (N:=N+4) (by omega),hMe];rw[show lsub l (Int.ofNat 0) (Int.ofNat M)=l.take M from rfl,qbt,jad,hs];generalize (l.take M).flatMap qab=f at hf hrf;have w4':IntKind.i64.wrap (Int.add (Int.ofNat 4) (Int.ofNat N))=Int.ofNat (4+N):=qa2 (n:=4+N) (by omega);have l2:lchk (Int.ofNat 4) (Int.ofNat (4+N)) (Int.ofNat f.length) (Int.ofNat f.length)=true:=qbv.2 ⟨by decide,by show (4:Int)<=((4+N:Nat):Int);omega,by show ((4+N:Nat):Int)<=((f.length:Nat):Int);omega,jbq _⟩;have hext:ByteArray.extract (qae f) 4 (Int.toNat (Int.ofNat (4+N)))=qae ((f.drop 4).take N):=by
     refine qej ?_;rw[ql3,qbi hrf,qbi (qee (qcu hrf 4) N),jcn];show (f.drop 4).take (4+N-4)=_;rw[ja5]
    have hszN:((f.drop 4).take N).length=N:=by rw[jba,jax,jb1 (by omega)]
    rw[w4',qa1,l2,jaa,hext,qa1,jau (by rw[hszN];omega),jaa];simp only;rw[qwm l _ _ f hrf (by omega) (f.length-(4+N)) LF (4+N) _ (by omega) (by unfold LF;omega)];unfold S.chg;rw[qa1,hszN,qbi (qee (qcu hrf 4) N)];cases S.changes (N+1) ((f.drop 4).take N) (-1)<;>rfl
   ·have hi:=r.lt;rw[hL] at hi;subst hs;have hfi:=hfl i;rw[jb1 (by omega)] at hfi;have hvs:=h3 v (jb6 r.mem);simp only[ql4,w4,qge (N:=N+4) (by omega),hMe];rw[show lsub l (Int.ofNat 0) (Int.ofNat M)=l.take M from rfl,r.ilt,jaa,r.get];simp only;rw[qa1,hfi,hvs,qb3 (by show 64*i+64<_;omega),jaa,r.next,q2a,<- r.take];exact hk _ rfl
 ·have e0:ieqI b0 (Int.ofNat 1)=false:=qbb c0;rw[e0,jat,jaa,jao (.inl (show ¬(b0::b1::b2::b3::r).getD 0 0=1 from c0))];rfl
theorem zt9:Con Tryz.prog idz3 spz3:=mkz3 ⟨ziu,trivial⟩ fun x y hx h=>⟨LF,by
 obtain⟨h1,h2⟩:=qa5 (show cond (S.secs1 x.1) (some (S.readK x.1,())) none=some y from h);exact(z0t x.1 h1).trans (jav some h2)⟩
def recR(n:Int)(out:List qaa):Option (List qaa)->q0c
 | some l=>(out++l,n,false,true)
 | none=>([],0,false,false)
theorem val2{a b:Int}(h:rng [a,b]):S.val (qae [a,b])=a*256+b:=by
 unfold S.val;rw[qbi h];show 256*(256*0+a)+b=_;omega
theorem val3{a b c:Int}(h:rng [a,b,c]):S.val (qae [a,b,c])=a*65536+b*256+c:=by
 unfold S.val;rw[qbi h];show 256*(256*(256*0+a)+b)+c=_;omega
theorem quf{f:List Int}(hr:rng f)(a b:Nat):ByteArray.extract (qae f) a b=qae ((f.drop a).take (b-a)):=by
 refine qej ?_;rw[ql3,qbi hr,qbi (qee (qcu hr a) _),jcn]
theorem qv3(d:qac)(x2 x3:Int)(f:List Int)(n:Nat)(hr:rng f)(hn:n<=f.length)(hf:f.length<=1000000):∀(k F i:Nat) (last:Int) (out:List qaa),n-i<k->k<=F->i<=n->out.length+(n-i)<=3000000->qev LF d x2 x3 F (qae f,Int.ofNat n,Int.ofNat i,last,out)=some (recR (Int.ofNat ((n+63) / 64)) out (S.changes k ((f.drop i).take (n-i)) last),())
 | 0,_,i,last,out,h1,h2,h3,h4=>by omega
 | k+1,0,i,last,out,h1,h2,h3,h4=>by omega
 | k+1,F+1,i,last,out,h1,h2,h3,h4=>by
  show qor LF d x2 x3 (qev LF d x2 x3 F) _=_;simp only[qor];rw[qa1,qbi hr,qa4];by_cases c0:i<n
  ·rw[jaj c0,jaa,show IntKind.i64.wrap (Int.add (Int.ofNat i) (Int.ofNat 3))=Int.ofNat (i+3) from qa2 (n:=i+3) (by omega),show IntKind.i64.wrap (Int.add (Int.ofNat i) (Int.ofNat 1))=Int.ofNat (i+1) from qa2 (n:=i+1) (by omega),qa4];by_cases c1:n<i+3
   ·rw[jaj c1,jaa];have hl:((f.drop i).take (n-i)).length=n-i:=by rw[jba,jax,jb1 (by omega)]
    rcases hg:(f.drop i).take (n-i) with _|⟨a,_|⟨b,_|⟨c,r⟩⟩⟩
    ·rw[hg] at hl;simp only[ja0] at hl;omega
    ·rfl
    ·rfl
    ·rw[hg] at hl;simp only[jar] at hl;omega
   ·rw[jal c1,jad];have hl:(f.drop i).length=f.length-i:=jax;rcases hg:f.drop i with _|⟨ky,_|⟨a,_|⟨b,r⟩⟩⟩
    ·rw[hg] at hl;simp only[ja0] at hl;omega
    ·rw[hg] at hl;simp only[jar,ja0] at hl;omega
    ·rw[hg] at hl;simp only[jar,ja0] at hl;omega
    have hrg:rng (ky::a::b::r):=hg▸qcu hr i;have hd1:f.drop (i+1)=a::b::r:=by rw[<- jcv,hg];rfl
    have hd3:f.drop (i+3)=r:=by rw[<- jcv,hg];rfl
    have hr':rng r:=hd3▸qcu hr _;have hk:=hrg ky (by simp);have ha:=hrg a (by simp);have hb:=hrg b (by simp);have hrl:r.length=f.length-(i+3):=by rw[<- hd3,jax]
    have hget:f[i]?=some ky:=by
     have:=jbz (xs:=f) (i:=i) (j:=0);rw[hg] at this;exact this.symm
    obtain⟨j,hj⟩:∃j,n-i=j+3:=⟨n-i-3,by omega⟩;have hspec:(ky::a::b::r).take (n-i)=ky::a::b::r.take j:=by rw[hj];rfl
    rw[hspec,qnf,qbp,hget];have l1:lchk (Int.ofNat (i+1)) (Int.ofNat (i+3)) (Int.ofNat f.length) (Int.ofNat f.length)=true:=qbv.2 ⟨jbe _,by show ((i+1:Nat):Int)<=((i+3:Nat):Int);omega,by show ((i+3:Nat):Int)<=(f.length:Int);omega,jbq _⟩;have hext:ByteArray.extract (qae f) (Int.toNat (Int.ofNat (i+1))) (Int.toNat (Int.ofNat (i+3)))=qae [a,b]:=by
     rw[show Int.toNat (Int.ofNat (i+1))=i+1 from rfl,show Int.toNat (Int.ofNat (i+3))=i+3 from rfl,quf hr,hd1,show i+3-(i+1)=2 by omega];rfl
    have hab:rng [a,b]:=fun x hx=>hrg x (by simp only[ja1,jek,jfp] at hx;rcases hx with rfl|rfl<;>simp);have wk:IntKind.i64.wrap ky=ky:=wrap_in (by omega);simp only;rw[l1,jaa,hext,qa1,show Nat.ble [a,b].length 3=true from rfl,jaa,val2 hab];simp only;have hnn:0<=a*256+b/\a*256+b<65536:=by omega
    generalize a*256+b=nn at hnn;have hjl:(r.take j).length=j:=by rw[jba,jb1 (by omega)]
    have hB:Nat.ble (Nat.mul (Nat.add out.length 1) 32) 140737488355328=true:=jau (by show (out.length+1)*32<=_;omega);rw[hjl,wk,hB];simp only[qbu,jaa];by_cases c5:nn=0
    ·rw[qbe (show nn=Int.ofNat 0 from c5),jaa];by_cases c2:last<ky
     ·rw[jaj c2,jaw,jad];by_cases c3:199<ky
      ·rw[jaj (show Int.ofNat 199<ky from c3),jaa,jao (.inl c3)];rfl
      ·rw[jal (show ¬Int.ofNat 199<ky from c3),jad,jan (by omega),jao c5];rw[qv3 d x2 x3 f n hr hn hf k F (i+3) ky _ (by omega) (by omega) (by omega) (by simp only[jc1,jah,jar,ja0];omega),hd3,show n-(i+3)=j by omega,jc1];cases S.changes k (r.take j) ky with
       | none=>rfl
       | some l=>show some ((out++[_]++l,_),())=some ((out++_::l,_),());rw[jaz];rfl
     ·rw[jal c2,jat,jaa,jao (.inr (.inl (by omega)))];rfl
    ·rw[qbb (show ¬nn=Int.ofNat 0 from c5),jad];have e1:IntKind.i64.wrap (Int.sub nn (Int.ofNat 1))=nn-1:=wrap_in (by show -_<=nn-1/\nn-1<_;omega);have e2:IntKind.i64.wrap (Int.sub (IntKind.i64.wrap (Int.add (Int.ofNat (i+3)) nn)) (Int.ofNat 1))=Int.ofNat (i+3+(nn-1).toNat):=by
      rw[wrap_in (n:=Int.add (Int.ofNat (i+3)) nn) (by show -_<=((i+3:Nat):Int)+nn/\((i+3:Nat):Int)+nn<_;omega)];have:Int.sub (Int.add (Int.ofNat (i+3)) nn) (Int.ofNat 1)=Int.ofNat (i+3+(nn-1).toNat):=by
       show ((i+3:Nat):Int)+nn-1=((i+3+(nn-1).toNat:Nat):Int);omega
      rw[this];exact qa2 (by omega)
     have e3:IntKind.i64.wrap (Int.add (Int.ofNat (i+3)) (nn-1))=Int.ofNat (i+3+(nn-1).toNat):=by
      have:Int.add (Int.ofNat (i+3)) (nn-1)=Int.ofNat (i+3+(nn-1).toNat):=by
       show ((i+3:Nat):Int)+(nn-1)=((i+3+(nn-1).toNat:Nat):Int);omega
      rw[this];exact qa2 (by omega)
     simp only[e1,e2,e3];by_cases c4:4001<nn
     ·rw[jaj (show Int.ofNat 4000<nn-1 from by show (4000:Int)<_;omega),jaa,jao (.inr (.inr (.inr c4)))];rfl
     rw[jal (show ¬Int.ofNat 4000<nn-1 from by show ¬(4000:Int)<_;omega),jad];by_cases c6:(j:Int)+1<nn
     ·rw[jaj (show Int.ofNat n<Int.ofNat (i+3+(nn-1).toNat) from jd0.2 (by omega)),jaa,jao (.inr (.inr (.inl c6)))];rfl
     have l2:lchk (Int.ofNat (i+3)) (Int.ofNat (i+3+(nn-1).toNat)) (Int.ofNat f.length) (Int.ofNat f.length)=true:=qbv.2 ⟨jbe _,by show ((i+3:Nat):Int)<=((i+3+(nn-1).toNat:Nat):Int);omega,by show ((i+3+(nn-1).toNat:Nat):Int)<=(f.length:Int);omega,jbq _⟩;rw[jal (show ¬Int.ofNat n<Int.ofNat (i+3+(nn-1).toNat) from fun h=>by have:=jd0.1 h;omega),jad,l2,jaa];by_cases c2:last<ky
     ·rw[jaj c2,jaw,jad];by_cases c3:199<ky
      ·rw[jaj (show Int.ofNat 199<ky from c3),jaa,jao (.inl c3)];rfl
      ·rw[jal (show ¬Int.ofNat 199<ky from c3),jad,jan (by omega),jan c5]
       rw[show Int.toNat (Int.ofNat (i+3))=i+3 from rfl,show Int.toNat (Int.ofNat (i+3+(nn-1).toNat))=i+3+(nn-1).toNat from rfl,quf hr,hd3,ja5,
        qv3 d x2 x3 f n hr hn hf k F (i+3+(nn-1).toNat) ky _ (by omega) (by omega) (by omega) (by simp only[jc1,jah,jar,ja0];omega)]
       have hd:f.drop (i+3+(nn-1).toNat)=r.drop (nn-1).toNat:=by rw[<- jcv,hd3]
       rw[hd,jdw,jb1 (by omega),jd8,show n-(i+3+(nn-1).toNat)=j-(nn-1).toNat by omega,jc1];cases S.changes k ((r.drop (nn-1).toNat).take (j-(nn-1).toNat)) ky with
       | none=>rfl
       | some l=>show some ((out++[_]++l,_),())=some ((out++_::l,_),());rw[jaz];rfl
     ·rw[jal c2,jat,jaa,jao (.inr (.inl (by omega)))];rfl
  ·rw[jal c0,jad,show n-i=0 by omega,je2];have e:IntKind.i64.wrap (Int.tdiv (IntKind.i64.wrap (Int.sub (IntKind.i64.wrap (Int.add (Int.ofNat n) (Int.ofNat 64))) (Int.ofNat 1))) (Int.ofNat 64))=Int.ofNat ((n+63) / 64):=qge (by omega);rw[e];show some ((out,_),())=some ((out++[],_),());rw[jbo]
theorem q6z(d:qac)(x2 x3:Int)(f:List Int)(n:Nat)(hr:rng f)(hf:f.length<=1000000):∀(k F i:Nat),i+k=f.length->k<F->qfl LF d x2 x3 F (Int.ofNat n,qae f,Int.ofNat i)=cond (qgc (f.drop i)) (qev LF d x2 x3 LF (qae f,Int.ofNat n,Int.ofNat 4,Int.negSucc 0,[])) (some (([],0,false,false),()))
 | 0,F+1,i,hi,hF=>by
  show qjx LF d x2 x3 (qfl LF d x2 x3 F) (fun q=>qev LF d x2 x3 LF q) _=_;simp only[qjx];rw[qa1,qa4,jal (by omega),jad,jbn (by omega)];rfl
 | k+1,F+1,i,hi,hF=>by
  show qjx LF d x2 x3 (qfl LF d x2 x3 F) (fun q=>qev LF d x2 x3 LF q) _=_;simp only[qjx];have hlt:i<f.length:=by omega
  rw[qa1,qa4,jaj hlt,jaa,qbi hr,qbp,jac hlt,jby hlt,show IntKind.i64.wrap (Int.add (Int.ofNat i) (Int.ofNat 1))=Int.ofNat (i+1) from qa2 (n:=i+1) (by omega)];simp only;rw[q6z d x2 x3 f n hr hf k F (i+1) (by omega) (by omega),qcf];show _=cond (decide (f[i]=0)&&qgc (f.drop (i+1))) _ _;by_cases e:f[i]=0
  ·rw[jaj e,jaj (show f[i]=Int.ofNat 0 from e),jaw,jad,jbt]
  ·rw[jal e,jal (show ¬f[i]=Int.ofNat 0 from e),jat,jaa,jcb,jad];rfl
theorem zwm{d:qac}{a e:Int}(h:S.recG d a e=true):(d.1.length<=1000/\∀s∈d.1,s.size=64)/\(0<=a/\a<e)/\e<=d.1.length:=by
 unfold S.recG at h;rw[jae,jae,qay,qay] at h;exact⟨qht h.1,⟨h.2.1.1,by omega⟩,h.2.2.2⟩
theorem zku(d:qac)(x2 x3:Int)(h:S.recG d x2 x3=true):Fz5 LF d x2 x3=some (S.recAt d x2 x3,()):=by
 obtain⟨⟨h1,h3⟩,⟨h4,h5⟩,h6⟩:=zwm h;obtain⟨a,rfl⟩:∃a:Nat,x2=Int.ofNat a:=⟨x2.toNat,by show x2=((x2.toNat:Nat):Int);omega⟩;obtain⟨e,rfl⟩:∃e:Nat,x3=Int.ofNat e:=⟨x3.toNat,by show x3=((x3.toNat:Nat):Int);omega⟩;have h5:a<e:=jd0.1 h5;have h6:e<=d.1.length:=Int.ofNat_le.1 h6;have hmem:d.1.getD a S.none_∈d.1:=qfw (by omega);have hs:=h3 _ hmem;obtain⟨b0,b1,b2,b3,r,hb⟩:=qr2 hs;have hrb:rng (b0::b1::b2::b3::r):=hb▸qda _;obtain⟨n1,n2⟩:=zcr hrb;have hM:S.recM (b0::b1::b2::b3::r)=(S.recN (b0::b1::b2::b3::r)+4+63) / 64:=rfl;have hj:jget d.1 (Int.ofNat a)=some (d.1.getD a S.none_):=qj2 (i:=Int.ofNat a) (d:=S.none_) h4 (by show (a:Int)<(d.1.length:Int);omega);have hl0:((d.1.take e).drop a).getD 0 S.none_=d.1.getD a S.none_:=by rw[qx0,jb7,q41 d.1 _ h5]
 have hll:((d.1.take e).drop a).length=e-a:=by rw[jax,jba,jb1 h6]
 have hl3:∀s∈(d.1.take e).drop a,s.size=64:=fun s hs=>h3 s (jb6 (jdo hs));unfold S.recAt S.readR;simp only[Fz5,qt6,hj,show Int.toNat (Int.ofNat a)=a from rfl,show Int.toNat (Int.ofNat e)=e from rfl,hl0,hb,hll];rw[hM];have hext:ByteArray.extract (d.1.getD a S.none_) 1 4=qae [b1,b2,b3]:=by
  rw[<- qfd (d.1.getD a S.none_),hb,quf hrb];rfl
 have h123:rng [b1,b2,b3]:=fun x hx=>hrb x (by simp only[ja1,jek,jfp] at hx;rcases hx with rfl|rfl|rfl<;>simp);have hsz:(d.1.getD a S.none_).size=(b0::b1::b2::b3::r).length:=by rw[<- qce,hb]
 rw[hs] at hsz;generalize hNe:S.recN (b0::b1::b2::b3::r)=N at n1 n2;simp only[qbp,jaq,hext,val3 h123,n1];by_cases c0:b0=0
 ·rw[qbe (show b0=Int.ofNat 0 from c0),jaa,jao (show (b0::b1::b2::b3::r).getD 0 0=0 from c0)];rfl
 rw[qbb (show ¬b0=Int.ofNat 0 from c0),jad,jan (show ¬(b0::b1::b2::b3::r).getD 0 0=0 from c0)];by_cases c1:b0=1
 ·have l1:lchk (Int.ofNat 1) (Int.ofNat 4) (Int.ofNat (d.1.getD a S.none_).size) (Int.ofNat (d.1.getD a S.none_).size)=true:=by rw[hs];rfl
  rw[qbe (show b0=Int.ofNat 1 from c1),jaw,jad,l1,jaa,qa1,show Nat.ble [b1,b2,b3].length 3=true from rfl,jaa];simp only;have w4:IntKind.i64.wrap (Int.add (Int.ofNat 4) ((N:Nat):Int))=Int.ofNat (N+4):=by
   have:Int.add (Int.ofNat 4) ((N:Nat):Int)=Int.ofNat (N+4):=by
    show (4:Int)+(N:Int)=((N+4:Nat):Int);omega
   rw[this];exact qa2 (by omega)
  rw[w4,qge (N:=N+4) (by omega)];obtain⟨M,hMe⟩:∃M,(N+4+63) / 64=M:=⟨_,rfl⟩;rw[hMe,show IntKind.i64.wrap (Int.add (Int.ofNat a) (Int.ofNat M))=Int.ofNat (a+M) from qa2 (n:=a+M) (by omega),qa4];by_cases c2:e-a<M
  ·rw[jaj (by omega),jaa,jao (.inr c2)];rfl
  rw[jal (by omega),jad,jan (show ¬(¬(b0::b1::b2::b3::r).getD 0 0=1\/e-a<M) from fun h=>h.elim (fun h=>h c1) c2)];have hL:(((d.1.take e).drop a).take M).length=M:=by rw[jba,hll,jb1 (by omega)]
  have hLg:∀i,i<M->(((d.1.take e).drop a).take M)[i]?=d.1[a+i]?:=fun i hi=>by
   rw[ja3,jao hi,jbz,ja3,jao (by omega)]
  have hL3:∀s∈((d.1.take e).drop a).take M,s.size=64:=fun s hs=>hl3 s (jb6 hs);generalize ((d.1.take e).drop a).take M=L at hL hLg hL3;have hfl:∀i,(((L.take i).flatMap qab).length)=64*min i M:=fun i=>by
   rw[qq3 _ fun s hs=>hL3 s (jb6 hs),jba,hL]
  refine(range0 (σ:=ByteArray) (R:=Rtz5) (T:=fun K p=>qmt LF d (Int.ofNat a) (Int.ofNat e) K (fun q=>qfl LF d (Int.ofNat a) (Int.ofNat e) LF q) p) L (fun i s=>(Int.ofNat (N+4),i,s)) (fun i s=>s=qae ((L.take i).flatMap qab)) (fun _ _ _=>some ((match (match S.changes (N+1) (((L.flatMap qab).drop 4).take N) (-1) with
    | some c=>(bif qgc ((L.flatMap qab).drop (4+N)) then some (c,M) else none)
    | none=>none) with
   | some x=>(x.1,(x.2:Int),false,true)
   | none=>([],0,false,false)),())) (by rw[hL];unfold LF;omega) (fun K s hs=>?_) (fun K i v rest s hs q hk=>?_) (S.lit []) rfl).trans rfl
  ·rw[jbm (jas _)] at hs;have hf:=hfl M;rw[Nat.min_self,jbm (by rw[hL];exact jas _)] at hf;have hrf:=qwl L;simp only[qmt,qge (N:=N+4) (by omega),hMe];rw[hL,qbt,jad,hs];generalize L.flatMap qab=f at hf hrf
   rw[q6z d _ _ f (N+4) hrf (by omega) (f.length-(N+4)) LF (N+4) (by omega) (by unfold LF;omega),
    qv3 d _ _ f (N+4) hrf (by omega) (by omega) (N+1) LF 4 (Int.negSucc 0) [] (by omega) (by unfold LF;omega) (by omega) (by rw[ja0];omega),hMe,Nat.add_sub_cancel,Nat.add_comm N 4]
   show _=some ((match (match S.changes (N+1) ((f.drop 4).take N) (Int.negSucc 0) with
    | some c=>(bif qgc (f.drop (4+N)) then some (c,M) else none)
    | none=>none) with
   | some x=>(x.1,(x.2:Int),false,true)
   | none=>([],0,false,false)),())
   cases qgc (f.drop (4+N))<;>cases S.changes (N+1) ((f.drop 4).take N) (Int.negSucc 0)<;>rfl
  ·have hi:=q.lt;rw[hL] at hi;subst hs;have hfi:=hfl i;rw[jb1 (by omega)] at hfi;have hvs:=hL3 v q.mem;have hg:=q.get;rw[qbp,hLg i hi] at hg;simp only[qmt,qge (N:=N+4) (by omega),hMe];rw[qa4,jaj hi,jaa,show IntKind.i64.wrap (Int.add (Int.ofNat a) (Int.ofNat i))=Int.ofNat (a+i) from qa2 (n:=a+i) (by omega),qbp,hg];simp only;rw[qa1,hfi,hvs,qb3 (by show 64*i+64<_;omega),jaa,q.next,q2a,<- q.take];exact hk _ rfl
 ·rw[qbb (show ¬b0=Int.ofNat 1 from c1),jat,jaa,jao (.inl (show ¬(b0::b1::b2::b3::r).getD 0 0=1 from c1))];rfl
theorem zjt:Con Tryz.prog idz5 spz5:=mkz5 ⟨zoj,trivial⟩ fun x y hx h=>⟨LF,by
 obtain⟨h1,h2⟩:=qa5 (show cond (S.recG x.1 x.2.1 x.2.2.1) (some (S.recAt x.1 x.2.1 x.2.2.1,())) none=some y from h);exact(zku x.1 x.2.1 x.2.2.1 h1).trans (jav some h2)⟩
def qtc(d:qac)(h:Int):Option (List qaa × Nat)->qlz
 | some (c,u)=>if u=0 then (S.noJ,15) else ((d,h,(u:Int),c),0)
 | none=>(S.noJ,15)
theorem qv1(d:qac)(h:Int)(c:List qaa)(u:Nat):qtc d h (some (c,u))=if u=0 then (S.noJ,15) else ((d,h,(u:Int),c),0):=rfl
def qkw(L:List qaa):Bool:=L.any (·.2.2)
theorem q92(d:qac)(K12:(Int × Int × Int × Int × List qaa)->Option Rtz7)(h toX:Int)(first at_:Nat)(L:List qaa)(m:Nat)(c:List qaa)(hm:S.mrg c L=true)(hat:at_+m<1000000)(hL:L.length<=1000000):∀(k F i:Nat),i+k=L.length->k<F ->
  qgq LF d K12 F (h,toX,Int.ofNat first,L,(m:Int),false,true,Int.ofNat i,Int.ofNat at_,c)=cond (decide (at_=first)&&qkw (L.drop i)) (some ((S.noJ,15),())) (K12 (Int.ofNat first,h,toX,Int.ofNat (at_+m),S.changed c L))
 | k,0,i,h1,h2=>by omega
 | k,F+1,i,h1,h2=>by
  show qq6 LF d (qgq LF d K12 F) K12 _=_;simp only[qq6];rw[hm,show IntKind.i64.wrap (Int.add (Int.ofNat at_) ((m:Nat):Int))=Int.ofNat (at_+m) from qa2 (n:=at_+m) (by omega),qa4,qfh];simp only[jaa];by_cases hi:i<L.length
  ·rw[jaj hi,jaa];by_cases e:at_=first
   ·rw[jaj e,jaa,qbp,jac hi,jby hi];simp only;rw[show IntKind.i64.wrap (Int.add (Int.ofNat i) (Int.ofNat 1))=Int.ofNat (i+1) from qa2 (n:=i+1) (by omega),q92 d K12 h toX first at_ L m c hm hat hL (k-1) F (i+1) (by omega) (by omega),jaj e];show _=cond (true&&(L[i].2.2||qkw (L.drop (i+1)))) _ _;cases L[i].2.2<;>rfl
   ·rw[jal e,jad,jcb,jad]
  ·rw[jal hi,jad,jbn (by omega)];show _=cond (decide (at_=first)&&false) _ _;rw[jfk,jad]
theorem zp8(d:qac)(a e:Nat):S.recAt d (Int.ofNat a) (Int.ofNat e)=if (qab (d.1.getD a S.none_)).getD 0 0=0 then ([],0,true,true) else match S.readR ((d.1.take e).drop a) with
  | some x=>(x.1,(x.2:Int),false,true)
  | none=>([],0,false,false):=rfl
theorem zdw(d:qac)(hl:d.1.length<=1000)(hs:szS d.1)(h:Int)(first toX:Nat)(hto:toX<=d.1.length)(hft:first<toX):∀(k F at_:Nat) (c:List qaa),toX-at_<k->k<=F->first<=at_->at_<=toX->okS c (-1) ->
  qic LF d F (Int.ofNat first,h,Int.ofNat toX,Int.ofNat at_,c)=some (qtc d h (S.recs k ((d.1.take toX).drop at_) c (at_-first)),())
 | 0,_,at_,c,h1,h2,h3,h4,h5=>by omega
 | k+1,0,at_,c,h1,h2,h3,h4,h5=>by omega
 | k+1,F+1,at_,c,h1,h2,h3,h4,h5=>by
  show qsz LF d (fun q=>qgq LF d (qic LF d F) LF q) _=_;simp only[qsz];have hw:IntKind.i64.wrap (Int.sub (Int.ofNat at_) (Int.ofNat first))=((at_-first:Nat):Int):=by
   have:Int.sub (Int.ofNat at_) (Int.ofNat first)=Int.ofNat (at_-first):=by
    show (at_:Int)-(first:Int)=((at_-first:Nat):Int);omega
   rw[this];exact qa2 (by omega)
  rw[qa4,hw];by_cases c0:at_<toX
  ·have hG:S.recG d (Int.ofNat at_) (Int.ofNat toX)=true:=by
    unfold S.recG S.secs;rw[jae,jae,jae,qay,qay,jb4];refine⟨⟨jau hl,?_⟩,⟨jbe _,by show (at_:Int)<=(toX:Int)-1;omega⟩,jbe _,Int.ofNat_le.2 hto⟩;refine jc5.2 fun s q=>?_;unfold S.short;rw[hs s q];decide
   have hlt:at_<(d.1.take toX).length:=by rw[jba,jb1 hto];exact c0
   have hgd:(d.1.take toX)[at_]=d.1.getD at_ S.none_:=by
    rw[jez,jai,jac (show at_<d.1.length by omega)];rfl
   rw[jaj c0,jaa,show S.recG (d.1,d.2) (Int.ofNat at_) (Int.ofNat toX)=true from hG,jaa];simp only;rw[show S.recAt (d.1,d.2) (Int.ofNat at_) (Int.ofNat toX)=S.recAt d (Int.ofNat at_) (Int.ofNat toX) from rfl,zp8,jby hlt,qfc,hgd];by_cases c1:(qab (d.1.getD at_ S.none_)).getD 0 0=0
   ·rw[jao c1,jao c1];simp only[jaw,jad,jaa];rw[qfh];by_cases e:at_=first
    ·rw[jaj e,jaa,show at_-first=0 by omega];rfl
    ·rw[jal e,jad];rw[qv1,jan (by omega)];rfl
   ·rw[jan c1,jan c1];have hsz:szS (d.1.getD at_ S.none_::(d.1.take toX).drop (at_+1)):=by
     rw[<- hgd,<- jby hlt];exact(hs.take toX).drop at_
    have hdr:d.1.getD at_ S.none_::(d.1.take toX).drop (at_+1)=(d.1.take toX).drop at_:=by rw[<- hgd,<- jby hlt]
    cases hx:S.readR (d.1.getD at_ S.none_::(d.1.take toX).drop (at_+1)) with
    | none=>rfl
    | some x =>
     obtain⟨i1,i2,i3,_,_,_⟩:=qp4 hsz hx;have hxl:=qq9 i3;rw[hdr,jax,jba,jb1 hto] at i2;simp only[jaw,jad];rw[q92 d _ h (Int.ofNat toX) first at_ x.1 x.2 c (zw1 h5 i3) (by omega) (by omega) x.1.length LF 0 (by omega) (by unfold LF;omega),jdk];have e2:decide (at_-first=0)=decide (at_=first):=jdh.2 (by omega);rw[e2];show cond (decide (at_=first)&&qkw x.1) _ _=some (qtc d h (cond (decide (at_=first)&&qkw x.1) none _),());cases decide (at_=first)&&qkw x.1 with
     | true=>rfl
     | false =>
      rw[jad,jad,zdw d hl hs h first toX hto hft k F (at_+x.2) _ (by omega) (by omega) (by omega) (by omega) (qzp h5 i3),hdr,jcv,show at_+x.2-first=at_-first+x.2 by omega]
  ·rw[jal c0,jad];have:(d.1.take toX).drop at_=[]:=jbn (by rw[jba,jb1 hto];omega);rw[this];show _=some (qtc d h (some (c,at_-first)),());rw[qv1,jan (by omega)];rfl
theorem qy1:S.lit [0,0,0,0,0,0,0,0,0,0,0,0,0,0,0,0,0,0,0,0,0,0,0,0,0,0,0,0,0,0,0,0,0,0,0,0,0,0,0,0,0,0,0,0,0,0,0,0,0,0,0,0,0,0,0,0,0,0,0,0,0,0,0]=qae (List.replicate 63 0):=by kernel_rfl
theorem zx1(d:qac):Fz7 LF d=some (S.open_ d,()):=by
 simp only[Fz7,qx7];unfold S.open_;show cond (ieqI (S.checkDisk d) (Int.ofNat 0)) _ _=_;by_cases h0:S.checkDisk d=0
 ·obtain⟨ok,h8,h2⟩:=qhu h0;rw[qbe (show S.checkDisk d=Int.ofNat 0 from h0),jaa,jao h0,qa4];by_cases h1:d.2.length=0
  ·rw[jal (by omega),jad,jao h1];have hd2:d.2=[]:=ja4.1 h1;have hs64:=ok.sz _ (qfw (i:=0) (show 0<d.1.length by omega));obtain⟨b0,b1,b2,b3,r,hb⟩:=qr2 hs64;have hrb:rng (b0::b1::b2::b3::r):=hb▸qda _;have hb0:=hrb b0 (by simp);have hsz:(d.1.getD 0 S.none_).size=(b0::b1::b2::b3::r).length:=by rw[<- qce,hb]
   have l1:lchk (Int.ofNat 1) (Int.ofNat (d.1.getD 0 S.none_).size) (Int.ofNat (d.1.getD 0 S.none_).size) (Int.ofNat (d.1.getD 0 S.none_).size)=true:=by rw[hs64];rfl
   have hext:ByteArray.extract (d.1.getD 0 S.none_) 1 (Int.toNat (Int.ofNat (d.1.getD 0 S.none_).size))=qae (b1::b2::b3::r):=by
    show ByteArray.extract (d.1.getD 0 S.none_) 1 (d.1.getD 0 S.none_).size=_;rw[hsz,<- qfd (d.1.getD 0 S.none_),hb];exact qhw hrb 1
   have hr1:rng (b1::b2::b3::r):=fun x hx=>hrb x (ja7 _ hx);rw[jaw,jad];simp only[qjy (d:=S.none_) (show 1<=d.1.length by omega),hb,qbp,jaq,l1,hext,jaa];rw[show S.inI (Int.ofNat 63) (Int.ofNat 0) (Int.ofNat 64)=true from rfl,jaa];simp only[qy1,q52,qbi hr1,qbi (qfr 63)];unfold S.opened;rw[hb];simp only[jeq];by_cases q1:1<b0
   ·rw[qdj (show Int.ofNat 1<b0 from q1),jaa,jao (.inl q1)];rfl
   rw[qdv (show ¬Int.ofNat 1<b0 from q1),jad];by_cases q2:(b1::b2::b3::r)=List.replicate 63 0
   ·rw[jaj q2,jaw,jad,jan (fun hh=>hh.elim q1 (fun hh=>hh q2)),jau ok.le];rw[show (true&&decide (Nat.mod d.1.length 2=0))=true from jaj h2,jaa,wrap_in (n:=b0) (by omega)];simp only;obtain⟨a,e1,e2,e3,_,_⟩:=qhx h2 h8 (h:=b0) (by omega);unfold S.halfS;rw[e1];simp only[jch];refine(zdw d ok.le ok.sz b0 a (a+(d.1.length / 2-1)) (by omega) (by omega) (d.1.length+1) LF a [] (by omega) (by have:=ok.le;unfold LF;omega) (jas _) (by omega) ⟨rfl,fun c hc=>by cases hc⟩).trans ?_;rw[jdz];cases S.recs (d.1.length+1) ((d.1.take (a+(d.1.length / 2-1))).drop a) [] 0 with
    | none=>rfl
    | some x =>
     obtain⟨c,u⟩:=x;rw[qv1];simp only;by_cases hu:u=0
     ·rw[jao hu,jao hu]
     ·rw[jan hu,jan hu,<- hd2]
   ·rw[jal q2,jat,jaa,jao (.inr q2)];rfl
  ·rw[jaj (by omega),jaa,jan h1];rfl
 ·rw[qbb (show ¬S.checkDisk d=Int.ofNat 0 from h0),jad,jan h0];rw[jat,jaa];rfl
theorem q8w:Con Tryz.prog idz7 spz7:=mkz7 ⟨q45,qwa,q0z,zjt,znr,trivial⟩ fun x y hx h=>⟨LF,(zx1 x.1).trans h⟩
theorem q12{d:qac}(h:S.checkDisk d=0):Dk d.1:=by
 obtain⟨ok,h8,h2⟩:=qhu h;exact⟨ok.sz,h8,ok.le,h2⟩
theorem Jn.opened_{L:List ByteArray}{h:Int}{a u:Nat}{c:List qaa}(j:Jn L h a u c):S.open_ (L,[])=(((L,[]),h,(u:Int),c),0):=by
 unfold S.open_;rw[jao j.dk.check,jao (show (L,([]:List DPut)).2.length=0 from rfl)]
 show (match S.opened L with
  | some (h,u,c)=>(((L,([]:List DPut)),h,(u:Int),c),(0:Int))
  | none=>(S.noJ,15))=_
 rw[j.open_]
theorem q91{d:qac}(h:(S.open_ d).2=0):∃hf a u c,Jn d.1 hf a u c/\d.2=[]/\S.open_ d=(((d.1,[]),hf,(u:Int),c),0):=by
 unfold S.open_ at h ⊢;by_cases h0:S.checkDisk d=0
 ·rw[jao h0] at h ⊢;by_cases h1:d.2.length=0
  ·rw[jao h1] at h ⊢;cases ho:S.opened d.1 with
   | none=>rw[ho] at h;cases h
   | some x =>
    obtain⟨hf,u,c⟩:=x;obtain⟨a,j⟩:=zh3 (q12 h0) ho;exact⟨hf,a,u,c,j,ja4.1 h1,rfl⟩
  ·rw[jan h1] at h;cases h
 ·rw[jan h0] at h;exact absurd h h0
theorem qvg{j:qad}(h:S.right j=true):∃a u,Jn j.1.1 j.2.1 a u j.2.2.2/\j.1.2=[]/\j.2.2.1=((u:Nat):Int):=by
 unfold S.right at h;rw[jae] at h;obtain⟨hf,a,u,c,k,h1,h2⟩:=q91 (jbd h.1);have h3:=jbd h.2;rw[h2] at h3;obtain⟨⟨l,q⟩,hh,uu,cc⟩:=j;cases h3;exact⟨a,u,k,rfl,rfl⟩
theorem Jn.right{L:List ByteArray}{h:Int}{a u:Nat}{c:List qaa}(j:Jn L h a u c):S.right ((L,[]),h,(u:Int),c)=true:=by
 unfold S.right;rw[jae];show decide ((S.open_ (L,[])).2=0)=true/\decide ((S.open_ (L,[])).1=_)=true;rw[j.opened_];exact⟨jaj rfl,jaj rfl⟩
theorem qf8{l:List qaa}(h:S.okC l=true):S.pk l=true:=by
 unfold S.pk;rw[h,jau (by have:=qq9 h;omega)];rfl
theorem zhi(l:List qaa)(m m':Int):(S.packed l m).drop 1=(S.packed l m').drop 1:=by
 have e:∀x:Int,S.packed l x=qae ((S.recB l x).take 64++List.replicate (64-(S.recB l x).length) 0)::S.chunks ((S.body l).length+3) ((S.recB l x).drop 64):=fun x=>qfu ((S.body l).length+3) (b:=S.recB l x) (by rw[qei];omega);rw[e m,e m'];rfl
theorem qvt(l:List qaa)(m:Int):S.packed l m=(S.packed l m).getD 0 S.none_::(S.packed l 1).drop 1:=by
 have hp:=qel l m;rw[<- zhi l m 1];cases h:S.packed l m with
 | nil=>rw[h] at hp;cases hp
 | cons s r=>rfl
theorem qh1(l:List qaa)(m:Int):szS (S.packed l m):=q4s _ _
theorem q7m:S.blank.size=64:=by kernel_rfl
theorem q93:(qab S.blank).getD 0 0=0:=by kernel_rfl
theorem z12{L:List ByteArray}{a:Nat}{x y:ByteArray}{r:List ByteArray}(h:a+(r.length+1)<=L.length):over (over L a (x::r)) a [y]=over L a (y::r):=by
 have h':a+(x::r).length<=L.length:=h;have h1:=zeu h';have h2:=qog h';show (over L a (x::r)).take a++([y]++(over L a (x::r)).drop (a+1))=L.take a++((y::r)++L.drop (a+(r.length+1)));rw[h1,<- jcv,h2];rfl
theorem zse(X:List ByteArray)(t:ByteArray):∀{b:Nat},1<=b->(over X 0 [t]).drop b=X.drop b
 | 0,h=>by omega
 | b+1,_=>by
  show (t::X.drop (0+1)).drop (b+1)=_;rw[List.drop_succ_cons,jcv,show 0+1+b=b+1 by omega]
theorem Dk.over{L:List ByteArray}(d:Dk L){a:Nat}{ss:List ByteArray}(h:a+ss.length<=L.length)(hs:szS ss):Dk (over L a ss):=by
 refine⟨zpf d.sz hs,?_,?_,?_⟩<;>rw[qga h]
 ·exact d.ge
 ·exact d.le
 ·exact d.ev
theorem q6p{L:List ByteArray}{a:Nat}{l:List qaa}{tail:List ByteArray}{r:List DAct}(ht:szS tail)(h:a+((S.packed l 1).length+tail.length)<=L.length)(hL:L.length<=1000) :
  S.doGo (S.puts (a:Int) (S.packed l 0++tail)++(S.sync::S.put (a:Int) ((S.packed l 1).getD 0 S.none_)::S.sync::r)) L []=S.doGo r (over L a (S.packed l 1++tail)) []:=by
 have e1:(S.packed l 0).length=(S.packed l 1).length:=by rw[qc5,qc5]
 have hp:=qel l 1;have h':a+(S.packed l 0++tail).length<=L.length:=by rw[jah,e1];exact h
 have hs:szS (S.packed l 0++tail):=fun s hs=>(jbv.1 hs).elim (qh1 l 0 s) (ht s);have hol:(over L a (S.packed l 0++tail)).length=L.length:=qga h';rw[qw7 _ _ _ _ _ hs h' (by rw[ja0];omega),jc0,qo8,qlo _ _ _ h',qzy (qh1 l 1 _ (qfw (by omega))) (by omega) (by rw[ja0];omega),qo8];have:S.settled (over L a (S.packed l 0++tail)) ([]++[(((a:Nat):Int),(S.packed l 1).getD 0 S.none_)])=over L a (S.packed l 1++tail):=by
  refine(qlo [(S.packed l 1).getD 0 S.none_] a _ (by rw[hol];simp only[jar,ja0];omega)).trans ?_;have hlen:a+(((S.packed l 1).drop 1++tail).length+1)<=L.length:=by rw[jah,jax];omega
  have s1:=qvt l 1;rw[qvt l 0,jc9];refine(z12 hlen).trans (jav (over L a) ?_);rw[<- jc9,<- s1]
 rw[this]
def qe0(b:Bool):List ByteArray:=cond b [S.blank] []
theorem q4e(b:Bool):szS (qe0 b):=fun s h=>by
 cases b with
 | true=>rw[jcj.1 h];exact q7m
 | false=>cases h
theorem zxg(l:List qaa)(a:Nat)(e:Int)(b:Bool):S.laid l (a:Int) e b=S.puts (a:Int) (S.packed l 0++qe0 (b&&decide ((a:Int)+(S.packed l 1).length<e)))++[S.sync,S.put (a:Int) ((S.packed l 1).getD 0 S.none_),S.sync]:=by
 have e1:(S.packed l 0).length=(S.packed l 1).length:=by rw[qc5,qc5]
 unfold S.laid;rw[qwe,e1,jaz];cases (b&&decide ((a:Int)+(S.packed l 1).length<e))<;>rfl
theorem q5l{j:qad}{l:List qaa}(h:¬S.roomOf j<(S.packed l 1).length):S.commit j l=some (S.laid l ((S.half j.1.1.length j.2.1).1+j.2.2.1) (S.half j.1.1.length j.2.1).2 true):=by
 unfold S.commit S.laid;rw[jan h,jbt,jaz]
theorem q9t{L:List ByteArray}{h:Int}{a u:Nat}{c:List qaa}(j:Jn L h a u c):S.roomOf ((L,[]),h,(u:Int),c)=((L.length / 2-1-u:Nat):Int):=by
 have:=j.le.1;unfold S.roomOf;show (S.half L.length h).2-(S.half L.length h).1-(u:Int)=_;rw[j.fr];show ((a+(L.length / 2-1):Nat):Int)-(a:Int)-(u:Int)=_;omega
def comL(L:List ByteArray)(a u:Nat)(l:List qaa):List ByteArray:=over L (a+u) (S.packed l 1++qe0 (decide (u+(S.packed l 1).length<L.length / 2-1)))
theorem q2l{L:List ByteArray}{h:Int}{a u:Nat}{c l:List qaa}(j:Jn L h a u c)(hl:S.okC l=true)(hr:u+(S.packed l 1).length<=L.length / 2-1) :
  S.commit ((L,[]),h,(u:Int),c) l=some (S.laid l ((a+u:Nat):Int) ((a+(L.length / 2-1):Nat):Int) true) /\
  S.doD (L,[]) (S.laid l ((a+u:Nat):Int) ((a+(L.length / 2-1):Nat):Int) true)=((comL L a u l,[]),0) /\
  Jn (comL L a u l) h a (u+(S.packed l 1).length) (S.changed c l)/\(comL L a u l).length=L.length:=by
 have hto:=j.to_;have hle:=j.dk.le;have hb:=qmo (qf8 hl);have hd:decide (((a+u:Nat):Int)+(S.packed l 1).length<((a+(L.length / 2-1):Nat):Int))=decide (u+(S.packed l 1).length<L.length / 2-1):=jdh.2 (by omega);have htl:(qe0 (decide (u+(S.packed l 1).length<L.length / 2-1))).length=if u+(S.packed l 1).length<L.length / 2-1 then 1 else 0:=by
  by_cases e:u+(S.packed l 1).length<L.length / 2-1
  ·rw[jao e,jaj e];rfl
  ·rw[jan e,jal e];rfl
 have hfit:a+u+((S.packed l 1).length+(qe0 (decide (u+(S.packed l 1).length<L.length / 2-1))).length)<=L.length:=by
  rw[htl];split<;>omega
 have hfit':a+u+(S.packed l 1++qe0 (decide (u+(S.packed l 1).length<L.length / 2-1))).length<=L.length:=by rw[jah];exact hfit
 have hsz:szS (S.packed l 1++qe0 (decide (u+(S.packed l 1).length<L.length / 2-1))):=fun s hs=>(jbv.1 hs).elim (qh1 l 1 s) (q4e _ s);refine⟨?_,?_,?_,qga hfit'⟩
 ·rw[q5l (by rw[q9t j];omega)];show some (S.laid l ((S.half L.length h).1+(u:Int)) (S.half L.length h).2 true)=_;rw[j.fr];rfl
 ·unfold S.doD;rw[jao j.dk.check,zxg,jbt,hd];exact(q6p (r:=[]) (q4e _) hfit hle).trans (q04 _ _)
 ·refine j.more (j.dk.over hfit' hsz) (qga hfit') (zeu hfit') hl (by omega) hr (rest:=qe0 (decide (u+(S.packed l 1).length<L.length / 2-1))++L.drop (a+u+(S.packed l 1++qe0 (decide (u+(S.packed l 1).length<L.length / 2-1))).length)) ?_ ?_
  ·show (over L (a+u) _).drop (a+u)=_;rw[qog hfit',jaz]
  ·by_cases e:u+(S.packed l 1).length<L.length / 2-1
   ·right;rw[jaj e];exact q93
   ·left;omega
theorem q6i:∀{c:List qaa} {last:Int},okS c last->S.changed [] c=c
 | [],_,_=>rfl
 | x::c,last,h=>by
  have hx:=h.2 x (by simp);have h5:=(qbq.1 h.1).2.2.2.2;rw[zen h.1,hx,jad,q6i (c:=c) ⟨h5,fun y hy=>h.2 y (by simp[hy])⟩]
theorem zbx{j:qad}(h:¬(S.half j.1.1.length (1-j.2.1)).2-(S.half j.1.1.length (1-j.2.1)).1<(S.packed j.2.2.2 1).length):S.turn j=some (S.puts (S.half j.1.1.length (1-j.2.1)).1 (List.replicate ((S.half j.1.1.length (1-j.2.1)).2-(S.half j.1.1.length (1-j.2.1)).1).toNat S.blank)++[S.sync]++S.puts (S.half j.1.1.length (1-j.2.1)).1 (S.packed j.2.2.2 0) ++
  [S.sync,S.put (S.half j.1.1.length (1-j.2.1)).1 ((S.packed j.2.2.2 1).getD 0 S.none_),S.sync,S.put 0 (qae ((1-j.2.1)::List.replicate 63 0)),S.sync]):=by
 unfold S.turn;rw[jan h]
def topS(h:Int):ByteArray:=qae (h::List.replicate 63 0)
def turL(L:List ByteArray)(h:Int)(b:Nat)(c:List qaa):List ByteArray:=over (over (over L b (List.replicate (L.length / 2-1) S.blank)) b (S.packed c 1)) 0 [topS h]
def turA(L:List ByteArray)(h:Int)(b:Nat)(c:List qaa):List DAct:=S.puts (b:Int) (List.replicate (L.length / 2-1) S.blank)++[S.sync]++S.puts (b:Int) (S.packed c 0)++[S.sync,S.put (b:Int) ((S.packed c 1).getD 0 S.none_),S.sync,S.put 0 (topS h),S.sync]
theorem zac{h:Int}:(topS h).size=64:=by
 unfold topS;rw[qa1,jar,ja9]
theorem zql{h:Int}(hh:h=0\/h=1):qab (topS h)=topB h:=qbi fun x hx=>by
 rcases ja1.1 hx with rfl|hx
 ·omega
 ·exact qfr 63 x hx
theorem zly{L:List ByteArray}{h:Int}{a u:Nat}{c:List qaa}(j:Jn L h a u c)(hr:(S.packed c 1).length<=L.length / 2-1):∃b:Nat,S.half L.length (1-h)=((b:Int),((b+(L.length / 2-1):Nat):Int)) /\
  S.turn ((L,[]),h,(u:Int),c)=some (turA L (1-h) b c)/\S.doD (L,[]) (turA L (1-h) b c)=((turL L (1-h) b c,[]),0)/\Jn (turL L (1-h) b c) (1-h) b (S.packed c 1).length c/\(turL L (1-h) b c).length=L.length:=by
 have hh:=j.hh;have hle:=j.dk.le;have hge:=j.dk.ge;have hok:=j.le.2.1;have hb:=qmo (qf8 hok.1);obtain⟨b,e1,e2,e3,_,_⟩:=qhx j.dk.ev hge (h:=1-h) (by omega);have hK:(List.replicate (L.length / 2-1) S.blank).length=L.length / 2-1:=ja9;have hf1:b+(List.replicate (L.length / 2-1) S.blank).length<=L.length:=by rw[hK];omega
 have hs1:szS (List.replicate (L.length / 2-1) S.blank):=fun s hs=>by rw[(jeu.1 hs).2];exact q7m
 have d1:=j.dk.over hf1 hs1;have l1:(over L b (List.replicate (L.length / 2-1) S.blank)).length=L.length:=qga hf1;have hf2:b+(S.packed c 1).length<=(over L b (List.replicate (L.length / 2-1) S.blank)).length:=by rw[l1];omega
 have d2:=d1.over hf2 (qh1 c 1);have l2:=(qga hf2).trans l1;have hf3:0+[topS (1-h)].length<=(over (over L b (List.replicate (L.length / 2-1) S.blank)) b (S.packed c 1)).length:=by rw[l2];show 0+1<=_;omega
 have hs3:szS [topS (1-h)]:=fun s hs=>by rw[jcj.1 hs];exact zac
 have d3:=d2.over hf3 hs3;have l3:(turL L (1-h) b c).length=L.length:=(qga hf3).trans l2;have hmem:(S.packed c 1).getD 0 S.none_∈S.packed c 1:=qfw (qel c 1);refine⟨b,e1,?_,?_,?_,l3⟩
 ·rw[zbx]
  ·show some (S.puts (S.half L.length (1-h)).1 (List.replicate ((S.half L.length (1-h)).2-(S.half L.length (1-h)).1).toNat S.blank)++[S.sync]++S.puts (S.half L.length (1-h)).1 (S.packed c 0)++_)=_;rw[e1];have:(((b+(L.length / 2-1):Nat):Int)-(b:Int)).toNat=L.length / 2-1:=by omega
   simp only[this];rfl
  ·show ¬(S.half L.length (1-h)).2-(S.half L.length (1-h)).1<_;rw[e1];show ¬((b+(L.length / 2-1):Nat):Int)-(b:Int)<((S.packed c 1).length:Int);omega
 ·unfold S.doD;rw[jao j.dk.check];show S.doGo (turA L (1-h) b c) L []=_;unfold turA;rw[jaz,jaz,qw7 _ _ _ _ _ hs1 hf1 (by rw[ja0,hK];omega),jc0];show S.doGo (S.sync::_) _ _=_;rw[qo8,qlo _ _ _ hf1];have:=q6p (L:=over L b (List.replicate (L.length / 2-1) S.blank)) (a:=b) (l:=c) (tail:=[]) (r:=[S.put ((0:Nat):Int) (topS (1-h)),S.sync]) (fun s hs=>by cases hs) (by rw[l1,ja0];omega) (by rw[l1];exact hle);rw[jbo,jbo] at this;refine this.trans ?_;rw[qzy zac (by rw[l2];omega) (by rw[ja0];omega),qo8,q04];refine jav (fun z=>((z,[]),0)) ?_;exact qlo [topS (1-h)] 0 _ hf3
 ·have hh':1-h=0\/1-h=1:=by omega
  have htop:(turL L (1-h) b c).getD 0 S.none_=topS (1-h):=rfl;refine⟨d3,hh',by rw[htop];exact zql hh',by rw[l3];exact e1,e2,by rw[l3];exact e3,⟨2,?_⟩,qel c 1⟩;rw[l3];have hdr:(turL L (1-h) b c).drop b=S.packed c 1++(over L b (List.replicate (L.length / 2-1) S.blank)).drop (b+(S.packed c 1).length):=by
   rw[<- qog hf2];show (over _ 0 [topS (1-h)]).drop b=_;exact zse _ _ e2
  rw[hdr,List.take_append,jbm hr,q7r 1 c _ [] 0 hok.1 (by omega)];have hng:c.any (·.2.2)=false:=jc5.2 fun x hx=>by rw[hok.2 x hx];decide
  rw[hng,jfk,jad,q6i hok,jbp];have hrest:((over L b (List.replicate (L.length / 2-1) S.blank)).drop (b+(S.packed c 1).length)).take (L.length / 2-1-(S.packed c 1).length)=List.replicate (L.length / 2-1-(S.packed c 1).length) S.blank:=by
   rw[<- jcv,qog hf1,jd7 (by rw[hK];exact hr),List.drop_replicate,jd6 (by rw[ja9];exact jas _),jbm (by rw[ja9];exact jas _)]
  rw[hrest];cases L.length / 2-1-(S.packed c 1).length with
  | zero=>rfl
  | succ n=>rw[jfd,qfc,jao q93]
theorem zek(a b:qaa):(keqI a.1 b.1&&(keqS a.2.1 b.2.1&&(keqB a.2.2 b.2.2&&true)))=decide (a=b):=by
 obtain⟨a1,a2,a3⟩:=a;obtain⟨b1,b2,b3⟩:=b;rw[jcp];simp[keqI,keqS,keqB]
theorem zl1(a b:DPut):(keqI a.1 b.1&&(keqS a.2 b.2&&true))=decide (a=b):=by
 obtain⟨a1,a2⟩:=a;obtain⟨b1,b2⟩:=b;rw[jcp];simp[keqI,keqS]
theorem zsb(a b:DAct):(keqB a.1 b.1&&((keqI a.2.1 b.2.1&&(keqS a.2.2 b.2.2&&true))&&true))=decide (a=b):=by
 obtain⟨a1,a2,a3⟩:=a;obtain⟨b1,b2,b3⟩:=b;rw[jcp];simp[keqI,keqS,keqB]
theorem qj4{α R:Type}[DecidableEq α]{T:(Int->Option R)->Int->Option R}(a b:List α)(hl:a.length=b.length)(ha:a.length<LF)(Y N:Option R)
  (h0:∀K,T K (Int.ofNat a.length)=Y)
  (h1:∀K i v w,iltI (Int.ofNat i) (Int.ofNat a.length)=true->jget a (Int.ofNat i)=some v->jget b (Int.ofNat i)=some w->IntKind.i64.wrap (Int.add (Int.ofNat i) (Int.ofNat 1))=Int.ofNat (i+1)->T K (Int.ofNat i)=cond (decide (v=w)) (K (Int.ofNat (i+1))) N) :
  qav T LF (Int.ofNat 0)=cond (decide (a=b)) Y N:=by
 refine(qhn (T:=T) a (fun rest i=>cond (decide (rest=b.drop i)) Y N) ha (fun K=>?_) (fun K i v rest r h=>?_)).trans ?_
 ·rw[h0,hl,jbn (jas _)];rfl
 ·have hi:=r.lt;obtain⟨w,w1,w2⟩:∃w,b[i]?=some w/\b.drop i=w::b.drop (i+1):=⟨b[i],jac (by omega),jby (by omega)⟩;rw[h1 K i v w r.ilt r.get (by rw[qbp];exact w1) r.next,h,w2];by_cases e:v=w
  ·rw[jaj e,jaa];have:decide (rest=b.drop (i+1))=decide (v::rest=w::b.drop (i+1)):=jdh.2 (by rw[e];simp);rw[this]
  ·rw[jal e,jad,jal (fun h=>e (List.cons.inj h).1),jad]
 ·rfl
theorem zqw(a b:List qaa)(ha:a.length<LF):Fz25 LF a b=some (S.sameC a b,()):=by
 simp only[Fz25,qw6];unfold S.sameC;by_cases e:a.length=b.length
 ·rw[qbe (show Int.ofNat a.length=Int.ofNat b.length from jav Int.ofNat e),jaw,jad];refine(qj4 a b e ha (some (true,())) (some (false,())) (fun K=>?_) (fun K i v w h1 h2 h3 h4=>?_)).trans ?_
  ·simp only[qqp,qbt,jad]
  ·simp only[qqp,h1,h2,h3,h4,jaa,zek];cases decide (v=w)<;>rfl
  ·cases decide (a=b)<;>rfl
 ·rw[qbb (show ¬Int.ofNat a.length=Int.ofNat b.length from fun h=>e (jdg h)),jat,jaa,jal (fun h=>e (jav List.length h))]
theorem zy6:Con Tryz.prog zvi zdv:=zls trivial fun x y hx h=>⟨LF,(zqw x.1 x.2.1 (qb1 (c:=cCell) hx.1)).trans h⟩
theorem zt6(a b:List DAct)(ha:a.length<LF):Fz27 LF a b=some (S.sameA a b,()):=by
 simp only[Fz27,qz3];unfold S.sameA;by_cases e:a.length=b.length
 ·rw[qbe (show Int.ofNat a.length=Int.ofNat b.length from jav Int.ofNat e),jaw,jad];refine(qj4 a b e ha (some (true,())) (some (false,())) (fun K=>?_) (fun K i v w h1 h2 h3 h4=>?_)).trans ?_
  ·simp only[qp3,qbt,jad]
  ·simp only[qp3,h1,h2,h3,h4,jaa,zsb];cases decide (v=w)<;>rfl
  ·cases decide (a=b)<;>rfl
 ·rw[qbb (show ¬Int.ofNat a.length=Int.ofNat b.length from fun h=>e (jdg h)),jat,jaa,jal (fun h=>e (jav List.length h))]
theorem zf9:Con Tryz.prog znq zbh:=zp3 trivial fun x y hx h=>⟨LF,(zt6 x.1 x.2.1 (qb1 (c:=cAct) hx.1)).trans h⟩
theorem zxi(a b:qac)(ha:a.1.length<LF)(ha2:a.2.length<LF):Fz26 LF a b=some (S.sameD a b,()):=by
 simp only[Fz26,qxd];unfold S.sameD;by_cases e:a.1.length=b.1.length
 ·rw[qbe (show Int.ofNat a.1.length=Int.ofNat b.1.length from jav Int.ofNat e),jaw,jad];by_cases e2:a.2.length=b.2.length
  ·rw[qbe (show Int.ofNat a.2.length=Int.ofNat b.2.length from jav Int.ofNat e2),jaw,jad];have g9:qk8 LF a b LF (Int.ofNat 0)=cond (decide (a.2=b.2)) (some (true,())) (some (false,())):=by
    refine qj4 a.2 b.2 e2 ha2 (some (true,())) (some (false,())) (fun K=>?_) (fun K i v w h1 h2 h3 h4=>?_)
    ·simp only[qqr,qbt,jad]
    ·simp only[qqr,h1,h2,h3,h4,jaa,zl1];cases decide (v=w)<;>rfl
   refine(qj4 a.1 b.1 e ha (cond (decide (a.2=b.2)) (some (true,())) (some (false,()))) (some (false,())) (fun K=>?_) (fun K i v w h1 h2 h3 h4=>?_)).trans ?_
   ·simp only[qn2,qbt,jad,g9]
   ·simp only[qn2,h1,h2,h3,h4,jaa,keqS];cases decide (v=w)<;>rfl
   ·have:decide (a=b)=(decide (a.1=b.1)&&decide (a.2=b.2)):=by
     rw[jcp];obtain⟨a1,a2⟩:=a;obtain⟨b1,b2⟩:=b;simp
    rw[this];cases decide (a.1=b.1)<;>cases decide (a.2=b.2)<;>rfl
  ·rw[qbb (show ¬Int.ofNat a.2.length=Int.ofNat b.2.length from fun h=>e2 (jdg h)),jat,jaa,jal (fun h=>e2 (jav (fun z:qac=>z.2.length) h))]
 ·rw[qbb (show ¬Int.ofNat a.1.length=Int.ofNat b.1.length from fun h=>e (jdg h)),jat,jaa,jal (fun h=>e (jav (fun z:qac=>z.1.length) h))]
theorem zu6:Con Tryz.prog zjk q23:=zvw trivial fun x y hx h=>⟨LF,(zxi x.1 x.2.1 (qb1 (c:=.str) hx.1.1) (qb1 (c:=cPut) hx.1.2)).trans h⟩
theorem zqy(lf:Nat)(a b:qad):qsu lf a b=some (S.sameJ a b,()):=by
 simp only[qsu,q18,qcf];obtain⟨d,h,u,c⟩:=a;obtain⟨d',h',u',c'⟩:=b;show cond (decide (h=h')) (cond (decide (u=u')) (cond (decide (d=d')) (some (decide (c=c'),())) _) _) _=some (decide ((d,h,u,c)=(d',h',u',c')),());by_cases e1:h=h'
 ·by_cases e2:u=u'
  ·by_cases e3:d=d'
   ·subst e1 e2 e3;rw[jaj rfl,jaj rfl,jaj rfl];have:decide (c=c')=decide ((d,h,u,c)=(d,h,u,c')):=jdh.2 (by simp);rw[<- this];rfl
   ·rw[jal e3,jaj e1,jaj e2,jal (fun q=>e3 (jav (fun z:qad=>z.1) q))];rfl
  ·rw[jal e2,jaj e1,jal (fun q=>e2 (jav (fun z:qad=>z.2.2.1) q))];rfl
 ·rw[jal e1,jal (fun q=>e1 (jav (fun z:qad=>z.2.1) q))];rfl
theorem za1:Con Tryz.prog zyl qvz:=zj8 ⟨zu6,zy6,trivial⟩ fun x y hx h=>⟨0,(zqy 0 x.1 x.2.1).trans h⟩
theorem zub(lf:Nat)(j:qad):qtw lf j=some (S.right j,()):=by
 simp only[qtw,q2f];unfold S.right;show cond (ieqI (S.open_ j.1).2 _) (some (S.sameJ (S.open_ j.1).1 j,())) _=_;rw[qcf];by_cases e:(S.open_ j.1).2=0
 ·rw[jaj e,jaj (show _=Int.ofNat 0 from e),jaa,jbt];rfl
 ·rw[jal e,jal (show ¬_=Int.ofNat 0 from e),jad,jcb]
theorem qwq:Con Tryz.prog zxn qn5:=zm6 ⟨q8w,za1,trivial⟩ fun x y hx h=>⟨0,(zub 0 x.1).trans h⟩
def qbr(l:List qaa)(i:Nat):Int:=if i=0 then -1 else ((l.getD (i-1) (0,S.none_,false)).1)
theorem qrz{R:Type}{l:List qaa}{i:Nat}{k:Int}(hk:0<=k)(hi:i<=l.length)(hl:l.length<1000000)(N T:Option R) :
  cond (iltI (Int.ofNat 0) (Int.ofNat i)) (match jget l (IntKind.i64.wrap (Int.sub (Int.ofNat i) (Int.ofNat 1))) with
   | none=>none
   | some v=>cond (!iltI v.1 k) N T) T=cond (decide (qbr l i<k)) T N:=by
 unfold qbr;cases i with
 | zero =>
  rw[jao rfl,jaj (show (-1:Int)<k by omega)];rfl
 | succ i =>
  rw[jan (by omega),qa4,jaj (by omega),jaa];have e:IntKind.i64.wrap (Int.sub (Int.ofNat (i+1)) (Int.ofNat 1))=Int.ofNat i:=by
   have:Int.sub (Int.ofNat (i+1)) (Int.ofNat 1)=Int.ofNat i:=by
    show ((i+1:Nat):Int)-1=(i:Int);omega
   rw[this];exact qa2 (by omega)
  rw[e,qj2 (i:=Int.ofNat i) (d:=(0,S.none_,false)) (jbe _) (by show (i:Int)<(l.length:Int);omega)];show cond (!iltI (l.getD i (0,S.none_,false)).1 k) N T=cond (decide ((l.getD i (0,S.none_,false)).1<k)) T N;rw[qbu];cases decide ((l.getD i (0,S.none_,false)).1<k)<;>rfl
theorem q98{l:List qaa}{i:Nat}{v:qaa}(h:l[i]?=some v):qbr l (i+1)=v.1:=by
 unfold qbr;rw[jan (by omega),jai,Nat.add_sub_cancel,h];rfl
theorem q2k(s:ByteArray):keqS s (S.lit [])=decide (s.size=0):=by
 unfold keqS;exact jdh.2 qtl.symm
theorem ztr(l:List qaa):Fz28 LF l=some ((S.size l).1,(S.size l).2,()):=by
 simp only[Fz28,qyt];unfold S.size;rw[qa4,qfh];by_cases h1:60<l.length
 ·rw[jaj h1,jaa,jao h1];rfl
 rw[jal h1,jad,jan h1];by_cases h2:l.length=0
 ·rw[jaj h2,jaa,jao h2];rfl
 rw[jal h2,jad,jan h2];have hfin:∀b:Bool,b=S.okC l->(cond b (some (((S.packed l 1).length:Int),(0:Int),())) (some ((0:Int),(1:Int),())))=some ((cond (S.okC l) (((S.packed l 1).length:Int),(0:Int)) ((0:Int),(1:Int))).1,(cond (S.okC l) (((S.packed l 1).length:Int),(0:Int)) ((0:Int),(1:Int))).2,()):=fun b hb=>by
  subst hb;cases S.okC l<;>rfl
 refine(range0 (σ:=Unit) (R:=qc3) (T:=fun K p=>qkl LF l K p) l (fun i _=>i) (fun i _=>S.okGo (l.drop i) (qbr l i)=S.okC l\/S.okC l=S.okGo (l.drop i) (qbr l i)) (fun rest i _=>cond (S.okGo rest (qbr l i)) (some (((S.packed l 1).length:Int),(0:Int),())) (some ((0:Int),(1:Int),()))) (by unfold LF;omega) (fun K s hs=>?_) (fun K i v rest s hs r hk=>?_) () (.inl rfl)).trans (hfin _ rfl)
 ·rw[jbn (jas _)] at hs;have hok:S.okC l=true:=hs.elim (fun h=>h.symm) id;simp only[qkl,qbt,jad];rw[qwk (qf8 hok) (m:=Int.ofNat 1) ⟨by decide,by decide⟩,jaa];rfl
 ·have hd:=r.drop;have hi:=r.lt;have hgi:l[i]?=some v:=by
   have:=r.get
   rwa [qbp] at this
  have hst:S.okGo (v::rest) (qbr l i)=(S.inI v.1 0 199&&(decide (v.2.1.size<=4000)&&(!(v.2.2&&!decide (v.2.1.size=0))&&(decide (qbr l i<v.1)&&S.okGo rest v.1)))):=rfl;have hs':S.okC l=S.okGo (v::rest) (qbr l i):=by rw[hd] at hs;exact hs.elim (fun h=>h.symm) id
  have hnext:qbr l (i+1)=v.1:=q98 hgi;rw[hnext] at hk;simp only[qkl,r.ilt,r.get,r.next,jaa];rw[hst];by_cases c1:S.inI v.1 0 199=true
  ·rw[show S.inI v.1 (Int.ofNat 0) (Int.ofNat 199)=true from c1,jaw,jad,c1,jbt,qa4];by_cases c2:v.2.1.size<=4000
   ·rw[jal (show ¬4000<v.2.1.size by omega),jad,jaj c2,jbt,q2k];have hv0:0<=v.1:=(qay.1 c1).1;have hfinal:cond (decide (qbr l i<v.1)) (K (Int.ofNat (i+1))) (some (Int.ofNat 0,Int.ofNat 1,()))=cond (decide (qbr l i<v.1)&&S.okGo rest v.1) (some (((S.packed l 1).length:Int),(0:Int),())) (some ((0:Int),(1:Int),()))\/¬(v.2.2&&!decide (v.2.1.size=0))=false:=by
     by_cases cg:(v.2.2&&!decide (v.2.1.size=0))=false
     ·left;by_cases c4:qbr l i<v.1
      ·rw[jaj c4,jaa,jbt];refine hk () ?_;rw[r.tail];left;rw[hs',hst,c1,jaj c2,cg,jaj c4];rfl
      ·rw[jal c4,jad,jcb,jad];rfl
     ·exact .inr cg
    cases hg:v.2.2 with
    | true =>
     rw[jaa,jbt];by_cases c3:v.2.1.size=0
     ·rw[jaj c3,jaw,jad,jat,jbt];refine(qrz (l:=l) hv0 (by omega) (by omega) _ _).trans ?_;refine hfinal.resolve_right ?_;rw[jaj c3,jaw,jfk];decide
     ·rw[jal c3,jat,jaa,jaw,jcb,jad];rfl
    | false =>
     rw[jad,jcb,jat,jbt];refine(qrz (l:=l) hv0 (by omega) (by omega) _ _).trans ?_;refine hfinal.resolve_right ?_;rw[hg,jcb];decide
   ·rw[jaj (show 4000<v.2.1.size by omega),jaa,jal c2,jcb,jad];rfl
  ·have c1:=jca.2 c1;rw[show S.inI v.1 (Int.ofNat 0) (Int.ofNat 199)=false from c1,jat,jaa,c1,jcb,jad];rfl
theorem zd8:Con Tryz.prog znl qu7:=zn4 ⟨qqk,q0w,trivial⟩ fun x y hx h=>⟨LF,(ztr x.1).trans h⟩
theorem zvg(j:qad)(k:Int)(hl:j.2.2.2.length<LF):Fz29 LF j k=some ((S.value j k).1,(S.value j k).2.1,(S.value j k).2.2,()):=by
 simp only[Fz29,qzq];unfold S.value;show cond (!S.right j) _ (cond (!S.inI k 0 199) _ _)=_;by_cases h1:S.right j=true
 ·rw[h1,jaw,jad];by_cases h2:S.inI k 0 199=true
  ·rw[h2,jaw,jad,jao ⟨rfl,rfl⟩]
   refine(qhn (T:=fun K p=>qnn LF j k K p) j.2.2.2 (fun rest _=>some ((match rest.find? (fun c=>decide (c.1=k)) with
    | some c=>(c.2.1,true,0)
    | none=>(S.none_,false,0):ByteArray × Bool × Int).1,(match rest.find? (fun c=>decide (c.1=k)) with
    | some c=>(c.2.1,true,0)
    | none=>(S.none_,false,0):ByteArray × Bool × Int).2.1,(match rest.find? (fun c=>decide (c.1=k)) with
    | some c=>(c.2.1,true,0)
    | none=>(S.none_,false,0):ByteArray × Bool × Int).2.2,())) hl (fun K=>?_) (fun K i v rest r h=>?_)).trans rfl
   ·simp only[qnn,qbt,jad];rfl
   ·simp only[qnn,r.ilt,r.get,r.next,jaa,qcf];rw[List.find?_cons];by_cases e:v.1=k
    ·rw[jaj e];rfl
    ·rw[jal e,jad,h]
  ·rw[jca.2 h2,jat,jaa,jan (fun h=>by cases h.2)];rfl
 ·rw[jca.2 h1,jat,jaa,jan (fun h=>by cases h.1)];rfl
theorem zyy:Con Tryz.prog zrf q1y:=zow ⟨qwq,qqk,trivial⟩ fun x y hx h=>⟨LF,(zvg x.1 x.2.1 (qb1 (c:=cCell) hx.1.2.2.2)).trans h⟩
theorem qo3{j:qad}(h:S.smallJ j=true):j.1.1.length<=1000/\j.1.1.length % 2=0/\-1000<=j.2.2.1/\j.2.2.1<=1000:=by
 unfold S.smallJ at h;rw[jae,jae,qay] at h;exact⟨jam h.1,jbd h.2.1,h.2.2.1,h.2.2.2⟩
theorem zsr(lf:Nat)(j:qad)(h:S.smallJ j=true):qqt lf j=some (S.roomR j,()):=by
 obtain⟨h1,h2,h3,h4⟩:=qo3 h;simp only[qqt,q1e];unfold S.roomR
 rw[qa2 (n:=Nat.div j.1.1.length 2) (by show j.1.1.length / 2<_;omega),
  wrap_in (n:=Int.sub (Int.ofNat (Nat.div j.1.1.length 2)) (Int.ofNat 1)) (by show -_<=((j.1.1.length / 2:Nat):Int)-1/\((j.1.1.length / 2:Nat):Int)-1<_;omega),
  wrap_in (n:=Int.sub (Int.sub (Int.ofNat (Nat.div j.1.1.length 2)) (Int.ofNat 1)) j.2.2.1) (by show -_<=((j.1.1.length / 2:Nat):Int)-1-j.2.2.1/\((j.1.1.length / 2:Nat):Int)-1-j.2.2.1<_;omega)]
 rfl
theorem zdl:Con Tryz.prog ztc qym:=zqp trivial fun x y hx h=>⟨0,by
 obtain⟨h1,h2⟩:=qa5 (show cond (S.smallJ x.1) (some (S.roomR x.1,())) none=some y from h);exact(zsr 0 x.1 h1).trans (jav some h2)⟩
structure RJ (j:qad) (a u:Nat):Prop where
 jn:Jn j.1.1 j.2.1 a u j.2.2.2
 eq:j=((j.1.1,[]),j.2.1,(u:Int),j.2.2.2)
 small:S.smallJ j=true
 room:S.roomR j=((j.1.1.length / 2-1-u:Nat):Int)
 room2:S.roomOf j=((j.1.1.length / 2-1-u:Nat):Int)
 halfG:(Nat.ble j.1.1.length 1000&&decide (j.1.1.length % 2=0))=true
 used:j.2.2.1=(u:Int)
theorem qf0{j:qad}(h:S.right j=true):∃a u,RJ j a u:=by
 obtain⟨a,u,jn,h1,h2⟩:=qvg h;have hle:=jn.dk.le;have hge:=jn.dk.ge;have hev:=jn.dk.ev;have hu:=jn.le.1;refine⟨a,u,jn,?_,?_,?_,?_,?_,h2⟩
 ·obtain⟨⟨l,q⟩,hh,uu,cc⟩:=j;simp only at h1 h2;rw[h1,h2]
 ·unfold S.smallJ;rw[jau hle,jaj hev,jbt,jbt,qay,h2];omega
 ·unfold S.roomR;rw[h2];omega
 ·have:=q9t jn;obtain⟨⟨l,q⟩,hh,uu,cc⟩:=j;simp only at h1 h2;subst h1 h2;exact this
 ·rw[jau hle,jaj hev];rfl
theorem zn0(lf:Nat)(j:qad):qrd lf j=some ((S.room j).1,(S.room j).2,()):=by
 simp only[qrd,zaf];unfold S.room;show cond (!S.right j) _ (match (cond (S.smallJ j) (some (S.roomR j,())) none) with|none=>none|some v=>_)=_;by_cases h1:S.right j=true
 ·obtain⟨a,u,r⟩:=qf0 h1;rw[h1,jaw,jad,r.small,jaa,jao rfl,r.room2];show some (S.roomR j,_,())=_;rw[r.room];rfl
 ·rw[jca.2 h1,jat,jaa,jan (by decide)];rfl
theorem z02:Con Tryz.prog zgc q81:=zy9 ⟨qwq,zdl,trivial⟩ fun x y hx h=>⟨0,(zn0 0 x.1).trans h⟩
theorem qys{l:List qaa}(h:(S.size l).2=0):S.okC l=true/\(S.size l).1=((S.packed l 1).length:Int)/\1<=l.length:=by
 unfold S.size at h ⊢;by_cases h1:60<l.length
 ·rw[jao h1] at h;cases h
 rw[jan h1] at h ⊢;by_cases h2:l.length=0
 ·rw[jao h2] at h;cases h
 rw[jan h2] at h ⊢;cases hc:S.okC l with
 | false=>rw[hc] at h;cases h
 | true=>exact⟨rfl,rfl,by omega⟩
theorem qvq{j:qad}{l:List qaa}(h:S.roomOf j<(S.packed l 1).length):S.commit j l=none:=by
 unfold S.commit;rw[jao h]
theorem z0y(lf:Nat)(j:qad)(l:List qaa):qs9 lf j l=some (S.plan j l,()):=by
 simp only[qs9,q5m];unfold S.plan;show cond (!S.right j) _ (cond (!ieqI (S.size l).2 _) _ (match (cond (S.smallJ j) (some (S.roomR j,())) none) with|none=>none|some v=>_))=_;by_cases h1:S.right j=true
 ·obtain⟨a,u,r⟩:=qf0 h1;rw[h1,jaw,jad,jao rfl];by_cases h2:(S.size l).2=0
  ·obtain⟨hok,hn,_⟩:=qys h2;have hle:=r.jn.dk.le;have hto:=r.jn.to_;rw[qbe (show _=Int.ofNat 0 from h2),jaw,jad,jao h2,r.small,jaa,hn];simp only;rw[r.room];by_cases h3:j.1.1.length / 2-1-u<(S.packed l 1).length
   ·rw[qdj (by omega),jaa,qvq (by rw[r.room2];omega)];rfl
   ·have hu:=r.jn.le.1;have hp:=qel l 1;obtain⟨c1,_,_,_⟩:=q2l r.jn hok (by omega);rw[qdv (by omega),jad];have hG:(Nat.ble j.1.1.length 1000&&decide (Nat.mod j.1.1.length 2=0))=true:=r.halfG;have hw:IntKind.i64.wrap (Int.add (a:Int) j.2.2.1)=((a+u:Nat):Int):=by
     rw[r.used];exact qa2 (n:=a+u) (by omega)
    have hG2:(S.pk l&&(S.inI ((a+u:Nat):Int) (Int.ofNat 0) (Int.ofNat 1000000)&&S.inI ((a+(j.1.1.length / 2-1):Nat):Int) (Int.ofNat 0) (Int.ofNat 1000000)))=true:=by
     rw[jae,jae];exact⟨qf8 hok,qay.2 ⟨jbe _,by show ((a+u:Nat):Int)<=1000000;omega⟩,qay.2 ⟨jbe _,by show ((a+(j.1.1.length / 2-1):Nat):Int)<=1000000;omega⟩⟩
    rw[hG,jaa,r.jn.fr];simp only;rw[<- r.eq] at c1;rw[hw,hG2,jaa,c1];rfl
  ·rw[qbb (show ¬_=Int.ofNat 0 from h2),jat,jaa,jan h2]
 ·rw[jca.2 h1,jat,jaa,jan (by decide)];rfl
theorem zfe:Con Tryz.prog z0s qzx:=zsa ⟨qwq,zd8,zdl,q0z,zt4,trivial⟩ fun x y hx h=>⟨0,(z0y 0 x.1 x.2.1).trans h⟩
theorem z1c(lf:Nat)(j:qad)(a:qnj):qre lf j a=some (S.behindA j a,()):=by
 simp only[qre,q01];unfold S.behindA S.behind;rw[qcf];by_cases h:a.2=0
 ·rw[jaj (show a.2=Int.ofNat 0 from h),jaw,jad,jao h]
 ·rw[jal (show ¬a.2=Int.ofNat 0 from h),jat,jaa,jan h];rfl
theorem zhk:Con Tryz.prog zv3 zbu:=zrj ⟨zne,q8w,trivial⟩ fun x y hx h=>⟨0,(z1c 0 x.1 x.2.1).trans h⟩
theorem zu3:Con Tryz.prog z0e q80:=zyh ⟨zhk,zfe,trivial⟩ fun x y hx h=>⟨0,h⟩
theorem q5s{j:qad}(h:(S.half j.1.1.length (1-j.2.1)).2-(S.half j.1.1.length (1-j.2.1)).1<(S.packed j.2.2.2 1).length):S.turn j=none:=by
 unfold S.turn;rw[jao h]
theorem z0n:S.lit [0,0,0,0,0,0,0,0,0,0,0,0,0,0,0,0,0,0,0,0,0,0,0,0,0,0,0,0,0,0,0,0,0,0,0,0,0,0,0,0,0,0,0,0,0,0,0,0,0,0,0,0,0,0,0,0,0,0,0,0,0,0,0]=qae (List.replicate 63 0):=qy1
theorem zlt{j:qad}{a u:Nat}(r:RJ j a u)(h1:S.right j=true):(S.turn j=none/\S.turnJ j=(S.noJ,14)/\S.planTurn j=([],14)/\j.1.1.length / 2-1<(S.packed j.2.2.2 1).length) \/
  ∃b:Nat,S.half j.1.1.length (1-j.2.1)=((b:Int),((b+(j.1.1.length / 2-1):Nat):Int))/\S.turn j=some (turA j.1.1 (1-j.2.1) b j.2.2.2)/\S.planTurn j=(turA j.1.1 (1-j.2.1) b j.2.2.2,0)/\S.doD j.1 (turA j.1.1 (1-j.2.1) b j.2.2.2)=((turL j.1.1 (1-j.2.1) b j.2.2.2,[]),0) /\
   S.turnJ j=(((turL j.1.1 (1-j.2.1) b j.2.2.2,[]),1-j.2.1,((S.packed j.2.2.2 1).length:Int),j.2.2.2),0)/\Jn (turL j.1.1 (1-j.2.1) b j.2.2.2) (1-j.2.1) b (S.packed j.2.2.2 1).length j.2.2.2:=by
 by_cases h3:j.1.1.length / 2-1<(S.packed j.2.2.2 1).length
 ·left;have hh:=r.jn.hh;obtain⟨b,e1,e2,e3,_,_⟩:=qhx r.jn.dk.ev r.jn.dk.ge (h:=1-j.2.1) (by omega);have hn:S.turn j=none:=q5s (by rw[e1];show ((b+(j.1.1.length / 2-1):Nat):Int)-(b:Int)<_;omega);have hp:S.planTurn j=([],14):=by
   unfold S.planTurn;rw[jao h1,hn]
  refine⟨hn,?_,hp,h3⟩;unfold S.turnJ;rw[hp];rfl
 ·right;obtain⟨b,f1,f2,f3,f4,f5⟩:=zly r.jn (by omega);rw[<- r.eq] at f2;have hq:j.1=(j.1.1,[]):=jav (·.1) r.eq;rw[<- hq] at f3;have hp:S.planTurn j=(turA j.1.1 (1-j.2.1) b j.2.2.2,0):=by
   unfold S.planTurn;rw[jao h1,f2]
  refine⟨b,f1,f2,hp,f3,?_,f4⟩;unfold S.turnJ;rw[hp];show S.open_ (S.doD j.1 (turA j.1.1 (1-j.2.1) b j.2.2.2)).1=_;rw[f3];exact f4.opened_
theorem zf2{j:qad}{a u:Nat}(r:RJ j a u){l:List qaa}(hl:S.okC l=true):(S.commit j l=none/\j.1.1.length / 2-1<u+(S.packed l 1).length) \/
  ∃A,S.commit j l=some A/\A=S.laid l ((a+u:Nat):Int) ((a+(j.1.1.length / 2-1):Nat):Int) true/\u+(S.packed l 1).length<=j.1.1.length / 2-1/\S.doD j.1 A=((comL j.1.1 a u l,[]),0) /\
   S.behind j A=(((comL j.1.1 a u l,[]),j.2.1,((u+(S.packed l 1).length:Nat):Int),S.changed j.2.2.2 l),0)/\Jn (comL j.1.1 a u l) j.2.1 a (u+(S.packed l 1).length) (S.changed j.2.2.2 l):=by
 have hu:=r.jn.le.1;by_cases h3:j.1.1.length / 2-1<u+(S.packed l 1).length
 ·exact .inl ⟨qvq (by rw[r.room2];omega),h3⟩
 ·right;obtain⟨c1,c2,c3,_⟩:=q2l r.jn hl (by omega);rw[<- r.eq] at c1;have hq:j.1=(j.1.1,[]):=jav (·.1) r.eq;rw[<- hq] at c2;refine⟨_,c1,rfl,by omega,c2,?_,c3⟩;unfold S.behind;rw[c2];exact c3.opened_
theorem zh5(lf:Nat)(j:qad)(h:S.smallJ j=true):qoq lf j=some (S.roomOf j,()):=by
 obtain⟨h1,h2,h3,h4⟩:=qo3 h;simp only[qoq,zc4];rw[show S.inI (Int.ofNat j.1.1.length) (Int.ofNat 0) (Int.ofNat 1000)=true from qay.2 ⟨jbe _,by show (j.1.1.length:Int)<=1000;omega⟩,jaa];simp only;unfold S.roomOf;show some (IntKind.i64.wrap (Int.sub (IntKind.i64.wrap ((S.half j.1.1.length j.2.1).2-(S.half j.1.1.length j.2.1).1)) j.2.2.1),())=_;have hb:-1000<=(S.half j.1.1.length j.2.1).2-(S.half j.1.1.length j.2.1).1/\(S.half j.1.1.length j.2.1).2-(S.half j.1.1.length j.2.1).1<=1000:=by
  unfold S.half;split
  ·show -1000<=((j.1.1.length / 2:Nat):Int)-1/\((j.1.1.length / 2:Nat):Int)-1<=1000;omega
  ·show -1000<=(j.1.1.length:Int)-1-((j.1.1.length / 2:Nat):Int)/\(j.1.1.length:Int)-1-((j.1.1.length / 2:Nat):Int)<=1000;omega
 rw[wrap_in (n:=(S.half j.1.1.length j.2.1).2-(S.half j.1.1.length j.2.1).1) (by omega)];refine jav (fun z=>some (z,())) (wrap_in ?_);show -_<=(S.half j.1.1.length j.2.1).2-(S.half j.1.1.length j.2.1).1-j.2.2.1/\(S.half j.1.1.length j.2.1).2-(S.half j.1.1.length j.2.1).1-j.2.2.1<_;omega
theorem q8g:Con Tryz.prog z0a qu9:=ztj ⟨qs7,trivial⟩ fun x y hx h=>⟨0,by
 obtain⟨h1,h2⟩:=qa5 (show cond (S.smallJ x.1) (some (S.roomOf x.1,())) none=some y from h);exact(zh5 0 x.1 h1).trans (jav some h2)⟩
theorem zrz(l:List qaa):Fz23 LF l=some ((S.size l).1,(S.size l).2,()):=by
 simp only[Fz23,qv9];unfold S.size;rw[qa4,qfh];by_cases h1:60<l.length
 ·rw[jaj h1,jaa,jao h1];rfl
 rw[jal h1,jad,jan h1];by_cases h2:l.length=0
 ·rw[jaj h2,jaa,jao h2];rfl
 rw[jal h2,jad,jan h2];have hfin:∀b:Bool,b=S.okC l->(cond b (some (((S.packed l 1).length:Int),(0:Int),())) (some ((0:Int),(1:Int),())))=some ((cond (S.okC l) (((S.packed l 1).length:Int),(0:Int)) ((0:Int),(1:Int))).1,(cond (S.okC l) (((S.packed l 1).length:Int),(0:Int)) ((0:Int),(1:Int))).2,()):=fun b hb=>by
  subst hb;cases S.okC l<;>rfl
 refine(range0 (σ:=Unit) (R:=qct) (T:=fun K p=>qmi LF l K p) l (fun i _=>i) (fun i _=>S.okGo (l.drop i) (qbr l i)=S.okC l\/S.okC l=S.okGo (l.drop i) (qbr l i)) (fun rest i _=>cond (S.okGo rest (qbr l i)) (some (((S.packed l 1).length:Int),(0:Int),())) (some ((0:Int),(1:Int),()))) (by unfold LF;omega) (fun K s hs=>?_) (fun K i v rest s hs r hk=>?_) () (.inl rfl)).trans (hfin _ rfl)
 ·rw[jbn (jas _)] at hs;have hok:S.okC l=true:=hs.elim (fun h=>h.symm) id;simp only[qmi,qbt,jad];rw[qf8 hok,jaa];rfl
 ·have hd:=r.drop;have hi:=r.lt;have hgi:l[i]?=some v:=by
   have:=r.get
   rwa [qbp] at this
  have hst:S.okGo (v::rest) (qbr l i)=(S.inI v.1 0 199&&(decide (v.2.1.size<=4000)&&(!(v.2.2&&!decide (v.2.1.size=0))&&(decide (qbr l i<v.1)&&S.okGo rest v.1)))):=rfl;have hs':S.okC l=S.okGo (v::rest) (qbr l i):=by rw[hd] at hs;exact hs.elim (fun h=>h.symm) id
  have hnext:qbr l (i+1)=v.1:=q98 hgi;rw[hnext] at hk;simp only[qmi,r.ilt,r.get,r.next,jaa];rw[hst];by_cases c1:S.inI v.1 0 199=true
  ·rw[show S.inI v.1 (Int.ofNat 0) (Int.ofNat 199)=true from c1,jaw,jad,c1,jbt,qa4];by_cases c2:v.2.1.size<=4000
   ·rw[jal (show ¬4000<v.2.1.size by omega),jad,jaj c2,jbt,q2k];have hv0:0<=v.1:=(qay.1 c1).1;have hfinal:cond (decide (qbr l i<v.1)) (K (Int.ofNat (i+1))) (some (Int.ofNat 0,Int.ofNat 1,()))=cond (decide (qbr l i<v.1)&&S.okGo rest v.1) (some (((S.packed l 1).length:Int),(0:Int),())) (some ((0:Int),(1:Int),()))\/¬(v.2.2&&!decide (v.2.1.size=0))=false:=by
     by_cases cg:(v.2.2&&!decide (v.2.1.size=0))=false
     ·left;by_cases c4:qbr l i<v.1
      ·rw[jaj c4,jaa,jbt];refine hk () ?_;rw[r.tail];left;rw[hs',hst,c1,jaj c2,cg,jaj c4];rfl
      ·rw[jal c4,jad,jcb,jad];rfl
     ·exact .inr cg
    cases hg:v.2.2 with
    | true =>
     rw[jaa,jbt];by_cases c3:v.2.1.size=0
     ·rw[jaj c3,jaw,jad,jat,jbt];refine(qrz (l:=l) hv0 (by omega) (by omega) _ _).trans ?_;refine hfinal.resolve_right ?_;rw[jaj c3,jaw,jfk];decide
     ·rw[jal c3,jat,jaa,jaw,jcb,jad];rfl
    | false =>
     rw[jad,jcb,jat,jbt];refine(qrz (l:=l) hv0 (by omega) (by omega) _ _).trans ?_;refine hfinal.resolve_right ?_;rw[hg,jcb];decide
   ·rw[jaj (show 4000<v.2.1.size by omega),jaa,jal c2,jcb,jad];rfl
  ·have c1:=jca.2 c1;rw[show S.inI v.1 (Int.ofNat 0) (Int.ofNat 199)=false from c1,jat,jaa,c1,jcb,jad];rfl
theorem qwr:Con Tryz.prog zjm qo1:=zzq ⟨qh3,qqb,trivial⟩ fun x y hx h=>⟨LF,(zrz x.1).trans h⟩
theorem qp9{j:qad}(h:S.right j=true):S.errR j=0:=by unfold S.errR;rw[jao h]
theorem qer{j:qad}(h:¬S.right j=true):S.errR j=1:=by unfold S.errR;rw[jan h]
theorem qx8{d:qac}(h:S.checkDisk d=0):S.okL d=true:=by
 have k:=q12 h;unfold S.okL S.secs;rw[jae,jae,jae,jb4];refine⟨⟨jau k.le,jc5.2 fun s q=>?_⟩,jau k.ge,jaj k.ev⟩;unfold S.short;rw[k.sz s q];decide
theorem z2a(lf:Nat)(j:qad):qqv lf j=some (S.errR j,()):=by
 simp only[qqv,q26];show cond (!ieqI (S.checkDisk j.1) _) _ (cond (iltI (Int.ofNat 0) (Int.ofNat j.1.2.length)) _ (match (cond (S.okL j.1) (some ((S.openedJ j.1).1,((S.openedJ j.1).2,()))) none) with|none=>none|some v=>_))=_;by_cases h0:S.checkDisk j.1=0
 ·rw[qbe (show _=Int.ofNat 0 from h0),jaw,jad,qa4];by_cases h1:j.1.2.length=0
  ·have hq:j.1.2=[]:=ja4.1 h1;rw[jal (by omega),jad,qx8 h0,jaa];simp only;unfold S.openedJ;cases ho:S.opened j.1.1 with
   | none =>
    have hr:¬S.right j=true:=fun h=>by
     obtain⟨a,u,r⟩:=qf0 h;rw[r.jn.open_] at ho;cases ho
    rw[qer hr];rfl
   | some x =>
    obtain⟨hf,u,c⟩:=x;simp only;rw[jaw,jad,qcf,qcf];have hop:S.open_ j.1=(((j.1.1,[]),hf,(u:Int),c),0):=by
     unfold S.open_;rw[jao h0,jao h1,ho]
    have hre:S.right j=decide ((((j.1.1,[]),hf,(u:Int),c):qad)=j):=by
     unfold S.right;rw[hop];rfl
    obtain⟨⟨L,q⟩,h',u',c'⟩:=j;simp only at hq;subst hq;show cond (!decide (hf=h')) _ (cond (!decide ((u:Int)=u')) _ (cond (!decide (c=c')) _ _))=_;by_cases e1:hf=h'
    ·by_cases e2:(u:Int)=u'
     ·by_cases e3:c=c'
      ·rw[jaj e1,jaj e2,jaj e3,qp9 (by rw[hre,e1,e2,e3];exact jaj rfl)];rfl
      ·rw[jaj e1,jaj e2,jal e3,qer (fun h=>by rw[hre] at h;exact e3 (jav (fun z:qad=>z.2.2.2) (jbd h)))];rfl
     ·rw[jaj e1,jal e2,qer (fun h=>by rw[hre] at h;exact e2 (jav (fun z:qad=>z.2.2.1) (jbd h)))];rfl
    ·rw[jal e1,qer (fun h=>by rw[hre] at h;exact e1 (jav (fun z:qad=>z.2.1) (jbd h)))];rfl
  ·have hr:¬S.right j=true:=fun h=>by
    obtain⟨a,u,jn,h2,_⟩:=qvg h;rw[h2] at h1;exact h1 rfl
   rw[jaj (by omega),jaa,qer hr];rfl
 ·have hr:¬S.right j=true:=fun h=>by
   obtain⟨a,u,jn,h2,_⟩:=qvg h;have:=jn.dk.check;rw[show j.1=(j.1.1,[]) from Prod.ext rfl h2] at h0;exact h0 this
  rw[qbb (show ¬_=Int.ofNat 0 from h0),jat,jaa,qer hr];rfl
theorem zuv(lf:Nat)(d:qac):qpm lf d=some ((S.open_ d).1,(S.open_ d).2,()):=by
 simp only[qpm,q36];unfold S.open_;show cond (!ieqI (S.checkDisk d) _) _ (cond (iltI (Int.ofNat 0) (Int.ofNat d.2.length)) _ (match (cond (S.okL d) (some ((S.openedJ d).1,((S.openedJ d).2,()))) none) with|none=>none|some v=>_))=_;by_cases h0:S.checkDisk d=0
 ·rw[qbe (show _=Int.ofNat 0 from h0),jaw,jad,qa4,jao h0];by_cases h1:d.2.length=0
  ·rw[jal (by omega),jad,qx8 h0,jaa,jao h1];simp only;unfold S.openedJ;cases S.opened d.1<;>rfl
  ·rw[jaj (by omega),jaa,jan h1];rfl
 ·rw[qbb (show ¬_=Int.ofNat 0 from h0),jat,jaa,jan h0];rfl
theorem zkz(j:qad)(k:Int)(hl:j.2.2.2.length<LF):Fz24 LF j k=some ((S.value j k).1,(S.value j k).2.1,(S.value j k).2.2,()):=by
 simp only[Fz24,qzg];unfold S.value;show cond (!ieqI (S.errR j) _) (some (_,_,S.errR j,())) (cond (!S.inI k 0 199) _ _)=_;by_cases h1:S.right j=true
 ·rw[qp9 h1,show ieqI 0 (Int.ofNat 0)=true from rfl,jaw,jad];by_cases h2:S.inI k 0 199=true
  ·rw[h2,jaw,jad,jao ⟨h1,rfl⟩]
   refine(qhn (T:=fun K p=>qnt LF j k K p) j.2.2.2 (fun rest _=>some ((match rest.find? (fun c=>decide (c.1=k)) with
    | some c=>(c.2.1,true,0)
    | none=>(S.none_,false,0):ByteArray × Bool × Int).1,(match rest.find? (fun c=>decide (c.1=k)) with
    | some c=>(c.2.1,true,0)
    | none=>(S.none_,false,0):ByteArray × Bool × Int).2.1,(match rest.find? (fun c=>decide (c.1=k)) with
    | some c=>(c.2.1,true,0)
    | none=>(S.none_,false,0):ByteArray × Bool × Int).2.2,())) hl (fun K=>?_) (fun K i v rest r h=>?_)).trans rfl
   ·simp only[qnt,qbt,jad];rfl
   ·simp only[qnt,r.ilt,r.get,r.next,jaa,qcf];rw[List.find?_cons];by_cases e:v.1=k
    ·rw[jaj e];rfl
    ·rw[jal e,jad,h]
  ·rw[jca.2 h2,jat,jaa,jan (fun h=>by cases h.2)];rfl
 ·rw[qer h1,show ieqI 1 (Int.ofNat 0)=false from rfl,jat,jaa,jan (fun h=>h1 h.1)];rfl
theorem z1k(lf:Nat)(j:qad):qoe lf j=some ((S.room j).1,(S.room j).2,()):=by
 simp only[qoe,zdb];unfold S.room;show cond (!ieqI (S.errR j) _) (some (_,S.errR j,())) (match (cond (S.smallJ j) (some (S.roomOf j,())) none) with|none=>none|some v=>_)=_;by_cases h1:S.right j=true
 ·obtain⟨a,u,r⟩:=qf0 h1;rw[qp9 h1,show ieqI 0 (Int.ofNat 0)=true from rfl,jaw,jad,r.small,jaa,jao h1];rfl
 ·rw[qer h1,show ieqI 1 (Int.ofNat 0)=false from rfl,jat,jaa,jan h1];rfl
theorem zln(lf:Nat)(j:qad)(l:List qaa):qsk lf j l=some (S.asked j l,()):=by
 simp only[qsk,zdu];unfold S.asked;show cond (!ieqI (S.errR j) _) (some (S.errR j,())) _=_;by_cases h1:S.right j=true
 ·rw[qp9 h1,show ieqI 0 (Int.ofNat 0)=true from rfl,jaw,jad,jao h1]
 ·rw[qer h1,show ieqI 1 (Int.ofNat 0)=false from rfl,jat,jaa,jan h1]
theorem q7j(a b:List DAct):S.app a b=a++b:=rfl
theorem qcl{a:List DAct}{n:Nat}(h:a.length<=n):Nat.ble (S.lenA a) n=true:=jau h
theorem qux(a:Int)(s:ByteArray):S.puts a [s]=[S.put a s]:=rfl
theorem unm(l:List qaa):qae (0::(qab ((S.packed l 1).getD 0 S.none_)).drop 1)=(S.packed l 0).getD 0 S.none_:=by
 have e:∀m:Int,0<=m/\m<256->qab ((S.packed l m).getD 0 S.none_)=m::((S.recB l 0).drop 1).take 63++List.replicate (64-(S.recB l 0).length) 0:=fun m hm=>by
  have h:=qfu ((S.body l).length+3) (b:=S.recB l m) (by rw[qei];omega);have:S.packed l m=qae ((S.recB l m).take 64++List.replicate (64-(S.recB l m).length) 0)::S.chunks ((S.body l).length+3) ((S.recB l m).drop 64):=h;rw[this];exact qbi (qf2 (qee (qiy l hm) 64) (qfr _))
 refine qej ?_;rw[e 1 (by omega),e 0 (by omega)];have hr:rng ((0:Int)::(((S.recB l 0).drop 1).take 63++List.replicate (64-(S.recB l 0).length) 0)):=fun x hx=>by
  rcases ja1.1 hx with rfl|hx
  ·decide
  ·exact qf2 (qee (qcu (qiy l (by decide)) 1) 63) (qfr _) x hx
 exact qbi hr
theorem unm2(l:List qaa):qae (Int.ofNat 0::(qab ((S.packed l 1).getD 0 S.none_)).drop 1)=(S.packed l 0).getD 0 S.none_:=unm l
theorem zbp(l:List ByteArray):lsub l (Int.ofNat 1) (Int.ofNat l.length)=l.drop 1:=by
 unfold lsub;show (l.take l.length).drop 1=_;rw[jfr]
theorem q6f(l:List qaa)(a:Nat):S.puts (a:Int) [(S.packed l 0).getD 0 S.none_]++S.puts ((a+1:Nat):Int) ((S.packed l 1).drop 1)=S.puts (a:Int) (S.packed l 0):=by
 rw[qvt l 0];exact(qwe a [(S.packed l 0).getD 0 S.none_] ((S.packed l 1).drop 1)).symm
theorem in0{n:Nat}(h:n<=1000000):S.inI ((n:Nat):Int) (Int.ofNat 0) (Int.ofNat 1000000)=true:=qay.2 ⟨jbe _,by show (n:Int)<=1000000;omega⟩
theorem zie{j:qad}{l:List qaa}(h:S.comG j l=true):S.smallJ j=true/\S.pk l=true/\0<=j.2.2.1/\j.2.2.1<=1000:=by
 unfold S.comG at h;rw[jae,jae,qay] at h;exact⟨h.1,h.2.1,h.2.2⟩
theorem z1q(n:Nat)(hn:n<=1000)(h:Int)(h1:0<n\/h=0):∃a b:Nat,(S.half n h).1=(a:Int)/\(S.half n h).2=(b:Int)/\a<=1000/\b<=1000:=by
 unfold S.half;by_cases e:h=0
 ·rw[jao e];exact⟨1,n / 2,rfl,rfl,by omega,by omega⟩
 ·rw[jan e];have:0<n:=h1.resolve_right e;exact⟨n / 2,n-1,rfl,by show (n:Int)-1=((n-1:Nat):Int);omega,by omega,by omega⟩
theorem zgy(lf:Nat)(j:qad)(l:List qaa)(h:S.comG j l=true):qrw lf j l=some ((S.actsB (S.commit j l)).1,(S.actsB (S.commit j l)).2,()):=by
 obtain⟨hs,hp,hu0,hu1⟩:=zie h;obtain⟨h1,h2,_,_⟩:=qo3 hs;have hpl:=qj1 hp 1;have hpos:=qel l 1;have hp0:(S.packed l 0).length=(S.packed l 1).length:=by rw[qc5,qc5]
 simp only[qrw,q30];show (match (cond (S.pk l) (some ((S.packed l 1),())) none) with|none=>none|some v0=>(match (cond (S.smallJ j) (some (S.roomOf j,())) none) with|none=>none|some v1=>_))=_;rw[hp,jaa,hs,jaa];simp only;by_cases c0:S.roomOf j<((S.packed l 1).length:Int)
 ·rw[qdj (show S.roomOf j<Int.ofNat (S.packed l 1).length from c0),jaa,qvq c0];rfl
 rw[qdv (show ¬S.roomOf j<Int.ofNat (S.packed l 1).length from c0),jad,q5l c0,show S.inI (Int.ofNat j.1.1.length) (Int.ofNat 0) (Int.ofNat 1000)=true from qay.2 ⟨jbe _,by show (j.1.1.length:Int)<=1000;omega⟩,jaa];simp only;obtain⟨a,b,ea,eb,ha,hb⟩:=z1q j.1.1.length h1 j.2.1 (by
  refine jes j.1.1.length |>.elim (fun e=>?_) (fun e=>.inl e);refine jco fun hc=>?_;have hc:¬j.2.1=0:=fun h=>hc (.inr h);have:S.roomOf j=-1-j.2.2.1:=by
   unfold S.roomOf S.half;rw[e,jan hc];show ((0:Nat):Int)-1-((0 / 2:Nat):Int)-j.2.2.1=_;omega
  rw[this] at c0;omega)
 obtain⟨u,hu⟩:∃u:Nat,j.2.2.1=(u:Int):=⟨j.2.2.1.toNat,by omega⟩;have huu:u<=1000:=by omega
 rw[show Int.toNat (Int.ofNat j.1.1.length)=j.1.1.length from rfl,ea,eb,hu];have w1:IntKind.i64.wrap (Int.add (a:Int) (u:Int))=((a+u:Nat):Int):=qa2 (n:=a+u) (by omega);have w2:IntKind.i64.wrap (Int.add ((a+u:Nat):Int) (Int.ofNat 1))=((a+u+1:Nat):Int):=qa2 (n:=a+u+1) (by omega);have w3:IntKind.i64.wrap (Int.add ((a+u:Nat):Int) (Int.ofNat (S.packed l 1).length))=((a+u+(S.packed l 1).length:Nat):Int):=qa2 (n:=a+u+(S.packed l 1).length) (by omega);have hsz:=qh1 l 1 _ (qfw (i:=0) (show 0<(S.packed l 1).length by omega));have l1:lchk (Int.ofNat 1) (Int.ofNat (S.packed l 1).length) (Int.ofNat (S.packed l 1).length) (Int.ofNat (S.packed l 1).length)=true:=qbv.2 ⟨by decide,by show (1:Int)<=((S.packed l 1).length:Int);omega,jbq _,jbq _⟩;have hdl:Nat.ble ((S.packed l 1).drop 1).length 1000000=true:=jau (by rw[jax];omega);have hpl0:(S.puts ((a+u:Nat):Int) (S.packed l 0)).length<=20000:=by rw[qkp];omega
 rw[w1,w3];simp only[qjy (d:=S.none_) hpos,get0 (d:=S.none_) hpos,hsz,decide_true,jaa,unm2,w2,in0 (show a+u<=1000000 by omega),in0 (show a+u+1<=1000000 by omega),in0 (show a+u+(S.packed l 1).length<=1000000 by omega),l1,zbp,hdl,jfq,jbt,q7j,jc0];rw[qcl (show (S.puts ((a+u:Nat):Int) [(S.packed l 0).getD 0 S.none_]).length<=1000000 by rw[qkp];show 1<=_;omega),jaa];simp only;rw[q6f l (a+u),qcl (show (S.puts ((a+u:Nat):Int) (S.packed l 0)).length<=1000000 by omega),jaa];simp only;rw[qcl (show (S.puts ((a+u:Nat):Int) (S.packed l 0)).length<=4000000 by omega),jaa];simp only;rw[qcl (show (S.puts ((a+u:Nat):Int) (S.packed l 0)++[S.sync]).length<=1000000 by rw[jah];show _+1<=_;omega),jaa];simp only;rw[qcl (show (S.puts ((a+u:Nat):Int) (S.packed l 0)++[S.sync]++S.puts ((a+u:Nat):Int) [(S.packed l 1).getD 0 S.none_]).length<=4000000 by rw[jah,jah];show _+1+1<=_;omega),jaa];simp only;rw[qcl (show (S.puts ((a+u:Nat):Int) (S.packed l 0)++S.puts ((a+u+(S.packed l 1).length:Nat):Int) [S.blank]).length<=4000000 by rw[jah];show _+1<=_;omega),jaa];simp only;rw[qcl (show (S.puts ((a+u:Nat):Int) (S.packed l 0)++S.puts ((a+u+(S.packed l 1).length:Nat):Int) [S.blank]++[S.sync]).length<=1000000 by rw[jah,jah];show _+1+1<=_;omega),jaa];simp only;rw[qcl (show (S.puts ((a+u:Nat):Int) (S.packed l 0)++S.puts ((a+u+(S.packed l 1).length:Nat):Int) [S.blank]++[S.sync]++S.puts ((a+u:Nat):Int) [(S.packed l 1).getD 0 S.none_]).length<=4000000 by rw[jah,jah,jah];show _+1+1+1<=_;omega),jaa,qbu];unfold S.laid;rw[jbt];have hc2:(a:Int)+(u:Int)=((a+u:Nat):Int):=by omega
 have hc3:((a+u:Nat):Int)+((S.packed l 1).length:Int)=((a+u+(S.packed l 1).length:Nat):Int):=by omega
 rw[hc2,hc3];cases decide (((a+u+(S.packed l 1).length:Nat):Int)<(b:Int)) with
 | true =>
  simp only[jaa,qux,jaz];rfl
 | false =>
  simp only[jad,qux,jaz,jc0];rfl
theorem zyg{d:qac}(h:(S.open_ d).2=0):S.okL d=true/\S.openedJ d=((S.open_ d).1,true):=by
 obtain⟨hf,a,u,c,jn,h1,h2⟩:=q91 h;have hd:d=(d.1,[]):=Prod.ext rfl h1;refine⟨qx8 (by rw[hd];exact jn.dk.check),?_⟩;unfold S.openedJ;rw[jn.open_,h2]
theorem ztt(lf:Nat)(j:qad)(a:List DAct)(h:S.behG j a=true):qtv lf j a=some ((S.behind j a).1,()):=by
 unfold S.behG at h;rw[jae] at h;have h1:=jbd h.1;simp only[qtv,zcq];unfold S.behind at h1 ⊢;obtain⟨h2,h3⟩:=zyg h1;show (match (cond (S.okL (S.doD j.1 a).1) (some ((S.openedJ (S.doD j.1 a).1).1,((S.openedJ (S.doD j.1 a).1).2,()))) none) with|none=>none|some v=>_)=_;rw[h2,jaa,h3]
theorem zwb{j:qad}(h:S.turG j=true):S.smallJ j=true/\S.pk j.2.2.2=true/\(j.2.1=0\/j.2.1=1)/\8<=j.1.1.length:=by
 unfold S.turG at h;rw[jae,jae,jae,qay] at h;exact⟨h.1,h.2.1,by omega,jam h.2.2.2⟩
theorem zyp(lf:Nat)(j:qad)(h:S.turG j=true):qp2 lf j=some ((S.actsB (S.turn j)).1,(S.actsB (S.turn j)).2,()):=by
 obtain⟨hs,hp,hh,hge⟩:=zwb h;obtain⟨h1,h2,_,_⟩:=qo3 hs;have hpl:=qj1 hp 1;have hpos:=qel j.2.2.2 1;have hp0:(S.packed j.2.2.2 0).length=(S.packed j.2.2.2 1).length:=by rw[qc5,qc5]
 obtain⟨b,e1,e2,e3,_,_⟩:=qhx h2 hge (h:=1-j.2.1) (by omega);have hw:IntKind.i64.wrap (Int.sub (Int.ofNat 1) j.2.1)=1-j.2.1:=wrap_in (by show -_<=(1:Int)-j.2.1/\(1:Int)-j.2.1<_;omega);have hw2:IntKind.i64.wrap (Int.sub ((b+(j.1.1.length / 2-1):Nat):Int) (b:Int))=Int.ofNat (j.1.1.length / 2-1):=by
  have:Int.sub ((b+(j.1.1.length / 2-1):Nat):Int) (b:Int)=Int.ofNat (j.1.1.length / 2-1):=by
   show ((b+(j.1.1.length / 2-1):Nat):Int)-(b:Int)=((j.1.1.length / 2-1:Nat):Int);omega
  rw[this];exact qa2 (by omega)
 simp only[qp2,q2q,hw];rw[hp,jaa];simp only;rw[show S.inI (Int.ofNat j.1.1.length) (Int.ofNat 0) (Int.ofNat 1000)=true from qay.2 ⟨jbe _,by show (j.1.1.length:Int)<=1000;omega⟩,jaa];simp only;rw[show Int.toNat (Int.ofNat j.1.1.length)=j.1.1.length from rfl,e1];simp only[hw2];by_cases c0:j.1.1.length / 2-1<(S.packed j.2.2.2 1).length
 ·have hn:S.turn j=none:=q5s (by rw[e1];show ((b+(j.1.1.length / 2-1):Nat):Int)-(b:Int)<((S.packed j.2.2.2 1).length:Int);omega);rw[qdj (show Int.ofNat (j.1.1.length / 2-1)<Int.ofNat (S.packed j.2.2.2 (Int.ofNat 1)).length from jd0.2 c0),jaa,hn];rfl
 have hsome:S.turn j=some (turA j.1.1 (1-j.2.1) b j.2.2.2):=by
  rw[zbx (by rw[e1];show ¬((b+(j.1.1.length / 2-1):Nat):Int)-(b:Int)<((S.packed j.2.2.2 1).length:Int);omega),e1];have:(((b+(j.1.1.length / 2-1):Nat):Int)-(b:Int)).toNat=j.1.1.length / 2-1:=by omega
  simp only[this];rfl
 rw[qdv (show ¬Int.ofNat (j.1.1.length / 2-1)<Int.ofNat (S.packed j.2.2.2 (Int.ofNat 1)).length from fun h=>c0 (jd0.1 h)),jad,hsome];unfold turA;have hR:(S.puts (b:Int) (List.replicate (j.1.1.length / 2-1) S.blank)).length<=1000:=by rw[qkp,ja9];omega
 have w2:IntKind.i64.wrap (Int.add (b:Int) (Int.ofNat 1))=((b+1:Nat):Int):=qa2 (n:=b+1) (by omega);have hsz:=qh1 j.2.2.2 1 _ (qfw (i:=0) (show 0<(S.packed j.2.2.2 1).length by omega));have l1:lchk (Int.ofNat 1) (Int.ofNat (S.packed j.2.2.2 1).length) (Int.ofNat (S.packed j.2.2.2 1).length) (Int.ofNat (S.packed j.2.2.2 1).length)=true:=qbv.2 ⟨by decide,by show (1:Int)<=((S.packed j.2.2.2 1).length:Int);omega,jbq _,jbq _⟩;have hdl:Nat.ble ((S.packed j.2.2.2 1).drop 1).length 1000000=true:=jau (by rw[jax];omega);have hpl0:(S.puts (b:Int) (S.packed j.2.2.2 0)).length<=20000:=by rw[qkp];omega
 have hj0:jget (S.packed j.2.2.2 (Int.ofNat 1)) (Int.ofNat 0)=some ((S.packed j.2.2.2 1).getD 0 S.none_):=qjy hpos;have hg0:(S.packed j.2.2.2 (Int.ofNat 1))[0]?=some ((S.packed j.2.2.2 1).getD 0 S.none_):=get0 hpos;have htop:ByteArray.append (qae [IntKind.u8.wrap (1-j.2.1)]) (qae (List.replicate 63 0))=topS (1-j.2.1):=by
  rw[qcp,qi7,show (1-j.2.1) % 256=1-j.2.1 by omega];rfl
 rw[show S.inI (Int.ofNat (j.1.1.length / 2-1)) (Int.ofNat 0) (Int.ofNat 1000)=true from qay.2 ⟨jbe _,by show ((j.1.1.length / 2-1:Nat):Int)<=1000;omega⟩,jaa];simp only[show Int.toNat (Int.ofNat (j.1.1.length / 2-1))=j.1.1.length / 2-1 from rfl,in0 (show b<=1000000 by omega),w2,in0 (show b+1<=1000000 by omega),jbt,jfq,q7j,jc0,hj0,hg0,hsz,decide_true,jaa,unm2,zbv];rw[jau (show (List.replicate (j.1.1.length / 2-1) S.blank).length<=1000000 by rw[ja9];omega),jaa];simp only;generalize S.puts (b:Int) (List.replicate (j.1.1.length / 2-1) S.blank)=X at hR;rw[qcl (show X.length<=4000000 by omega),jaa];simp only;rw[qcl (show (X++[S.sync]).length<=1000000 by rw[jah];show _+1<=_;omega),jaa];simp only
 rw[show lchk (Int.ofNat 1) (Int.ofNat (S.packed j.2.2.2 (Int.ofNat 1)).length) (Int.ofNat (S.packed j.2.2.2 (Int.ofNat 1)).length) (Int.ofNat (S.packed j.2.2.2 (Int.ofNat 1)).length)=true from l1,jaa,
  show lsub (S.packed j.2.2.2 (Int.ofNat 1)) (Int.ofNat 1) (Int.ofNat (S.packed j.2.2.2 (Int.ofNat 1)).length)=(S.packed j.2.2.2 1).drop 1 from zbp _,hdl,jbt,qcl (show (X++[S.sync]++S.puts (b:Int) [(S.packed j.2.2.2 0).getD 0 S.none_]).length<=1000000 by rw[jah,jah];show _+1+1<=_;omega),jaa]
 simp only;rw[jaz (X++[S.sync]),q6f j.2.2.2 b];generalize S.puts (b:Int) (S.packed j.2.2.2 0)=Y at hpl0;rw[qcl (show (X++[S.sync]++Y).length<=4000000 by rw[jah,jah];show _+1+_<=_;omega),jaa];simp only;rw[qcl (show (X++[S.sync]++Y++[S.sync]).length<=1000000 by rw[jah,jah,jah];show _+1+_+1<=_;omega),jaa];simp only;rw[qcl (show (X++[S.sync]++Y++[S.sync]++S.puts (b:Int) [(S.packed j.2.2.2 1).getD 0 S.none_]).length<=4000000 by rw[jah,jah,jah,jah];show _+1+_+1+1<=_;omega),jaa];simp only;rw[show S.inI (Int.ofNat 0) (Int.ofNat 0) (Int.ofNat 1000000)=true from rfl,jbt,qcl (show (X++[S.sync]++Y++[S.sync]++S.puts (b:Int) [(S.packed j.2.2.2 1).getD 0 S.none_]++[S.sync]).length<=1000000 by rw[jah,jah,jah,jah,jah];show _+1+_+1+1+1<=_;omega),jaa];simp only[qt4,z0n,htop];rw[qcl (show (X++[S.sync]++Y++[S.sync]++S.puts (b:Int) [(S.packed j.2.2.2 1).getD 0 S.none_]++[S.sync]++S.puts (Int.ofNat 0) [topS (1-j.2.1)]).length<=4000000 by rw[jah,jah,jah,jah,jah,jah];show _+1+_+1+1+1+1<=_;omega),jaa];simp only[qux,jaz];rfl
theorem z2b{j:qad}{a u:Nat}(r:RJ j a u){l:List qaa}(hok:S.okC l=true):S.comG j l=true:=by
 have:=r.jn.le.1;have:=r.jn.dk.le;unfold S.comG;rw[jae,jae,qay,r.used];exact⟨r.small,qf8 hok,by omega⟩
theorem zg6{j:qad}{a u:Nat}(r:RJ j a u):S.turG j=true:=by
 have h:=r.jn.hh;unfold S.turG;rw[jae,jae,jae,qay];exact⟨r.small,qf8 r.jn.le.2.1.1,by omega,jau r.jn.dk.ge⟩
theorem q1g{j:qad}{A:List DAct}{x:qad}{y:qac}(h:S.behind j A=(x,0))(k:S.doD j.1 A=(y,0)):S.behG j A=true:=by
 unfold S.behG;rw[h,k];rfl
theorem q7k{j:qad}{l:List qaa}:S.plan j l=if S.asked j l=0 then (match S.commit j l with
  | some a=>(a,0)
  | none=>([],14)) else ([],S.asked j l):=by
 unfold S.plan S.asked;by_cases h1:S.right j=true
 ·rw[jao h1,jao h1];by_cases h2:(S.size l).2=0
  ·rw[jao h2,jao h2];cases S.commit j l<;>rfl
  ·rw[jan h2,jan h2]
 ·rw[jan h1,jan h1,jan (by decide)]
theorem q6a{j:qad}{l:List qaa}(h:S.asked j l=0):S.right j=true/\(S.size l).2=0:=by
 unfold S.asked at h;by_cases h1:S.right j=true
 ·rw[jao h1] at h;exact⟨h1,h⟩
 ·rw[jan h1] at h;cases h
theorem zn9(lf:Nat)(j:qad)(l:List qaa):qra lf j l=some ((S.plan j l).1,(S.plan j l).2,()):=by
 simp only[qra,q5a];show cond (!ieqI (S.asked j l) _) (some (_,S.asked j l,())) (match (cond (S.comG j l) (some ((S.actsB (S.commit j l)).1,((S.actsB (S.commit j l)).2,()))) none) with|none=>none|some v=>_)=_;rw[q7k];by_cases h0:S.asked j l=0
 ·obtain⟨h1,h2⟩:=q6a h0;obtain⟨a,u,r⟩:=qf0 h1;rw[qbe (show S.asked j l=Int.ofNat 0 from h0),jaw,jad,z2b r (qys h2).1,jaa,jao h0];simp only;cases S.commit j l<;>rfl
 ·rw[qbb (show ¬S.asked j l=Int.ofNat 0 from h0),jat,jaa,jan h0]
theorem zsc{j:qad}{l:List qaa}(h:(S.plan j l).2=0):S.right j=true/\(S.size l).2=0/\∃A,S.commit j l=some A/\S.plan j l=(A,0):=by
 rw[q7k] at h ⊢;by_cases h0:S.asked j l=0
 ·obtain⟨h1,h2⟩:=q6a h0;rw[jao h0] at h ⊢;cases hc:S.commit j l with
  | none=>rw[hc] at h;cases h
  | some A=>exact⟨h1,h2,A,rfl,rfl⟩
 ·rw[jan h0] at h;exact absurd h h0
theorem zxk(lf:Nat)(j:qad)(l:List qaa):qn1 lf j l=some ((S.commitJ j l).1,(S.commitJ j l).2,()):=by
 simp only[qn1,q7e];show cond (!ieqI (S.plan j l).2 _) (some (S.noJ,(S.plan j l).2,())) (match (cond (S.behG j (S.plan j l).1) (some ((S.behind j (S.plan j l).1).1,())) none) with|none=>none|some v=>_)=_;unfold S.commitJ;by_cases h0:(S.plan j l).2=0
 ·obtain⟨h1,h2,A,h3,h4⟩:=zsc h0;obtain⟨a,u,r⟩:=qf0 h1;rcases zf2 r (qys h2).1 with ⟨c1,_⟩|⟨A',c1,_,_,c4,c5,_⟩
  ·rw[h3] at c1;cases c1
  ·have:A'=A:=by rw[h3] at c1;cases c1;rfl
   subst this;rw[jao h0,h4,show ieqI (A',(0:Int)).2 (Int.ofNat 0)=true from rfl,jaw,jad,q1g c5 c4,jaa,c5];rfl
 ·rw[qbb (show ¬(S.plan j l).2=Int.ofNat 0 from h0),jat,jaa,jan h0]
theorem zx4{j:qad}:S.planTurn j=if S.errR j=0 then (match S.turn j with
  | some a=>(a,0)
  | none=>([],14)) else ([],S.errR j):=by
 unfold S.planTurn S.errR;by_cases h1:S.right j=true
 ·rw[jao h1,jao h1,jao rfl];cases S.turn j<;>rfl
 ·rw[jan h1,jan h1,jan (by decide)]
theorem zx9{j:qad}(h:S.errR j=0):S.right j=true:=jco fun e=>by rw[qer e] at h;cases h
theorem z0u(lf:Nat)(j:qad):qsi lf j=some ((S.planTurn j).1,(S.planTurn j).2,()):=by
 simp only[qsi,q87];show cond (!ieqI (S.errR j) _) (some (_,S.errR j,())) (match (cond (S.turG j) (some ((S.actsB (S.turn j)).1,((S.actsB (S.turn j)).2,()))) none) with|none=>none|some v=>_)=_;rw[zx4];by_cases h0:S.errR j=0
 ·obtain⟨a,u,r⟩:=qf0 (zx9 h0);rw[qbe (show S.errR j=Int.ofNat 0 from h0),jaw,jad,zg6 r,jaa,jao h0];simp only;cases S.turn j<;>rfl
 ·rw[qbb (show ¬S.errR j=Int.ofNat 0 from h0),jat,jaa,jan h0]
theorem zt8(lf:Nat)(j:qad):qof lf j=some ((S.turnJ j).1,(S.turnJ j).2,()):=by
 simp only[qof,q9d];show cond (!ieqI (S.planTurn j).2 _) (some (S.noJ,(S.planTurn j).2,())) (match (cond (S.behG j (S.planTurn j).1) (some ((S.behind j (S.planTurn j).1).1,())) none) with|none=>none|some v=>_)=_;by_cases h0:(S.planTurn j).2=0
 ·have h1:S.right j=true:=by
   unfold S.planTurn at h0;by_cases h1:S.right j=true
   ·exact h1
   ·rw[jan h1] at h0;cases h0
  obtain⟨a,u,r⟩:=qf0 h1;rcases zlt r h1 with ⟨_,_,t3,_⟩|⟨b,t1,t2,t3,t4,t5,_⟩
  ·rw[t3] at h0;cases h0
  ·have hb:S.behind j (turA j.1.1 (1-j.2.1) b j.2.2.2)=S.turnJ j:=by
    unfold S.turnJ;rw[t3];rfl
   rw[t3,show ieqI (turA j.1.1 (1-j.2.1) b j.2.2.2,(0:Int)).2 (Int.ofNat 0)=true from rfl,jaw,jad,q1g (hb.trans t5) t4,jaa,hb,t5];rfl
 ·rw[qbb (show ¬(S.planTurn j).2=Int.ofNat 0 from h0),jat,jaa];unfold S.turnJ;rw[jan h0]
theorem qnu:Con Tryz.prog zty qt1:=zmq ⟨zir,trivial⟩ fun x y hx h=>⟨0,h⟩
theorem zpl(a b:List qaa)(ha:a.length<LF):Fz22 LF a b=some (S.sameC a b,()):=by
 simp only[Fz22,qud];unfold S.sameC;by_cases e:a.length=b.length
 ·rw[qbe (show Int.ofNat a.length=Int.ofNat b.length from jav Int.ofNat e),jaw,jad];refine(qj4 a b e ha (some (true,())) (some (false,())) (fun K=>?_) (fun K i v w h1 h2 h3 h4=>?_)).trans ?_
  ·simp only[qo4,qbt,jad]
  ·simp only[qo4,h1,h2,h3,h4,jaa,zek];cases decide (v=w)<;>rfl
  ·cases decide (a=b)<;>rfl
 ·rw[qbb (show ¬Int.ofNat a.length=Int.ofNat b.length from fun h=>e (jdg h)),jat,jaa,jal (fun h=>e (jav List.length h))]
theorem zfk:Con Tryz.prog zlg za9:=zia trivial fun x y hx h=>⟨LF,(zpl x.1 x.2.1 (qb1 (c:=cCell) hx.1)).trans h⟩
theorem zha:Con Tryz.prog zhc q9a:=zi0 ⟨qm8,qnu,qqb,trivial⟩ q0e qvy fun x y hx h=>⟨0,(z1l 0 x.1).trans h⟩
theorem zq7:Con Tryz.prog zg3 zb3:=zrl ⟨qqb,q8g,qs7,q2y,qnu,trivial⟩ q0e qvy fun x y hx h=>⟨0,by
 obtain⟨h1,h2⟩:=qa5 (show cond (S.comG x.1 x.2.1) (some ((S.actsB (S.commit x.1 x.2.1)).1,(S.actsB (S.commit x.1 x.2.1)).2,())) none=some y from h);exact(zgy 0 x.1 x.2.1 h1).trans (jav some h2)⟩
theorem qgj{P:Program}{f:Nat}{p:List TC}{r:List (Bool × TC)}{g g':ElA p->Option (ElR r)}(h:Con P f ⟨p,r,g⟩)(hg:∀x y,g' x=some y->g x=some y):Con P f ⟨p,r,g'⟩ :=
 ⟨h.callable,fun M w x us y hy hM hgl hv=>h.calls M w x us y (hg x y hy) hM hgl hv⟩
section
variable (hR : Con Tryz.prog 76 qiw) (hO : Con Tryz.prog 61 qg8)
include hR in
theorem zsj:Con Tryz.prog zlk q68:=zzp ⟨qh3,qnu,hR,trivial⟩ fun x y hx h=>⟨0,(zzt 0 x.1).trans h⟩
include hO in
theorem qte:Con Tryz.prog zw5 qlw:=zl6 ⟨qm8,hO,zfk,trivial⟩ fun x y hx h=>⟨0,(z2a 0 x.1).trans h⟩
include hO in
theorem q32:Con Tryz.prog zki za4:=zjo ⟨qm8,hO,trivial⟩ fun x y hx h=>⟨0,(zuv 0 x.1).trans h⟩
include hO in
theorem zy3:Con Tryz.prog z2f q96:=zs2 ⟨qte hO,qh3,trivial⟩ fun x y hx h=>⟨LF,(zkz x.1 x.2.1 (qb1 (c:=cCell) hx.1.2.2.2)).trans h⟩
include hO in
theorem q7p:Con Tryz.prog zgv q1k:=ztw ⟨qte hO,q8g,trivial⟩ fun x y hx h=>⟨0,(z1k 0 x.1).trans h⟩
include hO in
theorem zjs:Con Tryz.prog z13 q9c:=zh1 ⟨qte hO,qwr,trivial⟩ fun x y hx h=>⟨0,(zln 0 x.1 x.2.1).trans h⟩
include hR in
theorem zsf:Con Tryz.prog zud q9u:=zht ⟨qqb,qs7,q2y,qnu,hR,trivial⟩ qvy fun x y hx h=>⟨0,by
 obtain⟨h1,h2⟩:=qa5 (show cond (S.turG x.1) (some ((S.actsB (S.turn x.1)).1,(S.actsB (S.turn x.1)).2,())) none=some y from h);exact(zyp 0 x.1 h1).trans (jav some h2)⟩
include hO in
theorem q11:Con Tryz.prog zwn q0f:=zxr ⟨quv,hO,trivial⟩ fun x y hx h=>⟨0,by
 obtain⟨h1,h2⟩:=qa5 (show cond (S.behG x.1 x.2.1) (some ((S.behind x.1 x.2.1).1,())) none=some y from h);exact(ztt 0 x.1 x.2.1 h1).trans (jav some h2)⟩
include hO in
theorem que:Con Tryz.prog zz4 qvw:=zpg ⟨zjs hO,zq7,trivial⟩ fun x y hx h=>⟨0,(zn9 0 x.1 x.2.1).trans h⟩
include hO in
theorem q37:Con Tryz.prog zy5 q77:=zur ⟨que hO,q11 hO,trivial⟩ fun x y hx h=>⟨0,(zxk 0 x.1 x.2.1).trans h⟩
include hR hO in
theorem zf0:Con Tryz.prog zo8 q3z:=zrs ⟨qte hO,zsf hR,trivial⟩ fun x y hx h=>⟨0,(z0u 0 x.1).trans h⟩
include hR hO in
theorem zng:Con Tryz.prog z0r zz7:=ztp ⟨zf0 hR hO,q11 hO,trivial⟩ fun x y hx h=>⟨0,(zt8 0 x.1).trans h⟩
include hR hO in
end
theorem zzs(lf:Nat):qvc lf=some (true,()):=by kernel_rfl
theorem q4y{a b:List qaa}(h:S.sameC a b=true):a=b:=jbd h
theorem qnz{a b:qac}(h:S.sameD a b=true):a=b:=jbd h
theorem qrj{a b:qad}(h:S.sameJ a b=true):a=b:=jbd h
theorem z0x{a b:List DAct}(h:S.sameA a b=true):a=b:=jbd h
theorem zqd:(S.plan S.madeJ S.hC).2=0:=by kernel_rfl
theorem hDo:(S.doD S.madeJ.1 (S.hL.take 4)).2=0:=by kernel_rfl
theorem hCr0:(S.crash S.hD [0]).2=0:=by kernel_rfl
theorem hCr1:(S.crash S.hD [1]).2=0:=by kernel_rfl
theorem hOp0:(S.open_ S.hLost).2=0:=by kernel_rfl
theorem hOp1:(S.open_ S.hKept).2=0:=by kernel_rfl
theorem hOpE:S.sameD S.hKept S.hLost=false:=by kernel_rfl
theorem hOpF:S.sameD S.hLost S.hLost=true:=by kernel_rfl
theorem hCom:(S.commitJ S.hY S.hG).2=0:=by kernel_rfl
theorem zxu:S.room S.hZ=(0,0):=by kernel_rfl
theorem z1b:(S.turnJ S.hZ).2=0:=by kernel_rfl
theorem zu1{d:qac}{k:List Int}(h:S.gCrash d k=true):some ((S.crash d k).1,(S.crash d k).2,())=some (S.hCr k,(0:Int),()):=by
 unfold S.gCrash at h;rw[jae,jed] at h;have e1:=qnz h.1;subst e1;rcases h.2 with e2|e2
 ·have e2:=jbd e2;subst e2;rw[hCr0];rfl
 ·have e2:=jbd e2;subst e2;rw[hCr1];rfl
section
variable (hR : Con Tryz.prog 76 qiw) (hO : Con Tryz.prog 61 qg8)
include hO in
theorem zuk:Con Tryz.prog 24 q3v:=qgj (que hO) fun x y h=>by
 obtain⟨h1,rfl⟩:=qa5 (show cond (S.gPlan x.1 x.2.1) (some (S.hL,(0:Int),())) none=some y from h);obtain⟨a,b,_⟩:=x;unfold S.gPlan at h1;rw[jae] at h1;have e1:=qrj h1.1;have e2:=q4y h1.2;show some ((S.plan a b).1,(S.plan a b).2,())=_;rw[show a=S.madeJ from e1,show b=S.hC from e2,zqd];rfl
theorem zv6:Con Tryz.prog 32 q08:=qgj quv fun x y h=>by
 obtain⟨h1,rfl⟩:=qa5 (show cond (S.gDo x.1 x.2.1) (some (S.hD,(0:Int),())) none=some y from h);obtain⟨a,b,_⟩:=x;unfold S.gDo at h1;rw[jae] at h1;have e1:=qnz h1.1;have e2:=z0x h1.2;show some ((S.doD a b).1,(S.doD a b).2,())=_;rw[show a=S.madeJ.1 from e1,show b=S.hL.take 4 from e2,hDo];rfl
theorem zuu:Con Tryz.prog 34 q2b:=qgj zo6 fun x y h=>by
 obtain⟨h1,rfl⟩:=qa5 (show cond (S.gCrash x.1 x.2.1) (some (S.hCr x.2.1,(0:Int),())) none=some y from h);exact zu1 h1
include hO in
theorem zs1:Con Tryz.prog 13 q8t:=qgj (q32 hO) fun x y h=>by
 obtain⟨h1,rfl⟩:=qa5 (show cond (S.gOpen x.1) (some (S.hOp x.1,(0:Int),())) none=some y from h);obtain⟨a,_⟩:=x;unfold S.gOpen at h1;rw[jed] at h1;show some ((S.open_ a).1,(S.open_ a).2,())=some (cond (S.sameD a S.hLost) S.hX S.hY,0,());rcases h1 with e|e
 ·rw[show a=S.hLost from qnz e,hOp0,hOpF];rfl
 ·rw[show a=S.hKept from qnz e,hOp1,hOpE];rfl
include hO in
theorem zgw:Con Tryz.prog 26 q06:=qgj (q37 hO) fun x y h=>by
 obtain⟨h1,rfl⟩:=qa5 (show cond (S.gCom x.1 x.2.1) (some (S.hZ,(0:Int),())) none=some y from h);obtain⟨a,b,_⟩:=x;unfold S.gCom at h1;rw[jae] at h1;have e1:=qrj h1.1;have e2:=q4y h1.2;show some ((S.commitJ a b).1,(S.commitJ a b).2,())=_;rw[show a=S.hY from e1,show b=S.hG from e2,hCom];rfl
include hO in
theorem zts:Con Tryz.prog 20 q14:=qgj (q7p hO) fun x y h=>by
 obtain⟨h1,rfl⟩:=qa5 (show cond (S.gZ x.1) (some ((0:Int),(0:Int),())) none=some y from h);obtain⟨a,_⟩:=x;show some ((S.room a).1,(S.room a).2,())=_;rw[show a=S.hZ from qrj h1,zxu];rfl
include hR hO in
theorem zkf:Con Tryz.prog 41 zbb:=qgj (zng hR hO) fun x y h=>by
 obtain⟨h1,rfl⟩:=qa5 (show cond (S.gZ x.1) (some (S.hT,(0:Int),())) none=some y from h);obtain⟨a,_⟩:=x;show some ((S.turnJ a).1,(S.turnJ a).2,())=_;rw[show a=S.hZ from qrj h1,z1b];rfl
include hR hO in
theorem zt5:Con Tryz.prog zzh q2i:=zxp ⟨zsj hR,zha,quv,q32 hO,trivial⟩ fun x y hx h=>⟨0,by
 obtain⟨h1,rfl⟩:=qa5 (show cond (S.inI x.1 8 8) (some (S.madeJ,true,())) none=some y from h);obtain⟨h2,h3⟩:=qay.1 h1;rw[show x.1=(8:Int) from Int.le_antisymm h3 h2];exact zyn 0⟩
include hR hO in
theorem zxv:Con Tryz.prog zl4 q3e:=zig ⟨zt5 hR hO,qwr,zuk hO,zv6,zuu,zs1 hO,zgw hO,zts hO,zkf hR hO,trivial⟩ fun x y hx h=>⟨0,(zzs 0).trans h⟩
end
def q1l:Sm:=⟨[cJournal,.int .i64,.list cCell],[(false,.bool)],fun _=>some (true,())⟩
section
variable (hR : Con Tryz.prog 76 qiw) (hO : Con Tryz.prog 61 qg8)
include hR hO in
include hR hO in
include hR hO in
theorem zqn:Con Tryz.prog zes q1l:=zgp ⟨zxv hR hO,zwi,zfu,zy3 hO,zyy,q7p hO,z02,qwr,zd8,que hO,zfe,q37 hO,zu3,zf9,za1,trivial⟩ fun x y hx h=>⟨0,(zn2 0 x.1 x.2.1 x.2.2.1).trans h⟩
include hR hO in
end
end Go.Proofs.YtnhmanoiolfapaaGreat
end

section
namespace Go.Sx
open Go Go.RowKit
section
variable {P : Program} {n : Nat} {σ : Nat -> Value} {w : World} {Q : Exit -> Act -> World -> Prop} {ops : Array Oper} {rest : List Oper} {d : Nat} {ty : TypeId} {pos : String} {aft : Array Edge} {g : Option (Nat × Bool)}
theorem q7d{x y:Operand}{u v:Value}{T T':TypeId}{m:Nat}{w':World}(hg:qao ops σ n g=true)(hx:okO n x=true)(ex:ev σ x=u)(hy:okO n y=true)(ey:ev σ y=v)
  (hr:(Builtin.copy_ #[T,T'] ty #[u,v]).run P w=.ok (goInt m) w') (k:wpList P ops Q rest (Fr n (upd σ d (.int .i64 m))) w'):wpList P ops Q (⟨some d,.call ⟨.builtin .copy,#[x,y],#[T,T']⟩,ty,pos,aft,g⟩::rest) (Fr n σ) w :=
 qbd hg (by
  have h1:(#[x,y].map (Fr n σ).eval)=#[u,v]:=by simp[qas hx,qas hy,ex,ey]
  simp only[execOp,resolve,h1,invoke,builtin,jag,jaf,jab,hr,goInt]) k
theorem zho{x y:Operand}{u v r:Value}{T:TypeId}{w':World}(hg:qao ops σ n g=true)(hx:okO n x=true)(ex:ev σ x=u)(hy:okO n y=true)(ey:ev σ y=v)
  (hr:(Instr.makeSlice T u v).run P w=.ok r w') (k:wpList P ops Q rest (Fr n (upd σ d r)) w'):wpList P ops Q (⟨some d,.makeSlice T x y,ty,pos,aft,g⟩::rest) (Fr n σ) w :=
 qbd hg (by
  simp only[execOp,qas hx,qas hy,ex,ey,jag,jaf,jab,hr]) k
end
end Go.Sx
end

section
namespace Go.Sx
open Go Go.RowKit
section
variable {P : Program} {ops : Array Oper} {md : Region.Mode} {Q : Exit -> Act -> World -> Prop}
def KOne(K:Act->World->Prop):Exit->Act->World->Prop:=fun e a w=>e=.normal/\K a w
theorem zn3{o:Oper}{a:Act}{K K':Act->World->Prop}{r:Result Next}(hK:∀a w,K' a w->K a w)(h:o.upon P a K' (KOne K) r):o.upon P a K Q r:=by
 cases r with
 | ok v w' =>
  cases v with
  | value v=>exact hK _ _ h
  | skip=>exact hK _ _ h
  | defer d=>exact hK _ _ h
  | enter f args =>
   refine Calls.mono h fun e w'' he=>?_;cases e with
   | returned v=>exact hK _ _ he
   | panicked c=>cases he.1
   | outgrown=>obtain⟨_,_,h1,_⟩:=he;cases h1
  | row row args=>exact Rows.mono h fun v w'' he=>hK _ _ he
  | _=>exact h
 | halt x w'=>cases x<;>first|exact h|exact absurd h.1 (by simp)
theorem zqa{i:Nat}{o:Oper}{a:Act}{w:World}{K:Act->World->Prop}(hi:ops[i]?=some o)(h:wpList P ops (KOne K) [o] a w):wpOp P ops Q i K a w:=by
 unfold wpOp;simp only[hi];unfold wpList at h;split at h
 ·rename_i hw;rw[jao hw];rcases h with h|⟨_,_,_,h,_⟩
  ·exact .inl (zn3 (fun a w h=>h.2) h)
  ·cases h
 ·rename_i hw;rw[jan hw];exact h.2
end
end Go.Sx
end

section
set_option maxRecDepth 100000
namespace Go.Sx
open Go Go.RowKit
section
variable {P : Program} {n : Nat} {σ : Nat -> Value} {w : World} {ops : Array Oper} {rest : List Oper} {d : Nat} {ty : TypeId} {pos : String} {aft : Array Edge} {g : Option (Nat × Bool)}
theorem q5p{T E:TypeId}{size bytes s2 b2:Nat}{zero z2:Value}{E':TypeDesc}{a:Addr}{len cap k:Nat}{kk:IntKind}(hT:Ty P T (.slice E) size bytes zero)(hE:Ty P E E' s2 b2 z2)(hk:k<cap)(hl:k<=len)(hc:len<=cap) :
  (Instr.sliceAt T (.slice (some a) len cap) (some (.int kk (k:Nat))) none none).run P w=.ok (.slice (some (a.add (k*s2))) (len-k) (cap-k)) w:=by
 have h1:(0:Int)<=(k:Nat)/\((k:Nat):Int)<=len:=⟨by omega,by omega⟩;have h2:¬cap-k=0:=by omega
 have h3:¬cap=k:=by omega
 simp only[Instr.sliceAt,jag,jap hT.und,jab,Instr.slice,Instr.sliceBounds,Instr.sliceBound,asIntOf,jaf,h1,je1,jcy,run_sizeOf hE];simp[h3]
theorem zpw{Q:Exit->Act->World->Prop}{T E:TypeId}{size bytes s2 b2:Nat}{zero z2:Value}{E':TypeDesc}{x y:Operand}{a:Addr}{len cap k:Nat}{kk:IntKind}(hT:Ty P T (.slice E) size bytes zero)(hE:Ty P E E' s2 b2 z2)
  (hg:qao ops σ n g=true) (hx:(okO n x&&okO n y)=true) (ex:ev σ x=.slice (some a) len cap) (ey:ev σ y=.int kk (k:Nat)) (hk:k<cap) (hl:k<=len) (hc:len<=cap)
  (kt:wpList P ops Q rest (Fr n (upd σ d (.slice (some (a.add (k*s2))) (len-k) (cap-k)))) w):wpList P ops Q (⟨some d,.slice T x (some y) none none,ty,pos,aft,g⟩::rest) (Fr n σ) w:=by
 simp only[jae] at hx;exact qbd hg (by simp only[execOp,qas hx.1,ex,Option.map_none,jc8,qas hx.2,ey,q5p hT hE hk hl hc,jag,jaf,jab]) kt
theorem zno{Q:Exit->Act->World->Prop}{T E:TypeId}{size bytes s2 b2:Nat}{zero z2:Value}{E':TypeDesc}{x y:Operand}{a:Option Addr}{len cap k:Nat}{kk:IntKind}(hT:Ty P T (.slice E) size bytes zero)(hE:Ty P E E' s2 b2 z2)
  (hg:qao ops σ n g=true) (hx:(okO n x&&okO n y)=true) (ex:ev σ x=.slice a len cap) (ey:ev σ y=.int kk (k:Nat)) (hk:k<=cap)
  (kt:wpList P ops Q rest (Fr n (upd σ d (.slice a k cap))) w):wpList P ops Q (⟨some d,.slice T x none (some y) none,ty,pos,aft,g⟩::rest) (Fr n σ) w:=by
 simp only[jae] at hx;exact qbd hg (by simp only[execOp,qas hx.1,ex,Option.map_none,jc8,qas hx.2,ey,zye hT hE hk,jag,jaf,jab]) kt
theorem qgr{md:Region.Mode}{Q:Exit->Act->World->Prop}{op:Op}{v:Value}{i fuel:Nat}{listed:Array Bool}(hi:ops[i]?=some ⟨some d,op,ty,pos,aft,g⟩)(hp:qi3 op=true)(hd:Nat.blt d n=true)(hg:qao ops σ n g=true)
  (hb:(Region.noSelect ops&&(Region.free md ops listed i&&(Region.ready md ops listed).contains i))=true) (hQ:∀c a w,¬Q (.panic c) a w)
  (h:∀w1,wpList P ops (QOne n σ d v w1) [⟨some d,op,ty,pos,aft,g⟩] (Fr n σ) w1)
  (k:wpAny P md ops Q fuel (listed.setIfInBounds i true) (Fr n (upd σ d v)) w):wpAny P md ops Q (fuel+1) listed (Fr n σ) w:=by
 simp only[jae] at hb;have hd':d<n:=by simpa using hd
 refine wpAny_take (v:=v) hi hb.1 hb.2.1 hb.2.2 (fun c a w h=>absurd h (hQ c _ w)) (.inl ⟨qfo hg,fun w1=>?_⟩) (by show wpAny P md ops Q fuel _ ((Fr n σ).put (some d) v) w;rw[qeb];exact k);have h1:=h w1;unfold wpList at h1;rw[qfo (o:=⟨some d,op,ty,pos,aft,g⟩) hg,jao rfl] at h1;rcases h1 with h1|⟨_,a,w',h1,_⟩
 ·unfold Oper.wp at h1;cases hr:(execOp (Fr n σ).eval ⟨some d,op,ty,pos,aft,g⟩).run P w1 with
  | ok x w' =>
   rw[hr] at h1;cases x with
   | value u =>
    rw[Oper.upon_value,qeb] at h1;obtain⟨_,h2,h3⟩:=h1;rw[h3,qxb hd' h2]
   | skip =>
    obtain⟨u,hu⟩:=qw0 hp hr;cases hu
   | _=>obtain⟨u,hu⟩:=qw0 hp hr;cases hu
  | halt x w'=>rw[hr] at h1;cases x<;>first|exact h1.elim|(obtain⟨h2,_⟩:=h1;cases h2)
 ·cases h1
theorem qxk{md:Region.Mode}{Q:Exit->Act->World->Prop}{o:Oper}{i fuel:Nat}{listed:Array Bool}{a:Act}(hi:ops[i]?=some o)(hr:Region.ready md ops listed=[i])
  (h:wpList P ops (KOne fun a' w'=>wpAny P md ops Q fuel (listed.setIfInBounds i true) a' w') [o] a w):wpAny P md ops Q (fuel+1) listed a w :=
 wpAny_all hr (by simp) fun j hj=>by
  have:j=i:=by simpa using hj
  subst this;exact zqa hi h
theorem qyy{V Z:Value}:∀(k n m:Nat),k<=m->putL (List.replicate n V++List.replicate m Z) n (List.replicate k V)=List.replicate (n+k) V++List.replicate (m-k) Z
 | 0,n,m,h=>by simp[putL]
 | k+1,n,m,h=>by
  obtain⟨m',rfl⟩:∃m',m=m'+1:=⟨m-1,by omega⟩;have e:(List.replicate n V++List.replicate (m'+1) Z).set n V=List.replicate (n+1) V++List.replicate m' Z:=by
   rw[List.set_append_right (h:=by simp)];rw[List.replicate_succ' (n:=n),jaz];simp only[ja9,jdz,jfd (n:=m'),List.set_cons_zero];rfl
  show putL ((List.replicate n V++List.replicate (m'+1) Z).set n V) (n+1) (List.replicate k V)=_;rw[e,qyy k (n+1) m' (by omega)];rw[show n+1+k=n+(k+1) by omega,show m'+1-(k+1)=m'-k by omega]
theorem q7t{dT sT ty elem:TypeId}{β o dLen dCap sLen sCap:Nat}{a:Addr}{cs xs:List Value}(hu:P.underlying dT=some (.slice elem))(hs:(P.info? elem).map (·.size)=some 1)(hb:Box w β cs)(hn:xs.length=Nat.min sLen dLen)
  (hsrc:∀j v,xs[j]?=some v->w.cell? (a.add j)=some v) (hl:o+xs.length<=cs.length) (h1:xs.all one=true) :
  ∃w',(Builtin.copy_ #[dT,sT] ty #[.slice (some ⟨β,o,none⟩) dLen dCap,.slice (some a) sLen sCap]).run P w=.ok (goInt xs.length) w'/\Box w' β (putL cs o xs)/\Upd [β] w w'/\w'.heap.size=w.heap.size:=by
 have hld:=run_loadCells_list (P:=P) w a xs hsrc;obtain⟨w',q1,q2,q3,q4⟩:=run_store (P:=P) xs o 0 hb (by simpa using hl) h1;refine⟨w',?_,by simpa using q2,q3,q4⟩;cases hq:P.info? elem with
 | none=>simp [hq] at hs
 | some i =>
  have hi:i.size=1:=by simpa [hq] using hs
  simp[Builtin.copy_,jap hu,Builtin.lenOf,Builtin.firstCells,sizeOf,typeInfo,hq,hi,<- hn,hld,q1]
end
end Go.Sx
namespace Go.Proofs.YtnhmanoiolfapaaGreat
open Go Go.Sx Go.RowKit Go.Jx
theorem zf3:qaf Tryz.prog 102:=⟨_,Tryz.func102,by kernel_rfl,by kernel_rfl⟩
theorem zgh(x y:Nat)(hx:x<18446744073709551616)(hy:y<18446744073709551616)(w:World) :
  Calls Tryz.prog 102 #[.int .u64 x,.int .u64 y] w (Ret fun v w'=>v=.tuple #[.int .u64 ((x*y / 18446744073709551616:Nat):Int),.int .u64 ((x*y % 18446744073709551616:Nat):Int)]/\w'=w) :=
 (Any.bits_Mul (P:=Tryz.prog) (ρ:=qzr) { zei with } x y hx hy w).mono fun e w' h=>by
  obtain⟨rfl,rfl⟩:=h;exact⟨rfl,rfl⟩
theorem zo3(c:Nat)(hc:c<=1000)(w:World):(Instr.makeSlice 22 (.int .i64 (c:Int)) (.int .i64 (c:Int))).run Tryz.prog w=.ok (.slice (some ⟨w.heap.size,0,none⟩) c c) (w.alloc (.cells (madeCells #[.string ⟨#[]⟩] (c*1)) 9)):=by
 obtain⟨i,h1,h2,h3,h4⟩:=ty9.inf;have h2:i.size=1:=h2;have h3:i.bytes=16:=h3;have:=run_makeSlice (P:=Tryz.prog) w 22 9 i (.string ⟨#[]⟩) ty22.und h1 h4 .i64 .i64 c c (by omega) (jbq _) (by rw[h2];omega) (by rw[h3];omega) (by omega);rw[h2] at this;exact this
theorem zmc(c:Nat)(w:World):Box (w.alloc (.cells (madeCells #[.string ⟨#[]⟩] (c*1)) 9)) w.heap.size (List.replicate c (.string ⟨#[]⟩)):=by
 refine⟨9,?_⟩;rw[jcw];have:madeCells #[.string ⟨#[]⟩] (c*1)=(List.replicate c (Value.string ⟨#[]⟩)).toArray:=by
  unfold madeCells;apply jea
  ·simp
  ·intro i h1 h2;simp[Nat.mod_one]
 rw[this]
theorem zgt(c:Nat)(w:World):Upd [] w (w.alloc (.cells (madeCells #[.string ⟨#[]⟩] (c*1)) 9)):=Upd.alloc _ _
theorem nmin(a b:Nat):Nat.min a b<=a/\Nat.min a b<=b/\(Nat.min a b=a\/Nat.min a b=b):=by
 have e:Nat.min a b=min a b:=rfl;rw[e];omega
theorem si9:(Tryz.prog.info? 9).map (·.size)=some 1:=by
 obtain⟨i,h1,h2,_⟩:=ty9.inf;have h2:i.size=1:=h2;rw[h1,jc8,h2]
theorem q5x(s:ByteArray)(k:Nat):(List.replicate k (Value.string s)).all Go.Sx.one=true:=by
 rw[jbj];intro x hx;rw[List.eq_of_mem_replicate hx];rfl
theorem zgr{c cap ty:Nat}{w:World}{a:Addr}{s:ByteArray}{β:Nat}(hs:w.cell? a=some (.string s))(hb:Box w β (List.replicate c (.string ⟨#[]⟩))) :
  ∃w',(Builtin.copy_ #[22,22] ty #[.slice (some ⟨β,0,none⟩) c c,.slice (some a) 1 cap]).run Tryz.prog w=.ok (goInt (Nat.min 1 c)) w'/\Box w' β (List.replicate (Nat.min 1 c) (.string s)++List.replicate (c-Nat.min 1 c) (.string ⟨#[]⟩))/\Upd [β] w w'/\w'.heap.size=w.heap.size:=by
 have hnm:=nmin 1 c;have ha:a.spot=none:=by
  unfold World.cell? at hs;split at hs
  ·cases h:a.spot with
   | none=>rfl
   | some x=>rw[h] at hs;cases hs
  ·cases hs
 obtain⟨w',q1,q2,q3,q4⟩:=q7t (P:=Tryz.prog) (dT:=22) (sT:=22) (ty:=ty) (elem:=9) (β:=β) (o:=0) (dLen:=c) (dCap:=c) (sLen:=1) (sCap:=cap) (a:=a) (xs:=List.replicate (Nat.min 1 c) (.string s)) ty22.und si9 hb (by rw[ja9]) (fun j v hj=>by
  have hj1:j<Nat.min 1 c:=by
   have:=(jbc.1 hj).1;simpa using this
  have:j=0:=by omega
  subst this;rw[jac (by simpa using hj1)] at hj;simp at hj;rw[qbj _ ha,<- hj];show w.cell? ⟨a.block,a.off+0,none⟩=_;rw[jb7,<- ha];exact hs) (by rw[ja9,ja9];omega) (q5x _ _)
 rw[ja9] at q1;refine⟨w',q1,?_,q3,q4⟩;have:=qyy (V:=.string s) (Z:=.string ⟨#[]⟩) (Nat.min 1 c) 0 c (jfs _ _);rw[jbp] at this;rw[<- this];exact q2
theorem zw7{dT sT ty c n:Nat}{w:World}{s:ByteArray}{β:Nat}(hlt:n<c)(hn:1<=n)(hb:Box w β (List.replicate n (.string s)++List.replicate (c-n) (.string ⟨#[]⟩)))(hd:dT=22:=by rfl) :
  ∃w',(Builtin.copy_ #[dT,sT] ty #[.slice (some ((⟨β,0,none⟩:Addr).add (n*1))) (c-n) (c-n),.slice (some ⟨β,0,none⟩) n c]).run Tryz.prog w=.ok (goInt (Nat.min n (c-n))) w'/\Box w' β (List.replicate (n+Nat.min n (c-n)) (.string s)++List.replicate (c-n-Nat.min n (c-n)) (.string ⟨#[]⟩))/\Upd [β] w w'/\w'.heap.size=w.heap.size:=by
 subst hd;have hnm:=nmin n (c-n);have e:(⟨β,0,none⟩:Addr).add (n*1)=⟨β,n,none⟩:=by rw[qbj _ rfl];simp
 rw[e];obtain⟨w',q1,q2,q3,q4⟩:=q7t (P:=Tryz.prog) (dT:=22) (sT:=sT) (ty:=ty) (elem:=9) (β:=β) (o:=n) (dLen:=c-n) (dCap:=c-n) (sLen:=n) (sCap:=c) (a:=⟨β,0,none⟩) (xs:=List.replicate (Nat.min n (c-n)) (.string s)) ty22.und si9 hb (by rw[ja9]) (fun j v hj=>by
  have hj1:j<Nat.min n (c-n):=by
   have:=(jbc.1 hj).1;simpa using this
  rw[jac (by simpa using hj1)] at hj;simp at hj;rw[qbj _ rfl,hb.cell,<- hj,jay (by rw[ja9];show 0+j<n;omega)];rw[List.getElem?_replicate,jao (show 0+j<n by omega)]) (by rw[jah,ja9,ja9,ja9];omega) (q5x _ _)
 rw[ja9] at q1;exact⟨w',q1,by rw[<- qyy _ _ _ (jfs n (c-n))];exact q2,q3,q4⟩
section
attribute [local irreducible] Go.wpList Go.wpQuiet Go.Code.wp
theorem zxq(s:ByteArray)(c:Nat)(hc:c<=1000){a:Addr}{cap:Nat}{w:World}(hcell:w.cell? a=some (.string s)) :
  Calls Tryz.prog 76 #[.slice (some a) 1 cap,.int .i64 c] w (Ret fun v w'=>∃β,w.heap.size<=β/\v=.slice (some ⟨β,0,none⟩) c c/\Box w' β (List.replicate c (.string s))/\Upd [] w w'):=by
 refine(enter (l:=[.slice (some a) 1 cap,.int .i64 c]) Tryz.func76 rfl Tryz.ntmps76 rfl ?_);refine qak fun K1 hK1=>?_;refine qau ?_;refine qa6 (v:=.slice none 0 0) rfl rfl rfl ?_;refine jbf ?_;refine hK1 _ _ ?_;refine qak fun K2 hK2=>?_;refine qak fun K3 hK3=>?_;refine qau ?_;refine qaw (v:=.int .i64 (c:Int)) rfl rfl rfl ?_;refine q0m rfl rfl rfl rfl ?_;refine jbf ?_;refine hK3 _ _ ?_;refine c_if rfl rfl (fun hb=>absurd hb (by omega)) (fun _=>?_);refine je6 ?_;refine hK2 _ _ ?_;refine qak fun K4 hK4=>?_;refine qau ?_;refine qaw (v:=.slice (some a) 1 cap) rfl rfl rfl ?_;refine qyl ty22 rfl rfl rfl ?_;refine q6b ty3.und qos.und rfl rfl rfl (by decide) (by decide) ?_;refine qaw (v:=.int .i64 (c:Int)) rfl rfl rfl ?_;refine q6b ty3.und qos.und rfl rfl rfl (by omega) (by omega) ?_;refine qgs (l:=[.tmp 15,.tmp 17]) (args:=[.int .u64 ((1:Nat):Int),.int .u64 (c:Int)]) zf3 rfl rfl rfl (zgh 1 c (by omega) (by omega) w) ?_;rintro _ w2 ⟨rfl,hw2⟩;subst w2;have e1:1*c / 18446744073709551616=0:=by omega
 have e2:1*c % 18446744073709551616=c:=by omega
 rw[e1,e2];refine qaw (v:=.tuple #[.int .u64 ((0:Nat):Int),.int .u64 (c:Int)]) rfl rfl rfl ?_;refine qhr (v:=.int .u64 ((0:Nat):Int)) rfl rfl rfl rfl ?_;refine qhr (v:=.int .u64 (c:Int)) rfl rfl rfl rfl ?_;refine qa6 (v:=.int .u64 ((0:Nat):Int)) rfl rfl rfl ?_;refine qa6 (v:=.int .u64 (c:Int)) rfl rfl rfl ?_;refine jbf ?_;refine hK4 _ _ ?_;refine qak fun K5 hK5=>?_;refine qak fun K6 hK6=>?_;refine qau ?_;refine qaw (v:=.int .u64 ((0:Nat):Int)) rfl rfl rfl ?_;refine qpu rfl rfl rfl rfl ?_;refine qaw (v:=.bool false) rfl rfl rfl ?_;refine qaw (v:=.int .u64 (c:Int)) rfl rfl rfl ?_;refine qpu rfl rfl rfl rfl ?_;refine qz9 (v:=.bool false) rfl rfl rfl (jav Value.bool (jal (by omega))) ?_;refine jbf ?_;refine hK6 _ _ ?_;refine qm5 rfl rfl ?_;refine je6 ?_;refine hK5 _ _ ?_;refine qak fun K7 hK7=>?_;refine qau ?_;refine qaw (v:=.int .u64 (c:Int)) rfl rfl rfl ?_;refine zto qos.und ty3.und rfl rfl rfl (by omega) ?_;refine zho (u:=.int .i64 (c:Int)) (v:=.int .i64 (c:Int)) rfl rfl rfl rfl rfl (zo3 c hc w) ?_;have hw1:=zmc c w;have hu1:=zgt c w;generalize w.alloc (.cells (madeCells #[.string ⟨#[]⟩] (c*1)) 9)=w1 at hw1 hu1;generalize hβ:w.heap.size=β at hw1;refine qa6 (v:=.slice (some ⟨β,0,none⟩) c c) rfl rfl (by rw[<- hβ];rfl) ?_;refine jbf ?_;refine hK7 _ _ ?_;refine qak fun K8 hK8=>?_;refine qau ?_;refine qaw (v:=.slice (some ⟨β,0,none⟩) c c) rfl rfl rfl ?_;refine qaw (v:=.slice (some a) 1 cap) rfl rfl rfl ?_;have hsrc1:w1.cell? a=some (.string s):=by
  have:a.block<w.heap.size:=by
   unfold World.cell? at hcell;split at hcell
   ·rename_i h;exact qar h
   ·cases hcell
  unfold World.cell? at hcell ⊢;rw[hu1.same _ this (by simp)];exact hcell
 obtain⟨w3,g1,g2,g3,g4⟩:=zgr (cap:=cap) hsrc1 hw1;refine q7d rfl rfl rfl rfl rfl g1 ?_;refine qa6 (v:=.int .i64 ((Nat.min 1 c:Nat):Int)) rfl rfl rfl ?_;refine jbf ?_;refine hK8 _ _ ?_;have hext:∀{w4:World},Upd [β] w1 w4->Upd [] w w4:=fun u4=>⟨u4.os.trans hu1.os,u4.tape.trans hu1.tape,u4.output.trans hu1.output,jbl hu1.size u4.size,fun x hx hn=>(u4.same x (jbi hx hu1.size) (by simp;omega)).trans (hu1.same x hx (by simp))⟩;have hnm:=nmin 1 c;refine qak fun K9 hK9=>?_;refine wp_block ?_;refine q0j (X:=Nat) (8::(List.range 47).drop 34) (fun n=>[(8,.int .i64 (n:Int))]) (fun n w4=>(n<=c/\(c=0\/1<=n))/\Box w4 β (List.replicate n (.string s)++List.replicate (c-n) (.string ⟨#[]⟩))/\Upd [β] w1 w4) (fun n=>c-n) (Nat.min 1 c) ⟨rfl,trivial⟩ ⟨⟨jfs _ _,by omega⟩,g2,g3⟩ ?_;rintro n τ w4 ⟨⟨hn1,hn2⟩,hx4,hu4⟩;refine qak fun K10 hK10=>?_;refine qak fun K11 hK11=>?_;refine qau ?_;refine qaw (v:=.int .i64 (n:Int)) rfl rfl rfl ?_;refine qaw (v:=.slice (some ⟨β,0,none⟩) c c) rfl rfl rfl ?_;refine qyl ty22 rfl rfl rfl ?_;refine q0m rfl rfl rfl rfl ?_;refine jbf ?_;refine hK11 _ _ ?_;refine c_if rfl rfl (fun hb=>?_) (fun hb=>?_)
 ·refine je6 ?_;refine hK10 _ _ ?_;have hlt:n<c:=by omega
  have hn:1<=n:=by omega
  have hnn:=nmin n (c-n);refine wp_block ?_;refine wp_region_any mixed ?_;refine qgr (i:=0) (v:=.int .i64 (n:Int)) rfl rfl rfl rfl (by kernel_rfl) (fun c a w h=>(show _/\False from h).2) (fun w1=>qaw (v:=.int .i64 (n:Int)) rfl rfl rfl q1) ?_;refine qgr (i:=1) (v:=.slice (some ⟨β,0,none⟩) c c) rfl rfl rfl rfl (by kernel_rfl) (fun c a w h=>(show _/\False from h).2) (fun w1=>qaw (v:=.slice (some ⟨β,0,none⟩) c c) rfl rfl rfl q1) ?_;refine qgr (i:=2) (v:=.int .i64 (n:Int)) rfl rfl rfl rfl (by kernel_rfl) (fun c a w h=>(show _/\False from h).2) (fun w1=>qaw (v:=.int .i64 (n:Int)) rfl rfl rfl q1) ?_;refine qgr (i:=3) (v:=.slice (some ((⟨β,0,none⟩:Addr).add (n*1))) (c-n) (c-n)) rfl rfl rfl rfl (by kernel_rfl) (fun c a w h=>(show _/\False from h).2) (fun w1=>zpw ty22 ty9 rfl rfl rfl rfl hlt hn1 (jas _) q1) ?_;refine qgr (i:=4) (v:=.slice (some ⟨β,0,none⟩) c c) rfl rfl rfl rfl (by kernel_rfl) (fun c a w h=>(show _/\False from h).2) (fun w1=>qaw (v:=.slice (some ⟨β,0,none⟩) c c) rfl rfl rfl q1) ?_;refine qgr (i:=5) (v:=.int .i64 (n:Int)) rfl rfl rfl rfl (by kernel_rfl) (fun c a w h=>(show _/\False from h).2) (fun w1=>qaw (v:=.int .i64 (n:Int)) rfl rfl rfl q1) ?_;refine qgr (i:=6) (v:=.slice (some ⟨β,0,none⟩) n c) rfl rfl rfl rfl (by kernel_rfl) (fun c a w h=>(show _/\False from h).2) (fun w1=>zno ty22 ty9 rfl rfl rfl rfl hn1 q1) ?_;have hx5:=hx4.mono0 (Upd.drew [] w4);have u5:=Upd.drew [] w4;generalize ({ w4 with drawn:=w4.drawn+1 }:World)=w5 at hx5 u5;obtain⟨w6,r1,r2,r3,r4⟩:=zw7 (dT:=22) (sT:=22) (c:=c) hlt hn hx5;refine qxk (i:=7) rfl (by kernel_rfl) ?_;refine q7d rfl rfl rfl rfl rfl r1 ?_;refine jbf ⟨rfl,?_⟩;refine qxk (i:=8) rfl (by kernel_rfl) ?_;refine z1a rfl rfl rfl rfl (by omega) ?_;refine jbf ⟨rfl,?_⟩;refine qxk (i:=9) rfl (by kernel_rfl) ?_;refine qa6 (v:=.int .i64 ((n+Nat.min n (c-n):Nat):Int)) rfl rfl (jav (Value.int .i64) (by omega)) ?_;refine jbf ⟨rfl,?_⟩;refine wpAny_done (by kernel_rfl) ?_ _;refine⟨n+Nat.min n (c-n),by show c-(n+Nat.min n (c-n))<c-n;omega,⟨⟨by omega,by omega⟩,by rw[show c-(n+Nat.min n (c-n))=c-n-Nat.min n (c-n) by omega];exact r2,(hu4.trans (u5.mono (by simp))).trans r3⟩,_,rfl,(by repeat first|exact qbh.refl _ _|refine qbh.upd rfl ?_|refine qbh.upds rfl ?_|refine qbh.mix rfl ?_),rfl,trivial⟩
 ·refine wp_exit ?_;have hnc:n=c:=by omega
  subst hnc;refine hK9 _ _ ?_;refine qak fun K12 hK12=>?_;refine qau ?_;refine qaw (v:=.slice (some ⟨β,0,none⟩) n n) rfl rfl rfl ?_;refine qa6 (v:=.slice (some ⟨β,0,none⟩) n n) rfl rfl rfl ?_;refine jbf ?_;refine hK12 _ _ ?_;refine je8 ?_;refine ret1 Tryz.results76 rfl ⟨β,by omega,rfl,?_,hext hu4⟩;rw[jdz,jfc,jbo] at hx4;exact hx4
end
theorem zp5:Con Tryz.prog 76 qiw :=
 ⟨zuj,fun M w x us y hy hM hg hv=>by
  obtain⟨l,n,_⟩:=x;obtain⟨hk,rfl⟩:=qa5 (show cond (decide (l.length=1)&&S.inI n 0 1000) (some (List.replicate n.toNat (l.getD 0 S.none_),())) none=some y from hy);simp only[jae,jcg,S.inI] at hk;obtain⟨h1,h2,h3⟩:=hk;obtain⟨s,rfl⟩:∃s,l=[s]:=by
   cases l with
   | nil=>cases h1
   | cons s r=>cases r with
    | nil=>exact⟨s,rfl⟩
    | cons _ _=>simp at h1
  have hni:∃c:Nat,(show Int from n)=(c:Int):=⟨Int.toNat n,(Int.toNat_of_nonneg h2).symm⟩;obtain⟨c,hc0⟩:=hni;have hc0:n=Int.ofNat c:=hc0;subst hc0;have h3:(c:Int)<=1000:=h3;obtain⟨u1,us1,rfl,a1,a2⟩:=hv.inv;obtain⟨u2,us2,rfl,a3,a4⟩:=a2.inv;obtain rfl:us2=[]:=ja4.1 a4.1.symm;cases a3;cases a1 with
  | lst us q1 q2 q3 hb hh hc hu =>
  have hcell:=hc 0 (by simp) 0 (by decide);have hus:=hu 0 (by simp) 0 Nat.zero_lt_one;rename_i b off cap cells t fz;have hsz:s.size<9223372036854775808/\us 0 0=.string s:=by
   have hus:VR (EM M w) (.str s) (us 0 0):=hus;generalize us 0 0=u at hus;cases hus with
   | str _ h=>exact⟨h,rfl⟩
  rw[hsz.2] at hcell;have hcw:w.cell? ⟨b,off,none⟩=some (.string s):=by
   have hh:w.heap[b]?=some (.cells cells t fz):=hh;unfold World.cell?;rw[hh];simpa using hcell
  refine(jdl.2 (zxq s c (by omega) (cap:=cap) hcw)).mono fun e w' hR=>?_;cases e with
  | returned v =>
   obtain⟨β,hβ,rfl,hx,hu'⟩:=hR;obtain⟨p1,p2⟩:=Post.idle (preM hM hg) hu';refine⟨_,(EM M w).at_ w',rfl,rfl,?_,p1,p2⟩;show VR _ (.lst .str (List.replicate c s)) _;obtain⟨t',ht'⟩:=hx;cases c with
   | zero=>exact .lst0 (by omega)
   | succ c =>
    have hl:(List.replicate (c+1) s).length=c+1:=ja9;have:=VR.lst (E:=(EM M w).at_ w') (c:=.str) (l:=List.replicate (c+1) s) (cap:=c+1) (off:=0) (fun _ _=>.string s) (by rw[hl];exact jas _) (by omega) (by rw[hl];show (c+1)*16<=_;omega)
     (fun h=>by have:=hM _ h;omega) ht' (fun i hi j hj=>by
      have hj:j<1:=hj;have:j=0:=by omega
      subst this;rw[hl] at hi;show (List.replicate (c+1) (Value.string s)).toArray[0+i*1+0]?=_;simp only[ja8,List.getElem?_replicate];rw[jao (by omega)]) (fun i hi j hj=>by
      have hj:j<1:=hj;have:j=0:=by omega
      subst this;show VR _ (.str (List.replicate (c+1) s)[i]) _;rw[List.getElem_replicate];exact .str _ hsz.1)
    rw[hl] at this;exact this
  | _=>exact hR.elim⟩
end Go.Proofs.YtnhmanoiolfapaaGreat
end

section
namespace Go.Jx
open Go Go.Sx Go.RowKit
universe u

def qdg{D α:Type}(g:D->α->Option (D × Bool)):List α->D->Option (D × Bool)
 | [],d=>some (d,false)
 | x::xs,d=>match g d x with
  | none=>none
  | some (d',b)=>cond b (some (d',true)) (qdg g xs d')
section
variable (P : Program) (tt : Nat -> Option TI)
end
section
variable {P : Program} {tt : Nat -> Option TI}
end
end Go.Jx
end

section
namespace Go.Jx
open Go Go.Sx Go.RowKit
universe u

theorem zxj{b:Nat}{A B:World}{o:Obj}(u:Upd [b] A B)(hA:A.heap[b]?=some o):∃B',Upd [] A B'/\Beside b B' B:=by
 have hlt:b<A.heap.size:=qar hA;refine⟨B.putObj b o,⟨u.os,u.tape,u.output,by rw[(Beside.put B b o).size];exact u.size,fun x hx _=>?_⟩,(Beside.put B b o).symm⟩;by_cases e:x=b
 ·subst e;rw[jbs (jbi hx u.size),hA]
 ·rw[jcc e];exact u.same x hx (by simpa using e)
def q9b(P:Program)(gf:Nat)(us:List Value)(bx:Nat)(m0:List Nat)(W0:World)(Rd:World->Prop){α:Type}(V:α->Value->Env->Prop)(xs:List α):Prop :=
 ∀(l:Nat) (J:List α->World->Prop) (K:World->Prop),(∀s A B,J s A->Upd [bx] A B->J s B)->(∀A B,K A->Upd [bx] A B->K B)->(∀s A,J s A->Rd A) ->
  (∀pre x post A0 A u,xs=pre++x::post->J pre A0->Upd [bx] A0 A->(∀E:Env,E.w=A->(∀b∈E.m,b<A0.heap.size/\(b<W0.heap.size->b∈m0))->V x u E) ->
   YieldAt Fence.wide 0 P l #[u] A fun e B=>(∀b,(b=bx\/A0.heap.size<=b)->b<A.heap.size->B.heap[b]?=A.heap[b]?)/\((e=.returned (.bool true)/\J (pre++[x]) B)\/(e=.returned (.bool false)/\K B))) ->
  J [] W0->CallsIn Fence.wide 0 P gf (#[.func (.yield l) #[] #[]]++us.toArray) W0 fun e B=>e=.returned (.tuple #[])/\(J xs B\/K B)
structure ConW (P:Program) (f:Nat) (s:SmI):Prop where
 callable:qaf P f
 ns:nP s.ips=0
 it:∀(E:Env) (x:ElP s.ips) (us:List Value) (i:Nat) (l:List (El s.c)),s.xs x=some l->Gl E.m E.w->qw5 E s x us [i]->E.ρ i∈E.m->(∀b∈E.m,b<E.w.heap.size) ->
  q9b P f us (E.ρ i) E.m E.w (fun W=>E.Le (E.at_ W)) (fun x u E=>VR E (asIV s.c x) u) l
def endX(k:Nat):IEx->Option Bool
 | .normal=>some false
 | .exit i=>cond (Nat.beq i k) (some true) none
 | _=>none
def retX{D:Type}(k:Nat):Option (D × Option Code)->Option (D × Bool)
 | some (d,none)=>some (d,false)
 | some (d,some (.exit i))=>cond (Nat.beq i k) (some (d,true)) none
 | _=>none
def qxi(k:Nat)(b:Bool):Option Code:=cond b (some (.exit k)) none
theorem zhp{D:Type}{k:Nat}{o:Option (D × Option Code)}{d:D}{b:Bool}(h:retX k o=some (d,b)):o=some (d,qxi k b):=by
 unfold retX at h;split at h
 ·cases h;rfl
 ·rename_i i;cases hb:Nat.beq i k with
  | false=>rw[hb] at h;cases h
  | true =>
   rw[hb] at h;have:=jak hb;subst this;cases h;rfl
 ·cases h
theorem za7{D α:Type}{k:Nat}(g:D->α->Option (D × Option Code)):∀(xs:List α) (d d':D) (b:Bool),qdg (fun d x=>retX k (g d x)) xs d=some (d',b)->foldB g xs d=some (d',qxi k b)
 | [],d,d',b,h=>by cases h;rfl
 | x::xs,d,d',b,h=>by
  simp only[qdg,foldB] at h ⊢;cases hg:retX k (g d x) with
  | none=>rw[hg] at h;cases h
  | some q =>
   obtain⟨z,e⟩:=q;rw[hg] at h;rw[zhp hg];cases e with
   | false=>exact za7 g xs z d' b h
   | true=>cases h;rfl
section
variable (P : Program) (tt : Nat -> Option TI)
def qpy(k:Nat)(cfg:LpC)(c:TC)(nt lf:Nat)(clP:ClP)(pr:Nat)(assign body:Code)(d:ElP cfg.lp)(z:ElP (refs cfg.lp))(x:El c):Option (ElP (refs cfg.lp) × Bool) :=
 qax P tt cfg.nm (mP cfg.lp) nt (clP (ElP (refs cfg.lp) × Bool)) lf none assign (qd1 [pr] [asIV c x] (putL cfg.ls (qap cfg.lp idN 0 d) .leaf)) (Sc cfg.lp (updP cfg.lp d z)) [] fun r1=>match r1.e with
  | .normal=>match r1.ds with
   | []=>qax P tt cfg.nm (mP cfg.lp) nt (clP (ElP (refs cfg.lp) × Bool)) lf none body r1.fr r1.S [] fun r2=>match r2.ds with
     | []=>match endX k r2.e with
      | none=>none
      | some b=>match runQ (sQ cfg.lp) ⟨.tup [],r2.S,0,0⟩ with
       | none=>none
       | some y=>some (y.2,b)
     | _=>none
   | _=>none
  | _=>none
theorem znu{k:Nat}{cfg:LpC}{c:TC}{nt lf:Nat}{cl:Cl}{clP:ClP}(hcl:∀R,ClEq cl (clP R))(pr:Nat)(assign body:Code)(d:ElP cfg.lp)(z:ElP (refs cfg.lp))(x:El c) :
  qpy P tt k cfg c nt lf clP pr assign body d z x=retX k (qey P tt cfg c nt lf cl pr assign body d z x):=by
 unfold qpy qey;rw[qe1 (hcl _)];cases qaj P tt cfg.nm (mP cfg.lp) nt cl lf none assign (qd1 [pr] [asIV c x] (putL cfg.ls (qap cfg.lp idN 0 d) .leaf)) (Sc cfg.lp (updP cfg.lp d z)) [] with
 | none=>rfl
 | some r1 =>
  simp only[bd];cases r1.e<;>try rfl
  simp only;cases r1.ds with
  | cons _ _=>rfl
  | nil =>
   simp only;rw[qe1 (hcl _)];cases qaj P tt cfg.nm (mP cfg.lp) nt cl lf none body r1.fr r1.S [] with
   | none=>rfl
   | some r2 =>
    simp only[bd];cases r2.ds with
    | cons _ _=>rfl
    | nil =>
     simp only;cases r2.e with
     | exit i =>
      simp only[endX,qd2];cases hk:Nat.beq i k<;>cases runQ (sQ cfg.lp) ⟨.tup [],r2.S,0,0⟩<;>simp [retX,hk]
     | _=>cases runQ (sQ cfg.lp) ⟨.tup [],r2.S,0,0⟩<;>rfl
def qlf(S2:IS)(cfg:LpC)(id nt:Nat)(fr:PT IV)(pr D:Nat)(assign body:Code)(i:Nat)(rows subs:List Nat)(w:Nat)(q:ElP (refs cfg.lp) × Option Code):Res :=
 ⟨.tup [],(qb0 (sQ cfg.lp) S2.next rows subs () q.1 (S2.set i .dead)).set id (.loop (cond q.2.isNone .ready .done) q.2 nt fr [pr] assign body D),2 ^ id,2 ^ id ||| (w ||| qby ([i]++(rows++subs)))⟩
def itW(k:Nat)(s:SmI)(cfg:LpC)(lf:Nat)(cl:Cl)(vs:List IV)(S:IS):Option Res:=match vs with
 | .yield id::caps=>match rdP s.ips S caps with
  | some (xi,[i],_,S1,w1)=>match S1.heap.get id with
   | some (.loop .ready none nt fr [pr] assign body D)=>match rdP cfg.lp S1 (cfg.ls.map (slot fr)) with
    | none=>none
    | some (d0,rows,subs,S2,w2)=>cond (itB S2 cfg id nt [i] rows subs w2 assign body) (match fiP cfg.lp rows subs S2 d0 with
     | none=>none
     | some d=>match s.xs xi with
      | none=>none
      | some l=>match qdg (fun z x=>retX k (qey P tt cfg s.c nt lf cl pr assign body d z x)) l (qdi cfg.lp d) with
       | none=>none
       | some z=>some (qlf S2 cfg id nt fr pr D assign body i rows subs (w1 ||| w2) (z.1,qxi k z.2))) none
   | _=>none
  | _=>none
 | _=>none
def itWK(k:Nat)(s:SmI)(cfg:LpC)(lf:Nat)(clP:ClP)(R:Type)(vs:List IV)(S:IS)(kk:Res->Option R):Option R:=match vs with
 | .yield id::caps=>match rdP s.ips S caps with
  | some (xi,[i],_,S1,w1)=>match S1.heap.get id with
   | some (.loop .ready none nt fr [pr] assign body D)=>match rdP cfg.lp S1 (cfg.ls.map (slot fr)) with
    | none=>none
    | some (d0,rows,subs,S2,w2)=>cond (itB S2 cfg id nt [i] rows subs w2 assign body) (match fiP cfg.lp rows subs S2 d0 with
     | none=>none
     | some d=>match s.xs xi with
      | none=>none
      | some l=>match qdg (qpy P tt k cfg s.c nt lf clP pr assign body d) l (qdi cfg.lp d) with
       | none=>none
       | some z=>cond z.2 (kk (qlf S2 cfg id nt fr pr D assign body i rows subs (w1 ||| w2) (z.1,some (.exit k)))) (kk (qlf S2 cfg id nt fr pr D assign body i rows subs (w1 ||| w2) (z.1,none)))) none
   | _=>none
  | _=>none
 | _=>none
end
section
variable {P : Program} {tt : Nat -> Option TI}
theorem zpz(k:Nat)(s:SmI)(cfg:LpC)(lf:Nat)(cl:Cl)(clP:ClP)(hcl:∀R,ClEq cl (clP R))(R:Type)(vs:List IV)(S:IS)(kk:Res->Option R):itWK P tt k s cfg lf clP R vs S kk=ob (itW P tt k s cfg lf cl vs S) kk:=by
 unfold itWK itW;cases vs with
 | nil=>rfl
 | cons v caps =>
 cases v<;>try rfl
 rename_i id;simp only;cases rdP s.ips S caps with
 | none=>rfl
 | some a =>
 obtain⟨xi,irows,_,S1,w1⟩:=a;cases irows with
 | nil=>rfl
 | cons i irows =>
 cases irows with
 | cons _ _=>rfl
 | nil =>
 simp only;cases S1.heap.get id with
 | none=>rfl
 | some o =>
 cases o<;>try rfl
 rename_i st pe nt fr ps assign body D;cases st<;>try rfl
 cases pe<;>try rfl
 cases ps with
 | nil=>rfl
 | cons pr ps =>
 cases ps with
 | cons _ _=>rfl
 | nil =>
 simp only;cases rdP cfg.lp S1 (cfg.ls.map (slot fr)) with
 | none=>rfl
 | some b =>
 obtain⟨d0,rows,subs,S2,w2⟩:=b;simp only[qbm];cases fiP cfg.lp rows subs S2 d0 with
 | none=>rfl
 | some d =>
 simp only;cases s.xs xi with
 | none=>rfl
 | some l =>
 have e:qpy P tt k cfg s.c nt lf clP pr assign body d=fun z x=>retX k (qey P tt cfg s.c nt lf cl pr assign body d z x):=by
  funext z x;exact znu P tt hcl pr assign body d z x
 simp only[e];cases qdg (fun z x=>retX k (qey P tt cfg s.c nt lf cl pr assign body d z x)) l (qdi cfg.lp d) with
 | none=>rfl
 | some q=>obtain⟨z,b⟩:=q;cases b<;>rfl
theorem qwv{k:Nat}{s:SmI}{cfg:LpC}{lf:Nat}{cl:Cl}{vs:List IV}{S:IS}{r:Res}(h:itW P tt k s cfg lf cl vs S=some r) :
  ∃id caps xi i isubs S1 w1 nt fr pr assign body D d0 rows subs S2 w2 d l q,vs=.yield id::caps/\rdP s.ips S caps=some (xi,[i],isubs,S1,w1)/\S1.heap.get id=some (.loop .ready none nt fr [pr] assign body D) /\
   rdP cfg.lp S1 (cfg.ls.map (slot fr))=some (d0,rows,subs,S2,w2)/\itB S2 cfg id nt [i] rows subs w2 assign body=true/\fiP cfg.lp rows subs S2 d0=some d/\s.xs xi=some l /\
   foldB (qey P tt cfg s.c nt lf cl pr assign body d) l (qdi cfg.lp d)=some q/\r=qlf S2 cfg id nt fr pr D assign body i rows subs (w1 ||| w2) q:=by
 unfold itW at h;split at h<;>try cases h
 rename_i id caps;split at h<;>try cases h
 rename_i xi i isubs S1 w1 h1;split at h<;>try cases h
 rename_i nt fr pr assign body D ho;split at h
 ·cases h
 rename_i d0 rows subs S2 w2 h2;cases hb:itB S2 cfg id nt [i] rows subs w2 assign body with
 | false=>rw[hb] at h;cases h
 | true =>
 rw[hb,jaa] at h;split at h
 ·cases h
 rename_i d h3;split at h
 ·cases h
 rename_i l h4;split at h<;>cases h;rename_i q h5;exact⟨id,caps,xi,i,isubs,S1,w1,nt,fr,pr,assign,body,D,d0,rows,subs,S2,w2,d,l,_,rfl,h1,ho,h2,hb,h3,h4,za7 _ _ _ _ _ h5,rfl⟩
theorem zp0{k:Nat}{s:SmI}{cfg:LpC}{lf:Nat}{cl:Cl}{vs:List IV}{S:IS}:FrO S (itW P tt k s cfg lf cl vs S):=fun r h=>by
 obtain⟨id,caps,xi,i,isubs,S1,w1,nt,fr,pr,assign,body,D,d0,rows,subs,S2,w2,d,l,q,rfl,h1,ho,h2,hb,h3,h4,h5,rfl⟩:=qwv h;have k1:=qe2 _ h1;have k2:=qe2 _ h2;have k0:=FrX.set S2 i .dead;have k3:=k0.trans ((qva subs (S2.set i .dead)).trans ((qvn rows (qaq (refs cfg.lp) (fun k=>S2.next+(k-mP cfg.lp)) (mP cfg.lp) q.1) _).trans (qts (newO (sQ cfg.lp) () q.1) _ 0)));have k4:=(k1.trans k2).trans (k3.trans (FrX.set _ id (.loop (cond q.2.isNone .ready .done) q.2 nt fr [pr] assign body D)));refine⟨k4.1,fun j hj hbit=>k4.2 j hj ?_⟩;have hbit:(2 ^ id ||| ((w1 ||| w2) ||| qby ([i]++(rows++subs)))).testBit j=false:=hbit;have e0:qby [i]=2 ^ i:=by simp[qby]
 simp only[qv6,e0,jck,jcl,Nat.zero_testBit] at hbit ⊢;obtain⟨a,⟨b,c⟩,g,e,f⟩:=hbit;exact⟨⟨b,c⟩,⟨g,f,e,trivial⟩,a⟩
theorem z11{k:Nat}{s:SmI}{cfg:LpC}{lf:Nat}{cl:Cl}{vs:List IV}{S:IS}{r:Res}(h:itW P tt k s cfg lf cl vs S=some r)(hw:r.wr=0):False:=by
 obtain⟨id,caps,xi,i,isubs,S1,w1,nt,fr,pr,assign,body,D,d0,rows,subs,S2,w2,d,l,q,rfl,h1,ho,h2,hb,h3,h4,h5,rfl⟩:=qwv h;have:2 ^ id=0:=(or_zero hw).1;have:=jfg (n:=id);omega
def itWx(P:Program)(tt:Nat->Option TI)(k:Nat)(s:SmI)(cfg:LpC)(lf:Nat):Hx:=⟨itW P tt k s cfg lf,fun clP R vs S kk=>itWK P tt k s cfg lf clP R vs S kk,fun cl clP hcl R vs S kk=>zpz k s cfg lf cl clP hcl R vs S kk⟩
theorem Held.dead{T:TW}{E:Env}{S:IS}{l:List PK}{x:ElP l}{rows subs:List Nat}(h:Held T E S l x rows subs)(p:Pre T E S){i:Nat}{w:World}(hT:T.w i)(hA:E.A i)(hL:Live E S.H i)(hi:i ∉ rows++subs)(hb:Beside (E.ρ i) E.w w) :
  Held T (E.at_ w) (S.set i .dead) l x rows subs:=by
 have hle:=Env.at_le p.st hT hA hL hb.upd;refine⟨h.l1,h.l2,h.nd,h.w,h.A,fun ι hι j o hj=>?_,fun id hid=>?_,fun j=>?_⟩
 ·obtain⟨id,g1,g2,g3,g4⟩:=h.at_ ι hι j o hj;have hm:id∈rows:=jb0 g1;refine⟨id,g1,g2,g3,g4.mono hle g2 g3 fun hl hh=>hb.same _ fun e=>?_⟩;obtain⟨cs,hcs⟩:=h.row id hm;have:=p.st.inj _ _ (T.sub _ (h.w id (jb5 _ hm))) (T.sub _ hT) g2 hA ⟨hh,_,hcs,rfl⟩ hL e;exact hi (this▸jb5 _ hm)
 ·obtain⟨cs,hcs⟩:=h.row id hid;exact⟨cs,by rw[IS.H_set,up_ne _ _ (fun e:id=i=>hi (e▸jb5 _ hid))];exact hcs⟩
 ·rw[h.sub];cases hs:subs[j]? with
  | none=>rfl
  | some id =>
   have hm:id∈subs:=jb0 hs;show S.H id=(S.set i .dead).H id;rw[IS.H_set,up_ne _ _ (fun e:id=i=>hi (e▸jcf _ hm))]
end
end Go.Jx
end

noncomputable section
set_option maxRecDepth 100000
namespace Go.Proofs.YtnhmanoiolfapaaGreat
open Go Go.Sx Go.RowKit Go.Jx
def S.listed(m:List (Int × ByteArray)):List qaa:=m.foldl (fun c p=>S.ins1 (p.1,p.2,false) c) []
def S.mapG(m:List (Int × ByteArray)):Bool:=decide (m.map (·.1)).Nodup&&m.all fun p=>S.inI p.1 0 199&&Nat.ble p.2.size 4000
def qc4:SmR:=⟨[.ref (.mp (.int .i64) .str)],[(false,.list cCell)],fun x=>match x.1 with
 | some m=>cond (S.mapG m) (some ((S.listed m,()),(some m,()))) none
 | none=>none⟩
def S.recsGo:Nat->List ByteArray->List qfi
 | 0,_=>[]
 | f+1,l=>match l with
  | []=>[]
  | s::r=>if (qab s).getD 0 0=0 then [] else S.readK (s::r)::cond (S.readK (s::r)).2.2 [] (S.recsGo f ((s::r).drop (S.readK (s::r)).2.1.toNat))
def S.recsK(l:List ByteArray):List qfi:=S.recsGo (l.length+1) l
def zba:SmI:=⟨[.ref (.box [.dat (.list .str)])],cKeepRecord,fun x=>cond (S.secs x.1.1) (some (S.recsK x.1.1)) none⟩
end Go.Proofs.YtnhmanoiolfapaaGreat
end

section
set_option maxRecDepth 100000
namespace Go.Proofs.YtnhmanoiolfapaaGreat
open Go Go.RowKit Go.Shelf Go.Sort Go.Lib
def zqe:Go.Shelf.Ren:=⟨fun|6=>123|15=>129|14=>128|28=>139|29=>140|20=>131|21=>132|22=>133|23=>134|24=>135|25=>136|26=>137|27=>138|46=>141|47=>142|48=>143|49=>144|50=>145|57=>146|n=>n,fun|22=>35|24=>92|25=>190|3=>3|39=>141|0=>0|53=>178|55=>181|4=>4|46=>198|45=>197|50=>202|5=>5|9=>9|66=>206|70=>210|76=>212|77=>107|n=>n,fun|n=>n⟩
theorem zeq:Go.Proofs.SlLaysF0.n6 Tryz.prog zqe:={
 mixed:=by kernel_rfl
 f6:=⟨Tryz.f123.name,by decide,Tryz.func123.trans (jav some (by kernel_rfl))⟩
 f14:=⟨Tryz.f128.name,by decide,Tryz.func128.trans (jav some (by kernel_rfl))⟩
 f15:=Tryz.func129.trans (jav some (by kernel_rfl))
 f20:=⟨Tryz.f131.name,by decide,Tryz.func131.trans (jav some (by kernel_rfl))⟩
 f21:=⟨Tryz.f132.name,by decide,Tryz.func132.trans (jav some (by kernel_rfl))⟩
 f22:=⟨Tryz.f133.name,by decide,Tryz.func133.trans (jav some (by kernel_rfl))⟩
 f23:=⟨Tryz.f134.name,by decide,Tryz.func134.trans (jav some (by kernel_rfl))⟩
 f24:=⟨Tryz.f135.name,by decide,Tryz.func135.trans (jav some (by kernel_rfl))⟩
 f25:=⟨Tryz.f136.name,by decide,Tryz.func136.trans (jav some (by kernel_rfl))⟩
 f26:=⟨Tryz.f137.name,by decide,Tryz.func137.trans (jav some (by kernel_rfl))⟩
 f27:=⟨Tryz.f138.name,by decide,Tryz.func138.trans (jav some (by kernel_rfl))⟩
 f28:=Tryz.func139.trans (jav some (by kernel_rfl))
 f29:=Tryz.func140.trans (jav some (by kernel_rfl))
 f46:=⟨Tryz.f141.name,by decide,Tryz.func141.trans (jav some (by kernel_rfl))⟩
 f47:=Tryz.func142.trans (jav some (by kernel_rfl))
 f48:=Tryz.func143.trans (jav some (by kernel_rfl))
 f49:=⟨Tryz.f144.name,by decide,Tryz.func144.trans (jav some (by kernel_rfl))⟩
 f50:=⟨Tryz.f145.name,by decide,Tryz.func145.trans (jav some (by kernel_rfl))⟩
 f57:=⟨Tryz.f146.name,by decide,Tryz.func146.trans (jav some (by kernel_rfl))⟩
 t0:=Tryz.underlying0
 a0:=Tryz.isAgg0
 z0:=Tryz.sizeOf0
 v0:=Tryz.zeroValue0
 t3:=Tryz.underlying3
 a3:=Tryz.isAgg3
 z3:=Tryz.sizeOf3
 v3:=Tryz.zeroValue3
 t4:=Tryz.underlying4
 a4:=Tryz.isAgg4
 z4:=Tryz.sizeOf4
 v4:=Tryz.zeroValue4
 t5:=Tryz.underlying5
 a5:=Tryz.isAgg5
 z5:=Tryz.sizeOf5
 v5:=Tryz.zeroValue5
 t9:=Tryz.underlying9
 a9:=Tryz.isAgg9
 z9:=Tryz.sizeOf9
 v9:=Tryz.zeroValue9
 t22:=Tryz.underlying35
 a22:=Tryz.isAgg35
 z22:=Tryz.sizeOf35
 v22:=Tryz.zeroValue35
 t25:=Tryz.underlying190
 a25:=Tryz.isAgg190
 z25:=Tryz.sizeOf190
 v25:=Tryz.zeroValue190
 t39:=Tryz.underlying141
 a39:=Tryz.isAgg141
 z39:=Tryz.sizeOf141
 v39:=Tryz.zeroValue141
 t45:=Tryz.underlying197
 a45:=Tryz.isAgg197
 z45:=Tryz.sizeOf197
 v45:=Tryz.zeroValue197
 t46:=Tryz.underlying198
 a46:=Tryz.isAgg198
 z46:=Tryz.sizeOf198
 v46:=Tryz.zeroValue198
 t50:=Tryz.underlying202
 a50:=Tryz.isAgg202
 z50:=Tryz.sizeOf202
 v50:=Tryz.zeroValue202
 t53:=Tryz.underlying178
 a53:=Tryz.isAgg178
 z53:=Tryz.sizeOf178
 v53:=Tryz.zeroValue178
 t55:=Tryz.underlying181
 a55:=Tryz.isAgg181
 z55:=Tryz.sizeOf181
 v55:=Tryz.zeroValue181
 t66:=Tryz.underlying206
 a66:=Tryz.isAgg206
 z66:=Tryz.sizeOf206
 v66:=Tryz.zeroValue206
 t70:=Tryz.underlying210
 a70:=Tryz.isAgg210
 z70:=Tryz.sizeOf210
 v70:=Tryz.zeroValue210
 t76:=Tryz.underlying212
 a76:=Tryz.isAgg212
 z76:=Tryz.sizeOf212
 v76:=Tryz.zeroValue212
 t77:=Tryz.underlying107
 a77:=Tryz.isAgg107
 z77:=Tryz.sizeOf107
 v77:=Tryz.zeroValue107 }
def encC(x:Int × ByteArray × Bool):List Value:=[.int .i64 x.1,.string x.2.1,.bool x.2.2]
theorem zje(cf:(Int × ByteArray × Bool)->(Int × ByteArray × Bool)->Int)(hO:SWO (ltOf cf))(g:Nat)(cb:Array Value)(blk off cap:Nat)(d:Array (Int × ByteArray × Bool))(w:World)
  (eg:∀args w,(callFunc g args).run Tryz.prog w=.ok (.enter g args) w) (hcmp:CmpLays Tryz.prog g cb encC 3 cf blk off d.size w) (hH:HoldsK encC 3 w blk off d) (hblk:blk<w.heap.size) (hsz:d.size<4611686018427387904) :
  Calls Tryz.prog 123 #[.slice (some ⟨blk,off,none⟩) d.size cap,.func (.func g) #[] cb] w fun e w' =>
   e=.returned (.tuple #[])/\∃d' n os,PermIn 0 d.size d d'/\SortedIn (ltOf cf) 0 d.size d'/\w'=sortWorldK encC 3 w blk off n d' os :=
 AnyQ.slices_SortFunc zeq 3 Tryz.isAgg92 Tryz.sizeOf92 encC (fun _=>rfl) (fun x v hv=>by simp[encC] at hv;rcases hv with rfl|rfl|rfl<;>rfl) cf hO g cb blk off cap d w eg hcmp hH hblk hsz
theorem zjr(p:Option Addr)(cap:Nat)(fv:Value)(w:World):Calls Tryz.prog 123 #[.slice p 0 cap,fv] w fun e w'=>e=.returned (.tuple #[])/\w'=w :=
 AnyF.slices_SortFunc_none (P:=Tryz.prog) zeq p cap fv w
end Go.Proofs.YtnhmanoiolfapaaGreat
end
