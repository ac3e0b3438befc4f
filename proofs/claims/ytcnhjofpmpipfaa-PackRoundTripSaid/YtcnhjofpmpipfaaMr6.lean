/- Texts: Lt4, Lu1, Lu2, Lk1, Pd7, Pd8, Lt1, Lt2, Lt5, Lsan, Lsn, Ln9. -/
import Derived.Test.YtcnhjofpmpipfaaMr5
import Derived.KernelRfl
set_option linter.unusedVariables false
noncomputable section
set_option maxRecDepth 100000
namespace Go.Proofs.Ytcnhjofpmpipfaa
open Go Go.Sx Go.RowKit Go.Jx
def qlj:Nat->Option Nm:=fun k=>cond (Nat.beq k 3) (some ⟨[0,3,5,6],[],[],[],[],0,0,false⟩) (cond (Nat.beq k 5) (some ⟨[0,3,5,6,9,10,11,12],[],[],[],[],0,0,false⟩) (cond (Nat.beq k 7) (some ⟨[0,3,5,6,9,10,11,12,13,15],[],[],[],[],0,0,false⟩) (cond (Nat.beq k 10) (some ⟨[0,3,5,6,9,10,11,12],[],[],[],[],0,0,false⟩) (cond (Nat.beq k 12) (some ⟨[0,3,9,11,19,20],[],[],[],[],0,0,false⟩) (cond (Nat.beq k 14) (some ⟨[0,3],[],[],[],[],0,0,false⟩) (cond (Nat.beq k 15) (some ⟨[0,114,115,116],[(114,(.list (.int .u8)))],[],[],[],0,0,false⟩) (cond (Nat.beq k 18) (some ⟨[0,22,23,25,114,115,116],[(114,(.list (.int .u8)))],[],[],[],0,0,false⟩) (cond (Nat.beq k 20) (some ⟨[0,22,26,27,114,115,116],[(114,(.list (.int .u8)))],[],[],[],0,0,false⟩) (none)))))))))
def qr5:Nat->Bool:=fun k=>cond (Nat.beq k 3) true (cond (Nat.beq k 5) true (cond (Nat.beq k 7) true (cond (Nat.beq k 10) true (cond (Nat.beq k 12) true (cond (Nat.beq k 14) true (cond (Nat.beq k 15) true (cond (Nat.beq k 18) true (cond (Nat.beq k 20) true (false)))))))))
def qy2:Nat->Bool:=fun k=>cond (Nat.beq k 15) true (false)
abbrev qap:Type:=Bool × Unit
def q3i:List (Nat × Sm):=[(13,q22),(14,q1h),(15,qiq),(20,q24),(22,q6i),(41,q9r),(26,q01),(25,q9b),(42,quz),(43,q6q)]
def qyb:List (Nat × Hx):=[]
def qwp(R:Type)(lf:Nat):ClK R:=qau Try.prog ttT.get ftT.get (nm1 12 qlj) (smL q3i) (hxL qyb) lf 20 R
abbrev q7j:Nat:=12
def qrz(x1:(List qac))(x2:qaa)(x3:qaa)(x4:(List Int))(p:Unit):NRes:=(NRes.mk (.node (some (IV.lst cForm x1)) (.node none (.node (some (IV.lst (TC.int .u8) x4)) .leaf .leaf) (.node (some (IV.ptr 0 0)) .leaf .leaf)) (.node none .leaf (.node (some (IV.ptr 1 0)) .leaf .leaf))) (IS.mk (.node (some (IObj.row (List.cons (IV.lst qah x2.1) [(IV.lst cVal x2.2)]))) (.node (some (IObj.row (List.cons (IV.lst qah x3.1) [(IV.lst cVal x3.2)]))) .leaf .leaf) .leaf) 2) [] 0)
def qqm(x1:(List qac))(x2:qaa)(x3:qaa)(x4:(List Int))(p:Unit):NRes:=(NRes.mk (.node (some (IV.lst cForm x1)) (.node none (.node (some (IV.lst (TC.int .u8) x4)) .leaf (.node (some (IV.lst (TC.int .u8) (S.encB x1 (x3.1,x3.2)).1)) .leaf .leaf)) (.node (some (IV.ptr 0 0)) (.node (some (IV.lst (TC.int .u8) (S.encB x1 (x2.1,x2.2)).1)) .leaf .leaf) .leaf)) (.node none (.node none .leaf (.node (some (IV.int .i64 (S.encB x1 (x3.1,x3.2)).2)) .leaf .leaf)) (.node (some (IV.ptr 1 0)) (.node (some (IV.int .i64 (S.encB x1 (x2.1,x2.2)).2)) .leaf .leaf) .leaf))) (IS.mk (.node (some (IObj.row (List.cons (IV.lst qah x2.1) [(IV.lst cVal x2.2)]))) (.node (some (IObj.row (List.cons (IV.lst qah x3.1) [(IV.lst cVal x3.2)]))) .leaf .leaf) .leaf) 2) [] 0)
def qrq(x1:(List qac))(x2:qaa)(x3:qaa)(x4:(List Int))(p:Unit):NRes:=(NRes.mk (.node (some (IV.lst cForm x1)) (.node none (.node (some (IV.lst (TC.int .u8) x4)) (.node none (.node (some (IV.int .i64 (S.canonB (x2.1,x2.2)).2.2)) .leaf .leaf) .leaf) (.node (some (IV.lst (TC.int .u8) (S.encB x1 (x3.1,x3.2)).1)) .leaf .leaf)) (.node (some (IV.ptr 0 0)) (.node (some (IV.lst (TC.int .u8) (S.encB x1 (x2.1,x2.2)).1)) .leaf .leaf) (.node (some (IV.ptr 2 0)) .leaf .leaf))) (.node none (.node none .leaf (.node (some (IV.int .i64 (S.encB x1 (x3.1,x3.2)).2)) .leaf .leaf)) (.node (some (IV.ptr 1 0)) (.node (some (IV.int .i64 (S.encB x1 (x2.1,x2.2)).2)) .leaf .leaf) .leaf))) (IS.mk (.node (some (IObj.row (List.cons (IV.lst qah x2.1) [(IV.lst cVal x2.2)]))) (.node (some (IObj.row (List.cons (IV.lst qah x3.1) [(IV.lst cVal x3.2)]))) .leaf .leaf) (.node (some (IObj.row (List.cons (IV.lst qah (S.canonB (x2.1,x2.2)).1.1) (List.cons (IV.lst cVal (S.canonB (x2.1,x2.2)).1.2) [])))) .leaf .leaf)) 3) [] 0)
def qhg(x1:(List qac))(x2:qaa)(x3:qaa)(x4:(List Int))(p:Unit):NRes:=(NRes.mk (.node (some (IV.lst cForm x1)) (.node none (.node (some (IV.lst (TC.int .u8) x4)) .leaf (.node (some (IV.lst (TC.int .u8) (S.encB x1 (x3.1,x3.2)).1)) .leaf .leaf)) (.node (some (IV.ptr 0 0)) (.node (some (IV.lst (TC.int .u8) (S.encB x1 (x2.1,x2.2)).1)) .leaf .leaf) .leaf)) (.node none (.node none .leaf (.node (some (IV.int .i64 (S.encB x1 (x3.1,x3.2)).2)) .leaf .leaf)) (.node (some (IV.ptr 1 0)) (.node (some (IV.int .i64 (S.encB x1 (x2.1,x2.2)).2)) .leaf .leaf) .leaf))) (IS.mk (.node (some (IObj.row (List.cons (IV.lst qah x2.1) [(IV.lst cVal x2.2)]))) (.node (some (IObj.row (List.cons (IV.lst qah x3.1) [(IV.lst cVal x3.2)]))) .leaf .leaf) .leaf) 2) [] 0)
def qow(x1:(List qac))(x2:qaa)(x3:qaa)(x4:(List Int))(p:Unit):NRes:=(NRes.mk (.node (some (IV.lst cForm x1)) (.node none (.node (some (IV.lst (TC.int .u8) x4)) .leaf (.node (some (IV.lst (TC.int .u8) (S.encB x1 (x3.1,x3.2)).1)) (.node (some (IV.bool (S.sameB (x2.1,x2.2) (x3.1,x3.2)).1)) .leaf .leaf) .leaf)) (.node none (.node (some (IV.lst (TC.int .u8) (S.encB x1 (x2.1,x2.2)).1)) .leaf .leaf) .leaf)) (.node none (.node none .leaf (.node none (.node (some (IV.int .i64 (S.sameB (x2.1,x2.2) (x3.1,x3.2)).2)) .leaf .leaf) .leaf)) .leaf)) (IS.mk .leaf 0) [] 0)
def qhz(x1:(List qac))(x2:qaa)(x3:qaa)(x4:(List Int))(p:Unit):NRes:=(NRes.mk (.node (some (IV.lst cForm x1)) (.node none (.node (some (IV.lst (TC.int .u8) x4)) .leaf .leaf) .leaf) .leaf) (IS.mk .leaf 0) [] 0)
def qdm(x1:(List qac))(x2:qaa)(x3:qaa)(x4:(List Int))(p:(List (List Int)) × Int):NRes:=(NRes.mk (.node (some (IV.lst cForm x1)) (.node none (.node none .leaf (.node none (.node none .leaf (.node none .leaf (.node (some (IV.int .i64 (Int.ofNat 2))) .leaf .leaf))) .leaf)) .leaf) (.node none (.node none .leaf (.node none (.node none .leaf (.node none .leaf (.node (some (IV.int .i64 p.2)) .leaf .leaf))) .leaf)) (.node none (.node none (.node none .leaf (.node none .leaf (.node (some (IV.arr 0)) .leaf .leaf))) .leaf) .leaf))) (IS.mk (.node (some (IObj.arr (TC.list (TC.int .u8)) p.1)) .leaf .leaf) 1) [] 0)
def qpg(x1:(List qac))(x2:qaa)(x3:qaa)(x4:(List Int))(p:(List Int) × (List (List Int)) × Int):NRes:=(NRes.mk (.node (some (IV.lst cForm x1)) (.node none (.node none (.node none .leaf (.node (some (IV.ptr 0 0)) .leaf .leaf)) (.node none (.node none .leaf (.node none .leaf (.node (some (IV.int .i64 (Int.ofNat 2))) .leaf .leaf))) .leaf)) (.node none (.node none .leaf (.node (some (IV.int .i64 (S.Dec x1 p.1).2.2)) .leaf .leaf)) .leaf)) (.node none (.node none .leaf (.node none (.node none .leaf (.node none .leaf (.node (some (IV.int .i64 p.2.2)) .leaf .leaf))) .leaf)) (.node none (.node none (.node none .leaf (.node none .leaf (.node (some (IV.arr 1)) .leaf .leaf))) .leaf) (.node none (.node (some (IV.lst (TC.int .u8) p.1)) .leaf .leaf) .leaf)))) (IS.mk (.node (some (IObj.row (List.cons (IV.lst qah (S.Dec x1 p.1).1.1) [(IV.lst cVal (S.Dec x1 p.1).1.2)]))) (.node (some (IObj.arr (TC.list (TC.int .u8)) p.2.1)) .leaf .leaf) .leaf) 2) [] 0)
def qpy(x1:(List qac))(x2:qaa)(x3:qaa)(x4:(List Int))(p:(List Int) × (List (List Int)) × Int):NRes:=(NRes.mk (.node (some (IV.lst cForm x1)) (.node none (.node none .leaf (.node none (.node none .leaf (.node none .leaf (.node (some (IV.int .i64 (Int.ofNat 2))) .leaf .leaf))) (.node (some (IV.int .i64 (S.encB x1 ((S.Dec x1 p.1).1.1,(S.Dec x1 p.1).1.2)).2)) .leaf .leaf))) .leaf) (.node none (.node none .leaf (.node none (.node none .leaf (.node none .leaf (.node (some (IV.int .i64 p.2.2)) .leaf .leaf))) .leaf)) (.node none (.node none (.node none .leaf (.node none .leaf (.node (some (IV.arr 0)) .leaf .leaf))) (.node (some (IV.lst (TC.int .u8) (S.encB x1 ((S.Dec x1 p.1).1.1,(S.Dec x1 p.1).1.2)).1)) .leaf .leaf)) (.node none (.node (some (IV.lst (TC.int .u8) p.1)) .leaf .leaf) .leaf)))) (IS.mk (.node (some (IObj.arr (TC.list (TC.int .u8)) p.2.1)) .leaf .leaf) 1) [] 0)
def qtu(lf:Nat)(x1:(List qac))(x2:qaa)(x3:qaa)(x4:(List Int))(L3:Unit->Option qap):Option qap:=(cond (Bool.not (S.fewForms x1)) (some (true,())) (cond (Bool.not (S.few (x2.1,x2.2))) (some (true,())) (cond (Bool.not (S.few (x3.1,x3.2))) (some (true,())) (cond (iltI (Int.ofNat 400) (Int.ofNat x4.length)) (some (true,())) (L3 ())))))
def qvz(lf:Nat)(x1:(List qac))(x2:qaa)(x3:qaa)(x4:(List Int))(L5:Unit->Option qap)(p:Unit):Option qap:=(L5 ())
def qtf(lf:Nat)(x1:(List qac))(x2:qaa)(x3:qaa)(x4:(List Int))(L7:Unit->Option qap)(L10:Unit->Option qap)(p:Unit):Option qap:=(cond (ieqI (S.encB x1 (x2.1,x2.2)).2 (Int.ofNat 0)) (L7 ()) (L10 ()))
def qss(lf:Nat)(x1:(List qac))(x2:qaa)(x3:qaa)(x4:(List Int))(L10:Unit->Option qap)(p:Unit):Option qap:=(cond (Bool.not (ieqI (S.canonB (x2.1,x2.2)).2.2 (Int.ofNat 0))) (some (false,())) (cond (Bool.not (ieqI (S.Dec x1 (S.encB x1 (x2.1,x2.2)).1).2.2 (Int.ofNat 0))) (some (false,())) (cond (Bool.not (ieqI (S.Dec x1 (S.encB x1 (x2.1,x2.2)).1).2.1 (Int.ofNat 0))) (some (false,())) (cond (Bool.not (S.sameGraphs ((S.canonB (x2.1,x2.2)).1.1,(S.canonB (x2.1,x2.2)).1.2) ((S.Dec x1 (S.encB x1 (x2.1,x2.2)).1).1.1,(S.Dec x1 (S.encB x1 (x2.1,x2.2)).1).1.2))) (some (false,())) (L10 ())))))
def qxe(lf:Nat)(x1:(List qac))(x2:qaa)(x3:qaa)(x4:(List Int))(L12:Unit->Option qap)(L14:Unit->Option qap)(p:Unit):Option qap:=(cond (ieqI (S.encB x1 (x2.1,x2.2)).2 (Int.ofNat 0)) (cond (ieqI (S.encB x1 (x3.1,x3.2)).2 (Int.ofNat 0)) (L12 ()) (L14 ())) (L14 ()))
def qu2(lf:Nat)(x1:(List qac))(x2:qaa)(x3:qaa)(x4:(List Int))(L14:Unit->Option qap)(p:Unit):Option qap:=(cond (Bool.not (ieqI (S.sameB (x2.1,x2.2) (x3.1,x3.2)).2 (Int.ofNat 0))) (some (false,())) (cond (Bool.not (Decidable.decide (Eq (S.sameB (x2.1,x2.2) (x3.1,x3.2)).1 (S.eqB (S.encB x1 (x2.1,x2.2)).1 (S.encB x1 (x3.1,x3.2)).1)))) (some (false,())) (L14 ())))
def qxr(lf:Nat)(x1:(List qac))(x2:qaa)(x3:qaa)(x4:(List Int))(L15:((List (List Int)) × Int)->Option qap)(p:Unit):Option qap:=(match (cond (Nat.ble (Nat.add x4.length 100) 140737488355328) (some ((List.append x4 (S.sum4 x4)),())) none) with|none=>none|some v0=>(L15 ((List.cons x4 [v0.1]),(Int.ofNat 0))))
def qra(lf:Nat)(x1:(List qac))(x2:qaa)(x3:qaa)(x4:(List Int))(L18:((List Int) × (List (List Int)) × Int)->Option qap)(p:(List (List Int)) × Int):Option qap:=(cond (iltI p.2 (Int.ofNat 2)) (match (jget p.1 p.2) with|none=>none|some v0=>(match (GetElem?.getElem? p.1 (Int.toNat p.2)) with|none=>none|some v1=>(L18 (v1,p.1,p.2)))) (some (true,())))
def qw9(lf:Nat)(x1:(List qac))(x2:qaa)(x3:qaa)(x4:(List Int))(L15:((List (List Int)) × Int)->Option qap)(L20:((List Int) × (List (List Int)) × Int)->Option qap)(p:(List Int) × (List (List Int)) × Int):Option qap:=(cond (Bool.not (ieqI (S.Dec x1 p.1).2.2 (Int.ofNat 0))) (L15 (p.2.1,(IntKind.i64.wrap (Int.add p.2.2 (Int.ofNat 1))))) (L20 (p.1,p.2.1,p.2.2)))
def qve(lf:Nat)(x1:(List qac))(x2:qaa)(x3:qaa)(x4:(List Int))(L15:((List (List Int)) × Int)->Option qap)(p:(List Int) × (List (List Int)) × Int):Option qap:=(cond (Bool.not (ieqI (S.encB x1 ((S.Dec x1 p.1).1.1,(S.Dec x1 p.1).1.2)).2 (Int.ofNat 0))) (some (false,())) (cond (Bool.not (S.eqB (S.encB x1 ((S.Dec x1 p.1).1.1,(S.Dec x1 p.1).1.2)).1 p.1)) (some (false,())) (L15 (p.2.1,(IntKind.i64.wrap (Int.add p.2.2 (Int.ofNat 1)))))))
abbrev gz24:Type:=ElA [(.list cForm),cGraph,cGraph,(.list (.int .u8))]->Option qap
abbrev sz24(g:gz24):Sm:=⟨[(.list cForm),cGraph,cGraph,(.list (.int .u8))],[(false,.bool)],g⟩
abbrev Ez24(g:gz24)(J:JT qap)(lf:Nat)(x1:(List qac))(x2:qaa)(x3:qaa)(x4:(List Int)):=qbs Try.prog ttT.get qlj fi12.nt (qwp _ lf) lf qr5 J fi12.body [] (qaq (argV [(.list cForm),cGraph,cGraph,(.list (.int .u8))] (x1,x2,x3,x4,())) 0 .leaf) S0 [] (qas ttT.get fi12 (sz24 g))
abbrev Bz24(g:gz24)(J:JT qap)(lf k:Nat)(ms:List Nat)(q:NRes):=qb0 Try.prog ttT.get qlj fi12.nt (qwp _ lf) lf qr5 J k fi12.body [] ms q (qas ttT.get fi12 (sz24 g))
theorem zhb(g:gz24)(J:JT qap)(lf:Nat)(x1:(List qac))(x2:qaa)(x3:qaa)(x4:(List Int)):Ez24 g J lf x1 x2 x3 x4=qtu lf x1 x2 x3 x4 (fun q=>J 3 [] (qrz x1 x2 x3 x4 q)):=by kernel_rfl
theorem zl8(g:gz24)(J:JT qap)(lf:Nat)(x1:(List qac))(x2:qaa)(x3:qaa)(x4:(List Int))(p:Unit):Bz24 g J lf 3 [] (qrz x1 x2 x3 x4 p)=qvz lf x1 x2 x3 x4 (fun q=>J 5 [] (qqm x1 x2 x3 x4 q)) p:=by kernel_rfl
theorem zdj(g:gz24)(J:JT qap)(lf:Nat)(x1:(List qac))(x2:qaa)(x3:qaa)(x4:(List Int))(p:Unit):Bz24 g J lf 5 [] (qqm x1 x2 x3 x4 p)=qtf lf x1 x2 x3 x4 (fun q=>J 7 [] (qrq x1 x2 x3 x4 q)) (fun q=>J 10 [] (qhg x1 x2 x3 x4 q)) p:=by kernel_rfl
theorem zs5(g:gz24)(J:JT qap)(lf:Nat)(x1:(List qac))(x2:qaa)(x3:qaa)(x4:(List Int))(p:Unit):Bz24 g J lf 7 [] (qrq x1 x2 x3 x4 p)=qss lf x1 x2 x3 x4 (fun q=>J 10 [] (qhg x1 x2 x3 x4 q)) p:=by kernel_rfl
theorem zsr(g:gz24)(J:JT qap)(lf:Nat)(x1:(List qac))(x2:qaa)(x3:qaa)(x4:(List Int))(p:Unit):Bz24 g J lf 10 [] (qhg x1 x2 x3 x4 p)=qxe lf x1 x2 x3 x4 (fun q=>J 12 [] (qow x1 x2 x3 x4 q)) (fun q=>J 14 [] (qhz x1 x2 x3 x4 q)) p:=by kernel_rfl
theorem za5(g:gz24)(J:JT qap)(lf:Nat)(x1:(List qac))(x2:qaa)(x3:qaa)(x4:(List Int))(p:Unit):Bz24 g J lf 12 [] (qow x1 x2 x3 x4 p)=qu2 lf x1 x2 x3 x4 (fun q=>J 14 [] (qhz x1 x2 x3 x4 q)) p:=by kernel_rfl
theorem zr9(g:gz24)(J:JT qap)(lf:Nat)(x1:(List qac))(x2:qaa)(x3:qaa)(x4:(List Int))(p:Unit):Bz24 g J lf 14 [] (qhz x1 x2 x3 x4 p)=qxr lf x1 x2 x3 x4 (fun q=>J 15 [lf] (qdm x1 x2 x3 x4 q)) p:=by kernel_rfl
theorem zca(g:gz24)(J:JT qap)(lf:Nat)(x1:(List qac))(x2:qaa)(x3:qaa)(x4:(List Int))(m1:Nat)(p:(List (List Int)) × Int):Bz24 g J lf 15 [m1] (qdm x1 x2 x3 x4 p)=qra lf x1 x2 x3 x4 (fun q=>J 18 [m1] (qpg x1 x2 x3 x4 q)) p:=by kernel_rfl
theorem zci(g:gz24)(J:JT qap)(lf:Nat)(x1:(List qac))(x2:qaa)(x3:qaa)(x4:(List Int))(m1:Nat)(p:(List Int) × (List (List Int)) × Int):Bz24 g J lf 18 [m1] (qpg x1 x2 x3 x4 p)=qw9 lf x1 x2 x3 x4 (fun q=>J 15 [m1] (qdm x1 x2 x3 x4 q)) (fun q=>J 20 [m1] (qpy x1 x2 x3 x4 q)) p:=by kernel_rfl
theorem zd6(g:gz24)(J:JT qap)(lf:Nat)(x1:(List qac))(x2:qaa)(x3:qaa)(x4:(List Int))(m1:Nat)(p:(List Int) × (List (List Int)) × Int):Bz24 g J lf 20 [m1] (qpy x1 x2 x3 x4 p)=qve lf x1 x2 x3 x4 (fun q=>J 15 [m1] (qdm x1 x2 x3 x4 q)) p:=by kernel_rfl
theorem qd3:(regs fi12.body).Nodup:=by decide +kernel
theorem qec:okC qlj qr5 qy2 fi12.body none=true:=by kernel_rfl
def Az24(g:gz24)(lf:Nat):JT qap:=atN Try.prog ttT.get qlj fi12 (sz24 g) (qwp _ lf) lf qy2
def qop(lf:Nat)(x1:(List qac))(x2:qaa)(x3:qaa)(x4:(List Int))(K15:((List (List Int)) × Int)->Option qap)(p:(List Int) × (List (List Int)) × Int):Option qap:=qve lf x1 x2 x3 x4 K15 p
theorem zpk(g:gz24)(lf:Nat)(x1:(List qac))(x2:qaa)(x3:qaa)(x4:(List Int))(m1:Nat)(p:(List Int) × (List (List Int)) × Int):Az24 g lf 20 [m1] (qpy x1 x2 x3 x4 p)=qop lf x1 x2 x3 x4 (fun q=>Az24 g lf 15 [m1] (qdm x1 x2 x3 x4 q)) p:=by
  refine(qay (qam 20 _) qd3 qec 20 [m1] [m1] rfl _).trans ((zd6 g (Az24 g lf) lf x1 x2 x3 x4 m1 p).trans ?_);rfl
def qpf(lf:Nat)(x1:(List qac))(x2:qaa)(x3:qaa)(x4:(List Int))(K15:((List (List Int)) × Int)->Option qap)(p:(List Int) × (List (List Int)) × Int):Option qap:=qw9 lf x1 x2 x3 x4 K15 (fun q=>qop lf x1 x2 x3 x4 K15 q) p
theorem zgz(g:gz24)(lf:Nat)(x1:(List qac))(x2:qaa)(x3:qaa)(x4:(List Int))(m1:Nat)(p:(List Int) × (List (List Int)) × Int):Az24 g lf 18 [m1] (qpg x1 x2 x3 x4 p)=qpf lf x1 x2 x3 x4 (fun q=>Az24 g lf 15 [m1] (qdm x1 x2 x3 x4 q)) p:=by
  refine(qay (qam 20 _) qd3 qec 18 [m1] [m1] rfl _).trans ((zci g (Az24 g lf) lf x1 x2 x3 x4 m1 p).trans ?_);rw[(show (fun q=>Az24 g lf 20 [m1] (qpy x1 x2 x3 x4 q))=(fun q=>qop lf x1 x2 x3 x4 (fun q=>Az24 g lf 15 [m1] (qdm x1 x2 x3 x4 q)) q) from funext fun q=>zpk g lf x1 x2 x3 x4 m1 q)];rfl
def qhh(lf:Nat)(x1:(List qac))(x2:qaa)(x3:qaa)(x4:(List Int)):Nat->((List (List Int)) × Int)->Option qap:=rounds fun K p=>qra lf x1 x2 x3 x4 (fun q=>qpf lf x1 x2 x3 x4 K q) p
theorem q9t(g:gz24)(lf:Nat)(x1:(List qac))(x2:qaa)(x3:qaa)(x4:(List Int)):∀(n:Nat) (p:(List (List Int)) × Int),Az24 g lf 15 [n] (qdm x1 x2 x3 x4 p)=qhh lf x1 x2 x3 x4 n p
 | 0,p=>qbf 15 [0] rfl _
 | n+1,p=>by
  have ih:=q9t g lf x1 x2 x3 x4 n;refine(qay (qam 20 _) qd3 qec 15 [n+1] [n] rfl _).trans ((zca g (Az24 g lf) lf x1 x2 x3 x4 n p).trans ?_);rw[(show (fun q=>Az24 g lf 18 [n] (qpg x1 x2 x3 x4 q))=(fun q=>qpf lf x1 x2 x3 x4 (fun q=>Az24 g lf 15 [n] (qdm x1 x2 x3 x4 q)) q) from funext fun q=>zgz g lf x1 x2 x3 x4 n q),(show (fun q=>Az24 g lf 15 [n] (qdm x1 x2 x3 x4 q))=(fun q=>qhh lf x1 x2 x3 x4 n q) from funext ih)];rfl
def qgg(lf:Nat)(x1:(List qac))(x2:qaa)(x3:qaa)(x4:(List Int))(p:Unit):Option qap:=qxr lf x1 x2 x3 x4 (fun q=>qhh lf x1 x2 x3 x4 lf q) p
theorem qx6(g:gz24)(lf:Nat)(x1:(List qac))(x2:qaa)(x3:qaa)(x4:(List Int))(p:Unit):Az24 g lf 14 [] (qhz x1 x2 x3 x4 p)=qgg lf x1 x2 x3 x4 p:=by
  refine(qay (qam 20 _) qd3 qec 14 [] [] rfl _).trans ((zr9 g (Az24 g lf) lf x1 x2 x3 x4 p).trans ?_);rw[(show (fun q=>Az24 g lf 15 [lf] (qdm x1 x2 x3 x4 q))=(fun q=>qhh lf x1 x2 x3 x4 lf q) from funext fun q=>q9t g lf x1 x2 x3 x4 lf q)];rfl
def qo5(lf:Nat)(x1:(List qac))(x2:qaa)(x3:qaa)(x4:(List Int))(p:Unit):Option qap:=qu2 lf x1 x2 x3 x4 (fun q=>qgg lf x1 x2 x3 x4 q) p
theorem zkp(g:gz24)(lf:Nat)(x1:(List qac))(x2:qaa)(x3:qaa)(x4:(List Int))(p:Unit):Az24 g lf 12 [] (qow x1 x2 x3 x4 p)=qo5 lf x1 x2 x3 x4 p:=by
  refine(qay (qam 20 _) qd3 qec 12 [] [] rfl _).trans ((za5 g (Az24 g lf) lf x1 x2 x3 x4 p).trans ?_);rw[(show (fun q=>Az24 g lf 14 [] (qhz x1 x2 x3 x4 q))=(fun q=>qgg lf x1 x2 x3 x4 q) from funext fun q=>qx6 g lf x1 x2 x3 x4 q)];rfl
def qga(lf:Nat)(x1:(List qac))(x2:qaa)(x3:qaa)(x4:(List Int))(p:Unit):Option qap:=qxe lf x1 x2 x3 x4 (fun q=>qo5 lf x1 x2 x3 x4 q) (fun q=>qgg lf x1 x2 x3 x4 q) p
theorem q3k(g:gz24)(lf:Nat)(x1:(List qac))(x2:qaa)(x3:qaa)(x4:(List Int))(p:Unit):Az24 g lf 10 [] (qhg x1 x2 x3 x4 p)=qga lf x1 x2 x3 x4 p:=by
  refine(qay (qam 20 _) qd3 qec 10 [] [] rfl _).trans ((zsr g (Az24 g lf) lf x1 x2 x3 x4 p).trans ?_);rw[(show (fun q=>Az24 g lf 12 [] (qow x1 x2 x3 x4 q))=(fun q=>qo5 lf x1 x2 x3 x4 q) from funext fun q=>zkp g lf x1 x2 x3 x4 q),(show (fun q=>Az24 g lf 14 [] (qhz x1 x2 x3 x4 q))=(fun q=>qgg lf x1 x2 x3 x4 q) from funext fun q=>qx6 g lf x1 x2 x3 x4 q)];rfl
def qpj(lf:Nat)(x1:(List qac))(x2:qaa)(x3:qaa)(x4:(List Int))(p:Unit):Option qap:=qss lf x1 x2 x3 x4 (fun q=>qga lf x1 x2 x3 x4 q) p
theorem zee(g:gz24)(lf:Nat)(x1:(List qac))(x2:qaa)(x3:qaa)(x4:(List Int))(p:Unit):Az24 g lf 7 [] (qrq x1 x2 x3 x4 p)=qpj lf x1 x2 x3 x4 p:=by
  refine(qay (qam 20 _) qd3 qec 7 [] [] rfl _).trans ((zs5 g (Az24 g lf) lf x1 x2 x3 x4 p).trans ?_);rw[(show (fun q=>Az24 g lf 10 [] (qhg x1 x2 x3 x4 q))=(fun q=>qga lf x1 x2 x3 x4 q) from funext fun q=>q3k g lf x1 x2 x3 x4 q)];rfl
def qql(lf:Nat)(x1:(List qac))(x2:qaa)(x3:qaa)(x4:(List Int))(p:Unit):Option qap:=qtf lf x1 x2 x3 x4 (fun q=>qpj lf x1 x2 x3 x4 q) (fun q=>qga lf x1 x2 x3 x4 q) p
theorem zkt(g:gz24)(lf:Nat)(x1:(List qac))(x2:qaa)(x3:qaa)(x4:(List Int))(p:Unit):Az24 g lf 5 [] (qqm x1 x2 x3 x4 p)=qql lf x1 x2 x3 x4 p:=by
  refine(qay (qam 20 _) qd3 qec 5 [] [] rfl _).trans ((zdj g (Az24 g lf) lf x1 x2 x3 x4 p).trans ?_);rw[(show (fun q=>Az24 g lf 7 [] (qrq x1 x2 x3 x4 q))=(fun q=>qpj lf x1 x2 x3 x4 q) from funext fun q=>zee g lf x1 x2 x3 x4 q),(show (fun q=>Az24 g lf 10 [] (qhg x1 x2 x3 x4 q))=(fun q=>qga lf x1 x2 x3 x4 q) from funext fun q=>q3k g lf x1 x2 x3 x4 q)];rfl
def qn1(lf:Nat)(x1:(List qac))(x2:qaa)(x3:qaa)(x4:(List Int))(p:Unit):Option qap:=qvz lf x1 x2 x3 x4 (fun q=>qql lf x1 x2 x3 x4 q) p
theorem zc5(g:gz24)(lf:Nat)(x1:(List qac))(x2:qaa)(x3:qaa)(x4:(List Int))(p:Unit):Az24 g lf 3 [] (qrz x1 x2 x3 x4 p)=qn1 lf x1 x2 x3 x4 p:=by
  refine(qay (qam 20 _) qd3 qec 3 [] [] rfl _).trans ((zl8 g (Az24 g lf) lf x1 x2 x3 x4 p).trans ?_);rw[(show (fun q=>Az24 g lf 5 [] (qqm x1 x2 x3 x4 q))=(fun q=>qql lf x1 x2 x3 x4 q) from funext fun q=>zkt g lf x1 x2 x3 x4 q)];rfl
def Fz24(lf:Nat)(x1:(List qac))(x2:qaa)(x3:qaa)(x4:(List Int)):Option qap:=qtu lf x1 x2 x3 x4 (fun q=>qn1 lf x1 x2 x3 x4 q)
theorem znb(g:gz24)(lf:Nat)(x1:(List qac))(x2:qaa)(x3:qaa)(x4:(List Int)):Ez24 g (Az24 g lf) lf x1 x2 x3 x4=Fz24 lf x1 x2 x3 x4:=by
  refine(zhb g (Az24 g lf) lf x1 x2 x3 x4).trans ?_;rw[(show (fun q=>Az24 g lf 3 [] (qrz x1 x2 x3 x4 q))=(fun q=>qn1 lf x1 x2 x3 x4 q) from funext fun q=>zc5 g lf x1 x2 x3 x4 q)];rfl
theorem zq6:qa2 Try.prog qyb:=trivial
theorem zh4{g:gz24}(hsm:SmOK Try.prog q3i)(hg:∀(x:ElA [(.list cForm),cGraph,cGraph,(.list (.int .u8))]) (y:qap),WfA [(.list cForm),cGraph,cGraph,(.list (.int .u8))] x->g x=some y->∃lf,Fz24 lf x.1 x.2.1 x.2.2.1 x.2.2.2.1=some y):Con Try.prog 12 ⟨[(.list cForm),cGraph,cGraph,(.list (.int .u8))],[(false,.bool)],g⟩ :=
 conV (st:=qr5) (fun lf x=>Fz24 lf x.1 x.2.1 x.2.2.1 x.2.2.2.1) cm3 zbe zq6 qd3 qec (fun lf x=>znb g lf x.1 x.2.1 x.2.2.1 x.2.2.2.1) hsm hg
theorem q7p:∀(n f:Nat) (b:Bool) (u:Int) (r:List Int),0<=u->u<128 ^ (n+1)->n<=f->(b=true\/0<u)->S.rdU b (n+1) (S.numU f u++r)=some (u,r)
 | n,f,b,u,r,h0,h1,hf,hb=>by
  by_cases hu:u<128
  ·rw[qo0 hu];simp only[jcz,jc2,S.rdU,jam hu];rw[jam hb]
  ·cases n with
   | zero=>exact absurd (by simpa using h1) hu
   | succ n =>
    cases f with
    | zero=>omega
    | succ f =>
     have ih:=q7p n f false (u / 128) r (by omega) (q56 h1) (by omega) (.inr (by omega));rw[qp8 hu,jcz,S.rdU,jak (by omega),ih];simp only[jaw,jch,and_true];omega
def Byt'(l:List Int):Prop:=∀v∈l,0<=v/\v<256
theorem qzk:∀(n f:Nat) (b:Bool) (l r:List Int) (u:Int),Byt' l->S.rdU b n l=some (u,r)->n<=f+1->l=S.numU f u++r/\(b=false->0<u)
 | 0,f,b,l,r,u,hl,h,hf=>by simp[S.rdU] at h
 | n+1,f,b,[],r,u,hl,h,hf=>by simp[S.rdU] at h
 | n+1,f,b,c::l,r,u,hl,h,hf=>by
  have hc:=hl c (by simp);unfold S.rdU at h;by_cases hu:c<128
  ·rw[jam hu] at h;by_cases hb:b=true\/0<c
   ·rw[jam hb] at h;cases h;exact⟨by rw[qo0 hu];rfl,fun e=>hb.elim (fun h=>by rw[e] at h;cases h) id⟩
   ·rw[jak hb] at h;cases h
  ·rw[jak hu] at h;split at h<;>cases h;rename_i v hv;cases f with
   | zero =>
    have:n=0:=by omega
    subst this;simp[S.rdU] at hv
   | succ f =>
    obtain⟨k1,k2⟩:=qzk n f false l r v (fun x hx=>hl x (by simp[hx])) hv (by omega);have k2:=k2 rfl;have hge:¬c % 128+128*v<128:=by omega
    refine⟨?_,fun _=>by omega⟩;rw[qp8 hge,k1,jcz];congr 1
    ·omega
    ·congr 2;omega
theorem zdi(n:Int):S.unz (if n<0 then -2*n-1 else 2*n)=n:=by
 unfold S.unz;split
 ·rw[jam (by omega)];omega
 ·rw[jak (by omega)];omega
theorem zu3{u:Int}(h:0<=u):(if S.unz u<0 then -2*S.unz u-1 else 2*S.unz u)=u:=by
 unfold S.unz;by_cases hm:u % 2=1
 ·rw[jam hm,jam (by omega)];omega
 ·rw[jak hm,jak (by omega)];omega
theorem qg6{lo hi n:Int}(r:List Int)(h1:lo<=n)(h2:n<=hi)(h3:-2000000000000<=n)(h4:n<=2000000000000):S.rd lo hi (S.num n++r)=some (n,r):=by
 have e:(128:Int) ^ (7+1)=72057594037927936:=by decide +kernel
 have:=q7p 7 10 true (if n<0 then -2*n-1 else 2*n) r (by split<;>omega) (by rw[e];split<;>omega) (by omega) (.inl rfl);unfold S.rd S.num;rw[this];simp only[zdi];rw[jam ⟨h1,h2⟩]
theorem qia{lo hi n:Int}{l r:List Int}(hl:Byt' l)(h:S.rd lo hi l=some (n,r)):l=S.num n++r/\lo<=n/\n<=hi:=by
 unfold S.rd at h;split at h<;>try cases h
 rename_i u r' hu;split at h<;>cases h;rename_i hc;obtain⟨k1,_⟩:=qzk 8 10 true l r u hl hu (by omega);obtain⟨_,k3,_⟩:=qth 8 true l u r hu fun c hc=>by have:=hl c hc;omega
 refine⟨?_,hc⟩;unfold S.num;rw[zu3 k3];exact k1
theorem Byt'.tl{a b:List Int}(h:Byt' (a++b)):Byt' b:=fun v hv=>h v (jbz _ hv)
theorem qtx{n lo hi:Int}(h:S.within n lo hi=true):lo<=n/\n<=hi:=by
 unfold S.within at h;simp only[jaf,jbc] at h;exact h
theorem zuv{m:Int}(h0:0<=m)(h1:m<=400):IntKind.i64.wrap (Int.sub m (Int.ofNat 1))=m-1:=w64 (n:=m-1) (by omega) (by omega)
theorem q9g{g:qaa}{m:Int}{c:DCol}{v:DVal}(r:List Int)(h0:0<=m)(h1:m<=400)(hv:S.value v m=true)(hs:S.suits g c v=true):S.rdV m c.2.1 (S.num (S.code v)++r)=some (v,r):=by
 obtain⟨t,n⟩:=v;unfold S.suits at hs;unfold S.rdV;by_cases k1:c.2.1=1
 ·rw[jam k1] at hs ⊢;have ht:t=1:=ja6 hs;subst ht;have hw:S.within n (-1099511627776) 1099511627776=true:=hv;obtain⟨w1,w2⟩:=qtx hw;have hc:S.code (1,n)=n:=rfl;rw[hc,qg6 r w1 w2 (by omega) (by omega)]
 ·rw[jak k1] at hs ⊢;by_cases k2:c.2.1=2
  ·rw[jam k2] at hs ⊢;have ht:t=2:=ja6 hs;subst ht;have hw:S.within n 0 1=true:=hv;obtain⟨w1,w2⟩:=qtx hw;have hc:S.code (2,n)=n:=rfl;rw[hc,qg6 r w1 w2 (by omega) (by omega)]
  ·rw[jak k2] at hs ⊢;rcases jc7 _ _▸hs with h|h
   ·have ht:t=3:=ja6 h;subst ht;have hn:n=0:=ja6 (show decide (n=0)=true from hv);subst hn;have hc:S.code (3,0)=0:=rfl;rw[hc,qg6 r (by omega) h0 (by omega) (by omega)];rfl
   ·have ht:t=4:=ja6 (jaf _ _▸h).1;subst ht;have hw:S.within n 0 (IntKind.i64.wrap (Int.sub m (Int.ofNat 1)))=true:=hv;rw[zuv h0 h1] at hw;obtain⟨w1,w2⟩:=qtx hw;have hc:S.code (4,n)=n+1:=w64 (n:=n+1) (by omega) (by omega);rw[hc,qg6 r (by omega) (by omega) (by omega) (by omega)];simp only;rw[jam (by omega),show n+1-1=n by omega]
theorem zj4{m:Int}{v:DVal}(r:List Int)(h0:0<=m)(h1:m<=400)(hv:S.value v m=true)(hs:S.refers v=true):S.rdV m 0 (S.num (S.code v)++r)=some (v,r):=by
 refine q9g (g:=([],[])) (c:=(S.lit [],0,S.ANY)) r h0 h1 hv ?_;unfold S.refers at hs;show (decide (v.1=3)||(decide (v.1=4)&&(decide (S.ANY=S.ANY)||_)))=true;rcases jc7 _ _▸hs with h|h
 ·rw[h];rfl
 ·rw[h,jaj rfl];simp
theorem q0d{m k:Int}{l r:List Int}{v:DVal}(hl:Byt' l)(h0:0<=m)(h1:m<=400)(h:S.rdV m k l=some (v,r)):l=S.num (S.code v)++r:=by
 unfold S.rdV at h;split at h
 ·split at h<;>cases h;rename_i hr;exact(qia hl hr).1
 ·split at h
  ·split at h<;>cases h;rename_i hr;exact(qia hl hr).1
  ·split at h<;>cases h;rename_i n hr;obtain⟨k1,k2,k3⟩:=qia hl hr;by_cases hn:0<n
   ·rw[jam hn];have hc:S.code (4,n-1)=n:=by
     show IntKind.i64.wrap (n-1+1)=n;rw[w64 (by omega) (by omega)];omega
    rw[hc];exact k1
   ·rw[jak hn];have:n=0:=by omega
    subst this;exact k1
theorem qq3(v:Int × Int)(l:List (Int × Int)):S.codes (v::l)=S.num (S.code v)++S.codes l:=rfl
theorem qzy{g:qaa}{N:Nat}{m:Int}(h0:0<=m)(h1:m<=400):∀(cs:List DCol) (vs:List DVal) (r:List Int),vs.length=cs.length->S.suitsAll g cs vs=true->(∀v∈vs,S.value v m=true)->S.decVs N m cs (S.codes vs++r)=.inr (vs,r)
 | [],[],r,_,_,_=>rfl
 | [],_::_,r,h,_,_=>by simp at h
 | _::_,[],r,h,_,_=>by simp at h
 | c::cs,v::vs,r,hl,hs,hv=>by
  unfold S.suitsAll at hs;by_cases hc:S.suits g c v=true
  ·rw[jam hc] at hs;unfold S.decVs;rw[qq3,ja9,q9g _ h0 h1 (hv v (by simp)) hc];simp only;rw[qzy h0 h1 cs vs r (by simpa using hl) hs fun w hw=>hv w (by simp[hw])]
  ·rw[jak hc] at hs;cases hs
theorem q6l{N:Nat}{m:Int}(h0:0<=m)(h1:m<=400):∀(cs:List DCol) (vs:List DVal) (l r:List Int),Byt' l->S.decVs N m cs l=.inr (vs,r)->l=S.codes vs++r
 | [],vs,l,r,_,h=>by cases h;rfl
 | c::cs,vs,l,r,hl,h=>by
  unfold S.decVs at h;split at h
  ·cases h
  rename_i v r1 hr;split at h
  ·cases h
  rename_i vs2 r2 h2;cases h;have e:=q0d hl h0 h1 hr;have hb:Byt' r1:=by rw[e] at hl;exact hl.tl
  rw[e,q6l h0 h1 cs vs2 r1 _ hb h2,qq3,ja9]
theorem q52{N:Nat}{m:Int}(h0:0<=m)(h1:m<=400):∀(vs:List DVal) (r:List Int),(∀v∈vs,S.value v m=true/\S.refers v=true)->S.decRs N m vs.length (S.codes vs++r)=.inr (vs,r)
 | [],r,_=>rfl
 | v::vs,r,hv=>by
  show S.decRs N m (vs.length+1) _=_;unfold S.decRs;rw[qq3,ja9,zj4 _ h0 h1 (hv v (by simp)).1 (hv v (by simp)).2];simp only;rw[q52 h0 h1 vs r fun w hw=>hv w (by simp[hw])]
theorem q1u{N:Nat}{m:Int}(h0:0<=m)(h1:m<=400):∀(k:Nat) (vs:List DVal) (l r:List Int),Byt' l->S.decRs N m k l=.inr (vs,r)->l=S.codes vs++r
 | 0,vs,l,r,_,h=>by cases h;rfl
 | k+1,vs,l,r,hl,h=>by
  unfold S.decRs at h;split at h
  ·cases h
  rename_i v r1 hr;split at h
  ·cases h
  rename_i vs2 r2 h2;cases h;have e:=q0d hl h0 h1 hr;have hb:Byt' r1:=by rw[e] at hl;exact hl.tl
  rw[e,q1u h0 h1 k vs2 r1 _ hb h2,qq3,ja9]
theorem zrl{F:List qac}(hF:FormsOK F){i:Nat}(hi:i<F.length):S.form F F[i].1=(i:Int):=zoa hi (jaj rfl) (hF.one i hi)
theorem zm2{F:List qac}{n:ByteArray}(h:0<=S.form F n):∃f,F[(S.form F n).toNat]?=some f/\f.1=n/\S.form F n<=Int.ofNat F.length-1:=by
 unfold S.form S.idx at h ⊢;cases hf:F.findIdx? (fun f=>keqS f.1 n) with
 | none=>rw[hf] at h;exact absurd h (by decide)
 | some i =>
  obtain⟨hi,hp,_⟩:=jcf.1 hf;refine⟨F[i],by show F[i]?=_;exact jab hi,ja6 hp,by show ((i:Nat):Int)<=(F.length:Int)-1;omega⟩
theorem q1y{F:List qac}{g:qaa}{N:Nat}{m:Int}(hF:F.length<=24)(h0:0<=m)(h1:m<=400):∀(ns:List qab) (r:List Int),(∀n∈ns,0<=S.form F n.1)->S.typed F g ns=true->(∀n∈ns,∀v∈n.2,S.value v m=true)->S.decNs N F m ns.length (ns.flatMap (S.encN F)++r)=.inr (ns,r)
 | [],r,_,_,_=>rfl
 | n::ns,r,hf,ht,hv=>by
  obtain⟨f,e1,e2,e3⟩   := zm2 (hf n (by simp));have hf0:=hf n (by simp);unfold S.typed at ht;by_cases hl:n.2.length=(S.colsOf F n.1).length
  ·rw[jam hl] at ht;by_cases hs:S.suitsAll g (S.colsOf F n.1) n.2=true
   ·rw[jam hs] at ht;have hcol:S.colsOf F n.1=f.2:=by unfold S.colsOf S.at_;rw[e1];rfl
    rw[hcol] at hl hs;show S.decNs N F m (ns.length+1) _=_;unfold S.decNs;have hbd:S.form F n.1<=2000000000000:=by
     have q1:S.form F n.1<=(F.length:Int)-1:=e3;omega
    rw[jei,S.encN,ja9,ja9,qg6 _ hf0 e3 (by omega) hbd];simp only[e1];rw[qzy h0 h1 f.2 n.2 _ hl hs (hv n (by simp))];simp only;rw[q1y hF h0 h1 ns r (fun x hx=>hf x (by simp[hx])) ht fun x hx=>hv x (by simp[hx])];simp only[e2]
   ·rw[jak hs] at ht;cases ht
  ·rw[jak hl] at ht;cases ht
theorem q2u{F:List qac}{N:Nat}{m:Int}(hF:FormsOK F)(h0:0<=m)(h1:m<=400):∀(k:Nat) (ns:List qab) (l r:List Int),Byt' l->S.decNs N F m k l=.inr (ns,r)->l=ns.flatMap (S.encN F)++r
 | 0,ns,l,r,_,h=>by cases h;rfl
 | k+1,ns,l,r,hl,h=>by
  unfold S.decNs at h;split at h
  ·cases h
  rename_i i r1 hr;obtain⟨q1,q2,q3⟩:=qia hl hr;split at h
  ·cases h
  rename_i f hf;split at h
  ·cases h
  rename_i vs r2 h2;split at h
  ·cases h
  rename_i ns2 r3 h3;cases h;have hb1:Byt' r1:=by rw[q1] at hl;exact hl.tl
  have e2:=q6l h0 h1 f.2 vs r1 r2 hb1 h2;have hb2:Byt' r2:=by rw[e2] at hb1;exact hb1.tl
  have e3:=q2u hF h0 h1 k ns2 r2 _ hb2 h3;have hi:i.toNat<F.length:=(jav.1 hf).1;have hfi:F[i.toNat]=f:=(jav.1 hf).2;have hform:S.form F f.1=i:=by
   have:=zrl hF hi;rw[hfi] at this;rw[this];omega
  rw[jei,S.encN];simp only;rw[hform,ja9,ja9,<- e3,<- e2];exact q1
theorem zt2{F:List qac}{G:List qab × List DVal}(hF:S.checkForms F=0)(hf:S.formed G=0)(hc:∀n∈G.1,0<=S.form F n.1)(ht:S.typed F G G.1=true):S.dec F (S.enc F G)=.inr G:=by
 obtain⟨f1,f2,f3,f4,f5⟩:=qlg hf;have hfo:=qsb hF;have m0:0<=Int.ofNat G.1.length:=jce _;have m1:Int.ofNat G.1.length<=400:=by show (G.1.length:Int)<=400;omega
 have k1:Int.ofNat G.2.length<=60:=by show (G.2.length:Int)<=60;omega
 unfold S.dec S.enc;rw[qg6 _ m0 m1 (by omega) (by omega)];simp only;rw[show Int.toNat (Int.ofNat G.1.length)=G.1.length from rfl,q1y (g:=G) hfo.len m0 m1 G.1 _ hc ht f4];simp only;rw[qg6 (n:=Int.ofNat G.2.length) _ (jce _) k1 (by have:(0:Int)<=Int.ofNat G.2.length:=jce _;omega) (by omega)];simp only;rw[show Int.toNat (Int.ofNat G.2.length)=G.2.length from rfl];have:=q52 (N:=(S.num (Int.ofNat G.1.length)++(G.1.flatMap (S.encN F)++(S.num (Int.ofNat G.2.length)++S.codes G.2))).length) m0 m1 G.2 [] f5;rw[jbk] at this;rw[this];simp
theorem zcz{F:List qac}{b:List Int}{G:List qab × List DVal}(hF:S.checkForms F=0)(hb:Byt' b)(h:S.dec F b=.inr G):b=S.enc F G:=by
 have hfo:=qsb hF;unfold S.dec at h;split at h
 ·cases h
 rename_i m l0 h0;obtain⟨q0,m0,m1⟩:=qia hb h0;have hb0:Byt' l0:=by rw[q0] at hb;exact hb.tl
 split at h
 ·cases h
 rename_i ns l1 h1;obtain⟨n1,_⟩:=qs7 m0 m1 _ _ _ _ h1;have q1:=q2u hfo m0 m1 _ _ _ _ hb0 h1;have hb1:Byt' l1:=by rw[q1] at hb0;exact hb0.tl
 split at h
 ·cases h
 rename_i k l2 h2;obtain⟨q2,k0,k1⟩:=qia hb1 h2;have hb2:Byt' l2:=by rw[q2] at hb1;exact hb1.tl
 split at h
 ·cases h
 rename_i rs l3 h3;obtain⟨r1,_⟩:=qt5 m0 m1 _ _ _ _ h3;have q3:=q1u m0 m1 _ _ _ _ hb2 h3;by_cases hz:l3=[]
 ·rw[jam hz] at h;cases h;subst hz;have em:Int.ofNat ns.length=m:=by rw[n1];show ((m.toNat:Nat):Int)=m;omega
  have ek:Int.ofNat rs.length=k:=by rw[r1];show ((k.toNat:Nat):Int)=k;omega
  unfold S.enc;simp only;rw[em,ek];rw[q0,q1,q2,q3,jbk]
 ·rw[jak hz] at h;cases h
theorem right_of{l:List qac}{π:Int->Int}{x y:List qab × List DVal}(hn:∀(k:Int) (v:ByteArray × List DVal),jget x.1 k=some v->jget y.1 (π k)=some ((v.1,List.map (α:=Int × Int) (β:=Int × Int) (S.mvV π) v.2):ByteArray × List DVal))
  (hf:S.formed x=0) (hy:GraphOK l y):GraphOK l x:=by
 have hidx:∀n∈x.1,∃k,jget x.1 k=some n/\jget y.1 (π k)=some (((n:ByteArray × List DVal).1,List.map (α:=Int × Int) (β:=Int × Int) (S.mvV π) (n:ByteArray × List DVal).2):ByteArray × List DVal):=fun n hn'=>by
  obtain⟨i,hi,rfl⟩:=jbq.1 hn';have:jget x.1 (Int.ofNat i)=some x.1[i]:=by rw[qcz];exact jab hi
  exact⟨_,this,hn _ _ this⟩
 have hmem:∀{k:Int} {w:qab},jget y.1 k=some w->w∈y.1:=fun h=>by
  obtain⟨_,hi,e⟩:=qf0 h;exact e▸jaz hi
 refine⟨hf,fun n hn'=>?_,q41 fun n hn'=>?_⟩
 ·obtain⟨k,k1,k2⟩:=hidx n hn';have:=hy.has _ (hmem k2);exact this
 ·obtain⟨k,k1,k2⟩:=hidx n hn';obtain⟨t1,t2⟩:=qze hy.typed _ (hmem k2);have t1:(List.map (α:=Int × Int) (β:=Int × Int) (S.mvV π) (n:ByteArray × List DVal).2).length=(S.colsOf l (n:ByteArray × List DVal).1).length:=t1;have t3:(n:ByteArray × List DVal).2.length=(S.colsOf l (n:ByteArray × List DVal).1).length:=by rw[jbx] at t1;exact t1
  refine⟨t3,(qxh _ _ _ t3).2 fun i h1 h2=>?_⟩;have t2:=(qxh _ _ _ t1).1 t2;have h3:i<(List.map (α:=Int × Int) (β:=Int × Int) (S.mvV π) (n:ByteArray × List DVal).2).length:=by rw[jbx];exact h2
  have hs:=t2 i h1 h3;have e:(List.map (α:=Int × Int) (β:=Int × Int) (S.mvV π) (n:ByteArray × List DVal).2)[i]'h3=S.mvV π ((n:ByteArray × List DVal).2[i]'h2):=jb0 _;rw[e] at hs;have hs:=(q6g _ _ _).1 hs;generalize hv:(n:ByteArray × List DVal).2[i]'h2=v at hs;have hvm:v∈(n:ByteArray × List DVal).2:=hv▸jaz h2;have hkind:(S.mvV π v).1=(v:Int × Int).1:=q09 π v;refine(q6g _ _ _).2 ⟨fun q=>hkind.symm.trans (hs.1 q),fun q=>hkind.symm.trans (hs.2.1 q),fun q1 q2=>?_⟩;rcases hs.2.2 q1 q2 with r|⟨r,r2⟩
  ·exact .inl (hkind.symm.trans r)
  ·have r':(v:Int × Int).1=4:=hkind.symm.trans r;refine .inr ⟨r',r2.imp id fun r3=>?_⟩;have e2:(S.mvV π v).2=π (v:Int × Int).2:=by unfold S.mvV;rw[jam r']
   obtain⟨g1,g2⟩:=(qd8 hf).ref n hn' (v:Int × Int).2 (qvc hvm r');obtain⟨w,w1,w2,w3⟩:=qd1 (l:=x.1) g1 g2;have w4:=hn _ _ w1;obtain⟨p0,pi,pe⟩:=qf0 w4;have e3:(S.at_ S.zNode y.1 (π (v:Int × Int).2):ByteArray × List DVal).1=(w:ByteArray × List DVal).1:=by
    unfold S.at_;rw[jab pi,pe];rfl
   have e4:(S.at_ S.zNode x.1 (v:Int × Int).2:ByteArray × List DVal).1=(w:ByteArray × List DVal).1:=by
    unfold S.at_;rw[w2];rfl
   have r3:(S.at_ S.zNode y.1 (S.mvV π v).2:ByteArray × List DVal).1=_:=r3;rw[e2,e3] at r3;exact e4.trans r3
theorem zgd{l:List qac}{x:List qab × List DVal}(hx:GraphOK l x):GraphOK l (S.canonG x) :=
 right_of (qz6 (qd8 hx.formed)).node (qsq hx.formed) hx



def Byt(l:List Int):Prop:=∀v∈l,0<=v/\v<256
theorem zar(s:Int):Byt (S.sum4I s):=fun v hv=>by
 unfold S.sum4I at hv;simp only[ja0,jdc,je9,w8] at hv;rcases hv with rfl|rfl|rfl|rfl<;>omega
theorem zp6{F:List qac}{b:List Int}(h:(S.Dec F b).2.2=0):4<=b.length/\b.take (b.length-4)++S.sum4 (b.take (b.length-4))=b:=by
 unfold S.Dec at h;by_cases h0:S.checkForms F=0
 ·rw[jak (fun h=>h h0)] at h;by_cases h1:60000<b.length
  ·rw[jam h1] at h;exact absurd (show (3:Int)=0 from h) (by decide)
  ·rw[jak h1] at h;by_cases h2:b.length<4
   ·rw[jam h2] at h;exact absurd (show (15:Int)=0 from h) (by decide)
   ·rw[jak h2] at h;by_cases h3:b.drop (b.length-4)=S.sum4 (b.take (b.length-4))
    ·exact⟨by omega,by rw[<- h3];exact jcq _ _⟩
    ·rw[jam h3] at h;exact absurd (show (15:Int)=0 from h) (by decide)
 ·rw[jam h0] at h;exact absurd h h0
theorem qrx{l:List qac}{g:List qab × List DVal}(h:(S.encB l g).2=0):S.checkForms l=0/\GraphOK l g/\(S.encB l g).1=S.enc l (S.canonG g)++S.sum4 (S.enc l (S.canonG g))/\(S.enc l (S.canonG g)).length+4<=60000:=by
 unfold S.encB at h ⊢;by_cases h0:S.checkG l g=0
 ·rw[jam h0] at h ⊢;by_cases h1:60000<(S.enc l (S.canonG g)).length+4
  ·rw[jam h1] at h;exact absurd (show (3:Int)=0 from h) (by decide)
  ·rw[jak h1] at h ⊢;unfold S.checkG at h0;by_cases hc:S.checkForms l=0
   ·rw[jak (by simpa using hc)] at h0;exact⟨hc,(qxu l g).1 h0,rfl,by omega⟩
   ·rw[jam hc] at h0;exact absurd h0 hc
 ·rw[jak h0] at h;exact absurd h h0
theorem rt1{l:List qac}{g:List qab × List DVal}(h:(S.encB l g).2=0):S.Dec l (S.encB l g).1=(S.canonG g,0,0):=by
 obtain⟨hc,hg,hB,hl⟩:=qrx h;have hG:=zgd hg;have hd:=zt2 (G:=S.canonG g) hc hG.formed (fun n hn=>hG.has n hn) hG.typed;rw[hB];generalize S.enc l (S.canonG g)=E at hd hl;have h4:(E++S.sum4 E).length=E.length+4:=by rw[jaq];rfl
 unfold S.Dec;rw[h4,jak (fun h=>h hc),jak (by omega),jak (by omega),Nat.add_sub_cancel,List.drop_left,List.take_left,jak (fun h=>h rfl),hd];simp only;rw[jak (by rw[hG.typed];simp),zcb hg.formed,q85,jak (by simp)]
theorem rt3{l:List qac}{b:List Int}(hb:Byt' b)(h:(S.Dec l b).2.2=0):S.encB l (S.Dec l b).1=(b,0):=by
 have hs:=zp6 h;unfold S.Dec at h ⊢;by_cases h0:S.checkForms l=0
 ·rw[jak (fun h=>h h0)] at h ⊢;by_cases h1:60000<b.length
  ·rw[jam h1] at h;exact absurd (show (3:Int)=0 from h) (by decide)
  ·rw[jak h1] at h ⊢;by_cases h2:b.length<4
   ·rw[jam h2] at h;exact absurd (show (15:Int)=0 from h) (by decide)
   ·rw[jak h2] at h ⊢;by_cases h3:b.drop (b.length-4)=S.sum4 (b.take (b.length-4))
    ·rw[jak (fun h=>h h3)] at h ⊢;cases hd:S.dec l (b.take (b.length-4)) with
     | inl e=>rw[hd] at h;exact absurd (show (2:Int)=0 from h) (by decide)
     | inr g =>
      rw[hd] at h;simp only at h ⊢;by_cases ht:S.typed l g (g:List qab × List DVal).1=false
      ·rw[jam ht] at h;exact absurd (show (8:Int)=0 from h) (by decide)
      ·rw[jak ht] at h ⊢;by_cases he:S.eqGraph (S.canonG g) g=false
       ·rw[jam he] at h;exact absurd (show (2:Int)=0 from h) (by decide)
       ·rw[jak he];obtain⟨hf,hp⟩:=zae (g:=g) h0 hd;have hE:=zcz (G:=g) h0 (fun v hv=>hb v (List.mem_of_mem_take hv)) hd;have ht:S.typed l g (g:List qab × List DVal).1=true:=by
         cases hq:S.typed l g (g:List qab × List DVal).1 with
         | false=>exact absurd hq ht
         | true=>rfl
        have hcan:S.canonG g=g:=by
         have he:S.eqGraph (S.canonG g) g=true:=by
          cases hq:S.eqGraph (S.canonG g) g with
          | false=>exact absurd hq he
          | true=>rfl
         rw[q83] at he;exact ja6 he
        have hG:GraphOK l g:=⟨hf,fun n hn=>by
         have:=(ja3.1 hp) n hn;rw[jaf] at this;exact ja6 this.1,ht⟩
        have hck:S.checkG l g=0:=by
         unfold S.checkG;rw[jak (by simpa using h0)];exact(qxu l g).2 hG
        unfold S.encB;rw[jam hck,hcan,<- hE];have hlen:(b.take (b.length-4)).length+4=b.length:=by rw[jem];omega
        rw[hlen,jak h1,hs.2]
    ·rw[jam h3] at h;exact absurd (show (15:Int)=0 from h) (by decide)
 ·rw[jam h0] at h;exact absurd h h0
theorem rt2{l:List qac}{x y:List qab × List DVal}(hx:(S.encB l x).2=0)(hy:(S.encB l y).2=0):S.sameB x y=(S.eqB (S.encB l x).1 (S.encB l y).1,0):=by
 obtain⟨_,gx,bx,_⟩:=qrx hx;obtain⟨_,gy,by_,_⟩:=qrx hy;unfold S.sameB;rw[jak (fun h=>h gx.formed),jak (fun h=>h gy.formed)];congr 1;by_cases h:S.canonG x=S.canonG y
 ·have e:(S.encB l x).1=(S.encB l y).1:=by rw[bx,by_,h]
  rw[qgl.2 e];exact jaj h
 ·have e:S.eqB (S.encB l x).1 (S.encB l y).1=false:=by
   cases he:S.eqB (S.encB l x).1 (S.encB l y).1 with
   | false=>rfl
   | true =>
    have:=jca (S.Dec l) (qgl.1 he);rw[rt1 hx,rt1 hy] at this;exact absurd (jca Prod.fst this) h
  rw[e];exact jai h
section
variable {l : List qac} {x y : List qab × List DVal} {b : List Int}
theorem zc8(hb:Byt' b)(hl:b.length<=400):qhh LF l x y b LF ([b,b++S.sum4 b],Int.ofNat 0)=some (true,()):=by
 simp only[qhh];refine range0 (α:=List Int) (σ:=Unit) (R:=qap) [b,b++S.sum4 b] (fun k _=>([b,b++S.sum4 b],k)) (fun _ _=>True) (fun rest i s=>some (true,())) (by show 2<LF;unfold LF;omega) (fun K s hI=>?_) (fun K i v rest s hI r hk=>?_) () trivial
 ·have:iltI (Int.ofNat [b,b++S.sum4 b].length) (Int.ofNat 2)=false:=by rw[qan];rfl
  simp only[qra,this,jae]
 ·have h1:iltI (Int.ofNat i) (Int.ofNat 2)=true:=r.ilt;have h2:=r.get;have h3:[b,b++S.sum4 b][Int.toNat (Int.ofNat i)]?=some v:=r.get?;have hv:Byt' v:=by
   have:=r.mem;simp only[ja0,jdc,je9] at this;rcases this with rfl|rfl
   ·exact hb
   ·exact fun w hw=>(jbe.1 hw).elim (hb w) (zar _ w)
  simp only[qra,h1,jaa,h2,h3,qpf,qw9,r.next,qat];have hk:=hk () trivial;by_cases hd:(S.Dec l v).2.2=0
  ·rw[jaj (show (S.Dec l v).2.2=Int.ofNat 0 from hd),jbf,jae];have he:=rt3 hv hd;have he:S.encB l ((S.Dec l v).1.1,(S.Dec l v).1.2)=(v,0):=he;simp only[qop,qve,he,qat,qgl.2 rfl,r.next,jbf,jae];exact hk
  ·rw[jai (show ¬(S.Dec l v).2.2=Int.ofNat 0 from hd),ja7,jaa];exact hk
theorem q7u(hb:Byt' b)(hl:b.length<=400):qgg LF l x y b ()=some (true,()):=by
 have h1:Nat.ble (Nat.add b.length 100) 140737488355328=true:=jb7 (by show b.length+100<=_;omega);simp only[qgg,qxr,h1,jaa];exact zc8 hb hl
theorem q8r(hb:Byt' b)(hl:b.length<=400):qga LF l x y b ()=some (true,()):=by
 have ex:(x.1,x.2)=x:=rfl;have ey:(y.1,y.2)=y:=rfl;simp only[qga,qxe,ex,ey,q7u hb hl,qat];by_cases h1:(S.encB l x).2=0
 ·rw[jaj (show (S.encB l x).2=Int.ofNat 0 from h1),jaa];by_cases h2:(S.encB l y).2=0
  ·rw[jaj (show (S.encB l y).2=Int.ofNat 0 from h2),jaa];simp only[qo5,qu2,ex,ey,q7u hb hl,qat,rt2 h1 h2];rfl
  ·rw[jai (show ¬(S.encB l y).2=Int.ofNat 0 from h2),jae]
 ·rw[jai (show ¬(S.encB l x).2=Int.ofNat 0 from h1),jae]
theorem zop(hb:Byt' b):Fz24 LF l x y b=some (true,()):=by
 have ex:(x.1,x.2)=x:=rfl;have ey:(y.1,y.2)=y:=rfl;simp only[Fz24,qtu,ex,ey];cases S.fewForms l with
 | false=>rfl
 | true =>
 cases S.few x with
 | false=>rfl
 | true =>
 cases S.few y with
 | false=>rfl
 | true =>
 simp only[jbf,jae,qan];by_cases hl:Int.ofNat 400<Int.ofNat b.length
 ·rw[jaj hl,jaa]
 rw[jai hl,jae];have hl:b.length<=400:=by have:¬(400:Int)<(b.length:Int):=hl;omega
 simp only[qn1,qvz,qql,qtf,ex,q8r hb hl,qat];by_cases h1:(S.encB l x).2=0
 ·rw[jaj (show (S.encB l x).2=Int.ofNat 0 from h1),jaa];obtain⟨_,gx,_,_⟩:=qrx h1;have hc:S.canonB x=(S.canonG x,S.numsG x,0):=by unfold S.canonB;rw[jam gx.formed]
  simp only[qpj,qss,ex,q8r hb hl,qat,rt1 h1,hc];have hs:S.sameGraphs ((S.canonG x:List qab × List DVal).1,(S.canonG x:List qab × List DVal).2) ((S.canonG x:List qab × List DVal).1,(S.canonG x:List qab × List DVal).2)=true:=jaj rfl;rw[hs];rfl
 ·rw[jai (show ¬(S.encB l x).2=Int.ofNat 0 from h1),jae]
end
theorem zte(hs:Con Try.prog 15 qiq):Con Try.prog q7j ⟨[.list cForm,cGraph,cGraph,.list (.int .u8)],[(false,.bool)],fun _=>some (true,())⟩ :=
 zh4 ⟨zmi,zhn,hs,zbq,zmz,zoo,zo1,zmd,q86,zt7,trivial⟩ fun x y hx h=>⟨LF,by
  obtain⟨l,g,k,(b:List Int),_⟩:=x;obtain⟨_,_,_,hwb,_⟩:=hx;have hb:Byt' b:=fun (v:Int) hv=>by have:=(qe1 .u8 v).1 (hwb.2 v hv);exact⟨this.1,by have h2:v<=255:=this.2;omega⟩
  exact(zop (l:=l) (x:=g) (y:=k) hb).trans h⟩
def exN:Ex:=fun _=>none
def isR(o:Option Res):Bool:=match o with
 | some r=>(match runR qiq r with
  | some y=>y.1
  | none=>false)
 | none=>false
theorem zd2{o:Option Res}(h:isR o=true):∃r,o=some r/\runR qiq r=some (true,()):=by
 cases o with
 | none=>cases h
 | some r =>
  refine⟨r,rfl,?_⟩;unfold isR at h;cases hr:runR qiq r with
  | none=>simp only[hr] at h;cases h
  | some y =>
   simp only[hr] at h;exact jca some (Prod.ext h rfl)
theorem zld:isR (qb2 Try.prog ttT.get ftT.get (fun _ _=>none) exN 1000 100 (.fn 15) [] S0)=true:=by kernel_rfl
theorem zdn:ExOK Try.prog exN:=⟨fun _ _ h=>(nomatch h),fun _ _ h=>(nomatch h),fun _ _ h=>(nomatch h)⟩
theorem zf9:Con Try.prog 15 qiq:=zgs (lf:=1000) qcq ttOK ftOK zdn zn0 fun x y h=>by
 obtain⟨r,h1,h2⟩:=zd2 zld;exact⟨100,1000,r,h1,h2.trans h⟩
theorem con_PackRoundTrip:Con Try.prog q7j ⟨[.list cForm,cGraph,cGraph,.list (.int .u8)],[(false,.bool)],fun _=>some (true,())⟩:=zte zf9
end Go.Proofs.Ytcnhjofpmpipfaa
end
